/- reply.Reader: what it is in memory; New, Dead, Take, Reset, Line. -/
import Derived.Test.YtghgiaokdbeepaaReplyD
import Derived.Test.YtghgiaokdbeepaaOwn
namespace Go.Proofs.Ytghgiaokdbeepaa
set_option linter.all false
open Go.RowKit

structure Rep where
  code : Int
  status : List UInt8
  lines : List (List UInt8)
def Rep.zero : Rep := ⟨0, [], []⟩
structure Rd where
  now : Rep
  last : Rep
  has : Bool
  dead : Bool
def Rd.zero : Rd := ⟨Rep.zero, Rep.zero, false, false⟩

structure RdAt (w : World) (B b : Nat) (v1 v2 : Value) (m : Rd) : Prop where
  obj : w.heap[b]? = some (.cells #[.int .i64 m.now.code, .string ⟨m.now.status.toArray⟩, v1, .int .i64 m.last.code, .string ⟨m.last.status.toArray⟩, v2, .bool m.has, .bool m.dead] 67 (0, 0))
  now : w.ownsRow B 9 1 v1 m.now.lines.length (m.now.lines.map str)
  last : w.ownsRow B 9 1 v2 m.last.lines.length (m.last.lines.map str)
  base : B ≤ b
  n1 : v1.ownBlock ≠ some b
  n2 : v2.ownBlock ≠ some b
  n12 : ∀ k, v1.ownBlock = some k → v2.ownBlock ≠ some k
def fp (b : Nat) (v1 v2 : Value) : List Nat := b :: (v1.ownBlock.toList ++ v2.ownBlock.toList)
/-- a reader: p points to it; F: the blocks that are its own -/
def RdOf (w : World) (B : Nat) (p : Value) (m : Rd) (F : List Nat) : Prop := ∃ b v1 v2, p = .pointer (some ⟨b, 0, none⟩) ∧ F = fp b v1 v2 ∧ RdAt w B b v1 v2 m

theorem row_shape {w : World} {B : Nat} {e : TypeId} {v : Value} {n : Nat} {xs : List Value} (h : w.ownsRow B e 1 v n xs) : ∃ a cap, v = .slice a n cap := by
  rcases h.2 with ⟨rfl, rfl⟩ | ⟨g, cap, cur, rfl, _⟩
  · exact ⟨_, _, rfl⟩
  · exact ⟨_, _, rfl⟩
theorem parse_err (l : List UInt8) : (parse l).err = 0 ∨ ((parse l) = badLine ∧ (parse l).err = 4) := by
  unfold parse
  split
  · exact .inr ⟨rfl, rfl⟩
  · split
    · exact .inl rfl
    · split
      · exact .inl rfl
      · exact .inr ⟨rfl, rfl⟩

theorem parse_text (l : List UInt8) : (parse l).text.length ≤ l.length := by
  unfold parse
  split
  · simp [badLine]
  · split
    · simp
    · split
      · simp
      · simp [badLine]
/-- what Line makes of a reader -/
def Rd.lineErr (m : Rd) (p : Parsed) : Int :=
  if p.err ≠ 0 then p.err else if m.now.lines ≠ [] ∧ p.code ≠ m.now.code then 4 else if m.now.lines.length = 32 then 40 else 0
def Rd.lineGo (m : Rd) (p : Parsed) : Rd × Bool × Int :=
  if m.lineErr p ≠ 0 then ({ m with now := Rep.zero, dead := true }, false, m.lineErr p)
  else if p.more then ({ m with now := ⟨p.code, m.now.status, m.now.lines ++ [p.text]⟩ }, false, 0)
  else ({ m with now := Rep.zero, last := ⟨p.code, status p.code p.text, m.now.lines ++ [p.text]⟩, has := true }, true, 0)
def Rd.line (m : Rd) (l : List UInt8) : Rd × Bool × Int :=
  if m.dead then (m, false, 7) else m.lineGo (parse l)
def doneV (x : Bool × Int) : Value := .tuple #[.bool x.1, .int .i64 x.2]

set_option maxHeartbeats 1000000 in
theorem line_dead (l : List UInt8) (w : World) (B b : Nat) (v1 v2 : Value) (m : Rd) (h : RdAt w B b v1 v2 m) (hd : m.dead = true) :
    Calls Try.prog 13 #[.pointer (some ⟨b, 0, none⟩), .string ⟨l.toArray⟩] w fun e w' => e = .returned (doneV (m.line l).2) ∧ w = w' := by
  have c7 : w.cell? ⟨b, 7, none⟩ = some (.bool true) := by rw [cell_at h.obj, hd]; rfl
  have E : (m.line l).2 = (false, 7) := by simp [Rd.line, hd]
  have E := Lib.hid E
  clear h
  go_enter Try.func13, Try.ntmps13
  go_wp2
  go_ret2
  exact ⟨by rw [E.out]; rfl, rfl⟩
set_option maxHeartbeats 1000000 in
theorem line_nil (l : List UInt8) (w : World) :
    Calls Try.prog 13 #[.pointer none, .string ⟨l.toArray⟩] w fun e w' => e = .returned (doneV (false, 2)) ∧ w = w' := by
  go_enter Try.func13, Try.ntmps13
  go_wp2
  go_ret2
  exact ⟨rfl, rfl⟩

theorem RdAt.kill {w : World} {B b : Nat} {v1 v2 : Value} {m : Rd} (h : RdAt w B b v1 v2 m) :
    RdAt ((((w.setCell ⟨b, 7, none⟩ (.bool true)).setCell ⟨b, 0, none⟩ (.int .i64 0)).setCell ⟨b, 1, none⟩ (.string ⟨#[]⟩)).setCell ⟨b, 2, none⟩ (.slice none 0 0)) B b (.slice none 0 0) v2 { m with now := Rep.zero, dead := true } := by
  refine ⟨?_, World.ownsRow_nil _ _ _ _, ?_, h.base, by simp [Value.ownBlock], h.n2, by simp [Value.ownBlock]⟩
  · have := set_cells (set_cells (set_cells (set_cells h.obj 7 (.bool true)) 0 (.int .i64 0)) 1 (.string ⟨#[]⟩)) 2 (.slice none 0 0)
    simpa [Rep.zero] using this
  · exact ownsRow_setCell_other (ownsRow_setCell_other (ownsRow_setCell_other (ownsRow_setCell_other h.last h.n2 _) h.n2 _) h.n2 _) h.n2 _
theorem RdAt.more {w1 w2 : World} {B b : Nat} {v1 v2 v' : Value} {m : Rd} {o : Obj} (h : RdAt w1 B b v1 v2 m) (hg : (w1.alloc o).grownBy w2 v1.ownBlock) (ss : List (List UInt8)) (hown : w2.ownsRow B 9 1 v' ss.length (ss.map str))
    (hf : ∀ k, v'.ownBlock = some k → v1.ownBlock = some k ∨ (w1.alloc o).heap.size ≤ k) (c : Int) :
    RdAt ((w2.setCell ⟨b, 0, none⟩ (.int .i64 c)).setCell ⟨b, 2, none⟩ v') B b v' v2 { m with now := ⟨c, m.now.status, ss⟩ } := by
  have hb := lt_of_block h.obj
  have n1 : v'.ownBlock ≠ some b := fun e => by
    rcases hf _ e with h' | h'
    · exact h.n1 h'
    · simp at h'; omega
  refine ⟨?_, ?_, ?_, h.base, n1, h.n2, ?_⟩
  · have := set_cells (set_cells (grown_obj hg (alloc_keeps h.obj o) h.n1) 0 (.int .i64 c)) 2 v'
    simpa using this
  · exact ownsRow_setCell_other (ownsRow_setCell_other hown n1 _) n1 _
  · have hk := (h.last.alloc o).kept hg (by
      cases hv : v2.ownBlock with
      | none => simp
      | some k => right; intro e; exact h.n12 k e.symm hv)
    exact ownsRow_setCell_other (ownsRow_setCell_other hk h.n2 _) h.n2 _
  · intro k hk hk2
    rcases hf _ hk with h' | h'
    · exact h.n12 k h' hk2
    · have := (h.last.lt k hk2).2
      simp at h'; omega
theorem RdAt.keep {w w' : World} {B b : Nat} {v1 v2 : Value} {m : Rd} {S : List Nat} (h : RdAt w B b v1 v2 m) (hc : Chg S w w') (hS : ∀ k, k ∈ fp b v1 v2 → k ∉ S) : RdAt w' B b v1 v2 m :=
  ⟨hc.obj h.obj (hS b (by simp [fp])), hc.row h.now (fun k hk => hS k (by simp [fp, hk])), hc.row h.last (fun k hk => hS k (by simp [fp, hk])), h.base, h.n1, h.n2, h.n12⟩
theorem RdAt.done {w : World} {B b : Nat} {v1 v2 : Value} {m : Rd} (h : RdAt w B b v1 v2 m) (st : List UInt8) :
    RdAt ((((((((w.setCell ⟨b, 1, none⟩ (.string ⟨st.toArray⟩)).setCell ⟨b, 3, none⟩ (.int .i64 m.now.code)).setCell ⟨b, 4, none⟩ (.string ⟨st.toArray⟩)).setCell ⟨b, 5, none⟩ v1).setCell ⟨b, 6, none⟩ (.bool true)).setCell ⟨b, 0, none⟩ (.int .i64 0)).setCell ⟨b, 1, none⟩ (.string ⟨#[]⟩)).setCell ⟨b, 2, none⟩ (.slice none 0 0)) B b (.slice none 0 0) v1
      { m with now := Rep.zero, last := ⟨m.now.code, st, m.now.lines⟩, has := true } := by
  refine ⟨?_, World.ownsRow_nil _ _ _ _, ?_, h.base, by simp [Value.ownBlock], h.n1, by simp [Value.ownBlock]⟩
  · have := set_cells (set_cells (set_cells (set_cells (set_cells (set_cells (set_cells (set_cells h.obj 1 (.string ⟨st.toArray⟩)) 3 (.int .i64 m.now.code)) 4 (.string ⟨st.toArray⟩)) 5 v1) 6 (.bool true)) 0 (.int .i64 0)) 1 (.string ⟨#[]⟩)) 2 (.slice none 0 0)
    simpa [Rep.zero] using this
  · exact ownsRow_setCell_other (ownsRow_setCell_other (ownsRow_setCell_other (ownsRow_setCell_other (ownsRow_setCell_other (ownsRow_setCell_other (ownsRow_setCell_other (ownsRow_setCell_other h.now h.n1 _) h.n1 _) h.n1 _) h.n1 _) h.n1 _) h.n1 _) h.n1 _) h.n1 _
theorem fp_nil (b n : Nat) (v2 : Value) {v1 : Value} : ∀ k, k ∈ fp b (.slice none 0 0) v2 → k ∈ fp b v1 v2 ∨ n ≤ k := by
  intro k hk; left; simp [fp, Value.ownBlock] at hk ⊢; rcases hk with h | h <;> simp [h]
theorem fp_fresh {b n N : Nat} {v1 v' v2 : Value} (hf : ∀ k, v'.ownBlock = some k → v1.ownBlock = some k ∨ N ≤ k) (hn : n ≤ N) : ∀ k, k ∈ fp b v' v2 → k ∈ fp b v1 v2 ∨ n ≤ k := by
  intro k hk
  simp only [fp, List.mem_cons, List.mem_append, Option.mem_toList] at hk ⊢
  rcases hk with h | h | h
  · exact .inl (.inl h)
  · rcases hf k h with h' | h'
    · exact .inl (.inr (.inl h'))
    · exact .inr (by omega)
  · exact .inl (.inr (.inr h))
theorem fp_b (b : Nat) (v1 v2 : Value) : b ∈ fp b v1 v2 := by simp [fp]

set_option maxHeartbeats 2000000 in
theorem line_live (l : List UInt8) (hs : l.length ≤ 1000000000) (w : World) (B b : Nat) (v1 v2 : Value) (m : Rd) (h : RdAt w B b v1 v2 m) (hd : m.dead = false) (hl : m.now.lines.length ≤ 1000000) :
    Calls Try.prog 13 #[.pointer (some ⟨b, 0, none⟩), .string ⟨l.toArray⟩] w fun e w' => e = .returned (doneV (m.line l).2) ∧
      ∃ v1' v2', RdAt w' B b v1' v2' (m.line l).1 ∧ Chg (fp b v1 v2) w w' ∧ ∀ k, k ∈ fp b v1' v2' → k ∈ fp b v1 v2 ∨ w.heap.size ≤ k := by
  have c7 : w.cell? ⟨b, 7, none⟩ = some (.bool false) := by rw [cell_at h.obj, hd]; rfl
  have E : m.line l = m.lineGo (parse l) := by simp [Rd.line, hd]
  have E := Lib.hid E
  obtain ⟨a1, cap1, rfl⟩ := row_shape h.now
  have H := Lib.hid h; clear h
  go_enter Try.func13, Try.ntmps13
  go_wp2_with fail
  refine (parse_any l _ (by unfold maxLen; omega)).mono ?_
  rintro e w1 ⟨rfl, hch⟩
  have H1 : RdAt w1 B b (.slice a1 m.now.lines.length cap1) v2 m := ⟨hch.obj H.out.obj (by simp), hch.row H.out.now (by simp), hch.row H.out.last (by simp), H.out.base, H.out.n1, H.out.n2, H.out.n12⟩
  have HC := Lib.hid hch; clear hch
  have d0 : w1.cell? ⟨b, 0, none⟩ = some (.int .i64 m.now.code) := by rw [cell_at H1.obj]; rfl
  have d1 : w1.cell? ⟨b, 1, none⟩ = some (.string ⟨m.now.status.toArray⟩) := by rw [cell_at H1.obj]; rfl
  have d2 : w1.cell? ⟨b, 2, none⟩ = some (.slice a1 m.now.lines.length cap1) := by rw [cell_at H1.obj]; rfl
  have d7 : w1.cell? ⟨b, 7, none⟩ = some (.bool false) := by rw [cell_at H1.obj, hd]; rfl
  have fr : ∀ o, w1.frozen? ⟨b, o, none⟩ = false := fun o => free_at H1.obj o
  have H1 := Lib.hid H1
  unfold parsedV
  have hpe := parse_err l
  rcases hpe with he | ⟨hb, he⟩
  · have he' : ((parse l).err == 0) = true := by rw [he]; rfl
    have he2 : ((parse l).err != 0) = false := by rw [he]; rfl
    have HE := Lib.hid he; clear he
    by_cases hmis : m.now.lines ≠ [] ∧ (parse l).code ≠ m.now.code
    · have hlen : 0 < m.now.lines.length := List.length_pos_iff.2 hmis.1
      have hcode : ((parse l).code != m.now.code) = true := by simp [hmis.2]
      have X : m.lineErr (parse l) = 4 := by simp [Rd.lineErr, HE.out, hmis]
      have X := Lib.hid X
      clear hmis
      go_wp2
      go_ret2
      have Y : m.lineGo (parse l) = ({ m with now := Rep.zero, dead := true }, false, 4) := by simp [Rd.lineGo, X.out]
      refine ⟨by rw [E.out, Y]; rfl, _, _, by rw [E.out, Y]; exact H1.out.kill, ?_, fp_nil _ _ _⟩
      exact ((((Chg.refl (fp b _ _) w).pure HC.out).setB (fp_b _ _ _) _ _).setB (fp_b _ _ _) _ _ |>.setB (fp_b _ _ _) _ _).setB (fp_b _ _ _) _ _
    · by_cases hfull : m.now.lines.length = 32
      · have hfull' : ((m.now.lines.length : Int) == 32) = true := by simp [hfull]
        have hne : m.now.lines ≠ [] := by intro h; rw [h] at hfull; simp at hfull
        have hcode : ((parse l).code != m.now.code) = false := by simpa [hne] using hmis
        have hlen : 0 < m.now.lines.length := by omega
        have X : m.lineErr (parse l) = 40 := by simp only [Rd.lineErr, HE.out, if_neg hmis, hfull]; simp
        have X := Lib.hid X
        clear hmis hne hfull
        go_wp2
        go_ret2
        have Y : m.lineGo (parse l) = ({ m with now := Rep.zero, dead := true }, false, 40) := by simp [Rd.lineGo, X.out]
        refine ⟨by rw [E.out, Y]; rfl, _, _, by rw [E.out, Y]; exact H1.out.kill, ?_, fp_nil _ _ _⟩
        exact ((((Chg.refl (fp b _ _) w).pure HC.out).setB (fp_b _ _ _) _ _).setB (fp_b _ _ _) _ _ |>.setB (fp_b _ _ _) _ _).setB (fp_b _ _ _) _ _
      · have hfull' : ((m.now.lines.length : Int) == 32) = false := by simp; omega
        have X : m.lineErr (parse l) = 0 := by simp only [Rd.lineErr, HE.out, if_neg hmis, hfull]; simp
        have X := Lib.hid X
        clear hfull
        have HT : (parse l).text.length ≤ 1000000000 := Nat.le_trans (parse_text l) hs
        have hb : (0 < m.now.lines.length ∧ ((parse l).code != m.now.code) = false) ∨ ¬ 0 < m.now.lines.length := by
          by_cases hlen : 0 < m.now.lines.length
          · have hne : m.now.lines ≠ [] := List.length_pos_iff.1 hlen
            exact .inl ⟨hlen, by simpa [hne] using hmis⟩
          · exact .inr hlen
        have HBS : Hid (B ≤ w1.heap.size) := by have := lt_of_block H1.out.obj; have := H1.out.base; unfold Hid; omega
        clear hmis
        rcases hb with ⟨hlen, hcode⟩ | hlen
        all_goals
          go_wp2_with (at_builtin; refine wpList_append_str rfl _ _ rfl B _ m.now.lines (parse l).text rfl (H1.out.now.alloc _) w1.heap.size rfl (by rw [cell_at (heap_alloc_new _ _)]; rfl) (by omega) (Nat.le_trans HBS.out (by simp)) ?_)
          intro v' w2 hown' hgr hfr
          obtain ⟨a5, cap5, rfl⟩ := row_shape hown'
          have H2 := grown_obj hgr (alloc_keeps H1.out.obj _) H1.out.n1
          have M2 := Lib.hid (H1.out.more hgr (m.now.lines ++ [(parse l).text]) (by simpa using hown') (by simpa using hfr) (parse l).code)
          have C2 := Lib.hid ((((HC.out.weak (T := fp b (.slice a1 m.now.lines.length cap1) v2) (by simp)).alloc (.cells #[.string ⟨(parse l).text.toArray⟩] 9)).grown hgr (fun k hk _ => by unfold fp; rw [hk]; simp)))
          have HF := Lib.hid hfr; clear hfr hown' hgr d0 d1 d2 d7 fr
          have e0 : w2.cell? ⟨b, 0, none⟩ = some (.int .i64 m.now.code) := by rw [cell_at H2]; rfl
          have e1 : w2.cell? ⟨b, 1, none⟩ = some (.string ⟨m.now.status.toArray⟩) := by rw [cell_at H2]; rfl
          have e2 : w2.cell? ⟨b, 2, none⟩ = some (.slice a1 m.now.lines.length cap1) := by rw [cell_at H2]; rfl
          have fr : ∀ o, w2.frozen? ⟨b, o, none⟩ = false := fun o => free_at H2 o
          have H2 := Lib.hid H2
          cases hmore : (parse l).more
          · go_wp2_with fail
            refine (status_any (parse l).code (parse l).text _ HT).mono ?_
            rintro e w4 ⟨rfl, hch4⟩
            have M4 := M2.out.keep hch4 (by simp)
            have g0 : w4.cell? ⟨b, 0, none⟩ = some (.int .i64 (parse l).code) := by rw [cell_at M4.obj]; rfl
            have g1 : w4.cell? ⟨b, 1, none⟩ = some (.string ⟨m.now.status.toArray⟩) := by rw [cell_at M4.obj]; rfl
            have g2 : w4.cell? ⟨b, 2, none⟩ = some (.slice a5 (m.now.lines.length + 1) cap5) := by rw [cell_at M4.obj]; rfl
            have g3 : w4.cell? ⟨b, 3, none⟩ = some (.int .i64 m.last.code) := by rw [cell_at M4.obj]; rfl
            have g4 : w4.cell? ⟨b, 4, none⟩ = some (.string ⟨m.last.status.toArray⟩) := by rw [cell_at M4.obj]; rfl
            have g5 : w4.cell? ⟨b, 5, none⟩ = some v2 := by rw [cell_at M4.obj]; rfl
            have g6 : w4.cell? ⟨b, 6, none⟩ = some (.bool m.has) := by rw [cell_at M4.obj]; rfl
            have g7 : ∀ o, w4.frozen? ⟨b, o, none⟩ = false := fun o => free_at M4.obj o
            have M4 := Lib.hid M4
            have C4 := Lib.hid (((C2.out.setB (fp_b _ _ _) 0 (.int .i64 (parse l).code)).setB (fp_b _ _ _) 2 (.slice a5 (m.now.lines.length + 1) cap5)).pure hch4)
            clear hch4 e0 e1 e2 fr
            go_wp2
            go_ret2
            have Y : m.lineGo (parse l) = ({ m with now := Rep.zero, last := ⟨(parse l).code, status (parse l).code (parse l).text, m.now.lines ++ [(parse l).text]⟩, has := true }, true, 0) := by simp [Rd.lineGo, X.out, hmore]
            refine ⟨by rw [E.out, Y]; rfl, _, _, by rw [E.out, Y]; exact M4.out.done _, ?_, ?_⟩
            · exact ((((((((C4.out.setB (fp_b _ _ _) _ _).setB (fp_b _ _ _) _ _).setB (fp_b _ _ _) _ _).setB (fp_b _ _ _) _ _).setB (fp_b _ _ _) _ _).setB (fp_b _ _ _) _ _).setB (fp_b _ _ _) _ _).setB (fp_b _ _ _) _ _)
            · intro k hk
              refine (fp_fresh HF.out (n := w.heap.size) (by have := HC.out.size; omega) (v2 := v2) k ?_)
              simp [fp, Value.ownBlock] at hk ⊢
              rcases hk with h | h
              · exact .inl h
              · exact .inr (.inl h)
          · go_wp2
            go_ret2
            have Y : m.lineGo (parse l) = ({ m with now := ⟨(parse l).code, m.now.status, m.now.lines ++ [(parse l).text]⟩ }, false, 0) := by simp [Rd.lineGo, X.out, hmore]
            refine ⟨by rw [E.out, Y]; rfl, _, _, by rw [E.out, Y]; exact M2.out, ((C2.out.setB (fp_b _ _ _) _ _).setB (fp_b _ _ _) _ _), ?_⟩
            exact fp_fresh HF.out (by have := HC.out.size; simp; omega)
  · have he' : ((parse l).err == 0) = false := by rw [he]; rfl
    have he2 : ((parse l).err != 0) = true := by rw [he]; rfl
    have HB := Lib.hid hb; clear hb
    have HE := Lib.hid he; clear he
    go_wp2
    go_ret2
    have X : m.lineErr (parse l) = 4 := by simp [Rd.lineErr, HE.out]
    have Y : m.lineGo (parse l) = ({ m with now := Rep.zero, dead := true }, false, 4) := by simp [Rd.lineGo, X]
    refine ⟨by rw [E.out, Y, HE.out]; rfl, _, _, by rw [E.out, Y]; exact H1.out.kill, ?_, fp_nil _ _ _⟩
    exact ((((Chg.refl (fp b _ _) w).pure HC.out).setB (fp_b _ _ _) _ _).setB (fp_b _ _ _) _ _ |>.setB (fp_b _ _ _) _ _).setB (fp_b _ _ _) _ _
end Go.Proofs.Ytghgiaokdbeepaa
