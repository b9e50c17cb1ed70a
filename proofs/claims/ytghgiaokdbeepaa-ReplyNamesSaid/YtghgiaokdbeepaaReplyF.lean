/- reply.Reader: New, Dead, Take, Reset; Line in one form. -/
import Derived.Test.YtghgiaokdbeepaaReplyE
import Derived.Test.YtghgiaokdbeepaaStrs
namespace Go.Proofs.Ytghgiaokdbeepaa
set_option linter.all false
open Go.RowKit

def str0 : Value := .string ⟨#[]⟩
theorem RdOf.keep {w w' : World} {B : Nat} {p : Value} {m : Rd} {F S : List Nat} (h : RdOf w B p m F) (hc : Chg S w w') (hS : ∀ k, k ∈ F → k ∉ S) : RdOf w' B p m F := by
  obtain ⟨b, v1, v2, rfl, rfl, h⟩ := h
  exact ⟨b, v1, v2, rfl, rfl, h.keep hc hS⟩
theorem RdOf.lt {w : World} {B : Nat} {p : Value} {m : Rd} {F : List Nat} (h : RdOf w B p m F) : ∀ k, k ∈ F → B ≤ k ∧ k < w.heap.size := by
  obtain ⟨b, v1, v2, rfl, rfl, h⟩ := h
  intro k hk
  simp only [fp, List.mem_cons, List.mem_append, Option.mem_toList] at hk
  rcases hk with rfl | hk | hk
  · exact ⟨h.base, lt_of_block h.obj⟩
  · exact h.now.lt k hk
  · exact h.last.lt k hk

theorem line_any (l : List UInt8) (hs : l.length ≤ 1000000000) (w : World) (B : Nat) (p : Value) (m : Rd) (F : List Nat) (h : RdOf w B p m F) (hl : m.now.lines.length ≤ 1000000) :
    Calls Try.prog 13 #[p, .string ⟨l.toArray⟩] w fun e w' => e = .returned (doneV (m.line l).2) ∧
      ∃ F', RdOf w' B p (m.line l).1 F' ∧ Chg F w w' ∧ ∀ k, k ∈ F' → k ∈ F ∨ w.heap.size ≤ k := by
  obtain ⟨b, v1, v2, rfl, rfl, h⟩ := h
  cases hd : m.dead
  · refine (line_live l hs w B b v1 v2 m h hd hl).mono ?_
    rintro e w' ⟨rfl, v1', v2', h', hc, hf⟩
    exact ⟨rfl, _, ⟨b, v1', v2', rfl, rfl, h'⟩, hc, hf⟩
  · refine (line_dead l w B b v1 v2 m h hd).mono ?_
    rintro e w' ⟨rfl, rfl⟩
    have E : (m.line l).1 = m := by simp [Rd.line, hd]
    exact ⟨rfl, _, by rw [E]; exact ⟨b, v1, v2, rfl, rfl, h⟩, Chg.refl _ _, fun k hk => .inl hk⟩

theorem new_any (w : World) (B : Nat) (hB : B ≤ w.heap.size) :
    Calls Try.prog 12 #[] w fun e w' => ∃ p F, e = .returned p ∧ RdOf w' B p Rd.zero F ∧ Chg [] w w' ∧ (∀ k, k ∈ F → w.heap.size ≤ k) ∧ ∃ a, p = .pointer (some a) := by
  go_enter Try.func12, Try.ntmps12
  go_wp2
  go_ret
  refine ⟨_, fp w.heap.size (.slice none 0 0) (.slice none 0 0), rfl, ⟨w.heap.size, .slice none 0 0, .slice none 0 0, rfl, rfl, ?_⟩, (Chg.refl _ _).alloc _, by simp [fp, Value.ownBlock], _, rfl⟩
  exact ⟨by rw [heap_alloc_new]; rfl, World.ownsRow_nil _ _ _ _, World.ownsRow_nil _ _ _ _, hB, by simp [Value.ownBlock], by simp [Value.ownBlock], by simp [Value.ownBlock]⟩

theorem dead_any (w : World) (B : Nat) (p : Value) (m : Rd) (F : List Nat) (h : RdOf w B p m F) :
    Calls Try.prog 19 #[p] w fun e w' => e = .returned (.bool m.dead) ∧ w = w' := by
  obtain ⟨b, v1, v2, rfl, rfl, h⟩ := h
  have c7 : w.cell? ⟨b, 7, none⟩ = some (.bool m.dead) := by rw [cell_at h.obj]; rfl
  clear h
  go_enter Try.func19, Try.ntmps19
  go_wp2
  go_ret
  exact ⟨rfl, rfl⟩
theorem dead_nil (w : World) :
    Calls Try.prog 19 #[.pointer none] w fun e w' => e = .returned (.bool false) ∧ w = w' := by
  go_enter Try.func19, Try.ntmps19
  go_wp2
  go_ret
  exact ⟨rfl, rfl⟩

theorem reset_any (w : World) (B : Nat) (p : Value) (m : Rd) (F : List Nat) (h : RdOf w B p m F) :
    Calls Try.prog 25 #[p] w fun e w' => e = .returned (.tuple #[]) ∧ ∃ F', RdOf w' B p Rd.zero F' ∧ Chg F w w' ∧ ∀ k, k ∈ F' → k ∈ F := by
  obtain ⟨b, v1, v2, rfl, rfl, h⟩ := h
  have c0 : w.cell? ⟨b, 0, none⟩ = some (.int .i64 m.now.code) := by rw [cell_at h.obj]; rfl
  have c1 : w.cell? ⟨b, 1, none⟩ = some (.string ⟨m.now.status.toArray⟩) := by rw [cell_at h.obj]; rfl
  have c2 : w.cell? ⟨b, 2, none⟩ = some v1 := by rw [cell_at h.obj]; rfl
  have c3 : w.cell? ⟨b, 3, none⟩ = some (.int .i64 m.last.code) := by rw [cell_at h.obj]; rfl
  have c4 : w.cell? ⟨b, 4, none⟩ = some (.string ⟨m.last.status.toArray⟩) := by rw [cell_at h.obj]; rfl
  have c5 : w.cell? ⟨b, 5, none⟩ = some v2 := by rw [cell_at h.obj]; rfl
  have c6 : w.cell? ⟨b, 6, none⟩ = some (.bool m.has) := by rw [cell_at h.obj]; rfl
  have c7 : w.cell? ⟨b, 7, none⟩ = some (.bool m.dead) := by rw [cell_at h.obj]; rfl
  have fr : ∀ o, w.frozen? ⟨b, o, none⟩ = false := fun o => free_at h.obj o
  have H := Lib.hid h; clear h
  go_enter Try.func25, Try.ntmps25
  go_wp2
  go_end0
  refine ⟨rfl, fp b (.slice none 0 0) (.slice none 0 0), ⟨b, .slice none 0 0, .slice none 0 0, rfl, rfl, ?_⟩, ?_, by simp [fp, Value.ownBlock]⟩
  · refine ⟨?_, World.ownsRow_nil _ _ _ _, World.ownsRow_nil _ _ _ _, H.out.base, by simp [Value.ownBlock], by simp [Value.ownBlock], by simp [Value.ownBlock]⟩
    have := set_cells (set_cells (set_cells (set_cells (set_cells (set_cells (set_cells (set_cells H.out.obj 0 (.int .i64 0)) 1 (.string ⟨#[]⟩)) 2 (.slice none 0 0)) 3 (.int .i64 0)) 4 (.string ⟨#[]⟩)) 5 (.slice none 0 0)) 6 (.bool false)) 7 (.bool false)
    simpa [Rd.zero, Rep.zero] using this
  · exact ((((((((Chg.refl (fp b v1 v2) w).setB (fp_b _ _ _) _ _).setB (fp_b _ _ _) _ _).setB (fp_b _ _ _) _ _).setB (fp_b _ _ _) _ _).setB (fp_b _ _ _) _ _).setB (fp_b _ _ _) _ _).setB (fp_b _ _ _) _ _).setB (fp_b _ _ _) _ _
theorem reset_nil (w : World) :
    Calls Try.prog 25 #[.pointer none] w fun e w' => e = .returned (.tuple #[]) ∧ w = w' := by
  go_enter Try.func25, Try.ntmps25
  go_wp2
  go_end0
  exact ⟨rfl, rfl⟩

/-- a reply as a value -/
def RepOf (w : World) (B : Nat) (v : Value) (x : Rep) (G : List Nat) : Prop :=
  ∃ s, v = .agg #[.int .i64 x.code, .string ⟨x.status.toArray⟩, s] ∧ w.ownsRow B 9 1 s x.lines.length (x.lines.map str) ∧ G = s.ownBlock.toList
theorem RepOf.keep {w w' : World} {B : Nat} {v : Value} {x : Rep} {G S : List Nat} (h : RepOf w B v x G) (hc : Chg S w w') (hS : ∀ k, k ∈ G → k ∉ S) : RepOf w' B v x G := by
  obtain ⟨s, rfl, h, rfl⟩ := h
  exact ⟨s, rfl, hc.row h (fun k hk => hS k (by simp [hk])), rfl⟩
theorem RepOf.lt {w : World} {B : Nat} {v : Value} {x : Rep} {G : List Nat} (h : RepOf w B v x G) : ∀ k, k ∈ G → B ≤ k ∧ k < w.heap.size := by
  obtain ⟨s, rfl, h, rfl⟩ := h
  intro k hk
  exact h.lt k (by simpa using hk)
def Rd.taken (m : Rd) : Rep := if m.has then m.last else Rep.zero
def Rd.take (m : Rd) : Rd := if m.has then { m with last := Rep.zero, has := false } else m

theorem RdAt.takeW {w : World} {B b : Nat} {v1 v2 : Value} {m : Rd} (h : RdAt w B b v1 v2 m) :
    RdAt ((((w.setCell ⟨b, 3, none⟩ (.int .i64 0)).setCell ⟨b, 4, none⟩ (.string ⟨#[]⟩)).setCell ⟨b, 5, none⟩ (.slice none 0 0)).setCell ⟨b, 6, none⟩ (.bool false)) B b v1 (.slice none 0 0) { m with last := Rep.zero, has := false } ∧
    ((((w.setCell ⟨b, 3, none⟩ (.int .i64 0)).setCell ⟨b, 4, none⟩ (.string ⟨#[]⟩)).setCell ⟨b, 5, none⟩ (.slice none 0 0)).setCell ⟨b, 6, none⟩ (.bool false)).ownsRow B 9 1 v2 m.last.lines.length (m.last.lines.map str) := by
  refine ⟨⟨?_, ?_, World.ownsRow_nil _ _ _ _, h.base, h.n1, by simp [Value.ownBlock], by simp [Value.ownBlock]⟩, ?_⟩
  · have := set_cells (set_cells (set_cells (set_cells h.obj 3 (.int .i64 0)) 4 (.string ⟨#[]⟩)) 5 (.slice none 0 0)) 6 (.bool false)
    simpa [Rep.zero] using this
  · exact ownsRow_setCell_other (ownsRow_setCell_other (ownsRow_setCell_other (ownsRow_setCell_other h.now h.n1 _) h.n1 _) h.n1 _) h.n1 _
  · exact ownsRow_setCell_other (ownsRow_setCell_other (ownsRow_setCell_other (ownsRow_setCell_other h.last h.n2 _) h.n2 _) h.n2 _) h.n2 _

set_option maxHeartbeats 1000000 in
theorem take_any (w : World) (B : Nat) (p : Value) (m : Rd) (F : List Nat) (h : RdOf w B p m F) :
    Calls Try.prog 16 #[p] w fun e w' => ∃ v G F', e = .returned (.tuple #[v, .bool m.has]) ∧ RepOf w' B v m.taken G ∧ RdOf w' B p m.take F' ∧ Chg F w w' ∧
      (∀ k, k ∈ F' → k ∈ F) ∧ (∀ k, k ∈ G → k ∈ F) ∧ (∀ k, k ∈ G → k ∉ F') := by
  obtain ⟨b, v1, v2, rfl, rfl, h⟩ := h
  have c6 : w.cell? ⟨b, 6, none⟩ = some (.bool m.has) := by rw [cell_at h.obj]; rfl
  have hb := lt_of_block h.obj
  cases hh : m.has
  · rw [hh] at c6
    have E1 : m.taken = Rep.zero := by simp [Rd.taken, hh]
    have E2 : m.take = m := by simp [Rd.take, hh]
    have E1 := Lib.hid E1
    have E2 := Lib.hid E2
    have H := Lib.hid h; clear h
    go_enter Try.func16, Try.ntmps16
    go_wp2
    go_returns
    refine ⟨_, [], _, rfl, ⟨.slice none 0 0, by rw [E1.out]; rfl, ?_, rfl⟩, ⟨b, v1, v2, rfl, rfl, ?_⟩, (Chg.refl _ _).alloc _, fun k h => h, by simp, by simp⟩
    · rw [E1.out]; exact World.ownsRow_nil _ _ _ _
    · rw [E2.out]; exact H.out.keep ((Chg.refl [] _).alloc _) (by simp)
  · rw [hh] at c6
    have c3 : w.cell? ⟨b, 3, none⟩ = some (.int .i64 m.last.code) := by rw [cell_at h.obj]; rfl
    have c4 : w.cell? ⟨b, 4, none⟩ = some (.string ⟨m.last.status.toArray⟩) := by rw [cell_at h.obj]; rfl
    have c5 : w.cell? ⟨b, 5, none⟩ = some v2 := by rw [cell_at h.obj]; rfl
    have fr : ∀ o, w.frozen? ⟨b, o, none⟩ = false := fun o => free_at h.obj o
    obtain ⟨a2, cap2, rfl⟩ := row_shape h.last
    have H := Lib.hid h; clear h
    go_enter Try.func16, Try.ntmps16
    go_wp2
    go_returns
    have E1 : m.taken = m.last := by simp [Rd.taken, hh]
    have E2 : m.take = { m with last := Rep.zero, has := false } := by simp [Rd.take, hh]
    have K := H.out.takeW
    refine ⟨_, _, _, rfl, ⟨.slice a2 m.last.lines.length cap2, by rw [E1], ?_, rfl⟩, ⟨b, v1, .slice none 0 0, rfl, rfl, ?_⟩, (((((((Chg.refl (fp b v1 _) w).setB (fp_b _ _ _) _ _).setB (fp_b _ _ _) _ _).setB (fp_b _ _ _) _ _).setB (fp_b _ _ _) _ _).alloc _).alloc _), ?_, ?_, ?_⟩
    · rw [E1]; exact ((K.2.alloc _).alloc _)
    · rw [E2]; exact K.1.keep (((Chg.refl [] _).alloc _).alloc _) (by simp)
    · intro k hk; simp [fp, Value.ownBlock] at hk ⊢; rcases hk with h | h <;> simp [h]
    · intro k hk; simp [fp] at hk ⊢; simp [hk]
    · intro k hk; simp [fp] at hk ⊢
      refine ⟨fun e => H.out.n2 (by rw [hk, e]), fun e => H.out.n12 k e hk, by simp [Value.ownBlock]⟩
end Go.Proofs.Ytghgiaokdbeepaa
