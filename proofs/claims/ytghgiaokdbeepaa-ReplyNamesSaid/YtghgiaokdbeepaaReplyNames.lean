/- ReplyNames: the walk. -/
import Derived.Test.YtghgiaokdbeepaaReplyQ
namespace Go.Proofs.Ytghgiaokdbeepaa
set_option linter.all false
open Go.RowKit

theorem Own.litCell {w0 w : World} {L : List Piece} {b : Nat} {ss : List (List UInt8)} {ty : TypeId} (O : Own w0 w (box b (ss.map str).toArray ty :: L)) (k : Nat) (hk : k < ss.length) : w.cell? ⟨b, k, none⟩ = some (.string ⟨ss[k].toArray⟩) := by
  rw [O.cell k]; simp [hk, str]
theorem take_nil (w : World) :
    Calls Try.prog 16 #[.pointer none] w fun e w' => e = .returned (.tuple #[.agg #[.int .i64 0, .string ⟨#[]⟩, .slice none 0 0], .bool false]) ∧ Chg [] w w' := by
  go_enter Try.func16, Try.ntmps16
  go_wp2
  go_returns
  exact ⟨rfl, (Chg.refl _ _).alloc _⟩
theorem copy_nil (w : World) : Calls Try.prog 20 #[.pointer none] w fun e w' => e = .returned (.pointer none) ∧ w = w' := by
  go_enter Try.func20, Try.ntmps20
  go_wp2
  go_ret
  exact ⟨rfl, rfl⟩

/-- the lines that are none -/
def rnBad : List (List UInt8) := [[], [50], [50, 53], [49, 57, 57], [54, 48, 48, 32, 120], [50, 57, 57], [50, 97, 48, 32, 120], [50, 48, 97, 32, 120], [50, 53, 48, 9, 120], [50, 53, 48, 32, 1], [50, 53, 48, 45, 127], [50, 53, 48, 32, 128], [50, 53, 48, 32, 97, 13], [32, 50, 53, 48, 32, 120], [45, 50, 53, 48]]
theorem rnBad_is (k : Nat) (h : k < 15) : parse (rnBad[k]'h) = badLine ∧ (rnBad[k]'h).length ≤ 1000 := by
  obtain rfl | rfl | rfl | rfl | rfl | rfl | rfl | rfl | rfl | rfl | rfl | rfl | rfl | rfl | rfl : k = 0 ∨ k = 1 ∨ k = 2 ∨ k = 3 ∨ k = 4 ∨ k = 5 ∨ k = 6 ∨ k = 7 ∨ k = 8 ∨ k = 9 ∨ k = 10 ∨ k = 11 ∨ k = 12 ∨ k = 13 ∨ k = 14 := by omega
  all_goals exact ⟨by kernel_rfl, by simp [rnBad]⟩
structure Ex5 where
  s : List UInt8
  c : Int
  m : Bool
  t : List UInt8
def Ex5.cells (x : Ex5) : List Value := [.string ⟨x.s.toArray⟩, .int .i64 x.c, .bool x.m, .string ⟨x.t.toArray⟩]
def rnOk : List Ex5 := [⟨[50, 48, 48], 200, false, []⟩, ⟨[53, 53, 57, 32], 559, false, []⟩, ⟨[51, 53, 52, 45], 354, true, []⟩, ⟨[50, 53, 48, 32, 32, 97], 250, false, [32, 97]⟩, ⟨[52, 50, 49, 32, 126, 9, 33], 421, false, [126, 9, 33]⟩, ⟨[50, 53, 48, 45, 45], 250, true, [45]⟩]
theorem rnOk_is (k : Nat) (h : k < 6) : parse (rnOk[k]'h).s = ⟨(rnOk[k]'h).c, (rnOk[k]'h).m, (rnOk[k]'h).t, 0⟩ ∧ (rnOk[k]'h).s.length ≤ 1000 := by
  obtain rfl | rfl | rfl | rfl | rfl | rfl : k = 0 ∨ k = 1 ∨ k = 2 ∨ k = 3 ∨ k = 4 ∨ k = 5 := by omega
  all_goals exact ⟨by kernel_rfl, by simp [rnOk]⟩
theorem rnOk_cell (k : Nat) (h : k < 6) : (rnOk.flatMap Ex5.cells).toArray[k * 4]? = some (.string ⟨(rnOk[k]'h).s.toArray⟩) ∧ (rnOk.flatMap Ex5.cells).toArray[k * 4 + 1]? = some (.int .i64 (rnOk[k]'h).c) ∧
    (rnOk.flatMap Ex5.cells).toArray[k * 4 + 2]? = some (.bool (rnOk[k]'h).m) ∧ (rnOk.flatMap Ex5.cells).toArray[k * 4 + 3]? = some (.string ⟨(rnOk[k]'h).t.toArray⟩) := by
  obtain rfl | rfl | rfl | rfl | rfl | rfl : k = 0 ∨ k = 1 ∨ k = 2 ∨ k = 3 ∨ k = 4 ∨ k = 5 := by omega
  all_goals exact ⟨rfl, rfl, rfl, rfl⟩

/-- rows of two, each in a block of its own, and the slice of them -/
def pairsW (ty : TypeId) : List (Value × Value) → World → World
  | [], w => w
  | p :: l, w => pairsW ty l (w.alloc (.cells #[p.1, p.2] ty))
theorem pairsW_chg (ty : TypeId) : ∀ (l : List (Value × Value)) (w : World), Chg [] w (pairsW ty l w)
  | [], w => Chg.refl _ _
  | p :: l, w => ((Chg.refl [] w).alloc _).pure (pairsW_chg ty l _)
theorem pairsW_size (ty : TypeId) : ∀ (l : List (Value × Value)) (w : World), (pairsW ty l w).heap.size = w.heap.size + l.length
  | [], w => rfl
  | p :: l, w => by rw [pairsW, pairsW_size ty l]; simp; omega
theorem pairsW_at (ty : TypeId) : ∀ (l : List (Value × Value)) (w : World) (k : Nat) (h : k < l.length), (pairsW ty l w).cell? ⟨w.heap.size + k, 0, none⟩ = some (l[k]'h).1 ∧ (pairsW ty l w).cell? ⟨w.heap.size + k, 1, none⟩ = some (l[k]'h).2
  | p :: l, w, 0, _ => by
    have hb := heap_alloc_new w (.cells #[p.1, p.2] ty)
    exact ⟨(pairsW_chg ty l _).cell (p := ⟨w.heap.size + 0, 0, none⟩) (by rw [Nat.add_zero, cell_at hb]; rfl) (by simp), (pairsW_chg ty l _).cell (p := ⟨w.heap.size + 0, 1, none⟩) (by rw [Nat.add_zero, cell_at hb]; rfl) (by simp)⟩
  | p :: l, w, k + 1, h => by
    have := pairsW_at ty l (w.alloc (.cells #[p.1, p.2] ty)) k (by simpa using h)
    have e : (w.alloc (.cells #[p.1, p.2] ty)).heap.size + k = w.heap.size + (k + 1) := by simp; omega
    rw [e] at this
    exact this
def rnS : List (List UInt8 × List UInt8) := [([50, 53, 48, 32, 50, 46, 48, 46, 48], [50, 46, 48, 46, 48]), ([50, 53, 48, 32, 50, 46, 49, 48, 46, 57, 57, 57, 32, 120], [50, 46, 49, 48, 46, 57, 57, 57]), ([50, 53, 48, 32, 50, 46, 48, 49, 46, 48, 32, 120], []), ([50, 53, 48, 32, 50, 46, 48, 46, 49, 48, 48, 48, 32, 120], []), ([50, 53, 48, 32, 50, 46, 48], []), ([50, 53, 48, 32, 50, 46, 48, 46], []), ([50, 53, 48, 32, 50, 46, 46, 48], []), ([50, 53, 48, 32, 50, 46, 48, 46, 48, 120], []), ([50, 53, 48, 32, 50, 46, 48, 46, 48, 9, 120], []), ([51, 53, 52, 32, 51, 46, 48, 46, 48, 32, 120], []), ([53, 53, 48, 32, 53, 46, 55, 46, 51, 48, 32, 120], [53, 46, 55, 46, 51, 48]), ([50, 53, 48, 32, 32, 50, 46, 48, 46, 48], []), ([50, 53, 48, 32, 50, 50, 46, 48, 46, 48, 32, 120], []), ([52, 53, 48], [])]
def sv (p : List UInt8 × List UInt8) : Value × Value := (.string ⟨p.1.toArray⟩, .string ⟨p.2.toArray⟩)
def iv2 (p : Int × Int) : Value × Value := (.int .i64 p.1, .int .i64 p.2)
def rnC : List (Int × Int) := [(199, 0), (200, 2), (299, 2), (599, 5), (600, 0), (-250, 0), (0, 0), (354, 3)]
theorem rnS_is (k : Nat) (h : k < 14) : statOf (rnS[k]'h).1 = (rnS[k]'h).2 ∧ (rnS[k]'h).1.length ≤ 1000 := by
  obtain rfl | rfl | rfl | rfl | rfl | rfl | rfl | rfl | rfl | rfl | rfl | rfl | rfl | rfl : k = 0 ∨ k = 1 ∨ k = 2 ∨ k = 3 ∨ k = 4 ∨ k = 5 ∨ k = 6 ∨ k = 7 ∨ k = 8 ∨ k = 9 ∨ k = 10 ∨ k = 11 ∨ k = 12 ∨ k = 13 := by omega
  all_goals exact ⟨by kernel_rfl, by simp [rnS]⟩
theorem rnC_is (k : Nat) (h : k < 8) : classOf (rnC[k]'h).1 = (rnC[k]'h).2 := by
  obtain rfl | rfl | rfl | rfl | rfl | rfl | rfl | rfl : k = 0 ∨ k = 1 ∨ k = 2 ∨ k = 3 ∨ k = 4 ∨ k = 5 ∨ k = 6 ∨ k = 7 := by omega
  all_goals kernel_rfl
def RowsAt (w : World) (B b : Nat) (l : List (Value × Value)) : Prop := ∀ k (h : k < l.length), w.cell? ⟨B, k, none⟩ = some (.slice (some ⟨b + k, 0, none⟩) 2 2) ∧ w.cell? ⟨b + k, 0, none⟩ = some (l[k]'h).1 ∧ w.cell? ⟨b + k, 1, none⟩ = some (l[k]'h).2
theorem RowsAt.keep {w w' : World} {B b : Nat} {l : List (Value × Value)} (h : RowsAt w B b l) (c : Chg [] w w') : RowsAt w' B b l := fun k hk =>
  ⟨c.cell (h k hk).1 (by simp), c.cell (h k hk).2.1 (by simp), c.cell (h k hk).2.2 (by simp)⟩
def rowsOf (b n : Nat) : Array Value := ((List.range n).map fun k => Value.slice (some ⟨b + k, 0, none⟩) 2 2).toArray
theorem rowsAt_new (ty ty2 : TypeId) (l : List (Value × Value)) (w : World) : RowsAt ((pairsW ty l w).alloc (.cells (rowsOf w.heap.size l.length) ty2)) (pairsW ty l w).heap.size w.heap.size l := fun k hk => by
  refine ⟨?_, ?_⟩
  · rw [cell_at (heap_alloc_new _ _)]; simp [rowsOf, hk]
  · have := pairsW_at ty l w k hk
    exact ⟨((Chg.refl [] _).alloc _).cell this.1 (by simp), ((Chg.refl [] _).alloc _).cell this.2 (by simp)⟩

/-- a reader to which n times the same line has come -/
def dash : List UInt8 := [50, 53, 48, 45, 120]
def rs : Nat → Rd
  | 0 => Rd.zero
  | n + 1 => ((rs n).line dash).1
theorem rs_all : ((List.range 32).all fun k => decide (((rs k).line dash).2 = (false, (0 : Int))) && decide ((rs k).now.lines.length ≤ 40)) = true := by kernel_rfl
theorem rs_is (k : Nat) (h : k < 32) : ((rs k).line dash).2 = (false, (0 : Int)) ∧ (rs k).now.lines.length ≤ 40 := by
  have := List.all_eq_true.1 rs_all k (by simpa using h)
  simpa using this
def full5 : Rep := ⟨250, [], List.replicate 32 [120]⟩
theorem rs31 : (rs 31).line [50, 53, 48, 32, 120] = (⟨Rep.zero, full5, true, false⟩, true, 0) := by kernel_rfl
theorem rs31_len : (rs 31).now.lines.length ≤ 40 := (rs_is 31 (by omega)).2
theorem rs32 : (rs 32).line [50, 53, 48, 32, 120] = (⟨Rep.zero, Rep.zero, false, true⟩, false, 40) := by kernel_rfl
theorem rs32_len : (rs 32).now.lines.length ≤ 40 := by decide +kernel
theorem rsDead : Rd.line ⟨Rep.zero, Rep.zero, false, true⟩ [50, 53, 48, 32, 120] = (⟨Rep.zero, Rep.zero, false, true⟩, false, 7) := by kernel_rfl

theorem show_own {w0 w : World} {L : List Piece} {x : Rep} {s : Value} {G : List Nat} (O : Own w0 w L) (hs : StrsR w s x.lines G) (hl : ∀ l ∈ x.lines, l.length ≤ 100000000) (hn : x.lines.length ≤ maxLen) (n : Nat) (hlen : (showOf x).length = n) :
    Calls Try.prog 15 #[.agg #[.int .i64 x.code, .string ⟨x.status.toArray⟩, s]] w fun e w' => ∃ a cap, e = .returned (.slice a n cap) ∧ Own w0 w' L := by
  refine (show_any w x s G hs hl hn).mono ?_
  rintro e w' ⟨v, rfl, row, ch⟩
  obtain ⟨a, cap, rfl⟩ := row_shape row
  rw [hlen]
  exact ⟨a, cap, rfl, O.pure ch⟩
theorem take_full {w0 w : World} {L : List Piece} {p : Value} (O : Own w0 w (rd p ⟨Rep.zero, full5, true, false⟩ :: L)) :
    Calls Try.prog 16 #[p] w fun e w' => ∃ a cap, e = .returned (.tuple #[.agg #[.int .i64 250, .string ⟨#[]⟩, .slice a 32 cap], .bool true]) ∧ Own w0 w' (strs (.slice a 32 cap) full5.lines :: rd p Rd.zero :: L) := take_own O
theorem take_dead5 {w0 w : World} {L : List Piece} {p : Value} (O : Own w0 w (rd p ⟨Rep.zero, Rep.zero, false, true⟩ :: L)) :
    Calls Try.prog 16 #[p] w fun e w' => ∃ a cap, e = .returned (.tuple #[.agg #[.int .i64 0, .string ⟨#[]⟩, .slice a 0 cap], .bool false]) ∧ Own w0 w' (strs (.slice a 0 cap) [] :: rd p ⟨Rep.zero, Rep.zero, false, true⟩ :: L) := take_own O
theorem line_is {w0 w : World} {L : List Piece} {p : Value} {m m' : Rd} (l : List UInt8) (hs : l.length ≤ 1000000000) {d : Bool} {er : Int} (O : Own w0 w (rd p m :: L)) (hl : m.now.lines.length ≤ 40) (h : m.line l = (m', d, er)) :
    Calls Try.prog 13 #[p, .string ⟨l.toArray⟩] w fun e w' => e = .returned (.tuple #[.bool d, .int .i64 er]) ∧ Own w0 w' (rd p m' :: L) := by
  have := line_own l hs O (by omega)
  rw [h] at this
  exact this
theorem rs_step (k : Nat) (h : k < 32) : (rs k).line dash = (rs (k + 1), false, 0) := by
  have := (rs_is k h).1
  rw [rs, ← this]
def more5 : Rep := ⟨250, [], List.replicate 32 [120] ++ [[120]]⟩
theorem full5_short : ∀ l ∈ full5.lines, l.length ≤ 100000000 := by decide +kernel
theorem more5_short : ∀ l ∈ more5.lines, l.length ≤ 100000000 := by decide +kernel
theorem showAll_full : ((List.range 32).all fun k => decide ((parse (shownAt full5 k)).err = 0)) = true := by kernel_rfl
theorem show_full : (showOf full5).length = 32 := by
  have hb : ¬ showBad full5 := by decide +kernel
  have ha : showAll full5 := fun i hi => by
    have := List.all_eq_true.1 showAll_full i (by simpa [full5] using hi)
    simpa using this
  rw [showOf, if_neg hb, if_pos ha, showTo_len]; rfl
theorem show_more : (showOf more5).length = 0 := by
  have hb : showBad more5 := by decide +kernel
  rw [showOf, if_pos hb]; rfl
theorem show_none : (showOf ⟨250, [], []⟩).length = 0 := by
  have hb : showBad ⟨250, [], []⟩ := by decide +kernel
  rw [showOf, if_pos hb]; rfl
theorem show_260 : (showOf ⟨260, [], [[120]]⟩).length = 0 := by
  have hb : ¬ showBad ⟨260, [], [[120]]⟩ := by decide +kernel
  have ha : ¬ showAll ⟨260, [], [[120]]⟩ := fun h => by
    have := h 0 (by decide)
    exact absurd this (by decide +kernel)
  rw [showOf, if_neg hb, if_neg ha]; rfl
theorem show_lf : (showOf ⟨250, [], [[97], [10]]⟩).length = 0 := by
  have hb : ¬ showBad ⟨250, [], [[97], [10]]⟩ := by decide +kernel
  have ha : ¬ showAll ⟨250, [], [[97], [10]]⟩ := fun h => by
    have := h 1 (by decide)
    exact absurd this (by decide +kernel)
  rw [showOf, if_neg hb, if_neg ha]; rfl

set_option maxRecDepth 100000 in
set_option maxHeartbeats 4000000 in
theorem replyNames_walk (w : World) :
    Calls Try.prog 8 #[] w fun e w' => e = .returned (.bool true) ∧ Below w.heap.size w w' := by
  have O := Own.start w
  go_enter Try.func8, Try.ntmps8
  go_wp2_with fail
  refine (reset_nil _).mono ?_
  rintro e w1 ⟨rfl, rfl⟩
  go_wp2_with fail
  refine (line_nil [50, 53, 48, 32, 120] _).mono ?_
  rintro e w1 ⟨rfl, rfl⟩
  unfold doneV
  go_wp2_with fail
  refine (take_nil _).mono ?_
  rintro e w1 ⟨rfl, ch⟩
  replace O := O.pure ch; clear ch
  go_wp2_with fail
  replace O := O.newBox #[.int .i64 0, .string ⟨#[]⟩, .slice none 0 0] 34
  refine (awake_any _).mono ?_
  rintro e w2 ⟨rfl, ch⟩
  replace O := O.pure ch; clear ch
  go_wp2_with fail
  refine (dead_nil _).mono ?_
  rintro e w3 ⟨rfl, rfl⟩
  go_wp2_with fail
  refine (copy_nil _).mono ?_
  rintro e w3 ⟨rfl, rfl⟩
  obtain ⟨b1, hb1⟩ : ∃ b, b = w2.heap.size := ⟨_, rfl⟩
  replace O := (O.drop.newBox (rnBad.map str).toArray 9)
  rw [← hb1] at O
  go_wp2_with fail
  rw [← hb1]
  clear hb1
  go_loopw [72] (fun iv wr => ∃ k : Nat, k ≤ 15 ∧ iv = .int .i64 k ∧ Own w wr [box b1 (rnBad.map str).toArray 9]) (fun iv _ => 15 - (intOf iv).toNat)
  case atStart => exact ⟨0, by omega, rfl, O⟩
  case round =>
    clear O
    obtain ⟨k, hk, rfl, O⟩ := hrel
    by_cases hlt : k < 15
    · have c := O.litCell k (by simpa [rnBad] using hlt)
      have hb1 : (k : Int) < 15 := by omega
      have hx := rnBad_is k hlt
      obtain ⟨x, hxx⟩ : ∃ x, x = rnBad[k]'hlt := ⟨_, rfl⟩
      rw [← hxx] at hx
      have c' : wr.cell? ⟨b1, k, none⟩ = some (.string ⟨x.toArray⟩) := by rw [hxx]; exact c
      obtain ⟨hx1, hx2⟩ := hx
      have X := Lib.hid hx1
      clear c hx1 hxx
      go_wp2_with fail
      clear c'
      refine (parse_any x _ (by simp only [maxLen]; omega)).mono ?_
      rintro e w9 ⟨rfl, ch⟩
      replace O := O.pure ch; clear ch
      rw [X.out]
      unfold parsedV badLine
      go_wp2
      go_roundw
      case rel => exact ⟨k + 1, by omega, by go_num, O⟩
      case measure => simp [intOf]; omega
    · have hb1 : ¬ (k : Int) < 15 := by omega
      obtain ⟨b2, hb2⟩ : ∃ b, b = wr.heap.size := ⟨_, rfl⟩
      replace O := (O.drop.newBox (rnOk.flatMap Ex5.cells).toArray 56)
      rw [← hb2] at O
      go_wp2_with fail
      rw [← hb2]
      clear hb2
      go_loopw [105] (fun iv wr => ∃ k : Nat, k ≤ 6 ∧ iv = .int .i64 k ∧ Own w wr [box b2 (rnOk.flatMap Ex5.cells).toArray 56]) (fun iv _ => 6 - (intOf iv).toNat)
      case atStart => exact ⟨0, by omega, rfl, O⟩
      case round =>
        clear O hlt hb1 hk
        obtain ⟨k, hk, rfl, O⟩ := hrel
        by_cases hlt : k < 6
        · have hb1 : (k : Int) < 6 := by omega
          obtain ⟨e0, e1, e2, e3⟩ := rnOk_cell k hlt
          have hx := rnOk_is k hlt
          obtain ⟨x, hxx⟩ : ∃ x, x = rnOk[k]'hlt := ⟨_, rfl⟩
          rw [← hxx] at hx e0 e1 e2 e3
          have c0 : wr.cell? ⟨b2, k * 4, none⟩ = some (.string ⟨x.s.toArray⟩) := (O.cell _).trans e0
          have c1 : wr.cell? ⟨b2, k * 4 + 1, none⟩ = some (.int .i64 x.c) := (O.cell _).trans e1
          have c2 : wr.cell? ⟨b2, k * 4 + 2, none⟩ = some (.bool x.m) := (O.cell _).trans e2
          have c3 : wr.cell? ⟨b2, k * 4 + 3, none⟩ = some (.string ⟨x.t.toArray⟩) := (O.cell _).trans e3
          obtain ⟨hx1, hx2⟩ := hx
          have X := Lib.hid hx1
          clear hx1 hxx e0 e1 e2 e3
          go_wp2_with fail
          have O2 := O.newBox #[.string ⟨x.s.toArray⟩, .int .i64 x.c, .bool x.m, .string ⟨x.t.toArray⟩] 56
          obtain ⟨d, hd⟩ : ∃ d, d = wr.heap.size := ⟨_, rfl⟩
          rw [← hd] at O2 ⊢
          clear hd O c0 c1 c2 c3
          refine (parse_any x.s _ (by simp only [maxLen]; omega)).mono ?_
          rintro e w9 ⟨rfl, ch⟩
          replace O2 := O2.pure ch; clear ch
          rw [X.out]
          unfold parsedV
          have d1 := O2.cell 1
          have d2 := O2.cell 2
          have d3 := O2.cell 3
          replace d1 : w9.cell? ⟨d, 1, none⟩ = some (.int .i64 x.c) := d1
          replace d2 : w9.cell? ⟨d, 2, none⟩ = some (.bool x.m) := d2
          replace d3 : w9.cell? ⟨d, 3, none⟩ = some (.string ⟨x.t.toArray⟩) := d3
          have i1 : (x.t != x.t) = false := by simp
          have i2 : (x.m != x.m) = false := by simp
          have i3 : (x.c != x.c) = false := by simp
          go_wp2
          go_roundw
          case rel => exact ⟨k + 1, by omega, by go_num, O2.drop⟩
          case measure => simp [intOf]; omega
        · have hb1 : ¬ (k : Int) < 6 := by omega
          clear hlt
          replace O := O.drop
          have HR := rowsAt_new 9 32 (rnS.map sv) wr
          have HC := (pairsW_chg 9 (rnS.map sv) wr).alloc (.cells (rowsOf wr.heap.size (rnS.map sv).length) 32)
          rw [pairsW_size] at HR
          replace O := O.pure HC; clear HC
          replace HR : RowsAt _ (wr.heap.size + 14) wr.heap.size (rnS.map sv) := HR
          obtain ⟨n3, hn3⟩ : ∃ n, n = wr.heap.size := ⟨_, rfl⟩
          rw [← hn3] at HR O
          have HR := Lib.hid HR
          go_wp2_with fail
          rw [← hn3]
          go_loopw [154] (fun iv wr => ∃ k : Nat, k ≤ 14 ∧ iv = .int .i64 k ∧ Own w wr [] ∧ RowsAt wr (n3 + 14) n3 (rnS.map sv)) (fun iv _ => 14 - (intOf iv).toNat)
          case atStart => exact ⟨0, by omega, rfl, O, HR.out⟩
          case round =>
            clear O HR hb1 hk hn3
            obtain ⟨k, hk, rfl, O, HR⟩ := hrel
            by_cases hlt : k < 14
            · have hb1 : (k : Int) < 14 := by omega
              obtain ⟨c0, c1, c2⟩ := HR k hlt
              have hl : k < rnS.length := hlt
              have hx : statOf (rnS[k]'hl).1 = (rnS[k]'hl).2 ∧ (rnS[k]'hl).1.length ≤ 1000 := rnS_is k hlt
              have hs : (rnS.map sv)[k]'(by rw [List.length_map]; exact hl) = sv (rnS[k]'hl) := List.getElem_map ..
              obtain ⟨x, hxx⟩ : ∃ x, x = rnS[k]'hl := ⟨_, rfl⟩
              rw [← hxx] at hx hs
              replace c1 : wr.cell? ⟨n3 + k, 0, none⟩ = some (.string ⟨x.1.toArray⟩) := c1.trans (congrArg (fun z : Value × Value => some z.1) hs)
              replace c2 : wr.cell? ⟨n3 + k, 1, none⟩ = some (.string ⟨x.2.toArray⟩) := c2.trans (congrArg (fun z : Value × Value => some z.2) hs)
              obtain ⟨hx1, hx2⟩ := hx
              have X := Lib.hid hx1
              have HS := Lib.hid HR
              clear hx1 hxx hs hl HR
              have i1 : (x.2 != x.2) = false := by simp
              go_wp2_with fail
              go_region_held3 (fun w' => Chg [] wr w' ∧ w'.cell? ⟨n3 + k, 0, none⟩ = some (.string ⟨x.1.toArray⟩) ∧ w'.cell? ⟨n3 + k, 1, none⟩ = some (.string ⟨x.2.toArray⟩))
                (first
                  | exact ⟨(Chg.refl _ _).drew, c1, c2⟩
                  | exact ⟨(Chg.refl _ _).drewN _, c1, c2⟩
                  | exact ⟨((Chg.refl _ _).drewN _).pure chs, chs.cell (p := ⟨n3 + k, 0, none⟩) c1 (by simp), chs.cell (p := ⟨n3 + k, 1, none⟩) c2 (by simp)⟩
                  | exact ⟨((Chg.refl _ _).drew).pure chs, chs.cell (p := ⟨n3 + k, 0, none⟩) c1 (by simp), chs.cell (p := ⟨n3 + k, 1, none⟩) c2 (by simp)⟩)
                (first
                  | (go_at_call 18; refine (statusOf_any x.1 (by omega) _).mono ?_; rw [X.out]; rintro e ws ⟨rfl, chs⟩)
                  | fail)
              replace O := O.pure ((((Chg.refl [] wr).drewN _)).pure chs)
              go_wp2
              go_roundw
              case rel => exact ⟨k + 1, by omega, by go_num, O, HS.out.keep ((((Chg.refl [] wr).drewN _)).pure chs)⟩
              case measure => simp [intOf]; omega
            · have hb1 : ¬ (k : Int) < 14 := by omega
              clear hlt HR
              have HR := rowsAt_new 3 59 (rnC.map iv2) wr
              have HC := (pairsW_chg 3 (rnC.map iv2) wr).alloc (.cells (rowsOf wr.heap.size (rnC.map iv2).length) 59)
              rw [pairsW_size] at HR
              replace O := O.pure HC; clear HC
              replace HR : RowsAt _ (wr.heap.size + 8) wr.heap.size (rnC.map iv2) := HR
              obtain ⟨n4, hn4⟩ : ∃ n, n = wr.heap.size := ⟨_, rfl⟩
              rw [← hn4] at HR O
              have HR := Lib.hid HR
              go_wp2_with fail
              rw [← hn4]
              go_loopw [177] (fun iv wr => ∃ k : Nat, k ≤ 8 ∧ iv = .int .i64 k ∧ Own w wr [] ∧ RowsAt wr (n4 + 8) n4 (rnC.map iv2)) (fun iv _ => 8 - (intOf iv).toNat)
              case atStart => exact ⟨0, by omega, rfl, O, HR.out⟩
              case round =>
                clear O HR hb1 hk hn4
                obtain ⟨k, hk, rfl, O, HR⟩ := hrel
                by_cases hlt : k < 8
                · have hb1 : (k : Int) < 8 := by omega
                  obtain ⟨c0, c1, c2⟩ := HR k hlt
                  have hl : k < rnC.length := hlt
                  have hx : classOf (rnC[k]'hl).1 = (rnC[k]'hl).2 := rnC_is k hlt
                  have hs : (rnC.map iv2)[k]'(by rw [List.length_map]; exact hl) = iv2 (rnC[k]'hl) := List.getElem_map ..
                  obtain ⟨x, hxx⟩ : ∃ x, x = rnC[k]'hl := ⟨_, rfl⟩
                  rw [← hxx] at hx hs
                  replace c1 : wr.cell? ⟨n4 + k, 0, none⟩ = some (.int .i64 x.1) := c1.trans (congrArg (fun z : Value × Value => some z.1) hs)
                  replace c2 : wr.cell? ⟨n4 + k, 1, none⟩ = some (.int .i64 x.2) := c2.trans (congrArg (fun z : Value × Value => some z.2) hs)
                  have C : Hid (∀ w : World, Calls Try.prog 11 #[.int .i64 x.1] w fun e w' => e = .returned (.int .i64 x.2) ∧ w' = w) := Lib.hid (fun w => by
                    rw [← hx]
                    refine (class_any x.1 w).mono ?_
                    rintro e w' ⟨h1, h2⟩
                    exact ⟨h1, h2.symm⟩)
                  have HS := Lib.hid HR
                  clear hx hxx hs hl HR
                  have i1 : (x.2 != x.2) = false := by simp
                  go_wp2_with fail
                  go_quiet (first
                    | (go_at_call 11; with_reducible exact Calls.quiet_of_same (C.out _))
                    | fail)
                  go_wp2
                  go_roundw
                  case rel => exact ⟨k + 1, by omega, by go_num, O.drewN _, HS.out.keep ((Chg.refl [] _).drewN _)⟩
                  case measure => simp [intOf]; omega
                · have hb1 : ¬ (k : Int) < 8 := by omega
                  clear hlt HR
                  go_wp2_with fail
                  refine (new_own O).mono ?_
                  clear O
                  rintro e w4 ⟨p, rfl, O⟩
                  go_wp2_with fail
                  go_loopw [23] (fun iv wr => ∃ (k : Nat) (m : Rd), k ≤ 32 ∧ iv = .int .i64 k ∧ Own w wr [rd (.pointer (some p)) m] ∧ (k < 32 → m = rs k) ∧ (k = 32 → m = ⟨Rep.zero, full5, true, false⟩)) (fun iv _ => 32 - (intOf iv).toNat)
                  case atStart => exact ⟨0, Rd.zero, by omega, rfl, O, fun _ => rfl, fun h => by omega⟩
                  case round =>
                    clear O hb1 hk
                    obtain ⟨k, m, hk, rfl, O, h1, h2⟩ := hrel
                    have H1 := Lib.hid h1; have H2 := Lib.hid h2
                    clear h1 h2
                    by_cases hlt : k < 31
                    · have hb1 : (k : Int) < 32 := by omega
                      have hb2 : ¬ (k : Int) = 31 := by omega
                      go_wp2_with fail
                      refine (line_is (m' := rs (k + 1)) (d := false) (er := 0) dash (by decide) O (by rw [H1.out (by omega)]; exact (rs_is k (by omega)).2) (by rw [H1.out (by omega)]; exact rs_step k (by omega))).mono ?_
                      clear O
                      rintro e w5 ⟨rfl, O⟩
                      go_wp2
                      go_roundw
                      case rel => exact ⟨k + 1, _, by omega, by go_num, O, fun _ => rfl, fun h => by omega⟩
                      case measure => simp [intOf]; omega
                    · by_cases hlt2 : k = 31
                      · subst hlt2
                        clear hlt
                        go_wp2_with fail
                        refine (line_is (m' := ⟨Rep.zero, full5, true, false⟩) (d := true) (er := 0) [50, 53, 48, 32, 120] (by decide) O (by rw [H1.out (by omega)]; exact rs31_len) (by rw [H1.out (by omega)]; exact rs31)).mono ?_
                        clear O
                        rintro e w5 ⟨rfl, O⟩
                        go_wp2
                        go_roundw
                        case rel => exact ⟨32, _, by omega, by go_num, O, fun h => by omega, fun _ => rfl⟩
                        case measure => simp [intOf]
                      · have hk32 : k = 32 := by omega
                        obtain rfl := H2.out hk32
                        subst hk32
                        clear hlt hlt2 H1 H2
                        go_wp2_with fail
                        refine (take_full O).mono ?_
                        clear O
                        rintro e w5 ⟨a, cap, rfl, O⟩
                        obtain ⟨b5, hb5⟩ : ∃ b, b = w5.heap.size := ⟨_, rfl⟩
                        replace O := O.newBox #[.int .i64 250, .string ⟨#[]⟩, .slice a 32 cap] 34
                        rw [← hb5] at O
                        go_wp2_with fail
                        rw [← hb5]
                        clear hb5
                        refine (show_own (x := full5) O (O.pick 1).strsR full5_short (by decide) 32 show_full).mono ?_
                        clear O
                        rintro e w6 ⟨a6, cap6, rfl, O⟩
                        go_wp2_with fail
                        go_loopw [30] (fun iv wr => ∃ k : Nat, k ≤ 32 ∧ iv = .int .i64 k ∧ Own w wr [rd (.pointer (some p)) (rs k), strs (.slice a 32 cap) full5.lines, box b5 #[.int .i64 250, .string ⟨#[]⟩, .slice a 32 cap] 34]) (fun iv _ => 32 - (intOf iv).toNat)
                        case atStart => exact ⟨0, by omega, rfl, O.sel [2, 1, 0]⟩
                        case round =>
                          clear O hk
                          obtain ⟨k, hk, rfl, O⟩ := hrel
                          by_cases hlt : k < 32
                          · have hb1 : (k : Int) < 32 := by omega
                            go_wp2_with fail
                            refine (line_is dash (by decide) O (rs_is k hlt).2 (rs_step k hlt)).mono ?_
                            clear O
                            rintro e w7 ⟨rfl, O⟩
                            go_wp2
                            go_roundw
                            case rel => exact ⟨k + 1, by omega, by go_num, O⟩
                            case measure => simp [intOf]; omega
                          · obtain rfl : k = 32 := by omega
                            clear hlt hk
                            go_wp2_with fail
                            refine (line_is [50, 53, 48, 32, 120] (by decide) O rs32_len rs32).mono ?_
                            clear O
                            rintro e w7 ⟨rfl, O⟩
                            go_wp2_with fail
                            refine (take_dead5 O).mono ?_
                            clear O
                            rintro e w8 ⟨a8, cap8, rfl, O⟩
                            have OB := O.newBox #[.int .i64 0, .string ⟨#[]⟩, .slice a8 0 cap8] 34
                            replace O := OB.sel [3, 4, 2]; clear OB
                            try simp only [List.map_cons, List.map_nil, List.getD_cons_zero, List.getD_cons_succ, List.eraseIdx_cons_zero, List.eraseIdx_cons_succ, List.getElem_cons_zero, List.getElem_cons_succ] at O
                            have c2 := (O.pick 1).cell 2
                            replace c2 : _ = some (Value.slice a 32 cap) := c2
                            have fb : ∀ o, (w8.alloc (.cells #[.int .i64 0, .string ⟨#[]⟩, .slice a8 0 cap8] 34)).frozen? ⟨b5, o, none⟩ = false := fun o => (O.pick 1).free o
                            go_wp2_with (at_builtin; refine wpList_append_strO rfl _ _ rfl _ full5.lines [120] O rfl (by rw [show (w8.alloc (.cells #[.int .i64 0, .string ⟨#[]⟩, .slice a8 0 cap8] 34)).heap.size = w8.heap.size + 1 from by simp]; rfl) (by decide) ?_)
                            clear O c2 fb
                            intro v5 w9 O
                            obtain ⟨a5, cap5, hv⟩ := O.shape
                            replace hv : v5 = .slice a5 33 cap5 := hv
                            subst hv
                            replace O : Own w w9 [strs (.slice a5 33 cap5) more5.lines, box b5 #[.int .i64 250, .string ⟨#[]⟩, .slice a 32 cap] 34, rd (.pointer (some p)) ⟨Rep.zero, Rep.zero, false, true⟩] := O
                            have c2 := (O.pick 1).cell 2
                            replace c2 : w9.cell? ⟨b5, 2, none⟩ = some (Value.slice a 32 cap) := c2
                            have fb : ∀ o, w9.frozen? ⟨b5, o, none⟩ = false := fun o => (O.pick 1).free o
                            go_wp2_with fail
                            clear c2 fb
                            replace O := ((O.pick 1).set 2 (.slice a5 33 cap5)).sel [2, 1, 0]
                            try simp only [List.map_cons, List.map_nil, List.getD_cons_zero, List.getD_cons_succ, List.eraseIdx_cons_zero, List.eraseIdx_cons_succ, List.getElem_cons_zero, List.getElem_cons_succ] at O
                            refine (line_is [50, 53, 48, 32, 120] (by decide) O (by decide) rsDead).mono ?_
                            clear O
                            rintro e w10 ⟨rfl, O⟩
                            have c0 := (O.pick 2).cell 0
                            have c1 := (O.pick 2).cell 1
                            have c2 := (O.pick 2).cell 2
                            replace c0 : w10.cell? ⟨b5, 0, none⟩ = some (Value.int .i64 250) := c0
                            replace c1 : w10.cell? ⟨b5, 1, none⟩ = some (Value.string ⟨#[]⟩) := c1
                            replace c2 : w10.cell? ⟨b5, 2, none⟩ = some (Value.slice a5 33 cap5) := c2
                            go_wp2_with fail
                            clear c0 c1 c2
                            refine (show_own (x := more5) O (O.pick 1).strsR more5_short (by decide) 0 show_more).mono ?_
                            clear O
                            rintro e w11 ⟨a11, cap11, rfl, O⟩
                            go_wp2_with fail
                            refine (dead_own O).mono ?_
                            rintro e w12 ⟨rfl, rfl⟩
                            go_wp2_with fail
                            refine (show_own (x := ⟨250, [], []⟩) O (strsR_nil _ []) (by simp) (by decide) 0 show_none).mono ?_
                            clear O
                            rintro e w12 ⟨a12, cap12, rfl, O⟩
                            go_wp2_with fail
                            refine (show_own (x := ⟨260, [], [[120]]⟩) (O.alloc _) (strsR_lit _ [[120]] _) (by simp) (by decide) 0 show_260).mono ?_
                            clear O
                            rintro e w13 ⟨a13, cap13, rfl, O⟩
                            go_wp2_with fail
                            refine (show_own (x := ⟨250, [], [[97], [10]]⟩) (O.alloc _) (strsR_lit _ [[97], [10]] _) (by simp) (by decide) 0 show_lf).mono ?_
                            clear O
                            rintro e w14 ⟨a14, cap14, rfl, O⟩
                            go_wp2
                            go_ret
                            exact ⟨rfl, O.below⟩
end Go.Proofs.Ytghgiaokdbeepaa
