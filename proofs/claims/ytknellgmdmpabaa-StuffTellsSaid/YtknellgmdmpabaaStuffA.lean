/- stuff: lines. -/
import Derived.Test.YtknellgmdmpabaaLineE
import Derived.Test.YtknellgmdmpabaaRangeP
namespace Go.Proofs.Ytknellgmdmpabaa
set_option linter.all false
open Go.RowKit Go.Shelf
attribute [local go_sem] Oper.semAt_some

/-- a text's lines, and whether they have an end -/
def linesB (s : List UInt8) : List (List UInt8 × Bool) := (cutL s).1.map (fun l => (l, true)) ++ (if (cutL s).2 = [] then [] else [((cutL s).2, false)])
def encB (x : List UInt8 × Bool) : Array Value := #[.string ⟨x.1.toArray⟩, .bool x.2]
theorem lines_own {w0 w : World} {L : List Piece} (O : Own w0 w L) (l : List UInt8) :
    Calls Try.prog 17 #[.string ⟨l.toArray⟩] w fun e w' => ∃ B, e = .returned (.func (.func 24) #[] #[.pointer (some ⟨B, 0, none⟩)]) ∧ Own w0 w' (boxS B l :: L) := by
  go_enter Try.func17, Try.ntmps17
  go_wp2
  go_ret
  exact ⟨w.heap.size, rfl, O.newBox _ _⟩
theorem linesB_at (s : List UInt8) (k : Nat) (h : k < (cutL s).1.length) (h' : k < (linesB s).length) : (linesB s)[k] = ((cutL s).1[k], true) := by
  have : (linesB s)[k]? = some ((cutL s).1[k], true) := by
    unfold linesB
    rw [List.getElem?_append_left (by simpa using h)]
    simp [h]
  rw [List.getElem?_eq_getElem h'] at this
  exact Option.some.inj this
theorem linesB_len (s : List UInt8) : (linesB s).length = (cutL s).1.length + if (cutL s).2 = [] then 0 else 1 := by
  unfold linesB
  split <;> simp
theorem linesB_last (s : List UInt8) (h : (cutL s).2 ≠ []) (h' : (cutL s).1.length < (linesB s).length) : (linesB s)[(cutL s).1.length] = ((cutL s).2, false) := by
  have : (linesB s)[(cutL s).1.length]? = some ((cutL s).2, false) := by
    unfold linesB
    rw [List.getElem?_append_right (by simp)]
    simp [h]
  rw [List.getElem?_eq_getElem h'] at this
  exact Option.some.inj this
set_option maxHeartbeats 1000000 in
theorem lines_iter (l : List UInt8) (hl : l.length ≤ 100000000) (B : Nat) (w0 : World) (m : Int) (hm : w0.cell? ⟨0, 0, none⟩ = some (.int .i64 m)) : IterP w0 Try.prog 24 #[.pointer (some ⟨B, 0, none⟩)] encB (linesB l) (boxS B l) := by
  intro n lp R Rx hY L W O h0
  refine callsIn_of_wp Try.func24 rfl trivial ?_
  simp only [Try.ntmps24, List.size_toArray, List.length_cons, List.length_nil, Nat.reduceAdd, Nat.reduceSub, Array.replicate_succ, Array.replicate_zero, List.push_toArray, List.append_toArray, List.nil_append, List.cons_append]
  have HY := Lib.hid hY; clear hY
  have c0 : W.cell? ⟨B, 0, none⟩ = some (.string ⟨l.toArray⟩) := Own.cell O 0
  have hcl := cutL_len l
  have LL := Lib.hid (linesB_len l)
  have LA := Lib.hid (linesB_at l)
  have LZ := Lib.hid (linesB_last l)
  gi_wp2_with fail
  refine ⟨trivial, (fun h => by cases h), ?_⟩
  refine (callsIn_wide.2 (cut_any O m hm l hl)).mono ?_
  clear O c0
  rintro e w1 ⟨v, rfl, O⟩
  obtain ⟨a, cap, rfl⟩ := O.shape
  obtain ⟨all, hall⟩ : ∃ r, r = (cutL l).1 := ⟨_, rfl⟩
  obtain ⟨rest, hrest⟩ : ∃ r, r = (cutL l).2 := ⟨_, rfl⟩
  rw [← hall] at O hcl LL LA LZ
  rw [← hrest] at LL LZ
  rw [← hall, ← hrest]
  clear hall hrest
  have O2 : Own w0 w1 (boxS B l :: strs (.slice a all.length cap) all :: L) := O.pick 1
  have OP := O2.pack
  clear O O2
  gi_wp2_with fail
  gi_loopw [14] (fun iv wr => ∃ (k : Nat) (L : List Piece), k ≤ all.length ∧ iv = .int .i64 k ∧ Own w0 wr (both (boxS B l) (strs (.slice a all.length cap) all) :: L) ∧ R k L) (fun iv _ => all.length - (intOf iv).toNat)
  case atStart => exact ⟨0, L, by omega, rfl, OP, h0⟩
  case round =>
    clear OP h0
    obtain ⟨k, L, hk, rfl, OP, hR⟩ := hrel
    by_cases hlt : k < all.length
    · have hb1 : (k : Int) < (all.length : Int) := by omega
      have hlen : k < (linesB l).length := by have := LL.out; omega
      have HYK := HY.out _ k hlen L wr OP hR
      rw [LA.out k hlt hlen] at HYK
      rcases row_shape' (OP.unpack.pick 1).row with h | ⟨g, c, h⟩
      · simp only [Value.slice.injEq] at h; omega
      simp only [Value.slice.injEq] at h
      obtain ⟨rfl, -, rfl⟩ := h
      obtain ⟨-, ca, -⟩ := (OP.unpack.pick 1).readRow k hlt
      obtain ⟨x, hx⟩ : ∃ x, x = all[k] := ⟨_, rfl⟩
      rw [← hx] at ca HYK
      clear hx
      obtain ⟨fn, tmps, assign, body, hy, hRn⟩ := HYK
      dsimp only [encB] at hy
      gi_wp2_with fail
      refine ⟨(fun h => by cases h), ?_⟩
      refine hRn.mono ?_
      clear hRn hy OP ca
      rintro e W3 (⟨rfl, L', O3, hR3⟩ | ⟨rfl, L', O3, hx⟩)
      · gi_wp2
        go_roundw
        case rel => exact ⟨k + 1, L', by omega, by go_num, O3, hR3⟩
        case measure => simp [intOf]; omega
      · gi_wp2
        refine bodyPost_ret (results_none rfl _ _ _) rfl ?_
        exact ⟨⟨_, rfl⟩, .inr ⟨L', O3.drop, hx⟩⟩
    · obtain rfl : k = all.length := by omega
      have hb1 : ¬ (all.length : Int) < (all.length : Int) := by omega
      by_cases hr : rest = []
      · have hlen : (linesB l).length = all.length := by rw [LL.out, if_pos hr]; rfl
        subst hr
        gi_wp2
        go_end0
        exact ⟨⟨_, rfl⟩, .inl ⟨L, OP.drop, by first | exact hR | (rw [hlen]; exact hR)⟩⟩
      · have hlen : (linesB l).length = all.length + 1 := by rw [LL.out, if_neg hr]
        have hr' : rest.isEmpty = false := by simpa using hr
        have hk' : all.length < (linesB l).length := by omega
        have HYK := HY.out _ all.length hk' L wr OP hR
        rw [LZ.out hr hk'] at HYK
        have HR := Lib.hid hr; clear hr
        obtain ⟨fn, tmps, assign, body, hy, hRn⟩ := HYK
        dsimp only [encB] at hy
        gi_wp2_with fail
        refine ⟨(fun h => by cases h), ?_⟩
        refine hRn.mono ?_
        clear hRn hy OP
        rintro e W3 (⟨rfl, L', O3, hR3⟩ | ⟨rfl, L', O3, hx⟩)
        · gi_wp2
          go_end0
          exact ⟨⟨_, rfl⟩, .inl ⟨L', O3.drop, by first | exact hR3 | (rw [hlen]; exact hR3)⟩⟩
        · gi_wp2
          go_end0
          exact ⟨⟨_, rfl⟩, .inr ⟨L', O3.drop, hx⟩⟩
end Go.Proofs.Ytknellgmdmpabaa
