/- HeadBack: the walk. -/
import Derived.Test.YtnkcanhkdfckmaaDoorHdI
import Derived.Test.YtnkcanhkdfckmaaDoorHdYB
import Derived.Test.YtnkcanhkdfckmaaDoorHdT
import Derived.Test.YtnkcanhkdfckmaaDoorFrameFd
namespace Go.Proofs.YtnkcanhkdfckmaaDoor
set_option linter.all false
open Go.RowKit

theorem showL_len (f : Fd) : (showL f).length ≤ 2 + f.1.length + f.2.length := by
  unfold showL
  split
  · simp; omega
  · simp
theorem sumF_take (l : List Fd) (k : Nat) : sumF (l.take k) ≤ sumF l := by
  have h : ∀ a b : List Fd, sumF (a ++ b) = sumF a + sumF b := fun a b => by simp [sumF]
  have := h (l.take k) (l.drop k)
  rw [List.take_append_drop] at this
  omega
/-- the lines so far, folded or not -/
structure BackAt (l : List Fd) (k : Nat) (pl fo : List UInt8) (Ls : List (List (List UInt8))) : Prop where
  shown : ∀ f ∈ l.take k, showB f = true
  plain : pl = plainJ (l.take k)
  fold : fo = joinL Ls.flatten
  len : Ls.length = k
  each : ∀ i (h1 : i < l.length) (h2 : i < Ls.length), FdLines l[i] Ls[i]
  pmax : pl.length ≤ sumF (l.take k)
  fmax : fo.length ≤ 3 * sumF (l.take k)
theorem BackAt.start (l : List Fd) : BackAt l 0 [] [] [] := ⟨by simp, rfl, rfl, rfl, fun i _ h => by simp at h, by simp, by simp⟩
theorem BackAt.next {l : List Fd} {k : Nat} {pl fo : List UInt8} {Ls : List (List (List UInt8))} (h : BackAt l k pl fo Ls) (hk : k < l.length) (hs : showB l[k] = true) {ps : List (List UInt8)} {cur : List UInt8} (hf : FoldOf (showL l[k]) (showL l[k]).length ps cur) (hl : (joinL ps ++ cur).length ≤ 3 * (showL l[k]).length) :
    BackAt l (k + 1) (pl ++ (showL l[k] ++ [13, 10])) (fo ++ ((joinL ps ++ cur) ++ [13, 10])) (Ls ++ [ps ++ [cur]]) := by
  have ht := List.take_succ_eq_append_getElem hk
  have hsl := showL_len l[k]
  have h6 := h.pmax
  have h7 := h.fmax
  refine ⟨?_, ?_, ?_, ?_, ?_, ?_, ?_⟩
  · intro f hf
    rw [ht] at hf
    rcases List.mem_append.1 hf with hf | hf
    · exact h.shown f hf
    · simp at hf; subst hf; exact hs
  · rw [ht, plainJ_app, plainJ_one, h.plain]; simp [crlf]
  · rw [h.fold]; simp [joinL, crlf]
  · simp [h.len]
  · intro i h1 h2
    by_cases q : i < Ls.length
    · rw [List.getElem_append_left q]; exact h.each i h1 q
    · have e : i = k := by simp at h2; have := h.len; omega
      subst e
      have hlen := h.len
      subst hlen
      simp
      exact foldOf_lines hs hf
  · rw [ht, sumF_snoc]; simp; omega
  · rw [ht, sumF_snoc]
    simp only [List.length_append, List.length_cons, List.length_nil] at hl ⊢
    omega
set_option maxRecDepth 100000 in
set_option maxHeartbeats 4000000 in
theorem headBack_walk {w : World} (m : Int) (hm : w.cell? ⟨0, 0, none⟩ = some (.int .i64 m)) (v : Value) (o : ∃ l, FieldsIn w v l) (wh : Int) (hwh : (Lit.int .u64 wh).wf = true) (y : List UInt8) (hy : y.length ≤ 140737488351232) :
    Calls Tryd.prog 6 #[v, .int .u64 wh, .string ⟨y.toArray⟩] w fun e w' => e = .returned (.bool true) ∧ Below w.heap.size w w' := by
  obtain ⟨l, rd, hmax, heach⟩ := o
  have RD := rd
  obtain ⟨a, cap, rfl, -⟩ := rd
  clear hwh
  have O := Own.start w
  obtain ⟨N, hN⟩ : ∃ n, n = l.length := ⟨_, rfl⟩
  rw [← hN] at RD hmax ⊢
  have LG := long9_any w RD hN hmax heach
  have HN := Lib.hid hN
  clear hN
  go_enter Tryd.func6, Tryd.ntmps6
  go_wp2_with fail
  refine LG.mono ?_
  clear LG
  rintro e w1 ⟨lb, j, rfl, rfl, hlong⟩
  replace O := O.drewN j
  cases lb
  rotate_left
  · clear hlong
    go_wp2_with fail
    refine (awake9_own O hm).mono ?_
    clear O
    rintro e w2 ⟨rfl, O⟩
    go_wp2
    go_ret
    exact ⟨rfl, O.below⟩
  have hsum := hlong rfl
  clear hlong
  by_cases h2 : 5000 < y.length
  · have h2' : (5000 : Int) < (y.length : Int) := by omega
    clear hsum
    go_wp2_with fail
    refine (awake9_own O hm).mono ?_
    clear O
    rintro e w2 ⟨rfl, O⟩
    go_wp2
    go_ret
    exact ⟨rfl, O.below⟩
  have h2' : ¬ (5000 : Int) < (y.length : Int) := by omega
  have HSUM := Lib.hid hsum
  have hNl : N ≤ 10000000 := by have := sumF_len l; have := HN.out; omega
  have hy9 : y.length ≤ 10000000 := by omega
  clear hsum h2 hmax heach
  go_wp2_with fail
  refine (awake9_own O hm).mono ?_
  clear O
  rintro e w2 ⟨rfl, O⟩
  go_wp2_with fail
  go_loopw [7, 8, 9] (fun pv fv iv wr => ∃ (k : Nat) (pl fo : List UInt8) (Ls : List (List (List UInt8))), pv = .string ⟨pl.toArray⟩ ∧ fv = .string ⟨fo.toArray⟩ ∧ iv = .int .i64 k ∧ k ≤ N ∧ Hid (BackAt l k pl fo Ls) ∧ Own w wr []) (fun _ _ iv _ => N - (intOf iv).toNat)
  case atStart => exact ⟨0, [], [], [], rfl, rfl, rfl, by omega, BackAt.start l, O⟩
  case round =>
    clear O
    obtain ⟨k, pl, fo, Ls, rfl, rfl, rfl, hk, BA, O⟩ := hrel
    have hp9 : pl.length ≤ 1000000 := by have := BA.out.pmax; have := sumF_take l k; have := HSUM.out; omega
    have hf9 : fo.length ≤ 1000000 := by have := BA.out.fmax; have := sumF_take l k; have := HSUM.out; omega
    by_cases hlt : k < N
    · have hb1 : (k : Int) < (N : Int) := by omega
      have hx : k < l.length := by rw [← HN.out]; exact hlt
      obtain ⟨g, off, rfl, c0, c1⟩ := (RD.chg O.chg).at k hx
      have hsz := sumF_mem (List.getElem_mem hx)
      have NX := Lib.hid (fun hs ps cur hf hl => BA.out.next hx hs (ps := ps) (cur := cur) hf hl)
      have hs0 := HSUM.out
      have z1 : l[k].1.length ≤ 1000000 := by omega
      have z2 : l[k].2.length ≤ 1000000 := by omega
      generalize l[k] = f at c0 c1 NX z1 z2
      clear hx hsz hs0 BA
      obtain ⟨sb, hsb⟩ : ∃ b, showB f = b := ⟨_, rfl⟩
      cases sb
      · have SO := show_own O f (by omega) (by omega) (showV_no hsb)
        clear NX hsb
        go_wp2_with fail
        refine SO.mono ?_
        clear SO O c0 c1
        rintro e w3 ⟨rfl, O⟩
        go_wp2
        go_ret
        exact ⟨rfl, O.below⟩
      · have SV := showV_yes hsb
        have e1 : f.1 ++ ([58, 32] ++ f.2) = showL f := by unfold showL; rw [if_pos hsb]
        rw [e1] at SV
        have SO := show_own O f (by omega) (by omega) SV
        have NX2 := Lib.hid (NX.out hsb)
        have hsl := showL_len f
        clear NX hsb SV e1
        generalize showL f = sl at SO NX2 hsl
        go_wp2_with fail
        refine SO.mono ?_
        clear SO O c0 c1
        rintro e w3 ⟨rfl, O⟩
        go_wp2_with fail
        refine (folded_any sl (by omega) wh w3).mono ?_
        rintro e w4 ⟨ps, cur, rfl, rfl, hfo, hfl⟩
        have NX3 := Lib.hid (NX2.out ps cur hfo hfl)
        clear NX2 hfo
        generalize joinL ps ++ cur = fl at NX3 hfl
        go_wp2_with fail
        go_roundw
        case rel => exact ⟨k + 1, _, _, _, rfl, rfl, by go_num, by omega, NX3, O⟩
        case measure => simp [intOf]; omega
    · obtain rfl : k = N := by omega
      have hb1 : ¬ (k : Int) < (k : Int) := by omega
      have BE : Hid (fieldsL pl = l ∧ bodyL pl = [] ∧ fieldsL (pl ++ 13 :: 10 :: y) = l ∧ bodyL (pl ++ 13 :: 10 :: y) = y ∧ fieldsL fo = l ∧ fieldsL (fo ++ 13 :: 10 :: y) = l) := by
        have hsh := BA.out.shown
        have hpl := BA.out.plain
        rw [List.take_of_length_le (by rw [← HN.out]; exact Nat.le_refl _)] at hsh hpl
        obtain ⟨p1, p2, p3⟩ := fields_plain hsh
        obtain ⟨q1, q2, q3⟩ := fields_lines hsh (by rw [BA.out.len]; exact HN.out) BA.out.each
        rw [← hpl] at p1 p2 p3
        rw [← BA.out.fold] at q1 q2 q3
        exact ⟨p1, p2, (p3 y).1, (p3 y).2, q1, (q3 y).1⟩
      obtain ⟨b1, b2, b3, b4, b5, b6⟩ := BE.out
      have zp : (pl ++ 13 :: 10 :: y).length ≤ 10000000 := by simp; omega
      have zf : (fo ++ 13 :: 10 :: y).length ≤ 10000000 := by simp; omega
      have F1 := Lib.hid (fun (W : World) (L : List Piece) (O : Own w W L) => fieldsN_own O hm pl (by omega) b1 HN.out)
      have F2 := Lib.hid (fun (W : World) (L : List Piece) (O : Own w W L) => fieldsN_own O hm fo (by omega) b5 HN.out)
      have F3 := Lib.hid (fun (W : World) (L : List Piece) (O : Own w W L) => fieldsN_own O hm (pl ++ 13 :: 10 :: y) zp b3 HN.out)
      have F4 := Lib.hid (fun (W : World) (L : List Piece) (O : Own w W L) => fieldsN_own O hm (fo ++ 13 :: 10 :: y) zf b6 HN.out)
      have B1 := Lib.hid (fun (W : World) (L : List Piece) (O : Own w W L) => body_own O hm (pl ++ 13 :: 10 :: y) zp b4)
      have B2 := Lib.hid (fun (W : World) (L : List Piece) (O : Own w W L) => body_own O hm pl (by omega) b2)
      have TL : Hid (∀ (W : World) (_ : Own w W []), Calls Tryd.prog 19 #[.slice a k cap] W fun e w' => ∃ a' cap', e = .returned (.slice a' k cap') ∧ Own w w' [rowv 45 2 (.slice a' k cap') k (flatF l)]) := by
        intro W hO
        have := told_own hO (a := a) (cap := cap) (xs := l) (by rw [← HN.out]; exact hNl) (fun w' h => by rw [← HN.out]; exact RD.chg h.chg)
        rw [← HN.out] at this
        refine this.mono ?_
        rintro e w' ⟨a', c', rfl, h⟩
        rw [← HN.out] at h ⊢
        exact ⟨a', c', rfl, h⟩
      clear b1 b2 b3 b4 b5 b6 BE BA zp zf
      go_wp2_with fail
      refine (TL.out _ O).mono ?_
      clear O
      rintro e w3 ⟨ta, tc, rfl, O⟩
      go_wp2_with fail
      refine (F1.out _ _ O).mono ?_
      clear O
      rintro e w4 ⟨a1, c1, rfl, O⟩
      go_wp2_with fail
      refine (toldTop_own O HN.out hNl).mono ?_
      clear O
      rintro e w5 ⟨a2, c2, rfl, O⟩
      go_wp2_with fail
      refine (sameLast_own O HN.out HN.out hNl (b := true) (by simp)).mono ?_
      clear O
      rintro e w6 ⟨rfl, O⟩
      go_wp2_with fail
      refine (F2.out _ _ O).mono ?_
      clear O
      rintro e w7 ⟨a3, c3, rfl, O⟩
      go_wp2_with fail
      refine (toldTop_own O HN.out hNl).mono ?_
      clear O
      rintro e w8 ⟨a4, c4, rfl, O⟩
      go_wp2_with fail
      refine (sameLast_own O HN.out HN.out hNl (b := true) (by simp)).mono ?_
      clear O
      rintro e w9 ⟨rfl, O⟩
      go_wp2_with fail
      refine (F3.out _ _ O).mono ?_
      clear O
      rintro e w10 ⟨a5, c5, rfl, O⟩
      go_wp2_with fail
      refine (toldTop_own O HN.out hNl).mono ?_
      clear O
      rintro e w11 ⟨a6, c6, rfl, O⟩
      go_wp2_with fail
      refine (sameLast_own O HN.out HN.out hNl (b := true) (by simp)).mono ?_
      clear O
      rintro e w12 ⟨rfl, O⟩
      go_wp2_with fail
      refine (F4.out _ _ O).mono ?_
      clear O
      rintro e w13 ⟨a7, c7, rfl, O⟩
      go_wp2_with fail
      refine (toldTop_own O HN.out hNl).mono ?_
      clear O
      rintro e w14 ⟨a8, c8, rfl, O⟩
      go_wp2_with fail
      refine (sameLast_own O HN.out HN.out hNl (b := true) (by simp)).mono ?_
      clear O
      rintro e w15 ⟨rfl, O⟩
      go_wp2_with fail
      refine (B1.out _ _ O).mono ?_
      clear O
      rintro e w16 ⟨rfl, O⟩
      go_wp2_with fail
      refine (B2.out _ _ O).mono ?_
      clear O
      rintro e w17 ⟨rfl, O⟩
      go_wp2
      go_ret
      exact ⟨rfl, O.below⟩
end Go.Proofs.YtnkcanhkdfckmaaDoor
