/- slices.Equal of strings; reply.Same; mailroomref05.Show. -/
import Derived.Test.YtghgiaokdbeepaaReplyW
import Derived.Outline
namespace Go.Proofs.Ytghgiaokdbeepaa
set_option linter.all false
open Go.RowKit

set_option maxHeartbeats 1000000 in
theorem equal_any (w : World) (va vb : Value) (ls ms : List (List UInt8)) (Ga Gb : List Nat) (ha : StrsR w va ls Ga) (hb : StrsR w vb ms Gb) (hl : ls.length ≤ 1000000000) (b : Bool) (hr : decide (ls = ms) = b) :
    Calls Try.prog 37 #[va, vb] w fun e w' => e = .returned (.bool b) ∧ ∃ n, w' = w.drewN n := by
  have R := Lib.hid hr; clear hr
  obtain ⟨aa, ca, rfl, hra⟩ := ha
  obtain ⟨ab, cb, rfl, hrb⟩ := hb
  by_cases hn : ls.length = ms.length
  · have hn' : ((ls.length : Int) != (ms.length : Int)) = false := by simp [hn]
    have N := Lib.hid hn; clear hn
    have A := Lib.hid hra; clear hra
    have B := Lib.hid hrb; clear hrb
    go_enter Try.func37, Try.ntmps37
    go_wp2
    go_loopw [13] (fun i wr => ∃ k n : Nat, k ≤ ls.length ∧ i = .int .i64 k ∧ wr = w.drewN n ∧ ls.take k = ms.take k) (fun i _ => ls.length - (intOf i).toNat)
    case atStart => exact ⟨0, 0, by omega, rfl, rfl, rfl⟩
    case round =>
      obtain ⟨k, n, hk, rfl, rfl, ht⟩ := hrel
      have T := Lib.hid ht; clear ht
      by_cases hlt : k < ls.length
      · obtain ⟨g, off, rfl, _, hc⟩ := A.out (by omega)
        obtain ⟨g', off', rfl, _, hc'⟩ := B.out (by have := N.out; omega)
        have hlt' : k < ms.length := by have := N.out; omega
        have c1 := hc k hlt
        have c2 := hc' k hlt'
        clear hc hc'
        have hb1 : (k : Int) < (ls.length : Int) := by omega
        have hb2 : (k : Int) < (ms.length : Int) := by omega
        by_cases he : ls[k] = ms[k]
        · have he' : (ls[k] == ms[k]) = true := by simp [he]
          have he2 : (ls[k] != ms[k]) = false := by simp [he]
          have HE := Lib.hid he; clear he
          go_wp2
          go_quiet (fail)
          go_wp2
          go_roundw
          case rel => exact ⟨k + 1, _, by omega, by go_num, rfl, take_eq_snoc hlt hlt' T.out HE.out⟩
          case measure => simp [intOf]; omega
        · have he' : (ls[k] == ms[k]) = false := by simp [he]
          have he2 : (ls[k] != ms[k]) = true := by simp [he]
          have HE := Lib.hid he; clear he
          go_wp2
          go_quiet (fail)
          go_wp2
          go_ret
          exact ⟨ret_bool (by rw [← R.out]; symm; rw [decide_eq_false_iff_not]; intro h; subst h; exact HE.out rfl), _, by rw [World.drewN_drewN]⟩
      · go_wp2
        go_ret
        refine ⟨ret_bool ?_, _, rfl⟩
        have h := T.out
        rw [List.take_of_length_le (by omega), List.take_of_length_le (by have := N.out; omega)] at h
        rw [← R.out, h]; simp
  · have hn' : ((ls.length : Int) != (ms.length : Int)) = true := by simp; omega
    have HN := Lib.hid hn; clear hn hra hrb
    go_enter Try.func37, Try.ntmps37
    go_wp2
    go_ret
    exact ⟨ret_bool (by rw [← R.out]; symm; rw [decide_eq_false_iff_not]; intro h; subst h; exact HN.out rfl), 0, rfl⟩

set_option maxHeartbeats 1000000 in
theorem sameR_any (w : World) (x y : Rep) (sx sy : Value) (Gx Gy : List Nat) (hx : StrsR w sx x.lines Gx) (hy : StrsR w sy y.lines Gy) (hl : x.lines.length ≤ 1000000000) (b : Bool)
    (hb : decide (x.code = y.code ∧ x.status = y.status ∧ x.lines = y.lines) = b) :
    Calls Try.prog 29 #[.agg #[.int .i64 x.code, .string ⟨x.status.toArray⟩, sx], .agg #[.int .i64 y.code, .string ⟨y.status.toArray⟩, sy]] w fun e w' => e = .returned (.bool b) ∧ Chg [] w w' := by
  have HB := Lib.hid hb; clear hb
  obtain ⟨ax, cx, rfl, _⟩ := id hx
  obtain ⟨ay, cy, rfl, _⟩ := id hy
  have HX := Lib.hid hx; have HY := Lib.hid hy
  clear hx hy
  by_cases h1 : x.code = y.code
  rotate_left
  · have h1' : (x.code == y.code) = false := by simp [h1]
    have E : b = false := by rw [← HB.out]; simp [h1]
    clear h1
    subst E
    go_enter Try.func29, Try.ntmps29
    go_wp2
    go_ret
    exact ⟨rfl, ((Chg.refl _ _).alloc _).alloc _⟩
  have h1' : (x.code == y.code) = true := by simp [h1]
  by_cases h2 : x.status = y.status
  rotate_left
  · have h2' : (x.status == y.status) = false := by simp [h2]
    have E : b = false := by rw [← HB.out]; simp [h2]
    clear h1 h2
    subst E
    go_enter Try.func29, Try.ntmps29
    go_wp2
    go_ret
    exact ⟨rfl, ((Chg.refl _ _).alloc _).alloc _⟩
  have h2' : (x.status == y.status) = true := by simp [h2]
  have E : decide (x.lines = y.lines) = b := by rw [← HB.out]; simp [h1, h2]
  have HE := Lib.hid E
  clear h1 h2 HB E
  go_enter Try.func29, Try.ntmps29
  go_wp2_with fail
  refine (equal_any _ _ _ x.lines y.lines _ _ (HX.out.keep (((Chg.refl [] _).alloc _).alloc _) (by simp)) (HY.out.keep (((Chg.refl [] _).alloc _).alloc _) (by simp)) hl b HE.out).mono ?_
  rintro e w' ⟨rfl, n, rfl⟩
  go_wp2
  go_ret
  exact ⟨rfl, (((Chg.refl _ _).alloc _).alloc _).drewN _⟩

set_option maxHeartbeats 2000000 in
theorem show5_any (w : World) (x : Rep) (s : Value) (G : List Nat) (hs : StrsR w s x.lines G) (hl : ∀ l ∈ x.lines, l.length ≤ 100000000) (hn : x.lines.length ≤ maxLen) :
    Calls Try.prog 30 #[.agg #[.int .i64 x.code, .string ⟨x.status.toArray⟩, s]] w (ShowPost x w) := by
  obtain ⟨a, cap, rfl, hr⟩ := id hs
  have HS := Lib.hid hs; clear hs
  have HL := Lib.hid hl; clear hl
  have HR := Lib.hid hr; clear hr
  have hn' : x.lines.length ≤ 9223372036854775807 := hn
  by_cases h3 : classOf x.code = 0
  · have h3' : (classOf x.code == 0) = true := by simp [h3]
    have H3 := Lib.hid h3; clear h3
    go_enter Try.func30, Try.ntmps30
    go_wp2_with fail
    refine (class5_any _ _).mono ?_
    rintro e w1 ⟨rfl, rfl⟩
    go_wp2
    go_ret
    exact ⟨_, rfl, by rw [showOf, if_pos (.inr (.inr H3.out))]; exact World.ownsRow_nil _ _ _ _, (Chg.refl _ _).alloc _⟩
  have h3' : (classOf x.code == 0) = false := by simp [h3]
  by_cases h2 : 32 < x.lines.length
  · have h2' : (32 : Int) < (x.lines.length : Int) := by omega
    have h2'' : decide ((32 : Int) < (x.lines.length : Int)) = true := by simp; omega
    have H3 := Lib.hid h3; clear h3
    go_enter Try.func30, Try.ntmps30
    go_wp2_with fail
    refine (class5_any _ _).mono ?_
    rintro e w1 ⟨rfl, rfl⟩
    go_wp2
    go_ret
    exact ⟨_, rfl, by rw [showOf, if_pos (.inr (.inl h2))]; exact World.ownsRow_nil _ _ _ _, (Chg.refl _ _).alloc _⟩
  have hcode : 200 ≤ x.code ∧ x.code ≤ 599 := by unfold classOf at h3; split at h3 <;> omega
  have h2' : ¬ (32 : Int) < (x.lines.length : Int) := by omega
  have h2'' : decide ((32 : Int) < (x.lines.length : Int)) = false := by simp; omega
  obtain ⟨hc1, hc2⟩ := hcode
  have H3 := Lib.hid h3; clear h3
  have hconv := conv_num (u := w.alloc (.cells #[.int .i64 x.code, .string ⟨x.status.toArray⟩, .slice a x.lines.length cap] 44)) (n := w.heap.size + 1) (by simp) x.code 5
  go_enter Try.func30, Try.ntmps30
  go_wp2_with fail
  refine (class5_any _ _).mono ?_
  rintro e w1 ⟨rfl, rfl⟩
  go_wp2
  clear hconv
  have O := (((Own.start w).newBox #[.int .i64 x.code, .string ⟨x.status.toArray⟩, .slice a x.lines.length cap] 44).alloc (.cells #[.int .u8 (48 + x.code / 100), .int .u8 (48 + x.code / 10 % 10), .int .u8 (48 + x.code % 10)] 5)).nilStrs
  generalize (w.alloc (.cells #[.int .i64 x.code, .string ⟨x.status.toArray⟩, .slice a x.lines.length cap] 44)).alloc (.cells #[.int .u8 (48 + x.code / 100), .int .u8 (48 + x.code / 10 % 10), .int .u8 (48 + x.code % 10)] 5) = w2 at O ⊢
  go_loopw [4, 5] (fun o i wr => ∃ (k : Nat), k ≤ x.lines.length ∧ i = .int .i64 k ∧ (∀ j, j < k → (parse (shownAt x j)).err = 0) ∧ Own w wr [strs o (showTo x k), box w.heap.size #[.int .i64 x.code, .string ⟨x.status.toArray⟩, .slice a x.lines.length cap] 44]) (fun _ i _ => x.lines.length - (intOf i).toNat)
  case atStart => exact ⟨0, by omega, rfl, fun j hj => by omega, O⟩
  case round =>
    clear O
    obtain ⟨k, hk, rfl, hall, O⟩ := hrel
    obtain ⟨ao, capo, rfl⟩ := O.shape
    have A := Lib.hid hall; clear hall
    have x2 : wr.cell? ⟨w.heap.size, 2, none⟩ = some (.slice a x.lines.length cap) := (O.pick 1).cell 2
    by_cases hlt : k < x.lines.length
    · obtain ⟨g, off, rfl, _, hcell⟩ := HR.out (by omega)
      have c1 := O.chg.cell (hcell k hlt) (by simp)
      clear hcell
      have hb1 : (k : Int) < (x.lines.length : Int) := by omega
      have hnl : (numStr x.code).length ≤ 3 := by simp [numStr]
      have hkl : x.lines[k].length ≤ 100000000 := HL.out _ (List.getElem_mem hlt)
      have hsl : (shownAt x k).length ≤ 100000004 := by
        unfold shownAt
        rw [List.getD_eq_getElem?_getD, List.getElem?_eq_getElem hlt]
        simp [numStr]; omega
      have HSL := Lib.hid hsl; clear hsl
      have hlast : (((k : Int) + 1 == (x.lines.length : Int)) = true ∧ Hid (numStr x.code ++ 32 :: x.lines[k] = shownAt x k)) ∨ (((k : Int) + 1 == (x.lines.length : Int)) = false ∧ Hid (numStr x.code ++ 45 :: x.lines[k] = shownAt x k)) := by
        by_cases hlast : k + 1 = x.lines.length
        · exact .inl ⟨by simp; omega, shownAt_last hlt hlast⟩
        · exact .inr ⟨by simp; omega, shownAt_more hlt hlast⟩
      rcases hlast with ⟨hl', E⟩ | ⟨hl', E⟩
      all_goals
        go_wp2_with fail
        rw [E.out]
        refine (parse5_any (shownAt x k) _ (by have := HSL.out; unfold maxLen; omega)).mono ?_
        rintro e w2 ⟨rfl, ch2⟩
        replace O := O.pure ch2
        clear ch2 c1 x2
        unfold parsedV
        have hpe := parse_err (shownAt x k)
        rcases hpe with he | ⟨hbd, he⟩
        · have he' : ((parse (shownAt x k)).err != 0) = false := by rw [he]; rfl
          have HE := Lib.hid he; clear he
          have HLN : Hid ((showTo x k).length ≤ 1000000000) := by unfold Hid; rw [showTo_len]; omega
          go_wp2_with (at_builtin; refine wpList_append_strO rfl _ _ rfl _ _ (shownAt x k) O rfl rfl HLN.out ?_)
          intro v' w3 O
          rw [← showTo_succ] at O
          obtain ⟨a3, cap3, rfl⟩ := O.shape
          go_wp2
          go_roundw
          case rel => exact ⟨k + 1, by omega, by go_num, fun j hj => by
            by_cases e : j = k
            · subst e; exact HE.out
            · exact A.out j (by omega), O⟩
          case measure => simp [intOf]; omega
        · have he' : ((parse (shownAt x k)).err != 0) = true := by rw [he]; rfl
          have HE := Lib.hid he; clear he hbd
          go_wp2
          go_ret
          refine ⟨_, rfl, ?_, O.chg⟩
          have : showOf x = [] := by
            rcases showOf_cases x with h | ⟨_, h, _⟩
            · exact h.1
            · have := h k hlt; rw [HE.out] at this; cases this
          rw [this]
          exact World.ownsRow_nil _ _ _ _
    · obtain rfl : k = x.lines.length := by omega
      go_wp2
      go_ret
      refine ⟨_, rfl, ?_, O.chg⟩
      have : showOf x = showTo x x.lines.length := by
        rcases showOf_cases x with ⟨h, h'⟩ | ⟨_, _, h⟩
        · by_cases h0 : x.lines.length = 0
          · rw [h, h0]; rfl
          · exfalso
            rcases h' with h' | h'
            · unfold showBad at h'
              rcases h' with h' | h' | h'
              · omega
              · omega
              · exact H3.out h'
            · exact h' A.out
        · exact h
      rw [this]
      exact O.row
end Go.Proofs.Ytghgiaokdbeepaa
