/- mailroomlaw12: top, has, sectors. -/
import Derived.Test.YtnlppcjfpmnahaaDoorLgG
import Derived.Test.YtnlppcjfpmnahaaDoorLgS
namespace Go.Proofs.YtnlppcjfpmnahaaDoor
set_option linter.all false
open Go.RowKit

def topL (m : Dk) : Int := if m.off = true then -1 else (maxAge (secsL m 0 m.n) : Nat)
theorem topL_on {m : Dk} (h : m.off = false) : topL m = (maxAge (secsL m 0 m.n) : Nat) := by unfold topL; rw [h, if_neg (by simp)]
theorem top12_own {w0 w : World} {L : List Piece} {p : Value} {m : Dk} (O : Own w0 w (dk p m :: L)) (hn : m.n ≤ 1024) :
    Calls Tryd.prog 9 #[p] w fun e w' => e = .returned (.int .i64 (topL m)) ∧ Own w0 w' (dk p m :: L) := by
  have T := top_own O hn
  obtain ⟨b, bn, bw, hp, -⟩ := O.dkE
  subst hp
  unfold Dk.topV at T
  cases ho : m.off
  · rw [ho, if_neg (by simp)] at T
    rw [topL_on ho]
    simp only at T
    generalize ((maxAge (secsL m 0 m.n) : Nat) : Int) = z at T ⊢
    clear O ho
    go_enter Tryd.func9, Tryd.ntmps9
    go_wp2_with fail
    refine T.mono ?_
    rintro _ w1 ⟨rfl, O⟩
    go_wp2
    go_ret
    exact ⟨rfl, O⟩
  · rw [ho, if_pos rfl] at T
    have e : topL m = -1 := by unfold topL; rw [ho, if_pos rfl]
    rw [e]
    clear O ho e
    go_enter Tryd.func9, Tryd.ntmps9
    go_wp2_with fail
    refine T.mono ?_
    rintro _ w1 ⟨rfl, O⟩
    go_wp2
    go_ret
    exact ⟨rfl, O⟩
set_option maxRecDepth 100000 in
set_option maxHeartbeats 2000000 in
theorem has_own {w0 w : World} {L : List Piece} {p : Value} {m : Dk} (O : Own w0 w (dk p m :: L)) (hn : m.n ≤ 1024) (half age : Int) {a : Option Addr} {n cap : Nat} {ls : List (List UInt8)}
    (RD : ∀ w', Own w0 w' (dk p m :: L) → ∃ G, StrsR w' (.slice a n cap) ls G) (hl : ls.length ≤ 1000000) {r : Bool} (hr : decide (m.scan half = (age, ls, 0)) = r) :
    Calls Tryd.prog 18 #[p, .int .i64 half, .int .i64 age, .slice a n cap] w fun e w' => e = .returned (.bool r) ∧ Own w0 w' (dk p m :: L) := by
  have SC := scan_own O hn half
  obtain ⟨b, bn, bw, hp, -⟩ := O.dkE
  have hnl : n = ls.length := by
    obtain ⟨G, a', c', hv, -⟩ := RD w O
    simp only [Value.slice.injEq] at hv
    exact hv.2.1
  have RDH := Lib.hid RD
  clear RD O
  unfold ScanPost at SC
  have hsl : (m.scan half).2.1.length ≤ 1000000000 := by
    have q : ∀ (age : Int) (f : Nat) (p : Int) (l : List (List UInt8)), (recsL age f p l).length ≤ f := by
      intro age f
      induction f with
      | zero => intro p l; simp [recsL]
      | succ f ih => intro p l; rw [recsL]; split; (simp only [List.length_cons]; have := ih (p + joinM l) (l.drop (joinM l)); omega); simp
    have ht : ∀ l : List (List UInt8), (toldL l).2.1.length ≤ l.length := by
      intro l
      unfold toldL
      cases l with
      | nil => simp
      | cons x r => simp only; split; (have := q (getA x) (r.length + 1) 0 (x :: r); simpa using this); simp
    unfold Dk.scan
    split
    · simp
    · split
      · simp
      · have := ht (secsL m (half.toNat * (m.n / 2)) (m.n / 2)); rw [secsL_len] at this; omega
  generalize m.scan half = R at SC hr hsl
  obtain ⟨sa, sl, se⟩ := R
  simp only at SC hsl
  by_cases he : se = 0
  rotate_left
  · obtain rfl : r = false := by rw [← hr]; simp; intro _ _ h; exact he h
    have e1 : (se == 0) = false := by simpa using he
    have e2 : (se != 0) = true := by rw [bne, e1]; rfl
    clear hr he hp
    go_enter Tryd.func18, Tryd.ntmps18
    go_wp2_with fail
    refine SC.mono ?_
    rintro _ w1 ⟨v, rfl, O⟩
    go_wp2
    go_returns
    exact ⟨rfl, O.drop⟩
  subst he
  by_cases ha : sa = age
  rotate_left
  · obtain rfl : r = false := by rw [← hr]; simp; intro h; exact absurd h ha
    have e1 : (sa == age) = false := by simpa using ha
    have e2 : (sa != age) = true := by rw [bne, e1]; rfl
    clear hr ha hp
    go_enter Tryd.func18, Tryd.ntmps18
    go_wp2_with fail
    refine SC.mono ?_
    rintro _ w1 ⟨v, rfl, O⟩
    go_wp2
    go_returns
    exact ⟨rfl, O.drop⟩
  subst ha
  have hr2 : decide (sl = ls) = r := by rw [← hr]; simp
  clear hr
  obtain ⟨N, hN⟩ : ∃ N, N = sl.length := ⟨_, rfl⟩
  by_cases hll : N = n
  rotate_left
  · obtain rfl : r = false := by rw [← hr2]; simp; intro h; apply hll; rw [hN, hnl, h]
    have e1 : ((N : Int) == (n : Int)) = false := by simp; omega
    have e2 : ((N : Int) != (n : Int)) = true := by rw [bne, e1]; rfl
    have HN := Lib.hid hN
    clear hr2 hnl hll hp hN
    go_enter Tryd.func18, Tryd.ntmps18
    go_wp2_with fail
    refine SC.mono ?_
    rintro _ w1 ⟨v, rfl, O⟩
    obtain ⟨a4, c4, rfl⟩ := O.shape
    rw [← HN.out] at O ⊢
    go_wp2
    go_returns
    exact ⟨rfl, O.drop⟩
  subst hll
  have HN := Lib.hid hN
  have HNL := Lib.hid hnl
  have HR := Lib.hid hr2
  have hN9 : N ≤ 1000000 := by omega
  have f1 : (sa == sa) = true := by simp
  have f2 : (sa != sa) = false := by simp
  have f3 : ((N : Int) == (N : Int)) = true := by simp
  have f4 : ((N : Int) != (N : Int)) = false := by simp
  clear hnl hN hr2 hsl hl hp
  go_enter Tryd.func18, Tryd.ntmps18
  go_wp2_with fail
  refine SC.mono ?_
  clear SC
  rintro _ w1 ⟨v, rfl, O⟩
  obtain ⟨a4, c4, rfl⟩ := O.shape
  rw [← HN.out] at O ⊢
  go_wp2_with fail
  go_loopw [12] (fun iv wx => ∃ k : Nat, k ≤ N ∧ iv = .int .i64 k ∧ Hid (sl.take k = ls.take k) ∧ Own w0 wx (strs (.slice a4 N c4) sl :: dk p m :: L)) (fun iv _ => N - (intOf iv).toNat)
  case atStart => exact ⟨0, by omega, rfl, (by unfold Hid; rfl), O⟩
  case round =>
    clear O
    obtain ⟨k, hk, rfl, HT, O⟩ := hrel
    by_cases hlt : k < N
    · have hb1 : (k : Int) < (N : Int) := by omega
      have k1 : k < sl.length := by rw [← HN.out]; exact hlt
      have k2 : k < ls.length := by rw [← HNL.out]; exact hlt
      obtain ⟨g, c5, hv⟩ := O.shapePos (by omega)
      simp only [Value.slice.injEq] at hv
      obtain ⟨rfl, -, -⟩ := hv
      obtain ⟨-, cx, -⟩ := O.readRow k k1
      obtain ⟨G, RR⟩ := RDH.out _ O.drop
      obtain ⟨g2, off, rfl, cy⟩ := RR.read k2
      by_cases he : sl[k] = ls[k]
      · have he1 : (ls[k] == sl[k]) = true := by simp [he]
        have he2 : (ls[k] != sl[k]) = false := by simp [he]
        have NX : Hid (sl.take (k + 1) = ls.take (k + 1)) := by
          unfold Hid; rw [List.take_succ_eq_append_getElem k1, List.take_succ_eq_append_getElem k2, HT.out, he]
        generalize sl[k] = x at cx he1 he2
        generalize ls[k] = y at cy he1 he2
        have O2 := O
        clear he HT k1 k2 O RR
        go_wp2_with fail
        go_quiet (fail)
        go_wp2
        go_roundw
        case rel => exact ⟨k + 1, by omega, by go_num, NX, O2.drewN _⟩
        case measure => simp [intOf]; omega
      · have he1 : (ls[k] == sl[k]) = false := by simp; exact fun h => he h.symm
        have he2 : (ls[k] != sl[k]) = true := by rw [bne, he1]; rfl
        obtain rfl : r = false := by rw [← HR.out]; simp; intro h; subst h; exact he rfl
        generalize sl[k] = x at cx he1 he2
        generalize ls[k] = y at cy he1 he2
        have O2 := O
        clear he HT k1 k2 O RR HR
        go_wp2_with fail
        go_quiet (fail)
        go_wp2
        go_returns
        exact ⟨rfl, (O2.drewN _).drop⟩
    · obtain rfl : k = N := by omega
      have hb1 : ¬ (k : Int) < (k : Int) := by omega
      obtain rfl : r = true := by
        rw [← HR.out]
        have := HT.out
        rw [List.take_of_length_le (by rw [HN.out]; omega), List.take_of_length_le (by rw [← HNL.out]; omega)] at this
        simp [this]
      go_wp2
      go_returns
      exact ⟨rfl, O.drop⟩
end Go.Proofs.YtnlppcjfpmnahaaDoor
