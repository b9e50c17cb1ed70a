/- merged: LgS LgH LgQ LgI LgW LgT LgX LgZ LgRaw (wip/merge.py) -/
import Derived.Test.YtnlppcjfpmnahaaGreatDoorStrs
import Derived.Test.YtnlppcjfpmnahaaGreatDoorLgG
import Derived.Test.YtnlppcjfpmnahaaGreatDoorLgP
import Derived.Test.YtnlppcjfpmnahaaGreatDoorMgFr
import Derived.BigQuiet
import Derived.Test.YtnlppcjfpmnahaaGreatDoorLgB
import Derived.Test.YtnlppcjfpmnahaaGreatDoorRowv
import Derived.Test.YtnlppcjfpmnahaaGreatDoorPack
import Derived.Deep.AppendSrc
import Derived.Lib.AppendZeros
import Derived.StillTailTactics
/- mailroomlaw12.same (of XSame). -/
namespace Go.Proofs.YtnlppcjfpmnahaaGreatDoor
set_option linter.all false
open Go.RowKit

set_option maxHeartbeats 1000000 in
theorem same12_any (w : World) (va vb : Value) (ls ms : List (List UInt8)) (Ga Gb : List Nat) (ha : StrsR w va ls Ga) (hb : StrsR w vb ms Gb) (hl : ls.length ≤ 1000000000) (b : Bool) (hr : decide (ls = ms) = b) :
    Calls Tryz.prog 21 #[va, vb] w fun e w' => e = .returned (.bool b) ∧ ∃ n, w' = w.drewN n := by
  have R := Lib.hid hr; clear hr
  obtain ⟨aa, ca, rfl, hra⟩ := ha
  obtain ⟨ab, cb, rfl, hrb⟩ := hb
  by_cases hn : ls.length = ms.length
  · have hn' : ((ls.length : Int) != (ms.length : Int)) = false := by simp [hn]
    have N := Lib.hid hn; clear hn
    have A := Lib.hid hra; clear hra
    have B := Lib.hid hrb; clear hrb
    go_enter Tryz.func21, Tryz.ntmps21
    go_wp2
    go_loopw [5] (fun i wr => ∃ k n : Nat, k ≤ ls.length ∧ i = .int .i64 k ∧ wr = w.drewN n ∧ ls.take k = ms.take k) (fun i _ => ls.length - (intOf i).toNat)
    case atStart => exact ⟨0, 0, by omega, rfl, rfl, rfl⟩
    case round =>
      obtain ⟨k, n, hk, rfl, rfl, ht⟩ := hrel
      have T := Lib.hid ht; clear ht
      by_cases hlt : k < ls.length
      · obtain ⟨g, off, rfl, _, hc⟩ := A.out (by omega)
        obtain ⟨g', off', rfl, _, hc'⟩ := B.out (by have := N.out; omega)
        have hlt' : k < ms.length := by have := N.out; omega
        have c1 := hc k hlt
        have c2 := hc' k hlt'
        clear hc hc'
        have hb1 : (k : Int) < (ls.length : Int) := by omega
        have hb2 : (k : Int) < (ms.length : Int) := by omega
        by_cases he : ls[k] = ms[k]
        · have he' : (ls[k] == ms[k]) = true := by simp [he]
          have he2 : (ls[k] != ms[k]) = false := by simp [he]
          have HE := Lib.hid he; clear he
          go_wp2
          go_quiet (fail)
          go_wp2
          go_roundw
          case rel => exact ⟨k + 1, _, by omega, by go_num, rfl, take_eq_snoc hlt hlt' T.out HE.out⟩
          case measure => simp [intOf]; omega
        · have he' : (ls[k] == ms[k]) = false := by simp [he]
          have he2 : (ls[k] != ms[k]) = true := by simp [he]
          have HE := Lib.hid he; clear he
          go_wp2
          go_quiet (fail)
          go_wp2
          go_ret
          exact ⟨ret_bool (by rw [← R.out]; symm; rw [decide_eq_false_iff_not]; intro h; subst h; exact HE.out rfl), _, by rw [World.drewN_drewN]⟩
      · go_wp2
        go_ret
        refine ⟨ret_bool ?_, _, rfl⟩
        have h := T.out
        rw [List.take_of_length_le (by omega), List.take_of_length_le (by have := N.out; omega)] at h
        rw [← R.out, h]; simp
  · have hn' : ((ls.length : Int) != (ms.length : Int)) = true := by simp; omega
    have HN := Lib.hid hn; clear hn hra hrb
    go_enter Tryz.func21, Tryz.ntmps21
    go_wp2
    go_ret
    exact ⟨ret_bool (by rw [← R.out]; symm; rw [decide_eq_false_iff_not]; intro h; subst h; exact HN.out rfl), 0, rfl⟩
end Go.Proofs.YtnlppcjfpmnahaaGreatDoor
/- mailroomlaw12: top, has, sectors. -/
namespace Go.Proofs.YtnlppcjfpmnahaaGreatDoor
set_option linter.all false
open Go.RowKit

def topL (m : Dk) : Int := if m.off = true then -1 else (maxAge (secsL m 0 m.n) : Nat)
theorem topL_on {m : Dk} (h : m.off = false) : topL m = (maxAge (secsL m 0 m.n) : Nat) := by unfold topL; rw [h, if_neg (by simp)]
theorem top12_own {w0 w : World} {L : List Piece} {p : Value} {m : Dk} (O : Own w0 w (dk p m :: L)) (hn : m.n ≤ 1024) :
    Calls Tryz.prog 12 #[p] w fun e w' => e = .returned (.int .i64 (topL m)) ∧ Own w0 w' (dk p m :: L) := by
  have T := top_own O hn
  obtain ⟨b, bn, bw, hp, -⟩ := O.dkE
  subst hp
  unfold Dk.topV at T
  cases ho : m.off
  · rw [ho, if_neg (by simp)] at T
    rw [topL_on ho]
    simp only at T
    generalize ((maxAge (secsL m 0 m.n) : Nat) : Int) = z at T ⊢
    clear O ho
    go_enter Tryz.func12, Tryz.ntmps12
    go_wp2_with fail
    refine T.mono ?_
    rintro _ w1 ⟨rfl, O⟩
    go_wp2
    go_ret
    exact ⟨rfl, O⟩
  · rw [ho, if_pos rfl] at T
    have e : topL m = -1 := by unfold topL; rw [ho, if_pos rfl]
    rw [e]
    clear O ho e
    go_enter Tryz.func12, Tryz.ntmps12
    go_wp2_with fail
    refine T.mono ?_
    rintro _ w1 ⟨rfl, O⟩
    go_wp2
    go_ret
    exact ⟨rfl, O⟩
set_option maxRecDepth 100000 in
set_option maxHeartbeats 2000000 in
theorem has_own {w0 w : World} {L : List Piece} {p : Value} {m : Dk} (O : Own w0 w (dk p m :: L)) (hn : m.n ≤ 1024) (half age : Int) {a : Option Addr} {n cap : Nat} {ls : List (List UInt8)}
    (RD : ∀ w', Own w0 w' (dk p m :: L) → ∃ G, StrsR w' (.slice a n cap) ls G) (hl : ls.length ≤ 1000000) {r : Bool} (hr : decide (m.scan half = (age, ls, 0)) = r) :
    Calls Tryz.prog 19 #[p, .int .i64 half, .int .i64 age, .slice a n cap] w fun e w' => e = .returned (.bool r) ∧ Own w0 w' (dk p m :: L) := by
  have SC := scan_own O hn half
  obtain ⟨b, bn, bw, hp, -⟩ := O.dkE
  have hnl : n = ls.length := by
    obtain ⟨G, a', c', hv, -⟩ := RD w O
    simp only [Value.slice.injEq] at hv
    exact hv.2.1
  have RDH := Lib.hid RD
  clear RD O
  unfold ScanPost at SC
  have hsl : (m.scan half).2.1.length ≤ 1000000000 := by
    have q : ∀ (age : Int) (f : Nat) (p : Int) (l : List (List UInt8)), (recsL age f p l).length ≤ f := by
      intro age f
      induction f with
      | zero => intro p l; simp [recsL]
      | succ f ih => intro p l; rw [recsL]; split; (simp only [List.length_cons]; have := ih (p + joinM l) (l.drop (joinM l)); omega); simp
    have ht : ∀ l : List (List UInt8), (toldL l).2.1.length ≤ l.length := by
      intro l
      unfold toldL
      cases l with
      | nil => simp
      | cons x r => simp only; split; (have := q (getA x) (r.length + 1) 0 (x :: r); simpa using this); simp
    unfold Dk.scan
    split
    · simp
    · split
      · simp
      · have := ht (secsL m (half.toNat * (m.n / 2)) (m.n / 2)); rw [secsL_len] at this; omega
  generalize m.scan half = R at SC hr hsl
  obtain ⟨sa, sl, se⟩ := R
  simp only at SC hsl
  by_cases he : se = 0
  rotate_left
  · obtain rfl : r = false := by rw [← hr]; simp; intro _ _ h; exact he h
    have e1 : (se == 0) = false := by simpa using he
    have e2 : (se != 0) = true := by rw [bne, e1]; rfl
    clear hr he hp
    go_enter Tryz.func19, Tryz.ntmps19
    go_wp2_with fail
    refine SC.mono ?_
    rintro _ w1 ⟨v, rfl, O⟩
    go_wp2
    go_returns
    exact ⟨rfl, O.drop⟩
  subst he
  by_cases ha : sa = age
  rotate_left
  · obtain rfl : r = false := by rw [← hr]; simp; intro h; exact absurd h ha
    have e1 : (sa == age) = false := by simpa using ha
    have e2 : (sa != age) = true := by rw [bne, e1]; rfl
    clear hr ha hp
    go_enter Tryz.func19, Tryz.ntmps19
    go_wp2_with fail
    refine SC.mono ?_
    rintro _ w1 ⟨v, rfl, O⟩
    go_wp2
    go_returns
    exact ⟨rfl, O.drop⟩
  subst ha
  have hr2 : decide (sl = ls) = r := by rw [← hr]; simp
  clear hr
  obtain ⟨N, hN⟩ : ∃ N, N = sl.length := ⟨_, rfl⟩
  by_cases hll : N = n
  rotate_left
  · obtain rfl : r = false := by rw [← hr2]; simp; intro h; apply hll; rw [hN, hnl, h]
    have e1 : ((N : Int) == (n : Int)) = false := by simp; omega
    have e2 : ((N : Int) != (n : Int)) = true := by rw [bne, e1]; rfl
    have HN := Lib.hid hN
    clear hr2 hnl hll hp hN
    go_enter Tryz.func19, Tryz.ntmps19
    go_wp2_with fail
    refine SC.mono ?_
    rintro _ w1 ⟨v, rfl, O⟩
    obtain ⟨a4, c4, rfl⟩ := O.shape
    rw [← HN.out] at O ⊢
    go_wp2
    go_returns
    exact ⟨rfl, O.drop⟩
  subst hll
  have HN := Lib.hid hN
  have HNL := Lib.hid hnl
  have HR := Lib.hid hr2
  have hN9 : N ≤ 1000000 := by omega
  have f1 : (sa == sa) = true := by simp
  have f2 : (sa != sa) = false := by simp
  have f3 : ((N : Int) == (N : Int)) = true := by simp
  have f4 : ((N : Int) != (N : Int)) = false := by simp
  clear hnl hN hr2 hsl hl hp
  go_enter Tryz.func19, Tryz.ntmps19
  go_wp2_with fail
  refine SC.mono ?_
  clear SC
  rintro _ w1 ⟨v, rfl, O⟩
  obtain ⟨a4, c4, rfl⟩ := O.shape
  rw [← HN.out] at O ⊢
  go_wp2_with fail
  go_loopw [12] (fun iv wx => ∃ k : Nat, k ≤ N ∧ iv = .int .i64 k ∧ Hid (sl.take k = ls.take k) ∧ Own w0 wx (strs (.slice a4 N c4) sl :: dk p m :: L)) (fun iv _ => N - (intOf iv).toNat)
  case atStart => exact ⟨0, by omega, rfl, (by unfold Hid; rfl), O⟩
  case round =>
    clear O
    obtain ⟨k, hk, rfl, HT, O⟩ := hrel
    by_cases hlt : k < N
    · have hb1 : (k : Int) < (N : Int) := by omega
      have k1 : k < sl.length := by rw [← HN.out]; exact hlt
      have k2 : k < ls.length := by rw [← HNL.out]; exact hlt
      obtain ⟨g, c5, hv⟩ := O.shapePos (by omega)
      simp only [Value.slice.injEq] at hv
      obtain ⟨rfl, -, -⟩ := hv
      obtain ⟨-, cx, -⟩ := O.readRow k k1
      obtain ⟨G, RR⟩ := RDH.out _ O.drop
      obtain ⟨g2, off, rfl, cy⟩ := RR.read k2
      by_cases he : sl[k] = ls[k]
      · have he1 : (ls[k] == sl[k]) = true := by simp [he]
        have he2 : (ls[k] != sl[k]) = false := by simp [he]
        have NX : Hid (sl.take (k + 1) = ls.take (k + 1)) := by
          unfold Hid; rw [List.take_succ_eq_append_getElem k1, List.take_succ_eq_append_getElem k2, HT.out, he]
        generalize sl[k] = x at cx he1 he2
        generalize ls[k] = y at cy he1 he2
        have O2 := O
        clear he HT k1 k2 O RR
        go_wp2_with fail
        go_quiet (fail)
        go_wp2
        go_roundw
        case rel => exact ⟨k + 1, by omega, by go_num, NX, O2.drewN _⟩
        case measure => simp [intOf]; omega
      · have he1 : (ls[k] == sl[k]) = false := by simp; exact fun h => he h.symm
        have he2 : (ls[k] != sl[k]) = true := by rw [bne, he1]; rfl
        obtain rfl : r = false := by rw [← HR.out]; simp; intro h; subst h; exact he rfl
        generalize sl[k] = x at cx he1 he2
        generalize ls[k] = y at cy he1 he2
        have O2 := O
        clear he HT k1 k2 O RR HR
        go_wp2_with fail
        go_quiet (fail)
        go_wp2
        go_returns
        exact ⟨rfl, (O2.drewN _).drop⟩
    · obtain rfl : k = N := by omega
      have hb1 : ¬ (k : Int) < (k : Int) := by omega
      obtain rfl : r = true := by
        rw [← HR.out]
        have := HT.out
        rw [List.take_of_length_le (by rw [HN.out]; omega), List.take_of_length_le (by rw [← HNL.out]; omega)] at this
        simp [this]
      go_wp2
      go_returns
      exact ⟨rfl, O.drop⟩
end Go.Proofs.YtnlppcjfpmnahaaGreatDoor
/- log, plain: what is written to a disk that is on; what Scan and Top tell then. -/
namespace Go.Proofs.YtnlppcjfpmnahaaGreatDoor
set_option linter.all false
open Go.RowKit

/-- the power is on, and does not fail by itself -/
def Dk.Calm (m : Dk) : Prop := m.off = false ∧ m.left = 0
theorem write_calm {m : Dk} (h : m.Calm) {k : Int} (h0 : 0 ≤ k) (h1 : k < m.n) {s : List UInt8} (hs : s.length = 128) :
    (m.write k s).2 = 0 ∧ (m.write k s).1.Calm ∧ (m.write k s).1.ops = m.ops + 1 ∧ (∀ i, (m.write k s).1.get i = if i = k then s else m.get i) := by
  obtain ⟨h2, h3⟩ := h
  have e : m.write k s = ((m.put k s).did, 0) := by
    unfold Dk.write
    rw [h2, if_neg (by simp), if_neg (by omega)]
  rw [e]
  have hl : (m.put k s).left = 0 := h3
  refine ⟨rfl, ⟨?_, ?_⟩, rfl, fun i => ?_⟩
  · show (if 0 < (m.put k s).left then decide ((m.put k s).left = 1) else (m.put k s).off) = false
    rw [if_neg (by omega)]; exact h2
  · show (m.put k s).left - 1 = 0
    omega
  · show ((upd m.now k (some s)) i).getD zeros = _
    unfold upd
    by_cases q : i = k
    · rw [if_pos q, if_pos q]; rfl
    · rw [if_neg q, if_neg q]; rfl
theorem wr_calm : ∀ (ss : List (List UInt8)) (m : Dk) (k : Int), m.Calm → 0 ≤ k → k + ss.length ≤ m.n → (∀ s ∈ ss, s.length = 128) →
    (wrs m k ss).2 = 0 ∧ (wrs m k ss).1.Calm ∧ (wrs m k ss).1.ops = m.ops + ss.length ∧ (∀ j (h : j < ss.length), (wrs m k ss).1.get (k + j) = ss[j]) ∧ ∀ i, (i < k ∨ k + ss.length ≤ i) → (wrs m k ss).1.get i = m.get i
  | [], m, k, h, _, _, _ => ⟨rfl, h, rfl, fun j hj => by simp at hj, fun _ _ => rfl⟩
  | x :: r, m, k, h, h0, h1, hs => by
    simp only [List.length_cons] at h1
    obtain ⟨w1, w2, w3, w4⟩ := write_calm h h0 (by omega) (hs x (by simp))
    rw [wrs, if_pos w1]
    obtain ⟨i1, i2, i3, i4, i5⟩ := wr_calm r (m.write k x).1 (k + 1) w2 (by omega) (by rw [write_n]; omega) (fun s hs' => hs s (by simp [hs']))
    refine ⟨i1, i2, by rw [i3, w3, List.length_cons]; omega, fun j hj => ?_, fun i hi => ?_⟩
    · cases j with
      | zero =>
        simp only [Int.natCast_zero, Int.add_zero, List.getElem_cons_zero]
        rw [i5 k (by omega), w4, if_pos rfl]
      | succ j =>
        have := i4 j (by simpa using hj)
        rw [List.getElem_cons_succ, ← this]
        congr 1
        push_cast
        omega
    · rw [List.length_cons] at hi
      rw [i5 i (by omega), w4, if_neg (by omega)]
theorem split_128 {age p : Int} {s : List UInt8} : ∀ x ∈ splitL age p s, x.length = 128 := by
  intro x hx
  obtain ⟨i, hi, rfl⟩ := List.mem_iff_getElem.1 hx
  have hi2 : i < manyN s.length := by rw [split_len] at hi; exact hi
  have h := split_at age p s i hi2
  rw [List.getElem?_eq_getElem hi] at h
  rw [Option.some.inj h]
  exact putS_len (by rw [List.length_take]; omega)
/-- the sectors of a half behind a record's writing -/
theorem secsL_wr {m : Dk} {ss : List (List UInt8)} {first many u : Nat} (h : m.Calm) (hu : u + ss.length ≤ many) (hn : first + many ≤ m.n) (hs : ∀ s ∈ ss, s.length = 128) :
    secsL (wrs m ((first + u : Nat) : Int) ss).1 first many = (secsL m first many).take u ++ (ss ++ (secsL m first many).drop (u + ss.length)) := by
  obtain ⟨-, -, -, w4, w5⟩ := wr_calm ss m ((first + u : Nat) : Int) h (by omega) (by omega) hs
  refine List.ext_getElem (by simp [secsL_len]; omega) (fun i h1 h2 => ?_)
  rw [secsL_at]
  have hi : i < many := by rw [secsL_len] at h1; exact h1
  rcases Nat.lt_or_ge i u with q | q
  · rw [List.getElem_append_left (by simp [secsL_len]; omega), List.getElem_take, secsL_at, w5 _ (by omega)]
  · rw [List.getElem_append_right (by simp [secsL_len]; omega)]
    simp only [List.length_take, secsL_len, Nat.min_eq_left (show u ≤ many by omega)]
    rcases Nat.lt_or_ge (i - u) ss.length with q2 | q2
    · rw [List.getElem_append_left q2, ← w4 (i - u) q2]
      congr 1
      push_cast
      omega
    · rw [List.getElem_append_right q2, List.getElem_drop, secsL_at, w5 _ (by omega)]
      congr 2
      omega
theorem secsL_same {m m' : Dk} {first many : Nat} (h : ∀ i : Nat, first ≤ i → i < first + many → m'.get i = m.get i) : secsL m' first many = secsL m first many := by
  unfold secsL
  refine List.map_congr_left (fun i hi => ?_)
  rw [List.mem_range] at hi
  exact h _ (by omega) (by omega)
theorem ageS_getA {y : List UInt8} (h : getB y = true) : getA y ≤ ageS y := by
  unfold ageS
  rw [if_pos (getB_iff.1 h).1]
  unfold getA
  omega
theorem join_old {age : Nat} {p : Int} {tail : List (List UInt8)} (h : ∀ y ∈ tail, ageS y < age) : joinB age p tail = false := by
  cases tail with
  | nil => rfl
  | cons y r =>
    cases e : joinB age p (y :: r) with
    | false => rfl
    | true =>
      obtain ⟨h1, -, h3⟩ := join_need e
      have o := h3 0 (by simp) h1
      simp only [List.getElem_cons_zero] at o
      unfold okAt at o
      simp only [Bool.and_eq_true, decide_eq_true_eq] at o
      have := ageS_getA o.1
      have := h y (by simp)
      omega
theorem recs_row {age : Nat} (ha : 1 ≤ age ∧ age ≤ 4294967295) : ∀ (put : List (List UInt8)) (p : Nat) (tail : List (List UInt8)), p + rowN put ≤ 1024 → joinB age ((p + rowN put : Nat) : Int) tail = false →
    recsL age (rowAll age p put ++ tail).length p (rowAll age p put ++ tail) = put
  | [], p, tail, _, ht => by
    simp only [rowAll, List.nil_append, rowN, Nat.add_zero] at ht ⊢
    cases hl : tail.length with
    | zero => rw [recsL]
    | succ n => rw [recsL, ht]; rfl
  | t :: r, p, tail, hp, ht => by
    simp only [rowN] at hp ht
    have hm := many_pos t.length
    have ok : RecOk (age : Int) (p : Int) t := ⟨mayB_iff.2 ⟨by omega, by omega, by omega, by omega⟩, by omega⟩
    obtain ⟨j1, j2, j3⟩ := join_split ok (rowAll age (p + manyN t.length) r ++ tail)
    have e : rowAll (age : Int) p (t :: r) ++ tail = splitL age p t ++ (rowAll age (p + manyN t.length) r ++ tail) := by rw [rowAll, List.append_assoc]
    rw [e]
    have hl : (splitL (age : Int) p t ++ (rowAll age (p + manyN t.length) r ++ tail)).length = ((manyN t.length - 1) + (rowAll (age : Int) (p + manyN t.length) r ++ tail).length) + 1 := by rw [List.length_append, split_len]; omega
    rw [hl, recsL, if_pos j1, j2, j3]
    congr 1
    rw [List.drop_append_of_le_length (by rw [split_len]; omega), List.drop_of_length_le (by rw [split_len]; omega), List.nil_append]
    rw [recsL_fuel _ _ _ _ (by omega)]
    have := recs_row ha r (p + manyN t.length) tail (by omega) (by rw [Nat.add_assoc]; exact ht)
    push_cast at this
    exact this
theorem told_row {age : Nat} (ha : 1 ≤ age ∧ age ≤ 4294967295) {put tail : List (List UInt8)} (hne : put ≠ []) (hp : rowN put ≤ 1024) (ht : joinB age (rowN put) tail = false) :
    toldL (rowAll age 0 put ++ tail) = ((age : Int), put, 0) := by
  have hr := recs_row ha put 0 tail (by omega) (by simpa using ht)
  match put, hne with
  | t :: r, _ =>
    have hm := many_pos t.length
    simp only [rowN] at hp
    have mb : mayB (age : Int) 0 = true := mayB_iff.2 ⟨by omega, by omega, by omega, by omega⟩
    have h112 : ((allL t).take 112).length ≤ 112 := by rw [List.length_take]; omega
    have gA : (getA (firstL age 0 t) : Int) = age := putS_A mb
    have gP : (getP (firstL age 0 t) : Int) = 0 := putS_P mb
    have gB : getB (firstL age 0 t) = true := putS_B mb h112
    have e : rowAll (age : Int) 0 (t :: r) ++ tail = firstL age 0 t :: (restL age 0 t ++ (rowAll age (0 + manyN t.length) r ++ tail)) := by rw [rowAll, split_cons]; simp
    rw [show ((0 : Nat) : Int) = 0 from rfl, e, List.length_cons] at hr
    rw [e]
    unfold toldL
    have gA' : ((getA (firstL (age : Int) 0 t) : Nat) : Int) = age := gA
    simp only
    rw [gA', hr, if_pos ⟨gB, by omega, by simp⟩]
/-- what is known of a log whose half it alone writes to, since m0 -/
structure Lg.Is (l : Lg) (m0 m : Dk) (put : List (List UInt8)) : Prop where
  on : l.On m
  n : m.n = m0.n
  lon : l.off = false
  calm : m.Calm
  used : l.used = rowN put
  sec : secsL m l.first l.many = rowAll l.age 0 put ++ (secsL m0 l.first l.many).drop (rowN put)
  out : ∀ i : Nat, (i < l.first ∨ l.first + l.many ≤ i) → m.get i = m0.get i
theorem Lg.Is.write {l : Lg} {m0 m : Dk} {put : List (List UInt8)} (h : l.Is m0 m put) (s : List UInt8) (hk : l.used + manyN s.length ≤ l.many) :
    ∃ l' m', l.write m s = (l', m', 0) ∧ l'.Is m0 m' (put ++ [s]) ∧ l'.used = l.used + manyN s.length ∧ m'.ops = m.ops + manyN s.length ∧ l'.first = l.first ∧ l'.many = l.many ∧ l'.age = l.age := by
  obtain ⟨h1, h2, h3, h4, h5, h6, h7⟩ := h
  have hr := h1.room
  have sl := split_len (l.age : Int) (l.used : Int) s
  obtain ⟨w1, w2, w3, w4, w5⟩ := wr_calm (splitL l.age l.used s) m ((l.first + l.used : Nat) : Int) h4 (by omega) (by rw [sl]; omega) split_128
  have e : l.write m s = ({ l with used := l.used + manyN s.length }, (wrs m (l.first + l.used : Nat) (splitL l.age l.used s)).1, 0) := by
    unfold Lg.write
    rw [if_neg (by omega), if_pos w1]
  have on' := h1.write s
  rw [e] at on'
  refine ⟨_, _, e, ⟨on', by rw [wr_n]; exact h2, h3, w2, by simp only; rw [rowN_snoc, h5], ?_, fun i hi => ?_⟩, rfl, by rw [w3, sl], rfl, rfl, rfl⟩
  · simp only
    rw [secsL_wr h4 (by rw [sl]; exact hk) hr split_128, h6, sl, rowAll_snoc, rowN_snoc, h5]
    have rl : (rowAll (l.age : Int) 0 put).length = rowN put := rowAll_len _ _ _
    rw [List.take_append_of_le_length (by omega), List.take_of_length_le (by omega), List.drop_append, rl, List.drop_of_length_le (by omega), List.nil_append, List.drop_drop, List.append_assoc]
    congr 2
    · simp
    · congr 1; omega
  · simp only at hi
    rw [w5 _ (by rw [sl]; omega)]
    exact h7 i hi
theorem Lg.Is.full {l : Lg} {m : Dk} {s : List UInt8} (hk : ¬ l.used + manyN s.length ≤ l.many) : l.write m s = (l, m, 41) := by
  unfold Lg.write; rw [if_pos (by omega)]
theorem Lg.Is.scan {l : Lg} {m0 m : Dk} {put : List (List UInt8)} (h : l.Is m0 m put) (hne : put ≠ []) (hold : ∀ y ∈ secsL m0 l.first l.many, ageS y < l.age) (hm : l.many ≤ 1024) :
    toldL (secsL m l.first l.many) = ((l.age : Int), put, 0) := by
  rw [h.sec]
  have hu := h.on.used
  rw [h.used] at hu
  exact told_row h.on.age hne (by omega) (join_old (fun y hy => hold y (List.mem_of_mem_drop hy)))
theorem row_age {age : Nat} (ha : 1 ≤ age ∧ age ≤ 4294967295) : ∀ (put : List (List UInt8)) (p : Nat), p + rowN put ≤ 1024 → ∀ y ∈ rowAll age p put, ageS y = age
  | [], p, _, y, hy => by simp [rowAll] at hy
  | t :: r, p, hp, y, hy => by
    simp only [rowN] at hp
    rw [rowAll] at hy
    rcases List.mem_append.1 hy with hy | hy
    · obtain ⟨i, hi, rfl⟩ := List.mem_iff_getElem.1 hy
      have hi2 : i < manyN t.length := by rw [split_len] at hi; exact hi
      have h := split_at (age : Int) p t i hi2
      rw [List.getElem?_eq_getElem hi] at h
      rw [Option.some.inj h]
      have := putS_age (age := (age : Int)) (place := (p : Int) + i) (s := ((allL t).drop (112 * i)).take 112) (mayB_iff.2 ⟨by omega, by omega, by omega, by omega⟩) (by rw [List.length_take]; omega)
      omega
    · have := row_age ha r (p + manyN t.length) (by omega) y (by push_cast; exact hy)
      exact this
theorem Lg.Is.top {l : Lg} {m0 m : Dk} {put : List (List UInt8)} (h : l.Is m0 m put) (hne : put ≠ []) (hold : ∀ y ∈ secsL m0 0 m0.n, ageS y < l.age) (hm : l.many ≤ 1024) :
    maxAge (secsL m 0 m.n) = l.age := by
  have hr := h.on.room
  have hn := h.n
  have hu := h.on.used
  rw [h.used] at hu
  have hpos : 0 < rowN put := by
    match put, hne with
    | t :: r, _ => have := many_pos t.length; simp only [rowN]; omega
  have ra := row_age h.on.age put 0 (by omega)
  have each : ∀ i : Nat, i < m.n → (l.first ≤ i → i < l.first + l.many → (i - l.first < rowN put → ageS (m.get i) = l.age) ∧ (rowN put ≤ i - l.first → ageS (m.get i) < l.age)) ∧ (i < l.first ∨ l.first + l.many ≤ i → ageS (m.get i) < l.age) := by
    intro i hi
    refine ⟨fun q1 q2 => ?_, fun q => ?_⟩
    · have hl : i - l.first < (secsL m l.first l.many).length := by rw [secsL_len]; omega
      have e := secsL_at m l.first l.many (i - l.first) hl
      rw [show l.first + (i - l.first) = i by omega] at e
      rw [← e]
      have rl : (rowAll (l.age : Int) 0 put).length = rowN put := rowAll_len _ _ _
      refine ⟨fun q3 => ?_, fun q3 => ?_⟩
      · have : (secsL m l.first l.many)[i - l.first] ∈ rowAll (l.age : Int) (0 : Nat) put := by
          simp only [h.sec]
          rw [List.getElem_append_left (by rw [rl]; omega)]
          exact List.getElem_mem _
        exact ra _ this
      · have : (secsL m l.first l.many)[i - l.first] ∈ (secsL m0 l.first l.many).drop (rowN put) := by
          simp only [h.sec]
          rw [List.getElem_append_right (by rw [rl]; omega)]
          exact List.getElem_mem _
        have h2 := List.mem_of_mem_drop this
        obtain ⟨j, hj, e2⟩ := List.mem_iff_getElem.1 h2
        rw [secsL_at] at e2
        rw [secsL_len] at hj
        refine hold _ (List.mem_iff_getElem.2 ⟨l.first + j, by rw [secsL_len]; omega, ?_⟩)
        rw [secsL_at, ← e2]
        congr 2; omega
    · rw [h.out i q]
      refine hold _ (List.mem_iff_getElem.2 ⟨i, by rw [secsL_len]; omega, ?_⟩)
      rw [secsL_at]
      congr 2; omega
  refine Nat.le_antisymm (maxAge_le _ 0 _ (by omega) (fun s hs => ?_)) ?_
  · obtain ⟨i, hi, rfl⟩ := List.mem_iff_getElem.1 hs
    rw [secsL_at]
    rw [secsL_len] at hi
    simp only [Nat.zero_add]
    obtain ⟨e1, e2⟩ := each i hi
    by_cases q : l.first ≤ i ∧ i < l.first + l.many
    · obtain ⟨e3, e4⟩ := e1 q.1 q.2
      by_cases q3 : i - l.first < rowN put
      · have := e3 q3; omega
      · have := e4 (by omega); omega
    · have := e2 (by omega); omega
  · have hi : l.first < m.n := by omega
    have := ((each l.first hi).1 (by omega) (by omega)).1 (by omega)
    rw [← this]
    refine maxAge_mem (List.mem_iff_getElem.2 ⟨l.first, by rw [secsL_len]; exact hi, ?_⟩)
    rw [secsL_at]
    congr 2; omega
theorem Lg.start_is {m : Dk} {half age : Int} (hc : m.Calm) (h : ¬ (half < 0 ∨ 1 < half ∨ age < 1 ∨ 4294967295 < age)) : (Lg.start m half age).Is m m [] :=
  ⟨Lg.start_on h, rfl, rfl, hc, rfl, by simp [rowAll, rowN], fun _ _ => rfl⟩
end Go.Proofs.YtnlppcjfpmnahaaGreatDoor
/- mailroomlaw12: works, sectors. -/
namespace Go.Proofs.YtnlppcjfpmnahaaGreatDoor
set_option linter.all false
open Go.RowKit

theorem write_fits {l : Lg} {m : Dk} {c : Nat} (h : m.Fit c) (s : List UInt8) : (l.write m s).2.1.Fit (c + l.many) := by
  unfold Lg.write
  split
  · exact h.mono (by omega)
  · rename_i hn
    have := wr_fit (splitL l.age l.used s) m ((l.first + l.used : Nat) : Int) c h
    rw [split_len] at this
    split
    · exact this.mono (by omega)
    · exact this.mono (by omega)
theorem add_fits {l : Lg} {m : Dk} {c : Nat} (h : m.Fit c) (s : List UInt8) : (l.add m s).2.1.Fit (c + l.many) := by
  unfold Lg.add; split
  · exact h.mono (by omega)
  · exact write_fits h s
theorem calm_new (n : Nat) : (Dk.new n).Calm := ⟨rfl, rfl⟩
/-- the example's logs -/
structure WorksP (l1 l2 : Lg) (m1 m2 : Dk) : Prop where
  bg : beginV (Dk.new 4) 1 1 [115] = (some l1, m1, 0)
  ad : l1.add m1 [114] = (l2, m2, 0)
  full : l2.add m2 [] = (l2, m2, 41)
  on1 : l1.On m1
  on2 : l2.On m2
  f1 : m1.Fit 10
  f2 : m2.Fit 20
  r1 : l1.many = 2 ∧ l1.used = 1
  r2 : l2.many = 2 ∧ l2.used = 2
  n2 : m2.n = 4
  s0 : (m2.scan 0).2.2 = 5
  s1 : m2.scan 1 = (1, [[115], [114]], 0)
  tp : topL m2 = 1
theorem zeros_age : ageS zeros = 0 := by kernel_rfl
theorem told_zero : toldL [zeros, zeros] = (0, [], 5) := by kernel_rfl
theorem zeros_told : toldL [zeros, zeros] = (0, [], 5) := told_zero
theorem works_plain : ∃ l1 l2 m1 m2, WorksP l1 l2 m1 m2 := by
  have hb : ¬ ((1 : Int) < 0 ∨ 1 < (1 : Int) ∨ (1 : Int) < 1 ∨ 4294967295 < (1 : Int)) := by omega
  have I0 := Lg.start_is (m := Dk.new 4) (calm_new 4) hb
  have st : Lg.start (Dk.new 4) 1 1 = ⟨2, 2, 1, 0, false⟩ := rfl
  rw [st] at I0
  obtain ⟨l1, m1, w1, I1, u1, -, a1, a2, a3⟩ := I0.write [115] (by decide)
  obtain ⟨l2, m2, w2, I2, u2, -, b1, b2, b3⟩ := I1.write [114] (by rw [u1, a2]; decide)
  simp only at u1 a1 a2 a3
  rw [show manyN ([115] : List UInt8).length = 1 from rfl] at u1
  rw [show manyN ([114] : List UInt8).length = 1 from rfl] at u2
  have hf0 := Fit.new (n := 4) (by omega)
  have f1 := write_fits (l := ⟨2, 2, 1, 0, false⟩) hf0 [115]
  rw [w1] at f1
  have f2 := write_fits (l := l1) f1 [114]
  rw [w2] at f2
  have n2 : m2.n = 4 := I2.n
  have old : ∀ y ∈ secsL (Dk.new 4) 0 4, ageS y < l2.age := by
    intro y hy
    have e : secsL (Dk.new 4) 0 4 = [zeros, zeros, zeros, zeros] := rfl
    rw [e] at hy
    have : y = zeros := by simpa using hy
    subst this
    have : ageS zeros = 0 := zeros_age
    rw [this, b3, a3]; omega
  have old2 : ∀ y ∈ secsL (Dk.new 4) l2.first l2.many, ageS y < l2.age := by
    intro y hy
    refine old y ?_
    have e : secsL (Dk.new 4) l2.first l2.many = [zeros, zeros] := by rw [b1, a1, b2, a2]; rfl
    rw [e] at hy
    have : y = zeros := by simpa using hy
    subst this
    show zeros ∈ [zeros, zeros, zeros, zeros]
    simp
  have T := I2.top (by simp) old (by rw [b2, a2]; omega)
  have S := I2.scan (by simp) old2 (by rw [b2, a2]; omega)
  rw [b1, b2, a1, a2, b3, a3] at S
  refine ⟨l1, l2, m1, m2, ⟨?_, ?_, ?_, I1.on, I2.on, f1.mono (by simp), f2.mono (by rw [a2]; simp), ⟨a2, u1⟩, ⟨by rw [b2, a2], by rw [u2, u1]⟩, n2, ?_, ?_, ?_⟩⟩
  · unfold beginV; rw [if_neg hb, st, w1, if_pos rfl]
  · unfold Lg.add; rw [I1.lon, w2]; rfl
  · unfold Lg.add; rw [I2.lon]
    simp only [Bool.false_eq_true, if_false]
    exact Lg.Is.full (by rw [u2, u1, b2, a2]; decide)
  · unfold Dk.scan
    rw [if_neg (by omega), I2.calm.1, if_neg (by simp), n2]
    have e : secsL m2 ((0 : Int).toNat * (4 / 2)) (4 / 2) = [zeros, zeros] := by
      have := secsL_same (m := Dk.new 4) (m' := m2) (first := 0) (many := 2) (fun i h1 h2 => I2.out i (.inl (by rw [b1, a1]; omega)))
      exact this
    rw [e, zeros_told]
  · unfold Dk.scan
    rw [if_neg (by omega), I2.calm.1, if_neg (by simp), n2]
    exact S
  · rw [topL_on I2.calm.1, T, b3, a3]; rfl
set_option maxRecDepth 100000 in
set_option maxHeartbeats 4000000 in
theorem works12_own {w0 w : World} {L : List Piece} (O : Own w0 w L) :
    Calls Tryz.prog 6 #[] w fun e w' => e = .returned (.bool true) ∧ Own w0 w' L := by
  obtain ⟨l1, l2, m1, m2, P⟩ := works_plain
  have NW := new_own O 4 (by omega) (by omega)
  rw [show ((4 : Nat) : Int) = 4 from rfl] at NW
  have HF := fun w => half_good 4 (by omega) 1 (by omega) w
  simp only [show ((4 : Nat) : Int) = 4 from rfl, show ((1 : Nat) : Int) = 1 from rfl, show ((1 * (4 / 2) : Nat) : Int) = 2 from rfl, show ((4 / 2 : Nat) : Int) = 2 from rfl] at HF
  have BG := Lib.hid (fun (w' : World) (b : Nat) (h : Own w0 w' (dk (.pointer (some ⟨b, 0, none⟩)) (Dk.new 4) :: L)) => by
    have := begin_own h (Fit.new (n := 4) (by omega)) (by show 0 + 4 ≤ 9000; omega) 1 1 [115] (by decide)
    rw [P.bg] at this
    exact this)
  unfold BeginPost at BG
  simp only at BG
  have A1 := Lib.hid (fun (w' : World) (q : Nat) (p : Value) (L' : List Piece) (h : Own w0 w' (lgb q l1 p :: dk p m1 :: L')) => by
    have := add_own h P.on1 P.f1 (by rw [P.r1.1]; omega) [114] (by decide)
    unfold AddPost at this
    rw [P.ad] at this
    exact this)
  have A2 := Lib.hid (fun (w' : World) (q : Nat) (p : Value) (L' : List Piece) (h : Own w0 w' (lgb q l2 p :: dk p m2 :: L')) => by
    have := add_own h P.on2 P.f2 (by rw [P.r2.1]; omega) [] (by decide)
    unfold AddPost at this
    rw [P.full] at this
    exact this)
  have R1 := Lib.hid (fun (w' : World) (q : Nat) (p : Value) (L' : List Piece) (h : Own w0 w' (lgb q l1 p :: L')) => by
    have := room_own h (by rw [P.r1.1, P.r1.2]; omega) (by rw [P.r1.1]; omega)
    rw [P.r1.1, P.r1.2] at this
    exact this)
  have R2 := Lib.hid (fun (w' : World) (q : Nat) (p : Value) (L' : List Piece) (h : Own w0 w' (lgb q l2 p :: L')) => by
    have := room_own h (by rw [P.r2.1, P.r2.2]; omega) (by rw [P.r2.1]; omega)
    rw [P.r2.1, P.r2.2] at this
    exact this)
  have SC := Lib.hid (fun (w' : World) (p : Value) (L' : List Piece) (h : Own w0 w' (dk p m2 :: L')) => scan_own h (by rw [P.n2]; omega) 0)
  have HS := Lib.hid (fun (w' : World) (p : Value) (G : Nat) (L' : List Piece) (h : Own w0 w' (dk p m2 :: box G #[.string ⟨#[115]⟩, .string ⟨#[114]⟩] 9 :: L')) => has_own h (by rw [P.n2]; omega) 1 1 (a := some ⟨G, 0, none⟩) (n := 2) (cap := 2) (ls := [[115], [114]])
    (fun w2 h2 => ⟨[G], strsR_at [[115], [114]] (h2.pick 1).obj rfl 2 rfl⟩) (by decide) (r := true) (by rw [P.s1]; rfl))
  have TP := Lib.hid (fun (w' : World) (p : Value) (L' : List Piece) (h : Own w0 w' (dk p m2 :: L')) => by
    have := top12_own h (by rw [P.n2]; omega)
    rw [P.tp] at this
    exact this)
  unfold ScanPost at SC
  have hs0 := P.s0
  generalize m2.scan 0 = R at SC hs0
  obtain ⟨ra, rl, re⟩ := R
  simp only at SC hs0
  subst hs0
  clear P
  go_enter Tryz.func6, Tryz.ntmps6
  go_wp2_with fail
  refine NW.mono ?_
  clear NW O
  rintro _ w1 ⟨b, rfl, O⟩
  go_wp2_with fail
  refine (HF _).mono ?_
  clear HF
  rintro _ w2 ⟨rfl, rfl⟩
  go_wp2_with fail
  refine (BG.out _ _ O).mono ?_
  clear BG O
  rintro _ w3 ⟨q, rfl, O⟩
  go_wp2_with fail
  refine (R1.out _ _ _ _ O).mono ?_
  clear R1
  rintro _ w4 ⟨rfl, n1, rfl⟩
  replace O := O.drewN n1
  generalize w3.drewN n1 = W at O ⊢
  go_wp2_with fail
  refine (A1.out _ _ _ _ O).mono ?_
  clear A1 O
  rintro _ w5 ⟨rfl, O⟩
  go_wp2_with fail
  refine (R2.out _ _ _ _ O).mono ?_
  clear R2
  rintro _ w6 ⟨rfl, n2, rfl⟩
  replace O := O.drewN n2
  generalize w5.drewN n2 = W2 at O ⊢
  go_wp2_with fail
  refine (A2.out _ _ _ _ O).mono ?_
  clear A2 O
  rintro _ w7 ⟨rfl, O⟩
  have O := O.drop
  go_wp2_with fail
  refine (SC.out _ _ _ O).mono ?_
  clear SC O
  rintro _ w8 ⟨v, rfl, O⟩
  have O1 := O.drop.newBox #[.string ⟨#[115]⟩, .string ⟨#[114]⟩] 9
  have O2 := O1.pick 1
  clear O O1
  go_wp2_with fail
  refine (HS.out _ _ _ _ O2).mono ?_
  clear HS O2
  rintro _ w9 ⟨rfl, O⟩
  go_wp2_with fail
  refine (TP.out _ _ _ O).mono ?_
  clear TP O
  rintro _ w10 ⟨rfl, O⟩
  go_wp2
  go_ret
  exact ⟨rfl, O.drop.drop⟩
end Go.Proofs.YtnlppcjfpmnahaaGreatDoor
/- mailroomlaw12: long, many, text. -/
namespace Go.Proofs.YtnlppcjfpmnahaaGreatDoor
set_option linter.all false
open Go.RowKit

def stN (s : St) : Nat := 30 + min 3000 s.keep.length + min 3000 s.s.length
def sumSt (l : List St) : Nat := (l.map stN).sum
theorem sumSt_snoc (l : List St) (s : St) : sumSt (l ++ [s]) = sumSt l + stN s := by simp [sumSt]
theorem sumSt_mem {l : List St} {s : St} (h : s ∈ l) : stN s ≤ sumSt l := by
  obtain ⟨a, b, rfl⟩ := List.append_of_mem h
  simp [sumSt]; omega
theorem sumSt_len (l : List St) : 30 * l.length ≤ sumSt l := by
  induction l with
  | nil => simp
  | cons a l ih =>
    have h : 30 ≤ stN a := by unfold stN; omega
    have e : sumSt (a :: l) = stN a + sumSt l := by simp [sumSt]
    rw [e, List.length_cons]
    omega
def Long12 (w0 : World) (L : List Piece) (l : List St) (e : Ending) (w' : World) : Prop := ∃ r, e = .returned (.bool r) ∧ Own w0 w' L ∧ (r = false → sumSt l < 3000)
set_option maxRecDepth 100000 in
set_option maxHeartbeats 1000000 in
theorem long12_own {w0 w : World} {L : List Piece} (O : Own w0 w L) {a : Option Addr} {N cap : Nat} {l : List St} {G : List Nat} (hv : StepsR w0 (.slice a N cap) l G) (hl : N ≤ maxLen) (hwf : ∀ s ∈ l, s.Wf) :
    Calls Tryz.prog 7 #[.slice a N cap] w (Long12 w0 L l) := by
  have hN := hv.len
  have hl2 : N ≤ 9223372036854775807 := hl
  have HV := Lib.hid hv
  have HW := Lib.hid hwf
  have HN := Lib.hid hN
  clear hv hl hwf hN
  go_enter Tryz.func7, Tryz.ntmps7
  go_wp2_with fail
  go_loopw [3, 4] (fun nv iv wx => ∃ k n : Nat, nv = .int .i64 (n : Int) ∧ iv = .int .i64 k ∧ k ≤ N ∧ Hid (n = sumSt (l.take k)) ∧ n ≤ 9100 ∧ Own w0 wx L) (fun _ iv _ => N - (intOf iv).toNat)
  case atStart => exact ⟨0, 0, rfl, rfl, by omega, rfl, by omega, O⟩
  case round =>
    clear O
    obtain ⟨k, n, rfl, rfl, hk, HS, hn, O⟩ := hrel
    by_cases hlt : k < N
    · have hb1 : (k : Int) < (N : Int) := by omega
      by_cases hlt2 : n < 3000
      · have hb2 : (n : Int) < 3000 := by omega
        have hx : k < l.length := by rw [← HN.out]; exact hlt
        obtain ⟨g, off, e1, hc⟩ := (HV.out.keep O.chg (by simp)).at hx
        subst e1
        have NX : Hid (n + stN l[k] = sumSt (l.take (k + 1))) := by
          unfold Hid; rw [List.take_succ_eq_append_getElem hx, sumSt_snoc, HS.out]
        have sw : l[k].Wf := HW.out _ (List.getElem_mem hx)
        generalize l[k] = s at hc NX sw
        clear hx HS
        have c3 := hc.c3
        have c5 := hc.c5
        have hkl : s.keep.length ≤ 9223372036854775807 := sw.keep.1
        unfold stN at NX
        obtain ⟨q1, hq1⟩ : ∃ q : Nat, q = min 3000 s.keep.length := ⟨_, rfl⟩
        obtain ⟨q2, hq2⟩ : ∃ q : Nat, q = min 3000 s.s.length := ⟨_, rfl⟩
        have m1 : min (3000 : Int) (s.keep.length : Int) = (q1 : Int) := by omega
        have m2 : min (3000 : Int) (s.s.length : Int) = (q2 : Int) := by omega
        have b1 : q1 ≤ 3000 := by omega
        have b2 : q2 ≤ 3000 := by omega
        rw [← hq1, ← hq2] at NX
        clear hc sw hq1 hq2
        have O2 := O
        clear O
        go_wp2_with fail
        go_quiet (fail)
        go_wp2
        go_roundw
        case rel => exact ⟨k + 1, n + (30 + q1 + q2), by go_num, by go_num, by omega, NX, by omega, O2.drewN _⟩
        case measure => simp [intOf]; omega
      · have hb2 : ¬ (n : Int) < 3000 := by omega
        have hb3 : (3000 : Int) ≤ (n : Int) := by omega
        go_wp2
        go_ret
        exact ⟨true, rfl, O, by simp⟩
    · have hb1 : ¬ (k : Int) < (N : Int) := by omega
      have e : sumSt (l.take k) = sumSt l := by rw [List.take_of_length_le (by have := HN.out; omega)]
      by_cases hlt2 : n < 3000
      · have hb3 : ¬ (3000 : Int) ≤ (n : Int) := by omega
        have FIN : Hid (sumSt l < 3000) := by unfold Hid; rw [← e, ← HS.out]; exact hlt2
        clear e HS
        go_wp2
        go_ret
        exact ⟨false, rfl, O, fun _ => FIN.out⟩
      · have hb3 : (3000 : Int) ≤ (n : Int) := by omega
        clear e HS
        go_wp2
        go_ret
        exact ⟨true, rfl, O, by simp⟩
def sumMn (l : List (List UInt8)) : Nat := (l.map fun s => 10 + min 9000 s.length).sum
theorem sumMn_snoc (l : List (List UInt8)) (s : List UInt8) : sumMn (l ++ [s]) = sumMn l + (10 + min 9000 s.length) := by simp [sumMn]
theorem sumMn_mem {l : List (List UInt8)} {s : List UInt8} (h : s ∈ l) : 10 + min 9000 s.length ≤ sumMn l := by
  obtain ⟨a, b, rfl⟩ := List.append_of_mem h
  simp [sumMn]; omega
def Many12 (w0 : World) (L : List Piece) (l : List (List UInt8)) (e : Ending) (w' : World) : Prop := ∃ r, e = .returned (.bool r) ∧ Own w0 w' L ∧ (r = false → sumMn l < 9000)
set_option maxRecDepth 100000 in
set_option maxHeartbeats 1000000 in
theorem many12_own {w0 w : World} {L : List Piece} (O : Own w0 w L) {a : Option Addr} {N cap : Nat} {l : List (List UInt8)} {G : List Nat} (hv : StrsR w0 (.slice a N cap) l G) (hN : N = l.length) (hl : N ≤ maxLen) :
    Calls Tryz.prog 8 #[.slice a N cap] w (Many12 w0 L l) := by
  have hl2 : N ≤ 9223372036854775807 := hl
  have HV := Lib.hid hv
  have HN := Lib.hid hN
  clear hv hl hN
  go_enter Tryz.func8, Tryz.ntmps8
  go_wp2_with fail
  go_loopw [3, 4] (fun nv iv wx => ∃ k n : Nat, nv = .int .i64 (n : Int) ∧ iv = .int .i64 k ∧ k ≤ N ∧ Hid (n = sumMn (l.take k)) ∧ n ≤ 20000 ∧ Own w0 wx L) (fun _ iv _ => N - (intOf iv).toNat)
  case atStart => exact ⟨0, 0, rfl, rfl, by omega, rfl, by omega, O⟩
  case round =>
    clear O
    obtain ⟨k, n, rfl, rfl, hk, HS, hn, O⟩ := hrel
    by_cases hlt : k < N
    · have hb1 : (k : Int) < (N : Int) := by omega
      by_cases hlt2 : n < 9000
      · have hb2 : (n : Int) < 9000 := by omega
        have hx : k < l.length := by rw [← HN.out]; exact hlt
        obtain ⟨g, off, e1, hc⟩ := (HV.out.keep O.chg (by simp)).read hx
        subst e1
        have NX : Hid (n + (10 + min 9000 l[k].length) = sumMn (l.take (k + 1))) := by
          unfold Hid; rw [List.take_succ_eq_append_getElem hx, sumMn_snoc, HS.out]
        generalize l[k] = s at hc NX
        clear hx HS
        obtain ⟨q1, hq1⟩ : ∃ q : Nat, q = min 9000 s.length := ⟨_, rfl⟩
        have m1 : min (9000 : Int) (s.length : Int) = (q1 : Int) := by omega
        have b1 : q1 ≤ 9000 := by omega
        rw [← hq1] at NX
        clear hq1
        go_wp2
        go_roundw
        case rel => exact ⟨k + 1, n + (10 + q1), by go_num, by go_num, by omega, NX, by omega, O⟩
        case measure => simp [intOf]; omega
      · have hb2 : ¬ (n : Int) < 9000 := by omega
        have hb3 : (9000 : Int) ≤ (n : Int) := by omega
        go_wp2
        go_ret
        exact ⟨true, rfl, O, by simp⟩
    · have hb1 : ¬ (k : Int) < (N : Int) := by omega
      have e : sumMn (l.take k) = sumMn l := by rw [List.take_of_length_le (by have := HN.out; omega)]
      by_cases hlt2 : n < 9000
      · have hb3 : ¬ (9000 : Int) ≤ (n : Int) := by omega
        have FIN : Hid (sumMn l < 9000) := by unfold Hid; rw [← e, ← HS.out]; exact hlt2
        clear e HS
        go_wp2
        go_ret
        exact ⟨false, rfl, O, fun _ => FIN.out⟩
      · have hb3 : (9000 : Int) ≤ (n : Int) := by omega
        clear e HS
        go_wp2
        go_ret
        exact ⟨true, rfl, O, by simp⟩
/-- a step's text -/
def txR (s : List UInt8) (many : Int) : Nat → Nat → List UInt8 → List UInt8
  | 0, _, out => out
  | f + 1, i, out => if (i : Int) < many ∧ out.length < 1500 then txR s many f (i + 1) (out ++ s) else out
def textL (s : St) : List UInt8 := txR s.s s.many 40 0 []
theorem txR_len (s : List UInt8) (many : Int) : ∀ (f i : Nat) (out : List UInt8), out.length ≤ 1500 + s.length → (txR s many f i out).length ≤ 1500 + s.length
  | 0, _, out, h => h
  | f + 1, i, out, h => by
    rw [txR]; split
    · rename_i q
      exact txR_len s many f (i + 1) (out ++ s) (by rw [List.length_append]; omega)
    · exact h
theorem textL_len (s : St) : (textL s).length ≤ 1500 + s.s.length := txR_len _ _ _ _ _ (by simp)
set_option maxRecDepth 100000 in
set_option maxHeartbeats 1000000 in
theorem text12_own {w0 w : World} {L : List Piece} (O : Own w0 w L) (s : St) (hs : s.s.length ≤ 3000) (hm : (Lit.int .i64 s.many).wf = true) :
    Calls Tryz.prog 33 #[.agg #[.int .u8 s.what, .int .i64 s.half, .int .i64 s.age, .string ⟨s.s.toArray⟩, .int .i64 s.many, .slice s.ka s.keep.length s.kc]] w fun e w' => e = .returned (.string ⟨(textL s).toArray⟩) ∧ Own w0 w' L := by
  have O1 := O.newBox #[.int .u8 s.what, .int .i64 s.half, .int .i64 s.age, .string ⟨s.s.toArray⟩, .int .i64 s.many, .slice s.ka s.keep.length s.kc] 69
  obtain ⟨B, hB⟩ : ∃ b, b = w.heap.size := ⟨_, rfl⟩
  rw [← hB] at O1
  have HR : Hid (textL s = txR s.s s.many (40 - 0) 0 []) := rfl
  obtain ⟨R, hR⟩ : ∃ R, R = textL s := ⟨_, rfl⟩
  rw [← hR] at HR ⊢
  have c3 := O1.cell 3
  have c4 := O1.cell 4
  clear O hR c3 c4
  go_enter Tryz.func33, Tryz.ntmps33
  go_upto_region 1 with fail
  rw [← hB]
  clear hB
  generalize (w.alloc (.cells #[.int .u8 s.what, .int .i64 s.half, .int .i64 s.age, .string ⟨s.s.toArray⟩, .int .i64 s.many, .slice s.ka s.keep.length s.kc] 69)) = W at O1 ⊢
  go_wp2_with fail
  go_loopw [3, 4] (fun ov iv wx => ∃ (i : Nat) (out : List UInt8), ov = .string ⟨out.toArray⟩ ∧ iv = .int .i64 i ∧ i ≤ 40 ∧ out.length ≤ 1500 + s.s.length ∧ Hid (R = txR s.s s.many (40 - i) i out) ∧ Own w0 wx (box B #[.int .u8 s.what, .int .i64 s.half, .int .i64 s.age, .string ⟨s.s.toArray⟩, .int .i64 s.many, .slice s.ka s.keep.length s.kc] 69 :: L)) (fun _ iv _ => 40 - (intOf iv).toNat)
  case atStart => exact ⟨0, [], rfl, rfl, by omega, by simp, HR, O1⟩
  case round =>
    clear O1 HR
    obtain ⟨i, out, rfl, rfl, hi, hol, HR, O⟩ := hrel
    have c3 := O.cell 3
    have c4 : wr.cell? ⟨B, 4, none⟩ = some (.int .i64 s.many) := O.cell 4
    by_cases h1 : (i : Int) < s.many
    · by_cases h2 : i < 40
      · have h2' : (i : Int) < 40 := by omega
        have e40 : 40 - i = (40 - (i + 1)) + 1 := by omega
        by_cases h3 : out.length < 1500
        · have h3' : (out.length : Int) < 1500 := by omega
          have NX : Hid (R = txR s.s s.many (40 - (i + 1)) (i + 1) (out ++ s.s)) := by
            unfold Hid; rw [HR.out, e40, txR, if_pos ⟨h1, h3⟩]
          have hz : ¬ 9223372036854775807 < out.length + s.s.length := by omega
          have hl : (out ++ s.s).length ≤ 1500 + s.s.length := by rw [List.length_append]; omega
          clear HR e40
          go_wp2
          go_roundw
          case rel => exact ⟨i + 1, out ++ s.s, by first | rfl | simp, by go_num, by omega, hl, NX, O⟩
          case measure => simp [intOf]; omega
        · have h3' : ¬ (out.length : Int) < 1500 := by omega
          obtain rfl : R = out := by rw [HR.out, e40, txR, if_neg (fun q => h3 q.2)]
          clear HR e40
          go_wp2
          go_ret
          exact ⟨rfl, O.drop⟩
      · have h2' : ¬ (i : Int) < 40 := by omega
        obtain rfl : R = out := by rw [HR.out, show 40 - i = 0 by omega]; rfl
        clear HR
        go_wp2
        go_ret
        exact ⟨rfl, O.drop⟩
    · have hR : R = out := by
        rw [HR.out]
        cases hq : 40 - i with
        | zero => rfl
        | succ f => rw [txR, if_neg (fun q => h1 q.1)]
      subst hR
      clear HR
      go_wp2
      go_ret
      exact ⟨rfl, O.drop⟩
end Go.Proofs.YtnlppcjfpmnahaaGreatDoor
/- log, plain: the power fails in the midst of a record's writing. -/
namespace Go.Proofs.YtnlppcjfpmnahaaGreatDoor
set_option linter.all false
open Go.RowKit Go.Maps

theorem four_leb {a : List UInt8} (h : a.length = 4) : a = [lebAt (numL a) 0, lebAt (numL a) 1, lebAt (numL a) 2, lebAt (numL a) 3] := by
  match a, h with
  | [p, q, r, s], _ =>
    have e := numL4 p q r s
    have b0 := UInt8.toNat_lt p
    have b1 := UInt8.toNat_lt q
    have b2 := UInt8.toNat_lt r
    have b3 := UInt8.toNat_lt s
    have l0 := leb0 (numL [p, q, r, s])
    have l1 := leb1 (numL [p, q, r, s])
    have l2 := leb2 (numL [p, q, r, s])
    have l3 := leb3 (numL [p, q, r, s])
    rw [e] at l0 l1 l2 l3
    have h0 : p = lebAt (numL [p, q, r, s]) 0 := UInt8.toNat_inj.1 (by rw [e]; omega)
    have h1 : q = lebAt (numL [p, q, r, s]) 1 := UInt8.toNat_inj.1 (by rw [e]; omega)
    have h2 : r = lebAt (numL [p, q, r, s]) 2 := UInt8.toNat_inj.1 (by rw [e]; omega)
    have h3 : s = lebAt (numL [p, q, r, s]) 3 := UInt8.toNat_inj.1 (by rw [e]; omega)
    rw [← h0, ← h1, ← h2, ← h3]
theorem mix_num {age : Nat} (h2 : age < 4294967296) {b : List UInt8} (hb : b.length = 4) (ho : numL b ≤ age) (n : Nat) : numL (mixL n [lebAt age 0, lebAt age 1, lebAt age 2, lebAt age 3] b) ≤ age := by
  have e := four_leb hb
  have := mix_le (age := (age : Int)) (other := (numL b : Int)) (by omega) (by omega) (by omega) n
  rw [← e] at this
  omega
theorem ageS_ends {y : List UInt8} (hy : y.length = 128) : numL (y.take 4) ≤ ageS y ∧ numL ((y.drop 120).take 4) ≤ ageS y := by
  unfold ageS; rw [if_pos hy]; omega
theorem mix_length (n : Nat) {a b : List UInt8} (h : a.length = b.length) : (mixL n a b).length = b.length := by
  unfold mixL; simp; omega
/-- a new sector, torn, over an older one -/
theorem torn_old {age place : Nat} {s y : List UInt8} (h : mayB age place = true) (hs : s.length ≤ 112) (hy : y.length = 128) (ho : ageS y < age) (n : Nat) :
    ageS (mixL n (putS age place s) y) ≤ age ∧ (getB (mixL n (putS age place s) y) = true → getA (mixL n (putS age place s) y) = age → mixL n (putS age place s) y = putS age place s) := by
  have hl : (putS (age : Int) place s).length = 128 := putS_len hs
  have hxy : (putS (age : Int) place s).length = y.length := by rw [hl, hy]
  have hx : (mixL n (putS (age : Int) place s) y).length = 128 := by rw [mix_length n hxy, hy]
  obtain ⟨o1, o2⟩ := ageS_ends hy
  have hag : (age : Int) ≤ 4294967295 := (mayB_iff.1 h).2.1
  have st4 : (stampL (age : Int) place).take 4 = [lebAt age 0, lebAt age 1, lebAt age 2, lebAt age 3] := by rw [stampL_eq]; rfl
  have first := putS_first (age : Int) place s
  have last := putS_last (age := (age : Int)) (place := (place : Int)) hs
  have f4 : (putS (age : Int) place s).take 4 = [lebAt age 0, lebAt age 1, lebAt age 2, lebAt age 3] := by rw [take4, first, st4]
  have l4 : ((putS (age : Int) place s).drop 120).take 4 = [lebAt age 0, lebAt age 1, lebAt age 2, lebAt age 3] := by rw [last, st4]
  constructor
  · unfold ageS
    rw [if_pos hx]
    have e1 : (mixL n (putS (age : Int) place s) y).take 4 = mixL n [lebAt age 0, lebAt age 1, lebAt age 2, lebAt age 3] (y.take 4) := by rw [mix_take _ _ _ _ hxy, f4]
    have e2 : ((mixL n (putS (age : Int) place s) y).drop 120).take 4 = mixL (n - 120) [lebAt age 0, lebAt age 1, lebAt age 2, lebAt age 3] ((y.drop 120).take 4) := by
      rw [mix_drop _ _ _ _ hxy, mix_take _ _ _ _ (by rw [List.length_drop, List.length_drop, hxy]), l4]
    rw [e1, e2]
    have m1 := mix_num (age := age) (by omega) (b := y.take 4) (by rw [List.length_take]; omega) (by omega) n
    have m2 := mix_num (age := age) (by omega) (b := (y.drop 120).take 4) (by rw [List.length_take, List.length_drop]; omega) (by omega) (n - 120)
    omega
  · intro gb ga
    obtain ⟨-, g2, -⟩ := getB_iff.1 gb
    rcases Nat.lt_or_ge 120 n with q | q
    · have t120 : (mixL n (putS (age : Int) place s) y).take 120 = (putS (age : Int) place s).take 120 := by
        unfold mixL
        rw [List.take_append_of_le_length (by rw [List.length_take]; omega), List.take_take, Nat.min_eq_left (by omega)]
      have t8 : (mixL n (putS (age : Int) place s) y).take 8 = stampL age place := by
        rw [← first]
        have := congrArg (List.take 8) t120
        rw [List.take_take, List.take_take] at this
        exact this
      rw [← List.take_append_drop 120 (mixL n (putS (age : Int) place s) y), ← g2, t8, t120]
      conv => rhs; rw [← List.take_append_drop 120 (putS (age : Int) place s), last]
    · exfalso
      have d : (mixL n (putS (age : Int) place s) y).drop 120 = y.drop 120 := by
        rw [mix_drop _ _ _ _ hxy, show n - 120 = 0 by omega]; simp [mixL]
      unfold getA at ga
      rw [take4, g2, d] at ga
      omega
/-- the power fails behind K writes -/
theorem wr_fail : ∀ (ss : List (List UInt8)) (m : Dk) (k : Int) (K : Nat), m.off = false → m.left = K → 1 ≤ K → K ≤ ss.length → 0 ≤ k → k + ss.length ≤ m.n → (∀ s ∈ ss, s.length = 128) →
    (wrs m k ss).1.off = true ∧ (wrs m k ss).2 = (if K = ss.length then 0 else 42) ∧
    (∀ j (h : j < ss.length), j < K → (wrs m k ss).1.now (k + j) = some ss[j] ∧ (wrs m k ss).1.was (k + j) = if (m.was (k + j)).isSome = true then m.was (k + j) else some (m.get (k + j))) ∧
    ∀ i, (i < k ∨ k + K ≤ i) → (wrs m k ss).1.now i = m.now i ∧ (wrs m k ss).1.was i = m.was i
  | [], m, k, K, _, _, h1, h2, _, _, _ => by simp at h2; omega
  | x :: r, m, k, K, ho, hK, h1, h2, h0, hn, hs => by
    simp only [List.length_cons] at hn h2
    have e : m.write k x = ((m.put k x).did, 0) := by
      unfold Dk.write
      rw [ho, if_neg (by simp), if_neg (by rw [hs x (by simp)]; omega)]
    have now1 : ∀ i, ((m.put k x).did).now i = if i = k then some x else m.now i := fun i => by
      show (upd m.now k (some x)) i = _
      unfold upd; rfl
    have was1 : ∀ i, ((m.put k x).did).was i = if i = k ∧ ¬ (m.was k).isSome = true then some (m.get k) else m.was i := fun i => by
      show (if (m.was k).isSome = true then m.was else upd m.was k (some (m.get k))) i = _
      by_cases q : (m.was k).isSome = true
      · rw [if_pos q, if_neg (by simp [q])]
      · rw [if_neg q]
        unfold upd
        by_cases q2 : i = k
        · rw [if_pos q2, if_pos ⟨q2, q⟩]
        · rw [if_neg q2, if_neg (fun h => q2 h.1)]
    have left1 : ((m.put k x).did).left = K - 1 := by show m.left - 1 = _; rw [hK]
    have off1 : ((m.put k x).did).off = decide (K = 1) := by
      show (if 0 < m.left then decide (m.left = 1) else m.off) = _
      rw [hK, if_pos (by omega)]
    rw [wrs, e, if_pos rfl]
    have wk : (if k = k ∧ ¬ (m.was k).isSome = true then some (m.get k) else m.was k) = if (m.was k).isSome = true then m.was k else some (m.get k) := by
      by_cases q : (m.was k).isSome = true
      · rw [if_neg (by simp [q]), if_pos q]
      · rw [if_pos ⟨rfl, q⟩, if_neg q]
    by_cases q : K = 1
    · subst q
      have off2 : ((m.put k x).did).off = true := by rw [off1]; rfl
      have wr1 : wrs (m.put k x).did (k + 1) r = ((m.put k x).did, if r = [] then 0 else 42) := by
        cases r with
        | nil => rfl
        | cons z r =>
          have e2 : (m.put k x).did.write (k + 1) z = ((m.put k x).did, 42) := by unfold Dk.write; rw [off2, if_pos rfl]
          rw [wrs, e2, if_neg (by simp)]; simp
      rw [wr1]
      refine ⟨off2, ?_, fun j hj hj1 => ?_, fun i hi => ?_⟩
      · cases r <;> simp
      · obtain rfl : j = 0 := by omega
        simp only [Int.natCast_zero, Int.add_zero, List.getElem_cons_zero]
        rw [now1, was1, if_pos rfl]
        exact ⟨rfl, wk⟩
      · simp only
        rw [now1, was1, if_neg (by omega), if_neg (fun h => by omega)]
        exact ⟨rfl, rfl⟩
    · have off2 : ((m.put k x).did).off = false := by rw [off1]; simpa using q
      obtain ⟨i1, i2, i3, i4⟩ := wr_fail r (m.put k x).did (k + 1) (K - 1) off2 left1 (by omega) (by omega) (by omega) (by show k + 1 + r.length ≤ (m.n : Int); omega) (fun s hs' => hs s (by simp [hs']))
      refine ⟨i1, ?_, fun j hj hj1 => ?_, fun i hi => ?_⟩
      · rw [i2, List.length_cons]
        by_cases q2 : K - 1 = r.length
        · rw [if_pos q2, if_pos (by omega)]
        · rw [if_neg q2, if_neg (by omega)]
      · cases j with
        | zero =>
          simp only [Int.natCast_zero, Int.add_zero, List.getElem_cons_zero]
          obtain ⟨a1, a2⟩ := i4 k (by omega)
          rw [a1, a2, now1, was1, if_pos rfl]
          exact ⟨rfl, wk⟩
        | succ j =>
          obtain ⟨a1, a2⟩ := i3 j (by simpa using hj) (by omega)
          have ek : k + ((j + 1 : Nat) : Int) = k + 1 + (j : Int) := by omega
          have gk : (m.put k x).did.get (k + 1 + j) = m.get (k + 1 + j) := by
            show (((m.put k x).did).now (k + 1 + j)).getD zeros = _
            rw [now1, if_neg (by omega)]; rfl
          have wj : (m.put k x).did.was (k + 1 + j) = m.was (k + 1 + j) := by rw [was1, if_neg (fun h => by have := h.1; omega)]
          rw [ek, a1, a2, wj, gk, List.getElem_cons_succ]
          exact ⟨rfl, rfl⟩
      · obtain ⟨a1, a2⟩ := i4 i (by omega)
        rw [a1, a2, now1, was1, if_neg (by omega), if_neg (fun h => by omega)]
        exact ⟨rfl, rfl⟩
/-- what is there behind a Boot: new sectors, torn over what was there -/
def TornAt (m m2 : Dk) (k : Int) (ss : List (List UInt8)) : Prop :=
  (∀ j (h : j < ss.length), ∃ n, m2.get (k + j) = mixL n ss[j] (m.get (k + j))) ∧ ∀ i, (i < k ∨ k + ss.length ≤ i) → m2.get i = m.get i
theorem boot_torn {m : Dk} {ss : List (List UInt8)} {k : Int} {K : Nat} (ho : m.off = false) (hK : m.left = K) (h1 : 1 ≤ K) (h2 : K ≤ ss.length) (h0 : 0 ≤ k) (hn : k + ss.length ≤ m.n) (hs : ∀ s ∈ ss, s.length = 128) (hw : ∀ i, m.was i = none)
    (hok : (wrs m k ss).1.Ok) (keep : List Int) : TornAt m ((wrs m k ss).1.boot keep).1 k ss := by
  obtain ⟨f1, -, f3, f4⟩ := wr_fail ss m k K ho hK h1 h2 h0 hn hs
  have bn := fun i => bootI_now hok keep _ (Nat.le_refl _) i
  simp only [List.take_length] at bn
  have out : ∀ i, (i < k ∨ k + K ≤ i) → ((wrs m k ss).1.boot keep).1.get i = m.get i := fun i hi => by
    obtain ⟨a1, a2⟩ := f4 i hi
    rw [boot_get f1, (bn i).1 (fun hm => by rw [mem_dirty hok.dom, a2, hw] at hm; cases hm), a1]; rfl
  refine ⟨fun j hj => ?_, fun i hi => out i (by omega)⟩
  rcases Nat.lt_or_ge j K with q | q
  · obtain ⟨a1, a2⟩ := f3 j hj q
    rw [hw] at a2
    simp only [Option.isSome_none, Bool.false_eq_true, if_false] at a2
    obtain ⟨n, s, t, b1, b2, b3⟩ := (bn (k + j)).2 ((mem_dirty hok.dom _).2 (by rw [a2]; rfl))
    refine ⟨n, ?_⟩
    rw [boot_get f1, b3]
    rw [a1] at b1
    rw [a2] at b2
    obtain rfl := Option.some.inj b1
    obtain rfl := Option.some.inj b2
    rfl
  · exact ⟨0, by rw [out _ (by omega)]; simp [mixL]⟩
/-- what Scan tells then -/
theorem Lg.Is.torn {l : Lg} {m0 m m2 : Dk} {put : List (List UInt8)} (h : l.Is m0 m put) (s : List UInt8) (hk : l.used + manyN s.length ≤ l.many) (hold : ∀ i : Nat, i < m0.n → ageS (m0.get i) < l.age ∧ (m0.get i).length = 128) (hm : l.many ≤ 512)
    (ht : TornAt m m2 ((l.first + l.used : Nat) : Int) (splitL l.age l.used s)) (hn : m2.n = m.n) :
    (put ≠ [] → toldL (secsL m2 l.first l.many) = ((l.age : Int), put, 0) ∨ toldL (secsL m2 l.first l.many) = ((l.age : Int), put ++ [s], 0)) ∧
    (put = [] → (toldL (secsL m2 l.first l.many)).2.2 = 5 ∨ (toldL (secsL m2 l.first l.many)).2.2 = 0 ∧ ((toldL (secsL m2 l.first l.many)).1 < l.age ∨ (toldL (secsL m2 l.first l.many)).1 = l.age ∧ (toldL (secsL m2 l.first l.many)).2.1 = [s])) ∧
    maxAge (secsL m2 0 m2.n) ≤ l.age ∧ (∀ i : Nat, (i < l.first ∨ l.first + l.many ≤ i) → m2.get i = m0.get i) := by
  obtain ⟨t1, t2⟩ := ht
  have hr := h.on.room
  have hn0 := h.n
  have ha := h.on.age
  have hus := h.used
  have sl := split_len (l.age : Int) (l.used : Int) s
  have hmp := many_pos s.length
  rw [sl] at t2
  have ok : RecOk (l.age : Int) (l.used : Int) s := ⟨mayB_iff.2 ⟨by omega, by omega, by omega, by omega⟩, by omega⟩
  have oldg : ∀ i : Nat, l.first + l.used ≤ i → i < l.first + l.many → m.get i = m0.get i := by
    intro i i1 i2
    have hl : i - l.first < (secsL m l.first l.many).length := by rw [secsL_len]; omega
    have e := secsL_at m l.first l.many (i - l.first) hl
    rw [show l.first + (i - l.first) = i by omega] at e
    rw [← e]
    have rl : (rowAll (l.age : Int) 0 put).length = rowN put := rowAll_len _ _ _
    have e2 : (secsL m l.first l.many)[i - l.first] = ((secsL m0 l.first l.many).drop (rowN put))[i - l.first - rowN put]'(by rw [List.length_drop, secsL_len]; omega) := by
      simp only [h.sec]
      rw [List.getElem_append_right (by rw [rl]; omega)]
      congr 1
      rw [rl]
    rw [e2, List.getElem_drop, secsL_at]
    congr 2; omega
  -- each sector of the new record, as it is
  have at1 : ∀ j (hj : j < manyN s.length), ∃ p, p.length ≤ 112 ∧ (splitL (l.age : Int) l.used s)[j]'(by rw [sl]; exact hj) = putS l.age ((l.used + j : Nat) : Int) p ∧ mayB l.age ((l.used + j : Nat) : Int) = true := by
    intro j hj
    have e := split_at (l.age : Int) (l.used : Int) s j hj
    rw [List.getElem?_eq_getElem (by rw [sl]; exact hj)] at e
    refine ⟨((allL s).drop (112 * j)).take 112, by rw [List.length_take]; omega, ?_, mayB_iff.2 ⟨by omega, by omega, by omega, by omega⟩⟩
    rw [Option.some.inj e]; congr 1
  have new1 : ∀ j (hj : j < manyN s.length), ageS (m2.get ((l.first + l.used + j : Nat) : Int)) ≤ l.age ∧ (getB (m2.get ((l.first + l.used + j : Nat) : Int)) = true → getA (m2.get ((l.first + l.used + j : Nat) : Int)) = l.age → m2.get ((l.first + l.used + j : Nat) : Int) = (splitL (l.age : Int) l.used s)[j]'(by rw [sl]; exact hj)) := by
    intro j hj
    obtain ⟨p, p1, p2, p3⟩ := at1 j hj
    obtain ⟨n, e⟩ := t1 j (by rw [sl]; exact hj)
    rw [show ((l.first + l.used : Nat) : Int) + (j : Int) = ((l.first + l.used + j : Nat) : Int) by omega] at e
    rw [e, p2]
    have og := oldg (l.first + l.used + j) (by omega) (by omega)
    rw [og]
    obtain ⟨o1, o2⟩ := hold (l.first + l.used + j) (by omega)
    exact torn_old p3 p1 o2 o1 n
  -- the half's sectors
  have sec2 : secsL m2 l.first l.many = rowAll l.age 0 put ++ ((secsL m2 (l.first + l.used) (manyN s.length)) ++ (secsL m0 l.first l.many).drop (rowN put + manyN s.length)) := by
    have rl : (rowAll (l.age : Int) 0 put).length = rowN put := rowAll_len _ _ _
    refine List.ext_getElem (by simp [secsL_len, rl]; omega) (fun i h1 h2 => ?_)
    have hi : i < l.many := by rw [secsL_len] at h1; exact h1
    rw [secsL_at]
    rcases Nat.lt_or_ge i (rowN put) with q | q
    · rw [List.getElem_append_left (by rw [rl]; exact q)]
      rw [t2 _ (by omega)]
      have hl : i < (secsL m l.first l.many).length := by rw [secsL_len]; omega
      rw [← secsL_at m l.first l.many i hl]
      simp only [h.sec]
      rw [List.getElem_append_left (by rw [rl]; exact q)]
    · rw [List.getElem_append_right (by rw [rl]; exact q)]
      simp only [rl]
      rcases Nat.lt_or_ge (i - rowN put) (manyN s.length) with q2 | q2
      · rw [List.getElem_append_left (by rw [secsL_len]; exact q2), secsL_at]
        congr 2; omega
      · rw [List.getElem_append_right (by rw [secsL_len]; exact q2), List.getElem_drop, secsL_at, t2 _ (by omega), oldg _ (by omega) (by omega)]
        congr 2
        rw [secsL_len]
        omega
  have zl : (secsL m2 (l.first + l.used) (manyN s.length)).length = manyN s.length := secsL_len _ _ _
  have zat : ∀ j (hj : j < (secsL m2 (l.first + l.used) (manyN s.length)).length), (secsL m2 (l.first + l.used) (manyN s.length))[j] = m2.get ((l.first + l.used + j : Nat) : Int) := fun j hj => secsL_at _ _ _ _ hj
  have tailold : ∀ y ∈ (secsL m0 l.first l.many).drop (rowN put + manyN s.length), ageS y < l.age := by
    intro y hy
    obtain ⟨i, hi, rfl⟩ := List.mem_iff_getElem.1 (List.mem_of_mem_drop hy)
    rw [secsL_at]
    rw [secsL_len] at hi
    exact (hold (l.first + i) (by omega)).1
  have whole : joinB l.age (l.used : Int) (secsL m2 (l.first + l.used) (manyN s.length) ++ (secsL m0 l.first l.many).drop (rowN put + manyN s.length)) = true →
      secsL m2 (l.first + l.used) (manyN s.length) = splitL l.age l.used s := by
    intro hj
    have h0z : 0 < (secsL m2 (l.first + l.used) (manyN s.length)).length := by omega
    have nd := fun y r (e : secsL m2 (l.first + l.used) (manyN s.length) ++ (secsL m0 l.first l.many).drop (rowN put + manyN s.length) = y :: r) => join_need (y := y) (r := r) (e ▸ hj)
    have e1 : secsL m2 (l.first + l.used) (manyN s.length) ++ (secsL m0 l.first l.many).drop (rowN put + manyN s.length) = (secsL m2 (l.first + l.used) (manyN s.length))[0] :: ((secsL m2 (l.first + l.used) (manyN s.length)).drop 1 ++ (secsL m0 l.first l.many).drop (rowN put + manyN s.length)) := by
      conv => lhs; rw [← List.drop_zero (l := secsL m2 (l.first + l.used) (manyN s.length)), List.drop_eq_getElem_cons h0z]
      rfl
    obtain ⟨n1, n2, n3⟩ := nd _ _ e1
    have okz : ∀ j (hj : j < manyN s.length), j < joinN (secsL m2 (l.first + l.used) (manyN s.length))[0] → (secsL m2 (l.first + l.used) (manyN s.length))[j]'(by rw [zl]; exact hj) = (splitL (l.age : Int) l.used s)[j]'(by rw [sl]; exact hj) := by
      intro j hj1 hj2
      have hlen : j < ((secsL m2 (l.first + l.used) (manyN s.length))[0] :: ((secsL m2 (l.first + l.used) (manyN s.length)).drop 1 ++ (secsL m0 l.first l.many).drop (rowN put + manyN s.length))).length := by rw [← e1, List.length_append]; omega
      have o := n3 j hlen hj2
      have ej : ((secsL m2 (l.first + l.used) (manyN s.length))[0] :: ((secsL m2 (l.first + l.used) (manyN s.length)).drop 1 ++ (secsL m0 l.first l.many).drop (rowN put + manyN s.length)))[j] = (secsL m2 (l.first + l.used) (manyN s.length))[j]'(by rw [zl]; exact hj1) := by
        simp only [← e1]
        rw [List.getElem_append_left]
      rw [ej] at o
      unfold okAt at o
      simp only [Bool.and_eq_true, decide_eq_true_eq] at o
      rw [zat] at o ⊢
      exact (new1 j hj1).2 o.1 (by omega)
    have z0 := okz 0 (by omega) n1
    obtain ⟨-, fi, -⟩ := first_is ok
    have fn : joinN (secsL m2 (l.first + l.used) (manyN s.length))[0] = manyN s.length := by
      have e3 : (splitL (l.age : Int) l.used s)[0]'(by omega) = firstL l.age l.used s := by simp only [split_cons, List.getElem_cons_zero]
      rw [z0, e3, fi]
    refine List.ext_getElem (by rw [zl, sl]) (fun j h1 h2 => okz j (by rw [zl] at h1; exact h1) (by rw [fn]; rw [zl] at h1; exact h1))
  have hu1024 : rowN put + manyN s.length ≤ 1024 := by omega
  have yes : joinB l.age (l.used : Int) (secsL m2 (l.first + l.used) (manyN s.length) ++ (secsL m0 l.first l.many).drop (rowN put + manyN s.length)) = true → toldL (secsL m2 l.first l.many) = ((l.age : Int), put ++ [s], 0) := by
    intro hj
    rw [sec2, whole hj]
    have e : rowAll (l.age : Int) 0 put ++ (splitL l.age l.used s ++ (secsL m0 l.first l.many).drop (rowN put + manyN s.length)) = rowAll l.age 0 (put ++ [s]) ++ (secsL m0 l.first l.many).drop (rowN put + manyN s.length) := by
      rw [rowAll_snoc, List.append_assoc, hus]; simp
    rw [e]
    exact told_row ha (by simp) (by rw [rowN_snoc]; exact hu1024) (join_old tailold)
  refine ⟨fun hne => ?_, fun he => ?_, ?_, fun i hi => ?_⟩
  · cases hj : joinB l.age (l.used : Int) (secsL m2 (l.first + l.used) (manyN s.length) ++ (secsL m0 l.first l.many).drop (rowN put + manyN s.length)) with
    | true => exact .inr (yes hj)
    | false =>
      refine .inl ?_
      rw [sec2]
      exact told_row ha hne (by omega) (by rw [show ((rowN put : Nat) : Int) = (l.used : Int) by omega]; exact hj)
  · subst he
    cases hj : joinB l.age (l.used : Int) (secsL m2 (l.first + l.used) (manyN s.length) ++ (secsL m0 l.first l.many).drop (rowN [] + manyN s.length)) with
    | true =>
      have := yes hj
      rw [this]
      exact .inr ⟨rfl, .inr ⟨rfl, rfl⟩⟩
    | false =>
      have hu0 : l.used = 0 := hus
      rw [hu0] at hj
      simp only [rowAll, List.nil_append] at sec2
      rw [hu0] at sec2
      rw [sec2]
      have h0z : 0 < (secsL m2 (l.first + 0) (manyN s.length)).length := by rw [secsL_len]; omega
      have e1 : secsL m2 (l.first + 0) (manyN s.length) ++ (secsL m0 l.first l.many).drop (rowN [] + manyN s.length) = (secsL m2 (l.first + 0) (manyN s.length))[0] :: ((secsL m2 (l.first + 0) (manyN s.length)).drop 1 ++ (secsL m0 l.first l.many).drop (rowN [] + manyN s.length)) := by
        conv => lhs; rw [← List.drop_zero (l := secsL m2 (l.first + 0) (manyN s.length)), List.drop_eq_getElem_cons h0z]
        rfl
      have e0 : (secsL m2 (l.first + 0) (manyN s.length))[0] = m2.get ((l.first + l.used + 0 : Nat) : Int) := by rw [secsL_at]; congr 2; omega
      obtain ⟨a1, a2⟩ := new1 0 (by omega)
      rw [← e0] at a1 a2
      rw [e1] at hj ⊢
      generalize (secsL m2 (l.first + 0) (manyN s.length))[0] = z at hj a1 a2 ⊢
      generalize (secsL m2 (l.first + 0) (manyN s.length)).drop 1 ++ (secsL m0 l.first l.many).drop (rowN [] + manyN s.length) = zs at hj ⊢
      unfold toldL
      simp only
      split
      · rename_i hc
        refine .inr ⟨rfl, ?_⟩
        have := ageS_getA hc.1
        rcases Nat.lt_or_ge (getA z) l.age with q | q
        · exact .inl (by simp only; omega)
        · exfalso
          have eA : getA z = l.age := by omega
          apply hc.2.2
          rw [eA, recsL, if_neg (by rw [show ((0 : Nat) : Int) = 0 from rfl] at hj; rw [hj]; simp)]
      · exact .inl rfl
  · refine maxAge_le _ 0 _ (by omega) (fun y hy => ?_)
    obtain ⟨i, hi, rfl⟩ := List.mem_iff_getElem.1 hy
    rw [secsL_at]
    rw [secsL_len] at hi
    simp only [Nat.zero_add]
    by_cases q : l.first + l.used ≤ i ∧ i < l.first + l.used + manyN s.length
    · have := (new1 (i - (l.first + l.used)) (by omega)).1
      rw [show l.first + l.used + (i - (l.first + l.used)) = i by omega] at this
      exact this
    · rw [t2 _ (by omega)]
      by_cases q2 : l.first ≤ i ∧ i < l.first + l.many
      · by_cases q3 : i < l.first + l.used
        · have hl : i - l.first < (secsL m l.first l.many).length := by rw [secsL_len]; omega
          have e := secsL_at m l.first l.many (i - l.first) hl
          rw [show l.first + (i - l.first) = i by omega] at e
          rw [← e]
          have rl : (rowAll (l.age : Int) 0 put).length = rowN put := rowAll_len _ _ _
          have : (secsL m l.first l.many)[i - l.first] ∈ rowAll (l.age : Int) (0 : Nat) put := by
            simp only [h.sec]
            rw [List.getElem_append_left (by rw [rl]; omega)]
            exact List.getElem_mem _
          have := row_age ha put 0 (by omega) _ this
          omega
        · rw [oldg i (by omega) q2.2]
          have := (hold i (by omega)).1; omega
      · rw [h.out i (by omega)]
        have := (hold i (by omega)).1; omega
  · rw [t2 _ (by have := h.on.used; omega)]
    exact h.out i hi
end Go.Proofs.YtnlppcjfpmnahaaGreatDoor
/- mailroomlaw12: sectors; what raw keeps. -/
namespace Go.Proofs.YtnlppcjfpmnahaaGreatDoor
set_option linter.all false
open Go.RowKit


set_option maxRecDepth 100000 in
theorem sectors12_own {w0 w : World} {L : List Piece} {p : Value} {m : Dk} (O : Own w0 w (dk p m :: L)) (hoff : m.off = false) (hn : m.n ≤ 1024) (half : Nat) (hh : half ≤ 1) :
    Calls Tryz.prog 13 #[p, .int .i64 half] w fun e w' => ∃ v, e = .returned v ∧ Own w0 w' (strs v (secsL m (half * (m.n / 2)) (m.n / 2)) :: dk p m :: L) := by
  obtain ⟨b, bn, bw, hp, -⟩ := O.dkE
  subst hp
  have SC := sectors_any O
  have HF := half_good m.n (by omega) half hh w
  have hfm : half * (m.n / 2) + m.n / 2 ≤ m.n := by
    have : half = 0 ∨ half = 1 := by omega
    rcases this with rfl | rfl <;> omega
  obtain ⟨first, hfi⟩ : ∃ f, f = half * (m.n / 2) := ⟨_, rfl⟩
  obtain ⟨many, hma⟩ : ∃ f, f = m.n / 2 := ⟨_, rfl⟩
  rw [← hfi, ← hma] at HF hfm
  rw [← hfi, ← hma]
  clear hma hfi
  have O1 : Own w0 w (strs (.slice none 0 0) (secsL m first 0) :: dk (.pointer (some ⟨b, 0, none⟩)) m :: L) := O.nilStrs
  clear O
  go_enter Tryz.func13, Tryz.ntmps13
  go_wp2_with fail
  refine SC.mono ?_
  clear SC
  rintro _ w1 ⟨rfl, rfl⟩
  go_wp2_with fail
  refine HF.mono ?_
  clear HF
  rintro _ w1 ⟨rfl, rfl⟩
  go_wp2_with fail
  go_loopw [7, 8] (fun ov iv wx => ∃ i : Nat, iv = .int .i64 i ∧ i ≤ many ∧ Own w0 wx (strs ov (secsL m first i) :: dk (.pointer (some ⟨b, 0, none⟩)) m :: L)) (fun _ iv _ => many - (intOf iv).toNat)
  case atStart => exact ⟨0, rfl, by omega, O1⟩
  case round =>
    clear O1
    obtain ⟨i, rfl, hi, O⟩ := hrel
    by_cases hlt : i < many
    · have hb1 : (i : Int) < (many : Int) := by omega
      have s1 : IntKind.i64.wrap ((first : Int) + (i : Int)) = (first : Int) + (i : Int) := IntWalk.i64_in _ (by omega)
      have RD := read_own (O.pick 1) ((first : Int) + (i : Int)) (show I64 _ from I64.nat (k := first + i) (by omega))
      have e : m.read ((first : Int) + (i : Int)) = (m.get ((first + i : Nat) : Int), 0) := by
        unfold Dk.read; rw [hoff, if_neg (by simp), if_neg (by omega)]; congr 2
      rw [e] at RD
      have HS := Lib.hid (secsL_snoc m first i)
      have hl := secsL_len m first i
      generalize m.get ((first + i : Nat) : Int) = x at RD HS
      obtain ⟨ss, hss⟩ : ∃ ss, ss = secsL m first i := ⟨_, rfl⟩
      rw [← hss] at HS hl O RD
      have RD2 := RD
      have HL := Lib.hid hl
      clear RD e hss hl
      go_wp2_with fail
      refine RD2.mono ?_
      clear RD2 O
      rintro _ w1 ⟨rfl, O⟩
      have O2 := O.pick 1
      try simp only [List.map_cons, List.map_nil, List.getD_cons_zero, List.getD_cons_succ, List.eraseIdx_cons_zero, List.eraseIdx_cons_succ, List.getElem_cons_zero, List.getElem_cons_succ, List.take_succ_cons, List.take_zero, List.drop_succ_cons, List.drop_zero, List.cons_append, List.nil_append, List.append_eq] at O2
      have l1 : ss.length ≤ 1000000000 := by have := HL.out; omega
      clear O
      go_wp2_with (at_builtin; refine wpList_append_strO rfl _ _ rfl _ ss x O2 rfl rfl l1 ?_)
      intro v' w5 O3
      rw [← HS.out] at O3
      clear O2
      go_wp2
      go_roundw
      case rel => exact ⟨i + 1, by go_num, by omega, O3⟩
      case measure => simp [intOf]; omega
    · obtain rfl : i = many := by omega
      have hb1 : ¬ (i : Int) < (i : Int) := by omega
      go_wp2
      go_ret
      exact ⟨_, rfl, O⟩
/-- a log that may be there -/
def lgOpt (x : Option (Nat × Lg)) (p : Value) : Piece := match x with
  | none => fact True
  | some (q, l) => lgb q l p
def lgPtr (x : Option (Nat × Lg)) : Value := .pointer (x.map fun y => ⟨y.1, 0, none⟩)
def goodL (x : Option (Nat × Lg)) (n : Nat) : Prop := ∀ q l, x = some (q, l) → l.first + l.many ≤ n ∧ l.used ≤ l.many ∧ (1 ≤ l.age ∧ l.age ≤ 4294967295) ∧ l.many ≤ 20
theorem goodL_on {q : Nat} {l : Lg} {m : Dk} (h : goodL (some (q, l)) m.n) : l.On m := by
  obtain ⟨a, b, c, -⟩ := h q l rfl
  exact ⟨a, b, c⟩
theorem goodL_none (n : Nat) : goodL none n := fun _ _ h => by cases h
theorem goodL_of {q : Nat} {l : Lg} {m : Dk} (h : l.On m) (h2 : l.many ≤ 20) : goodL (some (q, l)) m.n := by
  intro q' l' e
  cases e
  exact ⟨h.room, h.used, h.age, h2⟩
def rowP (lg : Nat) (xs : List Value) : Piece := rowv 37 1 (.slice (some ⟨lg, 0, none⟩) 2 2) 2 xs
/-- the logs of both halves -/
def LogsAt (w0 w : World) (L : List Piece) (p : Value) (m : Dk) (lg : Nat) : Prop :=
  ∃ x0 x1, goodL x0 m.n ∧ goodL x1 m.n ∧ Own w0 w (rowP lg [lgPtr x0, lgPtr x1] :: lgOpt x0 p :: lgOpt x1 p :: dk p m :: L)
theorem LogsAt.at {w0 w : World} {L : List Piece} {p : Value} {m : Dk} {lg : Nat} (h : LogsAt w0 w L p m lg) (k : Nat) (hk : k ≤ 1) :
    ∃ x y xs, xs.length = 2 ∧ xs[k]? = some (lgPtr x) ∧ goodL x m.n ∧ Own w0 w (dk p m :: lgOpt x p :: rowP lg xs :: lgOpt y p :: L) ∧
      (∀ w' m', m'.n = m.n → ∀ x', goodL x' m.n → Own w0 w' (dk p m' :: lgOpt x' p :: rowP lg (xs.set k (lgPtr x')) :: lgOpt y p :: L) → LogsAt w0 w' L p m' lg) := by
  obtain ⟨x0, x1, g0, g1, O⟩ := h
  have : k = 0 ∨ k = 1 := by omega
  rcases this with rfl | rfl
  · refine ⟨x0, x1, _, rfl, rfl, g0, O.selK 4 [3, 1, 0, 2], fun w' m' e x' gx O' => ⟨x', x1, by rw [e]; exact gx, by rw [e]; exact g1, O'.selK 4 [2, 1, 3, 0]⟩⟩
  · refine ⟨x1, x0, _, rfl, rfl, g1, O.selK 4 [3, 2, 0, 1], fun w' m' e x' gx O' => ⟨x0, x', by rw [e]; exact g0, by rw [e]; exact gx, O'.selK 4 [2, 3, 1, 0]⟩⟩
theorem did_calm {m : Dk} (h : m.Calm) : m.did.Calm := by
  obtain ⟨h1, h2⟩ := h
  refine ⟨?_, ?_⟩
  · show (if 0 < m.left then decide (m.left = 1) else m.off) = false
    rw [if_neg (by omega)]; exact h1
  · show m.left - 1 = 0
    omega
theorem write_calm1 {m : Dk} (h : m.Calm) (k : Int) (s : List UInt8) : (m.write k s).1.Calm := by
  unfold Dk.write
  split
  · exact h
  · split
    · exact h
    · exact did_calm (m := m.put k s) h
theorem wr_calm1 : ∀ (ss : List (List UInt8)) (m : Dk) (k : Int), m.Calm → (wrs m k ss).1.Calm
  | [], m, k, h => h
  | x :: r, m, k, h => by
    rw [wrs]
    split
    · exact wr_calm1 r _ _ (write_calm1 h k x)
    · exact write_calm1 h k x
theorem lgw_calm {m : Dk} (h : m.Calm) (l : Lg) (s : List UInt8) : (l.write m s).2.1.Calm := by
  unfold Lg.write
  split
  · exact h
  · split
    · exact wr_calm1 _ _ _ h
    · exact wr_calm1 _ _ _ h
theorem lgw_n (m : Dk) (l : Lg) (s : List UInt8) : (l.write m s).2.1.n = m.n := by
  unfold Lg.write
  split
  · rfl
  · split
    · exact wr_n _ _ _
    · exact wr_n _ _ _
theorem lgw_many (m : Dk) (l : Lg) (s : List UInt8) : (l.write m s).1.many = l.many := by
  unfold Lg.write
  split
  · rfl
  · split <;> rfl
theorem add_calm {m : Dk} (h : m.Calm) (l : Lg) (s : List UInt8) : (l.add m s).2.1.Calm := by
  unfold Lg.add; split
  · exact h
  · exact lgw_calm h l s
theorem add_n (m : Dk) (l : Lg) (s : List UInt8) : (l.add m s).2.1.n = m.n := by
  unfold Lg.add; split
  · rfl
  · exact lgw_n m l s
theorem add_many (m : Dk) (l : Lg) (s : List UInt8) : (l.add m s).1.many = l.many := by
  unfold Lg.add; split
  · rfl
  · exact lgw_many m l s
theorem Lg.On.add {l : Lg} {m : Dk} (h : l.On m) (s : List UInt8) : (l.add m s).1.On (l.add m s).2.1 := by
  unfold Lg.add; split
  · exact h
  · exact h.write s
theorem sync_calm {m : Dk} (h : m.Calm) : m.sync.1.Calm := by
  unfold Dk.sync
  split
  · exact h
  · exact did_calm (m := { m with was := fun _ => none }) h
theorem sync_n (m : Dk) : m.sync.1.n = m.n := by
  unfold Dk.sync; split <;> rfl
/-- what Begin leaves -/
theorem begin_keeps {m : Dk} {c : Nat} (hc : m.Calm) (hf : m.Fit c) (hn : m.n ≤ 41) (half age : Int) (s : List UInt8) :
    (beginV m half age s).2.1.Calm ∧ (beginV m half age s).2.1.Fit (c + 20) ∧ (beginV m half age s).2.1.n = m.n ∧ ∀ q, goodL ((beginV m half age s).1.map fun l => (q, l)) m.n := by
  unfold beginV
  split
  · exact ⟨hc, hf.mono (by omega), rfl, fun q => goodL_none _⟩
  · rename_i hb
    have on := (Lg.start_on (m := m) hb).write s
    have hm : (Lg.start m half age).many ≤ 20 := by show m.n / 2 ≤ 20; omega
    have f := write_fits (l := Lg.start m half age) hf s
    split
    · refine ⟨lgw_calm hc _ s, f.mono (by omega), lgw_n _ _ s, fun q => ?_⟩
      have := goodL_of (q := q) on (by rw [lgw_many]; exact hm)
      rw [lgw_n] at this
      exact this
    · exact ⟨lgw_calm hc _ s, f.mono (by omega), lgw_n _ _ s, fun q => goodL_none _⟩
theorem begin_er {m : Dk} {half age : Int} {s : List UInt8} {lo : Option Lg} {mm : Dk} {er : Int} (h : beginV m half age s = (lo, mm, er)) : (∀ l, lo = some l → er = 0) ∧ (lo = none → er ≠ 0) := by
  have h1 : (beginV m half age s).1 = lo := by rw [h]
  have h2 : (beginV m half age s).2.2 = er := by rw [h]
  rw [← h1, ← h2]
  clear h h1 h2
  unfold beginV
  split
  · refine ⟨fun l e => ?_, fun _ => ?_⟩
    · cases e
    · show (1 : Int) ≠ 0
      omega
  · split
    · refine ⟨fun l _ => rfl, fun e => ?_⟩
      cases e
    · rename_i q
      refine ⟨fun l e => ?_, fun _ => q⟩
      cases e
end Go.Proofs.YtnlppcjfpmnahaaGreatDoor
/- append([]byte(s), make([]byte, n)...) over Own; its first bytes. -/
namespace Go.Proofs.YtnlppcjfpmnahaaGreatDoor
set_option linter.all false
open Go.RowKit

theorem zero_u8 : (Tryz.prog.info? 5).bind (·.zero) = some (.int .u8 0) := by kernel_rfl
theorem zeroCells_u8 (n : Nat) : (Builtin.zeroCells (Value.int .u8 0).cells n).toList = (List.replicate n (0 : UInt8)).map fun x => Value.int .u8 (x.toNat : Int) := by
  refine List.ext_getElem (by simp [Builtin.zeroCells, Value.cells]) (fun i h1 h2 => ?_)
  simp [Builtin.zeroCells, Value.cells, Nat.mod_one]
theorem und_int : Tryz.prog.underlying 3 = some (.int .i64) := Tryz.underlying3
set_option maxRecDepth 100000 in
theorem bytes_zeros {w0 w : World} {L : List Piece} (h : Own w0 w L) (l : List UInt8) (hl : l.length ≤ 1000000) (n : Nat) (h0 : 0 < n) (hn : n ≤ 1000) (ty : TypeId) : ∃ g cap W1, (convert 9 57 (.string ⟨l.toArray⟩)).run Tryz.prog w = .ok (.slice (some ⟨g, 0, none⟩) l.length cap) W1 ∧
    ∃ g2 cap2 W2, (Builtin.append_ #[57, 3] ty #[.slice (some ⟨g, 0, none⟩) l.length cap, .int .i64 (n : Int)]).run Tryz.prog W1 = .ok (.slice (some ⟨g2, 0, none⟩) (l.length + n) cap2) W2 ∧ l.length + n ≤ cap2 ∧ Own w0 W2 (bytes g2 (l ++ List.replicate n 0) :: L) := by
  have hr := run_bytes_of_string (P := Tryz.prog) w 9 57 5 ⟨l.toArray⟩ Tryz.underlying9 Tryz.underlying57 Tryz.underlying5
  have hsz : (⟨l.toArray⟩ : ByteArray).size = l.length := by simp [ByteArray.size]
  rw [hsz] at hr
  obtain ⟨i0, hi, hz0, hz1, hz2⟩ := info_parts info_u8
  have hge := grownCap_ge w l.length 0 5
  refine ⟨_, _, _, hr, ?_⟩
  generalize hc : grownCap w l.length 0 5 = cap at *
  have hw : IntKind.i64.wrap (n : Int) = n := by rw [IntKind.wrap_i64]; omega
  have hneg : ¬ ((n : Int) < 0) := by omega
  have h48i : ¬ (281474976710656 < (n : Int) * (i0.bytes : Int)) := by rw [hz2]; omega
  have hns : ¬ (n * i0.size = 0) := by rw [hz1]; omega
  have hzv : i0.zero = some (.int .u8 0) := hz0
  have hzc : Builtin.zeroCells (Value.int .u8 0).cells n = ((List.replicate n (0 : UInt8)).map fun x => Value.int .u8 (x.toNat : Int)).toArray := by
    apply Array.ext'; rw [zeroCells_u8]
  by_cases hroom : l.length + n ≤ cap
  · have O1 : Own w0 (w.drew.alloc (.cells (bytesRow ⟨l.toArray⟩ cap) 5 ((bytesRow ⟨l.toArray⟩ cap).size, (bytesRow ⟨l.toArray⟩ cap).size + 1))) (bytes w.heap.size (l ++ List.replicate n 0) :: L) := by
      refine h.new (((Chg.refl [] w).drew).alloc _) (bytes w.heap.size (l ++ List.replicate n 0)) (F := [w.heap.size]) ⟨⟨_, _, heap_alloc_new w.drew _, fun j hj => ?_, fun j hj => ?_⟩, h.size, rfl⟩ (by simp)
      · have hb : (bytesRow ⟨l.toArray⟩ cap)[j]? = some (.int .u8 (((l ++ List.replicate n 0)[j]).toNat : Int)) := by
          rw [List.length_append, List.length_replicate] at hj
          rcases Nat.lt_or_ge j l.length with q | q
          · rw [bytesRow_at _ _ j (by simpa using q)]
            simp only [List.getElem_append_left q, List.getElem_toArray]
          · unfold bytesRow
            rw [Array.getElem?_append_right (by simpa using q), List.getElem_append_right q, List.getElem_replicate]
            rw [Array.getElem?_replicate, if_pos (by simp [hsz]; omega)]
            rfl
        exact hb
      · have hs2 : (bytesRow ⟨l.toArray⟩ cap).size = l.length + (cap - l.length) := by unfold bytesRow; simp [hsz]
        simp only [hs2]
        simp at hj
        omega
    have O2 := O1.setBytes (List.replicate n 0) l.length
    rw [setsL_eq _ _ _ (by simp), List.take_left, List.drop_of_length_le (by simp), List.append_nil] at O2
    have hst := run_storeCells_cells (P := Tryz.prog) w.heap.size l.length ((List.replicate n (0 : UInt8)).map fun x => Value.int .u8 (x.toNat : Int)) 0 (w.drew.alloc (.cells (bytesRow ⟨l.toArray⟩ cap) 5 ((bytesRow ⟨l.toArray⟩ cap).size, (bytesRow ⟨l.toArray⟩ cap).size + 1)))
      (fun j hj => by rw [(O1.byteCell (l.length + 0 + j) (by simp at hj ⊢; omega)).1]; rfl) (fun j hj => (O1.byteCell (l.length + 0 + j) (by simp at hj ⊢; omega)).2) (by intro v hv; obtain ⟨x, _, rfl⟩ := List.mem_map.1 hv; rfl)
    refine ⟨_, _, _, ?_, hroom, O2⟩
    simp [Builtin.append_, run_underlying Tryz.underlying57, run_underlying und_int, Go.sizeOf, typeInfo, zeroValue, hi, hzv, asInt, asIntOf, hw, hneg, hns, h48i, hroom, hzc]
    simp at hst
    rw [show (⟨w.heap.size, 0, none⟩ : Addr).add (l.length * i0.size) = ⟨w.heap.size, l.length, none⟩ from by rw [hz1, Nat.mul_one]; unfold Addr.add; split <;> simp_all, hst]
    rfl
  · have O1 := h.new (((Chg.refl [] w).drew).alloc (.cells (bytesRow ⟨l.toArray⟩ cap) 5 ((bytesRow ⟨l.toArray⟩ cap).size, (bytesRow ⟨l.toArray⟩ cap).size + 1))) (bytes w.heap.size l) (F := [w.heap.size]) ⟨⟨_, _, heap_alloc_new w.drew _, fun j hj => by rw [bytesRow_at _ _ j (by simpa using hj)]; simp, fun j hj => by
        have hs2 : (bytesRow ⟨l.toArray⟩ cap).size = l.length + (cap - l.length) := by unfold bytesRow; simp [hsz]
        simp only [hs2]
        omega⟩, h.size, rfl⟩ (by simp)
    generalize (w.drew.alloc (.cells (bytesRow ⟨l.toArray⟩ cap) 5 ((bytesRow ⟨l.toArray⟩ cap).size, (bytesRow ⟨l.toArray⟩ cap).size + 1))) = W at O1 ⊢
    generalize w.heap.size = g at O1 ⊢
    have hold := run_firstCells_some (P := Tryz.prog) W.drew i0.size l.length ⟨g, 0, none⟩ l.length cap (l.map fun x => Value.int .u8 (x.toNat : Int)) (by rw [hz1]; simp) (fun j u hj => by
      have hj' : j < l.length := by
        rcases Nat.lt_or_ge j l.length with h' | h'
        · exact h'
        · rw [List.getElem?_eq_none (by simpa using h')] at hj; cases hj
      rw [show (⟨g, 0, none⟩ : Addr).add j = ⟨g, j, none⟩ from by unfold Addr.add; split <;> simp_all, (O1.drew.byteCell j hj').1]
      simp [hj'] at hj
      simp [hj])
    have hge2 := grownCap_ge W (l.length + n) cap 5
    have h63' : ¬ (9223372036854775807 < ((l.length : Int) + (n : Int))) := by omega
    have hfit := growslice_fits (need := l.length + n) (old := cap) (bytes := 1) (by omega) (by omega)
    have h48' : ¬ (281474976710656 < Builtin.nextslicecap (l.length + n) cap * i0.bytes) := by rw [hz2]; omega
    refine ⟨W.heap.size, grownCap W (l.length + n) cap 5, W.drew.alloc (.cells ((((l ++ List.replicate n (0 : UInt8)).map fun x : UInt8 => Value.int .u8 (x.toNat : Int)).toArray) ++ Builtin.zeroCells (Value.int .u8 0).cells (grownCap W (l.length + n) cap 5 - (l.length + n))) 5), ?_, hge2, ?_⟩
    · simp [Builtin.append_, run_underlying Tryz.underlying57, run_underlying und_int, Go.sizeOf, typeInfo, zeroValue, hi, hzv, asInt, asIntOf, hw, hneg, hns, h48i, hroom, hzc, h63', h48', Question.forced, hold, newRow, grownCap]
      congr 2
      apply Array.ext'
      simp [List.append_assoc]
    · refine O1.drop.new (((Chg.refl [] W).drew).alloc _) (bytes W.heap.size (l ++ List.replicate n 0)) (F := [W.heap.size]) ⟨⟨_, _, heap_alloc_new W.drew _, fun j hj => ?_, fun j hj => by simp⟩, O1.size, rfl⟩ (by simp)
      rw [Array.getElem?_append_left (by simpa using hj)]
      rw [List.getElem?_toArray, List.getElem?_map, List.getElem?_eq_getElem hj]
      rfl
/-- its first 128 bytes, as a text -/
theorem first_bytes {w0 w : World} {L : List Piece} {g : Nat} {l : List UInt8} (h : Own w0 w (bytes g l :: L)) (k : Nat) (hk : k ≤ l.length) (cap : Nat) : (convert 57 9 (.slice (some ⟨g, 0, none⟩) k cap)).run Tryz.prog w = .ok (.string ⟨(l.take k).toArray⟩) w := by
  have := run_convert_bytes_back (P := Tryz.prog) w 57 9 5 ⟨g, 0, none⟩ cap (l.take k) Tryz.underlying57 Tryz.underlying5 Tryz.underlying9 (fun j hj => by
    rw [show (⟨g, 0, none⟩ : Addr).add j = ⟨g, j, none⟩ from by unfold Addr.add; split <;> simp_all]
    rw [List.length_take] at hj
    rw [(h.byteCell j (by omega)).1, List.getElem_take])
  rw [List.length_take, Nat.min_eq_left hk] at this
  exact this
end Go.Proofs.YtnlppcjfpmnahaaGreatDoor
/- mailroomlaw12: raw. -/
namespace Go.Proofs.YtnlppcjfpmnahaaGreatDoor
set_option linter.all false
open Go.RowKit

theorem wf64 {z : Int} (h : (Lit.int .i64 z).wf = true) : I64 z := by
  have := bounds_i64 h
  unfold I64
  omega
theorem age_le (s : List UInt8) : ageS s ≤ 4294967295 := by
  unfold ageS
  split
  · have h1 := numL_lt (s.take 4)
    have h2 := numL_lt ((s.drop 120).take 4)
    have h3 : (s.take 4).length ≤ 4 := by rw [List.length_take]; omega
    have h4 : ((s.drop 120).take 4).length ≤ 4 := by rw [List.length_take]; omega
    have h5 := Nat.pow_le_pow_right (n := 2) (by omega) (show 8 * (s.take 4).length ≤ 32 by omega)
    have h6 := Nat.pow_le_pow_right (n := 2) (by omega) (show 8 * ((s.drop 120).take 4).length ≤ 32 by omega)
    omega
  · omega
theorem top_le {m : Dk} (h : m.off = false) : 0 ≤ topL m ∧ topL m ≤ 4294967295 := by
  rw [topL_on h]
  have := maxAge_le (secsL m 0 m.n) 0 4294967295 (by omega) (fun s _ => age_le s)
  unfold maxAge
  omega
theorem set_at {xs : List Value} {k : Nat} {v : Value} (h : xs[k]? = some v) : xs.set k v = xs := by
  obtain ⟨hl, e⟩ := List.getElem?_eq_some_iff.1 h
  rw [← e, List.set_getElem_self]
theorem mod2 (n : Int) : ∃ N : Nat, N ≤ 1 ∧ wrap64 ((IntKind.u64.wrap n).tmod 2) = (N : Int) := by
  have h0 : 0 ≤ IntKind.u64.wrap n := by rw [IntKind.wrap_u64]; omega
  have h1 : (IntKind.u64.wrap n).tmod 2 = IntKind.u64.wrap n % 2 := Int.tmod_eq_emod_of_nonneg h0
  rw [h1]
  refine ⟨(IntKind.u64.wrap n % 2).toNat, by omega, ?_⟩
  rw [IntWalk.wrap64_in _ (by omega)]
  omega
set_option maxRecDepth 100000 in
set_option maxHeartbeats 4000000 in
theorem raw_own {w0 w : World} {L : List Piece} {p : Value} {m : Dk} (O : Own w0 w (dk p m :: L)) (hC : m.Calm) (hF : m.Fit 0) (hn : m.n ≤ 41) {a : Option Addr} {N cap : Nat} {l : List St} {G : List Nat} (hv : StepsR w0 (.slice a N cap) l G) (hs : sumSt l < 3000) (hwf : ∀ s ∈ l, s.Wf) :
    Calls Tryz.prog 10 #[p, .slice a N cap] w fun e w' => e = .returned (.tuple #[]) ∧ ∃ m', m'.Calm ∧ m'.Fit 2000 ∧ m'.n = m.n ∧ Own w0 w' (dk p m' :: L) := by
  obtain ⟨b, bn, bw, hp, -⟩ := O.dkE
  subst hp
  have hN := hv.len
  have hl100 := sumSt_len l
  have hN100 : N ≤ 100 := by omega
  have HV := Lib.hid hv
  have HW := Lib.hid hwf
  have HN := Lib.hid hN
  have HS := Lib.hid hs
  have HC := Lib.hid hC
  have HF := Lib.hid hF
  clear hv hwf hN hs hC hF hl100
  go_enter Tryz.func10, Tryz.ntmps10
  obtain ⟨i0, HI⟩ : ∃ i, Hid (Tryz.prog.info? 37 = some i ∧ i.zero = some (.pointer none) ∧ i.size = 1 ∧ i.bytes ≤ 1000) := ⟨_, rfl, rfl, rfl, by decide⟩
  go_wp2_with (at_make; refine wpList_make_rowO (e := 37) (size := 1) rfl _ rfl i0 (.pointer none) Tryz.underlying63 HI.out.1 HI.out.2.1 HI.out.2.2.1 HI.out.2.2.2 2 rfl (by omega) O ?_)
  intro lg w1 O1
  have e2 : (madeCells #[Value.pointer none] 2).toList = [Value.pointer none, Value.pointer none] := by kernel_rfl
  replace O1 : Own w0 w1 (rowP lg [Value.pointer none, Value.pointer none] :: dk (.pointer (some ⟨b, 0, none⟩)) m :: L) := by
    rw [e2] at O1; exact O1
  clear O HI e2
  have O2 : LogsAt w0 w1 L (.pointer (some ⟨b, 0, none⟩)) m lg := ⟨none, none, goodL_none _, goodL_none _, by
    have A := O1.factI (p := True) trivial
    have B := A.factI (p := True) trivial
    exact B.selK 4 [2, 0, 1, 3]⟩
  clear O1
  go_wp2_with fail
  go_loopw [5] (fun iv wx => ∃ (k : Nat) (m' : Dk), iv = .int .i64 k ∧ k ≤ N ∧ Hid (m'.Calm ∧ m'.Fit (20 * k) ∧ m'.n = m.n) ∧ LogsAt w0 wx L (.pointer (some ⟨b, 0, none⟩)) m' lg) (fun iv _ => N - (intOf iv).toNat)
  case atStart => exact ⟨0, m, rfl, by omega, ⟨HC.out, HF.out, rfl⟩, O2⟩
  case round =>
    clear O2 HC HF
    obtain ⟨k, m', rfl, hk, HM, O⟩ := hrel
    by_cases hlt : k < N
    rotate_left
    · have hb1 : ¬ (k : Int) < (N : Int) := by omega
      go_wp2
      go_end0
      obtain ⟨x0, x1, -, -, O⟩ := O
      exact ⟨rfl, m', HM.out.1, HM.out.2.1.mono (by omega), HM.out.2.2, O.drop.drop.drop⟩
    have hb1 : (k : Int) < (N : Int) := by omega
    have hx : k < l.length := by rw [← HN.out]; exact hlt
    obtain ⟨hf, hh, hmod⟩ := mod2 l[k].half
    obtain ⟨x, y, xs, xl, xk, gx, OW, BK⟩ := O.at hf hh
    clear O
    obtain ⟨g, off, e1, -⟩ := HV.out.at hx
    subst e1
    have KC := Lib.hid (fun w' (LL : List Piece) (h : Own w0 w' LL) => by
      obtain ⟨g', off', e1, hc⟩ := (HV.out.keep h.chg (by simp)).at hx
      simp only [Option.some.injEq, Addr.mk.injEq, and_true] at e1
      obtain ⟨rfl, rfl⟩ := e1
      exact hc)
    have sw : Hid l[k].Wf := HW.out _ (List.getElem_mem hx)
    have sl : Hid (l[k].s.length < 3000) := by
      have h1 := HS.out
      have h2 := sumSt_mem (List.getElem_mem hx)
      unfold stN at h2
      unfold Hid
      omega
    generalize l[k] = s at KC sw sl hmod
    clear hx
    obtain ⟨hm1, hm2, hm3⟩ := HM.out
    have GX := Lib.hid gx
    have BKH := Lib.hid BK
    have XK := Lib.hid xk
    have XL := Lib.hid xl
    clear gx BK HM xk xl
    have HM1 := Lib.hid hm1
    have HM2 := Lib.hid hm2
    have HM3 := Lib.hid hm3
    clear hm1 hm2
    have TX := Lib.hid (fun w' (LL : List Piece) (h : Own w0 w' LL) => text12_own h s (by have := sl.out; omega) sw.out.many)
    have TL : Hid ((textL s).length ≤ 4500) := by have := textL_len s; have := sl.out; unfold Hid; omega
    generalize textL s = tx at TX TL
    have hc := KC.out _ _ OW
    have c0 := hc.c0
    have c1 := hc.c1
    clear hc
    have w8 := sw.out.what
    have NX : Hid (∀ w' m2, m2.Calm → m2.Fit (20 * k + 20) → m2.n = m'.n → LogsAt w0 w' L (.pointer (some ⟨b, 0, none⟩)) m2 lg → Hid (m2.Calm ∧ m2.Fit (20 * (k + 1)) ∧ m2.n = m.n) ∧ LogsAt w0 w' L (.pointer (some ⟨b, 0, none⟩)) m2 lg) := fun w' m2 a1 a2 a3 a4 => ⟨⟨a1, a2, a3.trans hm3⟩, a4⟩
    have CK : Hid (∀ w' (LL : List Piece), Own w0 w' LL → Hid (w'.cell? ⟨g, off + k * 6, none⟩ = some (.int .u8 s.what) ∧ w'.cell? ⟨g, off + k * 6 + 1, none⟩ = some (.int .i64 s.half) ∧ w'.cell? ⟨g, off + k * 6 + 2, none⟩ = some (.int .i64 s.age) ∧ w'.cell? ⟨g, off + k * 6 + 3, none⟩ = some (.string ⟨s.s.toArray⟩) ∧ w'.cell? ⟨g, off + k * 6 + 4, none⟩ = some (.int .i64 s.many) ∧ w'.cell? ⟨g, off + k * 6 + 5, none⟩ = some (.slice s.ka s.keep.length s.kc))) := fun w' LL h => ⟨(KC.out _ _ h).c0, (KC.out _ _ h).c1, (KC.out _ _ h).c2, (KC.out _ _ h).c3, (KC.out _ _ h).c4, (KC.out _ _ h).c5⟩
    have KEEP : Hid (∀ w' m2, m2.n = m'.n → Own w0 w' (dk (.pointer (some ⟨b, 0, none⟩)) m2 :: lgOpt x (.pointer (some ⟨b, 0, none⟩)) :: rowP lg xs :: lgOpt y (.pointer (some ⟨b, 0, none⟩)) :: L) → LogsAt w0 w' L (.pointer (some ⟨b, 0, none⟩)) m2 lg) := fun w' m2 e h => by
      have := BKH.out w' m2 e x GX.out
      rw [set_at XK.out] at this
      exact this h
    have CX : Hid (∀ w' (LL : List Piece), Own w0 w' (rowP lg xs :: LL) → Hid (w'.cell? ⟨lg, hf, none⟩ = some (lgPtr x) ∧ w'.frozen? ⟨lg, hf, none⟩ = false)) := fun w' LL h => by
      have hl : hf < xs.length := by rw [XL.out]; omega
      obtain ⟨-, g2, e, c, f⟩ := Own.rowvAt h hf hl
      simp only [Option.some.injEq, Addr.mk.injEq, and_true] at e
      obtain rfl := e
      have e2 := XK.out
      rw [List.getElem?_eq_getElem hl] at e2
      rw [Option.some.inj e2] at c
      exact ⟨c, f⟩
    have i2 : (hf : Int) < 2 := by omega
    by_cases h0 : s.what = 0
    · rw [h0] at c0
      go_upto_region 7 with fail
      have TP := Lib.hid (fun w' (LL : List Piece) (h : Own w0 w' (dk (.pointer (some ⟨b, 0, none⟩)) m' :: LL)) => top12_own h (by omega))
      have hT : 0 ≤ topL m' ∧ topL m' ≤ 4294967295 := top_le HM1.out.1
      have BG := Lib.hid (fun w' (LL : List Piece) (h : Own w0 w' (dk (.pointer (some ⟨b, 0, none⟩)) m' :: LL)) => begin_own h HM2.out (by omega) (hf : Int) (topL m' + 1) tx (by have := TL.out; omega))
      have BK2 := Lib.hid (begin_keeps HM1.out HM2.out (by omega) (hf : Int) (topL m' + 1) tx)
      generalize topL m' = T at TP hT BG BK2
      have s1 : IntKind.i64.wrap (T + 1) = T + 1 := IntWalk.i64_in _ (by omega)
      generalize hR : beginV m' (hf : Int) (T + 1) tx = R at BG BK2
      obtain ⟨lo, mm, er⟩ := R
      have ER := Lib.hid (begin_er hR)
      have OD := OW.drew
      have k0 := CK.out _ _ OW
      have k1 := CK.out _ _ OD
      clear OW c0 c1 hR hT w8 h0
      cases lo
      · have hne : ¬ er = 0 := ER.out.2 rfl
        unfold BeginPost at BG
        simp only at BG
        go_region_held3 (fun w' => w'.cell? ⟨g, off + k * 6, none⟩ = some (.int .u8 s.what) ∧ w'.cell? ⟨g, off + k * 6 + 1, none⟩ = some (.int .i64 s.half) ∧ w'.cell? ⟨g, off + k * 6 + 2, none⟩ = some (.int .i64 s.age) ∧ w'.cell? ⟨g, off + k * 6 + 3, none⟩ = some (.string ⟨s.s.toArray⟩) ∧ w'.cell? ⟨g, off + k * 6 + 4, none⟩ = some (.int .i64 s.many) ∧ w'.cell? ⟨g, off + k * 6 + 5, none⟩ = some (.slice s.ka s.keep.length s.kc))
          (first | with_reducible exact k0.out | with_reducible exact k1.out)
          (first
            | (go_at_call 12; (with_reducible refine (TP.out _ _ OD).mono ?_); rintro e1 ws ⟨rfl, OD⟩; have k1 := CK.out _ _ OD)
            | (go_at_call 33; (with_reducible refine (TX.out _ _ OD).mono ?_); rintro e2 ws ⟨rfl, OD⟩; have k1 := CK.out _ _ OD)
            | (go_at_call 16; (with_reducible refine (BG.out _ _ OD).mono ?_); rintro e3 ws ⟨rfl, OD⟩; have k1 := CK.out _ _ OD))
        have FIN := NX.out ws mm BK2.out.1 BK2.out.2.1 BK2.out.2.2.1 (KEEP.out _ _ BK2.out.2.2.1 OD)
        clear OD k0 k1 BK2 ER BG TP
        go_wp2
        go_roundw
        case rel => exact ⟨k + 1, mm, by go_num, by omega, FIN.1, FIN.2⟩
        case measure => simp [intOf]; omega
      · rename_i lr
        obtain rfl : er = 0 := ER.out.1 lr rfl
        unfold BeginPost at BG
        simp only at BG
        go_region_held3 (fun w' => w'.cell? ⟨g, off + k * 6, none⟩ = some (.int .u8 s.what) ∧ w'.cell? ⟨g, off + k * 6 + 1, none⟩ = some (.int .i64 s.half) ∧ w'.cell? ⟨g, off + k * 6 + 2, none⟩ = some (.int .i64 s.age) ∧ w'.cell? ⟨g, off + k * 6 + 3, none⟩ = some (.string ⟨s.s.toArray⟩) ∧ w'.cell? ⟨g, off + k * 6 + 4, none⟩ = some (.int .i64 s.many) ∧ w'.cell? ⟨g, off + k * 6 + 5, none⟩ = some (.slice s.ka s.keep.length s.kc))
          (first | with_reducible exact k0.out | with_reducible exact k1.out)
          (first
            | (go_at_call 12; (with_reducible refine (TP.out _ _ OD).mono ?_); rintro e1 ws ⟨rfl, OD⟩; have k1 := CK.out _ _ OD)
            | (go_at_call 33; (with_reducible refine (TX.out _ _ OD).mono ?_); rintro e2 ws ⟨rfl, OD⟩; have k1 := CK.out _ _ OD)
            | (go_at_call 16; (with_reducible refine (BG.out _ _ OD).mono ?_); rintro e3 ws ⟨q, rfl, OD⟩; have k1 := CK.out _ _ OD))
        clear k0 k1 BG TP ER
        have OE := OD.selK 5 [3, 1, 0, 2, 4]
        try simp only [List.map_cons, List.map_nil, List.getD_cons_zero, List.getD_cons_succ, List.eraseIdx_cons_zero, List.eraseIdx_cons_succ, List.getElem_cons_zero, List.getElem_cons_succ, List.take_succ_cons, List.take_zero, List.drop_succ_cons, List.drop_zero, List.cons_append, List.nil_append, List.append_eq] at OE
        obtain ⟨cx, fx⟩ := (CX.out _ _ OE).out
        have OF : ∀ w', w' = ws.setCell ⟨lg, hf, none⟩ (.pointer (some ⟨q, 0, none⟩)) → LogsAt w0 w' L (.pointer (some ⟨b, 0, none⟩)) mm lg := fun w' e => by
          subst e
          have h2 : Own w0 (ws.setCell ⟨lg, hf, none⟩ (lgPtr (some (q, lr)))) (rowP lg (xs.set hf (lgPtr (some (q, lr)))) :: _) := Own.rowvStore OE hf (lgPtr (some (q, lr)))
          have h3 : Own w0 (ws.setCell ⟨lg, hf, none⟩ (lgPtr (some (q, lr)))) (dk (.pointer (some ⟨b, 0, none⟩)) mm :: lgOpt (some (q, lr)) (.pointer (some ⟨b, 0, none⟩)) :: rowP lg (xs.set hf (lgPtr (some (q, lr)))) :: lgOpt y (.pointer (some ⟨b, 0, none⟩)) :: L) := h2.selK 5 [1, 2, 0, 4]
          exact BKH.out _ mm BK2.out.2.2.1 (some (q, lr)) (BK2.out.2.2.2 q) h3
        have FIN := Lib.hid (fun w' e => NX.out w' mm BK2.out.1 BK2.out.2.1 BK2.out.2.2.1 (OF w' e))
        clear OD OE OF BK2
        go_wp2
        go_roundw
        case rel => exact ⟨k + 1, mm, by go_num, by omega, (FIN.out _ rfl).1, (FIN.out _ rfl).2⟩
        case measure => simp [intOf]; omega
    have f0 : (s.what == 0) = false := by simp [h0]
    clear h0
    by_cases h1 : s.what = 1
    · rw [h1] at c0 f0
      go_upto_region 11 with fail
      have OD := OW.drew
      have k0 := CK.out _ _ OW
      have k1 := CK.out _ _ OD
      have k2 := CX.out _ _ (OW.pick 2)
      have k3 := CX.out _ _ (OD.pick 2)
      clear OW c0 c1 w8 h1 f0
      cases x
      · have AN := Lib.hid (fun w' => add_nil tx w')
        have CX2 : Hid (∀ w' (LL : List Piece), Own w0 w' (rowP lg xs :: LL) → Hid (w'.cell? ⟨lg, hf, none⟩ = some (.pointer none))) := fun w' LL h => (CX.out _ _ h).out.1
        clear k2 k3
        have k2 := CX2.out _ _ (OD.pick 2)
        rw [hmod]
        go_region_held3 (fun w' => w'.cell? ⟨lg, hf, none⟩ = some (.pointer none) ∧ w'.cell? ⟨g, off + k * 6, none⟩ = some (.int .u8 s.what) ∧ w'.cell? ⟨g, off + k * 6 + 1, none⟩ = some (.int .i64 s.half) ∧ w'.cell? ⟨g, off + k * 6 + 2, none⟩ = some (.int .i64 s.age) ∧ w'.cell? ⟨g, off + k * 6 + 3, none⟩ = some (.string ⟨s.s.toArray⟩) ∧ w'.cell? ⟨g, off + k * 6 + 4, none⟩ = some (.int .i64 s.many) ∧ w'.cell? ⟨g, off + k * 6 + 5, none⟩ = some (.slice s.ka s.keep.length s.kc))
          (first | with_reducible exact ⟨k2.out, k1.out⟩ | with_reducible exact ⟨k2.out, k0.out⟩)
          (first
            | (go_at_call 33; (with_reducible refine (TX.out _ _ OD).mono ?_); rintro e2 ws ⟨rfl, OD⟩; have k1 := CK.out _ _ OD; have k2 := CX2.out _ _ (OD.pick 2))
            | (go_at_call 17; (with_reducible refine (AN.out _).mono ?_); rintro e3 ws ⟨rfl, rfl⟩))
        have FIN := NX.out ws m' HM1.out (HM2.out.mono (by omega)) rfl (KEEP.out _ _ rfl OD)
        clear OD k0 k1 k2
        go_wp2
        go_roundw
        case rel => exact ⟨k + 1, m', by go_num, by omega, FIN.1, FIN.2⟩
        case measure => simp [intOf]; omega
      · rename_i ql
        obtain ⟨q, lr⟩ := ql
        have CX2 : Hid (∀ w' (LL : List Piece), Own w0 w' (rowP lg xs :: LL) → Hid (w'.cell? ⟨lg, hf, none⟩ = some (.pointer (some ⟨q, 0, none⟩)))) := fun w' LL h => (CX.out _ _ h).out.1
        clear k2 k3
        have k2 := CX2.out _ _ (OD.pick 2)
        rw [hmod]
        have lon := goodL_on GX.out
        have lmn : lr.many ≤ 20 := (GX.out q lr rfl).2.2.2
        have AC := Lib.hid (fun w' (LL : List Piece) (h : Own w0 w' (lgb q lr (.pointer (some ⟨b, 0, none⟩)) :: dk (.pointer (some ⟨b, 0, none⟩)) m' :: LL)) => add_own h lon HM2.out (by omega) tx (by have := TL.out; omega))
        have A1 := Lib.hid (add_calm HM1.out lr tx)
        have A2 := Lib.hid (add_fits (l := lr) HM2.out tx)
        have A3 := Lib.hid (add_n m' lr tx)
        have A4 := goodL_of (q := q) (lon.add tx) (by rw [add_many]; exact lmn)
        rw [add_n] at A4
        have A4 := Lib.hid A4
        unfold AddPost at AC
        generalize lr.add m' tx = R at AC A1 A2 A3 A4
        obtain ⟨l2, m2, er⟩ := R
        simp only at AC A1 A2 A3 A4
        have FIN := Lib.hid (fun w' (h : Own w0 w' (lgb q l2 (.pointer (some ⟨b, 0, none⟩)) :: dk (.pointer (some ⟨b, 0, none⟩)) m2 :: rowP lg xs :: lgOpt y (.pointer (some ⟨b, 0, none⟩)) :: L)) => by
          have h2 := BKH.out w' m2 A3.out (some (q, l2)) A4.out
          rw [show lgPtr (some (q, l2)) = lgPtr (some (q, lr)) from rfl, set_at XK.out] at h2
          exact NX.out w' m2 A1.out (A2.out.mono (by omega)) A3.out (h2 (h.selK 4 [1, 0, 2, 3])))
        clear lon A1 A2 A3 A4 BKH KEEP
        go_region_held3 (fun w' => w'.cell? ⟨lg, hf, none⟩ = some (.pointer (some ⟨q, 0, none⟩)) ∧ w'.cell? ⟨g, off + k * 6, none⟩ = some (.int .u8 s.what) ∧ w'.cell? ⟨g, off + k * 6 + 1, none⟩ = some (.int .i64 s.half) ∧ w'.cell? ⟨g, off + k * 6 + 2, none⟩ = some (.int .i64 s.age) ∧ w'.cell? ⟨g, off + k * 6 + 3, none⟩ = some (.string ⟨s.s.toArray⟩) ∧ w'.cell? ⟨g, off + k * 6 + 4, none⟩ = some (.int .i64 s.many) ∧ w'.cell? ⟨g, off + k * 6 + 5, none⟩ = some (.slice s.ka s.keep.length s.kc))
          (first | with_reducible exact ⟨k2.out, k1.out⟩)
          (first
            | (go_at_call 33; (with_reducible refine (TX.out _ _ OD).mono ?_); rintro e2 ws ⟨rfl, OD⟩; have k1 := CK.out _ _ OD; have k2 := CX2.out _ _ (OD.pick 2); have OX := OD.pick 1)
            | (go_at_call 17; (with_reducible refine (AC.out _ _ OX).mono ?_); rintro e3 ws ⟨rfl, OD⟩; have k1 := CK.out _ _ OD; have k2 := CX2.out _ _ (OD.pick 2)))
        have FIN := FIN.out _ OD
        clear OD k0 k1 k2
        go_wp2
        go_roundw
        case rel => exact ⟨k + 1, m2, by go_num, by omega, FIN.1, FIN.2⟩
        case measure => simp [intOf]; omega
    have f1 : (s.what == 1) = false := by simp [h1]
    clear h1
    by_cases h2 : s.what = 2
    · rw [h2] at c0 f0 f1
      have SY := Lib.hid (fun w' (LL : List Piece) (h : Own w0 w' (dk (.pointer (some ⟨b, 0, none⟩)) m' :: LL)) => sync_fit h HM2.out (by omega) (m' := m'.sync.1) (er := m'.sync.2) rfl)
      have A1 := Lib.hid (sync_calm HM1.out)
      have A2 := Lib.hid (HM2.out.sync)
      have A3 := Lib.hid (sync_n m')
      generalize m'.sync = R at SY A1 A2 A3
      obtain ⟨m2, er⟩ := R
      simp only at SY A1 A2 A3
      clear w8 h2
      go_wp2_with fail
      refine (SY.out _ _ OW).mono ?_
      clear SY OW
      rintro _ ws ⟨rfl, O⟩
      have FIN := NX.out ws m2 A1.out (A2.out.mono (by omega)) A3.out (KEEP.out _ _ A3.out O)
      clear A1 A2 A3 O
      go_wp2
      go_roundw
      case rel => exact ⟨k + 1, m2, by go_num, by omega, FIN.1, FIN.2⟩
      case measure => simp [intOf]; omega
    have f2 : (s.what == 2) = false := by simp [h2]
    clear h2
    by_cases h3 : s.what = 3
    · rw [h3] at c0 f0 f1 f2
      go_upto_region 15 with fail
      clear c0 c1 f0 f1 f2 h3 w8
      obtain ⟨d0, d1, d2, d3, d4, d5⟩ := (CK.out _ _ OW).out
      go_wp2_with fail
      refine (TX.out _ _ OW).mono ?_
      clear TX OW d0 d1 d2 d3 d4 d5
      rintro _ ws ⟨rfl, O⟩
      obtain ⟨g2, cap1, W1, hconv, g3, cap3, W2, happ, hcap, OB⟩ := bytes_zeros O tx (by have := TL.out; omega) 128 (by omega) (by omega) 57
      have CA := (CK.out _ _ OB).out.2.2.1
      have CB := (CK.out _ _ OB.drew).out.2.2.1
      have FB := first_bytes OB.drew 128 (by simp) cap3
      have BL : ((tx ++ List.replicate 128 0).take 128).length = 128 := by rw [List.length_take, List.length_append, List.length_replicate]; omega
      generalize (tx ++ List.replicate 128 0).take 128 = s128 at FB BL
      have c128 : (128 : Int) ≤ (cap3 : Int) := by omega
      have OC := OB.drew.drop
      clear OB O hcap
      go_wp2_with (at_builtin; refine Lib.wpList_append_run _ rfl _ _ _ _ rfl _ _ rfl rfl _ _ happ ?_)
      have WR := Lib.hid (write_fit OC HM2.out (by omega) s.age (wf64 sw.out.age) s128 (by omega) (m' := (m'.write s.age s128).1) (er := (m'.write s.age s128).2) rfl)
      have A1 := Lib.hid (write_calm1 HM1.out s.age s128)
      have A2 := Lib.hid (HM2.out.write s.age s128)
      have A3 := Lib.hid (write_n m' s.age s128)
      generalize m'.write s.age s128 = R at WR A1 A2 A3
      obtain ⟨m2, er⟩ := R
      simp only at WR A1 A2 A3
      have KA := Lib.hid CA
      have KB := Lib.hid CB
      clear CA CB OC happ hconv
      replace KA := KA.out
      replace KB := KB.out
      go_still_tail 9, (by kernel_rfl)
      change wpList _ _ _ _ _ W2.drew
      go_wp2_with fail
      refine (WR.out).mono ?_
      clear WR
      rintro _ wz ⟨rfl, OD⟩
      have FIN := NX.out _ m2 A1.out (A2.out.mono (by omega)) A3.out (KEEP.out _ _ A3.out OD)
      clear OD A1 A2 A3 KA KB FB
      go_wp2
      go_roundw
      case rel => exact ⟨k + 1, m2, by go_num, by omega, FIN.1, FIN.2⟩
      case measure => simp [intOf]; omega
    have f3 : (s.what == 3) = false := by simp [h3]
    clear h3
    have FIN := NX.out wr m' HM1.out (HM2.out.mono (by omega)) rfl (KEEP.out _ _ rfl OW)
    clear OW w8
    go_wp2
    go_roundw
    case rel => exact ⟨k + 1, m', by go_num, by omega, FIN.1, FIN.2⟩
    case measure => simp [intOf]; omega
end Go.Proofs.YtnlppcjfpmnahaaGreatDoor
