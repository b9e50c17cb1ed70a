/- log, plain: the power fails in the midst of a record's writing. -/
import Derived.Test.YtnlppcjfpmnahaaDoorLgQ
import Derived.Test.YtnlppcjfpmnahaaDoorLgB
namespace Go.Proofs.YtnlppcjfpmnahaaDoor
set_option linter.all false
open Go.RowKit Go.Maps

theorem four_leb {a : List UInt8} (h : a.length = 4) : a = [lebAt (numL a) 0, lebAt (numL a) 1, lebAt (numL a) 2, lebAt (numL a) 3] := by
  match a, h with
  | [p, q, r, s], _ =>
    have e := numL4 p q r s
    have b0 := UInt8.toNat_lt p
    have b1 := UInt8.toNat_lt q
    have b2 := UInt8.toNat_lt r
    have b3 := UInt8.toNat_lt s
    have l0 := leb0 (numL [p, q, r, s])
    have l1 := leb1 (numL [p, q, r, s])
    have l2 := leb2 (numL [p, q, r, s])
    have l3 := leb3 (numL [p, q, r, s])
    rw [e] at l0 l1 l2 l3
    have h0 : p = lebAt (numL [p, q, r, s]) 0 := UInt8.toNat_inj.1 (by rw [e]; omega)
    have h1 : q = lebAt (numL [p, q, r, s]) 1 := UInt8.toNat_inj.1 (by rw [e]; omega)
    have h2 : r = lebAt (numL [p, q, r, s]) 2 := UInt8.toNat_inj.1 (by rw [e]; omega)
    have h3 : s = lebAt (numL [p, q, r, s]) 3 := UInt8.toNat_inj.1 (by rw [e]; omega)
    rw [← h0, ← h1, ← h2, ← h3]
theorem mix_num {age : Nat} (h2 : age < 4294967296) {b : List UInt8} (hb : b.length = 4) (ho : numL b ≤ age) (n : Nat) : numL (mixL n [lebAt age 0, lebAt age 1, lebAt age 2, lebAt age 3] b) ≤ age := by
  have e := four_leb hb
  have := mix_le (age := (age : Int)) (other := (numL b : Int)) (by omega) (by omega) (by omega) n
  rw [← e] at this
  omega
theorem ageS_ends {y : List UInt8} (hy : y.length = 128) : numL (y.take 4) ≤ ageS y ∧ numL ((y.drop 120).take 4) ≤ ageS y := by
  unfold ageS; rw [if_pos hy]; omega
theorem mix_length (n : Nat) {a b : List UInt8} (h : a.length = b.length) : (mixL n a b).length = b.length := by
  unfold mixL; simp; omega
/-- a new sector, torn, over an older one -/
theorem torn_old {age place : Nat} {s y : List UInt8} (h : mayB age place = true) (hs : s.length ≤ 112) (hy : y.length = 128) (ho : ageS y < age) (n : Nat) :
    ageS (mixL n (putS age place s) y) ≤ age ∧ (getB (mixL n (putS age place s) y) = true → getA (mixL n (putS age place s) y) = age → mixL n (putS age place s) y = putS age place s) := by
  have hl : (putS (age : Int) place s).length = 128 := putS_len hs
  have hxy : (putS (age : Int) place s).length = y.length := by rw [hl, hy]
  have hx : (mixL n (putS (age : Int) place s) y).length = 128 := by rw [mix_length n hxy, hy]
  obtain ⟨o1, o2⟩ := ageS_ends hy
  have hag : (age : Int) ≤ 4294967295 := (mayB_iff.1 h).2.1
  have st4 : (stampL (age : Int) place).take 4 = [lebAt age 0, lebAt age 1, lebAt age 2, lebAt age 3] := by rw [stampL_eq]; rfl
  have first := putS_first (age : Int) place s
  have last := putS_last (age := (age : Int)) (place := (place : Int)) hs
  have f4 : (putS (age : Int) place s).take 4 = [lebAt age 0, lebAt age 1, lebAt age 2, lebAt age 3] := by rw [take4, first, st4]
  have l4 : ((putS (age : Int) place s).drop 120).take 4 = [lebAt age 0, lebAt age 1, lebAt age 2, lebAt age 3] := by rw [last, st4]
  constructor
  · unfold ageS
    rw [if_pos hx]
    have e1 : (mixL n (putS (age : Int) place s) y).take 4 = mixL n [lebAt age 0, lebAt age 1, lebAt age 2, lebAt age 3] (y.take 4) := by rw [mix_take _ _ _ _ hxy, f4]
    have e2 : ((mixL n (putS (age : Int) place s) y).drop 120).take 4 = mixL (n - 120) [lebAt age 0, lebAt age 1, lebAt age 2, lebAt age 3] ((y.drop 120).take 4) := by
      rw [mix_drop _ _ _ _ hxy, mix_take _ _ _ _ (by rw [List.length_drop, List.length_drop, hxy]), l4]
    rw [e1, e2]
    have m1 := mix_num (age := age) (by omega) (b := y.take 4) (by rw [List.length_take]; omega) (by omega) n
    have m2 := mix_num (age := age) (by omega) (b := (y.drop 120).take 4) (by rw [List.length_take, List.length_drop]; omega) (by omega) (n - 120)
    omega
  · intro gb ga
    obtain ⟨-, g2, -⟩ := getB_iff.1 gb
    rcases Nat.lt_or_ge 120 n with q | q
    · have t120 : (mixL n (putS (age : Int) place s) y).take 120 = (putS (age : Int) place s).take 120 := by
        unfold mixL
        rw [List.take_append_of_le_length (by rw [List.length_take]; omega), List.take_take, Nat.min_eq_left (by omega)]
      have t8 : (mixL n (putS (age : Int) place s) y).take 8 = stampL age place := by
        rw [← first]
        have := congrArg (List.take 8) t120
        rw [List.take_take, List.take_take] at this
        exact this
      rw [← List.take_append_drop 120 (mixL n (putS (age : Int) place s) y), ← g2, t8, t120]
      conv => rhs; rw [← List.take_append_drop 120 (putS (age : Int) place s), last]
    · exfalso
      have d : (mixL n (putS (age : Int) place s) y).drop 120 = y.drop 120 := by
        rw [mix_drop _ _ _ _ hxy, show n - 120 = 0 by omega]; simp [mixL]
      unfold getA at ga
      rw [take4, g2, d] at ga
      omega
/-- the power fails behind K writes -/
theorem wr_fail : ∀ (ss : List (List UInt8)) (m : Dk) (k : Int) (K : Nat), m.off = false → m.left = K → 1 ≤ K → K ≤ ss.length → 0 ≤ k → k + ss.length ≤ m.n → (∀ s ∈ ss, s.length = 128) →
    (wrs m k ss).1.off = true ∧ (wrs m k ss).2 = (if K = ss.length then 0 else 42) ∧
    (∀ j (h : j < ss.length), j < K → (wrs m k ss).1.now (k + j) = some ss[j] ∧ (wrs m k ss).1.was (k + j) = if (m.was (k + j)).isSome = true then m.was (k + j) else some (m.get (k + j))) ∧
    ∀ i, (i < k ∨ k + K ≤ i) → (wrs m k ss).1.now i = m.now i ∧ (wrs m k ss).1.was i = m.was i
  | [], m, k, K, _, _, h1, h2, _, _, _ => by simp at h2; omega
  | x :: r, m, k, K, ho, hK, h1, h2, h0, hn, hs => by
    simp only [List.length_cons] at hn h2
    have e : m.write k x = ((m.put k x).did, 0) := by
      unfold Dk.write
      rw [ho, if_neg (by simp), if_neg (by rw [hs x (by simp)]; omega)]
    have now1 : ∀ i, ((m.put k x).did).now i = if i = k then some x else m.now i := fun i => by
      show (upd m.now k (some x)) i = _
      unfold upd; rfl
    have was1 : ∀ i, ((m.put k x).did).was i = if i = k ∧ ¬ (m.was k).isSome = true then some (m.get k) else m.was i := fun i => by
      show (if (m.was k).isSome = true then m.was else upd m.was k (some (m.get k))) i = _
      by_cases q : (m.was k).isSome = true
      · rw [if_pos q, if_neg (by simp [q])]
      · rw [if_neg q]
        unfold upd
        by_cases q2 : i = k
        · rw [if_pos q2, if_pos ⟨q2, q⟩]
        · rw [if_neg q2, if_neg (fun h => q2 h.1)]
    have left1 : ((m.put k x).did).left = K - 1 := by show m.left - 1 = _; rw [hK]
    have off1 : ((m.put k x).did).off = decide (K = 1) := by
      show (if 0 < m.left then decide (m.left = 1) else m.off) = _
      rw [hK, if_pos (by omega)]
    rw [wrs, e, if_pos rfl]
    have wk : (if k = k ∧ ¬ (m.was k).isSome = true then some (m.get k) else m.was k) = if (m.was k).isSome = true then m.was k else some (m.get k) := by
      by_cases q : (m.was k).isSome = true
      · rw [if_neg (by simp [q]), if_pos q]
      · rw [if_pos ⟨rfl, q⟩, if_neg q]
    by_cases q : K = 1
    · subst q
      have off2 : ((m.put k x).did).off = true := by rw [off1]; rfl
      have wr1 : wrs (m.put k x).did (k + 1) r = ((m.put k x).did, if r = [] then 0 else 42) := by
        cases r with
        | nil => rfl
        | cons z r =>
          have e2 : (m.put k x).did.write (k + 1) z = ((m.put k x).did, 42) := by unfold Dk.write; rw [off2, if_pos rfl]
          rw [wrs, e2, if_neg (by simp)]; simp
      rw [wr1]
      refine ⟨off2, ?_, fun j hj hj1 => ?_, fun i hi => ?_⟩
      · cases r <;> simp
      · obtain rfl : j = 0 := by omega
        simp only [Int.natCast_zero, Int.add_zero, List.getElem_cons_zero]
        rw [now1, was1, if_pos rfl]
        exact ⟨rfl, wk⟩
      · simp only
        rw [now1, was1, if_neg (by omega), if_neg (fun h => by omega)]
        exact ⟨rfl, rfl⟩
    · have off2 : ((m.put k x).did).off = false := by rw [off1]; simpa using q
      obtain ⟨i1, i2, i3, i4⟩ := wr_fail r (m.put k x).did (k + 1) (K - 1) off2 left1 (by omega) (by omega) (by omega) (by show k + 1 + r.length ≤ (m.n : Int); omega) (fun s hs' => hs s (by simp [hs']))
      refine ⟨i1, ?_, fun j hj hj1 => ?_, fun i hi => ?_⟩
      · rw [i2, List.length_cons]
        by_cases q2 : K - 1 = r.length
        · rw [if_pos q2, if_pos (by omega)]
        · rw [if_neg q2, if_neg (by omega)]
      · cases j with
        | zero =>
          simp only [Int.natCast_zero, Int.add_zero, List.getElem_cons_zero]
          obtain ⟨a1, a2⟩ := i4 k (by omega)
          rw [a1, a2, now1, was1, if_pos rfl]
          exact ⟨rfl, wk⟩
        | succ j =>
          obtain ⟨a1, a2⟩ := i3 j (by simpa using hj) (by omega)
          have ek : k + ((j + 1 : Nat) : Int) = k + 1 + (j : Int) := by omega
          have gk : (m.put k x).did.get (k + 1 + j) = m.get (k + 1 + j) := by
            show (((m.put k x).did).now (k + 1 + j)).getD zeros = _
            rw [now1, if_neg (by omega)]; rfl
          have wj : (m.put k x).did.was (k + 1 + j) = m.was (k + 1 + j) := by rw [was1, if_neg (fun h => by have := h.1; omega)]
          rw [ek, a1, a2, wj, gk, List.getElem_cons_succ]
          exact ⟨rfl, rfl⟩
      · obtain ⟨a1, a2⟩ := i4 i (by omega)
        rw [a1, a2, now1, was1, if_neg (by omega), if_neg (fun h => by omega)]
        exact ⟨rfl, rfl⟩
/-- what is there behind a Boot: new sectors, torn over what was there -/
def TornAt (m m2 : Dk) (k : Int) (ss : List (List UInt8)) : Prop :=
  (∀ j (h : j < ss.length), ∃ n, m2.get (k + j) = mixL n ss[j] (m.get (k + j))) ∧ ∀ i, (i < k ∨ k + ss.length ≤ i) → m2.get i = m.get i
theorem boot_torn {m : Dk} {ss : List (List UInt8)} {k : Int} {K : Nat} (ho : m.off = false) (hK : m.left = K) (h1 : 1 ≤ K) (h2 : K ≤ ss.length) (h0 : 0 ≤ k) (hn : k + ss.length ≤ m.n) (hs : ∀ s ∈ ss, s.length = 128) (hw : ∀ i, m.was i = none)
    (hok : (wrs m k ss).1.Ok) (keep : List Int) : TornAt m ((wrs m k ss).1.boot keep).1 k ss := by
  obtain ⟨f1, -, f3, f4⟩ := wr_fail ss m k K ho hK h1 h2 h0 hn hs
  have bn := fun i => bootI_now hok keep _ (Nat.le_refl _) i
  simp only [List.take_length] at bn
  have out : ∀ i, (i < k ∨ k + K ≤ i) → ((wrs m k ss).1.boot keep).1.get i = m.get i := fun i hi => by
    obtain ⟨a1, a2⟩ := f4 i hi
    rw [boot_get f1, (bn i).1 (fun hm => by rw [mem_dirty hok.dom, a2, hw] at hm; cases hm), a1]; rfl
  refine ⟨fun j hj => ?_, fun i hi => out i (by omega)⟩
  rcases Nat.lt_or_ge j K with q | q
  · obtain ⟨a1, a2⟩ := f3 j hj q
    rw [hw] at a2
    simp only [Option.isSome_none, Bool.false_eq_true, if_false] at a2
    obtain ⟨n, s, t, b1, b2, b3⟩ := (bn (k + j)).2 ((mem_dirty hok.dom _).2 (by rw [a2]; rfl))
    refine ⟨n, ?_⟩
    rw [boot_get f1, b3]
    rw [a1] at b1
    rw [a2] at b2
    obtain rfl := Option.some.inj b1
    obtain rfl := Option.some.inj b2
    rfl
  · exact ⟨0, by rw [out _ (by omega)]; simp [mixL]⟩
/-- what Scan tells then -/
theorem Lg.Is.torn {l : Lg} {m0 m m2 : Dk} {put : List (List UInt8)} (h : l.Is m0 m put) (s : List UInt8) (hk : l.used + manyN s.length ≤ l.many) (hold : ∀ i : Nat, i < m0.n → ageS (m0.get i) < l.age ∧ (m0.get i).length = 128) (hm : l.many ≤ 512)
    (ht : TornAt m m2 ((l.first + l.used : Nat) : Int) (splitL l.age l.used s)) (hn : m2.n = m.n) :
    (put ≠ [] → toldL (secsL m2 l.first l.many) = ((l.age : Int), put, 0) ∨ toldL (secsL m2 l.first l.many) = ((l.age : Int), put ++ [s], 0)) ∧
    (put = [] → (toldL (secsL m2 l.first l.many)).2.2 = 5 ∨ (toldL (secsL m2 l.first l.many)).2.2 = 0 ∧ ((toldL (secsL m2 l.first l.many)).1 < l.age ∨ (toldL (secsL m2 l.first l.many)).1 = l.age ∧ (toldL (secsL m2 l.first l.many)).2.1 = [s])) ∧
    maxAge (secsL m2 0 m2.n) ≤ l.age ∧ (∀ i : Nat, (i < l.first ∨ l.first + l.many ≤ i) → m2.get i = m0.get i) := by
  obtain ⟨t1, t2⟩ := ht
  have hr := h.on.room
  have hn0 := h.n
  have ha := h.on.age
  have hus := h.used
  have sl := split_len (l.age : Int) (l.used : Int) s
  have hmp := many_pos s.length
  rw [sl] at t2
  have ok : RecOk (l.age : Int) (l.used : Int) s := ⟨mayB_iff.2 ⟨by omega, by omega, by omega, by omega⟩, by omega⟩
  have oldg : ∀ i : Nat, l.first + l.used ≤ i → i < l.first + l.many → m.get i = m0.get i := by
    intro i i1 i2
    have hl : i - l.first < (secsL m l.first l.many).length := by rw [secsL_len]; omega
    have e := secsL_at m l.first l.many (i - l.first) hl
    rw [show l.first + (i - l.first) = i by omega] at e
    rw [← e]
    have rl : (rowAll (l.age : Int) 0 put).length = rowN put := rowAll_len _ _ _
    have e2 : (secsL m l.first l.many)[i - l.first] = ((secsL m0 l.first l.many).drop (rowN put))[i - l.first - rowN put]'(by rw [List.length_drop, secsL_len]; omega) := by
      simp only [h.sec]
      rw [List.getElem_append_right (by rw [rl]; omega)]
      congr 1
      rw [rl]
    rw [e2, List.getElem_drop, secsL_at]
    congr 2; omega
  -- each sector of the new record, as it is
  have at1 : ∀ j (hj : j < manyN s.length), ∃ p, p.length ≤ 112 ∧ (splitL (l.age : Int) l.used s)[j]'(by rw [sl]; exact hj) = putS l.age ((l.used + j : Nat) : Int) p ∧ mayB l.age ((l.used + j : Nat) : Int) = true := by
    intro j hj
    have e := split_at (l.age : Int) (l.used : Int) s j hj
    rw [List.getElem?_eq_getElem (by rw [sl]; exact hj)] at e
    refine ⟨((allL s).drop (112 * j)).take 112, by rw [List.length_take]; omega, ?_, mayB_iff.2 ⟨by omega, by omega, by omega, by omega⟩⟩
    rw [Option.some.inj e]; congr 1
  have new1 : ∀ j (hj : j < manyN s.length), ageS (m2.get ((l.first + l.used + j : Nat) : Int)) ≤ l.age ∧ (getB (m2.get ((l.first + l.used + j : Nat) : Int)) = true → getA (m2.get ((l.first + l.used + j : Nat) : Int)) = l.age → m2.get ((l.first + l.used + j : Nat) : Int) = (splitL (l.age : Int) l.used s)[j]'(by rw [sl]; exact hj)) := by
    intro j hj
    obtain ⟨p, p1, p2, p3⟩ := at1 j hj
    obtain ⟨n, e⟩ := t1 j (by rw [sl]; exact hj)
    rw [show ((l.first + l.used : Nat) : Int) + (j : Int) = ((l.first + l.used + j : Nat) : Int) by omega] at e
    rw [e, p2]
    have og := oldg (l.first + l.used + j) (by omega) (by omega)
    rw [og]
    obtain ⟨o1, o2⟩ := hold (l.first + l.used + j) (by omega)
    exact torn_old p3 p1 o2 o1 n
  -- the half's sectors
  have sec2 : secsL m2 l.first l.many = rowAll l.age 0 put ++ ((secsL m2 (l.first + l.used) (manyN s.length)) ++ (secsL m0 l.first l.many).drop (rowN put + manyN s.length)) := by
    have rl : (rowAll (l.age : Int) 0 put).length = rowN put := rowAll_len _ _ _
    refine List.ext_getElem (by simp [secsL_len, rl]; omega) (fun i h1 h2 => ?_)
    have hi : i < l.many := by rw [secsL_len] at h1; exact h1
    rw [secsL_at]
    rcases Nat.lt_or_ge i (rowN put) with q | q
    · rw [List.getElem_append_left (by rw [rl]; exact q)]
      rw [t2 _ (by omega)]
      have hl : i < (secsL m l.first l.many).length := by rw [secsL_len]; omega
      rw [← secsL_at m l.first l.many i hl]
      simp only [h.sec]
      rw [List.getElem_append_left (by rw [rl]; exact q)]
    · rw [List.getElem_append_right (by rw [rl]; exact q)]
      simp only [rl]
      rcases Nat.lt_or_ge (i - rowN put) (manyN s.length) with q2 | q2
      · rw [List.getElem_append_left (by rw [secsL_len]; exact q2), secsL_at]
        congr 2; omega
      · rw [List.getElem_append_right (by rw [secsL_len]; exact q2), List.getElem_drop, secsL_at, t2 _ (by omega), oldg _ (by omega) (by omega)]
        congr 2
        rw [secsL_len]
        omega
  have zl : (secsL m2 (l.first + l.used) (manyN s.length)).length = manyN s.length := secsL_len _ _ _
  have zat : ∀ j (hj : j < (secsL m2 (l.first + l.used) (manyN s.length)).length), (secsL m2 (l.first + l.used) (manyN s.length))[j] = m2.get ((l.first + l.used + j : Nat) : Int) := fun j hj => secsL_at _ _ _ _ hj
  have tailold : ∀ y ∈ (secsL m0 l.first l.many).drop (rowN put + manyN s.length), ageS y < l.age := by
    intro y hy
    obtain ⟨i, hi, rfl⟩ := List.mem_iff_getElem.1 (List.mem_of_mem_drop hy)
    rw [secsL_at]
    rw [secsL_len] at hi
    exact (hold (l.first + i) (by omega)).1
  have whole : joinB l.age (l.used : Int) (secsL m2 (l.first + l.used) (manyN s.length) ++ (secsL m0 l.first l.many).drop (rowN put + manyN s.length)) = true →
      secsL m2 (l.first + l.used) (manyN s.length) = splitL l.age l.used s := by
    intro hj
    have h0z : 0 < (secsL m2 (l.first + l.used) (manyN s.length)).length := by omega
    have nd := fun y r (e : secsL m2 (l.first + l.used) (manyN s.length) ++ (secsL m0 l.first l.many).drop (rowN put + manyN s.length) = y :: r) => join_need (y := y) (r := r) (e ▸ hj)
    have e1 : secsL m2 (l.first + l.used) (manyN s.length) ++ (secsL m0 l.first l.many).drop (rowN put + manyN s.length) = (secsL m2 (l.first + l.used) (manyN s.length))[0] :: ((secsL m2 (l.first + l.used) (manyN s.length)).drop 1 ++ (secsL m0 l.first l.many).drop (rowN put + manyN s.length)) := by
      conv => lhs; rw [← List.drop_zero (l := secsL m2 (l.first + l.used) (manyN s.length)), List.drop_eq_getElem_cons h0z]
      rfl
    obtain ⟨n1, n2, n3⟩ := nd _ _ e1
    have okz : ∀ j (hj : j < manyN s.length), j < joinN (secsL m2 (l.first + l.used) (manyN s.length))[0] → (secsL m2 (l.first + l.used) (manyN s.length))[j]'(by rw [zl]; exact hj) = (splitL (l.age : Int) l.used s)[j]'(by rw [sl]; exact hj) := by
      intro j hj1 hj2
      have hlen : j < ((secsL m2 (l.first + l.used) (manyN s.length))[0] :: ((secsL m2 (l.first + l.used) (manyN s.length)).drop 1 ++ (secsL m0 l.first l.many).drop (rowN put + manyN s.length))).length := by rw [← e1, List.length_append]; omega
      have o := n3 j hlen hj2
      have ej : ((secsL m2 (l.first + l.used) (manyN s.length))[0] :: ((secsL m2 (l.first + l.used) (manyN s.length)).drop 1 ++ (secsL m0 l.first l.many).drop (rowN put + manyN s.length)))[j] = (secsL m2 (l.first + l.used) (manyN s.length))[j]'(by rw [zl]; exact hj1) := by
        simp only [← e1]
        rw [List.getElem_append_left]
      rw [ej] at o
      unfold okAt at o
      simp only [Bool.and_eq_true, decide_eq_true_eq] at o
      rw [zat] at o ⊢
      exact (new1 j hj1).2 o.1 (by omega)
    have z0 := okz 0 (by omega) n1
    obtain ⟨-, fi, -⟩ := first_is ok
    have fn : joinN (secsL m2 (l.first + l.used) (manyN s.length))[0] = manyN s.length := by
      have e3 : (splitL (l.age : Int) l.used s)[0]'(by omega) = firstL l.age l.used s := by simp only [split_cons, List.getElem_cons_zero]
      rw [z0, e3, fi]
    refine List.ext_getElem (by rw [zl, sl]) (fun j h1 h2 => okz j (by rw [zl] at h1; exact h1) (by rw [fn]; rw [zl] at h1; exact h1))
  have hu1024 : rowN put + manyN s.length ≤ 1024 := by omega
  have yes : joinB l.age (l.used : Int) (secsL m2 (l.first + l.used) (manyN s.length) ++ (secsL m0 l.first l.many).drop (rowN put + manyN s.length)) = true → toldL (secsL m2 l.first l.many) = ((l.age : Int), put ++ [s], 0) := by
    intro hj
    rw [sec2, whole hj]
    have e : rowAll (l.age : Int) 0 put ++ (splitL l.age l.used s ++ (secsL m0 l.first l.many).drop (rowN put + manyN s.length)) = rowAll l.age 0 (put ++ [s]) ++ (secsL m0 l.first l.many).drop (rowN put + manyN s.length) := by
      rw [rowAll_snoc, List.append_assoc, hus]; simp
    rw [e]
    exact told_row ha (by simp) (by rw [rowN_snoc]; exact hu1024) (join_old tailold)
  refine ⟨fun hne => ?_, fun he => ?_, ?_, fun i hi => ?_⟩
  · cases hj : joinB l.age (l.used : Int) (secsL m2 (l.first + l.used) (manyN s.length) ++ (secsL m0 l.first l.many).drop (rowN put + manyN s.length)) with
    | true => exact .inr (yes hj)
    | false =>
      refine .inl ?_
      rw [sec2]
      exact told_row ha hne (by omega) (by rw [show ((rowN put : Nat) : Int) = (l.used : Int) by omega]; exact hj)
  · subst he
    cases hj : joinB l.age (l.used : Int) (secsL m2 (l.first + l.used) (manyN s.length) ++ (secsL m0 l.first l.many).drop (rowN [] + manyN s.length)) with
    | true =>
      have := yes hj
      rw [this]
      exact .inr ⟨rfl, .inr ⟨rfl, rfl⟩⟩
    | false =>
      have hu0 : l.used = 0 := hus
      rw [hu0] at hj
      simp only [rowAll, List.nil_append] at sec2
      rw [hu0] at sec2
      rw [sec2]
      have h0z : 0 < (secsL m2 (l.first + 0) (manyN s.length)).length := by rw [secsL_len]; omega
      have e1 : secsL m2 (l.first + 0) (manyN s.length) ++ (secsL m0 l.first l.many).drop (rowN [] + manyN s.length) = (secsL m2 (l.first + 0) (manyN s.length))[0] :: ((secsL m2 (l.first + 0) (manyN s.length)).drop 1 ++ (secsL m0 l.first l.many).drop (rowN [] + manyN s.length)) := by
        conv => lhs; rw [← List.drop_zero (l := secsL m2 (l.first + 0) (manyN s.length)), List.drop_eq_getElem_cons h0z]
        rfl
      have e0 : (secsL m2 (l.first + 0) (manyN s.length))[0] = m2.get ((l.first + l.used + 0 : Nat) : Int) := by rw [secsL_at]; congr 2; omega
      obtain ⟨a1, a2⟩ := new1 0 (by omega)
      rw [← e0] at a1 a2
      rw [e1] at hj ⊢
      generalize (secsL m2 (l.first + 0) (manyN s.length))[0] = z at hj a1 a2 ⊢
      generalize (secsL m2 (l.first + 0) (manyN s.length)).drop 1 ++ (secsL m0 l.first l.many).drop (rowN [] + manyN s.length) = zs at hj ⊢
      unfold toldL
      simp only
      split
      · rename_i hc
        refine .inr ⟨rfl, ?_⟩
        have := ageS_getA hc.1
        rcases Nat.lt_or_ge (getA z) l.age with q | q
        · exact .inl (by simp only; omega)
        · exfalso
          have eA : getA z = l.age := by omega
          apply hc.2.2
          rw [eA, recsL, if_neg (by rw [show ((0 : Nat) : Int) = 0 from rfl] at hj; rw [hj]; simp)]
      · exact .inl rfl
  · refine maxAge_le _ 0 _ (by omega) (fun y hy => ?_)
    obtain ⟨i, hi, rfl⟩ := List.mem_iff_getElem.1 hy
    rw [secsL_at]
    rw [secsL_len] at hi
    simp only [Nat.zero_add]
    by_cases q : l.first + l.used ≤ i ∧ i < l.first + l.used + manyN s.length
    · have := (new1 (i - (l.first + l.used)) (by omega)).1
      rw [show l.first + l.used + (i - (l.first + l.used)) = i by omega] at this
      exact this
    · rw [t2 _ (by omega)]
      by_cases q2 : l.first ≤ i ∧ i < l.first + l.many
      · by_cases q3 : i < l.first + l.used
        · have hl : i - l.first < (secsL m l.first l.many).length := by rw [secsL_len]; omega
          have e := secsL_at m l.first l.many (i - l.first) hl
          rw [show l.first + (i - l.first) = i by omega] at e
          rw [← e]
          have rl : (rowAll (l.age : Int) 0 put).length = rowN put := rowAll_len _ _ _
          have : (secsL m l.first l.many)[i - l.first] ∈ rowAll (l.age : Int) (0 : Nat) put := by
            simp only [h.sec]
            rw [List.getElem_append_left (by rw [rl]; omega)]
            exact List.getElem_mem _
          have := row_age ha put 0 (by omega) _ this
          omega
        · rw [oldg i (by omega) q2.2]
          have := (hold i (by omega)).1; omega
      · rw [h.out i (by omega)]
        have := (hold i (by omega)).1; omega
  · rw [t2 _ (by have := h.on.used; omega)]
    exact h.out i hi
end Go.Proofs.YtnlppcjfpmnahaaDoor
