/- log, plain: what is written to a disk that is on; what Scan and Top tell then. -/
import Derived.Test.YtnlppcjfpmnahaaDoorLgP
namespace Go.Proofs.YtnlppcjfpmnahaaDoor
set_option linter.all false
open Go.RowKit

/-- the power is on, and does not fail by itself -/
def Dk.Calm (m : Dk) : Prop := m.off = false ∧ m.left = 0
theorem write_calm {m : Dk} (h : m.Calm) {k : Int} (h0 : 0 ≤ k) (h1 : k < m.n) {s : List UInt8} (hs : s.length = 128) :
    (m.write k s).2 = 0 ∧ (m.write k s).1.Calm ∧ (m.write k s).1.ops = m.ops + 1 ∧ (∀ i, (m.write k s).1.get i = if i = k then s else m.get i) := by
  obtain ⟨h2, h3⟩ := h
  have e : m.write k s = ((m.put k s).did, 0) := by
    unfold Dk.write
    rw [h2, if_neg (by simp), if_neg (by omega)]
  rw [e]
  have hl : (m.put k s).left = 0 := h3
  refine ⟨rfl, ⟨?_, ?_⟩, rfl, fun i => ?_⟩
  · show (if 0 < (m.put k s).left then decide ((m.put k s).left = 1) else (m.put k s).off) = false
    rw [if_neg (by omega)]; exact h2
  · show (m.put k s).left - 1 = 0
    omega
  · show ((upd m.now k (some s)) i).getD zeros = _
    unfold upd
    by_cases q : i = k
    · rw [if_pos q, if_pos q]; rfl
    · rw [if_neg q, if_neg q]; rfl
theorem wr_calm : ∀ (ss : List (List UInt8)) (m : Dk) (k : Int), m.Calm → 0 ≤ k → k + ss.length ≤ m.n → (∀ s ∈ ss, s.length = 128) →
    (wrs m k ss).2 = 0 ∧ (wrs m k ss).1.Calm ∧ (wrs m k ss).1.ops = m.ops + ss.length ∧ (∀ j (h : j < ss.length), (wrs m k ss).1.get (k + j) = ss[j]) ∧ ∀ i, (i < k ∨ k + ss.length ≤ i) → (wrs m k ss).1.get i = m.get i
  | [], m, k, h, _, _, _ => ⟨rfl, h, rfl, fun j hj => by simp at hj, fun _ _ => rfl⟩
  | x :: r, m, k, h, h0, h1, hs => by
    simp only [List.length_cons] at h1
    obtain ⟨w1, w2, w3, w4⟩ := write_calm h h0 (by omega) (hs x (by simp))
    rw [wrs, if_pos w1]
    obtain ⟨i1, i2, i3, i4, i5⟩ := wr_calm r (m.write k x).1 (k + 1) w2 (by omega) (by rw [write_n]; omega) (fun s hs' => hs s (by simp [hs']))
    refine ⟨i1, i2, by rw [i3, w3, List.length_cons]; omega, fun j hj => ?_, fun i hi => ?_⟩
    · cases j with
      | zero =>
        simp only [Int.natCast_zero, Int.add_zero, List.getElem_cons_zero]
        rw [i5 k (by omega), w4, if_pos rfl]
      | succ j =>
        have := i4 j (by simpa using hj)
        rw [List.getElem_cons_succ, ← this]
        congr 1
        push_cast
        omega
    · rw [List.length_cons] at hi
      rw [i5 i (by omega), w4, if_neg (by omega)]
theorem split_128 {age p : Int} {s : List UInt8} : ∀ x ∈ splitL age p s, x.length = 128 := by
  intro x hx
  obtain ⟨i, hi, rfl⟩ := List.mem_iff_getElem.1 hx
  have hi2 : i < manyN s.length := by rw [split_len] at hi; exact hi
  have h := split_at age p s i hi2
  rw [List.getElem?_eq_getElem hi] at h
  rw [Option.some.inj h]
  exact putS_len (by rw [List.length_take]; omega)
/-- the sectors of a half behind a record's writing -/
theorem secsL_wr {m : Dk} {ss : List (List UInt8)} {first many u : Nat} (h : m.Calm) (hu : u + ss.length ≤ many) (hn : first + many ≤ m.n) (hs : ∀ s ∈ ss, s.length = 128) :
    secsL (wrs m ((first + u : Nat) : Int) ss).1 first many = (secsL m first many).take u ++ (ss ++ (secsL m first many).drop (u + ss.length)) := by
  obtain ⟨-, -, -, w4, w5⟩ := wr_calm ss m ((first + u : Nat) : Int) h (by omega) (by omega) hs
  refine List.ext_getElem (by simp [secsL_len]; omega) (fun i h1 h2 => ?_)
  rw [secsL_at]
  have hi : i < many := by rw [secsL_len] at h1; exact h1
  rcases Nat.lt_or_ge i u with q | q
  · rw [List.getElem_append_left (by simp [secsL_len]; omega), List.getElem_take, secsL_at, w5 _ (by omega)]
  · rw [List.getElem_append_right (by simp [secsL_len]; omega)]
    simp only [List.length_take, secsL_len, Nat.min_eq_left (show u ≤ many by omega)]
    rcases Nat.lt_or_ge (i - u) ss.length with q2 | q2
    · rw [List.getElem_append_left q2, ← w4 (i - u) q2]
      congr 1
      push_cast
      omega
    · rw [List.getElem_append_right q2, List.getElem_drop, secsL_at, w5 _ (by omega)]
      congr 2
      omega
theorem secsL_same {m m' : Dk} {first many : Nat} (h : ∀ i : Nat, first ≤ i → i < first + many → m'.get i = m.get i) : secsL m' first many = secsL m first many := by
  unfold secsL
  refine List.map_congr_left (fun i hi => ?_)
  rw [List.mem_range] at hi
  exact h _ (by omega) (by omega)
theorem ageS_getA {y : List UInt8} (h : getB y = true) : getA y ≤ ageS y := by
  unfold ageS
  rw [if_pos (getB_iff.1 h).1]
  unfold getA
  omega
theorem join_old {age : Nat} {p : Int} {tail : List (List UInt8)} (h : ∀ y ∈ tail, ageS y < age) : joinB age p tail = false := by
  cases tail with
  | nil => rfl
  | cons y r =>
    cases e : joinB age p (y :: r) with
    | false => rfl
    | true =>
      obtain ⟨h1, -, h3⟩ := join_need e
      have o := h3 0 (by simp) h1
      simp only [List.getElem_cons_zero] at o
      unfold okAt at o
      simp only [Bool.and_eq_true, decide_eq_true_eq] at o
      have := ageS_getA o.1
      have := h y (by simp)
      omega
theorem recs_row {age : Nat} (ha : 1 ≤ age ∧ age ≤ 4294967295) : ∀ (put : List (List UInt8)) (p : Nat) (tail : List (List UInt8)), p + rowN put ≤ 1024 → joinB age ((p + rowN put : Nat) : Int) tail = false →
    recsL age (rowAll age p put ++ tail).length p (rowAll age p put ++ tail) = put
  | [], p, tail, _, ht => by
    simp only [rowAll, List.nil_append, rowN, Nat.add_zero] at ht ⊢
    cases hl : tail.length with
    | zero => rw [recsL]
    | succ n => rw [recsL, ht]; rfl
  | t :: r, p, tail, hp, ht => by
    simp only [rowN] at hp ht
    have hm := many_pos t.length
    have ok : RecOk (age : Int) (p : Int) t := ⟨mayB_iff.2 ⟨by omega, by omega, by omega, by omega⟩, by omega⟩
    obtain ⟨j1, j2, j3⟩ := join_split ok (rowAll age (p + manyN t.length) r ++ tail)
    have e : rowAll (age : Int) p (t :: r) ++ tail = splitL age p t ++ (rowAll age (p + manyN t.length) r ++ tail) := by rw [rowAll, List.append_assoc]
    rw [e]
    have hl : (splitL (age : Int) p t ++ (rowAll age (p + manyN t.length) r ++ tail)).length = ((manyN t.length - 1) + (rowAll (age : Int) (p + manyN t.length) r ++ tail).length) + 1 := by rw [List.length_append, split_len]; omega
    rw [hl, recsL, if_pos j1, j2, j3]
    congr 1
    rw [List.drop_append_of_le_length (by rw [split_len]; omega), List.drop_of_length_le (by rw [split_len]; omega), List.nil_append]
    rw [recsL_fuel _ _ _ _ (by omega)]
    have := recs_row ha r (p + manyN t.length) tail (by omega) (by rw [Nat.add_assoc]; exact ht)
    push_cast at this
    exact this
theorem told_row {age : Nat} (ha : 1 ≤ age ∧ age ≤ 4294967295) {put tail : List (List UInt8)} (hne : put ≠ []) (hp : rowN put ≤ 1024) (ht : joinB age (rowN put) tail = false) :
    toldL (rowAll age 0 put ++ tail) = ((age : Int), put, 0) := by
  have hr := recs_row ha put 0 tail (by omega) (by simpa using ht)
  match put, hne with
  | t :: r, _ =>
    have hm := many_pos t.length
    simp only [rowN] at hp
    have mb : mayB (age : Int) 0 = true := mayB_iff.2 ⟨by omega, by omega, by omega, by omega⟩
    have h112 : ((allL t).take 112).length ≤ 112 := by rw [List.length_take]; omega
    have gA : (getA (firstL age 0 t) : Int) = age := putS_A mb
    have gP : (getP (firstL age 0 t) : Int) = 0 := putS_P mb
    have gB : getB (firstL age 0 t) = true := putS_B mb h112
    have e : rowAll (age : Int) 0 (t :: r) ++ tail = firstL age 0 t :: (restL age 0 t ++ (rowAll age (0 + manyN t.length) r ++ tail)) := by rw [rowAll, split_cons]; simp
    rw [show ((0 : Nat) : Int) = 0 from rfl, e, List.length_cons] at hr
    rw [e]
    unfold toldL
    have gA' : ((getA (firstL (age : Int) 0 t) : Nat) : Int) = age := gA
    simp only
    rw [gA', hr, if_pos ⟨gB, by omega, by simp⟩]
/-- what is known of a log whose half it alone writes to, since m0 -/
structure Lg.Is (l : Lg) (m0 m : Dk) (put : List (List UInt8)) : Prop where
  on : l.On m
  n : m.n = m0.n
  lon : l.off = false
  calm : m.Calm
  used : l.used = rowN put
  sec : secsL m l.first l.many = rowAll l.age 0 put ++ (secsL m0 l.first l.many).drop (rowN put)
  out : ∀ i : Nat, (i < l.first ∨ l.first + l.many ≤ i) → m.get i = m0.get i
theorem Lg.Is.write {l : Lg} {m0 m : Dk} {put : List (List UInt8)} (h : l.Is m0 m put) (s : List UInt8) (hk : l.used + manyN s.length ≤ l.many) :
    ∃ l' m', l.write m s = (l', m', 0) ∧ l'.Is m0 m' (put ++ [s]) ∧ l'.used = l.used + manyN s.length ∧ m'.ops = m.ops + manyN s.length ∧ l'.first = l.first ∧ l'.many = l.many ∧ l'.age = l.age := by
  obtain ⟨h1, h2, h3, h4, h5, h6, h7⟩ := h
  have hr := h1.room
  have sl := split_len (l.age : Int) (l.used : Int) s
  obtain ⟨w1, w2, w3, w4, w5⟩ := wr_calm (splitL l.age l.used s) m ((l.first + l.used : Nat) : Int) h4 (by omega) (by rw [sl]; omega) split_128
  have e : l.write m s = ({ l with used := l.used + manyN s.length }, (wrs m (l.first + l.used : Nat) (splitL l.age l.used s)).1, 0) := by
    unfold Lg.write
    rw [if_neg (by omega), if_pos w1]
  have on' := h1.write s
  rw [e] at on'
  refine ⟨_, _, e, ⟨on', by rw [wr_n]; exact h2, h3, w2, by simp only; rw [rowN_snoc, h5], ?_, fun i hi => ?_⟩, rfl, by rw [w3, sl], rfl, rfl, rfl⟩
  · simp only
    rw [secsL_wr h4 (by rw [sl]; exact hk) hr split_128, h6, sl, rowAll_snoc, rowN_snoc, h5]
    have rl : (rowAll (l.age : Int) 0 put).length = rowN put := rowAll_len _ _ _
    rw [List.take_append_of_le_length (by omega), List.take_of_length_le (by omega), List.drop_append, rl, List.drop_of_length_le (by omega), List.nil_append, List.drop_drop, List.append_assoc]
    congr 2
    · simp
    · congr 1; omega
  · simp only at hi
    rw [w5 _ (by rw [sl]; omega)]
    exact h7 i hi
theorem Lg.Is.full {l : Lg} {m : Dk} {s : List UInt8} (hk : ¬ l.used + manyN s.length ≤ l.many) : l.write m s = (l, m, 41) := by
  unfold Lg.write; rw [if_pos (by omega)]
theorem Lg.Is.scan {l : Lg} {m0 m : Dk} {put : List (List UInt8)} (h : l.Is m0 m put) (hne : put ≠ []) (hold : ∀ y ∈ secsL m0 l.first l.many, ageS y < l.age) (hm : l.many ≤ 1024) :
    toldL (secsL m l.first l.many) = ((l.age : Int), put, 0) := by
  rw [h.sec]
  have hu := h.on.used
  rw [h.used] at hu
  exact told_row h.on.age hne (by omega) (join_old (fun y hy => hold y (List.mem_of_mem_drop hy)))
theorem row_age {age : Nat} (ha : 1 ≤ age ∧ age ≤ 4294967295) : ∀ (put : List (List UInt8)) (p : Nat), p + rowN put ≤ 1024 → ∀ y ∈ rowAll age p put, ageS y = age
  | [], p, _, y, hy => by simp [rowAll] at hy
  | t :: r, p, hp, y, hy => by
    simp only [rowN] at hp
    rw [rowAll] at hy
    rcases List.mem_append.1 hy with hy | hy
    · obtain ⟨i, hi, rfl⟩ := List.mem_iff_getElem.1 hy
      have hi2 : i < manyN t.length := by rw [split_len] at hi; exact hi
      have h := split_at (age : Int) p t i hi2
      rw [List.getElem?_eq_getElem hi] at h
      rw [Option.some.inj h]
      have := putS_age (age := (age : Int)) (place := (p : Int) + i) (s := ((allL t).drop (112 * i)).take 112) (mayB_iff.2 ⟨by omega, by omega, by omega, by omega⟩) (by rw [List.length_take]; omega)
      omega
    · have := row_age ha r (p + manyN t.length) (by omega) y (by push_cast; exact hy)
      exact this
theorem Lg.Is.top {l : Lg} {m0 m : Dk} {put : List (List UInt8)} (h : l.Is m0 m put) (hne : put ≠ []) (hold : ∀ y ∈ secsL m0 0 m0.n, ageS y < l.age) (hm : l.many ≤ 1024) :
    maxAge (secsL m 0 m.n) = l.age := by
  have hr := h.on.room
  have hn := h.n
  have hu := h.on.used
  rw [h.used] at hu
  have hpos : 0 < rowN put := by
    match put, hne with
    | t :: r, _ => have := many_pos t.length; simp only [rowN]; omega
  have ra := row_age h.on.age put 0 (by omega)
  have each : ∀ i : Nat, i < m.n → (l.first ≤ i → i < l.first + l.many → (i - l.first < rowN put → ageS (m.get i) = l.age) ∧ (rowN put ≤ i - l.first → ageS (m.get i) < l.age)) ∧ (i < l.first ∨ l.first + l.many ≤ i → ageS (m.get i) < l.age) := by
    intro i hi
    refine ⟨fun q1 q2 => ?_, fun q => ?_⟩
    · have hl : i - l.first < (secsL m l.first l.many).length := by rw [secsL_len]; omega
      have e := secsL_at m l.first l.many (i - l.first) hl
      rw [show l.first + (i - l.first) = i by omega] at e
      rw [← e]
      have rl : (rowAll (l.age : Int) 0 put).length = rowN put := rowAll_len _ _ _
      refine ⟨fun q3 => ?_, fun q3 => ?_⟩
      · have : (secsL m l.first l.many)[i - l.first] ∈ rowAll (l.age : Int) (0 : Nat) put := by
          simp only [h.sec]
          rw [List.getElem_append_left (by rw [rl]; omega)]
          exact List.getElem_mem _
        exact ra _ this
      · have : (secsL m l.first l.many)[i - l.first] ∈ (secsL m0 l.first l.many).drop (rowN put) := by
          simp only [h.sec]
          rw [List.getElem_append_right (by rw [rl]; omega)]
          exact List.getElem_mem _
        have h2 := List.mem_of_mem_drop this
        obtain ⟨j, hj, e2⟩ := List.mem_iff_getElem.1 h2
        rw [secsL_at] at e2
        rw [secsL_len] at hj
        refine hold _ (List.mem_iff_getElem.2 ⟨l.first + j, by rw [secsL_len]; omega, ?_⟩)
        rw [secsL_at, ← e2]
        congr 2; omega
    · rw [h.out i q]
      refine hold _ (List.mem_iff_getElem.2 ⟨i, by rw [secsL_len]; omega, ?_⟩)
      rw [secsL_at]
      congr 2; omega
  refine Nat.le_antisymm (maxAge_le _ 0 _ (by omega) (fun s hs => ?_)) ?_
  · obtain ⟨i, hi, rfl⟩ := List.mem_iff_getElem.1 hs
    rw [secsL_at]
    rw [secsL_len] at hi
    simp only [Nat.zero_add]
    obtain ⟨e1, e2⟩ := each i hi
    by_cases q : l.first ≤ i ∧ i < l.first + l.many
    · obtain ⟨e3, e4⟩ := e1 q.1 q.2
      by_cases q3 : i - l.first < rowN put
      · have := e3 q3; omega
      · have := e4 (by omega); omega
    · have := e2 (by omega); omega
  · have hi : l.first < m.n := by omega
    have := ((each l.first hi).1 (by omega) (by omega)).1 (by omega)
    rw [← this]
    refine maxAge_mem (List.mem_iff_getElem.2 ⟨l.first, by rw [secsL_len]; exact hi, ?_⟩)
    rw [secsL_at]
    congr 2; omega
theorem Lg.start_is {m : Dk} {half age : Int} (hc : m.Calm) (h : ¬ (half < 0 ∨ 1 < half ∨ age < 1 ∨ 4294967295 < age)) : (Lg.start m half age).Is m m [] :=
  ⟨Lg.start_on h, rfl, rfl, hc, rfl, by simp [rowAll, rowN], fun _ _ => rfl⟩
end Go.Proofs.YtnlppcjfpmnahaaDoor
