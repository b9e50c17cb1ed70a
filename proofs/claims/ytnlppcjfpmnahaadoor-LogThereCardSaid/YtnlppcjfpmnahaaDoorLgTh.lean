/- log, plain: the loop of LogThere. -/
import Derived.Test.YtnlppcjfpmnahaaDoorLgX
namespace Go.Proofs.YtnlppcjfpmnahaaDoor
set_option linter.all false
open Go.RowKit

/-- the disk at the start of LogThere's log -/
structure Q0 (m0 : Dk) (half age : Nat) : Prop where
  n : m0.n ≤ 40
  half : half ≤ 1
  ages : 1 ≤ age ∧ age ≤ 4294967295
  hold : ∀ y ∈ secsL m0 0 m0.n, ageS y < age
  calm : m0.Calm
/-- what is known of a log in LogThere's loop -/
structure QIs (m0 : Dk) (half age : Nat) (lg : Lg) (m : Dk) (put : List (List UInt8)) : Prop where
  is : lg.Is m0 m put
  first : lg.first = half * (m0.n / 2)
  many : lg.many = m0.n / 2
  age : lg.age = age
theorem q_room {n half : Nat} (hh : half ≤ 1) : half * (n / 2) + n / 2 ≤ n := by
  have : half = 0 ∨ half = 1 := by omega
  rcases this with rfl | rfl <;> omega
theorem q_other {n half i : Nat} (hh : half ≤ 1) (h1 : (1 - half) * (n / 2) ≤ i) (h2 : i < (1 - half) * (n / 2) + n / 2) : i < half * (n / 2) ∨ half * (n / 2) + n / 2 ≤ i := by
  have : half = 0 ∨ half = 1 := by omega
  rcases this with rfl | rfl <;> simp at h1 h2 ⊢ <;> omega
theorem q_scan {m : Dk} {half : Nat} (hh : half ≤ 1) (ho : m.off = false) : m.scan half = toldL (secsL m (half * (m.n / 2)) (m.n / 2)) := by
  unfold Dk.scan
  rw [if_neg (by omega), ho, if_neg (by simp)]
  rfl
theorem Q0.old {m0 : Dk} {half age : Nat} (H : Q0 m0 half age) (first many : Nat) (h : first + many ≤ m0.n) : ∀ y ∈ secsL m0 first many, ageS y < age := by
  intro y hy
  obtain ⟨i, hi, rfl⟩ := List.mem_iff_getElem.1 hy
  rw [secsL_at]
  rw [secsL_len] at hi
  refine H.hold _ (List.mem_iff_getElem.2 ⟨first + i, by rw [secsL_len]; omega, ?_⟩)
  rw [secsL_at, Nat.zero_add]
theorem QIs.start {m0 : Dk} {half age : Nat} (H : Q0 m0 half age) : QIs m0 half age (Lg.start m0 half age) m0 [] := by
  refine ⟨Lg.start_is H.calm ?_, rfl, rfl, ?_⟩
  · have := H.ages; have := H.half; omega
  · show (age : Int).toNat = age
    omega
theorem QIs.put {m0 : Dk} {half age : Nat} {lg : Lg} {m : Dk} {put : List (List UInt8)} (h : QIs m0 half age lg m put) (s : List UInt8) (hk : lg.used + manyN s.length ≤ lg.many) :
    ∃ l' m', lg.write m s = (l', m', 0) ∧ QIs m0 half age l' m' (put ++ [s]) ∧ l'.used = lg.used + manyN s.length ∧ m'.ops = m.ops + manyN s.length := by
  obtain ⟨l', m', w, I, a0, ao, a1, a2, a3⟩ := h.is.write s hk
  exact ⟨l', m', w, ⟨I, by rw [a1, h.first], by rw [a2, h.many], by rw [a3, h.age]⟩, a0, ao⟩
theorem QIs.scan {m0 : Dk} {half age : Nat} (H : Q0 m0 half age) {lg : Lg} {m : Dk} {put : List (List UInt8)} (h : QIs m0 half age lg m put) (hne : put ≠ []) : m.scan half = ((age : Int), put, 0) := by
  rw [q_scan H.half h.is.calm.1, h.is.n]
  have e := h.is.scan hne (by rw [h.first, h.many, h.age]; exact H.old _ _ (q_room H.half)) (by rw [h.many]; have := H.n; omega)
  rw [h.first, h.many, h.age] at e
  exact e
theorem QIs.top {m0 : Dk} {half age : Nat} (H : Q0 m0 half age) {lg : Lg} {m : Dk} {put : List (List UInt8)} (h : QIs m0 half age lg m put) (hne : put ≠ []) : topL m = (age : Int) := by
  rw [topL_on h.is.calm.1, h.is.top hne (by rw [h.age]; exact H.hold) (by rw [h.many]; have := H.n; omega), h.age]
theorem QIs.other {m0 : Dk} {half age : Nat} (H : Q0 m0 half age) {lg : Lg} {m : Dk} {put : List (List UInt8)} (h : QIs m0 half age lg m put) :
    secsL m ((1 - half) * (m.n / 2)) (m.n / 2) = secsL m0 ((1 - half) * (m0.n / 2)) (m0.n / 2) := by
  rw [h.is.n]
  exact secsL_same (fun i h1 h2 => h.is.out i (by rw [h.first, h.many]; exact q_other H.half h1 h2))
theorem q_full {m : Dk} {half age : Nat} (hb : ¬ ((half : Int) < 0 ∨ 1 < (half : Int) ∨ (age : Int) < 1 ∨ 4294967295 < (age : Int))) {s : List UInt8} (h : ¬ manyN s.length ≤ m.n / 2) : beginV m half age s = (none, m, 41) := by
  have h2 : ¬ (Lg.start m half age).used + manyN s.length ≤ (Lg.start m half age).many := by
    have e1 : (Lg.start m half age).used = 0 := rfl
    have e2 : (Lg.start m half age).many = m.n / 2 := rfl
    rw [e1, e2]; omega
  unfold beginV
  rw [if_neg hb, Lg.Is.full h2]
  rfl
theorem q_good {m : Dk} {half age : Nat} (hb : ¬ ((half : Int) < 0 ∨ 1 < (half : Int) ∨ (age : Int) < 1 ∨ 4294967295 < (age : Int))) {s : List UInt8} {l' : Lg} {m' : Dk} (h : (Lg.start m half age).write m s = (l', m', 0)) :
    beginV m half age s = (some l', m', 0) := by
  unfold beginV
  rw [if_neg hb, h, if_pos rfl]
end Go.Proofs.YtnlppcjfpmnahaaDoor
