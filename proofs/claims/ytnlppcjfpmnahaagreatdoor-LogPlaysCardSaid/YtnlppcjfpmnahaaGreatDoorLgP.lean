/- log, plain: halves, what a half's sectors tell, what a log writes. -/
import Derived.Test.YtnlppcjfpmnahaaGreatDoorLgDk
import Derived.Test.YtnlppcjfpmnahaaGreatDoorFmR
namespace Go.Proofs.YtnlppcjfpmnahaaGreatDoor
set_option linter.all false
open Go.RowKit

def halfV (s h : Int) : Int × Int := if s < 0 ∨ h < 0 ∨ 1 < h then (0, 0) else (h * (s / 2), s / 2)
/-- a disk's sectors, from one on, so many -/
def secsL (m : Dk) (first many : Nat) : List (List UInt8) := (List.range many).map fun i => m.get ((first + i : Nat) : Int)
theorem secsL_len (m : Dk) (first many : Nat) : (secsL m first many).length = many := by unfold secsL; simp
theorem secsL_snoc (m : Dk) (first k : Nat) : secsL m first (k + 1) = secsL m first k ++ [m.get ((first + k : Nat) : Int)] := by unfold secsL; rw [List.range_succ]; simp
theorem secsL_at (m : Dk) (first many i : Nat) (h : i < (secsL m first many).length) : (secsL m first many)[i] = m.get ((first + i : Nat) : Int) := by unfold secsL; simp
theorem secsL_split (m : Dk) (first a b : Nat) : secsL m first (a + b) = secsL m first a ++ secsL m (first + a) b := by
  induction b with
  | zero => simp [secsL]
  | succ b ih => rw [← Nat.add_assoc, secsL_snoc, ih, secsL_snoc, List.append_assoc, Nat.add_assoc first a b]
/-- the records that sectors tell, from a place on -/
def recsL (age : Int) : Nat → Int → List (List UInt8) → List (List UInt8)
  | 0, _, _ => []
  | f + 1, p, ss => if joinB age p ss = true then joinT ss :: recsL age f (p + joinM ss) (ss.drop (joinM ss)) else []
theorem join_M {age p : Int} {ss : List (List UInt8)} (h : joinB age p ss = true) : 1 ≤ joinM ss ∧ joinM ss ≤ ss.length := by
  cases ss with
  | nil => simp [joinB] at h
  | cons y r =>
    obtain ⟨h1, h2, -⟩ := join_need h
    exact ⟨h1, h2⟩
theorem recsL_nil (age : Int) (f : Nat) (p : Int) : recsL age f p [] = [] := by
  cases f with
  | zero => rfl
  | succ f => rw [recsL, if_neg (by simp [joinB])]
theorem recsL_fuel (age : Int) : ∀ (f : Nat) (p : Int) (ss : List (List UInt8)), ss.length ≤ f → recsL age f p ss = recsL age ss.length p ss
  | f, p, [], _ => by rw [recsL_nil, recsL_nil]
  | 0, p, x :: r, h => by simp at h
  | f + 1, p, x :: r, h => by
    rw [List.length_cons, recsL, recsL]
    by_cases q : joinB age p (x :: r) = true
    · rw [if_pos q, if_pos q]
      obtain ⟨m1, m2⟩ := join_M q
      have hl : ((x :: r).drop (joinM (x :: r))).length ≤ r.length := by rw [List.length_drop, List.length_cons]; omega
      rw [recsL_fuel age f _ _ (by simp at h; omega), recsL_fuel age r.length _ _ hl]
    · rw [if_neg q, if_neg q]
/-- what sectors have -/
def toldL (l : List (List UInt8)) : Int × List (List UInt8) × Int := match l with
  | [] => (0, [], 5)
  | x :: r => if getB x = true ∧ getP x = 0 ∧ recsL (getA x) (r.length + 1) 0 (x :: r) ≠ [] then (getA x, recsL (getA x) (r.length + 1) 0 (x :: r), 0) else (0, [], 5)
def Dk.scan (m : Dk) (half : Int) : Int × List (List UInt8) × Int :=
  if half < 0 ∨ 1 < half then (0, [], 1) else if m.off = true then (0, [], 42) else toldL (secsL m (half.toNat * (m.n / 2)) (m.n / 2))
def maxAge (l : List (List UInt8)) : Nat := l.foldl (fun a s => max a (ageS s)) 0
def Dk.topV (m : Dk) : Int × Int := if m.off = true then (0, 42) else ((maxAge (secsL m 0 m.n) : Nat), 0)
theorem maxAge_snoc (l : List (List UInt8)) (s : List UInt8) : maxAge (l ++ [s]) = max (maxAge l) (ageS s) := by unfold maxAge; rw [List.foldl_append]; rfl
theorem maxAge_ge : ∀ (l : List (List UInt8)) (b : Nat), b ≤ l.foldl (fun a s => max a (ageS s)) b ∧ ∀ s ∈ l, ageS s ≤ l.foldl (fun a s => max a (ageS s)) b
  | [], b => ⟨Nat.le_refl _, by simp⟩
  | x :: l, b => by
    obtain ⟨h1, h2⟩ := maxAge_ge l (max b (ageS x))
    refine ⟨by simp only [List.foldl_cons]; omega, fun s hs => ?_⟩
    simp only [List.foldl_cons]
    rcases List.mem_cons.1 hs with rfl | hs
    · omega
    · exact h2 s hs
theorem maxAge_mem {l : List (List UInt8)} {s : List UInt8} (h : s ∈ l) : ageS s ≤ maxAge l := (maxAge_ge l 0).2 s h
theorem maxAge_le : ∀ (l : List (List UInt8)) (b c : Nat), b ≤ c → (∀ s ∈ l, ageS s ≤ c) → l.foldl (fun a s => max a (ageS s)) b ≤ c
  | [], b, c, hb, _ => hb
  | x :: l, b, c, hb, h => maxAge_le l (max b (ageS x)) c (by have := h x (by simp); omega) (fun s hs => h s (by simp [hs]))
/-- a log -/
structure Lg where
  first : Nat
  many : Nat
  age : Nat
  used : Nat
  off : Bool
def Lg.cells (l : Lg) (d : Value) : Array Value := #[d, .int .i64 l.first, .int .i64 l.many, .int .i64 l.age, .int .i64 l.used, .bool l.off]
/-- sectors, written one behind the other, till one is refused -/
def wrs (m : Dk) (k : Int) : List (List UInt8) → Dk × Int
  | [] => (m, 0)
  | x :: r => if (m.write k x).2 = 0 then wrs (m.write k x).1 (k + 1) r else m.write k x
def Lg.write (l : Lg) (m : Dk) (s : List UInt8) : Lg × Dk × Int :=
  if l.many < l.used + manyN s.length then (l, m, 41)
  else if (wrs m (l.first + l.used : Nat) (splitL l.age l.used s)).2 = 0 then ({ l with used := l.used + manyN s.length }, (wrs m (l.first + l.used : Nat) (splitL l.age l.used s)).1, 0)
  else ({ l with off := true }, wrs m (l.first + l.used : Nat) (splitL l.age l.used s))
def Lg.add (l : Lg) (m : Dk) (s : List UInt8) : Lg × Dk × Int := if l.off = true then (l, m, 7) else l.write m s
/-- what holds of a log and its disk -/
structure Lg.On (l : Lg) (m : Dk) : Prop where
  room : l.first + l.many ≤ m.n
  used : l.used ≤ l.many
  age : 1 ≤ l.age ∧ l.age ≤ 4294967295
theorem write_n (m : Dk) (k : Int) (s : List UInt8) : (m.write k s).1.n = m.n := by
  unfold Dk.write; split
  · rfl
  · split <;> rfl
theorem wr_n : ∀ (ss : List (List UInt8)) (m : Dk) (k : Int), (wrs m k ss).1.n = m.n
  | [], m, k => rfl
  | x :: r, m, k => by
    rw [wrs]
    split
    · rw [wr_n r, write_n]
    · exact write_n m k x
theorem wr_fit : ∀ (ss : List (List UInt8)) (m : Dk) (k : Int) (c : Nat), m.Fit c → (wrs m k ss).1.Fit (c + ss.length)
  | [], m, k, c, h => h
  | x :: r, m, k, c, h => by
    rw [wrs]
    have h1 := h.write k x
    split
    · have := wr_fit r _ (k + 1) (c + 1) h1
      exact this.mono (by simp; omega)
    · exact h1.mono (by simp)
theorem Lg.On.write {l : Lg} {m : Dk} (h : l.On m) (s : List UInt8) : (l.write m s).1.On (l.write m s).2.1 := by
  obtain ⟨h1, h2, h3⟩ := h
  unfold Lg.write
  split
  · exact ⟨h1, h2, h3⟩
  · split
    · exact ⟨by rw [wr_n]; exact h1, by simp only; omega, h3⟩
    · exact ⟨by rw [wr_n]; exact h1, h2, h3⟩
/-- Begin of a log -/
def Lg.start (m : Dk) (half age : Int) : Lg := ⟨half.toNat * (m.n / 2), m.n / 2, age.toNat, 0, false⟩
def beginV (m : Dk) (half age : Int) (s : List UInt8) : Option Lg × Dk × Int :=
  if half < 0 ∨ 1 < half ∨ age < 1 ∨ 4294967295 < age then (none, m, 1)
  else if ((Lg.start m half age).write m s).2.2 = 0 then (some ((Lg.start m half age).write m s).1, ((Lg.start m half age).write m s).2.1, 0)
  else (none, ((Lg.start m half age).write m s).2)
theorem Lg.start_on {m : Dk} {half age : Int} (h : ¬ (half < 0 ∨ 1 < half ∨ age < 1 ∨ 4294967295 < age)) : (Lg.start m half age).On m := by
  refine ⟨?_, by simp [Lg.start], ?_⟩
  · show half.toNat * (m.n / 2) + m.n / 2 ≤ m.n
    have : half.toNat = 0 ∨ half.toNat = 1 := by omega
    rcases this with e | e <;> rw [e] <;> omega
  · show 1 ≤ age.toNat ∧ age.toNat ≤ 4294967295
    omega
end Go.Proofs.YtnlppcjfpmnahaaGreatDoor
