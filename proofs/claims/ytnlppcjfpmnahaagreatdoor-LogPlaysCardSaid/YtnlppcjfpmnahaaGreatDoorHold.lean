/- What a call holds: pieces of memory of its own, apart from each other, as one fact that goes from call to call. -/
import Derived.Test.YtnlppcjfpmnahaaGreatDoorOwn
import Derived.Test.YtnlppcjfpmnahaaGreatDoorStrs
import Derived.Laws.AppendOwnNone
import Derived.Laws.OwnMore
namespace Go.Proofs.YtnlppcjfpmnahaaGreatDoor
set_option linter.all false
open Go.RowKit

structure Piece where
  holds : Nat → World → List Nat → Prop
  keep : ∀ {B : Nat} {w w' : World} {F S : List Nat}, holds B w F → Chg S w w' → (∀ k, k ∈ F → k ∉ S) → holds B w' F
  lt : ∀ {B : Nat} {w : World} {F : List Nat}, holds B w F → ∀ k, k ∈ F → B ≤ k ∧ k < w.heap.size

def Owns (B : Nat) (w : World) : List Piece → List Nat → Prop
  | [], U => U = []
  | c :: L, U => ∃ F V, c.holds B w F ∧ Owns B w L V ∧ (∀ k, k ∈ F → k ∉ V) ∧ U = F ++ V

theorem Owns.lt {B : Nat} {w : World} : ∀ {L : List Piece} {U : List Nat}, Owns B w L U → ∀ k, k ∈ U → B ≤ k ∧ k < w.heap.size
  | [], _, h, k, hk => by cases (show _ = [] from h); cases hk
  | c :: L, U, ⟨F, V, h1, h2, _, e⟩, k, hk => by
    subst e
    rcases List.mem_append.1 hk with hk | hk
    · exact c.lt h1 k hk
    · exact Owns.lt h2 k hk
theorem Owns.keep {B : Nat} {w w' : World} {S : List Nat} (hc : Chg S w w') : ∀ {L : List Piece} {U : List Nat}, Owns B w L U → (∀ k, k ∈ U → k ∉ S) → Owns B w' L U
  | [], _, h, _ => h
  | c :: L, U, ⟨F, V, h1, h2, h3, e⟩, hS => by
    subst e
    exact ⟨F, V, c.keep h1 hc (fun k hk => hS k (by simp [hk])), Owns.keep hc h2 (fun k hk => hS k (by simp [hk])), h3, rfl⟩
theorem Owns.append {B : Nat} {w : World} : ∀ {L M : List Piece} {U V : List Nat}, Owns B w L U → Owns B w M V → (∀ k, k ∈ U → k ∉ V) → Owns B w (L ++ M) (U ++ V)
  | [], M, U, V, h, h', _ => by cases (show U = [] from h); exact h'
  | c :: L, M, U, V, ⟨F, G, h1, h2, h3, e⟩, h', hd => by
    subst e
    refine ⟨F, G ++ V, h1, Owns.append h2 h' (fun k hk => hd k (by simp [hk])), ?_, by simp⟩
    intro k hk hk'
    rcases List.mem_append.1 hk' with hk' | hk'
    · exact h3 k hk hk'
    · exact hd k (by simp [hk]) hk'
theorem Owns.part {B : Nat} {w : World} : ∀ {L M : List Piece} {U : List Nat}, Owns B w (L ++ M) U → ∃ F V, Owns B w L F ∧ Owns B w M V ∧ (∀ k, k ∈ F → k ∉ V) ∧ U = F ++ V
  | [], M, U, h => ⟨[], U, rfl, h, by simp, rfl⟩
  | c :: L, M, U, ⟨F, G, h1, h2, h3, e⟩ => by
    subst e
    obtain ⟨F', V, h4, h5, h6, e⟩ := Owns.part h2
    subst e
    refine ⟨F ++ F', V, ⟨F, F', h1, h4, fun k hk hk' => h3 k hk (by simp [hk']), rfl⟩, h5, ?_, by simp⟩
    intro k hk hk'
    rcases List.mem_append.1 hk with hk | hk
    · exact h3 k hk (by simp [hk'])
    · exact h6 k hk hk'

/-- since w0 nothing that was there has changed; of what is new the pieces L are the call's own -/
def Own (w0 w : World) (L : List Piece) : Prop := Chg [] w0 w ∧ ∃ U, Owns w0.heap.size w L U

theorem Own.chg {w0 w : World} {L : List Piece} (h : Own w0 w L) : Chg [] w0 w := h.1
theorem Own.size {w0 w : World} {L : List Piece} (h : Own w0 w L) : w0.heap.size ≤ w.heap.size := h.1.size
theorem Own.below {w0 w : World} {L : List Piece} (h : Own w0 w L) : Below w0.heap.size w0 w := h.1.below (Nat.le_refl _) (by simp)
theorem Own.start (w : World) : Own w w [] := ⟨Chg.refl _ _, [], rfl⟩
/-- the pieces L1 alone, and how what a call made of them is put back -/
theorem Own.parts {w0 w : World} {L1 L : List Piece} (h : Own w0 w (L1 ++ L)) : ∃ F, Owns w0.heap.size w L1 F ∧
    ∀ w' L1' F', Owns w0.heap.size w' L1' F' → Chg F w w' → (∀ i, i ∈ F' → i ∈ F ∨ w.heap.size ≤ i) → Own w0 w' (L1' ++ L) := by
  obtain ⟨hc, U, h⟩ := h
  obtain ⟨F, V, h1, h2, h3, rfl⟩ := h.part
  refine ⟨F, h1, fun w' L1' F' h4 h5 h6 => ?_⟩
  refine ⟨hc.own h5 (fun i hi => (h1.lt i hi).1), F' ++ V, h4.append (h2.keep h5 (fun i hi hi' => h3 i hi' hi)) ?_⟩
  intro i hi hi'
  rcases h6 i hi with hi2 | hi2
  · exact h3 i hi2 hi'
  · have := (h2.lt i hi').2; omega
theorem Own.open {w0 w : World} {L : List Piece} {c : Piece} (h : Own w0 w (c :: L)) : ∃ F, c.holds w0.heap.size w F ∧
    ∀ w' c' F', Piece.holds c' w0.heap.size w' F' → Chg F w w' → (∀ i, i ∈ F' → i ∈ F ∨ w.heap.size ≤ i) → Own w0 w' (c' :: L) := by
  obtain ⟨F, ⟨G, V, h1, h2, _, rfl⟩, k⟩ := h.parts (L1 := [c])
  cases (show V = [] from h2)
  exact ⟨G, h1, fun w' c' F' h3 h4 h5 => k w' [c'] F' ⟨F', [], h3, rfl, by simp, by simp⟩ (by simpa using h4) (fun i hi => by simpa using h5 i hi)⟩
/-- a call that makes two pieces of one -/
theorem Own.open2 {w0 w : World} {L : List Piece} {c : Piece} (h : Own w0 w (c :: L)) : ∃ F, c.holds w0.heap.size w F ∧
    ∀ w' c' d' F' G', Piece.holds c' w0.heap.size w' F' → Piece.holds d' w0.heap.size w' G' → Chg F w w' → (∀ i, i ∈ F' → i ∈ F ∨ w.heap.size ≤ i) → (∀ i, i ∈ G' → i ∈ F ∨ w.heap.size ≤ i) → (∀ i, i ∈ F' → i ∉ G') → Own w0 w' (c' :: d' :: L) := by
  obtain ⟨F, ⟨G, V, h1, h2, _, rfl⟩, k⟩ := h.parts (L1 := [c])
  cases (show V = [] from h2)
  refine ⟨G, h1, fun w' c' d' F' G' h3 h4 h5 h6 h7 h8 => k w' [c', d'] (F' ++ G') ⟨F', G', h3, ⟨G', [], h4, rfl, by simp, by simp⟩, h8, rfl⟩ (by simpa using h5) (fun i hi => ?_)⟩
  rcases List.mem_append.1 hi with hi | hi
  · simpa using h6 i hi
  · simpa using h7 i hi
theorem Own.pure {w0 w w' : World} {L : List Piece} (h : Own w0 w L) (k : Chg [] w w') : Own w0 w' L := by
  obtain ⟨F, hF, q⟩ := h.parts (L1 := [])
  cases (show F = [] from hF)
  exact q w' [] [] rfl k (by simp)
theorem Own.new {w0 w w' : World} {L : List Piece} (h : Own w0 w L) (k : Chg [] w w') (c : Piece) {F : List Nat} (hc : c.holds w0.heap.size w' F) (hF : ∀ i, i ∈ F → w.heap.size ≤ i) : Own w0 w' (c :: L) := by
  obtain ⟨G, hG, q⟩ := h.parts (L1 := [])
  cases (show G = [] from hG)
  exact q w' [c] F ⟨F, [], hc, rfl, by simp, by simp⟩ k (fun i hi => .inr (hF i hi))
theorem Own.head {w0 w : World} {L : List Piece} {c : Piece} (h : Own w0 w (c :: L)) : ∃ F, c.holds w0.heap.size w F := by
  obtain ⟨_, _, F, _, h, _⟩ := h; exact ⟨F, h⟩
theorem Own.drop {w0 w : World} {L : List Piece} {c : Piece} (h : Own w0 w (c :: L)) : Own w0 w L := by
  obtain ⟨hc, _, _, V, _, h, _⟩ := h; exact ⟨hc, V, h⟩
theorem Owns.swap {B : Nat} {w : World} {L : List Piece} {c d : Piece} {U : List Nat} (h : Owns B w (c :: d :: L) U) : ∃ V, Owns B w (d :: c :: L) V ∧ ∀ k, k ∈ V ↔ k ∈ U := by
  obtain ⟨F, V, h1, ⟨G, X, h2, h3, h4, rfl⟩, h5, rfl⟩ := h
  refine ⟨G ++ (F ++ X), ⟨G, F ++ X, h2, ⟨F, X, h1, h3, fun k hk hk' => h5 k hk (by simp [hk']), rfl⟩, ?_, rfl⟩, ?_⟩
  · intro k hk hk'
    rcases List.mem_append.1 hk' with hk' | hk'
    · exact h5 k hk' (by simp [hk])
    · exact h4 k hk hk'
  · intro k; simp only [List.mem_append]; constructor <;> (rintro (h | h | h) <;> simp [h])
theorem Owns.pick {B : Nat} {w : World} : ∀ (i : Nat) {L : List Piece} {U : List Nat} (hi : i < L.length), Owns B w L U → ∃ V, Owns B w (L[i] :: L.eraseIdx i) V ∧ ∀ k, k ∈ V ↔ k ∈ U
  | 0, c :: L, U, _, h => ⟨U, h, fun _ => Iff.rfl⟩
  | i + 1, c :: L, U, hi, ⟨F, V, h1, h2, h3, e⟩ => by
    subst e
    obtain ⟨V', h4, h5⟩ := Owns.pick i (by simpa using hi) h2
    have h6 : Owns B w (c :: L[i]'(by simpa using hi) :: L.eraseIdx i) (F ++ V') := ⟨F, V', h1, h4, fun k hk hk' => h3 k hk ((h5 k).1 hk'), rfl⟩
    obtain ⟨V2, h7, h8⟩ := h6.swap
    exact ⟨V2, h7, fun k => by rw [h8]; simp [h5]⟩
/-- the i-th piece to the front -/
theorem Own.pick {w0 w : World} {L : List Piece} (h : Own w0 w L) (i : Nat) (hi : Nat.blt i L.length = true := by rfl) : Own w0 w (L[i]'(Nat.blt_eq ▸ hi) :: L.eraseIdx i) := by
  have hi := Nat.blt_eq.mp hi
  obtain ⟨hc, U, h⟩ := h
  obtain ⟨V, h, _⟩ := Owns.pick i hi h
  exact ⟨hc, V, h⟩
theorem Owns.fn {B : Nat} {w : World} : ∀ {L : List Piece} {U : List Nat}, Owns B w L U → ∃ F : Nat → List Nat, (∀ i (h : i < L.length), L[i].holds B w (F i)) ∧ (∀ i j, i < L.length → j < L.length → i ≠ j → ∀ k, k ∈ F i → k ∉ F j) ∧ (∀ i, i < L.length → ∀ k, k ∈ F i → k ∈ U)
  | [], U, _ => ⟨fun _ => [], fun i h => by simp at h, fun i j h => by simp at h, fun i h => by simp at h⟩
  | c :: L, U, ⟨F, V, h1, h2, h3, e⟩ => by
    subst e
    obtain ⟨G, g1, g2, g3⟩ := Owns.fn h2
    refine ⟨fun i => match i with | 0 => F | i + 1 => G i, ?_, ?_, ?_⟩
    · intro i h
      cases i with
      | zero => exact h1
      | succ i => exact g1 i (by simpa using h)
    · intro i j hi hj hne k hk hk'
      cases i with
      | zero =>
        cases j with
        | zero => exact hne rfl
        | succ j => exact h3 k hk (g3 j (by simpa using hj) k hk')
      | succ i =>
        cases j with
        | zero => exact h3 k hk' (g3 i (by simpa using hi) k hk)
        | succ j => exact g2 i j (by simpa using hi) (by simpa using hj) (fun e => hne (by rw [e])) k hk hk'
    · intro i hi k hk
      cases i with
      | zero => simp [show k ∈ F from hk]
      | succ i => simp [g3 i (by simpa using hi) k hk]
theorem Owns.of_fn {B : Nat} {w : World} : ∀ (M : List Piece) (G : Nat → List Nat), (∀ i (h : i < M.length), M[i].holds B w (G i)) → (∀ i j, i < M.length → j < M.length → i ≠ j → ∀ k, k ∈ G i → k ∉ G j) → ∃ U, Owns B w M U ∧ ∀ k, k ∈ U → ∃ i, i < M.length ∧ k ∈ G i
  | [], _, _, _ => ⟨[], rfl, by simp⟩
  | c :: M, G, h1, h2 => by
    obtain ⟨U, u1, u2⟩ := Owns.of_fn M (fun i => G (i + 1)) (fun i h => h1 (i + 1) (by simpa using h)) (fun i j hi hj hne => h2 (i + 1) (j + 1) (by simpa using hi) (by simpa using hj) (by omega))
    refine ⟨G 0 ++ U, ⟨G 0, U, h1 0 (by simp), u1, ?_, rfl⟩, ?_⟩
    · intro k hk hk'
      obtain ⟨i, hi, hk'⟩ := u2 k hk'
      exact h2 0 (i + 1) (by simp) (by simpa using hi) (by omega) k hk hk'
    · intro k hk
      rcases List.mem_append.1 hk with hk | hk
      · exact ⟨0, by simp, hk⟩
      · obtain ⟨i, hi, hk'⟩ := u2 k hk
        exact ⟨i + 1, by simpa using hi, hk'⟩
def selOk : List Nat → Nat → Bool
  | [], _ => true
  | i :: r, n => Nat.blt i n && (r.all fun j => !(Nat.beq i j)) && selOk r n
theorem selOk_lt {n : Nat} : ∀ {is : List Nat}, selOk is n = true → ∀ i, i ∈ is → i < n
  | [], _, i, hi => by cases hi
  | a :: r, h, i, hi => by
    simp only [selOk, Bool.and_eq_true] at h
    rcases List.mem_cons.1 hi with rfl | hi
    · exact Nat.blt_eq.mp h.1.1
    · exact selOk_lt h.2 i hi
theorem selOk_ne {n : Nat} : ∀ {is : List Nat}, selOk is n = true → ∀ (i j : Nat) (hi : i < is.length) (hj : j < is.length), i ≠ j → is[i] ≠ is[j]
  | [], _, i, j, hi, _, _ => by simp at hi
  | a :: r, h, i, j, hi, hj, hne => by
    simp only [selOk, Bool.and_eq_true, List.all_eq_true] at h
    cases i with
    | zero =>
      cases j with
      | zero => exact absurd rfl hne
      | succ j =>
        have := h.1.2 (r[j]'(by simpa using hj)) (List.getElem_mem _)
        intro e
        simp only [List.getElem_cons_zero, List.getElem_cons_succ] at e
        rw [e] at this
        simp at this
    | succ i =>
      cases j with
      | zero =>
        have := h.1.2 (r[i]'(by simpa using hi)) (List.getElem_mem _)
        intro e
        simp only [List.getElem_cons_zero, List.getElem_cons_succ] at e
        rw [← e] at this
        simp at this
      | succ j => exact selOk_ne h.2 i j (by simpa using hi) (by simpa using hj) (by omega)
def nop : Piece where
  holds _ _ F := F = []
  keep := fun h _ _ => h
  lt := by rintro B w F rfl k hk; cases hk
/-- these pieces alone, in this order -/
theorem Own.sel {w0 w : World} {L : List Piece} (h : Own w0 w L) (is : List Nat) (hi : selOk is L.length = true := by rfl) : Own w0 w (is.map fun i => L.getD i nop) := by
  obtain ⟨hc, U, h⟩ := h
  obtain ⟨F, f1, f2, _⟩ := h.fn
  obtain ⟨V, v1, _⟩ := Owns.of_fn (B := w0.heap.size) (w := w) (is.map fun i => L.getD i nop) (fun j => F (is.getD j 0))
    (fun j hj => by
      have hj' : j < is.length := by simpa using hj
      have hl := selOk_lt hi is[j] (List.getElem_mem hj')
      have := f1 is[j] hl
      simpa [hj', hl] using this)
    (fun i j hi' hj' hne => by
      have hi2 : i < is.length := by simpa using hi'
      have hj2 : j < is.length := by simpa using hj'
      have := f2 is[i] is[j] (selOk_lt hi _ (List.getElem_mem hi2)) (selOk_lt hi _ (List.getElem_mem hj2)) (selOk_ne hi i j hi2 hj2 hne)
      simpa [hi2, hj2] using this)
  exact ⟨hc, V, v1⟩
theorem Owns.sel {B : Nat} {w : World} {L : List Piece} {U : List Nat} (h : Owns B w L U) (is : List Nat) (hi : selOk is L.length = true) : ∃ V, Owns B w (is.map fun i => L.getD i nop) V ∧ ∀ k, k ∈ V → k ∈ U := by
  obtain ⟨F, f1, f2, f3⟩ := h.fn
  obtain ⟨V, v1, v2⟩ := Owns.of_fn (B := B) (w := w) (is.map fun i => L.getD i nop) (fun j => F (is.getD j 0))
    (fun j hj => by
      have hj' : j < is.length := by simpa using hj
      have hl := selOk_lt hi is[j] (List.getElem_mem hj')
      have := f1 is[j] hl
      simpa [hj', hl] using this)
    (fun i j hi' hj' hne => by
      have hi2 : i < is.length := by simpa using hi'
      have hj2 : j < is.length := by simpa using hj'
      have := f2 is[i] is[j] (selOk_lt hi _ (List.getElem_mem hi2)) (selOk_lt hi _ (List.getElem_mem hj2)) (selOk_ne hi i j hi2 hj2 hne)
      simpa [hi2, hj2] using this)
  refine ⟨V, v1, fun k hk => ?_⟩
  obtain ⟨i, hi', hk⟩ := v2 k hk
  have hi2 : i < is.length := by simpa using hi'
  have hl := selOk_lt hi is[i] (List.getElem_mem hi2)
  exact f3 _ hl k (by simpa [hi2] using hk)
/-- of the first k pieces these, in this order; the others as they are -/
theorem Own.selK {w0 w : World} {L : List Piece} (h : Own w0 w L) (k : Nat) (is : List Nat) (hi : selOk is (L.take k).length = true := by rfl) : Own w0 w ((is.map fun i => (L.take k).getD i nop) ++ L.drop k) := by
  obtain ⟨hc, U, h⟩ := h
  rw [← List.take_append_drop k L] at h
  obtain ⟨F, V, h1, h2, h3, rfl⟩ := h.part
  obtain ⟨F', h4, h5⟩ := h1.sel is hi
  exact ⟨hc, F' ++ V, h4.append h2 (fun i hi => h3 i (h5 i hi))⟩
theorem Own.back {w0 w : World} {L : List Piece} {c : Piece} (h : Own w0 w (c :: L)) : Own w0 w (L ++ [c]) := by
  obtain ⟨hc, U, F, V, h1, h2, h3, rfl⟩ := h
  exact ⟨hc, _, h2.append (M := [c]) (V := F) ⟨F, [], h1, rfl, by simp, by simp⟩ (fun k hk hk' => h3 k hk' hk)⟩
theorem Own.drew {w0 w : World} {L : List Piece} (h : Own w0 w L) : Own w0 w.drew L := h.pure (Chg.refl [] w).drew
theorem Own.drewN {w0 w : World} {L : List Piece} (h : Own w0 w L) (n : Nat) : Own w0 (w.drewN n) L := h.pure ((Chg.refl [] w).drewN n)
theorem Own.alloc {w0 w : World} {L : List Piece} (h : Own w0 w L) (o : Obj) : Own w0 (w.alloc o) L := h.pure ((Chg.refl [] w).alloc o)

/-- a block of cells -/
def box (b : Nat) (vals : Array Value) (ty : TypeId) : Piece where
  holds B w F := w.heap[b]? = some (.cells vals ty (0, 0)) ∧ B ≤ b ∧ F = [b]
  keep := by
    rintro B w w' F S ⟨h1, h2, rfl⟩ hc hS
    exact ⟨hc.obj h1 (hS b (by simp)), h2, rfl⟩
  lt := by
    rintro B w F ⟨h1, h2, rfl⟩ k hk
    simp at hk; subst hk
    exact ⟨h2, lt_of_block h1⟩
/-- a slice of strings of the call's own -/
def strs (v : Value) (ss : List (List UInt8)) : Piece where
  holds B w F := w.ownsRow B 9 1 v ss.length (ss.map str) ∧ F = v.ownBlock.toList
  keep := by
    rintro B w w' F S ⟨h1, rfl⟩ hc hS
    exact ⟨hc.row h1 (fun k hk => hS k (by simp [hk])), rfl⟩
  lt := by
    rintro B w F ⟨h1, rfl⟩ k hk
    exact h1.lt k (by simpa using hk)

theorem Own.newBox {w0 w : World} {L : List Piece} (h : Own w0 w L) (vals : Array Value) (ty : TypeId) : Own w0 (w.alloc (.cells vals ty)) (box w.heap.size vals ty :: L) :=
  h.new ((Chg.refl [] w).alloc _) (box w.heap.size vals ty) ⟨heap_alloc_new _ _, h.size, rfl⟩ (by simp)
theorem Own.set {w0 w : World} {L : List Piece} {b : Nat} {vals : Array Value} {ty : TypeId} (h : Own w0 w (box b vals ty :: L)) (o : Nat) (u : Value) : Own w0 (w.setCell ⟨b, o, none⟩ u) (box b (vals.setIfInBounds o u) ty :: L) := by
  obtain ⟨F, ⟨h1, h2, rfl⟩, q⟩ := h.open
  exact q _ (box b (vals.setIfInBounds o u) ty) [b] ⟨set_cells h1 o u, h2, rfl⟩ ((Chg.refl _ _).setB (by simp) _ _) (fun i hi => .inl hi)
theorem Own.obj {w0 w : World} {L : List Piece} {b : Nat} {vals : Array Value} {ty : TypeId} (h : Own w0 w (box b vals ty :: L)) : w.heap[b]? = some (.cells vals ty (0, 0)) := by
  obtain ⟨F, h, _⟩ := h.head; exact h
theorem Own.cell {w0 w : World} {L : List Piece} {b : Nat} {vals : Array Value} {ty : TypeId} (h : Own w0 w (box b vals ty :: L)) (o : Nat) : w.cell? ⟨b, o, none⟩ = vals[o]? := cell_at h.obj o
theorem Own.free {w0 w : World} {L : List Piece} {b : Nat} {vals : Array Value} {ty : TypeId} (h : Own w0 w (box b vals ty :: L)) (o : Nat) : w.frozen? ⟨b, o, none⟩ = false := free_at h.obj o
theorem Own.boxlt {w0 w : World} {L : List Piece} {b : Nat} {vals : Array Value} {ty : TypeId} (h : Own w0 w (box b vals ty :: L)) : b < w.heap.size := lt_of_block h.obj
theorem Own.row {w0 w : World} {L : List Piece} {v : Value} {ss : List (List UInt8)} (h : Own w0 w (strs v ss :: L)) : w.ownsRow w0.heap.size 9 1 v ss.length (ss.map str) := by
  obtain ⟨F, h, _⟩ := h.head; exact h
theorem Own.strsR {w0 w : World} {L : List Piece} {v : Value} {ss : List (List UInt8)} (h : Own w0 w (strs v ss :: L)) : StrsR w v ss v.ownBlock.toList := strsR_of_row h.row
theorem Own.newStrs {w0 w w' : World} {L : List Piece} (h : Own w0 w L) (k : Chg [] w w') {v : Value} {ss : List (List UInt8)} (hv : w'.ownsRow w.heap.size 9 1 v ss.length (ss.map str)) : Own w0 w' (strs v ss :: L) :=
  h.new k (strs v ss) ⟨ownsRow_mono hv h.size, rfl⟩ (fun i hi => (hv.lt i (by simpa using hi)).1)
theorem Own.nilStrs {w0 w : World} {L : List Piece} (h : Own w0 w L) : Own w0 w (strs (.slice none 0 0) [] :: L) :=
  h.new (Chg.refl _ _) (strs (.slice none 0 0) []) (F := []) ⟨World.ownsRow_nil _ _ _ _, rfl⟩ (by simp)
/-- what came in reads as it did -/
theorem Own.came {w0 w : World} {L : List Piece} (h : Own w0 w L) {v : Value} {ss : List (List UInt8)} {G : List Nat} (hv : StrsR w0 v ss G) : StrsR w v ss G := hv.keep h.chg (by simp)
theorem row_shape' {w : World} {B : Nat} {e : TypeId} {v : Value} {n : Nat} {xs : List Value} (h : w.ownsRow B e 1 v n xs) : v = .slice none 0 0 ∨ ∃ g cap, v = .slice (some ⟨g, 0, none⟩) n cap := by
  rcases h.2 with ⟨rfl, rfl⟩ | ⟨g, cap, cur, rfl, _⟩
  · exact .inl rfl
  · exact .inr ⟨_, _, rfl⟩
theorem Own.shape {w0 w : World} {L : List Piece} {v : Value} {ss : List (List UInt8)} (h : Own w0 w (strs v ss :: L)) : ∃ a cap, v = .slice a ss.length cap := by
  rcases row_shape' h.row with rfl | ⟨g, cap, rfl⟩
  · have := h.row.2
    rcases this with ⟨_, hn⟩ | ⟨g, cap, cur, hv, _⟩
    · exact ⟨none, 0, by rw [hn]⟩
    · cases hv
  · exact ⟨_, _, rfl⟩
theorem Own.readRow {w0 w : World} {L : List Piece} {g cap n : Nat} {ss : List (List UInt8)} (h : Own w0 w (strs (.slice (some ⟨g, 0, none⟩) n cap) ss :: L)) (k : Nat) (hk : k < ss.length) : n = ss.length ∧ w.cell? ⟨g, k, none⟩ = some (.string ⟨ss[k].toArray⟩) ∧ w.frozen? ⟨g, k, none⟩ = false := by
  obtain ⟨a, c, hv⟩ := h.shape
  simp only [Value.slice.injEq] at hv
  obtain ⟨-, rfl, -⟩ := hv
  have r := h.row
  exact ⟨rfl, (r.cellAt k (by simpa using hk)).trans (by simp [hk, str]), r.frozenAt k⟩
theorem Own.store {w0 w : World} {L : List Piece} {g cap n : Nat} {ss : List (List UInt8)} (h : Own w0 w (strs (.slice (some ⟨g, 0, none⟩) n cap) ss :: L)) (k : Nat) (l : List UInt8) :
    Own w0 (w.setCell ⟨g, k, none⟩ (.string ⟨l.toArray⟩)) (strs (.slice (some ⟨g, 0, none⟩) n cap) (ss.set k l) :: L) := by
  obtain ⟨a, c, hv⟩ := h.shape
  simp only [Value.slice.injEq] at hv
  obtain ⟨-, rfl, -⟩ := hv
  obtain ⟨F, ⟨r, rfl⟩, q⟩ := h.open
  obtain ⟨h1, h2⟩ := r.stored k (str l)
  exact q (w.setCell ⟨g, k, none⟩ (str l)) (strs (.slice (some ⟨g, 0, none⟩) ss.length cap) (ss.set k l)) [g] ⟨by simpa using h1, rfl⟩ ((Chg.refl _ _).setB (by simp [Value.ownBlock]) _ _) (fun i hi => .inl (by simpa [Value.ownBlock] using hi))
/-- append of one string, over what a call holds -/
theorem wpList_append_strO {w0 w : World} {L : List Piece} {ops : Array Oper} {rest : List Oper} {o : Oper} {a : Act} {Q : Exit → Act → World → Prop} (hgd : o.guard = none) (s x : Operand)
    (ho : o.op = .call { callee := .builtin .append, args := #[s, x], argTypes := #[23, 23] })
    (v : Value) (ss : List (List UInt8)) (l : List UInt8) (O : Own w0 w (strs v ss :: L)) (hs : a.eval s = v)
    (hx : a.eval x = .slice (some ⟨w.heap.size, 0, none⟩) 1 1) (hlen : ss.length ≤ 1000000000)
    (h : ∀ v' w', Own w0 w' (strs v' (ss ++ [l]) :: L) → wpList Tryz.prog ops Q rest (a.put o.dst v') w') : wpList Tryz.prog ops Q (o :: rest) a (w.alloc (.cells #[.string ⟨l.toArray⟩] 9)) := by
  obtain ⟨F, ⟨row, rfl⟩, q⟩ := O.open
  refine wpList_append_str hgd s x ho w0.heap.size v ss l hs (row.alloc _) w.heap.size hx (by rw [cell_at (heap_alloc_new _ _)]; rfl) hlen (Nat.le_trans O.size (by simp)) ?_
  intro v' w' h1 h2 h3
  refine h v' w' (q w' (strs v' (ss ++ [l])) _ ⟨h1, rfl⟩ (((Chg.refl _ w).alloc _).grown h2 (fun k hk _ => by simp [hk])) (fun i hi => ?_))
  rcases h3 i (by simpa using hi) with h4 | h4
  · exact .inl (by simp [h4])
  · exact .inr (by simp at h4; omega)
/-- append of whatever strings, over what a call holds -/
theorem wpList_append_strsO {w0 w : World} {L : List Piece} {ops : Array Oper} {rest : List Oper} {o : Oper} {a : Act} {Q : Exit → Act → World → Prop} (hgd : o.guard = none) (s x : Operand)
    (ho : o.op = .call { callee := .builtin .append, args := #[s, x], argTypes := #[23, 23] })
    (v : Value) (ss : List (List UInt8)) (sx : Value) (ms : List (List UInt8)) (G : List Nat) (O : Own w0 w (strs v ss :: L)) (hs : a.eval s = v) (hx : a.eval x = sx)
    (hm : StrsR w sx ms G) (hk : sx = .slice none 0 0 ∨ ∃ ad m c, sx = .slice (some ad) m c) (hlen : ss.length + ms.length ≤ 1000000000)
    (h : ∀ v' w', Own w0 w' (strs v' (ss ++ ms) :: L) → wpList Tryz.prog ops Q rest (a.put o.dst v') w') : wpList Tryz.prog ops Q (o :: rest) a w := by
  obtain ⟨F, ⟨row, rfl⟩, q⟩ := O.open
  obtain ⟨i0, hi, hz0, hz1, hz2⟩ := info_parts info_str
  obtain ⟨a', cap', rfl, hr⟩ := hm
  have emp : ms.length = 0 → ms = [] := List.eq_nil_of_length_eq_zero
  rcases hk with hk | ⟨ad, m, c, hk⟩
  · simp only [Value.slice.injEq] at hk
    obtain ⟨rfl, hm0, rfl⟩ := hk
    have hms := emp hm0
    subst hms
    refine wpList_append_own_none hgd s x 23 ho w0.heap.size 9 i0 1 Tryz.underlying23 hi v ss.length _ hs row hx ?_
    have := h v w (by simpa using O)
    exact this
  · simp only [Value.slice.injEq] at hk
    obtain ⟨rfl, rfl, rfl⟩ := hk
    refine wpList_append_new w hgd s x 23 ho w0.heap.size 9 i0 (.string .empty) 1 16 Tryz.underlying23 hi hz0 hz1 hz2 rfl (by decide) v ss.length _ hs row ad ms.length cap' (ms.map str) hx (by simp) ?_ ?_ ?_ ?_ O.size ?_
    · intro j u hu
      have hj : j < ms.length := by
        rcases Nat.lt_or_ge j ms.length with h' | h'
        · exact h'
        · rw [List.getElem?_eq_none (by simpa using h')] at hu; cases hu
      obtain ⟨g, off, hg, _, hc⟩ := hr (by omega)
      simp only [Option.some.injEq] at hg
      subst hg
      rw [show (⟨g, off, none⟩ : Addr).add j = ⟨g, off + j, none⟩ from by unfold Addr.add; split <;> simp_all]
      rw [hc j hj]
      simp [hj] at hu
      rw [← hu]; rfl
    · simp [str, Value.oneCell']
    · unfold maxLen; omega
    · omega
    · intro v' w' h1 h2 h3
      refine h v' w' (q w' (strs v' (ss ++ ms)) _ ⟨by simpa using h1, rfl⟩ ((Chg.refl _ w).grown h2 (fun k hk _ => by simp [hk])) (fun i hi => ?_))
      rcases h3 i (by simpa using hi) with h4 | h4
      · exact .inl (by simp [h4])
      · exact .inr h4
def Kind (v : Value) : Prop := v = .slice none 0 0 ∨ ∃ ad m c, v = .slice (some ad) m c
/-- strings that nobody turns any more: R tells which slices read as what -/
def stay (R : Value → List (List UInt8) → Prop) : Piece where
  holds B w F := (∀ v ss, R v ss → Kind v ∧ ∃ G, StrsR w v ss G ∧ ∀ k, k ∈ G → k ∈ F) ∧ (∀ k, k ∈ F → B ≤ k ∧ k < w.heap.size)
  keep := by
    rintro B w w' F S ⟨h1, h2⟩ hc hS
    refine ⟨fun v ss hv => ?_, fun k hk => ⟨(h2 k hk).1, hc.lt (h2 k hk).2⟩⟩
    obtain ⟨g0, G, g1, g2⟩ := h1 v ss hv
    exact ⟨g0, G, g1.keep hc (fun k hk => hS k (g2 k hk)), g2⟩
  lt := by rintro B w F ⟨_, h2⟩; exact h2
theorem Own.nilStay {w0 w : World} {L : List Piece} (h : Own w0 w L) : Own w0 w (stay (fun v ss => v = .slice none 0 0 ∧ ss = []) :: L) :=
  h.new (Chg.refl _ _) (stay _) (F := []) ⟨fun v ss hv => ⟨.inl hv.1, [], by rw [hv.1, hv.2]; exact strsR_nil _ _, by simp⟩, by simp⟩ (by simp)
theorem Own.stays {w0 w : World} {L : List Piece} {R : Value → List (List UInt8) → Prop} (h : Own w0 w (stay R :: L)) {v : Value} {ss : List (List UInt8)} (hv : R v ss) : ∃ G, StrsR w v ss G := by
  obtain ⟨F, h1, _⟩ := h.head
  obtain ⟨_, G, g, _⟩ := h1 v ss hv
  exact ⟨G, g⟩
theorem Own.kind {w0 w : World} {L : List Piece} {R : Value → List (List UInt8) → Prop} (h : Own w0 w (stay R :: L)) {v : Value} {ss : List (List UInt8)} (hv : R v ss) : Kind v := by
  obtain ⟨F, h1, _⟩ := h.head
  exact (h1 v ss hv).1
/-- a slice of the call's own is laid to those that stay -/
theorem Own.lay {w0 w : World} {L : List Piece} {R : Value → List (List UInt8) → Prop} {v : Value} {ss : List (List UInt8)} (h : Own w0 w (strs v ss :: stay R :: L)) : Own w0 w (stay (fun u us => R u us ∨ u = v ∧ us = ss) :: L) := by
  obtain ⟨hc, U, F, V, ⟨row, rfl⟩, ⟨F', V', ⟨h1, h2⟩, h3, h4, rfl⟩, h5, rfl⟩ := h
  refine ⟨hc, v.ownBlock.toList ++ F' ++ V', v.ownBlock.toList ++ F', V', ⟨fun u us hu => ?_, ?_⟩, h3, ?_, rfl⟩
  · rcases hu with hu | ⟨rfl, rfl⟩
    · obtain ⟨g0, G, g1, g2⟩ := h1 u us hu
      exact ⟨g0, G, g1, fun k hk => by simp [g2 k hk]⟩
    · refine ⟨?_, _, strsR_of_row row, fun k hk => by simp at hk; simp [hk]⟩
      rcases row_shape' row with h | ⟨g, c, h⟩
      · exact .inl h
      · exact .inr ⟨_, _, _, h⟩
  · intro k hk
    rcases List.mem_append.1 hk with hk | hk
    · exact row.lt k (by simpa using hk)
    · exact h2 k hk
  · intro k hk hk'
    rcases List.mem_append.1 hk with hk | hk
    · exact h5 k hk (by simp [hk'])
    · exact h4 k hk hk'
theorem Own.stayMono {w0 w : World} {L : List Piece} {R R' : Value → List (List UInt8) → Prop} (h : Own w0 w (stay R :: L)) (k : ∀ v ss, R' v ss → R v ss) : Own w0 w (stay R' :: L) := by
  obtain ⟨hc, U, F, V, ⟨h1, h2⟩, h3, h4, h5⟩ := h
  exact ⟨hc, U, F, V, ⟨fun v ss hv => h1 v ss (k v ss hv), h2⟩, h3, h4, h5⟩
end Go.Proofs.YtnlppcjfpmnahaaGreatDoor
