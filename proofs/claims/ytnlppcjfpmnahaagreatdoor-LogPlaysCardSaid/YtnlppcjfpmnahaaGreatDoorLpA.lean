/- mailroomlaw12: the room: a disk, the document's, the logs of both halves. -/
import Derived.Test.YtnlppcjfpmnahaaGreatDoorMgLr
import Derived.Test.YtnlppcjfpmnahaaGreatDoorMgPl
import Derived.Test.YtnlppcjfpmnahaaGreatDoorMgLg
namespace Go.Proofs.YtnlppcjfpmnahaaGreatDoor
set_option linter.all false
open Go.RowKit

theorem Own.boxObj {w0 w : World} {L : List Piece} (h : Own w0 w L) {b : Nat} {vals : Array Value} {ty : TypeId} (hm : box b vals ty ∈ L) : w.heap[b]? = some (.cells vals ty (0, 0)) := by
  obtain ⟨i, hi, e⟩ := List.mem_iff_getElem.1 hm
  have h2 := h.pick i (by rw [Nat.blt_eq]; exact hi)
  exact Own.obj (L := L.eraseIdx i) (by rw [← e]; exact h2)
theorem Own.boxCell {w0 w : World} {L : List Piece} (h : Own w0 w L) {b : Nat} {vals : Array Value} {ty : TypeId} (hm : box b vals ty ∈ L) (o : Nat) : w.cell? ⟨b, o, none⟩ = vals[o]? := cell_at (h.boxObj hm) o
theorem Own.boxFree {w0 w : World} {L : List Piece} (h : Own w0 w L) {b : Nat} {vals : Array Value} {ty : TypeId} (hm : box b vals ty ∈ L) (o : Nat) : w.frozen? ⟨b, o, none⟩ = false := free_at (h.boxObj hm) o
/-- a pair of logs that may be there: the log, the document's, at the same place -/
def pr (x : Option (Nat × Nat × Lg)) (d k : Value) : Piece := match x with
  | none => fact True
  | some (q, y, l) => both (lgb q l d) (xlb y l k)
def lp (x : Option (Nat × Nat × Lg)) : Value := .pointer (x.map fun t => ⟨t.1, 0, none⟩)
def rp (x : Option (Nat × Nat × Lg)) : Value := .pointer (x.map fun t => ⟨t.2.1, 0, none⟩)
def goodP (x : Option (Nat × Nat × Lg)) (n : Nat) : Prop := ∀ q y l, x = some (q, y, l) → l.first + l.many ≤ n ∧ l.used ≤ l.many ∧ (1 ≤ l.age ∧ l.age ≤ 4294967295) ∧ l.many ≤ 20
theorem goodP_on {q y : Nat} {l : Lg} {m : Dk} (h : goodP (some (q, y, l)) m.n) : l.On m := by
  obtain ⟨a, b, c, -⟩ := h q y l rfl
  exact ⟨a, b, c⟩
theorem goodP_none (n : Nat) : goodP none n := fun _ _ _ h => by cases h
theorem goodP_of {q y : Nat} {l : Lg} {m : Dk} (h : l.On m) (h2 : l.many ≤ 20) : goodP (some (q, y, l)) m.n := by
  intro q' y' l' e
  cases e
  exact ⟨h.room, h.used, h.age, h2⟩
def rowX (mg : Nat) (ys : List Value) : Piece := rowv 90 1 (.slice (some ⟨mg, 0, none⟩) 2 2) 2 ys
def rcells (d k lg mg : Nat) : Array Value := #[.pointer (some ⟨d, 0, none⟩), .pointer (some ⟨k, 0, none⟩), .slice (some ⟨lg, 0, none⟩) 2 2, .slice (some ⟨mg, 0, none⟩) 2 2]
/-- the room -/
def RoomAt (w0 w : World) (L : List Piece) (R n c : Nat) : Prop :=
  ∃ lg mg d k m x0 x1, goodP x0 n ∧ goodP x1 n ∧ m.Fit c ∧ m.n = n ∧
    Own w0 w (dk (.pointer (some ⟨d, 0, none⟩)) m :: xk (.pointer (some ⟨k, 0, none⟩)) m :: rowP lg [lp x0, lp x1] :: rowX mg [rp x0, rp x1] :: box R (rcells d k lg mg) 66 :: pr x0 (.pointer (some ⟨d, 0, none⟩)) (.pointer (some ⟨k, 0, none⟩)) :: pr x1 (.pointer (some ⟨d, 0, none⟩)) (.pointer (some ⟨k, 0, none⟩)) :: L)
/-- the room, seen from a half -/
theorem RoomAt.at {w0 w : World} {L : List Piece} {R n c : Nat} (h : RoomAt w0 w L R n c) (j : Nat) (hj : j ≤ 1) :
    ∃ lg mg d k m a b xs ys, xs.length = 2 ∧ ys.length = 2 ∧ xs[j]? = some (lp a) ∧ ys[j]? = some (rp a) ∧ goodP a n ∧ m.Fit c ∧ m.n = n ∧
      Own w0 w (dk (.pointer (some ⟨d, 0, none⟩)) m :: xk (.pointer (some ⟨k, 0, none⟩)) m :: rowP lg xs :: rowX mg ys :: box R (rcells d k lg mg) 66 :: pr a (.pointer (some ⟨d, 0, none⟩)) (.pointer (some ⟨k, 0, none⟩)) :: pr b (.pointer (some ⟨d, 0, none⟩)) (.pointer (some ⟨k, 0, none⟩)) :: L) ∧
      (∀ w' m' a' c', goodP a' n → m'.Fit c' → m'.n = n →
        Own w0 w' (dk (.pointer (some ⟨d, 0, none⟩)) m' :: xk (.pointer (some ⟨k, 0, none⟩)) m' :: rowP lg (xs.set j (lp a')) :: rowX mg (ys.set j (rp a')) :: box R (rcells d k lg mg) 66 :: pr a' (.pointer (some ⟨d, 0, none⟩)) (.pointer (some ⟨k, 0, none⟩)) :: pr b (.pointer (some ⟨d, 0, none⟩)) (.pointer (some ⟨k, 0, none⟩)) :: L) → RoomAt w0 w' L R n c') := by
  obtain ⟨lg, mg, d, k, m, x0, x1, g0, g1, F, N, O⟩ := h
  have : j = 0 ∨ j = 1 := by omega
  rcases this with rfl | rfl
  · exact ⟨lg, mg, d, k, m, x0, x1, _, _, rfl, rfl, rfl, rfl, g0, F, N, O, fun w' m' a' c' ga Fm Nm O' => ⟨lg, mg, d, k, m', a', x1, ga, g1, Fm, Nm, O'⟩⟩
  · exact ⟨lg, mg, d, k, m, x1, x0, _, _, rfl, rfl, rfl, rfl, g1, F, N, O.selK 7 [0, 1, 2, 3, 4, 6, 5], fun w' m' a' c' ga Fm Nm O' => ⟨lg, mg, d, k, m', x0, a', g0, ga, Fm, Nm, O'.selK 7 [0, 1, 2, 3, 4, 6, 5]⟩⟩
theorem set_same {α : Type} {xs : List α} {j : Nat} {v : α} (h : xs[j]? = some v) : xs.set j v = xs := by
  obtain ⟨hl, e⟩ := List.getElem?_eq_some_iff.1 h
  rw [← e]
  exact List.set_getElem_self hl
/-- only the disk turned -/
theorem RoomAt.disk {w0 w : World} {L : List Piece} {R n c : Nat} (h : RoomAt w0 w L R n c) :
    ∃ lg mg d k m M, m.Fit c ∧ m.n = n ∧ (∃ P : Piece, M = box R (rcells d k lg mg) 66 :: P :: L) ∧
      Own w0 w (dk (.pointer (some ⟨d, 0, none⟩)) m :: xk (.pointer (some ⟨k, 0, none⟩)) m :: M) ∧
      (∀ w' m' c', m'.Fit c' → m'.n = n → Own w0 w' (dk (.pointer (some ⟨d, 0, none⟩)) m' :: xk (.pointer (some ⟨k, 0, none⟩)) m' :: M) → RoomAt w0 w' L R n c') := by
  obtain ⟨lg, mg, d, k, m, x0, x1, g0, g1, F, N, O⟩ := h
  refine ⟨lg, mg, d, k, m, _, F, N, ⟨both (both (rowP lg [lp x0, lp x1]) (rowX mg [rp x0, rp x1])) (both (pr x0 (.pointer (some ⟨d, 0, none⟩)) (.pointer (some ⟨k, 0, none⟩))) (pr x1 (.pointer (some ⟨d, 0, none⟩)) (.pointer (some ⟨k, 0, none⟩)))), rfl⟩, ?_, ?_⟩
  · have A := (O.selK 7 [2, 3, 5, 6, 0, 1, 4]).pack
    have B := ((A.selK 6 [1, 2, 0, 3, 4, 5]).pack)
    have C := (B.selK 5 [1, 0, 2, 3, 4]).pack
    exact C.selK 4 [1, 2, 3, 0]
  · intro w' m' c' Fm Nm O'
    have A := (O'.selK 4 [3, 0, 1, 2]).unpack
    have B := A.unpack
    have C := (B.selK 6 [2, 0, 1, 3, 4, 5]).unpack
    exact ⟨lg, mg, d, k, m', x0, x1, g0, g1, Fm, Nm, C.selK 7 [4, 5, 2, 3, 6, 0, 1]⟩
/-- what Begin leaves -/
theorem begin_left {m : Dk} {c : Nat} (hf : m.Fit c) (hn : m.n ≤ 40) (half age : Int) (s : List UInt8) :
    (beginV m half age s).2.1.Fit (c + 20) ∧ (beginV m half age s).2.1.n = m.n ∧ ∀ q y, goodP ((beginV m half age s).1.map fun l => (q, y, l)) m.n := by
  unfold beginV
  split
  · exact ⟨hf.mono (by omega), rfl, fun q y => goodP_none _⟩
  · rename_i hb
    have on := (Lg.start_on (m := m) hb).write s
    have hm : (Lg.start m half age).many ≤ 20 := by show m.n / 2 ≤ 20; omega
    have f := write_fits (l := Lg.start m half age) hf s
    split
    · refine ⟨f.mono (by omega), lgw_n _ _ s, fun q y => ?_⟩
      have := goodP_of (q := q) (y := y) on (by rw [lgw_many]; exact hm)
      rw [lgw_n] at this
      exact this
    · exact ⟨f.mono (by omega), lgw_n _ _ s, fun q y => goodP_none _⟩
/-- a Begin that answers fits its half -/
theorem begin_half {m : Dk} {half age : Int} {s : List UInt8} {l : Lg} {mm : Dk} {er : Int} (h : beginV m half age s = (some l, mm, er)) : 0 ≤ half ∧ half ≤ 1 := by
  have h1 : (beginV m half age s).1 = some l := by rw [h]
  unfold beginV at h1
  split at h1
  · cases h1
  · omega
theorem topV_le {m : Dk} : 0 ≤ m.topV.1 ∧ m.topV.1 ≤ 4294967295 := by
  unfold Dk.topV
  split
  · exact ⟨Int.le_refl _, by show (0 : Int) ≤ 4294967295; omega⟩
  · have := maxAge_le (secsL m 0 m.n) 0 4294967295 (by omega) (fun s _ => age_le s)
    refine ⟨?_, ?_⟩
    · show (0 : Int) ≤ ((maxAge (secsL m 0 m.n) : Nat) : Int)
      omega
    · show ((maxAge (secsL m 0 m.n) : Nat) : Int) ≤ 4294967295
      unfold maxAge
      omega
end Go.Proofs.YtnlppcjfpmnahaaGreatDoor
