/- mailroomlaw09: are. -/
import Derived.Test.YtnkcanhkdfckmaaDoorHdG
namespace Go.Proofs.YtnkcanhkdfckmaaDoor
set_option linter.all false
open Go.RowKit

def flatS (l : List Fd) : List (List UInt8) := l.flatMap fun f => [f.1, f.2]
theorem flatS_len (l : List Fd) : (flatS l).length = 2 * l.length := by
  induction l with
  | nil => rfl
  | cons a l ih => simp [flatS] at ih ⊢; omega
theorem flatS_at : ∀ (l : List Fd) (i : Nat) (h : i < l.length), (flatS l)[2 * i]? = some l[i].1 ∧ (flatS l)[2 * i + 1]? = some l[i].2
  | [], i, h => by simp at h
  | f :: l, 0, _ => by simp [flatS]
  | f :: l, i + 1, h => by
    have := flatS_at l i (by simpa using h)
    simp only [flatS, List.flatMap_cons] at this ⊢
    rw [show 2 * (i + 1) = 2 * i + 2 by omega, show 2 * i + 2 + 1 = 2 * i + 1 + 2 by omega]
    simpa using this
theorem flatF_at : ∀ (l : List Fd) (i : Nat) (h : i < l.length), (flatF l)[i * 2]? = some (.string ⟨l[i].1.toArray⟩) ∧ (flatF l)[i * 2 + 1]? = some (.string ⟨l[i].2.toArray⟩)
  | [], i, h => by simp at h
  | f :: l, 0, _ => by simp [flatF]
  | f :: l, i + 1, h => by
    have := flatF_at l i (by simpa using h)
    simp only [flatF, List.flatMap_cons] at this ⊢
    rw [show (i + 1) * 2 = i * 2 + 2 by omega, show i * 2 + 2 + 1 = i * 2 + 1 + 2 by omega]
    simpa using this
theorem flatF_len (l : List Fd) : (flatF l).length = l.length * 2 := by
  induction l with
  | nil => rfl
  | cons a l ih => simp [flatF] at ih ⊢; omega
/-- the fields of the call's own, one by one -/
theorem Own.fdAt {w0 w : World} {L : List Piece} {a : Option Addr} {n cap : Nat} {xs : List Fd} (O : Own w0 w (rowv 29 2 (.slice a n cap) n (flatF xs) :: L)) (k : Nat) (hk : k < xs.length) :
    ∃ g, a = some ⟨g, 0, none⟩ ∧ w.cell? ⟨g, k * 2, none⟩ = some (.string ⟨xs[k].1.toArray⟩) ∧ w.cell? ⟨g, k * 2 + 1, none⟩ = some (.string ⟨xs[k].2.toArray⟩) := by
  have hl := flatF_len xs
  obtain ⟨h1, h2⟩ := flatF_at xs k hk
  obtain ⟨-, g, rfl, c0, -⟩ := O.rowvAt (k * 2) (by omega)
  obtain ⟨-, g', e, c1, -⟩ := O.rowvAt (k * 2 + 1) (by omega)
  simp only [Option.some.injEq, Addr.mk.injEq, and_true] at e
  subst e
  rw [List.getElem?_eq_getElem (by omega)] at h1 h2
  exact ⟨g, rfl, by rw [c0]; exact h1, by rw [c1]; exact h2⟩
set_option maxRecDepth 100000 in
set_option maxHeartbeats 4000000 in
theorem are_yes {w0 w : World} {L : List Piece} {m : Int} (O : Own w0 w L) (hm : w0.cell? ⟨0, 0, none⟩ = some (.int .i64 m)) (s : List UInt8) (hs : s.length ≤ 10000000) (va : Value) (l : List (List UInt8)) {xs : List Fd} (hx : fieldsL s = xs) (hl : flatS xs = l)
    (hv : ∀ w', Own w0 w' L → ∃ G, StrsR w' va l G) : Calls Tryd.prog 10 #[.string ⟨s.toArray⟩, va] w fun e w' => e = .returned (.bool true) ∧ Own w0 w' L := by
  obtain ⟨G0, la, lcap, rfl, -⟩ := hv w O
  have HF := Lib.hid (fieldsC_own O hm s hs)
  rw [hx] at HF
  have hN : xs.length ≤ 10000001 := by have := fieldsL_len s; rw [hx] at this; omega
  obtain ⟨N, hNN⟩ : ∃ n, n = xs.length := ⟨_, rfl⟩
  have hll : l.length = 2 * N := by rw [← hl, flatS_len, hNN]
  have AT := Lib.hid (fun i (h : i < xs.length) => flatS_at xs i h)
  have HV := Lib.hid hv
  rw [hl] at AT
  clear hx hl hv
  unfold FieldsPost at HF
  rw [← hNN] at HF hN
  have HN := Lib.hid hNN
  have HLL := Lib.hid hll
  obtain ⟨M, hM⟩ : ∃ q, q = l.length := ⟨_, rfl⟩
  rw [← hM]
  have hMN : Hid (M = 2 * N) := by unfold Hid; omega
  have HM2 := Lib.hid hM
  clear hNN hll hM
  have s0 : IntKind.i64.wrap (2 * (N : Int)) = (M : Int) := by rw [IntWalk.i64_in _ (by omega)]; have := hMN.out; omega
  go_enter Tryd.func10, Tryd.ntmps10
  go_wp2_with fail
  refine HF.out.mono ?_
  clear HF O
  rintro e w1 ⟨a, cap, rfl, O⟩
  go_wp2_with fail
  clear s0
  go_loopw [6] (fun iv wr => ∃ i : Nat, i ≤ N ∧ iv = .int .i64 i ∧ Own w0 wr (rowv 29 2 (.slice a N cap) N (flatF xs) :: L)) (fun iv _ => N - (intOf iv).toNat)
  case atStart => exact ⟨0, by omega, rfl, O⟩
  case round =>
    clear O
    obtain ⟨i, hi, rfl, O⟩ := hrel
    by_cases hlt : i < N
    · have hb1 : (i : Int) < (N : Int) := by omega
      have hil : i < xs.length := by have := HN.out; omega
      obtain ⟨g, rfl, c0, c1⟩ := O.fdAt i hil
      obtain ⟨G, la', lc', e, hr⟩ := HV.out wr O.drop
      simp only [Value.slice.injEq] at e
      obtain ⟨rfl, e2, rfl⟩ := e
      have hM2 := hMN.out
      have hM3 := HM2.out
      obtain ⟨g2, off2, rfl, -, hc⟩ := hr (by omega)
      obtain ⟨a0, a1⟩ := AT.out i hil
      have d0 := hc (2 * i) (by omega)
      have d1 := hc (2 * i + 1) (by omega)
      rw [List.getElem?_eq_getElem (by omega)] at a0 a1
      simp only [Option.some.injEq] at a0 a1
      rw [a0] at d0
      rw [a1] at d1
      clear a0 a1 hc hr e2
      generalize xs[i] = f at c0 c1 d0 d1
      obtain ⟨fn, fv⟩ := f
      simp only at c0 c1 d0 d1
      have i1 : (fn != fn) = false := by simp
      have i2 : (fv != fv) = false := by simp
      have s1 : IntKind.i64.wrap (2 * (i : Int)) = 2 * (i : Int) := IntWalk.i64_in _ (by omega)
      have s2 : IntKind.i64.wrap (2 * (i : Int) + 1) = 2 * (i : Int) + 1 := IntWalk.i64_in _ (by omega)
      have q1 : 2 * (i : Int) < (M : Int) := by omega
      have q2 : 2 * (i : Int) + 1 < (M : Int) := by omega
      have q3 : 0 ≤ 2 * (i : Int) := by omega
      have q4 : 0 ≤ 2 * (i : Int) + 1 := by omega
      have t1 : (2 * (i : Int)).toNat = 2 * i := by omega
      have t2 : (2 * (i : Int) + 1).toNat = 2 * i + 1 := by omega
      have d2 := d1
      rw [← Nat.add_assoc] at d2
      clear hM2 hM3
      go_wp2_with fail
      go_quiet (fail)
      go_wp2
      go_roundw
      case rel => exact ⟨i + 1, by omega, by go_num, O.drewN _⟩
      case measure => simp [intOf]; omega
    · obtain rfl : i = N := by omega
      go_wp2
      go_ret
      exact ⟨rfl, O.drop⟩
end Go.Proofs.YtnkcanhkdfckmaaDoor
