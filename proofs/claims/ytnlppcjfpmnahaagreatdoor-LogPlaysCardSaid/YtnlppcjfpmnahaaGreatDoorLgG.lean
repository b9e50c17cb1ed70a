/- log: Scan, Top. -/
import Derived.Test.YtnlppcjfpmnahaaGreatDoorLgF
namespace Go.Proofs.YtnlppcjfpmnahaaGreatDoor
set_option linter.all false
open Go.RowKit

def ScanPost (w0 : World) (p : Value) (m : Dk) (L : List Piece) (r : Int × List (List UInt8) × Int) (e : Ending) (w' : World) : Prop :=
  ∃ v, e = .returned (.tuple #[.int .i64 r.1, v, .int .i64 r.2.2]) ∧ Own w0 w' (strs v r.2.1 :: dk p m :: L)
theorem scan_nil (half : Int) (w : World) : Calls Tryz.prog 22 #[.pointer none, .int .i64 half] w fun e w' => e = .returned (.tuple #[.int .i64 0, .slice none 0 0, .int .i64 2]) ∧ w = w' := by
  go_enter Tryz.func22, Tryz.ntmps22
  go_wp2
  go_returns
  exact ⟨rfl, rfl⟩
set_option maxRecDepth 100000 in
set_option maxHeartbeats 2000000 in
theorem scan_own {w0 w : World} {L : List Piece} {p : Value} {m : Dk} (O : Own w0 w (dk p m :: L)) (hn : m.n ≤ 1024) (half : Int) :
    Calls Tryz.prog 22 #[p, .int .i64 half] w (ScanPost w0 p m L (m.scan half)) := by
  obtain ⟨b, bn, bw, hp, -⟩ := O.dkE
  subst hp
  by_cases h1 : half < 0
  · have e : m.scan half = (0, [], 1) := by unfold Dk.scan; rw [if_pos (.inl h1)]
    rw [e]
    clear e
    go_enter Tryz.func22, Tryz.ntmps22
    go_wp2
    go_returns
    exact ⟨_, rfl, O.nilStrs⟩
  by_cases h2 : 1 < half
  · have e : m.scan half = (0, [], 1) := by unfold Dk.scan; rw [if_pos (.inr h2)]
    rw [e]
    clear e
    go_enter Tryz.func22, Tryz.ntmps22
    go_wp2
    go_returns
    exact ⟨_, rfl, O.nilStrs⟩
  have ON := on_any O
  cases ho : m.off
  rotate_left
  · have e : m.scan half = (0, [], 42) := by unfold Dk.scan; rw [if_neg (by omega), ho, if_pos rfl]
    rw [e]
    rw [ho] at ON
    clear e
    go_enter Tryz.func22, Tryz.ntmps22
    go_wp2_with fail
    refine ON.mono ?_
    rintro _ w1 ⟨rfl, rfl⟩
    go_wp2
    go_returns
    exact ⟨_, rfl, O.nilStrs⟩
  obtain ⟨h, hh⟩ : ∃ h : Nat, half = (h : Int) := ⟨half.toNat, by omega⟩
  have e : m.scan half = toldL (secsL m (h * (m.n / 2)) (m.n / 2)) := by unfold Dk.scan; rw [if_neg (by omega), ho, if_neg (by simp), hh]; rfl
  rw [e]
  rw [ho] at ON
  have hroom : h * (m.n / 2) + m.n / 2 ≤ m.n := by
    have : h = 0 ∨ h = 1 := by omega
    rcases this with e | e <;> rw [e] <;> omega
  have SEC := sectors_any O
  have HALF := half_good m.n (by omega) h (by omega) w
  have SO := secs_own O ho hn (h * (m.n / 2)) (m.n / 2) hroom
  have hl : (secsL m (h * (m.n / 2)) (m.n / 2)).length ≤ 1024 := by rw [secsL_len]; omega
  obtain ⟨ss, hss⟩ : ∃ ss, ss = secsL m (h * (m.n / 2)) (m.n / 2) := ⟨_, rfl⟩
  rw [← hss] at SO hl ⊢
  have TO := Lib.hid (fun w' v (h : Own w0 w' (strs v ss :: dk (.pointer (some ⟨b, 0, none⟩)) m :: L)) => told12_own h hl)
  subst hh
  clear hss hl e hroom
  generalize ((h * (m.n / 2) : Nat) : Int) = z1 at HALF SO
  generalize ((m.n / 2 : Nat) : Int) = z2 at HALF SO
  unfold ToldPost at TO
  generalize toldL ss = R at TO ⊢
  obtain ⟨ra, rl, re⟩ := R
  go_enter Tryz.func22, Tryz.ntmps22
  go_wp2_with fail
  refine ON.mono ?_
  rintro _ w1 ⟨rfl, rfl⟩
  go_wp2_with fail
  refine SEC.mono ?_
  rintro _ w1 ⟨rfl, rfl⟩
  go_wp2_with fail
  refine HALF.mono ?_
  rintro _ w1 ⟨rfl, rfl⟩
  go_wp2_with fail
  refine SO.mono ?_
  clear SO ON SEC HALF O
  rintro _ w2 ⟨v, rfl, O⟩
  go_wp2_with fail
  refine (TO.out _ _ O).mono ?_
  clear TO O
  rintro _ w3 ⟨v2, rfl, O⟩
  go_wp2
  go_returns
  exact ⟨_, rfl, O⟩
theorem top_nil (w : World) : Calls Tryz.prog 23 #[.pointer none] w fun e w' => e = .returned (.tuple #[.int .i64 0, .int .i64 2]) ∧ w = w' := by
  go_enter Tryz.func23, Tryz.ntmps23
  go_wp2
  go_returns
  exact ⟨rfl, rfl⟩
theorem maxAge_take {l : List (List UInt8)} {i : Nat} (h : i < l.length) : maxAge (l.take (i + 1)) = max (maxAge (l.take i)) (ageS l[i]) := by
  rw [List.take_succ_eq_append_getElem h, maxAge_snoc]
set_option maxRecDepth 100000 in
set_option maxHeartbeats 2000000 in
theorem top_own {w0 w : World} {L : List Piece} {p : Value} {m : Dk} (O : Own w0 w (dk p m :: L)) (hn : m.n ≤ 1024) :
    Calls Tryz.prog 23 #[p] w fun e w' => e = .returned (.tuple #[.int .i64 m.topV.1, .int .i64 m.topV.2]) ∧ Own w0 w' (dk p m :: L) := by
  obtain ⟨b, bn, bw, hp, -⟩ := O.dkE
  subst hp
  have ON := on_any O
  cases ho : m.off
  rotate_left
  · have e : m.topV = (0, 42) := by unfold Dk.topV; rw [ho, if_pos rfl]
    rw [e]
    rw [ho] at ON
    clear e
    go_enter Tryz.func23, Tryz.ntmps23
    go_wp2_with fail
    refine ON.mono ?_
    rintro _ w1 ⟨rfl, rfl⟩
    go_wp2
    go_returns
    exact ⟨rfl, O⟩
  have e : m.topV = (((maxAge (secsL m 0 m.n) : Nat) : Int), 0) := by unfold Dk.topV; rw [ho, if_neg (by simp)]
  rw [e]
  rw [ho] at ON
  have SEC := sectors_any O
  have SO := secs_own O ho hn 0 m.n (by omega)
  have hl := secsL_len m 0 m.n
  obtain ⟨ss, hss⟩ : ∃ ss, ss = secsL m 0 m.n := ⟨_, rfl⟩
  rw [← hss] at SO hl ⊢
  have HL := Lib.hid hl
  clear hss hl e
  obtain ⟨R, hR⟩ : ∃ R, R = maxAge ss := ⟨_, rfl⟩
  rw [← hR]
  have HR := Lib.hid hR
  clear hR
  generalize m.n = N at SEC SO HL hn
  rw [show ((0 : Nat) : Int) = 0 from rfl] at SO
  go_enter Tryz.func23, Tryz.ntmps23
  go_wp2_with fail
  refine ON.mono ?_
  rintro _ w1 ⟨rfl, rfl⟩
  go_wp2_with fail
  refine SEC.mono ?_
  rintro _ w1 ⟨rfl, rfl⟩
  go_wp2_with fail
  refine SO.mono ?_
  clear SO ON SEC O
  rintro _ w2 ⟨v, rfl, O⟩
  obtain ⟨a, cap, rfl⟩ := O.shape
  rw [HL.out] at O ⊢
  go_wp2_with fail
  go_loopw [6, 28] (fun nv iv wx => ∃ i : Nat, iv = .int .i64 i ∧ i ≤ N ∧ nv = .int .i64 (maxAge (ss.take i) : Nat) ∧ Own w0 wx (strs (.slice a N cap) ss :: dk (.pointer (some ⟨b, 0, none⟩)) m :: L)) (fun _ iv _ => N - (intOf iv).toNat)
  case atStart => exact ⟨0, rfl, by omega, rfl, O⟩
  case round =>
    clear O
    obtain ⟨i, rfl, hi, rfl, O⟩ := hrel
    by_cases hlt : i < N
    · have hb1 : (i : Int) < (N : Int) := by omega
      have hx : i < ss.length := by rw [HL.out]; exact hlt
      obtain ⟨g, cap2, hv⟩ := O.shapePos (by omega)
      simp only [Value.slice.injEq] at hv
      obtain ⟨rfl, -, -⟩ := hv
      obtain ⟨-, cx, -⟩ := O.readRow i hx
      have AG := age_any O ss[i]
      have MT := Lib.hid (maxAge_take hx)
      generalize ss[i] = x at cx AG MT
      clear hx
      go_wp2_with fail
      refine AG.mono ?_
      clear AG O cx
      rintro _ w3 ⟨rfl, O⟩
      have e : max ((maxAge (ss.take i) : Nat) : Int) ((ageS x : Nat) : Int) = ((maxAge (ss.take (i + 1)) : Nat) : Int) := by rw [MT.out]; omega
      clear MT
      generalize ((maxAge (ss.take i) : Nat) : Int) = z at e ⊢
      go_wp2
      go_roundw
      case rel => exact ⟨i + 1, by go_num, by omega, by first | rfl | (rw [← e]) | (congr 1; simp [e]), O⟩
      case measure => simp [intOf]; omega
    · obtain rfl : i = N := by omega
      have hb1 : ¬ (i : Int) < (i : Int) := by omega
      have e : maxAge (ss.take i) = R := by rw [HR.out, ← HL.out, List.take_length]
      rw [e]
      clear e
      go_wp2
      go_returns
      exact ⟨rfl, O.drop⟩
end Go.Proofs.YtnlppcjfpmnahaaGreatDoor
