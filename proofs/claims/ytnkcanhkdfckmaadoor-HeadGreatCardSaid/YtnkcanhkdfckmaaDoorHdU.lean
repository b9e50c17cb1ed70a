/- mailroomref09: colon. -/
import Derived.Test.YtnkcanhkdfckmaaDoorHdS
namespace Go.Proofs.YtnkcanhkdfckmaaDoor
set_option linter.all false
open Go.RowKit

def colonN (s : List UInt8) : Nat := if begB s = true then (begL s).1.length else 0
theorem occ58 {s : List UInt8} {i : Nat} (h : i < s.length) : Lib.occAt s [58] i = (s[i] == 58) := by
  unfold Lib.occAt
  rw [List.drop_eq_getElem_cons h]
  simp [List.isPrefixOf]
  exact BEq.comm
theorem cut58 (s : List UInt8) : (∃ i, ∃ h : i < s.length, s[i] = 58 ∧ (∀ j (hj : j < s.length), j < i → s[j] ≠ 58) ∧ Lib.cut s [58] = (s.take i, s.drop (i + 1), true)) ∨ ((∀ j (hj : j < s.length), s[j] ≠ 58) ∧ (Lib.cut s [58]).2.2 = false) := by
  rcases Lib.index_spec s [58] with ⟨h1, h2⟩ | ⟨i, h1, h2, h3, h4⟩
  · right
    refine ⟨fun j hj e => ?_, ?_⟩
    · have := h2 j (by omega)
      rw [occ58 hj, e] at this
      cases this
    · unfold Lib.cut; rw [h1]; rfl
  · left
    have hi : i < s.length := by
      rcases Nat.lt_or_ge i s.length with q | q
      · exact q
      · unfold Lib.occAt at h3
        rw [List.drop_of_length_le q] at h3
        cases h3
    refine ⟨i, hi, ?_, fun j hj hlt e => ?_, ?_⟩
    · rw [occ58 hi] at h3; simpa using h3
    · have := h4 j hlt
      rw [occ58 hj, e] at this
      cases this
    · unfold Lib.cut; rw [h1, if_pos (by omega)]; simp
theorem colon_at {s : List UInt8} {i : Nat} (h : i < s.length) (he : s[i] = 58) (hn : ∀ j (hj : j < s.length), j < i → nc s[j] = true) : colonN s = i := by
  have n58 : nc 58 = false := by decide
  rcases cut58 s with ⟨k, hk, k1, k2, k3⟩ | ⟨k1, _⟩
  · have hki : k = i := by
      rcases Nat.lt_trichotomy k i with q | q | q
      · have := hn k hk q
        rw [k1, n58] at this; cases this
      · exact q
      · exact absurd he (k2 i h q)
    subst hki
    have hall : (s.take k).all nc = true := by
      rw [List.all_eq_true]
      intro x hx
      rw [List.mem_take_iff_getElem] at hx
      obtain ⟨j, hj, rfl⟩ := hx
      exact hn j (by omega) (by omega)
    unfold colonN begB begL
    rw [k3]
    simp only [namedB, hall, Bool.and_true, Bool.true_and]
    by_cases h0 : k = 0
    · subst h0; simp
    · have : (s.take k).isEmpty = false := by
        cases hs : s.take k with
        | nil =>
          have := congrArg List.length hs
          rw [List.length_take, List.length_nil] at this; omega
        | cons _ _ => rfl
      rw [this, Bool.not_false, if_pos rfl, List.length_take]; omega
  · exact absurd he (k1 i h)
theorem colon_bad {s : List UInt8} {i : Nat} (h : i < s.length) (he : nc s[i] = false) (h58 : s[i] ≠ 58) (hn : ∀ j (hj : j < s.length), j < i → nc s[j] = true) : colonN s = 0 := by
  have n58 : nc 58 = false := by decide
  unfold colonN
  rw [if_neg]
  unfold begB begL
  rcases cut58 s with ⟨k, hk, k1, k2, k3⟩ | ⟨_, k1⟩
  · rw [k3]
    have hik : i < k := by
      rcases Nat.lt_trichotomy k i with q | q | q
      · have := hn k hk q
        rw [k1, n58] at this; cases this
      · subst q; exact absurd k1 h58
      · exact q
    have hall : (s.take k).all nc = false := by
      rw [List.all_eq_false]
      refine ⟨s[i], ?_, by simpa using he⟩
      rw [List.mem_take_iff_getElem]
      exact ⟨i, by omega, rfl⟩
    simp [namedB, hall]
  · rw [k1]; simp
theorem colon_none {s : List UInt8} (hn : ∀ j (hj : j < s.length), nc s[j] = true) : colonN s = 0 := by
  have n58 : nc 58 = false := by decide
  unfold colonN
  rw [if_neg]
  unfold begB
  rcases cut58 s with ⟨k, hk, k1, _, _⟩ | ⟨_, k1⟩
  · have := hn k hk
    rw [k1, n58] at this; cases this
  · rw [k1]; simp
set_option maxRecDepth 100000 in
set_option maxHeartbeats 2000000 in
theorem colon_any (s : List UInt8) (hs : s.length ≤ 1000000000) (w : World) : Calls Tryd.prog 44 #[.string ⟨s.toArray⟩] w fun e w' => e = .returned (.int .i64 (colonN s : Nat)) ∧ w' = w := by
  obtain ⟨r, hr⟩ : ∃ r, colonN s = r := ⟨_, rfl⟩
  rw [hr]
  have AT : Hid (∀ i (h : i < s.length), s[i] = 58 → (∀ j (hj : j < s.length), j < i → nc s[j] = true) → r = i) := fun i h a b => hr.symm.trans (colon_at h a b)
  have BAD : Hid (∀ i (h : i < s.length), nc s[i] = false → s[i] ≠ 58 → (∀ j (hj : j < s.length), j < i → nc s[j] = true) → r = 0) := fun i h a b c => hr.symm.trans (colon_bad h a b c)
  have NON : Hid ((∀ j (hj : j < s.length), nc s[j] = true) → r = 0) := fun a => hr.symm.trans (colon_none a)
  clear hr
  go_enter Tryd.func44, Tryd.ntmps44
  go_wp2_with fail
  go_loopw [3] (fun iv wr => ∃ i : Nat, i ≤ s.length ∧ iv = .int .i64 i ∧ Hid (∀ j (hj : j < s.length), j < i → nc s[j] = true) ∧ wr = w) (fun iv _ => s.length - (intOf iv).toNat)
  case atStart => exact ⟨0, by omega, rfl, (fun j _ h => by omega), rfl⟩
  case round =>
    obtain ⟨i, hi, rfl, HN, rfl⟩ := hrel
    by_cases hlt : i < s.length
    · have hb1 : (i : Int) < (s.length : Int) := by omega
      have c58 := bq_is s[i] 58 58 rfl
      by_cases he : s[i] = 58
      · have fin := AT.out i hlt he HN.out
        rw [show (s[i] == 58) = true by simpa using he] at c58
        subst fin
        clear AT BAD NON he
        go_wp2
        go_ret
        exact ⟨rfl, rfl⟩
      rw [show (s[i] == 58) = false by simpa using he] at c58
      have NC : Hid (nc s[i] = (decide (33 ≤ s[i].toNat ∧ s[i].toNat ≤ 126) && !(s[i] == 58))) := rfl
      by_cases c1 : (s[i].toNat : Int) < 33
      · have fin := BAD.out i hlt (by rw [NC.out, decide_eq_false (by omega)]; rfl) he HN.out
        subst fin
        clear AT BAD NON he NC
        go_wp2
        go_ret
        exact ⟨rfl, rfl⟩
      by_cases c2 : 126 < (s[i].toNat : Int)
      · have fin := BAD.out i hlt (by rw [NC.out, decide_eq_false (by omega)]; rfl) he HN.out
        subst fin
        clear AT BAD NON he NC
        go_wp2
        go_ret
        exact ⟨rfl, rfl⟩
      have NX : Hid (∀ j (hj : j < s.length), j < i + 1 → nc s[j] = true) := by
        intro j hj hlt'
        by_cases e : j = i
        · subst e; rw [NC.out, decide_eq_true (by omega), show (s[j] == 58) = false by simpa using he]; rfl
        · exact HN.out j hj (by omega)
      clear he NC
      go_wp2_with fail
      go_roundw
      case rel => exact ⟨i + 1, by omega, by go_num, NX, by trivial⟩
      case measure => simp [intOf]; omega
    · obtain rfl : i = s.length := by omega
      have fin := NON.out (fun j hj => HN.out j hj hj)
      subst fin
      clear AT BAD NON
      go_wp2
      go_ret
      exact ⟨rfl, rfl⟩
end Go.Proofs.YtnkcanhkdfckmaaDoor
