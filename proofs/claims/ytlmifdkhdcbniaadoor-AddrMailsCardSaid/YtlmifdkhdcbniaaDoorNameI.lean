/- mailroomref03: May, Labels, Parent, bare, Pattern, Match. -/
import Derived.Test.YtlmifdkhdcbniaaDoorNameH
namespace Go.Proofs.YtlmifdkhdcbniaaDoor
set_option linter.all false
open Go.RowKit Go.Shelf

theorem Own.shapeNe {w0 w : World} {L : List Piece} {v : Value} {ss : List (List UInt8)} (h : Own w0 w (strs v ss :: L)) (hn : 0 < ss.length) : ∃ g cap, v = .slice (some ⟨g, 0, none⟩) ss.length cap := by
  rcases row_shape' h.row with rfl | h'
  · rcases h.row.2 with ⟨_, hn'⟩ | ⟨g, cap, cur, hv, _⟩
    · omega
    · cases hv
  · exact h'
theorem may_pack (l : List UInt8) : ∃ (cs : List (List UInt8)) (m : Nat) (hm : cs.length = m + 1), cut46 l = cs ∧ m ≤ l.length ∧
    (l.length ≤ 253 → (∀ j (h : j < cs.length), labelOk cs[j] = true) → may l = !(cs[m]'(by omega)).all dig) ∧ ((cs[m]'(by omega)).all dig = true → may l = false) ∧
    (∀ j (h : j < cs.length), labelOk cs[j] = false → may l = false) ∧ (∀ j (h : j < cs.length), cs[j].length ≤ l.length) := by
  have hne := List.length_pos_iff.2 (cut46_ne l)
  have hlen := cut46_len l
  refine ⟨cut46 l, (cut46 l).length - 1, by omega, rfl, by omega, fun h1 h => may_of h1 h, ?_, ?_, ?_⟩
  · intro h
    unfold may
    rw [List.getLast_eq_getElem, h]; simp
  · intro j hj h
    unfold may
    have : (cut46 l).all labelOk = false := by rw [List.all_eq_false]; exact ⟨_, List.getElem_mem hj, by simp [h]⟩
    rw [this]; simp
  · intro j hj
    have e := (sfx_at l j hj).1
    rw [← e]
    exact Nat.le_trans (hd46_le _) (sfx_le _ _)
set_option maxHeartbeats 1000000 in
theorem may3_any (l : List UInt8) (w : World) (hl : l.length ≤ 100000000) (b : Bool) (hb : may l = b) :
    Calls Tryd.prog 61 #[.string ⟨l.toArray⟩] w fun e w' => e = .returned (.bool b) ∧ Chg [] w w' := by
  have HB := Lib.hid hb; clear hb
  obtain ⟨cs, m, hm, hcs, hml, p1, p2, p3, p4⟩ := may_pack l
  have HCS := Lib.hid hcs; have P1 := Lib.hid p1; have P2 := Lib.hid p2; have P3 := Lib.hid p3; have P4 := Lib.hid p4
  clear hcs p1 p2 p3 p4
  go_enter Tryd.func61, Tryd.ntmps61
  go_wp2_with fail
  refine (cut3_any (Own.start w) l hl).mono ?_
  rw [HCS.out]
  rintro e w1 ⟨v, rfl, O⟩
  obtain ⟨g, cap, rfl⟩ := O.shapeNe (by omega)
  by_cases h1 : 253 < l.length
  · have h1' : decide ((253 : Int) < (l.length : Int)) = true := by simp; omega
    go_wp2
    go_ret
    exact ⟨ret_bool (by rw [← HB.out, may_long h1]), O.chg⟩
  have h1' : decide ((253 : Int) < (l.length : Int)) = false := by simp; omega
  obtain ⟨_, cm, _⟩ := O.readRow m (by omega)
  have hmi : (m : Int) < ((m + 1 : Nat) : Int) := by omega
  have HPM := Lib.hid (P4.out m (by omega))
  cases hd : (cs[m]'(by omega)).all dig
  · have HD := Lib.hid hd; clear hd
    rw [hm]
    go_wp2_with fail
    refine (digits3_any _ _ (by have := HPM.out; omega) _ HD.out).mono ?_
    rintro e w2 ⟨rfl, rfl⟩
    go_wp2_with fail
    go_loop [4] (fun i => ∃ k : Nat, k ≤ m + 1 ∧ i = .int .i64 k ∧ (∀ j (h : j < cs.length), j < k → labelOk cs[j] = true)) (fun i => m + 1 - (intOf i).toNat)
    case atStart => exact ⟨0, by omega, rfl, fun j h h' => by omega⟩
    case round =>
      clear cm
      obtain ⟨k, hk, rfl, ha⟩ := hrel
      have HA := Lib.hid ha; clear ha
      by_cases hlt : k < m + 1
      · have hb1 : (k : Int) < (m : Int) + 1 := by omega
        have hkl : k < cs.length := by omega
        obtain ⟨_, cm, _⟩ := O.readRow k hkl
        have HPK := Lib.hid (P4.out k hkl)
        cases hd : labelOk cs[k]
        · have HL := Lib.hid hd; clear hd
          go_wp2_with fail
          refine (label3_any _ _ (by have := HPK.out; omega) _ HL.out).mono ?_
          rintro e w2 ⟨rfl, rfl⟩
          go_wp2
          go_ret
          exact ⟨ret_bool (by rw [← HB.out]; exact (P3.out k hkl HL.out).symm), O.chg⟩
        · have HL := Lib.hid hd; clear hd
          go_wp2_with fail
          refine (label3_any _ _ (by have := HPK.out; omega) _ HL.out).mono ?_
          rintro e w2 ⟨rfl, rfl⟩
          go_wp2
          go_round
          case rel =>
            refine ⟨k + 1, by omega, by go_num, fun j h h' => ?_⟩
            by_cases e : j = k
            · subst e; exact HL.out
            · exact HA.out j h (by omega)
          case measure => simp [intOf]; omega
      · have hb1 : ¬ (k : Int) < (m : Int) + 1 := by omega
        go_wp2
        go_ret
        refine ⟨ret_bool ?_, O.chg⟩
        rw [← HB.out, P1.out (by omega) (fun j h => HA.out j h (by omega)), HD.out]; rfl
  · have HD := Lib.hid hd; clear hd
    rw [hm]
    go_wp2_with fail
    refine (digits3_any _ _ (by have := HPM.out; omega) _ HD.out).mono ?_
    rintro e w2 ⟨rfl, rfl⟩
    go_wp2
    go_ret
    exact ⟨ret_bool (by rw [← HB.out]; exact (P2.out HD.out).symm), O.chg⟩
end Go.Proofs.YtlmifdkhdcbniaaDoor
