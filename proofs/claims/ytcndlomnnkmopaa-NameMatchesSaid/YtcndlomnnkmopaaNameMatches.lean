/- NameMatches: the walk. -/
import Derived.Test.YtcndlomnnkmopaaNameJ
import Derived.Test.YtcndlomnnkmopaaNameE
namespace Go.Proofs.Ytcndlomnnkmopaa
set_option linter.all false
open Go.RowKit Go.Shelf

theorem cmpB_at {a b : List UInt8} {k : Nat} (h1 : k < a.length) (h2 : k < b.length) : Lib.compareBytes (a.drop k) (b.drop k) = if a[k] < b[k] then -1 else if b[k] < a[k] then 1 else Lib.compareBytes (a.drop (k + 1)) (b.drop (k + 1)) := by
  rw [List.drop_eq_getElem_cons h1, List.drop_eq_getElem_cons h2, Lib.compareBytes]
theorem cmpB_less {a b : List UInt8} {k : Nat} (h1 : k < a.length) (h2 : k < b.length) (h : (a[k].toNat : Int) < (b[k].toNat : Int)) : Lib.compareBytes (a.drop k) (b.drop k) = -1 := by
  rw [cmpB_at h1 h2, if_pos (UInt8.lt_iff_toNat_lt.2 (by omega))]
theorem cmpB_more {a b : List UInt8} {k : Nat} (h1 : k < a.length) (h2 : k < b.length) (h : (b[k].toNat : Int) < (a[k].toNat : Int)) : Lib.compareBytes (a.drop k) (b.drop k) = 1 := by
  rw [cmpB_at h1 h2, if_neg (fun h' => by have := UInt8.lt_iff_toNat_lt.1 h'; omega), if_pos (UInt8.lt_iff_toNat_lt.2 (by omega))]
theorem cmpB_on {a b : List UInt8} {k : Nat} (h1 : k < a.length) (h2 : k < b.length) (h : (a[k].toNat : Int) = (b[k].toNat : Int)) : Lib.compareBytes (a.drop k) (b.drop k) = Lib.compareBytes (a.drop (k + 1)) (b.drop (k + 1)) := by
  rw [cmpB_at h1 h2, if_neg (fun h' => by have := UInt8.lt_iff_toNat_lt.1 h'; omega), if_neg (fun h' => by have := UInt8.lt_iff_toNat_lt.1 h'; omega)]
theorem cmpB_end (a b : List UInt8) (h : a.length = 0 ∨ b.length = 0) : Lib.compareBytes a b = if (a.length : Int) < b.length then -1 else if (b.length : Int) < a.length then 1 else 0 := by
  rcases h with h | h
  · obtain rfl := List.eq_nil_of_length_eq_zero h
    cases b with
    | nil => rfl
    | cons x t => rw [if_pos (by simp <;> omega)]; rfl
  · obtain rfl := List.eq_nil_of_length_eq_zero h
    cases a with
    | nil => rfl
    | cons x t => rw [if_neg (by simp <;> omega), if_pos (by simp <;> omega)]; rfl
set_option maxHeartbeats 1000000 in
theorem compare3_any (a b : List UInt8) (w : World) (ha : a.length ≤ 1000000) (hb : b.length ≤ 1000000) : Calls Try.prog 22 #[.string ⟨a.toArray⟩, .string ⟨b.toArray⟩] w fun e w' => e = .returned (.int .i64 (Lib.compareBytes a b)) ∧ Chg [] w w' := by
  obtain ⟨r, hr⟩ : ∃ r, Lib.compareBytes a b = r := ⟨_, rfl⟩
  rw [hr]
  have HR := Lib.hid hr; clear hr
  go_enter Try.func22, Try.ntmps22
  go_wp2
  go_loopw [5] (fun i wr => ∃ k n : Nat, k ≤ a.length ∧ k ≤ b.length ∧ i = .int .i64 k ∧ wr = w.drewN n ∧ Lib.compareBytes (a.drop k) (b.drop k) = r) (fun i _ => a.length - (intOf i).toNat)
  case atStart => exact ⟨0, 0, by omega, by omega, rfl, rfl, HR.out⟩
  case round =>
    obtain ⟨k, n, hka, hkb, rfl, rfl, hc⟩ := hrel
    have HC := Lib.hid hc; clear hc
    by_cases h1 : k < a.length
    · have h1' : (k : Int) < (a.length : Int) := by omega
      by_cases h2 : k < b.length
      · have h2' : (k : Int) < (b.length : Int) := by omega
        by_cases e : (a[k].toNat : Int) = (b[k].toNat : Int)
        · have e' : ((a[k].toNat : Int) != (b[k].toNat : Int)) = false := by simp [e]
          have E := Lib.hid e; clear e
          go_wp2
          go_quiet (fail)
          go_wp2
          go_roundw
          case rel => exact ⟨k + 1, _, by omega, by omega, by go_num, rfl, (cmpB_on h1 h2 E.out).symm.trans HC.out⟩
          case measure => simp [intOf]; omega
        · have e' : ((a[k].toNat : Int) != (b[k].toNat : Int)) = true := by simp; omega
          by_cases q : (a[k].toNat : Int) < (b[k].toNat : Int)
          · have E := Lib.hid ((cmpB_less h1 h2 q).symm.trans HC.out); clear e
            go_wp2
            go_quiet (fail)
            go_wp2
            go_quiet (fail)
            go_wp2
            go_ret
            exact ⟨ret_int E.out, ((((Chg.refl _ _).drewN _).drewN _).drewN _)⟩
          · have E := Lib.hid ((cmpB_more h1 h2 (by omega)).symm.trans HC.out); clear e
            go_wp2
            go_quiet (fail)
            go_wp2
            go_quiet (fail)
            go_wp2
            go_ret
            exact ⟨ret_int E.out, ((((Chg.refl _ _).drewN _).drewN _).drewN _)⟩
      · have h2' : ¬ (k : Int) < (b.length : Int) := by omega
        have HE := HC.out
        rw [cmpB_end _ _ (.inr (by simp; omega))] at HE
        simp only [List.length_drop] at HE
        by_cases q : (a.length : Int) < (b.length : Int)
        · omega
        · by_cases q2 : (b.length : Int) < (a.length : Int)
          · rw [if_neg (by omega), if_pos (by omega)] at HE
            have E := Lib.hid HE; clear HE
            go_wp2
            go_ret
            exact ⟨ret_int E.out, (Chg.refl _ _).drewN _⟩
          · rw [if_neg (by omega), if_neg (by omega)] at HE
            have E := Lib.hid HE; clear HE
            go_wp2
            go_ret
            exact ⟨ret_int E.out, (Chg.refl _ _).drewN _⟩
    · have h1' : ¬ (k : Int) < (a.length : Int) := by omega
      have HE := HC.out
      rw [cmpB_end _ _ (.inl (by simp; omega))] at HE
      simp only [List.length_drop] at HE
      by_cases q : (a.length : Int) < (b.length : Int)
      · rw [if_pos (by omega)] at HE
        have E := Lib.hid HE; clear HE
        go_wp2
        go_ret
        exact ⟨ret_int E.out, (Chg.refl _ _).drewN _⟩
      · have q2 : ¬ (b.length : Int) < (a.length : Int) := by omega
        rw [if_neg (by omega), if_neg (by omega)] at HE
        have E := Lib.hid HE; clear HE
        go_wp2
        go_ret
        exact ⟨ret_int E.out, (Chg.refl _ _).drewN _⟩

theorem underV_cases (p l : List UInt8) : (∃ (x : List UInt8) (b : Bool), underV p l = .tuple #[.string ⟨x.toArray⟩, .bool b]) := by
  unfold underV; split
  · exact ⟨_, _, rfl⟩
  · exact ⟨[], _, rfl⟩
set_option maxRecDepth 100000 in
set_option maxHeartbeats 1000000 in
theorem nameMatches_walk (p : List UInt8) (hp : p.length ≤ 140737488351232) (s : List UInt8) (hs : s.length ≤ 140737488351232) (w : World) :
    Calls Try.prog 5 #[.string ⟨p.toArray⟩, .string ⟨s.toArray⟩] w fun e w' => e = .returned (.bool true) ∧ Below w.heap.size w w' := by
  have O := Own.start w
  by_cases h5 : 5000 < (p.length : Int) + s.length
  · go_enter Try.func5, Try.ntmps5
    go_wp2_with fail
    refine (awake_any _).mono ?_
    rintro e w2 ⟨rfl, ch2⟩
    go_wp2
    go_ret
    exact ⟨rfl, (O.pure ch2).below⟩
  have lp : p.length ≤ 5000 := by omega
  have ls : s.length ≤ 5000 := by omega
  obtain ⟨ux, ub, hu⟩ := underV_cases p s
  obtain ⟨pb, hpb⟩ : ∃ b, pat p = b := ⟨_, rfl⟩
  obtain ⟨mb, hmb⟩ : ∃ b, matches' p s = b := ⟨_, rfl⟩
  have HU := Lib.hid hu; have HP := Lib.hid hpb; have HM := Lib.hid hmb
  clear hu hpb hmb
  go_enter Try.func5, Try.ntmps5
  go_wp2_with fail
  refine (under_any p s _ (by omega) (by omega)).mono ?_
  rw [HU.out]
  rintro e w2 ⟨rfl, ch2⟩
  replace O := O.pure ch2; clear ch2
  go_wp2_with fail
  refine (under3_any p s _ (by omega) (by omega)).mono ?_
  rw [HU.out]
  rintro e w3 ⟨rfl, ch2⟩
  replace O := O.pure ch2; clear ch2
  go_wp2_with fail
  refine (pattern_any p _ (by omega)).mono ?_
  rw [HP.out]
  rintro e w4 ⟨rfl, ch2⟩
  replace O := O.pure ch2; clear ch2
  go_wp2_with fail
  refine (pattern3_any p _ (by omega) _ HP.out).mono ?_
  rintro e w5 ⟨rfl, ch2⟩
  replace O := O.pure ch2; clear ch2
  go_wp2_with fail
  refine (match_any p s _ (by omega) (by omega) _ HM.out).mono ?_
  rintro e w6 ⟨rfl, ch2⟩
  replace O := O.pure ch2; clear ch2
  go_wp2_with fail
  refine (match3_any p s _ (by omega) (by omega) _ HM.out).mono ?_
  rintro e w7 ⟨rfl, ch2⟩
  replace O := O.pure ch2; clear ch2
  go_wp2_with fail
  refine (compare_any p s _).mono ?_
  obtain ⟨cb, hcb⟩ : ∃ c, Lib.compareBytes p s = c := ⟨_, rfl⟩
  have HC := Lib.hid hcb; clear hcb
  rw [HC.out]
  rintro e w8 ⟨rfl, rfl⟩
  go_wp2_with fail
  refine (compare3_any p s _ (by omega) (by omega)).mono ?_
  rw [HC.out]
  rintro e w9 ⟨rfl, ch2⟩
  replace O := O.pure ch2; clear ch2
  go_wp2_with fail
  refine (awake_any _).mono ?_
  rintro e w10 ⟨rfl, ch2⟩
  replace O := O.pure ch2; clear ch2
  go_wp2
  go_ret
  exact ⟨ret_bool (by simp), O.below⟩
end Go.Proofs.Ytcndlomnnkmopaa
