/- mailroomref03.Fold. -/
import Derived.Test.YtlmifdkhdcbniaaDoorNameI
namespace Go.Proofs.YtlmifdkhdcbniaaDoor
set_option linter.all false
open Go.RowKit Go.Shelf

theorem conv_one (u : World) (c : UInt8) : (convert 48 9 (.slice (some ⟨u.heap.size, 0, none⟩) 1 1)).run Tryd.prog (u.alloc (.cells #[.int .u8 (c.toNat : Int)] 5)) = .ok (.string ⟨[c].toArray⟩) (u.alloc (.cells #[.int .u8 (c.toNat : Int)] 5)) := by
  have h := run_convert_bytes_back (P := Tryd.prog) (u.alloc (.cells #[.int .u8 (c.toNat : Int)] 5)) 48 9 5 ⟨u.heap.size, 0, none⟩ 1 [c] Tryd.underlying48 Tryd.underlying5 Tryd.underlying9 (fun j hj => by
    have hj' : j = 0 := by simp at hj; exact hj
    subst hj'
    rw [show (⟨u.heap.size, 0, none⟩ : Addr).add 0 = ⟨u.heap.size, 0, none⟩ from by simp [Addr.add], cell_at (heap_alloc_new u _)]
    rfl)
  exact h
theorem trim_cases (s : List UInt8) : (∃ h : 0 < s.length, (s[s.length - 1]'(by omega)).toNat = 46 ∧ s.take (s.length - 1) = Lib.trimSuffix s [46]) ∨ (0 < s.length ∧ (∃ h : s.length - 1 < s.length, ¬ s[s.length - 1].toNat = 46) ∧ Lib.trimSuffix s [46] = s) ∨ (s.length = 0 ∧ Lib.trimSuffix s [46] = s) := by
  by_cases h : ∃ t, s = t ++ [46]
  · left
    obtain ⟨t, rfl⟩ := h
    refine ⟨by simp, ?_, ?_⟩
    · simp
    · unfold Lib.trimSuffix Lib.hasSuffix
      rw [if_pos (by rw [List.isSuffixOf_iff_suffix]; exact List.suffix_append _ _)]
      simp
  · have hn : Lib.trimSuffix s [46] = s := by
      unfold Lib.trimSuffix Lib.hasSuffix
      rw [if_neg (by rw [List.isSuffixOf_iff_suffix]; rintro ⟨t, rfl⟩; exact h ⟨t, rfl⟩)]
    right
    by_cases h0 : s.length = 0
    · exact .inr ⟨h0, hn⟩
    · refine .inl ⟨by omega, ⟨by omega, fun e => h ?_⟩, hn⟩
      have hne : s ≠ [] := by rintro rfl; simp at h0
      refine ⟨s.dropLast, ?_⟩
      have h1 := List.dropLast_concat_getLast hne
      rw [List.getLast_eq_getElem, show s[s.length - 1] = 46 from UInt8.toNat_inj.1 e] at h1
      exact h1.symm
theorem map_take_succ {t : List UInt8} {k : Nat} (h : k < t.length) : (t.take k).map low ++ [low t[k]] = (t.take (k + 1)).map low := by
  rw [List.take_succ_eq_append_getElem h, List.map_append]; rfl
theorem low_great3 {c : UInt8} (h1 : 65 ≤ (c.toNat : Int)) (h2 : (c.toNat : Int) ≤ 90) : ((low c).toNat : Int) = (c.toNat : Int) + 32 := by
  rw [low_toNat, if_pos (by omega)]; omega
theorem ret_v {a b : Value} (h : a = b) : Ending.returned a = .returned b := by rw [h]

set_option maxHeartbeats 1000000 in
theorem fold3_any (s : List UInt8) (w : World) (hs : s.length ≤ 1000000) :
    Calls Tryd.prog 40 #[.string ⟨s.toArray⟩] w fun e w' => e = .returned (foldV s) ∧ Chg [] w w' := by
  have HV : Hid (foldV s = if may ((Lib.trimSuffix s [46]).map low) then .tuple #[.string ⟨((Lib.trimSuffix s [46]).map low).toArray⟩, .int .i64 0] else .tuple #[.string ⟨#[]⟩, .int .i64 4]) := rfl
  have htl := trimSuffix_le s [46]
  have O := Own.start w
  have htc := trim_cases s
  obtain ⟨t, ht⟩ : ∃ t, t = Lib.trimSuffix s [46] := ⟨_, rfl⟩
  rw [← ht] at HV htl htc
  clear ht
  by_cases hlong : 253 < t.length
  · have hl' : (253 : Int) < (t.length : Int) := by omega
    have HN : Hid (foldV s = .tuple #[.string ⟨#[]⟩, .int .i64 4]) := by
      unfold Hid; rw [HV.out, may_long (by simpa using hlong)]; rfl
    rcases htc with ⟨h0, h1, h2⟩ | ⟨h0, ⟨h1, h1'⟩, h2⟩ | ⟨h0, h2⟩
    · have q0 : decide ((0 : Int) < (s.length : Int)) = true := by simp; omega
      have q4 : s.length - 1 < s.length := by omega
      have q1 : (s.length : Int) - 1 < (s.length : Int) := by omega
      have q2 : 0 ≤ (s.length : Int) - 1 := by omega
      have q3 : ((s.length : Int) - 1).toNat = s.length - 1 := by omega
      have h4 : (((s[s.length - 1]'q4).toNat : Int) == 46) = true := by simp [h1]
      have h5 : (s.length : Int) - 1 ≤ (s.length : Int) := by omega
      clear h1
      go_enter Tryd.func40, Tryd.ntmps40
      go_wp2
      go_ret2
      exact ⟨by rw [HN.out]; rfl, Chg.refl _ _⟩
    · have q0 : decide ((0 : Int) < (s.length : Int)) = true := by simp; omega
      have q1 : (s.length : Int) - 1 < (s.length : Int) := by omega
      have q2 : 0 ≤ (s.length : Int) - 1 := by omega
      have q3 : ((s.length : Int) - 1).toNat = s.length - 1 := by omega
      have h4 : (((s[s.length - 1]'h1).toNat : Int) == 46) = false := by simp; omega
      subst h2
      clear h1'
      go_enter Tryd.func40, Tryd.ntmps40
      go_wp2
      go_ret2
      exact ⟨by rw [HN.out]; rfl, Chg.refl _ _⟩
    · omega
  have hl' : ¬ (253 : Int) < (t.length : Int) := by omega
  rcases htc with ⟨h0, h1, h2⟩ | ⟨h0, ⟨h1, h1'⟩, h2⟩ | ⟨h0, h2⟩
  focus
    have q0 : decide ((0 : Int) < (s.length : Int)) = true := by simp; omega
    have q4 : s.length - 1 < s.length := by omega
    have q1 : (s.length : Int) - 1 < (s.length : Int) := by omega
    have q2 : 0 ≤ (s.length : Int) - 1 := by omega
    have q3 : ((s.length : Int) - 1).toNat = s.length - 1 := by omega
    have h4 : (((s[s.length - 1]'q4).toNat : Int) == 46) = true := by simp [h1]
    have h5 : (s.length : Int) - 1 ≤ (s.length : Int) := by omega
    clear h1
    go_enter Tryd.func40, Tryd.ntmps40
    go_wp2
  rotate_left
  focus
    have q0 : decide ((0 : Int) < (s.length : Int)) = true := by simp; omega
    have q1 : (s.length : Int) - 1 < (s.length : Int) := by omega
    have q2 : 0 ≤ (s.length : Int) - 1 := by omega
    have q3 : ((s.length : Int) - 1).toNat = s.length - 1 := by omega
    have h4 : (((s[s.length - 1]'h1).toNat : Int) == 46) = false := by simp; omega
    subst h2
    clear h1'
    go_enter Tryd.func40, Tryd.ntmps40
    go_wp2
  rotate_left
  focus
    obtain rfl := List.eq_nil_of_length_eq_zero h0
    subst h2
    go_enter Tryd.func40, Tryd.ntmps40
    go_wp2
  focus
    go_loopw [4, 5] (fun ov iv wr => ov = .string ⟨#[]⟩ ∧ iv = .int .i64 0 ∧ Own w wr []) (fun _ _ _ => 0)
    case atStart => exact ⟨rfl, rfl, O⟩
    case round =>
      clear O
      obtain ⟨rfl, rfl, O⟩ := hrel
      go_wp2_with fail
      refine (may3_any [] _ (by simp) false (by decide)).mono ?_
      rintro e w2 ⟨rfl, ch⟩
      go_wp2
      go_ret2
      exact ⟨by rw [HV.out]; rfl, (O.pure ch).chg⟩
  all_goals
    go_loopw [4, 5] (fun ov iv wr => ∃ (k : Nat), k ≤ t.length ∧ iv = .int .i64 k ∧ ov = .string ⟨((t.take k).map low).toArray⟩ ∧ Own w wr []) (fun _ iv _ => t.length - (intOf iv).toNat)
    case atStart => exact ⟨0, by omega, rfl, rfl, O⟩
    case round =>
      clear O
      obtain ⟨k, hk, rfl, rfl, O⟩ := hrel
      have hol : ((t.take k).map low).length ≤ 253 := by simp; omega
      by_cases hlt : k < t.length
      · have hb1 : (k : Int) < (t.length : Int) := by omega
        have E := Lib.hid (map_take_succ hlt)
        have hcv := conv_one wr (low t[k])
        have h256 : (t[k].toNat : Int) < 256 := by have := t[k].toNat_lt; omega
        generalize (t.take k).map low = o at *
        by_cases c1 : 65 ≤ (t[k].toNat : Int)
        · by_cases c2 : (t[k].toNat : Int) ≤ 90
          · rw [low_great3 c1 c2] at hcv
            go_wp2
            go_roundw
            case rel => exact ⟨k + 1, by omega, by go_num, by rw [E.out], O.alloc _⟩
            case measure => simp [intOf]; omega
          · rw [low_small (.inr (by omega))] at hcv E
            go_wp2
            go_roundw
            case rel => exact ⟨k + 1, by omega, by go_num, by rw [E.out], O.alloc _⟩
            case measure => simp [intOf]; omega
        · rw [low_small (.inl (by omega))] at hcv E
          go_wp2
          go_roundw
          case rel => exact ⟨k + 1, by omega, by go_num, by rw [E.out], O.alloc _⟩
          case measure => simp [intOf]; omega
      · obtain rfl : k = t.length := by omega
        rw [List.take_length] at hol ⊢
        generalize t.map low = f at *
        cases hm : may f
        · have HM := Lib.hid hm
          rw [hm] at HV
          clear hm
          go_wp2_with fail
          refine (may3_any f _ (by omega) _ HM.out).mono ?_
          rintro e w2 ⟨rfl, ch⟩
          go_wp2
          go_ret2
          exact ⟨by rw [HV.out]; rfl, (O.pure ch).chg⟩
        · have HM := Lib.hid hm
          rw [hm] at HV
          clear hm
          go_wp2_with fail
          refine (may3_any f _ (by omega) _ HM.out).mono ?_
          rintro e w2 ⟨rfl, ch⟩
          go_wp2
          go_ret2
          exact ⟨by rw [HV.out]; rfl, (O.pure ch).chg⟩
end Go.Proofs.YtlmifdkhdcbniaaDoor
