/- mailroomref09: Trim, colon. -/
import Derived.Test.YtnkcanhkdfckmaaDoorHdR
namespace Go.Proofs.YtnkcanhkdfckmaaDoor
set_option linter.all false
open Go.RowKit

theorem cutR_snoc {α : Type} (p : α → Bool) (l : List α) (x : α) : cutR p (l ++ [x]) = if p x = true then cutR p l else l ++ [x] := by
  unfold cutR
  rw [List.reverse_append, List.reverse_singleton, List.singleton_append, List.dropWhile_cons]
  by_cases h : p x = true
  · rw [if_pos h, if_pos h]
  · rw [if_neg h, if_neg h]; simp
theorem last_split {α : Type} {l : List α} (h : 0 < l.length) : l = l.take (l.length - 1) ++ [l[l.length - 1]'(by omega)] := by
  have := List.take_succ_eq_append_getElem (l := l) (i := l.length - 1) (by omega)
  rw [← this, show l.length - 1 + 1 = l.length by omega, List.take_length]
set_option maxRecDepth 100000 in
set_option maxHeartbeats 2000000 in
theorem rtrim_any (s : List UInt8) (hs : s.length ≤ 1000000000) (w : World) : Calls Tryd.prog 45 #[.string ⟨s.toArray⟩] w fun e w' => e = .returned (.string ⟨(trimL s).toArray⟩) ∧ w' = w := by
  obtain ⟨r, hr⟩ : ∃ r, trimL s = r := ⟨_, rfl⟩
  rw [hr]
  have HR : Hid (cutR blankB (s.dropWhile blankB) = r) := by unfold Hid; rw [← trimL_is]; exact hr
  clear hr
  go_enter Tryd.func45, Tryd.ntmps45
  go_wp2_with fail
  go_loopw [0] (fun sv wr => ∃ t : List UInt8, t.length ≤ s.length ∧ sv = .string ⟨t.toArray⟩ ∧ Hid (cutR blankB (t.dropWhile blankB) = r) ∧ wr = w) (fun sv _ => match sv with | .string b => b.size | _ => 0)
  case atStart => exact ⟨s, Nat.le_refl _, rfl, HR, rfl⟩
  case round =>
    clear HR
    obtain ⟨t, hl, rfl, HT, rfl⟩ := hrel
    by_cases hst : t = [] ∨ ∃ c x, t = c :: x ∧ blankB c = false
    rotate_left
    · obtain ⟨c, x, htx, hb⟩ : ∃ c x, t = c :: x ∧ blankB c = true := by
        cases t with
        | nil => exact absurd (.inl rfl) hst
        | cons c x =>
          refine ⟨c, x, rfl, ?_⟩
          cases e : blankB c with
          | true => rfl
          | false => exact absurd (.inr ⟨c, x, rfl, e⟩) hst
      have NX : Hid (cutR blankB (x.dropWhile blankB) = r) := by
        unfold Hid; rw [← HT.out, htx, List.dropWhile_cons, if_pos hb]
      have h0 : 0 < t.length := by rw [htx]; simp
      have hc : t[0] = c := by simp [htx]
      have SF := run_subFrom t 1 (by omega)
      rw [show t.drop 1 = x by rw [htx]; rfl, show ((1 : Nat) : Int) = 1 from rfl] at SF
      have hxl : x.length < t.length := by rw [htx]; simp
      have BK := blank_any t[0]
      rw [hc, hb, ← hc] at BK
      have hb1 : (0 : Int) < (t.length : Int) := by omega
      have BKH := Lib.hid BK
      clear hst htx hc hb HT BK
      go_wp2_with fail
      refine (BKH.out _).mono ?_
      rintro e w1 ⟨rfl, rfl⟩
      go_wp2_with fail
      go_roundw
      case rel => exact ⟨x, by omega, rfl, NX, by trivial⟩
      case measure => simpa [ByteArray.size] using hxl
    · have HT2 : Hid (cutR blankB t = r) := by
        unfold Hid
        rw [← HT.out]
        rcases hst with rfl | ⟨c, x, rfl, hb⟩
        · rfl
        · rw [List.dropWhile_cons, if_neg (by rw [hb]; simp)]
      clear HT
      have TOLOOP : Hid (t = [] ∨ ∃ h : 0 < t.length, blankB (t[0]'h) = false) := by
        rcases hst with rfl | ⟨c, x, rfl, hb⟩
        · exact .inl rfl
        · exact .inr ⟨by simp, by simpa using hb⟩
      clear hst
      rcases TOLOOP.out with rfl | ⟨h0, hb⟩
      focus
        go_wp2_with fail
      rotate_left
      focus
        have hb1 : (0 : Int) < (t.length : Int) := by omega
        have BK := blank_any t[0]
        rw [hb] at BK
        have BKH := Lib.hid BK
        clear BK hb
        go_wp2_with fail
        refine (BKH.out _).mono ?_
        rintro e wr ⟨rfl, rfl⟩
        go_wp2_with fail
        clear hb1 BKH
      all_goals
        clear TOLOOP
        go_loopw [0] (fun sv wx => ∃ u : List UInt8, u.length ≤ s.length ∧ sv = .string ⟨u.toArray⟩ ∧ Hid (cutR blankB u = r) ∧ wx = wr) (fun sv _ => match sv with | .string b => b.size | _ => 0)
        case atStart => exact ⟨_, hl, rfl, HT2, by trivial⟩
        case round =>
          clear HT2 hl
          obtain ⟨u, hl, rfl, HU, rfl⟩ := hrel
          by_cases hu : u.length = 0
          · have hu2 : u = [] := List.eq_nil_of_length_eq_zero hu
            subst hu2
            have fin : r = [] := HU.out.symm
            subst fin
            go_wp2
            go_ret
            exact ⟨rfl, rfl⟩
          · have hp : 0 < u.length := by omega
            have hb1 : (0 : Int) < (u.length : Int) := by omega
            have pl : u.length - 1 < u.length := by omega
            have i1 : (u.length : Int) - 1 < (u.length : Int) := by omega
            have i2 : 0 ≤ (u.length : Int) - 1 := by omega
            have i4 : (1 : Int) ≤ (u.length : Int) := by omega
            have i3 : ((u.length : Int) - 1).toNat = u.length - 1 := by omega
            have s1 : IntKind.i64.wrap ((u.length : Int) - 1) = (u.length : Int) - 1 := IntWalk.i64_in _ (by omega)
            have LS := Lib.hid (last_split hp)
            have ST := run_subTo u (u.length - 1) (by omega)
            rw [show ((u.length - 1 : Nat) : Int) = (u.length : Int) - 1 by omega] at ST
            have BK := Lib.hid (fun w => blank_any (u[u.length - 1]'pl) w)
            have HU2 : Hid ((if blankB (u[u.length - 1]'pl) = true then cutR blankB (u.take (u.length - 1)) else u) = r) := by
              unfold Hid
              rw [← HU.out]
              conv => rhs; rw [LS.out, cutR_snoc]
              split
              · rfl
              · exact LS.out
            clear HU LS
            generalize blankB (u[u.length - 1]'pl) = q at BK HU2
            cases q
            · have fin : Hid (u = r) := HU2.out
              clear HU2 ST
              go_wp2_with fail
              refine (BK.out _).mono ?_
              rintro e w1 ⟨rfl, rfl⟩
              go_wp2
              go_ret
              exact ⟨ret_str fin.out, rfl⟩
            · have NX : Hid (cutR blankB (u.take (u.length - 1)) = r) := HU2.out
              have hxl : (u.take (u.length - 1)).length < u.length := by simp; omega
              clear HU2
              generalize u.take (u.length - 1) = x at ST NX hxl
              go_wp2_with fail
              refine (BK.out _).mono ?_
              rintro e w1 ⟨rfl, rfl⟩
              clear BK
              go_wp2_with fail
              go_roundw
              case rel => exact ⟨x, by omega, rfl, NX, by trivial⟩
              case measure => simpa [ByteArray.size] using hxl
end Go.Proofs.YtnkcanhkdfckmaaDoor
