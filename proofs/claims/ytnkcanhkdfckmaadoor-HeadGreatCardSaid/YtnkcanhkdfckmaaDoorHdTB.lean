/- mailroomlaw09: other. -/
import Derived.Test.YtnkcanhkdfckmaaDoorHdY
namespace Go.Proofs.YtnkcanhkdfckmaaDoor
set_option linter.all false
open Go.RowKit Go.Shelf

def flip (c : UInt8) : UInt8 := UInt8.ofNat (c.toNat ^^^ 32)
theorem flip_is {c : UInt8} (h : 97 ≤ (c.toNat : Int) ∧ (c.toNat : Int) ≤ 122 ∨ 65 ≤ (c.toNat : Int) ∧ (c.toNat : Int) ≤ 90) : bits BinOp.xor IntKind.u8 (c.toNat : Int) 32 = ((flip c).toNat : Int) ∧ lw (flip c) = lw c := by
  have : ∀ n : Nat, n < 256 → (97 ≤ n ∧ n ≤ 122 ∨ 65 ≤ n ∧ n ≤ 90) → bits BinOp.xor IntKind.u8 (n : Int) 32 = ((UInt8.ofNat (n ^^^ 32)).toNat : Int) ∧ lw (UInt8.ofNat (n ^^^ 32)) = lw (UInt8.ofNat n) := by decide +kernel
  have h2 := this c.toNat (UInt8.toNat_lt c) (by omega)
  rw [UInt8.ofNat_toNat] at h2
  exact h2
theorem small_set {t : List UInt8} {k : Nat} (h : k < t.length) {d : UInt8} (hd : lw d = lw t[k]) : smallL (t.set k d) = smallL t := by
  unfold smallL
  rw [List.map_set, hd]
  apply List.ext_getElem
  · simp
  · intro j h1 h2
    rw [List.getElem_set]
    split
    · rename_i e; subst e; simp
    · rfl
def OtherPost (s : List UInt8) (w : World) (e : Ending) (w' : World) : Prop := ∃ t, e = .returned (.string ⟨t.toArray⟩) ∧ Chg [] w w' ∧ smallL t = smallL s
set_option maxHeartbeats 4000000 in
theorem other_any (s : List UInt8) (hs : s.length ≤ 10000000) (wh : Int) (w : World) : Calls Tryd.prog 30 #[.string ⟨s.toArray⟩, .int .u64 wh] w (OtherPost s w) := by
  obtain ⟨g, cap, W1, hcv, O1⟩ := (Own.start w).toBytes s
  go_enter Tryd.func30, Tryd.ntmps30
  go_wp2_with fail
  go_loopw [6] (fun iv wr => ∃ (k : Nat) (t : List UInt8), k ≤ s.length ∧ iv = .int .i64 k ∧ t.length = s.length ∧ Hid (smallL t = smallL s) ∧ Own w wr [bytes g t]) (fun iv _ => s.length - (intOf iv).toNat)
  case atStart => exact ⟨0, s, by omega, rfl, rfl, rfl, O1⟩
  case round =>
    clear O1 hcv
    obtain ⟨k, t, hk, rfl, htl, HS, O⟩ := hrel
    by_cases hlt : k < s.length
    · have hb1 : (k : Int) < (s.length : Int) := by omega
      have hlt2 : k < t.length := by omega
      obtain ⟨r1, r2⟩ := O.byteCell k hlt2
      have SM := Lib.hid (fun (d : UInt8) (h : lw d = lw t[k]) => (small_set hlt2 h).trans HS.out)
      have HTL := Lib.hid htl
      have HFL := Lib.hid (flip_is (c := t[k]))
      generalize t[k] = c at r1 SM HFL
      clear htl hlt2
      have CS : (97 ≤ (c.toNat : Int) ∧ (c.toNat : Int) ≤ 122) ∨ (122 < (c.toNat : Int)) ∨ ((c.toNat : Int) < 97 ∧ 65 ≤ (c.toNat : Int) ∧ (c.toNat : Int) ≤ 90) ∨ ((c.toNat : Int) < 97 ∧ 90 < (c.toNat : Int)) ∨ (c.toNat : Int) < 65 := by omega
      rcases CS with ⟨a1, a2⟩ | a1 | ⟨a1, a2, a3⟩ | ⟨a1, a2⟩ | a1
      · obtain ⟨f1, f2⟩ := HFL.out (.inl ⟨a1, a2⟩)
        have F1 := Lib.hid f1
        have NX := Lib.hid (SM.out _ f2)
        clear f1 f2 HFL SM
        go_wp2_with fail
        · go_roundw
          case rel => exact ⟨k + 1, _, by omega, by go_num, by rw [List.length_set]; exact HTL.out, NX, by rw [F1.out]; exact O.setByte k _⟩
          case measure => simp [intOf]; omega
        · go_roundw
          case rel => exact ⟨k + 1, t, by omega, by go_num, HTL.out, HS, O⟩
          case measure => simp [intOf]; omega
      · clear HFL SM
        have a2 : ¬ (c.toNat : Int) ≤ 122 := by omega
        have a3 : ¬ (c.toNat : Int) ≤ 90 := by omega
        have a4 : 97 ≤ (c.toNat : Int) := by omega
        have a5 : 65 ≤ (c.toNat : Int) := by omega
        go_wp2_with fail
        all_goals
          go_roundw
          case rel => exact ⟨k + 1, t, by omega, by go_num, HTL.out, HS, O⟩
          case measure => simp [intOf]; omega
      · obtain ⟨f1, f2⟩ := HFL.out (.inr ⟨a2, a3⟩)
        have F1 := Lib.hid f1
        have NX := Lib.hid (SM.out _ f2)
        have a4 : ¬ 97 ≤ (c.toNat : Int) := by omega
        clear f1 f2 HFL SM
        go_wp2_with fail
        · go_roundw
          case rel => exact ⟨k + 1, _, by omega, by go_num, by rw [List.length_set]; exact HTL.out, NX, by rw [F1.out]; exact O.setByte k _⟩
          case measure => simp [intOf]; omega
        · go_roundw
          case rel => exact ⟨k + 1, t, by omega, by go_num, HTL.out, HS, O⟩
          case measure => simp [intOf]; omega
      · clear HFL SM
        have a3 : ¬ (c.toNat : Int) ≤ 90 := by omega
        have a4 : ¬ 97 ≤ (c.toNat : Int) := by omega
        have a5 : 65 ≤ (c.toNat : Int) := by omega
        go_wp2_with fail
        all_goals
          go_roundw
          case rel => exact ⟨k + 1, t, by omega, by go_num, HTL.out, HS, O⟩
          case measure => simp [intOf]; omega
      · clear HFL SM
        have a4 : ¬ 97 ≤ (c.toNat : Int) := by omega
        have a5 : ¬ 65 ≤ (c.toNat : Int) := by omega
        go_wp2_with fail
        all_goals
          go_roundw
          case rel => exact ⟨k + 1, t, by omega, by go_num, HTL.out, HS, O⟩
          case measure => simp [intOf]; omega
    · obtain rfl : k = s.length := by omega
      have hb1 : ¬ (s.length : Int) < (s.length : Int) := by omega
      have hcv := O.fromBytes cap
      rw [htl] at hcv
      have FIN : Hid (OtherPost s w (.returned (.string ⟨t.toArray⟩)) wr) := ⟨t, rfl, O.chg, HS.out⟩
      clear htl
      go_wp2
      go_ret
      exact FIN.out
theorem other_own {w0 w : World} {L : List Piece} (O : Own w0 w L) (s : List UInt8) (hs : s.length ≤ 10000000) (wh : Int) :
    Calls Tryd.prog 30 #[.string ⟨s.toArray⟩, .int .u64 wh] w fun e w' => ∃ t, e = .returned (.string ⟨t.toArray⟩) ∧ Own w0 w' L ∧ smallL t = smallL s :=
  (other_any s hs wh w).mono fun _ _ ⟨t, h1, h2, h3⟩ => ⟨t, h1, O.pure h2, h3⟩
end Go.Proofs.YtnkcanhkdfckmaaDoor
