/- mailroomlaw07: other. -/
import Derived.Test.YtehkdbgoeakgbaaDoorCmS
import Derived.Test.YtehkdbgoeakgbaaDoorCmLp
namespace Go.Proofs.YtehkdbgoeakgbaaDoor
set_option linter.all false
open Go.RowKit Go.Shelf

def flip7 (c : UInt8) : UInt8 := UInt8.ofNat (c.toNat ^^^ 32)
theorem flip7_is {c : UInt8} (h : 97 ≤ (c.toNat : Int) ∧ (c.toNat : Int) ≤ 122 ∨ 65 ≤ (c.toNat : Int) ∧ (c.toNat : Int) ≤ 90) : bits BinOp.xor IntKind.u8 (c.toNat : Int) 32 = ((flip7 c).toNat : Int) ∧ upC (flip7 c) = upC c := by
  have : ∀ n : Nat, n < 256 → (97 ≤ n ∧ n ≤ 122 ∨ 65 ≤ n ∧ n ≤ 90) → bits BinOp.xor IntKind.u8 (n : Int) 32 = ((UInt8.ofNat (n ^^^ 32)).toNat : Int) ∧ upC (UInt8.ofNat (n ^^^ 32)) = upC (UInt8.ofNat n) := by decide +kernel
  have h2 := this c.toNat (UInt8.toNat_lt c) (by omega)
  rw [UInt8.ofNat_toNat] at h2
  exact h2
theorem up_set {t : List UInt8} {k : Nat} (h : k < t.length) {d : UInt8} (hd : upC d = upC t[k]) : upL (t.set k d) = upL t := by
  unfold upL
  rw [List.map_set, hd]
  apply List.ext_getElem
  · simp
  · intro j h1 h2
    rw [List.getElem_set]
    split
    · rename_i e; subst e; simp
    · rfl
/-- letters otherwise, in the first m bytes -/
structure Turned (s : List UInt8) (m : Nat) (t : List UInt8) : Prop where
  len : t.length = s.length
  up : upL t = upL s
  rest : t.drop m = s.drop m
theorem Turned.set {s t : List UInt8} {m k : Nat} (h : Turned s m t) (hk : k < t.length) (hm : k < m) {d : UInt8} (hd : upC d = upC t[k]) : Turned s m (t.set k d) :=
  ⟨by rw [List.length_set]; exact h.len, (up_set hk hd).trans h.up, by rw [List.drop_set_of_lt (by omega)]; exact h.rest⟩
def OtherPost7 (w0 : World) (L : List Piece) (s : List UInt8) (m : Nat) (e : Ending) (w' : World) : Prop := ∃ t, e = .returned (.string ⟨t.toArray⟩) ∧ Own w0 w' L ∧ Turned s m t
set_option maxHeartbeats 4000000 in
theorem other7_own {w0 w : World} {L : List Piece} (O : Own w0 w L) (s : List UInt8) (hs : s.length ≤ 10000000) (wh : Int) (m : Nat) : Calls Tryd.prog 20 #[.string ⟨s.toArray⟩, .int .u64 wh, .int .i64 (m : Int)] w (OtherPost7 w0 L s m) := by
  obtain ⟨g, cap, W1, hcv, O1⟩ := O.toBytes s
  go_enter Tryd.func20, Tryd.ntmps20
  go_wp2_with fail
  go_loopw [8] (fun iv wr => ∃ (k : Nat) (t : List UInt8), k ≤ s.length ∧ iv = .int .i64 k ∧ t.length = s.length ∧ Hid (Turned s m t) ∧ Own w0 wr (bytes g t :: L)) (fun iv _ => s.length - (intOf iv).toNat)
  case atStart => exact ⟨0, s, by omega, rfl, rfl, ⟨rfl, rfl, rfl⟩, O1⟩
  case round =>
    clear O1 hcv O
    obtain ⟨k, t, hk, rfl, htl, HS, O⟩ := hrel
    by_cases hlt : k < s.length
    · have hb1 : (k : Int) < (s.length : Int) := by omega
      by_cases hkm : k < m
      · have hb2 : (k : Int) < (m : Int) := by omega
        have hlt2 : k < t.length := by omega
        obtain ⟨r1, r2⟩ := O.byteCell k hlt2
        have SM := Lib.hid (fun (d : UInt8) (h : upC d = upC t[k]) => HS.out.set hlt2 hkm h)
        have HTL := Lib.hid htl
        have HFL := Lib.hid (flip7_is (c := t[k]))
        generalize t[k] = c at r1 SM HFL
        clear htl hlt2
        have CS : (97 ≤ (c.toNat : Int) ∧ (c.toNat : Int) ≤ 122) ∨ (122 < (c.toNat : Int)) ∨ ((c.toNat : Int) < 97 ∧ 65 ≤ (c.toNat : Int) ∧ (c.toNat : Int) ≤ 90) ∨ ((c.toNat : Int) < 97 ∧ 90 < (c.toNat : Int)) ∨ (c.toNat : Int) < 65 := by omega
        rcases CS with ⟨a1, a2⟩ | a1 | ⟨a1, a2, a3⟩ | ⟨a1, a2⟩ | a1
        · obtain ⟨f1, f2⟩ := HFL.out (.inl ⟨a1, a2⟩)
          have F1 := Lib.hid f1
          have NX := Lib.hid (SM.out _ f2)
          clear f1 f2 HFL SM
          go_wp2_with fail
          · go_roundw
            case rel => exact ⟨k + 1, _, by omega, by go_num, by rw [List.length_set]; exact HTL.out, NX, by rw [F1.out]; exact O.setByte k _⟩
            case measure => simp [intOf]; omega
          · go_roundw
            case rel => exact ⟨k + 1, t, by omega, by go_num, HTL.out, HS, O⟩
            case measure => simp [intOf]; omega
        · clear HFL SM
          have a2 : ¬ (c.toNat : Int) ≤ 122 := by omega
          have a3 : ¬ (c.toNat : Int) ≤ 90 := by omega
          have a4 : 97 ≤ (c.toNat : Int) := by omega
          have a5 : 65 ≤ (c.toNat : Int) := by omega
          go_wp2_with fail
          all_goals
            go_roundw
            case rel => exact ⟨k + 1, t, by omega, by go_num, HTL.out, HS, O⟩
            case measure => simp [intOf]; omega
        · obtain ⟨f1, f2⟩ := HFL.out (.inr ⟨a2, a3⟩)
          have F1 := Lib.hid f1
          have NX := Lib.hid (SM.out _ f2)
          have a4 : ¬ 97 ≤ (c.toNat : Int) := by omega
          clear f1 f2 HFL SM
          go_wp2_with fail
          · go_roundw
            case rel => exact ⟨k + 1, _, by omega, by go_num, by rw [List.length_set]; exact HTL.out, NX, by rw [F1.out]; exact O.setByte k _⟩
            case measure => simp [intOf]; omega
          · go_roundw
            case rel => exact ⟨k + 1, t, by omega, by go_num, HTL.out, HS, O⟩
            case measure => simp [intOf]; omega
        · clear HFL SM
          have a3 : ¬ (c.toNat : Int) ≤ 90 := by omega
          have a4 : ¬ 97 ≤ (c.toNat : Int) := by omega
          have a5 : 65 ≤ (c.toNat : Int) := by omega
          go_wp2_with fail
          all_goals
            go_roundw
            case rel => exact ⟨k + 1, t, by omega, by go_num, HTL.out, HS, O⟩
            case measure => simp [intOf]; omega
        · clear HFL SM
          have a4 : ¬ 97 ≤ (c.toNat : Int) := by omega
          have a5 : ¬ 65 ≤ (c.toNat : Int) := by omega
          go_wp2_with fail
          all_goals
            go_roundw
            case rel => exact ⟨k + 1, t, by omega, by go_num, HTL.out, HS, O⟩
            case measure => simp [intOf]; omega
      · have hb2 : ¬ (k : Int) < (m : Int) := by omega
        have hcv := O.fromBytes cap
        rw [htl] at hcv
        have FIN : Hid (OtherPost7 w0 L s m (.returned (.string ⟨t.toArray⟩)) wr) := ⟨t, rfl, O.drop, HS.out⟩
        clear htl
        go_wp2
        go_ret
        exact FIN.out
    · obtain rfl : k = s.length := by omega
      have hb1 : ¬ (s.length : Int) < (s.length : Int) := by omega
      have hcv := O.fromBytes cap
      rw [htl] at hcv
      have FIN : Hid (OtherPost7 w0 L s m (.returned (.string ⟨t.toArray⟩)) wr) := ⟨t, rfl, O.drop, HS.out⟩
      clear htl
      go_wp2
      go_ret
      exact FIN.out
theorem up_word : ∀ v : Nat, v ≤ 6 → upL (wordL v) = wordL v := by decide
/-- letters of the verb's word otherwise: the same command -/
theorem turned_parse {c : Cm} (h : mayCm c = true) {t : List UInt8} (ht : Turned (lineCm c) (wordL c.verb).length t) : parseCm t = some c := by
  obtain ⟨r, hr⟩ : ∃ r, lineCm c = wordL c.verb ++ r := ⟨_, rfl⟩
  have h1 : t.drop (wordL c.verb).length = r := by rw [ht.rest, hr, List.drop_left]
  have h2 : upL (t.take (wordL c.verb).length) = wordL c.verb := by
    have : upL (t.take (wordL c.verb).length) = (upL t).take (wordL c.verb).length := by unfold upL; rw [List.map_take]
    rw [this, ht.up, hr]
    have : upL (wordL c.verb ++ r) = upL (wordL c.verb) ++ upL r := by simp [upL]
    rw [this, up_word _ (may_verb h).2, List.take_left]
  have := parse_other h h2 r hr
  rwa [← h1, List.take_append_drop] at this
end Go.Proofs.YtehkdbgoeakgbaaDoor
