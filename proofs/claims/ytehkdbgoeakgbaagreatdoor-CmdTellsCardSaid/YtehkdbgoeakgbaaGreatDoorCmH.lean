/- cmd: strings.Cut at one byte; path; told, one by one. -/
import Derived.Test.YtehkdbgoeakgbaaGreatDoorCmG
import Derived.Test.YtehkdbgoeakgbaaGreatDoorCmBa
namespace Go.Proofs.YtehkdbgoeakgbaaGreatDoor
set_option linter.all false
open Go.RowKit Go.Shelf
attribute [local go_sem] Oper.semAt_some

def hdP (p : UInt8) (l : List UInt8) : List UInt8 := l.takeWhile fun c => !(c == p)
def tlP (p : UInt8) (l : List UInt8) : List UInt8 := l.drop ((hdP p l).length + 1)
def hasP (p : UInt8) (l : List UInt8) : Bool := l.contains p
theorem hdP_of {p : UInt8} {a b : List UInt8} (h : p ∉ a) : hdP p (a ++ p :: b) = a ∧ tlP p (a ++ p :: b) = b ∧ hasP p (a ++ p :: b) = true := by
  have e : hdP p (a ++ p :: b) = a := by
    unfold hdP
    rw [List.takeWhile_append_of_pos (by intro c hc; simp; rintro rfl; exact h hc)]
    simp
  refine ⟨e, ?_, by simp [hasP]⟩
  unfold tlP
  rw [e]
  simp
theorem hdP_none {p : UInt8} {a : List UInt8} (h : p ∉ a) : hdP p a = a ∧ tlP p a = [] ∧ hasP p a = false := by
  have e : hdP p a = a := by
    have := List.takeWhile_append_of_pos (l₁ := a) (l₂ := []) (p := fun c : UInt8 => !(c == p)) (by intro c hc; simp; rintro rfl; exact h hc)
    simpa [hdP] using this
  exact ⟨e, by unfold tlP; rw [e]; simp, by simp [hasP, h]⟩
theorem byte_place (p : UInt8) (l : List UInt8) : (Lib.indexByte l p < 0 ∧ p ∉ l) ∨ ∃ o : Nat, o < l.length ∧ Lib.indexByte l p = o ∧ l.take o = hdP p l ∧ l.drop (o + 1) = tlP p l ∧ hasP p l = true := by
  by_cases h : Lib.indexByte l p = -1
  · left
    refine ⟨by omega, fun hm => ?_⟩
    obtain ⟨k, hk, e⟩ := List.mem_iff_getElem.1 hm
    exact Lib.indexByte_none h k (by rw [List.getElem?_eq_getElem hk, e])
  · right
    have hg := Lib.indexByte_ge l p
    obtain ⟨o, ho⟩ : ∃ o : Nat, Lib.indexByte l p = o := ⟨(Lib.indexByte l p).toNat, by omega⟩
    obtain ⟨h1, h2⟩ := Lib.indexByte_some ho
    have hlt : o < l.length := by
      rcases Nat.lt_or_ge o l.length with h' | h'
      · exact h'
      · rw [List.getElem?_eq_none h'] at h1; cases h1
    have e : l = l.take o ++ p :: l.drop (o + 1) := by
      have h3 : l[o] = p := by rw [List.getElem?_eq_getElem hlt] at h1; simpa using h1
      have := (List.take_append_drop o l).symm
      rw [List.drop_eq_getElem_cons hlt, h3] at this
      exact this
    have hn : p ∉ l.take o := by
      intro hm
      obtain ⟨k, hk, hx⟩ := List.mem_iff_getElem.1 hm
      have hko : k < o := by simp at hk; omega
      refine h2 k hko ?_
      rw [List.getElem_take] at hx
      rw [List.getElem?_eq_getElem (by omega), hx]
    obtain ⟨p1, p2, p3⟩ := hdP_of (b := l.drop (o + 1)) hn
    rw [← e] at p1 p2 p3
    exact ⟨o, hlt, ho, p1.symm, p2.symm, p3⟩
theorem cutliteP_any (p : UInt8) (l : List UInt8) (w : World) (hs : l.length ≤ 1000000000) :
    Calls Tryz.prog 78 #[.string ⟨l.toArray⟩, .string ⟨#[p]⟩] w fun e w' => e = .returned (.tuple #[.string ⟨(hdP p l).toArray⟩, .string ⟨(tlP p l).toArray⟩, .bool (hasP p l)]) ∧ Chg [] w w' := by
  rcases byte_place p l with ⟨h, hn⟩ | ⟨o, h1, h2, h3, h4, h5⟩
  · obtain ⟨e1, e2, e3⟩ := hdP_none hn
    rw [e1, e2, e3]
    clear e1 e2 e3 hn
    generalize hi : Lib.indexByte l p = i at h
    have HI := Lib.hid hi; clear hi
    go_enter Tryz.func78, Tryz.ntmps78
    go_wp2_with fail
    refine (Tryz.stringslite_Index_one ⟨l.toArray⟩ p _).mono ?_
    rw [HI.out]
    rintro e w' ⟨rfl, rfl⟩
    go_wp2_with fail
    go_returns
    exact ⟨rfl, Chg.refl _ _⟩
  · rw [h5]
    have H2 := Lib.hid h2; have H3 := Lib.hid h3; have H4 := Lib.hid h4
    clear h2 h3 h4 h5
    have ho : (0 : Int) ≤ (o : Int) := by omega
    have h1' : (o : Int) < (l.length : Int) := by omega
    have s1 : IntKind.i64.wrap ((o : Int) + 1) = (o : Int) + 1 := IntWalk.i64_in _ (by omega)
    go_enter Tryz.func78, Tryz.ntmps78
    go_wp2_with fail
    refine (Tryz.stringslite_Index_one ⟨l.toArray⟩ p _).mono ?_
    rw [H2.out]
    rintro e w' ⟨rfl, rfl⟩
    clear s1
    go_wp2_with fail
    go_quiet (fail)
    go_wp2_with fail
    rw [H3.out, H4.out]
    go_returns
    exact ⟨rfl, (Chg.refl _ _).drewN _⟩
theorem cutP_any (p : UInt8) (l : List UInt8) (w : World) (hs : l.length ≤ 1000000000) :
    Calls Tryz.prog 59 #[.string ⟨l.toArray⟩, .string ⟨#[p]⟩] w fun e w' => e = .returned (.tuple #[.string ⟨(hdP p l).toArray⟩, .string ⟨(tlP p l).toArray⟩, .bool (hasP p l)]) ∧ Chg [] w w' := by
  go_enter Tryz.func59, Tryz.ntmps59
  go_wp2_with fail
  refine (cutliteP_any p l _ hs).mono ?_
  rintro e w' ⟨rfl, ch⟩
  go_wp2_with fail
  go_returns
  exact ⟨rfl, ch⟩
/-- the path a text begins by, as the program tells it -/
def pathV (s : List UInt8) : Value := match pathAt s with
  | some i => .tuple #[.string ⟨(unL (s.take (i + 1))).toArray⟩, .string ⟨(s.drop (i + 1)).toArray⟩, .bool true]
  | none => .tuple #[.string ⟨#[]⟩, .string ⟨#[]⟩, .bool false]
theorem un_last {s : List UInt8} {k : Nat} (h : k < s.length) (hc : ¬ s[k] = 62) : unB (s.take (k + 1)) = false := by
  cases hu : unB (s.take (k + 1)) with
  | false => rfl
  | true =>
    obtain ⟨u1, -⟩ := un_form hu
    rw [List.take_succ_eq_append_getElem h] at u1
    have := congrArg List.getLast? u1
    rw [List.getLast?_append, show (60 :: (unL (s.take k ++ [s[k]]) ++ [62]) : List UInt8) = (60 :: unL (s.take k ++ [s[k]])) ++ [62] from rfl, List.getLast?_append] at this
    simp at this
    exact absurd this hc
set_option maxHeartbeats 2000000 in
theorem path7_own {w0 w : World} {L : List Piece} (K : Kinds w0) (O : Own w0 w L) (s : List UInt8) (hs : s.length ≤ 10000000) :
    Calls Tryz.prog 35 #[.string ⟨s.toArray⟩] w fun e w' => e = .returned (pathV s) ∧ Own w0 w' L := by
  obtain ⟨r, hr⟩ : ∃ r, r = pathV s := ⟨_, rfl⟩
  rw [← hr]
  have HR := Lib.hid hr
  clear hr
  go_enter Tryz.func35, Tryz.ntmps35
  go_wp2_with fail
  go_loopw [10] (fun iv wr => ∃ k : Nat, k ≤ s.length ∧ iv = .int .i64 k ∧ Hid (∀ j, j < k → unB (s.take (j + 1)) = false) ∧ Own w0 wr L) (fun iv _ => s.length - (intOf iv).toNat)
  case atStart => exact ⟨0, by omega, rfl, (show Hid _ from fun j hj => by omega), O⟩
  case round =>
    clear O
    obtain ⟨k, hk, rfl, HA, O⟩ := hrel
    by_cases hlt : k < s.length
    · have hb1 : (k : Int) < (s.length : Int) := by omega
      have hkI : (0 : Int) ≤ (k : Int) := by omega
      have NX : Hid (unB (s.take (k + 1)) = false → ∀ j, j < k + 1 → unB (s.take (j + 1)) = false) := fun h j hj => by
        rcases Nat.lt_or_ge j k with q | q
        · exact HA.out j q
        · rw [show j = k by omega]; exact h
      by_cases hc : s[k] = 62
      · have hc' : ((s[k].toNat : Int) != 62) = false := by rw [hc]; rfl
        have sb := run_subTo s (k + 1) (by omega)
        have sbf := run_subFrom s (k + 1) (by omega)
        rw [show ((k + 1 : Nat) : Int) = (k : Int) + 1 by omega] at sb sbf
        have UN := unpath_own K O (s.take (k + 1)) (by rw [List.length_take]; omega)
        have ls1 : (k : Int) + 1 ≤ (s.length : Int) := by omega
        have s1 : IntKind.i64.wrap ((k : Int) + 1) = (k : Int) + 1 := IntWalk.i64_in _ (by omega)
        have SBF := Lib.hid sbf
        have S1 := Lib.hid s1
        clear sbf s1
        cases hu : unB (s.take (k + 1))
        · rw [unV_no hu] at UN
          have NX2 := Lib.hid (NX.out hu)
          clear NX HA hu
          go_wp2_with fail
          refine UN.mono ?_
          clear UN O sb
          rintro e w1 ⟨rfl, O⟩
          go_wp2_with fail
          go_roundw
          case rel => exact ⟨k + 1, by omega, by go_num, NX2, O⟩
          case measure => simp [intOf]; omega
        · rw [unV_yes hu] at UN
          have R : Hid (r = .tuple #[.string ⟨(unL (s.take (k + 1))).toArray⟩, .string ⟨(s.drop (k + 1)).toArray⟩, .bool true]) := by
            unfold Hid; rw [HR.out]; unfold pathV; rw [pathAt_is hlt hu]
          clear NX HA hu HR
          go_wp2_with fail
          refine UN.mono ?_
          clear UN O sb
          rintro e w1 ⟨rfl, O⟩
          go_wp2_with fail
          have sbf := SBF.out
          have s1 := S1.out
          go_quiet (fail)
          clear s1 sbf
          go_wp2
          go_returns
          exact ⟨congrArg Ending.returned R.out.symm, O.drewN _⟩
      · have hc' : ((s[k].toNat : Int) != 62) = true := by
          simp only [bne_iff_ne, ne_eq]
          intro h
          apply hc
          apply UInt8.toNat_inj.1
          have : s[k].toNat = 62 := by omega
          rw [this]; rfl
        have NX2 := Lib.hid (NX.out (un_last hlt hc))
        clear NX HA hc
        go_wp2_with fail
        go_roundw
        case rel => exact ⟨k + 1, by omega, by go_num, NX2, O⟩
        case measure => simp [intOf]; omega
    · obtain rfl : k = s.length := by omega
      have R : Hid (r = .tuple #[.string ⟨#[]⟩, .string ⟨#[]⟩, .bool false]) := by
        unfold Hid; rw [HR.out]; unfold pathV
        have : pathAt s = none := by
          unfold pathAt
          rw [List.find?_eq_none]
          intro j hj
          rw [HA.out j (List.mem_range.1 hj)]; simp
        rw [this]
      clear HA HR
      go_wp2
      go_returns
      exact ⟨congrArg Ending.returned R.out.symm, O⟩
end Go.Proofs.YtehkdbgoeakgbaaGreatDoor
