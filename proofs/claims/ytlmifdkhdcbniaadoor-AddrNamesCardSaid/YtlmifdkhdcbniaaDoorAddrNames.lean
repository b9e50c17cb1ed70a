/- AddrNames: the walk. -/
import Derived.Test.YtlmifdkhdcbniaaDoorAdZ
import Derived.Test.YtlmifdkhdcbniaaDoorAddrBack
namespace Go.Proofs.YtlmifdkhdcbniaaDoor
set_option linter.all false
open Go.RowKit

def a64 : List UInt8 := (List.replicate 64 [97]).flatten
def a65 : List UInt8 := (List.replicate 65 [97]).flatten
def x64 : List UInt8 := a64 ++ [64, 98, 46, 101, 120, 97, 109, 112, 108, 101]
def x65 : List UInt8 := a65 ++ [64, 98, 46, 101, 120, 97, 109, 112, 108, 101]
theorem a64_len : a64.length = 64 := by kernel_rfl
theorem a65_len : a65.length = 65 := by kernel_rfl
def g7 : List (List UInt8) := [[33, 35, 36, 37, 38, 39, 42, 43, 45, 47, 61, 63, 94, 95, 123, 124, 125, 126, 96, 64, 98, 46, 101, 120, 97, 109, 112, 108, 101], [97, 46, 98, 46, 99, 64, 98], [34, 34, 64, 98, 46, 101, 120, 97, 109, 112, 108, 101], [34, 64, 34, 64, 98, 46, 101, 120, 97, 109, 112, 108, 101], [34, 92, 34, 92, 92, 34, 64, 98, 46, 101, 120, 97, 109, 112, 108, 101], x64, [65, 64, 66, 46, 69, 120, 97, 109, 112, 108, 101]]
def b16 : List (List UInt8) := [[], [97], [97, 64, 98, 64, 99, 46, 101, 120, 97, 109, 112, 108, 101], [97, 46, 64, 98, 46, 101, 120, 97, 109, 112, 108, 101], [34, 97, 92, 34, 64, 98, 46, 101, 120, 97, 109, 112, 108, 101], [34, 97, 34, 98, 34, 64, 98, 46, 101, 120, 97, 109, 112, 108, 101], [34, 97, 127, 34, 64, 98, 46, 101, 120, 97, 109, 112, 108, 101], [34, 97, 9, 98, 34, 64, 98, 46, 101, 120, 97, 109, 112, 108, 101], [40, 97, 41, 64, 98, 46, 101, 120, 97, 109, 112, 108, 101], [97, 92, 98, 64, 98, 46, 101, 120, 97, 109, 112, 108, 101], x65, [97, 64, 45, 98, 46, 101, 120, 97, 109, 112, 108, 101], [97, 64, 98, 46, 46, 101, 120, 97, 109, 112, 108, 101], [97, 64, 91, 49, 46, 50, 46, 51, 46, 52, 93], [233, 64, 98, 46, 101, 120, 97, 109, 112, 108, 101], [97, 64, 98, 46, 101, 120, 97, 109, 112, 108, 101, 32]]
def u8 : List (List UInt8) := [[], [60], [62], [97, 64, 98, 46, 101, 120, 97, 109, 112, 108, 101], [60, 97, 64, 98, 46, 101, 120, 97, 109, 112, 108, 101], [97, 64, 98, 46, 101, 120, 97, 109, 112, 108, 101, 62], [60, 60, 97, 64, 98, 46, 101, 120, 97, 109, 112, 108, 101, 62, 62], [60, 32, 62]]
theorem g7_all : (g7.all fun s => parseB s && decide (s.length ≤ 1000)) = true := by kernel_rfl
theorem b16_all : (b16.all fun s => !parseB s && ((s.isEmpty || !unB (60 :: (s ++ [62]))) && decide (s.length ≤ 1000))) = true := by kernel_rfl
theorem u8_all : (u8.all fun s => !unB s && decide (s.length ≤ 1000)) = true := by kernel_rfl
theorem g7_at (k : Nat) (h : k < g7.length) : parseB g7[k] = true ∧ g7[k].length ≤ 1000 := by
  have := List.all_eq_true.1 g7_all _ (List.getElem_mem h)
  simpa using this
theorem b16_at (k : Nat) (h : k < b16.length) : parseB b16[k] = false ∧ (b16[k].isEmpty = true ∨ unB (60 :: (b16[k] ++ [62])) = false) ∧ b16[k].length ≤ 1000 := by
  have := List.all_eq_true.1 b16_all _ (List.getElem_mem h)
  simpa using this
theorem u8_at (k : Nat) (h : k < u8.length) : unB u8[k] = false ∧ u8[k].length ≤ 1000 := by
  have := List.all_eq_true.1 u8_all _ (List.getElem_mem h)
  simpa using this
set_option maxRecDepth 100000 in
set_option maxHeartbeats 8000000 in
theorem addrNames_walk {w : World} (K : Kinds w) (mx : Int) (hmx : MaxLenAt w mx) :
    Calls Tryd.prog 8 #[] w fun e w' => e = .returned (.bool true) ∧ Below w.heap.size w w' := by
  have O := Own.start w
  have HM := Lib.hid hmx
  clear hmx
  have XA := a64_len
  have X1 : a64 ++ [64, 98, 46, 101, 120, 97, 109, 112, 108, 101] = x64 := rfl
  have YA := a65_len
  have Y1 : a65 ++ [64, 98, 46, 101, 120, 97, 109, 112, 108, 101] = x65 := rfl
  have G : Hid (g7 = [[33, 35, 36, 37, 38, 39, 42, 43, 45, 47, 61, 63, 94, 95, 123, 124, 125, 126, 96, 64, 98, 46, 101, 120, 97, 109, 112, 108, 101], [97, 46, 98, 46, 99, 64, 98], [34, 34, 64, 98, 46, 101, 120, 97, 109, 112, 108, 101], [34, 64, 34, 64, 98, 46, 101, 120, 97, 109, 112, 108, 101], [34, 92, 34, 92, 92, 34, 64, 98, 46, 101, 120, 97, 109, 112, 108, 101], x64, [65, 64, 66, 46, 69, 120, 97, 109, 112, 108, 101]]) := rfl
  have GB : Hid (b16 = [[], [97], [97, 64, 98, 64, 99, 46, 101, 120, 97, 109, 112, 108, 101], [97, 46, 64, 98, 46, 101, 120, 97, 109, 112, 108, 101], [34, 97, 92, 34, 64, 98, 46, 101, 120, 97, 109, 112, 108, 101], [34, 97, 34, 98, 34, 64, 98, 46, 101, 120, 97, 109, 112, 108, 101], [34, 97, 127, 34, 64, 98, 46, 101, 120, 97, 109, 112, 108, 101], [34, 97, 9, 98, 34, 64, 98, 46, 101, 120, 97, 109, 112, 108, 101], [40, 97, 41, 64, 98, 46, 101, 120, 97, 109, 112, 108, 101], [97, 92, 98, 64, 98, 46, 101, 120, 97, 109, 112, 108, 101], x65, [97, 64, 45, 98, 46, 101, 120, 97, 109, 112, 108, 101], [97, 64, 98, 46, 46, 101, 120, 97, 109, 112, 108, 101], [97, 64, 91, 49, 46, 50, 46, 51, 46, 52, 93], [233, 64, 98, 46, 101, 120, 97, 109, 112, 108, 101], [97, 64, 98, 46, 101, 120, 97, 109, 112, 108, 101, 32]]) := rfl
  have GU : Hid (u8 = [[], [60], [62], [97, 64, 98, 46, 101, 120, 97, 109, 112, 108, 101], [60, 97, 64, 98, 46, 101, 120, 97, 109, 112, 108, 101], [97, 64, 98, 46, 101, 120, 97, 109, 112, 108, 101, 62], [60, 60, 97, 64, 98, 46, 101, 120, 97, 109, 112, 108, 101, 62, 62], [60, 32, 62]]) := rfl
  have GA := Lib.hid g7_at
  have GBA := Lib.hid b16_at
  have GUA := Lib.hid u8_at
  have GL : Hid (g7.length = 7) := by unfold Hid; rfl
  have GBL : Hid (b16.length = 16) := by unfold Hid; rfl
  have GUL : Hid (u8.length = 8) := by unfold Hid; rfl
  go_enter Tryd.func8, Tryd.ntmps8
  go_wp2_with fail
  refine (works4_own K O).mono ?_
  clear O
  rintro e w1 ⟨rfl, O⟩
  go_wp2_with fail
  refine (copies_any [97] 64 (by decide) (by decide) _).mono ?_
  rintro e w2 ⟨rfl, rfl⟩
  rw [show (List.replicate 64 [97]).flatten = a64 from rfl]
  generalize g7 = l7 at G GA GL
  generalize b16 = l16 at GB GBA GBL
  generalize u8 = l8 at GU GUA GUL
  generalize x64 = y64 at X1 G
  generalize x65 = y65 at Y1 GB
  generalize a64 = z64 at XA X1 ⊢
  have O2 := O.newBox (l7.map str).toArray 9
  rw [G.out] at O2
  go_wp2_with fail
  go_loopw [22] (fun iv wr => ∃ k : Nat, k ≤ 7 ∧ iv = .int .i64 k ∧ Own w wr [box w1.heap.size (l7.map str).toArray 9]) (fun iv _ => 7 - (intOf iv).toNat)
  case atStart => exact ⟨0, by omega, rfl, by rw [G.out]; exact O2⟩
  case round =>
    clear O O2
    obtain ⟨k, hk, rfl, O⟩ := hrel
    by_cases hlt : k < 7
    · have hkl : k < l7.length := by rw [GL.out]; exact hlt
      have c := O.litCell k hkl
      have hb1 : (k : Int) < 7 := by omega
      have B1 := Lib.hid (GA.out k hkl)
      generalize l7[k] = s at c B1
      have PL := pathL_yes B1.out.1
      have SL := B1.out.2
      go_wp2_with fail
      refine (amay_is K O B1.out.1 (by omega)).mono ?_
      clear O c
      rintro e w3 ⟨rfl, O⟩
      go_wp2_with fail
      refine (path_is K O PL (by omega)).mono ?_
      clear O
      rintro e w4 ⟨rfl, O⟩
      have n1 : (60 :: (s ++ [62]) != 60 :: (s ++ [62])) = false := by simp
      go_wp2
      go_roundw
      case rel => exact ⟨k + 1, by omega, by go_num, O⟩
      case measure => simp [intOf]; omega
    have hb1 : ¬ (k : Int) < 7 := by omega
    replace O := O.drop
    go_wp2_with fail
    refine (copies_any [97] 65 (by decide) (by decide) _).mono ?_
    rintro e w2 ⟨rfl, rfl⟩
    rw [show (List.replicate 65 [97]).flatten = a65 from rfl]
    generalize a65 = z65 at YA Y1 ⊢
    have O2 := O.newBox (l16.map str).toArray 9
    rw [GB.out] at O2
    clear G GA GL X1 XA
    go_wp2_with fail
    go_loopw [42] (fun iv wr' => ∃ k : Nat, k ≤ 16 ∧ iv = .int .i64 k ∧ Own w wr' [box wr.heap.size (l16.map str).toArray 9]) (fun iv _ => 16 - (intOf iv).toNat)
    case atStart => exact ⟨0, by omega, rfl, by rw [GB.out]; exact O2⟩
    case round =>
      clear O O2 hk hlt hb1
      obtain ⟨k, hk, rfl, O⟩ := hrel
      by_cases hlt : k < 16
      · have hkl : k < l16.length := by rw [GBL.out]; exact hlt
        have c := O.litCell k hkl
        have hb1 : (k : Int) < 16 := by omega
        have B1 := Lib.hid (GBA.out k hkl)
        generalize l16[k] = s at c B1
        have SL := B1.out.2.2
        go_wp2_with fail
        refine (parse_is K O (parseV_false B1.out.1) (by omega)).mono ?_
        clear O c
        rintro e w3 ⟨rfl, O⟩
        rcases Bool.eq_false_or_eq_true s.isEmpty with hs | hs
        · have hs2 : s = [] := by simpa using hs
          subst hs2
          clear hs
          go_wp2_with fail
          refine (unpath_is K O (s := [60, 62]) (v := .tuple #[.string ⟨#[]⟩, .int .i64 0]) (by kernel_rfl) (by decide)).mono ?_
          clear O
          rintro e w4 ⟨rfl, O⟩
          go_wp2_with fail
          refine (amay_is K O B1.out.1 (by simp)).mono ?_
          clear O
          rintro e w4 ⟨rfl, O⟩
          go_wp2
          go_roundw
          case rel => exact ⟨k + 1, by omega, by go_num, O⟩
          case measure => simp [intOf]; omega
        · have hu : unB (60 :: (s ++ [62])) = false := by rcases B1.out.2.1 with h | h; (rw [hs] at h; cases h); exact h
          have UV := unV_no hu
          have PN := pathL_no hs B1.out.1
          clear hu
          have LU : (60 :: (s ++ [62])).length ≤ 2000 := by simp; omega
          go_wp2_with fail
          refine (unpath_is K O UV (by omega)).mono ?_
          clear O UV LU
          rintro e w4 ⟨rfl, O⟩
          go_wp2_with fail
          refine (amay_is K O B1.out.1 (by omega)).mono ?_
          clear O
          rintro e w4 ⟨rfl, O⟩
          go_wp2_with fail
          refine (path_is K O PN (by omega)).mono ?_
          clear O PN
          rintro e w4 ⟨rfl, O⟩
          go_wp2
          go_roundw
          case rel => exact ⟨k + 1, by omega, by go_num, O⟩
          case measure => simp [intOf]; omega
      have hb1 : ¬ (k : Int) < 16 := by omega
      replace O := O.drop
      have O2 := O.newBox (l8.map str).toArray 9
      rw [GU.out] at O2
      clear GB GBA GBL Y1 YA
      go_wp2_with fail
      go_loopw [93] (fun iv wr'' => ∃ k : Nat, k ≤ 8 ∧ iv = .int .i64 k ∧ Own w wr'' [box wr.heap.size (l8.map str).toArray 9]) (fun iv _ => 8 - (intOf iv).toNat)
      case atStart => exact ⟨0, by omega, rfl, by rw [GU.out]; exact O2⟩
      case round =>
        clear O O2 hk hlt hb1
        obtain ⟨k, hk, rfl, O⟩ := hrel
        by_cases hlt : k < 8
        · have hkl : k < l8.length := by rw [GUL.out]; exact hlt
          have c := O.litCell k hkl
          have hb1 : (k : Int) < 8 := by omega
          have B1 := Lib.hid (GUA.out k hkl)
          generalize l8[k] = s at c B1
          go_wp2_with fail
          refine (unpath_is K O (unV_no B1.out.1) (by have := B1.out.2; omega)).mono ?_
          clear O c
          rintro e w3 ⟨rfl, O⟩
          go_wp2
          go_roundw
          case rel => exact ⟨k + 1, by omega, by go_num, O⟩
          case measure => simp [intOf]; omega
        have hb1 : ¬ (k : Int) < 8 := by omega
        replace O := O.drop
        clear GU GUA GUL
        go_wp2_with fail
        refine (path_is K O (s := []) (p := [60, 62]) (by kernel_rfl) (by decide)).mono ?_
        clear O
        rintro e w5 ⟨rfl, O⟩
        go_wp2_with fail
        refine (show_is K O (l := [97]) (d := [98, 46, 101, 120, 97, 109, 112, 108, 101]) (r := [97, 64, 98, 46, 101, 120, 97, 109, 112, 108, 101]) (by kernel_rfl) (by decide) (by decide)).mono ?_
        clear O
        rintro e w5 ⟨rfl, O⟩
        go_wp2_with fail
        refine (show_is K O (l := [97]) (d := [66, 46, 101, 120, 97, 109, 112, 108, 101]) (r := []) (by kernel_rfl) (by decide) (by decide)).mono ?_
        clear O
        rintro e w5 ⟨rfl, O⟩
        go_wp2_with fail
        refine (show_is K O (l := [97, 64, 98]) (d := [99, 46, 101, 120, 97, 109, 112, 108, 101]) (r := []) (by kernel_rfl) (by decide) (by decide)).mono ?_
        clear O
        rintro e w5 ⟨rfl, O⟩
        go_wp2_with fail
        refine (show_is K O (l := []) (d := [99, 46, 101, 120, 97, 109, 112, 108, 101]) (r := []) (by kernel_rfl) (by decide) (by decide)).mono ?_
        clear O
        rintro e w5 ⟨rfl, O⟩
        go_wp2_with fail
        refine (same_is K O (a := [97, 64, 66, 46, 101, 120, 97, 109, 112, 108, 101]) (b := [97, 64, 98, 46, 101, 120, 97, 109, 112, 108, 101]) (r := true) (by kernel_rfl) (by decide) (by decide)).mono ?_
        clear O
        rintro e w5 ⟨rfl, O⟩
        go_wp2_with fail
        refine (same_is K O (a := [65, 64, 98, 46, 101, 120, 97, 109, 112, 108, 101]) (b := [97, 64, 98, 46, 101, 120, 97, 109, 112, 108, 101]) (r := false) (by kernel_rfl) (by decide) (by decide)).mono ?_
        clear O
        rintro e w5 ⟨rfl, O⟩
        go_wp2_with fail
        refine (same_is K O (a := []) (b := []) (r := false) (by kernel_rfl) (by decide) (by decide)).mono ?_
        clear O
        rintro e w5 ⟨rfl, O⟩
        go_wp2_with fail
        refine (same_is K O (a := [97]) (b := [97]) (r := false) (by kernel_rfl) (by decide) (by decide)).mono ?_
        clear O
        rintro e w5 ⟨rfl, O⟩
        go_wp2_with fail
        refine (mails_own K HM.out O).mono ?_
        clear O
        rintro e w5 ⟨rfl, O⟩
        go_wp2
        go_ret
        exact ⟨rfl, O.below⟩
end Go.Proofs.YtlmifdkhdcbniaaDoor
