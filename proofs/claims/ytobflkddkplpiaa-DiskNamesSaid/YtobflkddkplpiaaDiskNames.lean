/- DiskNames: the walk. Printed by chain.py. -/
import Derived.Test.YtobflkddkplpiaaDiskK
namespace Go.Proofs.Ytobflkddkplpiaa
set_option linter.all false
open Go.RowKit Go.Maps
def shortS : List UInt8 := List.replicate 127 1
def zA : List UInt8 := List.replicate 127 122
def y0 : Dk := Dk.new 1024
def y1 : Dk := y0.fail 2
def y2 : Dk := (y1.write 3 (fullS 1)).1
def y3 : Dk := (y2.write 2 (fullS 2)).1
def y4 : Dk := y3.fail 5
def y5 : Dk := (y4.boot [-1, 129, 7]).1
theorem y0_fit : y0.Fit 0 := Fit.new (by omega)
theorem y1_fit : y1.Fit 0 := y0_fit.fail (by omega)
theorem y2_fit : y2.Fit 1 := y1_fit.write _ _
theorem y3_fit : y3.Fit 2 := y2_fit.write _ _
theorem y4_fit : y4.Fit 2 := y3_fit.fail (by omega)
theorem y5_fit : y5.Fit 3 := y4_fit.boot _
def zs : Nat → Dk
  | 0 => y5
  | i + 1 => (zs i).sync.1
theorem zs_fit : ∀ i, (zs i).Fit (3 + i)
  | 0 => y5_fit
  | i + 1 => (zs_fit i).sync
theorem zs_ok : ((List.range 9).all fun i => decide ((zs i).sync.2 = 0)) = true := by kernel_rfl
theorem zs_step (i : Nat) (h : i < 9) : (zs i).sync = (zs (i + 1), 0) := by
  have := List.all_eq_true.1 zs_ok i (by simpa using h)
  have h2 : (zs i).sync.2 = 0 := by simpa using this
  rw [zs, ← h2]
def z9 : Dk := zs 9
theorem z9_fit : z9.Fit 12 := zs_fit 9
def y7 : Dk := z9.fail 1
def y8 : Dk := y7.fail (-3)
def y9 : Dk := y8.sync.1
def y10 : Dk := y9.sync.1
def y11 : Dk := (y10.write 5 (fullS 120)).1
def y12 : Dk := (y11.write 5 (fullS 121)).1
def y13 : Dk := y12.fail 1
def y14 : Dk := (y13.write 6 (fullS 122)).1
def y15 : Dk := (y14.boot [128, 127]).1
theorem y7_fit : y7.Fit 12 := z9_fit.fail (by omega)
theorem y8_fit : y8.Fit 12 := y7_fit.fail (by omega)
theorem y9_fit : y9.Fit 13 := y8_fit.sync
theorem y10_fit : y10.Fit 14 := y9_fit.sync
theorem y11_fit : y11.Fit 15 := y10_fit.write _ _
theorem y12_fit : y12.Fit 16 := y11_fit.write _ _
theorem y13_fit : y13.Fit 16 := y12_fit.fail (by omega)
theorem y14_fit : y14.Fit 17 := y13_fit.write _ _
theorem y15_fit : y15.Fit 18 := y14_fit.boot _
def badN : List Int := [0, -1, 1025, -9223372036854775808, 9223372036854775807]
theorem badN_bad (k : Nat) (h : k < 5) : badN.getD k 0 < 1 ∨ 1024 < badN.getD k 0 := by
  obtain rfl | rfl | rfl | rfl | rfl : k = 0 ∨ k = 1 ∨ k = 2 ∨ k = 3 ∨ k = 4 := by omega
  all_goals decide
set_option maxRecDepth 100000 in
set_option maxHeartbeats 8000000 in
theorem diskNames_walk (w : World) :
    Calls Try.prog 5 #[] w fun e w' => e = .returned (.bool true) ∧ Below w.heap.size w w' := by
  have O := Own.start w
  go_enter Try.func5, Try.ntmps5
  go_wp2_with fail
  refine (fail_nil 1 _).mono ?_
  rintro e w2 ⟨rfl, rfl⟩
  go_wp2_with fail
  refine (read_nil 0 _).mono ?_
  rintro e w2 ⟨rfl, rfl⟩
  go_wp2_with fail
  refine (works_own O).mono ?_
  clear O
  rintro e w1 ⟨rfl, O⟩
  go_wp2_with fail
  refine (full_own O 1 _ rfl).mono ?_
  clear O
  rintro e w1 ⟨rfl, O⟩
  go_wp2_with fail
  refine (write_nil 0 _ _).mono ?_
  rintro e w2 ⟨rfl, rfl⟩
  go_wp2_with fail
  refine (sync_nil _).mono ?_
  rintro e w2 ⟨rfl, rfl⟩
  go_wp2_with fail
  refine (boot_nil _ _).mono ?_
  rintro e w2 ⟨rfl, rfl⟩
  go_wp2_with fail
  refine (on_nil _).mono ?_
  rintro e w2 ⟨rfl, rfl⟩
  go_wp2_with fail
  refine (sectors_nil _).mono ?_
  rintro e w2 ⟨rfl, rfl⟩
  go_wp2_with fail
  refine (dirty_nil _).mono ?_
  rintro e w2 ⟨rfl, rfl⟩
  go_wp2_with fail
  refine (ops_nil _).mono ?_
  rintro e w2 ⟨rfl, rfl⟩
  go_wp2_with fail
  refine (copy_nil _).mono ?_
  rintro e w2 ⟨rfl, rfl⟩
  obtain ⟨b1, hb1⟩ : ∃ b, b = w1.heap.size := ⟨_, rfl⟩
  replace O := (O.newBox (badN.map (Value.int .i64)).toArray 3)
  rw [← hb1] at O
  go_wp2_with fail
  rw [← hb1]
  clear hb1
  go_loopw [75] (fun iv wr => ∃ k : Nat, k ≤ 5 ∧ iv = .int .i64 k ∧ Own w wr [box b1 (badN.map (Value.int .i64)).toArray 3]) (fun iv _ => 5 - (intOf iv).toNat)
  case atStart => exact ⟨0, by omega, rfl, O⟩
  case round =>
    clear O
    obtain ⟨k, hk, rfl, O⟩ := hrel
    by_cases hlt : k < 5
    · have hb1 : (k : Int) < 5 := by omega
      have hx := badN_bad k hlt
      have c := O.cell k
      have hmk : (badN.map (Value.int .i64)).toArray[k]? = some (Value.int .i64 (badN.getD k 0)) := by
        have hl : k < badN.length := hlt
        simp [hl]
      rw [hmk] at c
      obtain ⟨x, hxx⟩ : ∃ x, x = badN.getD k 0 := ⟨_, rfl⟩
      rw [← hxx] at c hx
      have X := Lib.hid hx
      clear hx hxx hmk
      go_wp2_with fail
      clear c
      refine (new_bad x X.out _).mono ?_
      rintro e w9 ⟨rfl, rfl⟩
      go_wp2
      go_roundw
      case rel => exact ⟨k + 1, by omega, by go_num, O⟩
      case measure => simp [intOf]; omega
    · have hb1 : ¬ (k : Int) < 5 := by omega
      clear hlt
      replace O := O.drop
      go_wp2_with fail
      refine (new_own O 1024 (by omega) (by omega)).mono ?_
      clear O
      rintro e w1 ⟨b, rfl, O⟩
      replace O : Own w w1 (dk (.pointer (some ⟨b, 0, none⟩)) y0 :: []) := O
      have f : y0.n = 1024 := by kernel_rfl
      go_wp2_with fail
      refine (sectors_any O).mono ?_
      skip
      rw [f]
      clear f
      rintro e w2 ⟨rfl, rfl⟩
      go_wp2_with fail
      refine (full_own O 0 _ rfl).mono ?_
      clear O
      rintro e w1 ⟨rfl, O⟩
      go_wp2_with fail
      refine (is10_own O 1023 (I64.nat (k := 1023) (by omega)) (fullS 0) true (by kernel_rfl)).mono ?_
      clear O
      rintro e w1 ⟨rfl, O⟩
      go_wp2_with fail
      refine (full_own O 1 _ rfl).mono ?_
      clear O
      rintro e w1 ⟨rfl, O⟩
      go_wp2_with fail
      refine (write_fit (m' := y0) (er := 1) O y0_fit (by omega) 1024 (I64.nat (k := 1024) (by omega)) (fullS 1) (fullS_len _) (by kernel_rfl)).mono ?_
      clear O
      rintro e w1 ⟨rfl, O⟩
      go_wp2_with fail
      refine (full_own O 1 _ rfl).mono ?_
      clear O
      rintro e w1 ⟨rfl, O⟩
      go_wp2_with fail
      refine (write_fit (m' := y0) (er := 1) O y0_fit (by omega) (-1) (WalkArith.wf_i64 (by omega)) (fullS 1) (fullS_len _) (by kernel_rfl)).mono ?_
      clear O
      rintro e w1 ⟨rfl, O⟩
      go_wp2_with fail
      refine (full_own O 1 _ rfl).mono ?_
      clear O
      rintro e w1 ⟨rfl, O⟩
      have hx1 : (⟨(fullS 1).toArray⟩ : ByteArray).extract 1 128 = ⟨shortS.toArray⟩ := by rw [mk_extract]; exact congrArg (fun l : List UInt8 => (⟨l.toArray⟩ : ByteArray)) (by kernel_rfl)
      have hl1 : (fullS 1).length = 128 := by kernel_rfl
      go_wp2_with fail
      refine (write_fit (m' := y0) (er := 1) O y0_fit (by omega) 0 (I64.nat (k := 0) (by omega)) shortS (by decide) (by kernel_rfl)).mono ?_
      clear O
      rintro e w1 ⟨rfl, O⟩
      clear hx1
      go_wp2_with fail
      refine (full_own O 1 _ rfl).mono ?_
      clear O
      rintro e w1 ⟨rfl, O⟩
      go_wp2_with fail
      refine (write_fit (m' := y0) (er := 1) O y0_fit (by omega) 0 (I64.nat (k := 0) (by omega)) (fullS 1 ++ [120]) (by decide) (by kernel_rfl)).mono ?_
      clear O
      rintro e w1 ⟨rfl, O⟩
      clear hl1
      go_wp2_with fail
      refine (boot_fit (m' := y0) (er := 7) O y0_fit (by omega) none 0 0 [] (fun w' m' O' => ⟨[], none, 0, rfl, fun h => by simp at h⟩) (by decide) (by kernel_rfl)).mono ?_
      clear O
      rintro e w1 ⟨rfl, O⟩
      have f : y0.ops = 0 := by kernel_rfl
      go_wp2_with fail
      refine (ops_any O).mono ?_
      skip
      rw [f]
      clear f
      rintro e w2 ⟨rfl, rfl⟩
      have f : y0.dirty = [] := by kernel_rfl
      go_wp2_with fail
      refine (dirty_dk O (y0_fit.small (by omega)) y0_fit.ok.dom).mono ?_
      clear O
      rw [f]
      clear f
      rintro e w1 ⟨ad, cd, rfl, O⟩
      replace O := O.drop
      go_wp2_with fail
      refine (fail_any 2 (by omega) O).mono ?_
      clear O
      rintro e w1 ⟨rfl, O⟩
      replace O : Own w w1 (dk (.pointer (some ⟨b, 0, none⟩)) y1 :: []) := O
      go_wp2_with fail
      refine (write_fit (m' := y1) (er := 1) O y1_fit (by omega) 0 (I64.nat (k := 0) (by omega)) [] (by decide) (by kernel_rfl)).mono ?_
      clear O
      rintro e w1 ⟨rfl, O⟩
      go_wp2_with fail
      refine (read_own O 0 (I64.nat (k := 0) (by omega))).mono ?_
      clear O
      rintro e w1 ⟨rfl, O⟩
      go_wp2_with fail
      refine (full_own O 1 _ rfl).mono ?_
      clear O
      rintro e w1 ⟨rfl, O⟩
      go_wp2_with fail
      refine (write_fit (m' := y2) (er := 0) O y1_fit (by omega) 3 (I64.nat (k := 3) (by omega)) (fullS 1) (fullS_len _) (by kernel_rfl)).mono ?_
      clear O
      rintro e w1 ⟨rfl, O⟩
      have f : y2.off = false := by kernel_rfl
      go_wp2_with fail
      refine (on_any O).mono ?_
      skip
      rw [f]
      clear f
      rintro e w2 ⟨rfl, rfl⟩
      go_wp2_with fail
      refine (full_own O 2 _ rfl).mono ?_
      clear O
      rintro e w1 ⟨rfl, O⟩
      go_wp2_with fail
      refine (write_fit (m' := y3) (er := 0) O y2_fit (by omega) 2 (I64.nat (k := 2) (by omega)) (fullS 2) (fullS_len _) (by kernel_rfl)).mono ?_
      clear O
      rintro e w1 ⟨rfl, O⟩
      have f : y3.off = true := by kernel_rfl
      go_wp2_with fail
      refine (on_any O).mono ?_
      skip
      rw [f]
      clear f
      rintro e w2 ⟨rfl, rfl⟩
      have f : y3.ops = 2 := by kernel_rfl
      go_wp2_with fail
      refine (ops_any O).mono ?_
      skip
      rw [f]
      clear f
      rintro e w2 ⟨rfl, rfl⟩
      have f : y3.dirty = [2, 3] := by kernel_rfl
      go_wp2_with fail
      refine (dirty_dk O (y3_fit.small (by omega)) y3_fit.ok.dom).mono ?_
      clear O
      rw [f]
      clear f
      rintro e w1 ⟨ad, cd, rfl, O⟩
      go_wp2_with fail
      have OB := O.newBox (([2, 3] : List Int).map (Value.int .i64)).toArray 3
      refine (ints_own (OB.pick 1) _ _ _ [2, 3] OB.boxSl (by decide) (by decide) true (by decide)).mono ?_
      clear O OB
      rintro e w1 ⟨rfl, O⟩
      replace O : Own w w1 (dk (.pointer (some ⟨b, 0, none⟩)) y3 :: []) := O.selK 3 [2]
      have f : y3.read 0 = ([], 42) := by kernel_rfl
      go_wp2_with fail
      refine (read_own O 0 (I64.nat (k := 0) (by omega))).mono ?_
      clear O
      rw [f]
      clear f
      rintro e w1 ⟨rfl, O⟩
      go_wp2_with fail
      refine (fail_any 5 (by omega) O).mono ?_
      clear O
      rintro e w1 ⟨rfl, O⟩
      replace O : Own w w1 (dk (.pointer (some ⟨b, 0, none⟩)) y4 :: []) := O
      have f : y4.off = true := by kernel_rfl
      go_wp2_with fail
      refine (on_any O).mono ?_
      skip
      rw [f]
      clear f
      rintro e w2 ⟨rfl, rfl⟩
      go_wp2_with fail
      have OB := (O.newBox (([-1, 129, 7] : List Int).map (Value.int .i64)).toArray 3).selK 2 [1, 0]
      refine (boot_fit (m' := y5) (er := 0) OB y4_fit (by omega) _ _ _ [-1, 129, 7] (fun w' m' O' => (O'.pick 1).boxSl) (by decide) (by kernel_rfl)).mono ?_
      clear O OB
      rintro e w1 ⟨rfl, O⟩
      replace O : Own w w1 (dk (.pointer (some ⟨b, 0, none⟩)) y5 :: []) := O.selK 2 [0]
      have f : y5.off = false := by kernel_rfl
      go_wp2_with fail
      refine (on_any O).mono ?_
      skip
      rw [f]
      clear f
      rintro e w2 ⟨rfl, rfl⟩
      go_wp2_with fail
      refine (full_own O 0 _ rfl).mono ?_
      clear O
      rintro e w1 ⟨rfl, O⟩
      go_wp2_with fail
      refine (is10_own O 2 (I64.nat (k := 2) (by omega)) (fullS 0) true (by kernel_rfl)).mono ?_
      clear O
      rintro e w1 ⟨rfl, O⟩
      go_wp2_with fail
      refine (full_own O 1 _ rfl).mono ?_
      clear O
      rintro e w1 ⟨rfl, O⟩
      go_wp2_with fail
      refine (is10_own O 3 (I64.nat (k := 3) (by omega)) (fullS 1) true (by kernel_rfl)).mono ?_
      clear O
      rintro e w1 ⟨rfl, O⟩
      have f : y5.dirty = [] := by kernel_rfl
      go_wp2_with fail
      refine (dirty_dk O (y5_fit.small (by omega)) y5_fit.ok.dom).mono ?_
      clear O
      rw [f]
      clear f
      rintro e w1 ⟨ad, cd, rfl, O⟩
      replace O := O.drop
      go_wp2_with fail
      go_loopw [12] (fun iv wr => ∃ k : Nat, k ≤ 9 ∧ iv = .int .i64 k ∧ Own w wr [dk (.pointer (some ⟨b, 0, none⟩)) (zs k)]) (fun iv _ => 9 - (intOf iv).toNat)
      case atStart => exact ⟨0, by omega, rfl, O⟩
      case round =>
        clear O hb1 hk
        obtain ⟨k, hk, rfl, O⟩ := hrel
        by_cases hlt : k < 9
        · have hb1 : (k : Int) < 9 := by omega
          go_wp2_with fail
          refine (sync_fit O (zs_fit k) (by omega) (zs_step k hlt)).mono ?_
          clear O
          rintro e w9 ⟨rfl, O⟩
          go_wp2
          go_roundw
          case rel => exact ⟨k + 1, by omega, by go_num, O⟩
          case measure => simp [intOf]; omega
        · obtain rfl : k = 9 := by omega
          clear hlt hk
          replace O : Own w _ (dk (.pointer (some ⟨b, 0, none⟩)) z9 :: []) := O
          go_wp2_with fail
          refine (fail_any 1 (by omega) O).mono ?_
          clear O
          rintro e w1 ⟨rfl, O⟩
          replace O : Own w w1 (dk (.pointer (some ⟨b, 0, none⟩)) y7 :: []) := O
          go_wp2_with fail
          refine (fail_any (-3) (by omega) O).mono ?_
          clear O
          rintro e w1 ⟨rfl, O⟩
          replace O : Own w w1 (dk (.pointer (some ⟨b, 0, none⟩)) y8 :: []) := O
          go_wp2_with fail
          refine (sync_fit (m' := y9) (er := 0) O y8_fit (by omega) (by kernel_rfl)).mono ?_
          clear O
          rintro e w1 ⟨rfl, O⟩
          go_wp2_with fail
          refine (sync_fit (m' := y10) (er := 0) O y9_fit (by omega) (by kernel_rfl)).mono ?_
          clear O
          rintro e w1 ⟨rfl, O⟩
          have f : y10.ops = 13 := by kernel_rfl
          go_wp2_with fail
          refine (ops_any O).mono ?_
          skip
          rw [f]
          clear f
          rintro e w2 ⟨rfl, rfl⟩
          go_wp2_with fail
          refine (full_own O 120 _ rfl).mono ?_
          clear O
          rintro e w1 ⟨rfl, O⟩
          go_wp2_with fail
          refine (write_fit (m' := y11) (er := 0) O y10_fit (by omega) 5 (I64.nat (k := 5) (by omega)) (fullS 120) (fullS_len _) (by kernel_rfl)).mono ?_
          clear O
          rintro e w1 ⟨rfl, O⟩
          go_wp2_with fail
          refine (full_own O 121 _ rfl).mono ?_
          clear O
          rintro e w1 ⟨rfl, O⟩
          go_wp2_with fail
          refine (write_fit (m' := y12) (er := 0) O y11_fit (by omega) 5 (I64.nat (k := 5) (by omega)) (fullS 121) (fullS_len _) (by kernel_rfl)).mono ?_
          clear O
          rintro e w1 ⟨rfl, O⟩
          go_wp2_with fail
          refine (fail_any 1 (by omega) O).mono ?_
          clear O
          rintro e w1 ⟨rfl, O⟩
          replace O : Own w w1 (dk (.pointer (some ⟨b, 0, none⟩)) y13 :: []) := O
          go_wp2_with fail
          refine (full_own O 122 _ rfl).mono ?_
          clear O
          rintro e w1 ⟨rfl, O⟩
          go_wp2_with fail
          refine (write_fit (m' := y14) (er := 0) O y13_fit (by omega) 6 (I64.nat (k := 6) (by omega)) (fullS 122) (fullS_len _) (by kernel_rfl)).mono ?_
          clear O
          rintro e w1 ⟨rfl, O⟩
          go_wp2_with fail
          have OB := (O.newBox (([128, 127] : List Int).map (Value.int .i64)).toArray 3).selK 2 [1, 0]
          refine (boot_fit (m' := y15) (er := 0) OB y14_fit (by omega) _ _ _ [128, 127] (fun w' m' O' => (O'.pick 1).boxSl) (by decide) (by kernel_rfl)).mono ?_
          clear O OB
          rintro e w1 ⟨rfl, O⟩
          replace O : Own w w1 (dk (.pointer (some ⟨b, 0, none⟩)) y15 :: []) := O.selK 2 [0]
          go_wp2_with fail
          refine (full_own O 121 _ rfl).mono ?_
          clear O
          rintro e w1 ⟨rfl, O⟩
          go_wp2_with fail
          refine (is10_own O 5 (I64.nat (k := 5) (by omega)) (fullS 121) true (by kernel_rfl)).mono ?_
          clear O
          rintro e w1 ⟨rfl, O⟩
          go_wp2_with fail
          refine (full_own O 122 _ rfl).mono ?_
          clear O
          rintro e w1 ⟨rfl, O⟩
          have hx1 : (⟨(fullS 122).toArray⟩ : ByteArray).extract 0 127 = ⟨zA.toArray⟩ := by rw [mk_extract]; exact congrArg (fun l : List UInt8 => (⟨l.toArray⟩ : ByteArray)) (by kernel_rfl)
          have hl1 : (fullS 122).length = 128 := by kernel_rfl
          have hl2 : zA.length = 127 := by kernel_rfl
          go_wp2_with fail
          refine (is10_own O 6 (I64.nat (k := 6) (by omega)) (zA ++ [0]) true (by kernel_rfl)).mono ?_
          clear O
          rintro e w1 ⟨rfl, O⟩
          clear hx1 hl1 hl2
          have f : y15.ops = 16 := by kernel_rfl
          go_wp2_with fail
          refine (ops_any O).mono ?_
          skip
          rw [f]
          clear f
          rintro e w2 ⟨rfl, rfl⟩
          go_wp2
          go_ret
          exact ⟨rfl, O.below⟩
end Go.Proofs.Ytobflkddkplpiaa
