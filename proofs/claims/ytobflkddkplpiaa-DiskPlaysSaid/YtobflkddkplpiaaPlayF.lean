/- mailroomref10.New. -/
import Derived.Test.YtobflkddkplpiaaPlayE
import Derived.Deep.RegionLaw
namespace Go.Proofs.Ytobflkddkplpiaa
set_option linter.all false
open Go.RowKit Go.Maps

set_option maxRecDepth 100000 in
theorem xnew_bad (k : Int) (h : k < 1 ∨ 1024 < k) (w : World) : Calls Try.prog 27 #[.int .i64 k] w fun e w' => e = .returned (.tuple #[.pointer none, .int .i64 1]) ∧ w = w' := by
  by_cases h1 : k < 1
  · clear h
    go_enter Try.func27, Try.ntmps27
    go_wp2
    go_returns
    exact ⟨rfl, rfl⟩
  · have h2 : 1024 < k := by omega
    clear h
    go_enter Try.func27, Try.ntmps27
    go_wp2
    go_returns
    exact ⟨rfl, rfl⟩
def ncells (aw : Option Addr) (k cw : Nat) (g n : Nat) : Array Value := #[.slice aw k cw, .slice none 0 0, .slice (some ⟨g, 0, none⟩) n n, .int .i64 0, .int .i64 0, .bool false, .bool false]
set_option maxRecDepth 100000 in
set_option maxHeartbeats 4000000 in
theorem xnew_own {w0 w : World} {L : List Piece} (O : Own w0 w L) (n : Nat) (h1 : 1 ≤ n) (h2 : n ≤ 1024) :
    Calls Try.prog 27 #[.int .i64 n] w fun e w' => ∃ b : Nat, e = .returned (.tuple #[.pointer (some ⟨b, 0, none⟩), .int .i64 0]) ∧ Own w0 w' (xk (.pointer (some ⟨b, 0, none⟩)) (Dk.new n) :: L) := by
  obtain ⟨i0, hi0, hz0, hz1, hz2⟩ := info_parts info_bool
  have HI := Lib.hid hi0; have HZ := Lib.hid hz0; have HZ1 := Lib.hid hz1; have HZ2 := Lib.hid hz2
  clear hi0 hz0 hz1 hz2
  have b1 : ¬ (n : Int) < 1 := by omega
  have b2 : ¬ 1024 < (n : Int) := by omega
  go_enter Try.func27, Try.ntmps27
  go_wp2_with (at_make; refine wpList_make_rowO (e := 4) (size := 1) rfl _ rfl i0 (.bool false) Try.underlying71 HI.out HZ.out HZ1.out (by rw [HZ2.out]; omega) n rfl (by omega) O ?_)
  intro g w1 O1
  clear O
  have O2 := O1.newBox (ncells none 0 0 g n) 74
  obtain ⟨b, hb⟩ : ∃ b, b = w1.heap.size := ⟨_, rfl⟩
  rw [← hb] at O2
  go_wp2_with fail
  rw [← hb]
  clear O1 hb
  go_loopw [5] (fun iv wr => ∃ (k : Nat) (aw : Option Addr) (cw : Nat), iv = .int .i64 k ∧ k ≤ n ∧
      Own w0 wr (box b (ncells aw k cw g n) 74 :: strs (.slice aw k cw) (List.replicate k zeros) :: rowv 4 1 (.slice (some ⟨g, 0, none⟩) n n) n (madeCells #[.bool false] n).toList :: L)) (fun iv _ => n - (intOf iv).toNat)
  case atStart => exact ⟨0, none, 0, rfl, by omega, (O2.nilStrs).selK 3 [1, 0, 2]⟩
  case round =>
    clear O2
    obtain ⟨k, aw, cw, rfl, hk, O⟩ := hrel
    by_cases hlt : k < n
    · have hb1 : (k : Int) < (n : Int) := by omega
      have c0 : wr.cell? ⟨b, 0, none⟩ = some (.slice aw k cw) := O.cell 0
      obtain ⟨gz, w2, hmk, O2⟩ := run_makeO O.drew 128 (by omega)
      replace hmk : (Instr.makeSlice 66 (.int .i64 128) (.int .i64 128)).run Try.prog wr.drew = .ok (.slice (some ⟨gz, 0, none⟩) 128 128) w2 := hmk
      obtain ⟨z, hz⟩ : ∃ z : List UInt8, z = List.replicate 128 0 := ⟨_, rfl⟩
      have hzl : z.length = 128 := by rw [hz]; simp
      rw [← hz] at O2
      have hcv := O2.fromBytes 128
      rw [hzl] at hcv
      have hol : (List.replicate k zeros).length ≤ 1000000000 := by simp; omega
      obtain ⟨v2, w3, hap, O3⟩ := run_append_strO (O2.pick 2) z hol 30
      rw [show List.replicate k zeros ++ [z] = List.replicate (k + 1) zeros from by rw [hz]; exact (List.replicate_succ').symm] at O3
      obtain ⟨a2, cap2, hv2⟩ := O3.shape
      rw [List.length_replicate] at hv2
      subst hv2
      have d0 : w2.cell? ⟨b, 0, none⟩ = some (.slice aw k cw) := (O2.pick 1).cell 0
      have e0 : w3.cell? ⟨b, 0, none⟩ = some (.slice aw k cw) := (O3.pick 2).cell 0
      have ef : ∀ o, w3.frozen? ⟨b, o, none⟩ = false := (O3.pick 2).free
      have O4 := (O3.pick 2).set 0 (.slice a2 (k + 1) cap2)
      have d1 : (w2.alloc (.cells #[.string ⟨z.toArray⟩] 9)).cell? ⟨b, 0, none⟩ = some (.slice aw k cw) := ((O2.pick 1).alloc _).cell 0
      clear O O2 O3 hz
      go_wp2_with fail
      go_region_law (refine step_appendO rfl rfl rfl rfl hap ?_)
      all_goals
        go_wp2
        go_roundw
        case rel => exact ⟨k + 1, a2, cap2, by go_num, by omega, O4.selK 4 [0, 1, 3]⟩
        case measure => simp [intOf]; omega
    · have hb1 : ¬ (k : Int) < (n : Int) := by omega
      obtain rfl : n = k := by omega
      obtain ⟨KD, GS, SR⟩ := (O.pick 1).copyStrs
      have KD' := Lib.hid KD; have SR' := Lib.hid SR
      have hl1 : Hid (([] : List (List UInt8)).length + (List.replicate n zeros).length ≤ 1000000000) := Lib.hid (by simp; omega)
      have c0 : wr.cell? ⟨b, 0, none⟩ = some (.slice aw n cw) := O.cell 0
      have blt := O.boxlt
      clear KD SR
      go_wp2_with (at_builtin; refine wpList_append_strsO rfl _ _ rfl _ [] _ (List.replicate n zeros) GS O.emptyStrs rfl rfl SR'.out KD'.out hl1.out ?_)
      intro v' w6 O6
      obtain ⟨a', c', hv'⟩ := O6.shape
      rw [List.length_replicate] at hv'
      subst hv'
      clear c0 blt O KD' SR' hl1
      have c1 : w6.cell? ⟨b, 1, none⟩ = some (.slice none 0 0) := (O6.pick 1).cell 1
      have fr : ∀ o, w6.frozen? ⟨b, o, none⟩ = false := (O6.pick 1).free
      have O7 := (O6.pick 1).set 1 (.slice a' n c')
      have e1 : (Dk.new n).nowL = List.replicate n zeros := new_nowL n
      have e2 : (Dk.new n).wasL = List.replicate n zeros := new_wasL n
      have e3 : Bv (wetB (Dk.new n)) = (madeCells #[Value.bool false] n).toList := (wet_none (m := Dk.new n) (fun _ => rfl)).trans (made_false n).symm
      have O8 : Own w0 (w6.setCell ⟨b, 1, none⟩ (.slice a' n c')) (xk (.pointer (some ⟨b, 0, none⟩)) (Dk.new n) :: L) := Own.xkI (aw := aw) (cw := cw) (an := a') (cn := c') (at0 := some ⟨g, 0, none⟩) (ct := n) (f := false) (lf := 0) ⟨fun e => (by cases e), fun _ => rfl⟩ (by
        rw [e1, e2, e3]
        exact O7.selK 4 [0, 2, 1, 3])
      clear O6 O7 e1 e2 e3
      go_wp2
      go_returns
      exact ⟨b, rfl, O8⟩
end Go.Proofs.Ytobflkddkplpiaa
