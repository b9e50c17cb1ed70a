/- mailroomlaw10: Step.bytes, full, is. -/
import Derived.Test.YtobflkddkplpiaaDiskG
namespace Go.Proofs.Ytobflkddkplpiaa
set_option linter.all false
open Go.RowKit Go.Maps

def oddN (odd : Int) : Nat := if -100 < odd ∧ odd < 100 then (128 + odd).toNat else 128
def stepBytes (c : UInt8) (odd : Int) : List UInt8 := List.replicate (oddN odd) c
def part (c : UInt8) (N k : Nat) : List UInt8 := List.replicate k c ++ List.replicate (N - k) 0
theorem part_len (c : UInt8) {N k : Nat} (h : k ≤ N) : (part c N k).length = N := by simp [part]; omega
theorem part_zero (c : UInt8) (N : Nat) : part c N 0 = List.replicate N 0 := by simp [part]
theorem part_end (c : UInt8) (N : Nat) : part c N N = List.replicate N c := by simp [part]
theorem part_set (c : UInt8) {N k : Nat} (h : k < N) : (part c N k).set k c = part c N (k + 1) := by
  unfold part
  rw [List.set_append_right _ _ (by simp)]
  simp only [List.length_replicate, Nat.sub_self]
  rw [show N - k = (N - (k + 1)) + 1 from by omega, List.replicate_succ, List.set_cons_zero, List.replicate_succ', List.append_assoc]
  rfl
set_option maxRecDepth 100000 in
set_option maxHeartbeats 1000000 in
theorem bytes_any (w : World) (what at0 : Int) (c : UInt8) (odd : Int) (ak : Option Addr) (nk ck : Nat) :
    Calls Try.prog 14 #[.agg #[.int .u8 what, .int .i64 at0, .int .u8 (c.toNat : Int), .int .i64 odd, .slice ak nk ck]] w fun e w' => e = .returned (.string ⟨(stepBytes c odd).toArray⟩) ∧ Chg [] w w' := by
  have O := Own.start w
  obtain ⟨N, hN⟩ : ∃ N, N = oddN odd := ⟨_, rfl⟩
  have hNb : N ≤ 300 := by rw [hN]; unfold oddN; split <;> omega
  have hr : stepBytes c odd = List.replicate N c := by rw [hN]; rfl
  rw [hr]
  clear hr
  replace O := O.newBox #[.int .u8 what, .int .i64 at0, .int .u8 (c.toNat : Int), .int .i64 odd, .slice ak nk ck] 33
  obtain ⟨z, hz⟩ : ∃ z : List UInt8, z = List.replicate N 0 := ⟨_, rfl⟩
  have zl : z.length = N := by rw [hz]; simp
  have Z := Lib.hid hz
  clear hz
  by_cases hodd : -100 < odd ∧ odd < 100
  · have hN2 : (128 : Int) + odd = (N : Int) := by rw [hN]; unfold oddN; rw [if_pos hodd]; omega
    obtain ⟨o1, o2⟩ := hodd
    clear hN
    go_enter Try.func14, Try.ntmps14
    go_wp2_with (at_make; refine wpList_make_named rfl _ rfl N rfl (by omega) z Z.out O ?_)
    intro g w8 O8
    rw [Z.out, ← part_zero c N] at O8
    clear O
    generalize w.heap.size = sb at *
    go_wp2_with fail
    go_loopw [5] (fun iv wr => ∃ k : Nat, k ≤ N ∧ iv = .int .i64 k ∧ Own w wr [bytes g (part c N k), box sb #[.int .u8 what, .int .i64 at0, .int .u8 (c.toNat : Int), .int .i64 odd, .slice ak nk ck] 33]) (fun iv _ => N - (intOf iv).toNat)
    case atStart => exact ⟨0, by omega, rfl, O8⟩
    case round =>
      clear O8
      obtain ⟨k, hk, rfl, O⟩ := hrel
      by_cases hlt : k < N
      · have hb1 : (k : Int) < (N : Int) := by omega
        have hc2 : wr.cell? ⟨sb, 2, none⟩ = some (.int .u8 (c.toNat : Int)) := (O.pick 1).cell 2
        obtain ⟨b0, b1⟩ := O.byteCell k (by rw [part_len c hk]; exact hlt)
        have O2 := O.setByte k c
        rw [part_set c hlt] at O2
        go_wp2
        go_roundw
        case rel => exact ⟨k + 1, by omega, by go_num, O2⟩
        case measure => simp [intOf]; omega
      · have hkN : N = k := by omega
        subst hkN
        have hcv := O.fromBytes N
        rw [part_len c hk, part_end] at hcv
        go_wp2
        go_ret
        exact ⟨rfl, O.chg⟩
  · have hN2 : N = 128 := by rw [hN]; unfold oddN; rw [if_neg hodd]
    have o1 : odd ≤ -100 ∨ (-100 < odd ∧ 100 ≤ odd) := by omega
    clear hN hodd
    subst hN2
    rcases o1 with o1 | ⟨o1, o2⟩
    all_goals
      go_enter Try.func14, Try.ntmps14
      go_wp2_with (at_make; refine wpList_make_named rfl _ rfl 128 rfl (by omega) z Z.out O ?_)
      intro g w8 O8
      rw [Z.out, ← part_zero c 128] at O8
      clear O
      generalize w.heap.size = sb at *
      go_wp2_with fail
      go_loopw [5] (fun iv wr => ∃ k : Nat, k ≤ 128 ∧ iv = .int .i64 k ∧ Own w wr [bytes g (part c 128 k), box sb #[.int .u8 what, .int .i64 at0, .int .u8 (c.toNat : Int), .int .i64 odd, .slice ak nk ck] 33]) (fun iv _ => 128 - (intOf iv).toNat)
      case atStart => exact ⟨0, by omega, rfl, O8⟩
      case round =>
        clear O8
        obtain ⟨k, hk, rfl, O⟩ := hrel
        by_cases hlt : k < 128
        · have hb1 : (k : Int) < 128 := by omega
          have hc2 : wr.cell? ⟨sb, 2, none⟩ = some (.int .u8 (c.toNat : Int)) := (O.pick 1).cell 2
          obtain ⟨b0, b1⟩ := O.byteCell k (by rw [part_len c hk]; exact hlt)
          have O2 := O.setByte k c
          rw [part_set c hlt] at O2
          go_wp2
          go_roundw
          case rel => exact ⟨k + 1, by omega, by go_num, O2⟩
          case measure => simp [intOf]; omega
        · have hkN : 128 = k := by omega
          subst hkN
          have hcv := O.fromBytes 128
          rw [part_len c hk, part_end] at hcv
          go_wp2
          go_ret
          exact ⟨rfl, O.chg⟩
end Go.Proofs.Ytobflkddkplpiaa
