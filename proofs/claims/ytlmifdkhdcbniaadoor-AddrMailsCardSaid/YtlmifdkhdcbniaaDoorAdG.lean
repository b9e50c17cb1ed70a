/- mailroomlaw04.works. -/
import Derived.Test.YtlmifdkhdcbniaaDoorAdF
namespace Go.Proofs.YtlmifdkhdcbniaaDoor
set_option linter.all false
open Go.RowKit

theorem Own.litCell {w0 w : World} {L : List Piece} {b : Nat} {ss : List (List UInt8)} {ty : TypeId} (O : Own w0 w (box b (ss.map str).toArray ty :: L)) (k : Nat) (hk : k < ss.length) : w.cell? ⟨b, k, none⟩ = some (.string ⟨ss[k].toArray⟩) := by
  rw [O.cell k]; simp [hk, str]
theorem amay_is {w0 w : World} {L : List Piece} (K : Kinds w0) (O : Own w0 w L) {s : List UInt8} {b : Bool} (hb : parseB s = b) (hs : s.length ≤ 100000000) :
    Calls Tryd.prog 12 #[.string ⟨s.toArray⟩] w fun e w' => e = .returned (.bool b) ∧ Own w0 w' L := by rw [← hb]; exact amay_own K O s hs
theorem path_is {w0 w : World} {L : List Piece} (K : Kinds w0) (O : Own w0 w L) {s p : List UInt8} (hb : pathL s = p) (hs : s.length ≤ 100000000) :
    Calls Tryd.prog 15 #[.string ⟨s.toArray⟩] w fun e w' => e = .returned (.string ⟨p.toArray⟩) ∧ Own w0 w' L := by rw [← hb]; exact path_own K O s hs
theorem parse_is {w0 w : World} {L : List Piece} (K : Kinds w0) (O : Own w0 w L) {s : List UInt8} {v : Value} (hb : parseV s = v) (hs : s.length ≤ 100000000) :
    Calls Tryd.prog 14 #[.string ⟨s.toArray⟩] w fun e w' => e = .returned v ∧ Own w0 w' L := by rw [← hb]; exact parse_own K O s hs
theorem unpath_is {w0 w : World} {L : List Piece} (K : Kinds w0) (O : Own w0 w L) {s : List UInt8} {v : Value} (hb : unV s = v) (hs : s.length ≤ 100000000) :
    Calls Tryd.prog 17 #[.string ⟨s.toArray⟩] w fun e w' => e = .returned v ∧ Own w0 w' L := by rw [← hb]; exact unpath_own K O s hs
def bads4 : List (List UInt8) := [[46, 97, 64, 98, 46, 101, 120, 97, 109, 112, 108, 101], [97, 46, 46, 98, 64, 98, 46, 101, 120, 97, 109, 112, 108, 101], [97, 32, 98, 64, 98, 46, 101, 120, 97, 109, 112, 108, 101], [97, 64], [64, 98, 46, 101, 120, 97, 109, 112, 108, 101], [97, 64, 98, 46, 101, 120, 97, 109, 112, 108, 101, 46], [97, 64, 49, 46, 50], [34, 97, 64, 98, 46, 101, 120, 97, 109, 112, 108, 101]]
theorem bads4_all : (bads4.all fun s => !parseB s && decide (s.length ≤ 1000)) = true := by kernel_rfl
theorem bads4_at (k : Nat) (h : k < bads4.length) : parseB bads4[k] = false ∧ bads4[k].length ≤ 1000 := by
  have := List.all_eq_true.1 bads4_all _ (List.getElem_mem h)
  simpa using this

set_option maxRecDepth 100000 in
set_option maxHeartbeats 2000000 in
theorem works4_own {w0 w : World} {L : List Piece} (K : Kinds w0) (O : Own w0 w L) : Calls Tryd.prog 9 #[] w fun e w' => e = .returned (.bool true) ∧ Own w0 w' L := by
  go_enter Tryd.func9, Tryd.ntmps9
  go_wp2_with fail
  refine (parse_is K O (s := [97, 46, 98, 64, 77, 97, 105, 108, 46, 101, 120, 97, 109, 112, 108, 101]) (v := .tuple #[.string ⟨#[97, 46, 98]⟩, .string ⟨#[109, 97, 105, 108, 46, 101, 120, 97, 109, 112, 108, 101]⟩, .int .i64 0]) (by kernel_rfl) (by decide)).mono ?_
  clear O
  rintro e w1 ⟨rfl, O⟩
  go_wp2_with fail
  refine (unpath_is K O (s := [60, 62]) (v := .tuple #[.string ⟨#[]⟩, .int .i64 0]) (by kernel_rfl) (by decide)).mono ?_
  clear O
  rintro e w2 ⟨rfl, O⟩
  replace O := (O.newBox (bads4.map str).toArray 9)
  have NB : Hid (bads4.length = 8) := by unfold Hid; rfl
  go_wp2_with fail
  go_loopw [19] (fun iv wr => ∃ k : Nat, k ≤ 8 ∧ iv = .int .i64 k ∧ Own w0 wr (box w2.heap.size (bads4.map str).toArray 9 :: L)) (fun iv _ => 8 - (intOf iv).toNat)
  case atStart => exact ⟨0, by omega, rfl, O⟩
  case round =>
    clear O
    obtain ⟨k, hk, rfl, O⟩ := hrel
    by_cases hlt : k < 8
    · have hkl : k < bads4.length := by rw [NB.out]; exact hlt
      have c := O.litCell k hkl
      have hb1 : (k : Int) < 8 := by omega
      have B1 := Lib.hid (bads4_at k hkl)
      generalize bads4[k] = s at c B1
      go_wp2_with fail
      refine (amay_is K O B1.out.1 (by have := B1.out.2; omega)).mono ?_
      clear O c
      rintro e w3 ⟨rfl, O⟩
      go_wp2
      go_roundw
      case rel => exact ⟨k + 1, by omega, by go_num, O⟩
      case measure => simp [intOf]; omega
    · have hb1 : ¬ (k : Int) < 8 := by omega
      replace O := O.drop
      go_wp2_with fail
      refine (amay_is K O (s := [34, 97, 32, 98, 34, 64, 98, 46, 101, 120, 97, 109, 112, 108, 101]) (b := true) (by kernel_rfl) (by decide)).mono ?_
      clear O
      rintro e w3 ⟨rfl, O⟩
      go_wp2_with fail
      refine (path_is K O (s := [97, 64, 98, 46, 101, 120, 97, 109, 112, 108, 101]) (p := [60, 97, 64, 98, 46, 101, 120, 97, 109, 112, 108, 101, 62]) (by kernel_rfl) (by decide)).mono ?_
      clear O
      rintro e w3 ⟨rfl, O⟩
      go_wp2
      go_ret
      exact ⟨rfl, O⟩
end Go.Proofs.YtlmifdkhdcbniaaDoor
