/- frame: Put. -/
import Derived.Test.YtnlppcjfpmnahaaGreatDoorFmA
import Derived.Test.YtnlppcjfpmnahaaGreatDoorFmShelf
import Derived.Deep.RegionHeld3
namespace Go.Proofs.YtnlppcjfpmnahaaGreatDoor
set_option linter.all false
open Go.RowKit

theorem U8_zero8 : U8 (List.replicate 8 0) = #[.int .u8 0, .int .u8 0, .int .u8 0, .int .u8 0, .int .u8 0, .int .u8 0, .int .u8 0, .int .u8 0] := by rfl
/-- a sector's stamp -/
def stampL (age place : Int) : List UInt8 := putAt (putAt (List.replicate 8 0) 0 age 4) 4 place 4
def putS (age place : Int) (s : List UInt8) : List UInt8 := stampL age place ++ s ++ List.replicate (112 - s.length) 0 ++ stampL age place
theorem stampL_len (age place : Int) : (stampL age place).length = 8 := by unfold stampL; rw [putAt_len, putAt_len]; rfl
theorem repeat_zero (c : Nat) : Lib.repeatL [0] c = List.replicate c (0 : UInt8) := by
  induction c with
  | zero => rfl
  | succ n ih => rw [List.replicate_succ, ← ih]; rfl
theorem put_bad {w0 w : World} {L : List Piece} (O : Own w0 w L) (age place : Int) (s : List UInt8) (h : mayB age place = false) :
    Calls Tryz.prog 71 #[.int .i64 age, .int .i64 place, .string ⟨s.toArray⟩] w fun e w' => e = .returned (.tuple #[.string ⟨#[]⟩, .int .i64 1]) ∧ w = w' := by
  have H := Lib.hid h
  clear h
  go_enter Tryz.func71, Tryz.ntmps71
  go_wp2_with fail
  refine (may11_any age place _).mono ?_
  rw [H.out]
  rintro e w1 ⟨rfl, rfl⟩
  go_wp2
  go_returns
  exact ⟨rfl, rfl⟩
theorem put_long (age place : Int) (s : List UInt8) (h : mayB age place = true) (hs : 112 < s.length) (w : World) :
    Calls Tryz.prog 71 #[.int .i64 age, .int .i64 place, .string ⟨s.toArray⟩] w fun e w' => e = .returned (.tuple #[.string ⟨#[]⟩, .int .i64 40]) ∧ w = w' := by
  have H := Lib.hid h
  have hb : (112 : Int) < (s.length : Int) := by omega
  clear h
  go_enter Tryz.func71, Tryz.ntmps71
  go_wp2_with fail
  refine (may11_any age place _).mono ?_
  rw [H.out]
  rintro e w1 ⟨rfl, rfl⟩
  go_wp2
  go_returns
  exact ⟨rfl, rfl⟩
theorem below_chg11 {w w' : World} (h : Below w.heap.size w w') : Chg [] w w' := ⟨h.os, h.tape, h.output, h.size, fun k hk _ => h.block k hk⟩
/-- the bytes of an array of the call's own, as a string -/
theorem Own.boxBytes {w0 w : World} {L : List Piece} {b : Nat} {l : List UInt8} {ty : TypeId} (h : Own w0 w (box b (U8 l) ty :: L)) (off n cap : Nat) (hn : off + n ≤ l.length) : (convert 57 9 (.slice (some ⟨b, off, none⟩) n cap)).run Tryz.prog w = .ok (.string ⟨((l.drop off).take n).toArray⟩) w := by
  have hl : ((l.drop off).take n).length = n := by simp; omega
  have := run_convert_bytes_back (P := Tryz.prog) w 57 9 5 ⟨b, off, none⟩ cap ((l.drop off).take n) Tryz.underlying57 Tryz.underlying5 Tryz.underlying9 (fun j hj => by
    rw [show (⟨b, off, none⟩ : Addr).add j = ⟨b, off + j, none⟩ from by unfold Addr.add; split <;> simp_all, h.cell]
    rw [hl] at hj
    have h1 : off + j < l.length := by omega
    simp [U8, h1])
  rw [hl] at this
  exact this
theorem Own.stampBytes {w0 w : World} {L : List Piece} {b : Nat} {T : List UInt8} {ty : TypeId} (h : Own w0 w (box b (U8 T) ty :: L)) (hT : T.length = 8) : (convert 57 9 (.slice (some ⟨b, 0, none⟩) 8 8)).run Tryz.prog w = .ok (.string ⟨T.toArray⟩) w := by
  have := h.boxBytes 0 8 8 (by omega)
  rwa [List.drop_zero, List.take_of_length_le (by omega)] at this
set_option maxRecDepth 100000 in
set_option maxHeartbeats 2000000 in
theorem put11_own {w0 w : World} {L : List Piece} (O : Own w0 w L) (age place : Int) (s : List UInt8) (h : mayB age place = true) (hs : s.length ≤ 112) :
    Calls Tryz.prog 71 #[.int .i64 age, .int .i64 place, .string ⟨s.toArray⟩] w fun e w' => e = .returned (.tuple #[.string ⟨(putS age place s).toArray⟩, .int .i64 0]) ∧ Own w0 w' L := by
  have H := Lib.hid h
  have hb : ¬ (112 : Int) < (s.length : Int) := by omega
  clear h
  go_enter Tryz.func71, Tryz.ntmps71
  go_wp2_with fail
  refine (may11_any age place _).mono ?_
  rw [H.out]
  rintro e w1 ⟨rfl, rfl⟩
  have O1 := O.newBox (U8 (List.replicate 8 0)) 110
  obtain ⟨b, hbz⟩ : ∃ b, b = w.heap.size := ⟨_, rfl⟩
  rw [← hbz] at O1
  clear O
  go_wp2_with fail
  rw [← hbz]
  refine (put_own O1 0 4 4 (by simp) (by omega) age).mono ?_
  clear O1 hbz
  rintro e w2 ⟨rfl, O⟩
  go_wp2_with fail
  refine (put_own O 4 4 4 (by rw [putAt_len]; simp) (by omega) place).mono ?_
  clear O
  rintro e w3 ⟨rfl, O⟩
  obtain ⟨T, hT⟩ : ∃ T, T = stampL age place := ⟨_, rfl⟩
  have hTl : T.length = 8 := by rw [hT]; exact stampL_len _ _
  replace O : Own w0 w3.drew (box b (U8 T) 110 :: L) := by rw [hT]; exact O.drew
  obtain ⟨C, hCn⟩ : ∃ C : Nat, C = 112 - s.length := ⟨_, rfl⟩
  have hc : (112 : Int) - (s.length : Int) = (C : Int) := by omega
  have hC8 : C ≤ 112 := by omega
  have hw : IntKind.i64.wrap (C : Int) = (C : Int) := i64_wraps _ (by omega) (by omega)
  obtain ⟨Z, hZ⟩ : ∃ Z : List UInt8, Z = List.replicate C 0 := ⟨_, rfl⟩
  have hZl : Z.length = C := by rw [hZ]; simp
  have hrp := Tryz.strings_Repeat ⟨#[0]⟩ C w3.drew (by omega) (by
    show 1 * C ≤ _
    omega)
  rw [show Lib.repeatL (⟨#[0]⟩ : ByteArray).data.toList C = Z from by rw [hZ]; exact repeat_zero _] at hrp
  have kc1 := O.stampBytes hTl
  have hfin : putS age place s = T ++ s ++ Z ++ T := by unfold putS; rw [hT, hZ, hCn]
  have s1 : ∀ w' : World, (Op.stringOp .add ⟨T.toArray⟩ ⟨s.toArray⟩).run Tryz.prog w' = .ok (.string ⟨(T ++ s).toArray⟩) w' := fun w' => by
    rw [run_string_add_sum _ _ _ (by show T.length + s.length ≤ _; omega), mk_append]
  have s2 : ∀ w' : World, (Op.stringOp .add ⟨(T ++ s).toArray⟩ ⟨Z.toArray⟩).run Tryz.prog w' = .ok (.string ⟨(T ++ s ++ Z).toArray⟩) w' := fun w' => by
    rw [run_string_add_sum _ _ _ (by show (T ++ s).length + Z.length ≤ _; rw [List.length_append]; omega), mk_append]
  have s3 : ∀ w' : World, (Op.stringOp .add ⟨(T ++ (s ++ Z)).toArray⟩ ⟨T.toArray⟩).run Tryz.prog w' = .ok (.string ⟨(T ++ (s ++ (Z ++ T))).toArray⟩) w' := fun w' => by
    rw [run_string_add_sum _ _ _ (by show (T ++ (s ++ Z)).length + T.length ≤ _; rw [List.length_append, List.length_append]; omega), mk_append]
    simp
  have HFIN := Lib.hid hfin
  have HRP := Lib.hid hrp
  have HTL := Lib.hid hTl
  clear hT hZ hfin hrp hCn hZl
  go_wp2_with fail
  go_region_held3 (fun w' => (convert 57 9 (.slice (some ⟨b, 0, none⟩) 8 8)).run Tryz.prog w' = .ok (.string ⟨T.toArray⟩) w')
    (first
      | with_reducible exact kc1
      | with_reducible exact kc2)
    (first
      | (go_at_call 83; (with_reducible refine HRP.out.mono ?_); rintro e w4 ⟨rfl, bel⟩; (have O4 := O.pure (below_chg11 bel)); (have kc2 := O4.stampBytes HTL.out)))
  clear s1 s2 s3 kc1 kc2 O
  have FIN := O4.drop
  clear O4
  go_wp2
  go_returns
  exact ⟨by rw [HFIN.out]; simp, FIN⟩
end Go.Proofs.YtnlppcjfpmnahaaGreatDoor
