/- frame: ends. -/
import Derived.Test.YtnlppcjfpmnahaaGreatDoorFmC
import Derived.StillTailTactics
import Derived.Deep.DeepCutAuto
namespace Go.Proofs.YtnlppcjfpmnahaaGreatDoor
set_option linter.all false
open Go.RowKit

theorem setCell_same {w : World} {b o : Nat} {v : Value} (h : w.cell? ⟨b, o, none⟩ = some v) : w.setCell ⟨b, o, none⟩ v = w := by
  have hl : ∃ C ty fr, w.heap[b]? = some (.cells C ty fr) ∧ C[o]? = some v := by
    simp only [World.cell?] at h
    cases e : w.heap[b]? with
    | none => simp [e] at h
    | some ob =>
      cases ob with
      | cells C ty fr => exact ⟨C, ty, fr, rfl, by simpa [e] using h⟩
      | _ => simp [e] at h
  obtain ⟨C, ty, fr, e, hc⟩ := hl
  have hlt : b < w.heap.size := lt_of_block e
  have e' : w.heap[b] = .cells C ty fr := by simpa [Array.getElem?_eq_getElem hlt] using e
  have hs : C.setIfInBounds o v = C := by
    apply Array.ext_getElem?
    intro i
    by_cases hi : o = i
    · subst hi
      rw [Array.getElem?_setIfInBounds_self, hc]
      split <;> first | rfl | (rename_i hn; rw [Array.getElem?_eq_none (by omega)] at hc; cases hc)
    · rw [Array.getElem?_setIfInBounds_ne hi]
  unfold World.setCell
  congr 1
  apply Array.ext_getElem?
  intro i
  by_cases hi : b = i
  · subst hi
    rw [Array.getElem?_eq_getElem (by simpa using hlt), Array.getElem_modify_self, e', e]
    simp [hs]
  · by_cases h2 : i < w.heap.size
    · rw [Array.getElem?_eq_getElem (by simpa using h2), Array.getElem_modify_of_ne hi, Array.getElem?_eq_getElem h2]
    · rw [Array.getElem?_eq_none (by simp; omega), Array.getElem?_eq_none (by omega)]
theorem eight {p : List UInt8} (h : p.length = 8) : ∃ a b c d e f g i, p = [a, b, c, d, e, f, g, i] := by
  match p, h with
  | [a, b, c, d, e, f, g, i], _ => exact ⟨a, b, c, d, e, f, g, i, rfl⟩
def agU8 (l : List UInt8) : Value := .agg (U8 l)
set_option maxRecDepth 100000 in
set_option maxHeartbeats 2000000 in
theorem ends_own {w0 w : World} {L : List Piece} (O : Own w0 w L) (x : List UInt8) (hx : x.length = 128) :
    Calls Tryz.prog 59 #[.string ⟨x.toArray⟩] w fun e w' => e = .returned (.tuple #[agU8 (x.take 8), agU8 (x.drop 120)]) ∧ Own w0 w' L := by
  have O1 := O.newBox (U8 (List.replicate 8 0)) 110
  have O2 := O1.newBox (U8 (List.replicate 8 0)) 110
  clear O O1
  obtain ⟨b, hb⟩ : ∃ b, b = w.heap.size := ⟨_, rfl⟩
  have hb2 : (w.alloc (.cells (U8 (List.replicate 8 0)) 110)).heap.size = b + 1 := by rw [hb]; simp
  rw [hb2, ← hb] at O2
  have h8 : (List.replicate 8 (0 : UInt8)).length ≤ x.length := by simp; omega
  obtain ⟨W, hW⟩ : ∃ W, W = (w.alloc (.cells (U8 (List.replicate 8 0)) 110)).alloc (.cells (U8 (List.replicate 8 0)) 110) := ⟨_, rfl⟩
  rw [← hW] at O2
  have O3 := O2.pick 1
  have HB := Lib.hid hb
  have HW := Lib.hid hW
  have H8 := Lib.hid h8
  clear O2 hb2 hb hW h8
  go_enter Tryz.func59, Tryz.ntmps59
  go_upto_region 1 with fail
  rw [← HB.out]
  change Code.wp _ _ _ _ ((w.alloc (.cells (U8 (List.replicate 8 0)) 110)).alloc (.cells (U8 (List.replicate 8 0)) 110))
  rw [← HW.out]
  go_wp2_with (refine wpList_copy_longO rfl _ _ rfl O3 x H8.out 8 8 rfl rfl rfl ?_)
  intro w2 O4
  have hd8 : (List.replicate 8 (0 : UInt8)).length ≤ (x.drop 120).length := by simp; omega
  have HD8 := Lib.hid hd8
  have E1 : (⟨x.toArray⟩ : ByteArray).extract 120 128 = ⟨(x.drop 120).toArray⟩ := by rw [mk_extract]; exact congrArg (fun l : List UInt8 => (⟨l.toArray⟩ : ByteArray)) (by rw [← hx]; simp)
  have O5 := (O4.pick 1).drew
  clear O3 O4 hd8
  go_wp2_with fail
  have hw120 : IntKind.i64.wrap 120 = 120 := by rfl
  have hb120 : (⟨x.toArray⟩ : ByteArray).size = 128 := by simp [ByteArray.size, hx]
  go_still_tail 6, (by kernel_rfl)
  go_wp2_with (refine wpList_copy_longO rfl _ _ rfl O5 (x.drop 120) HD8.out 8 8 rfl rfl rfl ?_)
  intro w3 O6
  obtain ⟨p, hp⟩ : ∃ p, p = x.take 8 := ⟨_, rfl⟩
  obtain ⟨q, hq⟩ : ∃ q, q = (x.drop 120).take 8 := ⟨_, rfl⟩
  rw [← hp, ← hq] at O6
  obtain ⟨a0, a1, a2, a3, a4, a5, a6, a7, ea⟩ := eight (p := p) (by rw [hp]; simp; omega)
  obtain ⟨b0, b1, b2, b3, b4, b5, b6, b7, eb⟩ := eight (p := q) (by rw [hq]; simp; omega)
  rw [ea, eb] at O6
  have O7 := O6.pick 1
  have ca0 : w3.cell? ⟨b, 0, none⟩ = some (.int .u8 (a0.toNat : Int)) := by rw [O7.cell]; rfl
  have cb0 : w3.cell? ⟨b + 1, 0, none⟩ = some (.int .u8 (b0.toNat : Int)) := by rw [O6.cell]; rfl
  have sa0 := setCell_same ca0
  have sb0 := setCell_same cb0
  have fa0 := O7.free 0
  have fb0 := O6.free 0
  have ca1 : w3.cell? ⟨b, 1, none⟩ = some (.int .u8 (a1.toNat : Int)) := by rw [O7.cell]; rfl
  have cb1 : w3.cell? ⟨b + 1, 1, none⟩ = some (.int .u8 (b1.toNat : Int)) := by rw [O6.cell]; rfl
  have sa1 := setCell_same ca1
  have sb1 := setCell_same cb1
  have fa1 := O7.free 1
  have fb1 := O6.free 1
  have ca2 : w3.cell? ⟨b, 2, none⟩ = some (.int .u8 (a2.toNat : Int)) := by rw [O7.cell]; rfl
  have cb2 : w3.cell? ⟨b + 1, 2, none⟩ = some (.int .u8 (b2.toNat : Int)) := by rw [O6.cell]; rfl
  have sa2 := setCell_same ca2
  have sb2 := setCell_same cb2
  have fa2 := O7.free 2
  have fb2 := O6.free 2
  have ca3 : w3.cell? ⟨b, 3, none⟩ = some (.int .u8 (a3.toNat : Int)) := by rw [O7.cell]; rfl
  have cb3 : w3.cell? ⟨b + 1, 3, none⟩ = some (.int .u8 (b3.toNat : Int)) := by rw [O6.cell]; rfl
  have sa3 := setCell_same ca3
  have sb3 := setCell_same cb3
  have fa3 := O7.free 3
  have fb3 := O6.free 3
  have ca4 : w3.cell? ⟨b, 4, none⟩ = some (.int .u8 (a4.toNat : Int)) := by rw [O7.cell]; rfl
  have cb4 : w3.cell? ⟨b + 1, 4, none⟩ = some (.int .u8 (b4.toNat : Int)) := by rw [O6.cell]; rfl
  have sa4 := setCell_same ca4
  have sb4 := setCell_same cb4
  have fa4 := O7.free 4
  have fb4 := O6.free 4
  have ca5 : w3.cell? ⟨b, 5, none⟩ = some (.int .u8 (a5.toNat : Int)) := by rw [O7.cell]; rfl
  have cb5 : w3.cell? ⟨b + 1, 5, none⟩ = some (.int .u8 (b5.toNat : Int)) := by rw [O6.cell]; rfl
  have sa5 := setCell_same ca5
  have sb5 := setCell_same cb5
  have fa5 := O7.free 5
  have fb5 := O6.free 5
  have ca6 : w3.cell? ⟨b, 6, none⟩ = some (.int .u8 (a6.toNat : Int)) := by rw [O7.cell]; rfl
  have cb6 : w3.cell? ⟨b + 1, 6, none⟩ = some (.int .u8 (b6.toNat : Int)) := by rw [O6.cell]; rfl
  have sa6 := setCell_same ca6
  have sb6 := setCell_same cb6
  have fa6 := O7.free 6
  have fb6 := O6.free 6
  have ca7 : w3.cell? ⟨b, 7, none⟩ = some (.int .u8 (a7.toNat : Int)) := by rw [O7.cell]; rfl
  have cb7 : w3.cell? ⟨b + 1, 7, none⟩ = some (.int .u8 (b7.toNat : Int)) := by rw [O6.cell]; rfl
  have sa7 := setCell_same ca7
  have sb7 := setCell_same cb7
  have fa7 := O7.free 7
  have fb7 := O6.free 7
  have fin : Value.tuple #[agU8 (x.take 8), agU8 (x.drop 120)] = .tuple #[agU8 [a0, a1, a2, a3, a4, a5, a6, a7], agU8 [b0, b1, b2, b3, b4, b5, b6, b7]] := by
    rw [← hp, ea, ← eb, hq, List.take_of_length_le (by simp; omega)]
  have FIN := Lib.hid fin
  have HO := O7.drop.drop
  clear E1 hb120 hw120 O5 O6 O7 hp hq ea eb fin
  go_wp2
  refine bodyPost_ret (by simp [results, Tryz.results59, go_sem, ca0, cb0, ca1, cb1, ca2, cb2, ca3, cb3, ca4, cb4, ca5, cb5, ca6, cb6, ca7, cb7]; try rfl) rfl ?_
  refine ⟨?_, HO⟩
  rw [FIN.out]
  rfl
end Go.Proofs.YtnlppcjfpmnahaaGreatDoor
