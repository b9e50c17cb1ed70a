/- line: whole. -/
import Derived.Test.YtnkcanhkdfckmaaDoorLinePlain
import Derived.Test.YtnkcanhkdfckmaaDoorLineShelf
import Derived.Test.YtnkcanhkdfckmaaDoorRange
import Derived.Test.YtnkcanhkdfckmaaDoorOwnIn
import Derived.Outline
namespace Go.Proofs.YtnkcanhkdfckmaaDoor
set_option linter.all false
open Go.RowKit Go.Shelf
attribute [local go_sem] Oper.semAt_some

def boxS (B : Nat) (x : List UInt8) : Piece := box B #[.string ⟨x.toArray⟩] 9
theorem whole_own {w0 w : World} {L : List Piece} (O : Own w0 w L) (l : List UInt8) :
    Calls Tryd.prog 48 #[.string ⟨l.toArray⟩] w fun e w' => ∃ B, e = .returned (.func (.func 65) #[] #[.pointer (some ⟨B, 0, none⟩)]) ∧ Own w0 w' (boxS B l :: L) := by
  go_enter Tryd.func48, Tryd.ntmps48
  go_wp2
  go_ret
  exact ⟨w.heap.size, rfl, O.newBox _ _⟩

def encW (s : List UInt8) (k : Nat) : Array Value := #[.string ⟨((cutL s).1.getD k []).toArray⟩, .int .i64 (atL (cutL s).1 (k + 1) : Nat)]
theorem index_crlf (s : List UInt8) {r : Int} (m : Int) (w : World) (hs : s.length < 4294967281) (hm : w.cell? ⟨0, 0, none⟩ = some (.int .i64 m)) (hr : Lib.index s crlf = r) :
    Calls Tryd.prog 66 #[.string ⟨s.toArray⟩, .string ⟨#[13, 10]⟩] w fun e w' => e = .returned (.int .i64 r) ∧ w = w' := by
  have h := Tryd.strings_Index ⟨s.toArray⟩ ⟨#[13, 10]⟩ m w (by simpa [ByteArray.size] using hs) hm
  rw [← hr]
  exact h.mono fun e w' ⟨h1, h2⟩ => ⟨h1, h2.symm⟩
def linesN (l : List UInt8) : List Nat := List.range (cutL l).1.length
theorem getD_of {α : Type} {l : List α} {k : Nat} (h : k < l.length) (d : α) : l.getD k d = l[k] := by simp [h]
set_option maxHeartbeats 1000000 in
theorem whole_iter (l : List UInt8) (hl : l.length ≤ 1000000000) (B : Nat) (w0 : World) (m : Int) (hm : w0.cell? ⟨0, 0, none⟩ = some (.int .i64 m)) : IterW w0 Tryd.prog 65 #[.pointer (some ⟨B, 0, none⟩)] (encW l) (linesN l) (fun _ => boxS B l) := by
  intro n lp R Rx hY L W O h0
  have hlen : (linesN l).length = (cutL l).1.length := by simp [linesN]
  refine callsIn_of_wp Tryd.func65 rfl trivial ?_
  simp only [Tryd.ntmps65, List.size_toArray, List.length_cons, List.length_nil, Nat.reduceAdd, Nat.reduceSub, Array.replicate_succ, Array.replicate_zero, List.push_toArray, List.append_toArray, List.nil_append, List.cons_append]
  have HY := Lib.hid hY; clear hY
  have HO := O
  gi_wp2_with fail
  gi_loopw [3] (fun av wr => ∃ (k : Nat) (L : List Piece), k ≤ (cutL l).1.length ∧ av = .int .i64 (atL (cutL l).1 k : Nat) ∧ Own w0 wr (boxS B l :: L) ∧ R k L) (fun av _ => l.length - (intOf av).toNat)
  case atStart => exact ⟨0, L, by omega, by rw [atL_zero]; rfl, O, h0⟩
  case round =>
    clear O HO h0
    obtain ⟨k, L, hk, rfl, O, hR⟩ := hrel
    have c0 : wr.cell? ⟨B, 0, none⟩ = some (.string ⟨l.toArray⟩) := Own.cell O 0
    have hmW := O.chg.cell hm (by simp)
    by_cases hlt : k < (cutL l).1.length
    · have HS := Lib.hid (atL_succ hlt)
      obtain ⟨e1, e2, e3⟩ := atL_next l hlt
      have E1 := Lib.hid e1; have E2 := Lib.hid e2
      have hyk := HY.out k (by rw [hlen]; exact hlt)
      have HN : Hid (encW l (linesN l)[k] = #[.string ⟨(cutL l).1[k].toArray⟩, .int .i64 (atL (cutL l).1 (k + 1) : Nat)]) := by
        unfold Hid linesN; rw [List.getElem_range]; unfold encW; rw [getD_of hlt]
      rw [HN.out] at hyk
      have HYK := Lib.hid hyk
      clear e1 e2 hyk HN
      obtain ⟨x, hx⟩ : ∃ x, x = (cutL l).1[k] := ⟨_, rfl⟩
      obtain ⟨at', hat⟩ : ∃ n, n = atL (cutL l).1 k := ⟨_, rfl⟩
      obtain ⟨at2, hat2⟩ : ∃ n, n = atL (cutL l).1 (k + 1) := ⟨_, rfl⟩
      rw [← hx, ← hat] at E1 E2 e3
      rw [← hat2] at HYK HS
      rw [← hx] at HYK HS
      rw [← hat] at HS ⊢
      have HX := Lib.hid hx; have HAT := Lib.hid hat; have HAT2 := Lib.hid hat2
      clear hx hat hat2
      have hle : at' ≤ l.length := by omega
      gi_wp2_with fail
      refine ⟨trivial, (fun h => by cases h), ?_⟩
      refine (callsIn_wide.2 (index_crlf (l.drop at') m _ (by simp; omega) hmW E1.out)).mono ?_
      rintro e w1 ⟨rfl, rfl⟩
      have b1 : (at' : Int) + (x.length : Int) ≤ (l.length : Int) := by omega
      have b2 : (at' : Int) ≤ (at' : Int) + (x.length : Int) := by omega
      have b3 : ((at' : Int) + (x.length : Int)).toNat = at' + x.length := by omega
      have tk : (l.take (at' + x.length)).drop at' = x := by rw [List.drop_take, Nat.add_sub_cancel_left]; exact E2.out
      have HYK2 := HYK.out L wr O hR
      rw [show ((at2 : Nat) : Int) = (at' : Int) + ((x.length : Int) + 2) from by have := HS.out; omega] at HYK2
      obtain ⟨fn, tmps, assign, body, hy, hRn⟩ := HYK2
      clear HYK
      gi_wp2_with fail
      refine ⟨(fun h => by cases h), ?_⟩
      refine hRn.mono ?_
      clear hRn hy O c0 hmW
      rintro e W3 (⟨rfl, L', O3, hR3⟩ | ⟨rfl, L', O3, hx⟩)
      · gi_wp2
        go_roundw
        case rel => exact ⟨k + 1, L', by omega, by rw [← HAT2.out, HS.out]; congr 1, O3, hR3⟩
        case measure => simp [intOf]; omega
      · gi_wp2
        refine bodyPost_ret (results_none rfl _ _ _) rfl ?_
        exact ⟨⟨_, rfl⟩, .inr ⟨_, O3.drop, hx⟩⟩
    · obtain rfl : k = (cutL l).1.length := by omega
      have E1 := Lib.hid (atL_end l)
      obtain ⟨-, -, hle⟩ := cutL_join l
      obtain ⟨at', hat⟩ : ∃ n, n = atL (cutL l).1 (cutL l).1.length := ⟨_, rfl⟩
      rw [← hat] at E1 hle ⊢
      clear hat
      gi_wp2_with fail
      refine ⟨trivial, (fun h => by cases h), ?_⟩
      refine (callsIn_wide.2 (index_crlf (l.drop at') m _ (by simp; omega) hmW E1.out)).mono ?_
      rintro e w1 ⟨rfl, rfl⟩
      gi_wp2
      refine bodyPost_ret (results_none rfl _ _ _) rfl ?_
      exact ⟨⟨_, rfl⟩, .inl ⟨L, O.drop, by rw [hlen]; exact hR⟩⟩
end Go.Proofs.YtnkcanhkdfckmaaDoor
