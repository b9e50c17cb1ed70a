/- frame: the document's Put, Get, Age. -/
import Derived.Test.YtdfkjjopekceoaaDoorFmU
namespace Go.Proofs.YtdfkjjopekceoaaDoor
set_option linter.all false
open Go.RowKit

def strLen : Value → Nat
  | .string b => b.size
  | _ => 0
theorem strLen_str (l : List UInt8) : strLen (.string ⟨l.toArray⟩) = l.length := by simp [strLen, ByteArray.size]
theorem stamp_leb (age place : Int) : lebL age 4 ++ lebL place 4 = stampL age place := rfl
set_option maxRecDepth 100000 in
set_option maxHeartbeats 2000000 in
theorem putR_any {w0 w : World} {L : List Piece} (O : Own w0 w L) (age place : Int) (s : List UInt8) :
    Calls Tryd.prog 19 #[.int .i64 age, .int .i64 place, .string ⟨s.toArray⟩] w fun e w' => e = .returned (.tuple #[.string ⟨(putX age place s).toArray⟩, .int .i64 (putE age place s)]) ∧ Own w0 w' L := by
  unfold putX putE
  cases hm : mayB age place with
  | false =>
    have H := Lib.hid hm
    clear hm
    go_enter Tryd.func19, Tryd.ntmps19
    go_wp2_with fail
    refine (mayR_any age place _).mono ?_
    rw [H.out]
    rintro e w1 ⟨rfl, rfl⟩
    go_wp2
    go_returns
    exact ⟨rfl, O⟩
  | true =>
    have H := Lib.hid hm
    obtain ⟨b1, b2, b3, b4⟩ := mayB_iff.1 hm
    clear hm
    by_cases hs : s.length ≤ 112
    rotate_left
    · rw [decide_eq_false hs]
      have hb : (112 : Int) < (s.length : Int) := by omega
      clear hs
      go_enter Tryd.func19, Tryd.ntmps19
      go_wp2_with fail
      refine (mayR_any age place _).mono ?_
      rw [H.out]
      rintro e w1 ⟨rfl, rfl⟩
      go_wp2
      go_returns
      exact ⟨rfl, O⟩
    rw [decide_eq_true hs]
    have hb : ¬ (112 : Int) < (s.length : Int) := by omega
    have HS := Lib.hid hs
    clear hs
    go_enter Tryd.func19, Tryd.ntmps19
    go_wp2_with fail
    refine (mayR_any age place _).mono ?_
    rw [H.out]
    rintro e w1 ⟨rfl, rfl⟩
    go_wp2_with fail
    refine (bytesR_own O age (by omega) (by omega) 4 (by omega)).mono ?_
    clear O
    rintro e w2 ⟨rfl, O⟩
    obtain ⟨T1, hT1⟩ : ∃ T1, T1 = lebL age 4 := ⟨_, rfl⟩
    have l1 : T1.length = 4 := by rw [hT1]; rfl
    rw [← hT1]
    have HT1 := Lib.hid hT1
    clear hT1
    go_wp2_with fail
    refine (bytesR_own O place (by omega) (by omega) 4 (by omega)).mono ?_
    clear O
    rintro e w3 ⟨rfl, O⟩
    obtain ⟨T2, hT2⟩ : ∃ T2, T2 = lebL place 4 := ⟨_, rfl⟩
    have l2 : T2.length = 4 := by rw [hT2]; rfl
    rw [← hT2]
    obtain ⟨T, hT⟩ : ∃ T, T = T1 ++ T2 := ⟨_, rfl⟩
    have s1 := run_sum T1 T2 T hT (by omega)
    have HT := Lib.hid (show T = stampL age place by rw [hT, HT1.out, hT2]; rfl)
    have HTL := Lib.hid (show T.length = 8 by rw [HT.out, stampL_len])
    clear hT2 hT l1 l2
    go_wp2_with fail
    clear s1
    go_loopw [2] (fun sv wr => ∃ k : Nat, s.length + k ≤ 112 ∧ sv = .string ⟨(s ++ List.replicate k 0).toArray⟩ ∧ Own w0 wr L) (fun sv _ => 112 - strLen sv)
    case atStart => exact ⟨0, HS.out, by simp, O⟩
    case round =>
      clear O
      obtain ⟨k, hk, rfl, O⟩ := hrel
      have hsl : (s ++ List.replicate k (0 : UInt8)).length = s.length + k := by simp
      obtain ⟨S, hS⟩ : ∃ S, S = s ++ List.replicate k (0 : UInt8) := ⟨_, rfl⟩
      rw [← hS] at hsl ⊢
      by_cases hlt : S.length < 112
      · have hb1 : (S.length : Int) < 112 := by omega
        obtain ⟨S2, hS2⟩ : ∃ S2, S2 = S ++ [0] := ⟨_, rfl⟩
        have sm := run_sum S [0] S2 hS2 (by simp; omega)
        have O1 := O.newBox (U8 [0]) 5
        have cv : (convert 49 9 (.slice (some ⟨wr.heap.size, 0, none⟩) 1 1)).run Tryd.prog (wr.alloc (.cells #[.int .u8 0] 5)) = .ok (.string ⟨#[0]⟩) (wr.alloc (.cells #[.int .u8 0] 5)) := O1.boxBytes 0 1 1 (by simp)
        have O2 := Lib.hid O1.drop
        have HS2 := Lib.hid (show S2 = s ++ List.replicate (k + 1) 0 by rw [hS2, hS, List.replicate_succ', List.append_assoc])
        have HL2 := Lib.hid (show S2.length = S.length + 1 by rw [hS2]; simp)
        have HSL := Lib.hid hsl
        clear hsl hS2 hS O O1
        go_wp2
        refine ⟨⟨k + 1, by have := HSL.out; omega, by rw [HS2.out], O2.out⟩, ?_⟩
        rw [strLen_str, strLen_str, HL2.out]
        omega
      · have hb1 : ¬ (S.length : Int) < 112 := by omega
        have HF := Lib.hid (show putS age place s = (T ++ S) ++ T by
          unfold putS
          rw [HT.out, hS, show 112 - s.length = k by omega]
          simp)
        obtain ⟨U, hU⟩ : ∃ U, U = T ++ S := ⟨_, rfl⟩
        obtain ⟨V, hV⟩ : ∃ V, V = U ++ T := ⟨_, rfl⟩
        have hTl := HTL.out
        have hUl : U.length = 8 + S.length := by rw [hU, List.length_append, hTl]
        have s2 := run_sum T S U hU (by omega)
        have s3 := run_sum U T V hV (by omega)
        have HV := Lib.hid (show putS age place s = V by rw [HF.out, hV, hU])
        clear hU hV hTl hUl hS hsl
        go_wp2
        go_returns
        refine ⟨?_, O⟩
        show Ending.returned (.tuple #[_, _]) = Ending.returned (.tuple #[.string ⟨(putS age place s).toArray⟩, .int .i64 0])
        rw [HV.out]
        rfl
end Go.Proofs.YtdfkjjopekceoaaDoor
