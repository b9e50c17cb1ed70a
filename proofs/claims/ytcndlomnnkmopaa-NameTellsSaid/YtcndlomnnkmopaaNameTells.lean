/- NameTells: the walk. -/
import Derived.Test.YtcndlomnnkmopaaNameK
import Derived.Test.YtcndlomnnkmopaaNameL
import Derived.Test.YtcndlomnnkmopaaNameE
namespace Go.Proofs.Ytcndlomnnkmopaa
set_option linter.all false
open Go.RowKit Go.Shelf

theorem foldV_is (s : List UInt8) : ∃ (x : List UInt8) (n : Int), foldV s = .tuple #[.string ⟨x.toArray⟩, .int .i64 n] := by
  unfold foldV; split
  · exact ⟨_, _, rfl⟩
  · exact ⟨[], _, rfl⟩
theorem parentV_is (s : List UInt8) : ∃ (x : List UInt8) (b : Bool), parentV s = .tuple #[.string ⟨x.toArray⟩, .bool b] := by
  unfold parentV; split
  · exact ⟨_, _, rfl⟩
  · exact ⟨[], _, rfl⟩
theorem labels3_len (s : List UInt8) : (labels3 s).length ≤ s.length + 1 := by
  unfold labels3; split
  · exact cut46_len s
  · simp

set_option maxRecDepth 100000 in
set_option maxHeartbeats 1000000 in
theorem nameTells_walk (s : List UInt8) (hs : s.length ≤ 140737488351232) (w : World) :
    Calls Try.prog 7 #[.string ⟨s.toArray⟩] w fun e w' => e = .returned (.bool true) ∧ Below w.heap.size w w' := by
  have O := Own.start w
  by_cases h5 : 5000 < (s.length : Int)
  · go_enter Try.func7, Try.ntmps7
    go_wp2_with fail
    refine (awake_any _).mono ?_
    rintro e w2 ⟨rfl, ch2⟩
    go_wp2
    go_ret
    exact ⟨rfl, (O.pure ch2).below⟩
  have ls : s.length ≤ 5000 := by omega
  obtain ⟨fx, fe, hf⟩ := foldV_is s
  obtain ⟨px, pb, hp⟩ := parentV_is s
  obtain ⟨mb, hm⟩ : ∃ b, may s = b := ⟨_, rfl⟩
  have HF := Lib.hid hf; have HP := Lib.hid hp; have HM := Lib.hid hm
  clear hf hp hm
  go_enter Try.func7, Try.ntmps7
  go_wp2_with fail
  refine (fold_any s _ (by omega)).mono ?_
  rw [HF.out]
  rintro e w2 ⟨rfl, ch2⟩
  replace O := O.pure ch2; clear ch2
  go_wp2_with fail
  refine (fold3_any s _ (by omega)).mono ?_
  rw [HF.out]
  rintro e w3 ⟨rfl, ch2⟩
  replace O := O.pure ch2; clear ch2
  go_wp2_with fail
  refine (parent_any s _ (by omega)).mono ?_
  rw [HP.out]
  rintro e w4 ⟨rfl, ch2⟩
  replace O := O.pure ch2; clear ch2
  go_wp2_with fail
  refine (parent3_any s _ (by omega)).mono ?_
  rw [HP.out]
  rintro e w5 ⟨rfl, ch2⟩
  replace O := O.pure ch2; clear ch2
  go_wp2_with fail
  refine (may_is HM.out _ (by omega)).mono ?_
  rintro e w6 ⟨rfl, ch2⟩
  replace O := O.pure ch2; clear ch2
  go_wp2_with fail
  refine (may3_any s _ (by omega) _ HM.out).mono ?_
  rintro e w7 ⟨rfl, ch2⟩
  replace O := O.pure ch2; clear ch2
  go_wp2_with fail
  clear HF HP HM
  have HLL := labels3_len s
  go_loopw [11] (fun iv wr => ∃ k : Nat, k ≤ 2 ∧ iv = .int .i64 k ∧ Own w wr []) (fun iv _ => 2 - (intOf iv).toNat)
  case atStart => exact ⟨0, by omega, rfl, O⟩
  case round =>
    clear O
    obtain ⟨k, hk, rfl, O⟩ := hrel
    by_cases hlt : k < 2
    · have hb1 : (k : Int) < 2 := by omega
      go_wp2_with fail
      refine (labels_any O s (by omega)).mono ?_
      clear O
      rintro e w8 ⟨v1, rfl, O⟩
      obtain ⟨a1, c1, rfl⟩ := O.shape
      go_wp2_with fail
      refine (labels3_any O s (by omega)).mono ?_
      clear O
      rintro e w9 ⟨v2, rfl, O⟩
      obtain ⟨a2, c2, rfl⟩ := O.shape
      go_wp2_with fail
      refine (same_any _ _ _ (labels3 s) (labels3 s) _ _ (O.pick 1).strsR O.strsR (by omega) true (by simp)).mono ?_
      rintro e w10 ⟨rfl, n, rfl⟩
      replace O := (O.drewN n).drop
      obtain ⟨N, hN⟩ : ∃ N, N = (labels3 s).length := ⟨_, rfl⟩
      obtain ⟨lst, hlst⟩ : ∃ ls, ls = labels3 s := ⟨_, rfl⟩
      have O2 : ∃ ls : List (List UInt8), ls.length = N ∧ Own w (w9.drewN n) [strs (.slice a1 N c1) ls] := ⟨labels3 s, hN.symm, by rw [hN]; exact O⟩
      have hN' : N ≤ 5001 := by omega
      rw [← hN]
      clear hN hlst O
      obtain ⟨ls, hls, O⟩ := O2
      go_wp2_with fail
      go_loopw [13] (fun iv wr => ∃ (j : Nat) (ls : List (List UInt8)), j ≤ N ∧ iv = .int .i64 j ∧ ls.length = N ∧ Own w wr [strs (.slice a1 N c1) ls]) (fun iv _ => N - (intOf iv).toNat)
      case atStart => exact ⟨0, ls, by omega, rfl, hls, O⟩
      case round =>
        clear O hls
        obtain ⟨j, ls, hj, rfl, hls, O⟩ := hrel
        by_cases hjl : j < N
        · have hb2 : (j : Int) < (N : Int) := by omega
          have hjl' : j < ls.length := by omega
          obtain ⟨g, cc, hv⟩ := O.shapeNe (by omega)
          simp only [Value.slice.injEq] at hv
          obtain ⟨rfl, -, rfl⟩ := hv
          obtain ⟨old, cm⟩ : ∃ u : ByteArray, wr.cell? ⟨g, j, none⟩ = some (.string u) := ⟨_, (O.readRow j hjl').2.1⟩
          have cf := (O.readRow j hjl').2.2
          have O3 := O.store j [115, 112, 111, 105, 108, 116]
          have HL := Lib.hid hls; clear hls hjl'
          go_wp2
          go_roundw
          case rel => exact ⟨j + 1, _, by omega, by go_num, by rw [List.length_set]; exact HL.out, O3⟩
          case measure => simp [intOf]; omega
        · have hb2 : ¬ (j : Int) < (N : Int) := by omega
          clear hls
          go_wp2
          go_roundw
          case rel => exact ⟨k + 1, by omega, by go_num, O.drop⟩
          case measure => simp [intOf]; omega
    · have hb1 : ¬ (k : Int) < 2 := by omega
      go_wp2_with fail
      refine (awake_any _).mono ?_
      rintro e w2 ⟨rfl, ch2⟩
      go_wp2
      go_ret
      exact ⟨rfl, (O.pure ch2).below⟩
end Go.Proofs.Ytcndlomnnkmopaa
