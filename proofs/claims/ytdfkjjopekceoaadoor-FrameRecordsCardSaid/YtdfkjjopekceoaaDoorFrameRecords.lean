/- FrameRecords: the walk. -/
import Derived.Test.YtdfkjjopekceoaaDoorFmY
import Derived.Test.YtdfkjjopekceoaaDoorSame
namespace Go.Proofs.YtdfkjjopekceoaaDoor
set_option linter.all false
open Go.RowKit

theorem joinV_is (age place : Int) (ss : List (List UInt8)) : ∃ (T : List UInt8) (n : Int) (b : Bool), joinV age place ss = .tuple #[.string ⟨T.toArray⟩, .int .i64 n, .bool b] := by
  unfold joinV
  cases joinB age place ss
  · exact ⟨[], 0, false, rfl⟩
  · exact ⟨_, _, true, rfl⟩
theorem splitX_len (age place : Int) (s : List UInt8) : (splitX age place s).length ≤ 1024 := by
  by_cases h : splitE age place s = 0
  · obtain ⟨r1, r2, r3⟩ := splitE_zero h
    have hr : RecOk age place s := ⟨r1, r2⟩
    rw [r3, split_len]
    exact hr.bounds.2.2.2.2.1
  · rw [splitX_nil h]; simp
theorem wfR {n : Int} (h : (Lit.int .i64 n).wf = true) : -9223372036854775808 ≤ n ∧ n < 9223372036854775808 := by
  simp [Lit.wf] at h
  have e : IntKind.i64.min = -9223372036854775808 := by rfl
  omega
/-- Many of whatever number -/
def manyI (n : Int) : Int := if n < 0 then 0 else ((manyN n.toNat : Nat) : Int)
theorem many_int (n : Int) (h : -9223372036854775808 ≤ n ∧ n < 9223372036854775808) (w : World) : Calls Tryd.prog 13 #[.int .i64 n] w fun e w' => e = .returned (.int .i64 (manyI n)) ∧ w = w' := by
  unfold manyI
  by_cases h0 : n < 0
  · rw [if_pos h0]; exact many_neg n h0 w
  · rw [if_neg h0]
    obtain ⟨k, rfl⟩ : ∃ k : Nat, n = (k : Int) := ⟨n.toNat, by omega⟩
    exact many_all k (by omega) w
theorem manyR_int (n : Int) (h : -9223372036854775808 ≤ n ∧ n < 9223372036854775808) (w : World) : Calls Tryd.prog 14 #[.int .i64 n] w fun e w' => e = .returned (.int .i64 (manyI n)) ∧ w = w' := by
  unfold manyI
  by_cases h0 : n < 0
  · rw [if_pos h0]; exact manyR_neg n h0 w
  · rw [if_neg h0]
    obtain ⟨k, rfl⟩ : ∃ k : Nat, n = (k : Int) := ⟨n.toNat, by omega⟩
    exact manyR_nat k (by omega) w
set_option maxRecDepth 100000 in
set_option maxHeartbeats 4000000 in
theorem frameRecords_walk {w : World} (age : Int) (ha : (Lit.int .i64 age).wf = true) (place : Int) (hp : (Lit.int .i64 place).wf = true) (s : List UInt8) (hs : s.length ≤ 140737488351232) (long : Int) (hlo : (Lit.int .i64 long).wf = true) (vt : Value) (TS : List (List UInt8)) (G : List Nat) (st : StrsR w vt TS G) (bt : ∀ s ∈ TS, s.length ≤ maxLen) (gt : ∀ k ∈ G, k < w.heap.size) (ct : TS.length ≤ maxLen) (kt : Kind vt) :
    Calls Tryd.prog 3 #[.int .i64 age, .int .i64 place, .string ⟨s.toArray⟩, .int .i64 long, vt] w fun e w' => e = .returned (.bool true) ∧ Below w.heap.size w w' := by
  have O := Own.start w
  have hlr := wfR hlo
  have st0 := st
  obtain ⟨at0, capt, rfl, -⟩ := st
  obtain ⟨LEN, hLEN⟩ : ∃ LEN, LEN = TS.length := ⟨_, rfl⟩
  rw [← hLEN] at st0 kt ⊢
  have ST := Lib.hid st0
  have KT := Lib.hid kt
  have HLEN := Lib.hid hLEN
  clear hLEN bt gt kt st0
  go_enter Tryd.func3, Tryd.ntmps3
  by_cases hs3 : (5000 : Int) < (s.length : Int)
  · go_wp2_with fail
    refine (awake11 O).mono ?_
    rintro e w1 ⟨rfl, O1⟩
    go_wp2
    go_returns
    exact ⟨rfl, O1.below⟩
  by_cases hb3 : (60 : Int) < (LEN : Int)
  · go_wp2_with fail
    refine (awake11 O).mono ?_
    rintro e w1 ⟨rfl, O1⟩
    go_wp2
    go_returns
    exact ⟨rfl, O1.below⟩
  go_wp2_with fail
  go_loopw [11] (fun iv wr => ∃ i : Nat, iv = .int .i64 i ∧ i ≤ LEN ∧ wr = w) (fun iv _ => LEN - (intOf iv).toNat)
  case atStart => exact ⟨0, rfl, by omega, rfl⟩
  case round =>
    obtain ⟨i, rfl, hi, rfl⟩ := hrel
    by_cases hlt : i < LEN
    · have hb1 : (i : Int) < (LEN : Int) := by omega
      have hil : i < TS.length := by have := HLEN.out; omega
      obtain ⟨g, off, rfl, cm⟩ := ST.out.read hil
      obtain ⟨t, ht⟩ : ∃ t, t = TS[i] := ⟨_, rfl⟩
      rw [← ht] at cm
      have wi : IntKind.i64.wrap ((i : Int) + 1) = (i : Int) + 1 := i64_wraps _ (by omega) (by omega)
      clear ht
      by_cases h3 : (300 : Int) < (t.length : Int)
      · go_wp2_with fail
        refine (awake11 O).mono ?_
        rintro e w1 ⟨rfl, O1⟩
        go_wp2
        go_returns
        exact ⟨rfl, O1.below⟩
      · go_wp2
        exact ⟨⟨i + 1, by go_num, by omega, trivial⟩, by simp [intOf]; omega⟩
    · have hb1 : ¬ (i : Int) < (LEN : Int) := by omega
      go_wp2_with fail
      refine (split_any O age place s hs).mono ?_
      rintro e w8 ⟨v1, rfl, O1⟩
      obtain ⟨SS, hSS⟩ : ∃ SS, SS = splitX age place s := ⟨_, rfl⟩
      obtain ⟨E, hE⟩ : ∃ E, E = splitE age place s := ⟨_, rfl⟩
      rw [← hE]
      rw [← hSS] at O1
      have HSS := Lib.hid hSS
      have HE := Lib.hid hE
      have HSL := Lib.hid (show SS.length ≤ 1024 by rw [hSS]; exact splitX_len _ _ _)
      clear hSS hE O
      obtain ⟨a1, cap1, rfl⟩ := O1.shape
      go_wp2_with fail
      refine (splitR_any O1 age place s hs).mono ?_
      clear O1
      rintro e w9 ⟨v2, rfl, O⟩
      rw [← HSS.out] at O
      rw [← HE.out]
      obtain ⟨a2, cap2, rfl⟩ := O.shape
      have hsA := (O.pick 1).strsR
      have hsB := O.strsR
      go_wp2_with fail
      refine (same_any _ _ _ SS SS _ _ hsA hsB (by have := HSL.out; omega) true (by simp)).mono ?_
      rintro e w10 ⟨rfl, n, rfl⟩
      replace O := (O.drewN n).sel [0]
      try simp only [List.map_cons, List.map_nil, List.getD_cons_zero, List.getD_cons_succ, List.eraseIdx_cons_zero, List.eraseIdx_cons_succ, List.getElem_cons_zero, List.getElem_cons_succ] at O
      clear hsA hsB
      generalize w9.drewN n = w11 at O ⊢
      go_wp2_with fail
      refine (many_int long hlr _).mono ?_
      rintro e w12 ⟨rfl, rfl⟩
      go_wp2_with fail
      refine (manyR_int long hlr _).mono ?_
      rintro e w12 ⟨rfl, rfl⟩
      go_upto_region 12 with fail
      have O2 := O.emptyS
      clear O
      go_wp2_with (at_builtin; refine wpList_append_strsO rfl _ _ rfl _ [] _ TS _ O2 rfl rfl (O2.came ST.out) KT.out (by have := HLEN.out; simp; omega) ?_)
      intro v3 w13 O3
      clear O2
      obtain ⟨a3, cap3, hv3⟩ := O3.shape
      have hl3 : TS.length = LEN := HLEN.out.symm
      have hv3' : v3 = .slice a3 LEN cap3 := by rw [hv3, ← hl3]
      subst hv3'
      clear hv3
      replace O3 : Own _ w13 [strs (.slice a3 LEN cap3) TS, strs (.slice a2 SS.length cap2) SS] := O3
      have O4 := O3.emptyS
      clear O3 hl3
      go_wp2_with (at_builtin; refine wpList_append_strsO rfl _ _ rfl _ [] _ SS _ O4 rfl rfl (O4.pick 2).strsR (O4.pick 2).kindS (by have := HSL.out; simp; omega) ?_)
      intro v4 w14 O5
      clear O4
      obtain ⟨a4, cap4, rfl⟩ := O5.shape
      go_wp2_with (at_builtin; refine wpList_append_strsO rfl _ _ rfl _ ([] ++ SS) _ TS _ O5 rfl rfl (O5.came ST.out) KT.out (by have := HSL.out; have := HLEN.out; simp; omega) ?_)
      intro v5 w15 O6
      clear O5
      obtain ⟨a5, cap5, rfl⟩ := O6.shape
      obtain ⟨L5, hL5⟩ : ∃ L5, L5 = (SS ++ TS).length := ⟨_, rfl⟩
      rw [← hL5] at O6 ⊢
      have HL5 := Lib.hid hL5
      clear hL5
      have O7 := O6.emptyS
      clear O6
      go_wp2_with (at_builtin; refine wpList_append_strsO rfl _ _ rfl _ [] _ TS _ O7 rfl rfl (O7.came ST.out) KT.out (by have := HLEN.out; simp; omega) ?_)
      intro v6 w16 O8
      clear O7
      obtain ⟨a6, cap6, rfl⟩ := O8.shape
      go_wp2_with (at_builtin; refine wpList_append_strsO rfl _ _ rfl _ ([] ++ TS) _ SS _ O8 rfl rfl (O8.pick 3).strsR (O8.pick 3).kindS (by have := HSL.out; have := HLEN.out; simp; omega) ?_)
      intro v7 w17 O9
      clear O8
      obtain ⟨a7, cap7, rfl⟩ := O9.shape
      obtain ⟨L7, hL7⟩ : ∃ L7, L7 = (TS ++ SS).length := ⟨_, rfl⟩
      rw [← hL7] at O9 ⊢
      have O10 := O9.newBox #[.slice a3 LEN cap3, .slice a5 L5 cap5, .slice a7 L7 cap7] 22
      obtain ⟨b, hb⟩ : ∃ b, b = w17.heap.size := ⟨_, rfl⟩
      rw [← hb] at O10
      have HB := Lib.hid hb
      have HL7 := Lib.hid hL7
      clear O9 hb hL7
      replace O10 : Own _ _ [box b #[.slice a3 LEN cap3, .slice a5 L5 cap5, .slice a7 L7 cap7] 22, strs (.slice a7 L7 cap7) (TS ++ SS), strs (.slice a5 L5 cap5) (SS ++ TS), strs (.slice a3 LEN cap3) TS] := O10.sel [0, 1, 2, 3]
      go_wp2_with fail
      rw [← HB.out]
      go_loopw [93] (fun iv wq => ∃ j : Nat, iv = .int .i64 j ∧ j ≤ 3 ∧ Own wr wq [box b #[.slice a3 LEN cap3, .slice a5 L5 cap5, .slice a7 L7 cap7] 22, strs (.slice a7 L7 cap7) (TS ++ SS), strs (.slice a5 L5 cap5) (SS ++ TS), strs (.slice a3 LEN cap3) TS]) (fun iv _ => 3 - (intOf iv).toNat)
      case atStart => exact ⟨0, rfl, by omega, O10⟩
      case round =>
        clear O10
        obtain ⟨j, rfl, hj, O⟩ := hrel
        by_cases hlt2 : j < 3
        · have hb2 : (j : Int) < 3 := by omega
          obtain ⟨ax, nx, cx, XX, GX, ct2, hsx, hxl⟩ : ∃ ax nx cx XX GX, wr.cell? ⟨b, j, none⟩ = some (.slice ax nx cx) ∧ StrsR wr (.slice ax nx cx) XX GX ∧ XX.length ≤ 1000000000 := by
            have q1 := HSL.out
            have q2 := HLEN.out
            match j, hlt2 with
            | 0, _ => exact ⟨_, _, _, _, _, O.cell 0, (O.pick 3).strsR, by omega⟩
            | 1, _ => exact ⟨_, _, _, _, _, O.cell 1, (O.pick 2).strsR, by rw [List.length_append]; omega⟩
            | 2, _ => exact ⟨_, _, _, _, _, O.cell 2, (O.pick 1).strsR, by rw [List.length_append]; omega⟩
          obtain ⟨T, nn, bb, hJ⟩ := joinV_is age place XX
          have HJ := Lib.hid hJ
          have wj : IntKind.i64.wrap ((j : Int) + 1) = (j : Int) + 1 := i64_wraps _ (by omega) (by omega)
          clear hJ
          go_wp2_with fail
          refine (join_chg hsx age place hxl).mono ?_
          clear ct2
          rintro e w18 ⟨rfl, oj⟩
          rw [HJ.out]
          have hsx2 := hsx.keep oj.chg (by simp)
          have O2 := O.pure oj.chg
          clear oj hsx O
          go_wp2_with fail
          refine (joinR_chg hsx2 age place hxl).mono ?_
          rintro e w19 ⟨rfl, oj⟩
          rw [HJ.out]
          have O := O2.pure oj.chg
          clear oj hsx2 O2
          go_wp2
          exact ⟨⟨j + 1, by go_num, by omega, O⟩, by simp [intOf]; omega⟩
        · have hb2 : ¬ (j : Int) < 3 := by omega
          have hsA := (O.pick 3).strsR
          have hsB := O.came ST.out
          have OH := Lib.hid O
          clear O
          go_wp2_with fail
          refine (same_any _ _ _ TS TS _ _ hsA hsB (by have := HLEN.out; omega) true (by simp)).mono ?_
          rintro e w20 ⟨rfl, n2, rfl⟩
          have O := OH.out.drewN n2
          clear hsA hsB OH
          go_wp2_with fail
          refine (awake11 O).mono ?_
          clear O
          rintro e w21 ⟨rfl, O⟩
          go_wp2
          go_returns
          exact ⟨rfl, O.below⟩
end Go.Proofs.YtdfkjjopekceoaaDoor
