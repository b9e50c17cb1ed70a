/- addr: slices.ContainsFunc over the kinds; Parse. -/
import Derived.Test.YtehkdbgoeakgbaaDoorAdC
namespace Go.Proofs.YtehkdbgoeakgbaaDoor
set_option linter.all false
open Go.RowKit

set_option maxHeartbeats 1000000 in
theorem indexKinds_own {w0 w : World} {L : List Piece} {S T : Nat} {s : List UInt8} {a : Nat} (K : Kinds w0) (O : Own w0 w (box S #[.string ⟨s.toArray⟩] 9 :: box T #[.int .i64 a] 3 :: L)) (ha : a ≤ s.length) (hs : s.length ≤ 140737488351232) :
    Calls Tryd.prog 87 #[.slice (some ⟨0, 0, none⟩) 2 2, .func (.func 76) #[] #[.pointer (some ⟨S, 0, none⟩), .pointer (some ⟨T, 0, none⟩)]] w
      fun e w' => e = .returned (.int .i64 (bif atomsB (s.take a) then 0 else bif quotedB (s.take a) then 1 else -1)) ∧ Own w0 w' (box S #[.string ⟨s.toArray⟩] 9 :: box T #[.int .i64 a] 3 :: L) := by
  have IS0 := fun w (O : Own w0 w (box S #[.string ⟨s.toArray⟩] 9 :: box T #[.int .i64 a] 3 :: L)) => is_own O ha hs false
  have IS1 := fun w (O : Own w0 w (box S #[.string ⟨s.toArray⟩] 9 :: box T #[.int .i64 a] 3 :: L)) => is_own O ha hs true
  dsimp only [cond_false, cond_true] at IS0 IS1
  generalize atomsB (s.take a) = x at IS0 ⊢
  generalize quotedB (s.take a) = y at IS1 ⊢
  clear ha hs
  go_enter Tryd.func87, Tryd.ntmps87
  go_wp2
  go_loopw [8] (fun i wr => ∃ k : Nat, k ≤ 2 ∧ i = .int .i64 k ∧ (0 < k → x = false) ∧ (1 < k → y = false) ∧ Own w0 wr (box S #[.string ⟨s.toArray⟩] 9 :: box T #[.int .i64 a] 3 :: L)) (fun i _ => 2 - (intOf i).toNat)
  case atStart => exact ⟨0, by omega, rfl, by omega, by omega, O⟩
  case round =>
    clear O
    obtain ⟨k, hk, rfl, h0, h1, O⟩ := hrel
    obtain ⟨K0, K1⟩ := K.own O
    have H0 := Lib.hid h0
    have H1 := Lib.hid h1
    clear h0 h1
    rcases (show k = 0 ∨ k = 1 ∨ k = 2 by omega) with rfl | rfl | rfl
    · go_wp2_with fail
      refine (IS0 _ O).mono ?_
      clear O
      rintro e w1 ⟨rfl, O⟩
      cases x
      · go_wp2
        go_roundw
        case rel => exact ⟨1, by omega, by go_num, by simp, by simp, O⟩
        case measure => simp [intOf]
      · go_wp2
        go_ret
        exact ⟨rfl, O⟩
    · go_wp2_with fail
      refine (IS1 _ O).mono ?_
      clear O
      rintro e w1 ⟨rfl, O⟩
      obtain rfl := H0.out (by omega)
      cases y
      · go_wp2
        go_roundw
        case rel => exact ⟨2, by omega, by go_num, by simp, by simp, O⟩
        case measure => simp [intOf]
      · go_wp2
        go_ret
        exact ⟨rfl, O⟩
    · obtain rfl := H0.out (by omega)
      obtain rfl := H1.out (by omega)
      go_wp2
      go_ret
      exact ⟨rfl, O⟩
theorem containsKinds_own {w0 w : World} {L : List Piece} {S T : Nat} {s : List UInt8} {a : Nat} (K : Kinds w0) (O : Own w0 w (box S #[.string ⟨s.toArray⟩] 9 :: box T #[.int .i64 a] 3 :: L)) (ha : a ≤ s.length) (hs : s.length ≤ 140737488351232) :
    Calls Tryd.prog 75 #[.slice (some ⟨0, 0, none⟩) 2 2, .func (.func 76) #[] #[.pointer (some ⟨S, 0, none⟩), .pointer (some ⟨T, 0, none⟩)]] w
      fun e w' => e = .returned (.bool (atomsB (s.take a) || quotedB (s.take a))) ∧ Own w0 w' (box S #[.string ⟨s.toArray⟩] 9 :: box T #[.int .i64 a] 3 :: L) := by
  have IX := indexKinds_own K O ha hs
  generalize atomsB (s.take a) = x at IX ⊢
  generalize quotedB (s.take a) = y at IX ⊢
  go_enter Tryd.func75, Tryd.ntmps75
  go_wp2_with fail
  refine IX.mono ?_
  clear O IX
  rintro e w1 ⟨rfl, O⟩
  cases x <;> cases y <;> (dsimp only [cond_false, cond_true]; go_wp2; go_ret; exact ⟨rfl, O⟩)
theorem parseB_loc {s : List UInt8} (h : locOk s = false) : parseB s = false := by unfold parseB; rw [h]; rfl
theorem parseB_may {s : List UInt8} (h : locOk s = true) : parseB s = may (folded (s.drop (lastAt s))) := by unfold parseB; rw [h]; rfl
set_option maxHeartbeats 1000000 in
theorem parse_own {w0 w : World} {L : List Piece} (K : Kinds w0) (O : Own w0 w L) (s : List UInt8) (hs : s.length ≤ 100000000) :
    Calls Tryd.prog 62 #[.string ⟨s.toArray⟩] w fun e w' => e = .returned (parseV s) ∧ Own w0 w' L := by
  have LA := Tryd.strings_LastIndexByte ⟨s.toArray⟩ 64 (by simp [ByteArray.size]; omega)
  rw [last_at] at LA
  have HSF := Tryd.strings_HasSuffix ⟨s.toArray⟩ ⟨#[46]⟩
  have hle := lastAt_le s
  obtain ⟨n, hn⟩ : ∃ n, n = lastAt s := ⟨_, rfl⟩
  have PV : Hid (locOk s = (decide (2 ≤ n ∧ n ≤ 65) && (!(s.getLast? == some 46) && (atomsB (s.take (n - 1)) || quotedB (s.take (n - 1)))))) := by rw [hn]; rfl
  rw [← hn] at LA hle
  have HN := Lib.hid hn
  clear hn
  by_cases h1 : n < 2
  · have PF := Lib.hid (parseV_false (parseB_loc (PV.out.trans (by rw [decide_eq_false (by omega)]; rfl))))
    have hc : (n : Int) - 1 < 1 := by omega
    clear PV HN hle
    have O2 := (O.newBox #[.string ⟨s.toArray⟩] 9).alloc (.cells #[.int .i64 ((n : Int) - 1)] 3)
    go_enter Tryd.func62, Tryd.ntmps62
    go_wp2_with fail
    refine (LA _).mono ?_
    clear LA
    rintro e w1 ⟨rfl, rfl⟩
    go_wp2
    go_returns
    exact ⟨congrArg Ending.returned PF.out.symm, O2.drop⟩
  obtain ⟨m, rfl⟩ : ∃ m, n = m + 1 := ⟨n - 1, by omega⟩
  have hm1 : (1 : Int) ≤ (m : Int) := by omega
  rw [show ((m + 1 : Nat) : Int) - 1 = (m : Int) by omega] at LA
  by_cases h2 : 64 < m
  · have PF := Lib.hid (parseV_false (parseB_loc (PV.out.trans (by rw [decide_eq_false (by omega)]; rfl))))
    have hc : (64 : Int) < (m : Int) := by omega
    clear PV HN hle h1
    have O2 := (O.newBox #[.string ⟨s.toArray⟩] 9).alloc (.cells #[.int .i64 (m : Int)] 3)
    go_enter Tryd.func62, Tryd.ntmps62
    go_wp2_with fail
    refine (LA _).mono ?_
    clear LA
    rintro e w1 ⟨rfl, rfl⟩
    go_wp2
    go_returns
    exact ⟨congrArg Ending.returned PF.out.symm, O2.drop⟩
  have hm64 : (m : Int) ≤ 64 := by omega
  have PV2 : Hid (locOk s = (!(s.getLast? == some 46) && (atomsB (s.take m) || quotedB (s.take m)))) := by
    unfold Hid
    rw [PV.out, decide_eq_true (by omega)]; rfl
  clear PV h1 h2
  have O1 := O.newBox #[.string ⟨s.toArray⟩] 9
  have O2 := O1.newBox #[.int .i64 (m : Int)] 3
  rw [show (w.alloc (.cells #[.string ⟨s.toArray⟩] 9)).heap.size = w.heap.size + 1 by simp] at O2
  obtain ⟨S, hS⟩ : ∃ S, S = w.heap.size := ⟨_, rfl⟩
  rw [← hS] at O2
  have HSz : s.length ≤ 140737488351232 := by omega
  have hml : m ≤ s.length := by omega
  have CK := containsKinds_own K (O2.pick 1) hml HSz
  have HSF2 := fun w => HSF w (by simp [ByteArray.size]; omega)
  have e46 : Lib.hasSuffix s [46] = (s.getLast? == some 46) := has_suf s 46
  simp only [e46] at HSF2
  clear HSF e46 O1
  generalize (s.getLast? == some 46) = dot at PV2 HSF2
  generalize hat : atomsB (s.take m) = a1 at PV2 CK
  generalize hqu : quotedB (s.take m) = q1 at PV2 CK
  clear hat hqu
  go_enter Tryd.func62, Tryd.ntmps62
  go_wp2_with fail
  refine (LA _).mono ?_
  clear LA
  rintro e w1 ⟨rfl, rfl⟩
  go_wp2_with fail
  refine (HSF2 _).mono ?_
  rintro e w1 ⟨rfl, rfl⟩
  cases dot
  rotate_left
  · have PF := Lib.hid (parseV_false (parseB_loc (PV2.out.trans (by rfl))))
    clear PV2 HN CK
    go_wp2
    go_returns
    exact ⟨congrArg Ending.returned PF.out.symm, O2.drop.drop⟩
  clear HSF2 O2
  go_wp2_with fail
  rw [← hS]
  refine CK.mono ?_
  clear CK
  rintro e w1 ⟨rfl, O2⟩
  obtain ⟨ok, hok⟩ : ∃ ok, ok = (a1 || q1) := ⟨_, rfl⟩
  rw [← hok]
  have PV3 : Hid (locOk s = ok) := by unfold Hid; rw [PV2.out, hok]; rfl
  clear hok PV2
  cases ok
  · have PF := Lib.hid (parseV_false (parseB_loc PV3.out))
    clear PV3 HN
    go_wp2
    go_returns
    exact ⟨congrArg Ending.returned PF.out.symm, O2.drop.drop⟩
  have PM := Lib.hid (parseB_may PV3.out)
  rw [← HN.out] at PM
  have LD : Hid (locL s = s.take m ∧ domL s = folded (s.drop (m + 1))) := by unfold Hid locL domL; rw [← HN.out]; exact ⟨rfl, rfl⟩
  clear PV3 HN
  have c0 : w1.cell? ⟨w.heap.size, 0, none⟩ = some (.string ⟨s.toArray⟩) := by rw [← hS]; exact O2.cell 0
  have c1 : w1.cell? ⟨w.heap.size + 1, 0, none⟩ = some (.int .i64 m) := by rw [← hS]; exact (O2.pick 1).cell 0
  have s1 : IntKind.i64.wrap ((m : Int) + 1) = ((m + 1 : Nat) : Int) := by rw [IntWalk.i64_in _ (by omega)]; omega
  have sub := run_subFrom s (m + 1) hle
  have FA := fun w => fold_any (s.drop (m + 1)) w (by simp; omega)
  go_wp2_with fail
  refine (FA _).mono ?_
  rintro e w2 ⟨rfl, ch⟩
  replace O2 := O2.pure ch
  clear c0 c1 ch sub s1 FA
  have c0 : w2.cell? ⟨w.heap.size, 0, none⟩ = some (.string ⟨s.toArray⟩) := by rw [← hS]; exact O2.cell 0
  have c1 : w2.cell? ⟨w.heap.size + 1, 0, none⟩ = some (.int .i64 m) := by rw [← hS]; exact (O2.pick 1).cell 0
  have sub2 := run_subTo s m hml
  unfold foldV
  rw [← LD.out.2]
  have PM2 : Hid (parseB s = may (domL s)) := by unfold Hid; rw [LD.out.2]; exact PM.out
  cases hmay : may (domL s)
  · have PF := Lib.hid (parseV_false (PM2.out.trans hmay))
    clear PM PM2 hmay LD
    go_wp2
    go_returns
    exact ⟨congrArg Ending.returned PF.out.symm, O2.drop.drop⟩
  · have PF := Lib.hid (parseV_true (PM2.out.trans hmay))
    rw [LD.out.1] at PF
    clear PM PM2 hmay LD
    generalize domL s = dd at PF ⊢
    go_wp2
    go_returns
    exact ⟨congrArg Ending.returned PF.out.symm, O2.drop.drop⟩
end Go.Proofs.YtehkdbgoeakgbaaDoor
