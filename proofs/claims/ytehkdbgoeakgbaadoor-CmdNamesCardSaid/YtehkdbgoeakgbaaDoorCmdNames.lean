/- CmdNames: the walk; printed by wip/cmn.py. -/
import Derived.Test.YtehkdbgoeakgbaaDoorCmNy
import Derived.Test.YtehkdbgoeakgbaaDoorCmKK
namespace Go.Proofs.YtehkdbgoeakgbaaDoor
set_option linter.all false
open Go.RowKit Go.Shelf

def badL (la : List UInt8) : List (List UInt8) := [[], [69, 72, 76, 79], [69, 72, 76, 79, 32], [69, 72, 76, 79, 32, 65], [69, 72, 76, 79, 32, 97, 32], [69, 72, 76, 79, 32, 32, 97], [72, 69, 76, 79, 32, 97], [83, 84, 65, 82, 84, 84, 76, 83, 32, 120], [32, 68, 65, 84, 65], [68, 65, 84, 65, 13], [81, 85, 73, 84, 88], [77, 65, 73, 76, 32, 70, 82, 79, 77, 58], [77, 65, 73, 76, 32, 70, 82, 79, 77, 58, 97, 64, 98], [77, 65, 73, 76, 32, 70, 82, 79, 77, 58, 60, 97, 64, 98], [77, 65, 73, 76, 32, 70, 82, 79, 77, 58, 60, 97, 62], [77, 65, 73, 76, 32, 32, 70, 82, 79, 77, 58, 60, 97, 64, 98, 62], [77, 65, 73, 76, 32, 70, 82, 79, 77, 58, 60, 97, 64, 98, 62, 88], [77, 65, 73, 76, 32, 70, 82, 79, 77, 58, 60, 97, 64, 98, 62, 32], [77, 65, 73, 76, 32, 70, 82, 79, 77, 58, 60, 97, 64, 98, 62, 32, 32, 88], [77, 65, 73, 76, 32, 70, 82, 79, 77, 58, 60, 97, 64, 98, 62, 32, 88, 32], [77, 65, 73, 76, 32, 70, 82, 79, 77, 58, 60, 97, 64, 98, 62, 32, 88, 61], [77, 65, 73, 76, 32, 70, 82, 79, 77, 58, 60, 97, 64, 98, 62, 32, 61, 88], [77, 65, 73, 76, 32, 70, 82, 79, 77, 58, 60, 97, 64, 98, 62, 32, 88, 61, 97, 61, 98], [77, 65, 73, 76, 32, 70, 82, 79, 77, 58, 60, 97, 64, 98, 62, 32, 49, 88], [77, 65, 73, 76, 32, 70, 82, 79, 77, 58, 60, 97, 64, 98, 62, 32, 88, 45, 89], [77, 65, 73, 76, 32, 70, 82, 79, 77, 58, 60, 97, 64, 98, 62, 32, 88, 61, 127], [77, 65, 73, 76, 32, 70, 82, 79, 77, 58, 60, 97, 64, 98, 62, 32, 88, 32, 120], [77, 65, 73, 76, 32, 70, 82, 79, 77, 58, 60, 97, 64, 98, 62, 32, 65, 32, 66, 32, 67, 32, 68, 32, 69, 32, 70, 32, 71, 32, 72, 32, 73], (82 :: 67 :: 80 :: 84 :: 32 :: 84 :: 79 :: 58 :: 60 :: 97 :: 64 :: 98 :: 62 :: 32 :: la), [78, 79, 79, 80]]
theorem badL_not {la : List UInt8} (hla : la = List.replicate 33 65) : ∀ k (h : k < 30), wrongN ((badL la)[k]'h) = 4 ∧ ((badL la)[k]'h).length ≤ 1000 := by
  subst hla
  have : (badL (List.replicate 33 65)).all (fun l => decide (wrongN l = 4) && decide (l.length ≤ 1000)) = true := by kernel_rfl
  intro k h
  have h2 := List.all_eq_true.1 this ((badL (List.replicate 33 65))[k]'h) (List.getElem_mem _)
  simp only [Bool.and_eq_true, decide_eq_true_eq] at h2
  exact h2
set_option maxRecDepth 100000 in
set_option maxHeartbeats 32000000 in
theorem cmdNames_walk {w : World} (KK : KT w) : Calls Tryd.prog 7 #[] w fun e w' => e = .returned (.bool true) ∧ Below w.heap.size w w' := by
  obtain ⟨K, T⟩ := KK
  have O := Own.start w
  obtain ⟨la, hla⟩ : ∃ l, l = List.replicate 33 (65 : UInt8) := ⟨_, rfl⟩
  have LA := Lib.hid hla
  have nla : la.length = 33 := by rw [hla]; rfl
  clear hla
  obtain ⟨lb, hlb⟩ : ∃ l, l = List.replicate 32 (65 : UInt8) := ⟨_, rfl⟩
  have LB := Lib.hid hlb
  have nlb : lb.length = 32 := by rw [hlb]; rfl
  clear hlb
  obtain ⟨lc, hlc⟩ : ∃ l, l = List.replicate 33 (97 : UInt8) := ⟨_, rfl⟩
  have LC := Lib.hid hlc
  have nlc : lc.length = 33 := by rw [hlc]; rfl
  clear hlc
  obtain ⟨ld, hld⟩ : ∃ l, l = List.replicate 32 (97 : UInt8) := ⟨_, rfl⟩
  have LD := Lib.hid hld
  have nld : ld.length = 32 := by rw [hld]; rfl
  clear hld
  obtain ⟨ly, hly⟩ : ∃ l, l = List.replicate 495 (121 : UInt8) := ⟨_, rfl⟩
  have LY := Lib.hid hly
  have nly : ly.length = 495 := by rw [hly]; rfl
  clear hly
  obtain ⟨lz, hlz⟩ : ∃ l, l = List.replicate 496 (121 : UInt8) := ⟨_, rfl⟩
  have LZ := Lib.hid hlz
  have nlz : lz.length = 496 := by rw [hlz]; rfl
  clear hlz
  obtain ⟨lx, hlx⟩ : ∃ l, l = List.replicate 511 (120 : UInt8) := ⟨_, rfl⟩
  have LX := Lib.hid hlx
  have nlx : lx.length = 511 := by rw [hlx]; rfl
  clear hlx
  go_enter Tryd.func7, Tryd.ntmps7
  go_wp2_with fail
  refine (awake7_own K T O).mono ?_
  clear O
  rintro e w1 ⟨rfl, O⟩
  obtain ⟨p0, hp0⟩ : ∃ b, b = w1.heap.size := ⟨_, rfl⟩
  obtain ⟨p1, hp1⟩ : ∃ b, b = w1.heap.size + 1 := ⟨_, rfl⟩
  obtain ⟨RB, hRB⟩ : ∃ b, b = w1.heap.size + 1 + 1 := ⟨_, rfl⟩
  have O1 := ((O.newBox #[.string ⟨#[83, 73, 90, 69]⟩, .string ⟨#[53]⟩, .string ⟨#[88]⟩, .string ⟨#[]⟩] 58).newBox #[.string ⟨#[65, 49]⟩, .string ⟨#[126, 33]⟩] 58).newBox (rowsC p0 p1) 56
  have e1 : (w1.alloc (.cells #[.string ⟨#[83, 73, 90, 69]⟩, .string ⟨#[53]⟩, .string ⟨#[88]⟩, .string ⟨#[]⟩] 58)).heap.size = p1 := by rw [hp1]; simp
  have e2 : ((w1.alloc (.cells #[.string ⟨#[83, 73, 90, 69]⟩, .string ⟨#[53]⟩, .string ⟨#[88]⟩, .string ⟨#[]⟩] 58)).alloc (.cells #[.string ⟨#[65, 49]⟩, .string ⟨#[126, 33]⟩] 58)).heap.size = RB := by rw [hRB]; simp
  rw [e2, e1, ← hp0] at O1
  have O2 : Own w _ (rowsR RB p0 p1) := O1
  clear O O1 e2 e1
  go_wp2_with fail
  rw [← hRB, ← hp1, ← hp0]
  clear hp0 hp1 hRB
  go_loopw [65] (fun iv wr => ∃ k : Nat, k ≤ 8 ∧ iv = .int .i64 k ∧ Own w wr (rowsR RB p0 p1)) (fun iv _ => 8 - (intOf iv).toNat)
  case atStart => exact ⟨0, by omega, rfl, O2⟩
  case round =>
    clear O2
    obtain ⟨k, hk, rfl, O⟩ := hrel
    by_cases hlt : k < 8
    · have hb1 : (k : Int) < 8 := by omega
      obtain ⟨a0, cap0, ⟨c0, c1, c2, c3⟩, RD⟩ := rows_at O k hlt
      obtain ⟨hp, hl, hn⟩ := rows_parse k hlt
      generalize rowsL[k]'hlt = r at c0 c1 c2 c3 RD hp hl hn
      obtain ⟨ln, v, x, q⟩ := r
      simp only at c0 c1 c2 c3 RD hp hl hn
      have RDH := Lib.hid RD
      have HP := Lib.hid hp
      obtain ⟨N, hN⟩ : ∃ n, n = q.length := ⟨_, rfl⟩
      have HN := Lib.hid hN
      rw [← hN] at hn RDH c3
      clear RD hp hN
      obtain ⟨X, hX⟩ : ∃ b, b = wr.heap.size := ⟨_, rfl⟩
      have O1 := O.newBox #[.string ⟨ln.toArray⟩, .int .u8 v, .string ⟨x.toArray⟩, .slice a0 N cap0] 56
      rw [← hX] at O1
      clear O
      go_upto_region 6 with fail
      rw [← hX]
      clear hX c0 c1 c2 c3
      generalize (wr.alloc (.cells #[.string ⟨ln.toArray⟩, .int .u8 v, .string ⟨x.toArray⟩, .slice a0 N cap0] 56)) = W2 at O1 ⊢
      have x0 := O1.cell 0
      go_wp2_with fail
      refine (parse_some K O1 ln hl (v := v) (x := x) (ps := q) HP.out HN.out).mono ?_
      clear O1 x0 HP
      rintro e w2 ⟨a1, cap1, rfl, O1⟩
      obtain ⟨C, hC⟩ : ∃ b, b = w2.heap.size := ⟨_, rfl⟩
      replace O1 := O1.newBox #[.int .u8 v, .string ⟨x.toArray⟩, .slice a1 N cap1] 27
      rw [← hC] at O1
      go_upto_region 7 with fail
      rw [← hC]
      clear hC
      generalize (w2.alloc (.cells #[.int .u8 v, .string ⟨x.toArray⟩, .slice a1 N cap1] 27)) = W3 at O1 ⊢
      have x0 := O1.cell 0
      have x1 := O1.cell 1
      have x2 := O1.cell 2
      have O3 := O1.pick 2
      have y1 := O3.cell 1
      have y2 := O3.cell 2
      have y3 := O3.cell 3
      clear O3
      have SM := same7_own O1 ⟨v, x, q⟩ ⟨v, x, q⟩ (ac := a1) (cc := cap1) (ad := a0) (cd := cap0) (n := N) (m := N) (by omega) (fun w' h => (h.pick 1).pmR) (fun w' h => RDH.out w' [_, _, _] h) (sameCm_refl _)
      unfold cmV at SM
      clear O1 RDH HN
      go_wp2_with fail
      refine SM.mono ?_
      clear SM x0 x1 x2 y1 y2 y3
      rintro e w4 ⟨rfl, O1⟩
      go_wp2_with fail
      go_roundw
      case rel => exact ⟨k + 1, by omega, by go_num, O1.drop.drop.drop⟩
      case measure => simp [intOf]; omega
    · obtain rfl : k = 8 := by omega
      replace O := O.drop.drop.drop
      clear hk hlt
      go_wp2_with fail
      refine (many7_own O 65 33 (by decide) (l := la) LA.out.symm).mono ?_
      clear O
      rintro e w2 ⟨rfl, O⟩
      obtain ⟨SB, hSB⟩ : ∃ b, b = w2.heap.size := ⟨_, rfl⟩
      replace O := O.newBox ((badL la).map str).toArray 9
      rw [← hSB] at O
      go_wp2_with fail
      rw [← hSB]
      clear hSB
      go_loopw [94] (fun iv wr => ∃ k : Nat, k ≤ 30 ∧ iv = .int .i64 k ∧ Own w wr [box SB ((badL la).map str).toArray 9]) (fun iv _ => 30 - (intOf iv).toNat)
      case atStart => exact ⟨0, by omega, rfl, O⟩
      case round =>
        clear O
        obtain ⟨k, hk, rfl, O⟩ := hrel
        by_cases hlt : k < 30
        · have hb1 : (k : Int) < 30 := by omega
          have cc := O.litCell k (by simpa [badL] using hlt)
          obtain ⟨hx1, hx2⟩ := badL_not LA.out k hlt
          generalize (badL la)[k]'hlt = x at cc hx1 hx2
          have X := Lib.hid hx1
          clear hx1
          go_wp2_with fail
          refine (wrong7_own K O x (by omega) X.out).mono ?_
          clear O cc X
          rintro e w5 ⟨rfl, O⟩
          go_wp2_with fail
          go_roundw
          case rel => exact ⟨k + 1, by omega, by go_num, O⟩
          case measure => simp [intOf]; omega
        · obtain rfl : k = 30 := by omega
          replace O := O.drop
          clear hk hlt
          go_wp2_with fail
          refine (wrong7_own K O [77, 65, 73, 76, 32, 70, 82, 79, 77, 58, 60, 97, 64, 98, 62, 32, 65, 32, 66, 32, 67, 32, 68, 32, 69, 32, 70, 32, 71, 32, 72] (by decide) (r := 0) (by kernel_rfl)).mono ?_
          clear O
          rintro e w3 ⟨rfl, O⟩
          go_wp2_with fail
          refine (many7_own O 65 32 (by decide) (l := lb) LB.out.symm).mono ?_
          clear O
          rintro e w3 ⟨rfl, O⟩
          go_wp2_with fail
          refine (wrong7_own K O (82 :: 67 :: 80 :: 84 :: 32 :: 84 :: 79 :: 58 :: 60 :: 97 :: 64 :: 98 :: 62 :: 32 :: lb) (by simp; omega) (r := 0) (by rw [LB.out]; kernel_rfl)).mono ?_
          clear O
          rintro e w4 ⟨rfl, O⟩
          obtain ⟨q0, hq0⟩ : ∃ b, b = w4.heap.size := ⟨_, rfl⟩
          obtain ⟨q1, hq1⟩ : ∃ b, b = w4.heap.size + 1 := ⟨_, rfl⟩
          obtain ⟨q2, hq2⟩ : ∃ b, b = w4.heap.size + 1 + 1 := ⟨_, rfl⟩
          obtain ⟨q3, hq3⟩ : ∃ b, b = w4.heap.size + 1 + 1 + 1 := ⟨_, rfl⟩
          obtain ⟨q4, hq4⟩ : ∃ b, b = w4.heap.size + 1 + 1 + 1 + 1 := ⟨_, rfl⟩
          obtain ⟨q5, hq5⟩ : ∃ b, b = w4.heap.size + 1 + 1 + 1 + 1 + 1 := ⟨_, rfl⟩
          obtain ⟨RC, hRC⟩ : ∃ b, b = w4.heap.size + 1 + 1 + 1 + 1 + 1 + 1 := ⟨_, rfl⟩
          have O1 := ((((((O.newBox #[.string ⟨#[88]⟩, .string ⟨#[]⟩] 58).newBox #[.string ⟨#[88]⟩, .string ⟨#[]⟩] 58).newBox #[.string ⟨#[120]⟩, .string ⟨#[]⟩] 58).newBox #[.string ⟨#[]⟩, .string ⟨#[]⟩] 58).newBox #[.string ⟨#[88]⟩, .string ⟨#[]⟩, .string ⟨#[88]⟩, .string ⟨#[49]⟩] 58).newBox #[.string ⟨#[88]⟩, .string ⟨#[32]⟩] 58).newBox (cmdsC q0 q1 q2 q3 q4 q5) 27
          have e1 : (w4.alloc (.cells #[.string ⟨#[88]⟩, .string ⟨#[]⟩] 58)).heap.size = q1 := by rw [hq1]; simp
          have e2 : ((w4.alloc (.cells #[.string ⟨#[88]⟩, .string ⟨#[]⟩] 58)).alloc (.cells #[.string ⟨#[88]⟩, .string ⟨#[]⟩] 58)).heap.size = q2 := by rw [hq2]; simp
          have e3 : (((w4.alloc (.cells #[.string ⟨#[88]⟩, .string ⟨#[]⟩] 58)).alloc (.cells #[.string ⟨#[88]⟩, .string ⟨#[]⟩] 58)).alloc (.cells #[.string ⟨#[120]⟩, .string ⟨#[]⟩] 58)).heap.size = q3 := by rw [hq3]; simp
          have e4 : ((((w4.alloc (.cells #[.string ⟨#[88]⟩, .string ⟨#[]⟩] 58)).alloc (.cells #[.string ⟨#[88]⟩, .string ⟨#[]⟩] 58)).alloc (.cells #[.string ⟨#[120]⟩, .string ⟨#[]⟩] 58)).alloc (.cells #[.string ⟨#[]⟩, .string ⟨#[]⟩] 58)).heap.size = q4 := by rw [hq4]; simp
          have e5 : (((((w4.alloc (.cells #[.string ⟨#[88]⟩, .string ⟨#[]⟩] 58)).alloc (.cells #[.string ⟨#[88]⟩, .string ⟨#[]⟩] 58)).alloc (.cells #[.string ⟨#[120]⟩, .string ⟨#[]⟩] 58)).alloc (.cells #[.string ⟨#[]⟩, .string ⟨#[]⟩] 58)).alloc (.cells #[.string ⟨#[88]⟩, .string ⟨#[]⟩, .string ⟨#[88]⟩, .string ⟨#[49]⟩] 58)).heap.size = q5 := by rw [hq5]; simp
          have e6 : ((((((w4.alloc (.cells #[.string ⟨#[88]⟩, .string ⟨#[]⟩] 58)).alloc (.cells #[.string ⟨#[88]⟩, .string ⟨#[]⟩] 58)).alloc (.cells #[.string ⟨#[120]⟩, .string ⟨#[]⟩] 58)).alloc (.cells #[.string ⟨#[]⟩, .string ⟨#[]⟩] 58)).alloc (.cells #[.string ⟨#[88]⟩, .string ⟨#[]⟩, .string ⟨#[88]⟩, .string ⟨#[49]⟩] 58)).alloc (.cells #[.string ⟨#[88]⟩, .string ⟨#[32]⟩] 58)).heap.size = RC := by rw [hRC]; simp
          rw [e6, e5, e4, e3, e2, e1, ← hq0] at O1
          have O2 : Own w _ (cmdsR RC q0 q1 q2 q3 q4 q5) := O1
          clear O O1 e6 e5 e4 e3 e2 e1
          go_wp2_with fail
          rw [← hRC, ← hq5, ← hq4, ← hq3, ← hq2, ← hq1, ← hq0]
          clear hq0 hq1 hq2 hq3 hq4 hq5 hRC
          go_loopw [137] (fun iv wr => ∃ k : Nat, k ≤ 12 ∧ iv = .int .i64 k ∧ Own w wr (cmdsR RC q0 q1 q2 q3 q4 q5)) (fun iv _ => 12 - (intOf iv).toNat)
          case atStart => exact ⟨0, by omega, rfl, O2⟩
          case round =>
            clear O2
            obtain ⟨k, hk, rfl, O⟩ := hrel
            by_cases hlt : k < 12
            · have hb1 : (k : Int) < 12 := by omega
              obtain ⟨a0, cap0, ⟨c0, c1, c2⟩, RD⟩ := cmds_at O k hlt
              obtain ⟨hm, hv, ha, hn, hf, he⟩ := cmds_not k hlt
              generalize cmdsL[k]'hlt = r at c0 c1 c2 RD hm hv ha hn hf he
              obtain ⟨v, x, q⟩ := r
              have SN := Lib.hid (show7_no hm)
              simp only at c0 c1 c2 RD hv ha hn hf he
              have RDH := Lib.hid RD
              have HM := Lib.hid hm
              have HE := Lib.hid he
              obtain ⟨N, hN⟩ : ∃ n, n = q.length := ⟨_, rfl⟩
              have HN := Lib.hid hN
              rw [← hN] at hn RDH c2
              clear RD hm hN he
              obtain ⟨X, hX⟩ : ∃ b, b = wr.heap.size := ⟨_, rfl⟩
              have O1 := O.newBox #[.int .u8 v, .string ⟨x.toArray⟩, .slice a0 N cap0] 27
              rw [← hX] at O1
              clear O
              go_upto_region 21 with fail
              rw [← hX]
              clear hX c0 c1 c2
              generalize (wr.alloc (.cells #[.int .u8 v, .string ⟨x.toArray⟩, .slice a0 N cap0] 27)) = W2 at O1 ⊢
              have x0 := O1.cell 0
              have x1 := O1.cell 1
              have x2 := O1.cell 2
              have SH := show7_own K O1 ⟨v, x, q⟩ (a := a0) (cap := cap0) (n := N) HN.out hv (by simp only; omega) (by omega) (by simp only; omega) (fun w' h => RDH.out w' [_] h)
              rw [SN.out] at SH
              unfold cmV at SH
              go_wp2_with fail
              refine SH.mono ?_
              clear SH O1 x0 x1 x2
              rintro e w4 ⟨rfl, O1⟩
              have x0 := O1.cell 0
              have x1 := O1.cell 1
              have x2 := O1.cell 2
              have MY := may7_own K O1 ⟨v, x, q⟩ (a := a0) (cap := cap0) (n := N) HN.out hv (by simp only; omega) (by omega) (fun p hp => by have := HE.out p hp; omega) (fun w' h => RDH.out w' [_] h) HM.out
              unfold cmV at MY
              go_wp2_with fail
              refine MY.mono ?_
              clear MY O1 x0 x1 x2
              rintro e w5 ⟨rfl, O1⟩
              go_wp2_with fail
              go_roundw
              case rel => exact ⟨k + 1, by omega, by go_num, O1.drop⟩
              case measure => simp [intOf]; omega
            · obtain rfl : k = 12 := by omega
              replace O := O.drop.drop.drop.drop.drop.drop.drop
              clear hk hlt
              go_wp2_with fail
              refine (many7_own O 121 495 (by decide) (l := ly) LY.out.symm).mono ?_
              clear O
              rintro e w5 ⟨rfl, O⟩
              obtain ⟨P, hP⟩ : ∃ b, b = w5.heap.size := ⟨_, rfl⟩
              obtain ⟨FB, hFB⟩ : ∃ b, b = w5.heap.size + 1 := ⟨_, rfl⟩
              have O1 := (O.newBox #[.string ⟨#[88]⟩, .string ⟨ly.toArray⟩] 58).newBox #[.int .u8 3, .string ⟨#[]⟩, .slice (some ⟨P, 0, none⟩) 1 1] 27
              have e1 : (w5.alloc (.cells #[.string ⟨#[88]⟩, .string ⟨ly.toArray⟩] 58)).heap.size = FB := by rw [hFB]; simp
              rw [e1, ← hP] at O1
              have O2 : Own w _ [box FB #[.int .u8 3, .string ⟨#[]⟩, .slice (some ⟨P, 0, none⟩) 1 1] 27, box P #[.string ⟨#[88]⟩, .string ⟨ly.toArray⟩] 58] := O1
              clear O O1 e1
              go_upto_region 26 with fail
              rw [← hFB, ← hP]
              clear hFB hP
              generalize ((w5.alloc (.cells #[.string ⟨#[88]⟩, .string ⟨ly.toArray⟩] 58)).alloc (.cells #[.int .u8 3, .string ⟨#[]⟩, .slice (some ⟨P, 0, none⟩) 1 1] 27)) = W5 at O2 ⊢
              obtain ⟨lf, hlf⟩ : ∃ l, l = lineCm ⟨3, [], [([88], ly)]⟩ := ⟨_, rfl⟩
              have HLF := Lib.hid hlf
              have nlf : lf.length = 510 := by rw [hlf, LY.out]; kernel_rfl
              clear hlf
              have SH := show7_own K O2 ⟨3, [], [([88], ly)]⟩ (a := some ⟨P, 0, none⟩) (cap := 1) (n := 1) rfl (show (3 : Nat) < 256 by decide) (by simp) (by decide) (by rw [LY.out]; exact of_decide_eq_true (by kernel_rfl)) (fun w' h => ((h.pick 1).boxPm (ps := [([88], ly)]) rfl))
              rw [show7_yes (c := ⟨3, [], [([88], ly)]⟩) (by rw [LY.out]; kernel_rfl) (by rw [← HLF.out]; omega), ← HLF.out] at SH
              unfold cmV at SH
              have x0 := O2.cell 0
              have x1 := O2.cell 1
              have x2 := O2.cell 2
              go_wp2_with fail
              refine SH.mono ?_
              clear SH O2 x0 x1 x2
              rintro e w6 ⟨rfl, O2⟩
              go_upto_region 27 with fail
              have OD := O2.drew
              have k0 : w6.cell? ⟨FB, 2, none⟩ = some (.slice (some ⟨P, 0, none⟩) 1 1) := O2.cell 2
              have k1 : w6.drew.cell? ⟨FB, 2, none⟩ = some (.slice (some ⟨P, 0, none⟩) 1 1) := OD.cell 2
              clear O2
              go_wp2_with fail
              go_region_held3 (fun w' => w'.cell? ⟨FB, 2, none⟩ = some (.slice (some ⟨P, 0, none⟩) 1 1))
                (first | with_reducible exact k0 | with_reducible exact k1 | with_reducible exact k2 | with_reducible exact k3)
                (first
                  | (go_at_call 24; refine (many7_own OD 121 496 (by decide) (l := lz) LZ.out.symm).mono ?_; rintro e1 w7 ⟨rfl, O7⟩; have k2 : w7.cell? ⟨FB, 2, none⟩ = some (.slice (some ⟨P, 0, none⟩) 1 1) := O7.cell 2; have s1 : w7.cell? ⟨P, 1, none⟩ = some (.string ⟨ly.toArray⟩) := (O7.pick 1).cell 1; have sf : w7.frozen? ⟨P, 1, none⟩ = false := (O7.pick 1).free 1; have O8 : Own w (w7.setCell ⟨P, 1, none⟩ (.string ⟨lz.toArray⟩)) [box P #[.string ⟨#[88]⟩, .string ⟨lz.toArray⟩] 58, box FB #[.int .u8 3, .string ⟨#[]⟩, .slice (some ⟨P, 0, none⟩) 1 1] 27] := (O7.pick 1).set 1 _; have k3 : (w7.setCell ⟨P, 1, none⟩ (.string ⟨lz.toArray⟩)).cell? ⟨FB, 2, none⟩ = some (.slice (some ⟨P, 0, none⟩) 1 1) := (O8.pick 1).cell 2))
              clear O7 OD k0 k1 k2 k3 s1 sf
              have x0 := (O8.pick 1).cell 0
              have x1 := (O8.pick 1).cell 1
              have x2 := (O8.pick 1).cell 2
              have SH := show7_own K O8 ⟨3, [], [([88], lz)]⟩ (a := some ⟨P, 0, none⟩) (cap := 1) (n := 1) rfl (show (3 : Nat) < 256 by decide) (by simp) (by decide) (by rw [LZ.out]; exact of_decide_eq_true (by kernel_rfl)) (fun w' h => (h.boxPm (ps := [([88], lz)]) rfl))
              rw [show7_long (c := ⟨3, [], [([88], lz)]⟩) (by rw [LZ.out]; kernel_rfl) (by rw [LZ.out]; exact of_decide_eq_true (by kernel_rfl))] at SH
              unfold cmV at SH
              go_wp2_with fail
              refine SH.mono ?_
              clear SH O8 x0 x1 x2
              rintro e w8 ⟨rfl, O⟩
              replace O := O.drop.drop
              have nlf' : (lf.length : Int) = 510 := by omega
              have W4 : wrongN (lf ++ [121]) = 40 := by unfold wrongN; rw [if_neg (by simp; omega)]
              have W5 : wrongN lx = 40 := by unfold wrongN; rw [if_neg (by omega)]
              have hl4 : (lf ++ [121]).length ≤ 1000000 := by simp; omega
              have WH4 := Lib.hid W4; have WH5 := Lib.hid W5; have HL4 := Lib.hid hl4; have NLF := Lib.hid nlf
              clear W4 W5 hl4 nlf
              go_wp2_with fail
              refine (wrong7_own K O lf (by have := NLF.out; omega) (r := 0) (by rw [HLF.out, LY.out]; kernel_rfl)).mono ?_
              clear O
              rintro e w3 ⟨rfl, O⟩
              go_wp2_with fail
              refine (wrong7_own K O (lf ++ [121]) (HL4.out) (r := 40) (WH4.out)).mono ?_
              clear O
              rintro e w3 ⟨rfl, O⟩
              go_wp2_with fail
              refine (many7_own O 120 511 (by decide) (l := lx) LX.out.symm).mono ?_
              clear O
              rintro e w3 ⟨rfl, O⟩
              go_wp2_with fail
              refine (wrong7_own K O lx (by omega) (r := 40) (WH5.out)).mono ?_
              clear O
              rintro e w3 ⟨rfl, O⟩
              go_wp2_with fail
              refine (all7_own O).mono ?_
              clear O
              rintro e w3 ⟨rfl, O⟩
              go_wp2_with fail
              refine (mail_none K T O [97, 64, 98, 46, 99] (by decide) true true true true true true 9999 (-1) (by decide) false [] (by decide) (by kernel_rfl)).mono ?_
              clear O
              rintro e w3 ⟨rfl, O⟩
              replace O := (O.newBox #[.int .u8 0, .string ⟨#[]⟩, .slice none 0 0] 27).drop
              go_wp2_with fail
              refine (mail_none K T O [97, 64, 98, 46, 99] (by decide) false false false false false false 0 (0) (by decide) false [97, 32, 98] (by decide) (by kernel_rfl)).mono ?_
              clear O
              rintro e w3 ⟨rfl, O⟩
              replace O := (O.newBox #[.int .u8 0, .string ⟨#[]⟩, .slice none 0 0] 27).drop
              go_wp2_with fail
              refine (many7_own O 97 33 (by decide) (l := lc) LC.out.symm).mono ?_
              clear O
              rintro e w3 ⟨rfl, O⟩
              go_wp2_with fail
              refine (mail_none K T O [97, 64, 98, 46, 99] (by decide) false false false false false false 0 (0) (by decide) false lc (by omega) (by rw [LC.out]; kernel_rfl)).mono ?_
              clear O
              rintro e w3 ⟨rfl, O⟩
              replace O := (O.newBox #[.int .u8 0, .string ⟨#[]⟩, .slice none 0 0] 27).drop
              go_wp2_with fail
              refine (all7_own O).mono ?_
              clear O
              rintro e w3 ⟨rfl, O⟩
              go_wp2_with fail
              refine (mail_none K T O [97] (by decide) true true true true true true 9999 (0) (by decide) false [] (by decide) (by kernel_rfl)).mono ?_
              clear O
              rintro e w3 ⟨rfl, O⟩
              replace O := (O.newBox #[.int .u8 0, .string ⟨#[]⟩, .slice none 0 0] 27).drop
              go_wp2_with fail
              refine (all7_own O).mono ?_
              clear O
              rintro e w3 ⟨rfl, O⟩
              go_wp2_with fail
              refine (rcpt_none K O [] (by decide) true true true true true true 9999 false (by kernel_rfl)).mono ?_
              clear O
              rintro e w3 ⟨rfl, O⟩
              replace O := (O.newBox #[.int .u8 0, .string ⟨#[]⟩, .slice none 0 0] 27).drop
              go_wp2_with fail
              refine (all7_own O).mono ?_
              clear O
              rintro e w3 ⟨rfl, O⟩
              go_wp2_with fail
              refine (many7_own O 97 32 (by decide) (l := ld) LD.out.symm).mono ?_
              clear O
              rintro e w3 ⟨rfl, O⟩
              go_wp2_with fail
              refine (mail_some K T O [] (by decide) true true true true true true 9999 0 (by decide) false ld (by omega) (x := []) (ps := [([83, 73, 90, 69], [48]), ([69, 78, 86, 73, 68], ld)]) (N := 2) (by rw [LD.out]; kernel_rfl) rfl).mono ?_
              clear O
              rintro e w3 ⟨am, cm, rfl, O⟩
              obtain ⟨MB, hMB⟩ : ∃ b, b = w3.heap.size := ⟨_, rfl⟩
              have O2 := O.newBox #[.int .u8 3, .string ⟨([] : List UInt8).toArray⟩, .slice am 2 cm] 27
              rw [← hMB] at O2
              clear O
              go_upto_region 37 with fail
              rw [← hMB]
              clear hMB
              have x0 := O2.cell 0
              have x1 := O2.cell 1
              have x2 := O2.cell 2
              go_wp2_with fail
              refine (get_lit O2 3 [] (a := am) (cap := cm) (n := 2) (ps := [([83, 73, 90, 69], [48]), ([69, 78, 86, 73, 68], ld)]) rfl (by decide) (fun w' h => (h.pick 1).pmR) [83, 73, 90, 69] (t := [48]) (b := true) (by rw [LD.out]; kernel_rfl) (by rw [LD.out]; kernel_rfl)).mono ?_
              clear O2 x0 x1 x2
              rintro e w4 ⟨rfl, O2⟩
              have x0 := O2.cell 0
              have x1 := O2.cell 1
              have x2 := O2.cell 2
              go_wp2_with fail
              refine (get_lit O2 3 [] (a := am) (cap := cm) (n := 2) (ps := [([83, 73, 90, 69], [48]), ([69, 78, 86, 73, 68], ld)]) rfl (by decide) (fun w' h => (h.pick 1).pmR) [82, 69, 81, 85, 73, 82, 69, 84, 76, 83] (t := []) (b := false) (by rw [LD.out]; kernel_rfl) (by rw [LD.out]; kernel_rfl)).mono ?_
              clear O2 x0 x1 x2
              rintro e w4 ⟨rfl, O2⟩
              have x0 := O2.cell 0
              have x1 := O2.cell 1
              have x2 := O2.cell 2
              go_wp2_with fail
              refine (get_lit O2 3 [] (a := am) (cap := cm) (n := 2) (ps := [([83, 73, 90, 69], [48]), ([69, 78, 86, 73, 68], ld)]) rfl (by decide) (fun w' h => (h.pick 1).pmR) [115, 105, 122, 101] (t := []) (b := false) (by rw [LD.out]; kernel_rfl) (by rw [LD.out]; kernel_rfl)).mono ?_
              clear O2 x0 x1 x2
              rintro e w4 ⟨rfl, O2⟩
              go_wp2
              go_ret
              exact ⟨rfl, O2.below⟩
end Go.Proofs.YtehkdbgoeakgbaaDoor
