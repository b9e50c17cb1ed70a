/- mailroomlaw04: the mails of the examples, plain. -/
import Derived.Test.YtlmifdkhdcbniaaDoorAdY
import Derived.Test.YtlmifdkhdcbniaaDoorAdG
import Derived.Deep.DeepCutAuto
namespace Go.Proofs.YtlmifdkhdcbniaaDoor
set_option linter.all false
open Go.RowKit

def x510 : List UInt8 := (List.replicate 510 [120]).flatten
def lineX : List UInt8 := x510 ++ [13, 10]
theorem x510_len : x510.length = 510 := by kernel_rfl
theorem lineX_len : lineX.length = 512 := by kernel_rfl
def goods5 : List (List UInt8) := [[], [13, 10], [97, 9, 98, 32, 126, 13, 10, 13, 10], lineX, lineX ++ lineX]
def bads12 : List (List UInt8) := [[97], [97, 13], [97, 10], [10], [97, 13, 98, 13, 10], [97, 10, 98, 13, 10], [13, 13, 10], [97, 0, 13, 10], [97, 127, 13, 10], [195, 169, 13, 10], 120 :: lineX, [13, 10, 120]]
theorem goods5_all : (goods5.all fun t => linesB t && decide (t.length ≤ 1024)) = true := by kernel_rfl
theorem bads12_all : (bads12.all fun t => !linesB t && decide (t.length ≤ 1024)) = true := by kernel_rfl
theorem fA_ok : parseB fA = true := by kernel_rfl
theorem tB_ok : parseB tB = true := by kernel_rfl
theorem one_rc : rcOk [] [(tB, false)] = true := by kernel_rfl
theorem oneM_head (b : Nat) (t : List UInt8) : (oneM b t).head = linesB t := by
  unfold Ml.head oneM
  rw [fA_ok]
  simp
theorem oneM_err (b : Nat) (t : List UInt8) (rcpts most : Int) : (oneM b t).err rcpts most = if most < (t.length : Int) ∨ rcpts < 1 then 40 else if linesB t = true then 0 else 4 := by
  unfold Ml.err
  rw [oneM_head]
  show (if most < (t.length : Int) ∨ rcpts < 1 then 40 else if (linesB t && rcOk [] [(tB, false)]) = true then 0 else 4) = _
  rw [one_rc]; simp
theorem oneM_small {b : Nat} {t : List UInt8} (h : t.length ≤ 100000) : (oneM b t).Small := ⟨by simp [oneM, fA], by simp [oneM], h, by simp [oneM], by simp [oneM], by intro r hr; simp [oneM] at hr; subst hr; decide⟩

theorem goods5_at (k : Nat) (h : k < goods5.length) : linesB goods5[k] = true ∧ goods5[k].length ≤ 1024 := by
  have := List.all_eq_true.1 goods5_all _ (List.getElem_mem h)
  simpa using this
theorem bads12_at (k : Nat) (h : k < bads12.length) : linesB bads12[k] = false ∧ bads12[k].length ≤ 1024 := by
  have := List.all_eq_true.1 bads12_all _ (List.getElem_mem h)
  simpa using this
theorem oneMail_is {w0 w : World} {L : List Piece} {mx : Int} (K : Kinds w0) (hm : MaxLenAt w0 mx) {b : Nat} {t : List UInt8} (O : Own w0 w (box b (flat2 [(tB, false)]).toArray 43 :: L)) {rcpts most r : Int} (hE : (oneM b t).err rcpts most = r) (ht : t.length ≤ 100000) :
    Calls Tryd.prog 29 #[(oneM b t).val, .int .i64 rcpts, .int .i64 most] w fun e w' => e = .returned (.int .i64 r) ∧ Own w0 w' (box b (flat2 [(tB, false)]).toArray 43 :: L) :=
  mail_own K hm O (oneM b t) (box_rc O) (oneM_small ht) hE
def a33 : List UInt8 := (List.replicate 33 [97]).flatten
def rc3 : List (List UInt8 × Bool) := [(tB, false), ([116, 64, 66, 46, 101, 120, 97, 109, 112, 108, 101], true)]
def rc4 : List (List UInt8 × Bool) := [(tB, false), ([], false)]
def rc5 : List (List UInt8 × Bool) := [([60, 116, 64, 98, 46, 101, 120, 97, 109, 112, 108, 101, 62], false)]
/-- the six that may not be, as cells -/
def badC (b0 D : Nat) : Array Value := #[.string ⟨#[102]⟩, .slice (some ⟨b0, 0, none⟩) 1 1, .bool false, .string ⟨#[]⟩, .string ⟨#[]⟩,
  .string ⟨fA.toArray⟩, .slice (some ⟨b0, 0, none⟩) 1 1, .bool false, .string ⟨#[97, 32, 98]⟩, .string ⟨#[]⟩,
  .string ⟨fA.toArray⟩, .slice (some ⟨b0, 0, none⟩) 1 1, .bool false, .string ⟨a33.toArray⟩, .string ⟨#[]⟩,
  .string ⟨fA.toArray⟩, .slice (some ⟨D + 1, 0, none⟩) 2 2, .bool false, .string ⟨#[]⟩, .string ⟨#[]⟩,
  .string ⟨fA.toArray⟩, .slice (some ⟨D + 1 + 1, 0, none⟩) 2 2, .bool false, .string ⟨#[]⟩, .string ⟨#[]⟩,
  .string ⟨fA.toArray⟩, .slice (some ⟨D + 1 + 1 + 1, 0, none⟩) 1 1, .bool false, .string ⟨#[]⟩, .string ⟨#[]⟩]
def smallC (m : Ml) : Bool := decide (m.frm.length ≤ 100000) && (decide (m.env.length ≤ 100000) && (decide (m.txt.length ≤ 100000) && (decide (m.rc.length ≤ 100000) && (decide (m.rc.length ≤ m.rcap) && m.rc.all fun r => decide (r.1.length ≤ 100000)))))
theorem smallB {m : Ml} (h : smallC m = true) : m.Small := by
  unfold smallC at h
  simp only [Bool.and_eq_true, decide_eq_true_eq, List.all_eq_true] at h
  exact ⟨h.1, h.2.1, h.2.2.1, h.2.2.2.1, h.2.2.2.2.1, h.2.2.2.2.2⟩
def bm0 (b : Nat) : Ml := ⟨[102], some ⟨b, 0, none⟩, 1, [(tB, false)], false, [], []⟩
theorem bm0_err (b : Nat) : (bm0 b).err 4 1024 = 4 := by kernel_rfl
theorem bm0_small (b : Nat) : (bm0 b).Small := smallB (by kernel_rfl)
def bm1 (b : Nat) : Ml := ⟨fA, some ⟨b, 0, none⟩, 1, [(tB, false)], false, [97, 32, 98], []⟩
theorem bm1_err (b : Nat) : (bm1 b).err 4 1024 = 4 := by kernel_rfl
theorem bm1_small (b : Nat) : (bm1 b).Small := smallB (by kernel_rfl)
def bm2 (b : Nat) : Ml := ⟨fA, some ⟨b, 0, none⟩, 1, [(tB, false)], false, a33, []⟩
theorem bm2_err (b : Nat) : (bm2 b).err 4 1024 = 4 := by kernel_rfl
theorem bm2_small (b : Nat) : (bm2 b).Small := smallB (by kernel_rfl)
def bm3 (b : Nat) : Ml := ⟨fA, some ⟨b, 0, none⟩, 2, rc3, false, [], []⟩
theorem bm3_err (b : Nat) : (bm3 b).err 4 1024 = 4 := by kernel_rfl
theorem bm3_small (b : Nat) : (bm3 b).Small := smallB (by kernel_rfl)
def bm4 (b : Nat) : Ml := ⟨fA, some ⟨b, 0, none⟩, 2, rc4, false, [], []⟩
theorem bm4_err (b : Nat) : (bm4 b).err 4 1024 = 4 := by kernel_rfl
theorem bm4_small (b : Nat) : (bm4 b).Small := smallB (by kernel_rfl)
def bm5 (b : Nat) : Ml := ⟨fA, some ⟨b, 0, none⟩, 1, rc5, false, [], []⟩
theorem bm5_err (b : Nat) : (bm5 b).err 4 1024 = 4 := by kernel_rfl
theorem bm5_small (b : Nat) : (bm5 b).Small := smallB (by kernel_rfl)
def a31 : List UInt8 := (List.replicate 31 [97]).flatten
def e32 : List UInt8 := a31 ++ [45]
def rc6 : List (List UInt8 × Bool) := [([116, 64, 99, 46, 101, 120, 97, 109, 112, 108, 101], false), ([84, 64, 99, 46, 101, 120, 97, 109, 112, 108, 101], false), ([120, 64, 66, 46, 101, 120, 97, 109, 112, 108, 101], true), ([120], false)]
def m6 (b : Nat) : Ml := ⟨[], some ⟨b, 0, none⟩, 4, rc6, true, e32, []⟩
theorem m6_small (b : Nat) : (m6 b).Small := smallB (by kernel_rfl)
theorem m6_err (b : Nat) : (m6 b).err 4 10 = 4 := by kernel_rfl
def twoD : List (List UInt8) := [[98, 46, 101, 120, 97, 109, 112, 108, 101], [99, 46, 101, 120, 97, 109, 112, 108, 101]]
theorem rc6_doms : doms rc6 = [[99, 46, 101, 120, 97, 109, 112, 108, 101], [99, 46, 101, 120, 97, 109, 112, 108, 101], [98, 46, 101, 120, 97, 109, 112, 108, 101]] := by kernel_rfl
theorem m6_doms : domsS rc6 = twoD := by
  refine rising_uniq (domsS_rising _) ?_ (fun x => ?_)
  · simp only [twoD, List.pairwise_cons, List.mem_singleton, List.not_mem_nil, false_implies, implies_true, List.Pairwise.nil, and_true, forall_eq]
    decide
  · rw [domsS_mem, rc6_doms]
    simp only [twoD, List.mem_cons, List.not_mem_nil, or_false]
    constructor
    · rintro (h | h | h)
      · exact .inr h
      · exact .inr h
      · exact .inl h
    · rintro (h | h)
      · exact .inr (.inr h)
      · exact .inl h
def noM : Ml := ⟨[], none, 0, [], false, [], []⟩
theorem noM_doms : domsS noM.rc = [] := by
  have h := domsS_mem noM.rc
  apply List.eq_nil_iff_forall_not_mem.2
  intro x hx
  rw [h x] at hx
  simp [noM, doms] at hx
theorem noM_small : noM.Small := ⟨by simp [noM], by simp [noM], by simp [noM], by simp [noM], by simp [noM], by intro r hr; simp [noM] at hr⟩
set_option maxRecDepth 100000 in
set_option maxHeartbeats 8000000 in
theorem mails_own {w0 w : World} {L : List Piece} {mx : Int} (K : Kinds w0) (hm : MaxLenAt w0 mx) (O : Own w0 w L) :
    Calls Tryd.prog 32 #[] w fun e w' => e = .returned (.bool true) ∧ Own w0 w' L := by
  have HM := Lib.hid hm
  clear hm
  go_enter Tryd.func32, Tryd.ntmps32
  go_wp2_with fail
  refine (copies_any [120] 510 (by decide) (by decide) _).mono ?_
  rintro e w1 ⟨rfl, rfl⟩
  have XL := x510_len
  have LL := lineX_len
  have X1 : x510 ++ [13, 10] = lineX := rfl
  rw [show (List.replicate 510 [120]).flatten = x510 from rfl]
  have G5 : Hid (goods5 = [[], [13, 10], [97, 9, 98, 32, 126, 13, 10, 13, 10], lineX, lineX ++ lineX]) := rfl
  have B12 : Hid (bads12 = [[97], [97, 13], [97, 10], [10], [97, 13, 98, 13, 10], [97, 10, 98, 13, 10], [13, 13, 10], [97, 0, 13, 10], [97, 127, 13, 10], [195, 169, 13, 10], 120 :: lineX, [13, 10, 120]]) := rfl
  have G5A := Lib.hid goods5_at
  have B12A := Lib.hid bads12_at
  have G5L : Hid (goods5.length = 5) := by unfold Hid; rfl
  have B12L : Hid (bads12.length = 12) := by unfold Hid; rfl
  generalize goods5 = g5 at G5 G5A G5L
  generalize bads12 = b12 at B12 B12A B12L
  generalize x510 = x at XL X1 ⊢
  generalize lineX = line at LL X1 G5 B12
  have O2 := O.newBox (g5.map str).toArray 9
  have O2' := O2
  rw [G5.out] at O2
  go_wp2_with fail
  go_loopw [17] (fun iv wr => ∃ k : Nat, k ≤ 5 ∧ iv = .int .i64 k ∧ Own w0 wr (box w.heap.size (g5.map str).toArray 9 :: L)) (fun iv _ => 5 - (intOf iv).toNat)
  case atStart => exact ⟨0, by omega, rfl, by rw [G5.out]; exact O2⟩
  case round =>
    clear O O2 O2'
    obtain ⟨k, hk, rfl, O⟩ := hrel
    by_cases hlt : k < 5
    · have hkl : k < g5.length := by rw [G5L.out]; exact hlt
      have c := O.litCell k hkl
      have hb1 : (k : Int) < 5 := by omega
      have B1 := Lib.hid (G5A.out k hkl)
      generalize g5[k] = s at c B1
      go_wp2_with fail
      refine (oneMail_own O s).mono ?_
      clear O c
      rintro e w3 ⟨b, rfl, O⟩
      go_wp2_with fail
      refine (oneMail_is K HM.out O (r := 0) (by rw [oneM_err, if_neg (by have := B1.out.2; omega), B1.out.1]; rfl) (by have := B1.out.2; omega)).mono ?_
      clear O
      rintro e w3 ⟨rfl, O⟩
      go_wp2
      go_roundw
      case rel => exact ⟨k + 1, by omega, by go_num, O.drop⟩
      case measure => simp [intOf]; omega
    · have hb1 : ¬ (k : Int) < 5 := by omega
      replace O := O.drop
      have O2 := O.newBox (b12.map str).toArray 9
      rw [B12.out] at O2
      go_wp2_with fail
      go_loopw [30] (fun iv wr' => ∃ k : Nat, k ≤ 12 ∧ iv = .int .i64 k ∧ Own w0 wr' (box wr.heap.size (b12.map str).toArray 9 :: L)) (fun iv _ => 12 - (intOf iv).toNat)
      case atStart => exact ⟨0, by omega, rfl, by rw [B12.out]; exact O2⟩
      case round =>
        clear O O2 hk hlt hb1
        obtain ⟨k, hk, rfl, O⟩ := hrel
        by_cases hlt : k < 12
        · have hkl : k < b12.length := by rw [B12L.out]; exact hlt
          have c := O.litCell k hkl
          have hb1 : (k : Int) < 12 := by omega
          have B1 := Lib.hid (B12A.out k hkl)
          generalize b12[k] = s at c B1
          go_wp2_with fail
          refine (oneMail_own O s).mono ?_
          clear O c
          rintro e w3 ⟨b, rfl, O⟩
          go_wp2_with fail
          refine (oneMail_is K HM.out O (r := 4) (by rw [oneM_err, if_neg (by have := B1.out.2; omega), B1.out.1]; rfl) (by have := B1.out.2; omega)).mono ?_
          clear O
          rintro e w3 ⟨rfl, O⟩
          go_wp2
          go_roundw
          case rel => exact ⟨k + 1, by omega, by go_num, O.drop⟩
          case measure => simp [intOf]; omega
        · have hb1 : ¬ (k : Int) < 12 := by omega
          replace O := O.drop
          clear G5 G5A G5L B12 B12A B12L LL XL X1
          go_wp2_with fail
          refine (oneMail_own O []).mono ?_
          clear O
          rintro e w3 ⟨b0, rfl, O⟩
          rw [show (oneM b0 []).val = .agg #[.string ⟨fA.toArray⟩, .slice (some ⟨b0, 0, none⟩) 1 1, .bool false, .string ⟨#[]⟩, .string ⟨#[]⟩] from rfl]
          obtain ⟨M6, hM6⟩ : ∃ n, n = w3.heap.size := ⟨_, rfl⟩
          replace O := O.newBox #[.string ⟨fA.toArray⟩, .slice (some ⟨b0, 0, none⟩) 1 1, .bool false, .string ⟨#[]⟩, .string ⟨#[]⟩] 39
          rw [← hM6] at O
          have HM6 := Lib.hid hM6
          have O2 := O.pick 1
          obtain ⟨c0, c1, c2, c3, c4⟩ := box5 O
          go_wp2_with fail
          rw [← HM6.out]
          refine (oneMail_is K HM.out O2 (t := []) (rcpts := 0) (most := 10) (r := 40) (by rw [oneM_err]; rfl) (by simp)).mono ?_
          clear O O2 c0 c1 c2 c3 c4 hM6
          rintro e w4 ⟨rfl, O2⟩
          have O := O2.pick 1
          obtain ⟨c0, c1, c2, c3, c4⟩ := box5 O
          go_wp2_with fail
          refine (oneMail_is K HM.out O2 (t := []) (rcpts := -1) (most := 10) (r := 40) (by rw [oneM_err]; rfl) (by simp)).mono ?_
          clear O O2 c0 c1 c2 c3 c4
          rintro e w5 ⟨rfl, O2⟩
          have O := O2.pick 1
          obtain ⟨c0, c1, c2, c3, c4⟩ := box5 O
          go_wp2_with fail
          refine (oneMail_is K HM.out O2 (t := []) (rcpts := 1) (most := -1) (r := 40) (by rw [oneM_err]; rfl) (by simp)).mono ?_
          clear O O2 c0 c1 c2 c3 c4
          rintro e w6 ⟨rfl, O2⟩
          have O := O2.pick 1
          obtain ⟨c0, c1, c2, c3, c4⟩ := box5 O
          go_wp2_with fail
          refine (oneMail_is K HM.out O2 (t := []) (rcpts := 1) (most := 0) (r := 0) (by rw [oneM_err]; rfl) (by simp)).mono ?_
          clear O O2 c0 c1 c2 c3 c4
          rintro e w7 ⟨rfl, O2⟩
          go_wp2_with fail
          refine (oneMail_own O2 [13, 10]).mono ?_
          clear O2
          rintro e w8 ⟨b1, rfl, O2⟩
          go_wp2_with fail
          refine (oneMail_is K HM.out O2 (t := [13, 10]) (rcpts := 1) (most := 1) (r := 40) (by rw [oneM_err]; rfl) (by simp)).mono ?_
          clear O2
          rintro e w9 ⟨rfl, O2⟩
          replace O2 := O2.drop
          go_wp2_with fail
          refine (oneMail_own O2 [97, 98]).mono ?_
          clear O2
          rintro e w10 ⟨b2, rfl, O2⟩
          go_wp2_with fail
          refine (oneMail_is K HM.out O2 (t := [97, 98]) (rcpts := 1) (most := 1) (r := 40) (by rw [oneM_err]; rfl) (by simp)).mono ?_
          clear O2
          rintro e w11 ⟨rfl, O2⟩
          replace O2 := O2.drop
          go_wp2_with fail
          refine (mail_own K HM.out O2 noM (G := []) (fun h => by simp [noM] at h) noM_small (rcpts := 1) (most := 1) (r := 4) (by rfl)).mono ?_
          clear O2
          rintro e w12 ⟨rfl, O2⟩
          have O := O2.pick 1
          obtain ⟨c0, c1, c2, c3, c4⟩ := box5 O
          go_wp2_with fail
          refine (copies_any [97] 33 (by decide) (by decide) _).mono ?_
          rintro e w13 ⟨rfl, rfl⟩
          have X33 : Hid ((List.replicate 33 [97]).flatten = a33) := rfl
          rw [X33.out]
          clear X33
          go_upto_region 24 with fail
          obtain ⟨D, hD⟩ : ∃ n, n = w12.heap.size := ⟨_, rfl⟩
          have P1 := O.newBox (badC b0 D) 39
          have P2 := P1.newBox (flat2 rc3).toArray 43
          have P3 := P2.newBox (flat2 rc4).toArray 43
          have P4 := P3.newBox (flat2 rc5).toArray 43
          rw [show (((w12.alloc (.cells (badC b0 D) 39)).alloc (.cells (flat2 rc3).toArray 43)).alloc (.cells (flat2 rc4).toArray 43)).heap.size = D + 1 + 1 + 1 by rw [hD]; simp,
            show ((w12.alloc (.cells (badC b0 D) 39)).alloc (.cells (flat2 rc3).toArray 43)).heap.size = D + 1 + 1 by rw [hD]; simp,
            show (w12.alloc (.cells (badC b0 D) 39)).heap.size = D + 1 by rw [hD]; simp, ← hD] at P4
          have HD := Lib.hid hD
          clear P1 P2 P3 O O2 c0 c1 c2 c3 c4
          rw [← HD.out]
          change Code.wp _ _ _ _ ((((w12.alloc (.cells (badC b0 D) 39)).alloc (.cells (flat2 rc3).toArray 43)).alloc (.cells (flat2 rc4).toArray 43)).alloc (.cells (flat2 rc5).toArray 43))
          generalize (((w12.alloc (.cells (badC b0 D) 39)).alloc (.cells (flat2 rc3).toArray 43)).alloc (.cells (flat2 rc4).toArray 43)).alloc (.cells (flat2 rc5).toArray 43) = W at P4 ⊢
          clear HD hD HM6
          go_wp2_with fail
          go_loopw [8] (fun iv wr' => ∃ k : Nat, k ≤ 6 ∧ iv = .int .i64 k ∧ Own w0 wr' (box (D + 1 + 1 + 1) (flat2 rc5).toArray 43 :: box (D + 1 + 1) (flat2 rc4).toArray 43 :: box (D + 1) (flat2 rc3).toArray 43 :: box D (badC b0 D) 39 :: box M6 #[.string ⟨fA.toArray⟩, .slice (some ⟨b0, 0, none⟩) 1 1, .bool false, .string ⟨#[]⟩, .string ⟨#[]⟩] 39 :: box b0 (flat2 [(tB, false)]).toArray 43 :: L)) (fun iv _ => 6 - (intOf iv).toNat)
          case atStart => exact ⟨0, by omega, rfl, P4⟩
          case round =>
            clear P4
            obtain ⟨k, hk6, rfl, O⟩ := hrel
            rcases (show k = 0 ∨ k = 1 ∨ k = 2 ∨ k = 3 ∨ k = 4 ∨ k = 5 ∨ k = 6 by omega) with rfl | rfl | rfl | rfl | rfl | rfl | rfl
            · have c0 : wr.cell? ⟨D, 0, none⟩ = some (.string ⟨#[102]⟩) := (O.pick 3).cell 0
              have c1 : wr.cell? ⟨D, 1, none⟩ = some (.slice (some ⟨b0, 0, none⟩) 1 1) := (O.pick 3).cell 1
              have c2 : wr.cell? ⟨D, 2, none⟩ = some (.bool false) := (O.pick 3).cell 2
              have c3 : wr.cell? ⟨D, 3, none⟩ = some (.string ⟨#[]⟩) := (O.pick 3).cell 3
              have c4 : wr.cell? ⟨D, 4, none⟩ = some (.string ⟨#[]⟩) := (O.pick 3).cell 4
              go_wp2_with fail
              refine (mail_own K HM.out O (bm0 b0) (box_rc (O.pick 5)) (bm0_small _) (rcpts := 4) (most := 1024) (r := 4) (bm0_err _)).mono ?_
              clear O c0 c1 c2 c3 c4
              rintro e w14 ⟨rfl, O⟩
              go_wp2
              go_roundw
              case rel => exact ⟨1, by omega, by go_num, O⟩
              case measure => simp [intOf]
            · have c0 : wr.cell? ⟨D, 5, none⟩ = some (.string ⟨fA.toArray⟩) := (O.pick 3).cell 5
              have c1 : wr.cell? ⟨D, 6, none⟩ = some (.slice (some ⟨b0, 0, none⟩) 1 1) := (O.pick 3).cell 6
              have c2 : wr.cell? ⟨D, 7, none⟩ = some (.bool false) := (O.pick 3).cell 7
              have c3 : wr.cell? ⟨D, 8, none⟩ = some (.string ⟨#[97, 32, 98]⟩) := (O.pick 3).cell 8
              have c4 : wr.cell? ⟨D, 9, none⟩ = some (.string ⟨#[]⟩) := (O.pick 3).cell 9
              go_wp2_with fail
              refine (mail_own K HM.out O (bm1 b0) (box_rc (O.pick 5)) (bm1_small _) (rcpts := 4) (most := 1024) (r := 4) (bm1_err _)).mono ?_
              clear O c0 c1 c2 c3 c4
              rintro e w14 ⟨rfl, O⟩
              go_wp2
              go_roundw
              case rel => exact ⟨2, by omega, by go_num, O⟩
              case measure => simp [intOf]
            · have c0 : wr.cell? ⟨D, 10, none⟩ = some (.string ⟨fA.toArray⟩) := (O.pick 3).cell 10
              have c1 : wr.cell? ⟨D, 11, none⟩ = some (.slice (some ⟨b0, 0, none⟩) 1 1) := (O.pick 3).cell 11
              have c2 : wr.cell? ⟨D, 12, none⟩ = some (.bool false) := (O.pick 3).cell 12
              have c3 : wr.cell? ⟨D, 13, none⟩ = some (.string ⟨a33.toArray⟩) := (O.pick 3).cell 13
              have c4 : wr.cell? ⟨D, 14, none⟩ = some (.string ⟨#[]⟩) := (O.pick 3).cell 14
              go_wp2_with fail
              refine (mail_own K HM.out O (bm2 b0) (box_rc (O.pick 5)) (bm2_small _) (rcpts := 4) (most := 1024) (r := 4) (bm2_err _)).mono ?_
              clear O c0 c1 c2 c3 c4
              rintro e w14 ⟨rfl, O⟩
              go_wp2
              go_roundw
              case rel => exact ⟨3, by omega, by go_num, O⟩
              case measure => simp [intOf]
            · have c0 : wr.cell? ⟨D, 15, none⟩ = some (.string ⟨fA.toArray⟩) := (O.pick 3).cell 15
              have c1 : wr.cell? ⟨D, 16, none⟩ = some (.slice (some ⟨D + 1, 0, none⟩) 2 2) := (O.pick 3).cell 16
              have c2 : wr.cell? ⟨D, 17, none⟩ = some (.bool false) := (O.pick 3).cell 17
              have c3 : wr.cell? ⟨D, 18, none⟩ = some (.string ⟨#[]⟩) := (O.pick 3).cell 18
              have c4 : wr.cell? ⟨D, 19, none⟩ = some (.string ⟨#[]⟩) := (O.pick 3).cell 19
              go_wp2_with fail
              refine (mail_own K HM.out O (bm3 (D + 1)) (box_rc (O.pick 2)) (bm3_small _) (rcpts := 4) (most := 1024) (r := 4) (bm3_err _)).mono ?_
              clear O c0 c1 c2 c3 c4
              rintro e w14 ⟨rfl, O⟩
              go_wp2
              go_roundw
              case rel => exact ⟨4, by omega, by go_num, O⟩
              case measure => simp [intOf]
            · have c0 : wr.cell? ⟨D, 20, none⟩ = some (.string ⟨fA.toArray⟩) := (O.pick 3).cell 20
              have c1 : wr.cell? ⟨D, 21, none⟩ = some (.slice (some ⟨D + 1 + 1, 0, none⟩) 2 2) := (O.pick 3).cell 21
              have c2 : wr.cell? ⟨D, 22, none⟩ = some (.bool false) := (O.pick 3).cell 22
              have c3 : wr.cell? ⟨D, 23, none⟩ = some (.string ⟨#[]⟩) := (O.pick 3).cell 23
              have c4 : wr.cell? ⟨D, 24, none⟩ = some (.string ⟨#[]⟩) := (O.pick 3).cell 24
              go_wp2_with fail
              refine (mail_own K HM.out O (bm4 (D + 1 + 1)) (box_rc (O.pick 1)) (bm4_small _) (rcpts := 4) (most := 1024) (r := 4) (bm4_err _)).mono ?_
              clear O c0 c1 c2 c3 c4
              rintro e w14 ⟨rfl, O⟩
              go_wp2
              go_roundw
              case rel => exact ⟨5, by omega, by go_num, O⟩
              case measure => simp [intOf]
            · have c0 : wr.cell? ⟨D, 25, none⟩ = some (.string ⟨fA.toArray⟩) := (O.pick 3).cell 25
              have c1 : wr.cell? ⟨D, 26, none⟩ = some (.slice (some ⟨D + 1 + 1 + 1, 0, none⟩) 1 1) := (O.pick 3).cell 26
              have c2 : wr.cell? ⟨D, 27, none⟩ = some (.bool false) := (O.pick 3).cell 27
              have c3 : wr.cell? ⟨D, 28, none⟩ = some (.string ⟨#[]⟩) := (O.pick 3).cell 28
              have c4 : wr.cell? ⟨D, 29, none⟩ = some (.string ⟨#[]⟩) := (O.pick 3).cell 29
              go_wp2_with fail
              refine (mail_own K HM.out O (bm5 (D + 1 + 1 + 1)) (box_rc (O)) (bm5_small _) (rcpts := 4) (most := 1024) (r := 4) (bm5_err _)).mono ?_
              clear O c0 c1 c2 c3 c4
              rintro e w14 ⟨rfl, O⟩
              go_wp2
              go_roundw
              case rel => exact ⟨6, by omega, by go_num, O⟩
              case measure => simp [intOf]
            · clear hk6
              obtain ⟨c0, c1, c2, c3, c4⟩ := box5 (O.pick 4)
              have f0 := (O.pick 4).free 0
              have f1 := (O.pick 4).free 1
              have f2 := (O.pick 4).free 2
              have f3 := (O.pick 4).free 3
              go_wp2_with fail
              refine (copies_any [97] 31 (by decide) (by decide) _).mono ?_
              rintro e w14 ⟨rfl, rfl⟩
              have X31 : Hid ((List.replicate 31 [97]).flatten = a31) := rfl
              rw [X31.out]
              have XA : a31.length = 31 := by kernel_rfl
              have XB : a31 ++ [45] = e32 := rfl
              go_upto_region 30 with fail
              have O1 := (((O.pick 4).set 0 (.string ⟨#[]⟩)).set 3 (.string ⟨e32.toArray⟩)).set 2 (.bool true)
              clear c0 c1 c2 c3 c4 f0 f1 f2 f3 O XA XB X31
              generalize ((wr.setCell ⟨M6, 0, none⟩ (.string ⟨#[]⟩)).setCell ⟨M6, 3, none⟩ (.string ⟨e32.toArray⟩)).setCell ⟨M6, 2, none⟩ (.bool true) = W2 at O1 ⊢
              have O2 := O1.newBox (flat2 rc6).toArray 43
              have c1 : (W2.alloc (.cells (flat2 rc6).toArray 43)).cell? ⟨M6, 1, none⟩ = some (.slice (some ⟨b0, 0, none⟩) 1 1) := (O2.pick 1).cell 1
              have f1 : (W2.alloc (.cells (flat2 rc6).toArray 43)).frozen? ⟨M6, 1, none⟩ = false := (O2.pick 1).free 1
              change (W2.alloc (.cells #[.string ⟨#[116, 64, 99, 46, 101, 120, 97, 109, 112, 108, 101]⟩, .bool false, .string ⟨#[84, 64, 99, 46, 101, 120, 97, 109, 112, 108, 101]⟩, .bool false, .string ⟨#[120, 64, 66, 46, 101, 120, 97, 109, 112, 108, 101]⟩, .bool true, .string ⟨#[120]⟩, .bool false] 43)).cell? ⟨M6, 1, none⟩ = _ at c1
              change (W2.alloc (.cells #[.string ⟨#[116, 64, 99, 46, 101, 120, 97, 109, 112, 108, 101]⟩, .bool false, .string ⟨#[84, 64, 99, 46, 101, 120, 97, 109, 112, 108, 101]⟩, .bool false, .string ⟨#[120, 64, 66, 46, 101, 120, 97, 109, 112, 108, 101]⟩, .bool true, .string ⟨#[120]⟩, .bool false] 43)).frozen? ⟨M6, 1, none⟩ = _ at f1
              go_upto_region 31 with fail
              obtain ⟨b6, hb6⟩ : ∃ n, n = W2.heap.size := ⟨_, rfl⟩
              rw [← hb6] at O2 ⊢
              have O3 := (O2.pick 1).set 1 (.slice (some ⟨b6, 0, none⟩) 4 4)
              clear O1 O2 c1 f1 hb6
              change Code.wp _ _ _ _ ((W2.alloc (.cells (flat2 rc6).toArray 43)).setCell ⟨M6, 1, none⟩ (.slice (some ⟨b6, 0, none⟩) 4 4))
              generalize (W2.alloc (.cells (flat2 rc6).toArray 43)).setCell ⟨M6, 1, none⟩ (.slice (some ⟨b6, 0, none⟩) 4 4) = W3 at O3 ⊢
              have c0 : W3.cell? ⟨M6, 0, none⟩ = some (.string ⟨#[]⟩) := O3.cell 0
              have c1 : W3.cell? ⟨M6, 1, none⟩ = some (.slice (some ⟨b6, 0, none⟩) 4 4) := O3.cell 1
              have c2 : W3.cell? ⟨M6, 2, none⟩ = some (.bool true) := O3.cell 2
              have c3 : W3.cell? ⟨M6, 3, none⟩ = some (.string ⟨e32.toArray⟩) := O3.cell 3
              have c4 : W3.cell? ⟨M6, 4, none⟩ = some (.string ⟨#[]⟩) := O3.cell 4
              go_wp2_with fail
              refine (domains_own K O3 (m6 b6) (box_rc (O3.pick 1)) (m6_small _) (ds := twoD) m6_doms).mono ?_
              rintro e w15 ⟨v, rfl, O4⟩
              clear O3 c0 c1 c2 c3 c4
              obtain ⟨va, vcap, rfl⟩ := O4.shape
              have O5 := O4.alloc (.cells (twoD.map str).toArray 9)
              have S1 := O5.strsR
              have SM := sameL_any _ _ _ twoD twoD _ _ S1 (strsR_lit w15 twoD 9) (by decide) true (by decide)
              go_wp2_with fail
              refine SM.mono ?_
              clear SM S1
              rintro e w16 ⟨rfl, n, rfl⟩
              replace O5 := O5.drewN n
              generalize (w15.alloc (.cells (twoD.map str).toArray 9)).drewN n = W5 at O5 ⊢
              have c0 : W5.cell? ⟨M6, 0, none⟩ = some (.string ⟨#[]⟩) := (O5.pick 1).cell 0
              have c1 : W5.cell? ⟨M6, 1, none⟩ = some (.slice (some ⟨b6, 0, none⟩) 4 4) := (O5.pick 1).cell 1
              have c2 : W5.cell? ⟨M6, 2, none⟩ = some (.bool true) := (O5.pick 1).cell 2
              have c3 : W5.cell? ⟨M6, 3, none⟩ = some (.string ⟨e32.toArray⟩) := (O5.pick 1).cell 3
              have c4 : W5.cell? ⟨M6, 4, none⟩ = some (.string ⟨#[]⟩) := (O5.pick 1).cell 4
              go_wp2_with fail
              refine (mail_own K HM.out O5 (m6 b6) (box_rc (O5.pick 2)) (m6_small _) (rcpts := 4) (most := 10) (r := 4) (m6_err _)).mono ?_
              clear c0 c1 c2 c3 c4 O5 O4
              rintro e w17 ⟨rfl, O5⟩
              go_wp2_with fail
              refine (domains_own K O5 noM (G := []) (fun h => by simp [noM] at h) noM_small (ds := []) noM_doms).mono ?_
              clear O5
              rintro e w18 ⟨v2, rfl, O6⟩
              obtain ⟨va2, vcap2, rfl⟩ := O6.shape
              go_wp2
              go_ret
              exact ⟨rfl, O6.drop.drop.drop.drop.drop.drop.drop.drop.drop⟩
end Go.Proofs.YtlmifdkhdcbniaaDoor
