/- LogNames: the walk; printed by wip/lgnames.py. -/
import Derived.Test.YtnlppcjfpmnahaaGreatDoorLgN
namespace Go.Proofs.YtnlppcjfpmnahaaGreatDoor
set_option linter.all false
open Go.RowKit

/-- the pairs that may not be -/
theorem pair_at (i : Nat) (hi : i < 5) : ∃ a b : Int, (#[.int .i64 (-1), .int .i64 1, .int .i64 2, .int .i64 1, .int .i64 0, .int .i64 0, .int .i64 0, .int .i64 (-1), .int .i64 0, .int .i64 4294967296] : Array Value)[i * 2]? = some (.int .i64 a) ∧ (#[.int .i64 (-1), .int .i64 1, .int .i64 2, .int .i64 1, .int .i64 0, .int .i64 0, .int .i64 0, .int .i64 (-1), .int .i64 0, .int .i64 4294967296] : Array Value)[i * 2 + 1]? = some (.int .i64 b) ∧ (a < 0 ∨ 1 < a ∨ b < 1 ∨ 4294967295 < b) := by
  match i, hi with
  | 0, _ => exact ⟨-1, 1, rfl, rfl, by omega⟩
  | 1, _ => exact ⟨2, 1, rfl, rfl, by omega⟩
  | 2, _ => exact ⟨0, 0, rfl, rfl, by omega⟩
  | 3, _ => exact ⟨0, -1, rfl, rfl, by omega⟩
  | 4, _ => exact ⟨0, 4294967296, rfl, rfl, by omega⟩
set_option maxRecDepth 100000 in
set_option maxHeartbeats 8000000 in
theorem logNames_walk {w : World} : Calls Tryz.prog 4 #[] w fun e w' => e = .returned (.bool true) ∧ Below w.heap.size w w' := by
  have O0 := Own.start w
  have NN := Lib.hid (fun (n : Nat) (h1 : 1 ≤ n) (h2 : n ≤ 1024) (w' : World) (L : List Piece) (O : Own w w' L) => new_own O n h1 h2)
  go_enter Tryz.func4, Tryz.ntmps4
  go_wp2_with fail
  refine (begin_nil 0 1 [] _).mono ?_
  rintro _ w1 ⟨rfl, rfl⟩
  go_wp2_with fail
  refine (scan_nil 0 _).mono ?_
  rintro _ w2 ⟨rfl, rfl⟩
  go_wp2_with fail
  refine (top_nil _).mono ?_
  rintro _ w3 ⟨rfl, rfl⟩
  go_wp2_with fail
  refine (works12_own O0).mono ?_
  rintro _ w4 ⟨rfl, O⟩
  go_wp2_with fail
  refine (add_nil [] _).mono ?_
  rintro _ w5 ⟨rfl, rfl⟩
  go_wp2_with fail
  refine (room_nil _).mono ?_
  rintro _ w6 ⟨rfl, rfl⟩
  go_wp2_with fail
  refine (over_nil (.pointer none) _).mono ?_
  rintro _ w7 ⟨rfl, rfl⟩
  have N1 := NN.out 1 (by omega) (by omega) _ _ O
  rw [show ((1 : Nat) : Int) = 1 from rfl] at N1
  go_wp2_with fail
  refine (N1).mono ?_
  clear N1 O
  rintro _ w8 ⟨b1, rfl, O1⟩
  go_wp2_with fail
  refine (begin_none O1 (Fit.new (n := 1) (by omega)) (by show 0 + 1 ≤ 9000; omega) 0 1 [] (by decide) na_b).mono ?_
  clear O1
  rintro _ w9 ⟨rfl, O2⟩
  go_wp2_with fail
  refine (scan_is O2 (show (1 : Nat) ≤ 1024 by omega) 1 na_s).mono ?_
  clear O2
  rintro _ w10 ⟨v1, rfl, O3⟩
  go_wp2_with fail
  refine (top_is O3 (show (1 : Nat) ≤ 1024 by omega) na_t).mono ?_
  clear O3
  rintro _ w11 ⟨rfl, O4⟩
  have O4 := O4.drop
  have N7 := NN.out 7 (by omega) (by omega) _ _ O4
  rw [show ((7 : Nat) : Int) = 7 from rfl] at N7
  go_wp2_with fail
  refine (N7).mono ?_
  clear N7 O4
  rintro _ w12 ⟨b7, rfl, O5⟩
  obtain ⟨GP, hGP⟩ : ∃ b, b = w12.heap.size := ⟨_, rfl⟩
  have O6 := O5.newBox #[.int .i64 (-1), .int .i64 1, .int .i64 2, .int .i64 1, .int .i64 0, .int .i64 0, .int .i64 0, .int .i64 (-1), .int .i64 0, .int .i64 4294967296] 53
  rw [← hGP] at O6
  clear O5
  go_upto_region 13 with fail
  go_wp2_with fail
  rw [← hGP]
  clear hGP
  generalize (w12.alloc (.cells #[.int .i64 (-1), .int .i64 1, .int .i64 2, .int .i64 1, .int .i64 0, .int .i64 0, .int .i64 0, .int .i64 (-1), .int .i64 0, .int .i64 4294967296] 53)) = W1 at O6 ⊢
  go_loopw [131] (fun iv wx => ∃ i : Nat, i ≤ 5 ∧ iv = .int .i64 i ∧ Own w wx (box GP #[.int .i64 (-1), .int .i64 1, .int .i64 2, .int .i64 1, .int .i64 0, .int .i64 0, .int .i64 0, .int .i64 (-1), .int .i64 0, .int .i64 4294967296] 53 :: dk (.pointer (some ⟨b7, 0, none⟩)) nb0 :: [])) (fun iv _ => 5 - (intOf iv).toNat)
  case atStart => exact ⟨0, by omega, rfl, O6⟩
  case round =>
    clear O6 NN
    obtain ⟨i, hi, rfl, O⟩ := hrel
    by_cases hlt : i < 5
    · have hb1 : (i : Int) < 5 := by omega
      obtain ⟨a, b, p1, p2, hbad⟩ := pair_at i hlt
      have c0 := (O.cell (i * 2)).trans p1
      have c1 := (O.cell (i * 2 + 1)).trans p2
      clear p1 p2
      go_wp2_with fail
      refine (begin_bad ((O.alloc _).pick 1) a b hbad []).mono ?_
      rintro _ w13 ⟨rfl, rfl⟩
      have O7 := O.alloc (.cells #[.int .i64 a, .int .i64 b] 53)
      clear O c0 c1 hbad
      go_wp2
      go_roundw
      case rel => exact ⟨i + 1, by omega, by go_num, O7⟩
      case measure => simp [intOf]; omega
    · have hb1 : ¬ (i : Int) < 5 := by omega
      have O6 := O.drop
      clear O
      go_wp2_with fail
      refine (scan_is O6 (show (7 : Nat) ≤ 1024 by omega) 2 nb_s).mono ?_
      clear O6
      rintro _ w13 ⟨v2, rfl, O7⟩
      have H71 := fun w => half_good 7 (by omega) 1 (by omega) w
      simp only [show ((7 : Nat) : Int) = 7 from rfl, show ((1 : Nat) : Int) = 1 from rfl, show ((1 * (7 / 2) : Nat) : Int) = 3 from rfl, show ((7 / 2 : Nat) : Int) = 3 from rfl] at H71
      go_wp2_with fail
      refine (H71 _).mono ?_
      clear H71
      rintro _ w14 ⟨rfl, rfl⟩
      go_wp2_with fail
      refine (half_bad (-2) 1 (by omega) _).mono ?_
      rintro _ w15 ⟨rfl, rfl⟩
      go_wp2_with fail
      refine (half_bad 7 2 (by omega) _).mono ?_
      rintro _ w16 ⟨rfl, rfl⟩
      go_wp2_with fail
      refine (begin_some O7 (Fit.new (n := 7) (by omega)) (by show 0 + 7 ≤ 9000; omega) 0 4294967295 [97, 98, 99] (by decide) nb_b).mono ?_
      clear O7
      rintro _ w17 ⟨q1, rfl, O8⟩
      have OPS := ops_any (O8.pick 1)
      rw [nw_o] at OPS
      rw [show ((1 : Nat) : Int) = 1 from rfl] at OPS
      go_wp2_with fail
      refine (OPS).mono ?_
      clear OPS
      rintro _ w18 ⟨rfl, rfl⟩
      go_wp2_with fail
      refine (top_is (O8.pick 1) (by rw [nw_n]; omega) nw_t).mono ?_
      clear O8
      rintro _ w19 ⟨rfl, O9⟩
      go_wp2_with fail
      refine (fail_any (m := nW.2.1) 1 (by omega) O9).mono ?_
      clear O9
      rintro _ w20 ⟨rfl, O10⟩
      have O10 : Own w w20 (dk (.pointer (some ⟨b7, 0, none⟩)) nm2 :: _) := O10
      obtain ⟨za, hza⟩ : ∃ z, z = zL 110 := ⟨_, rfl⟩
      have Zza : Hid (za = List.replicate 110 0) := hza
      have lza : za.length = 110 := by rw [hza]; simp [zL]
      obtain ⟨zb, hzb⟩ : ∃ z, z = zL 300 := ⟨_, rfl⟩
      have Zzb : Hid (zb = List.replicate 300 0) := hzb
      have lzb : zb.length = 300 := by rw [hzb]; simp [zL]
      have E1 : Hid (nA1 = nW.1.add nm2 zb) := by unfold Hid; rw [hzb]; exact e_nA1
      have E2 : Hid (nA2 = nA1.1.add nA1.2.1 za) := by unfold Hid; rw [hza]; exact e_nA2
      clear hza hzb
      go_wp2_with (at_make; refine wpList_make_named rfl _ rfl 110 rfl (by omega) za Zza.out O10 ?_; intro ga w21 O11; have hcv := O11.fromBytes 110; rw [lza] at hcv)
      have O12 := O11.drop
      clear O10 O11 hcv
      refine (scan_is O12 (by rw [nm2_n]; omega) 0 n2_s).mono ?_
      clear O12
      rintro _ w22 ⟨v3, rfl, O13⟩
      go_wp2_with (at_make; refine wpList_make_named rfl _ rfl 300 rfl (by omega) zb Zzb.out O13 ?_; intro gb w23 O14; have hcv := O14.fromBytes 300; rw [lzb] at hcv)
      have O15 := O14.drop.pick 1
      clear O13 O14 hcv
      refine (add_good O15 g_2 (by omega) zb (by omega) E1.out n_a1).mono ?_
      clear O15 E1
      rintro _ w24 ⟨rfl, O16⟩
      go_wp2_with fail
      refine (add_good O16 g_a1 (by omega) za (by omega) E2.out n_a2).mono ?_
      clear O16 E2
      rintro _ w25 ⟨rfl, O17⟩
      go_wp2_with fail
      refine (add_good O17 g_a2 (by omega) [] (by decide) e_nA3 n_a3).mono ?_
      clear O17
      rintro _ w26 ⟨rfl, O18⟩
      go_wp2_with fail
      refine (room_good (m := nA3.2.1) (c := 16) O18 g_a3 n3_r).mono ?_
      clear O18
      rintro _ w27 ⟨rfl, O19⟩
      go_wp2_with fail
      refine (scan_is (O19.pick 1) (by rw [n3_n]; omega) 0 n3_s).mono ?_
      clear O19
      rintro _ w28 ⟨v4, rfl, O20⟩
      go_wp2_with fail
      refine (topv_is O20 (by rw [n3_n]; omega) n3_t).mono ?_
      clear O20
      rintro _ w29 ⟨rfl, O21⟩
      go_wp2_with fail
      refine (begin_none O21 g_a3.fit (by rw [n3_n]; omega) 1 5 [] (by decide) n_b).mono ?_
      clear O21
      rintro _ w30 ⟨rfl, O22⟩
      obtain ⟨GI, hGI⟩ : ∃ b, b = w30.heap.size := ⟨_, rfl⟩
      have O23 := (O22.newBox #[.int .i64 128, .int .i64 128] 3).pick 1
      rw [← hGI] at O23
      clear O22
      have BO := boot_fit O23 g_b.fit (by omega) (some ⟨GI, 0, none⟩) 2 2 [128, 128] (fun w' m' h => Own.boxSl (zs := [128, 128]) (h.pick 1)) (by decide) e_nBo
      rw [hGI] at BO
      go_wp2_with fail
      refine (BO).mono ?_
      clear BO O23
      rintro _ w31 ⟨rfl, O24⟩
      have O25 := O24.selK 3 [2, 0]
      try simp only [List.map_cons, List.map_nil, List.getD_cons_zero, List.getD_cons_succ, List.eraseIdx_cons_zero, List.eraseIdx_cons_succ, List.getElem_cons_zero, List.getElem_cons_succ, List.take_succ_cons, List.take_zero, List.drop_succ_cons, List.drop_zero, List.cons_append, List.nil_append, List.append_eq] at O25
      clear O24 hGI
      go_wp2_with fail
      refine (add_good O25 g_bo (by omega) [] (by decide) e_nA4 n_a4).mono ?_
      clear O25
      rintro _ w32 ⟨rfl, O26⟩
      go_wp2_with fail
      refine (over_own O26 (.pointer (some ⟨b7, 0, none⟩)) ⟨_, rfl⟩ ⟨_, rfl⟩).mono ?_
      clear O26
      rintro _ w33 ⟨q2, rfl, O27⟩
      have O28 := O27.selK 3 [0, 2]
      try simp only [List.map_cons, List.map_nil, List.getD_cons_zero, List.getD_cons_succ, List.eraseIdx_cons_zero, List.eraseIdx_cons_succ, List.getElem_cons_zero, List.getElem_cons_succ, List.take_succ_cons, List.take_zero, List.drop_succ_cons, List.drop_zero, List.cons_append, List.nil_append, List.append_eq] at O28
      clear O27
      go_wp2_with fail
      refine (add_good O28 g_a4 (by omega) [] (by decide) e_nA5 n_a5).mono ?_
      clear O28
      rintro _ w34 ⟨rfl, O29⟩
      have O30 := O29.drop
      clear O29
      have OH34 := (O30.newBox #[.string ⟨#[97, 98, 99]⟩] 9).pick 1
      try simp only [List.map_cons, List.map_nil, List.getD_cons_zero, List.getD_cons_succ, List.eraseIdx_cons_zero, List.eraseIdx_cons_succ, List.getElem_cons_zero, List.getElem_cons_succ, List.take_succ_cons, List.take_zero, List.drop_succ_cons, List.drop_zero, List.cons_append, List.nil_append, List.append_eq] at OH34
      go_wp2_with fail
      refine (has_box (ls := [[97, 98, 99]]) OH34 (by rw [n5_n]; omega) 0 4294967295 (k := 1) rfl (by omega) n5_s).mono ?_
      clear O30
      rintro _ w35 ⟨rfl, O31⟩
      clear OH34
      have N8 := new_own O31 8 (by omega) (by omega)
      rw [show ((8 : Nat) : Int) = 8 from rfl] at N8
      go_wp2_with fail
      refine (N8).mono ?_
      clear N8 O31
      rintro _ w36 ⟨b8, rfl, O32⟩
      go_wp2_with fail
      refine (begin_some O32 (Fit.new (n := 8) (by omega)) (by show 0 + 8 ≤ 9000; omega) 0 7 [115] (by decide) nc_b).mono ?_
      clear O32
      rintro _ w37 ⟨q5, rfl, O33⟩
      go_wp2_with fail
      refine (copy_own (O33.pick 1)).mono ?_
      clear O33
      rintro _ w38 ⟨b9, rfl, O34⟩
      have O35 := O34.selK 3 [2, 0, 1]
      try simp only [List.map_cons, List.map_nil, List.getD_cons_zero, List.getD_cons_succ, List.eraseIdx_cons_zero, List.eraseIdx_cons_succ, List.getElem_cons_zero, List.getElem_cons_succ, List.take_succ_cons, List.take_zero, List.drop_succ_cons, List.drop_zero, List.cons_append, List.nil_append, List.append_eq] at O35
      clear O34
      go_wp2_with fail
      refine (over_own O35 (.pointer (some ⟨b9, 0, none⟩)) ⟨_, rfl⟩ ⟨_, rfl⟩).mono ?_
      clear O35
      rintro _ w39 ⟨q6, rfl, O36⟩
      have O37 := O36.selK 4 [0, 2, 1, 3]
      try simp only [List.map_cons, List.map_nil, List.getD_cons_zero, List.getD_cons_succ, List.eraseIdx_cons_zero, List.eraseIdx_cons_succ, List.getElem_cons_zero, List.getElem_cons_succ, List.take_succ_cons, List.take_zero, List.drop_succ_cons, List.drop_zero, List.cons_append, List.nil_append, List.append_eq] at O37
      clear O36
      go_wp2_with fail
      refine (add_good O37 g_w2 (by omega) [114] (by decide) e_nR n_r).mono ?_
      clear O37
      rintro _ w40 ⟨rfl, O38⟩
      go_wp2_with fail
      refine (room_good (m := nR.2.1) (c := 8) O38 g_r nr_r).mono ?_
      clear O38
      rintro _ w41 ⟨rfl, O39⟩
      have O40 := O39.selK 4 [2, 1, 3]
      try simp only [List.map_cons, List.map_nil, List.getD_cons_zero, List.getD_cons_succ, List.eraseIdx_cons_zero, List.eraseIdx_cons_succ, List.getElem_cons_zero, List.getElem_cons_succ, List.take_succ_cons, List.take_zero, List.drop_succ_cons, List.drop_zero, List.cons_append, List.nil_append, List.append_eq] at O40
      clear O39
      go_wp2_with fail
      refine (room_good (m := nW2.2.1) (c := 4) O40 g_w2 nw2_r).mono ?_
      clear O40
      rintro _ w42 ⟨rfl, O41⟩
      have O42 := O41.selK 3 [2, 0, 1]
      try simp only [List.map_cons, List.map_nil, List.getD_cons_zero, List.getD_cons_succ, List.eraseIdx_cons_zero, List.eraseIdx_cons_succ, List.getElem_cons_zero, List.getElem_cons_succ, List.take_succ_cons, List.take_zero, List.drop_succ_cons, List.drop_zero, List.cons_append, List.nil_append, List.append_eq] at O42
      clear O41
      have OH42 := (O42.newBox #[.string ⟨#[115]⟩] 9).pick 1
      try simp only [List.map_cons, List.map_nil, List.getD_cons_zero, List.getD_cons_succ, List.eraseIdx_cons_zero, List.eraseIdx_cons_succ, List.getElem_cons_zero, List.getElem_cons_succ, List.take_succ_cons, List.take_zero, List.drop_succ_cons, List.drop_zero, List.cons_append, List.nil_append, List.append_eq] at OH42
      go_wp2_with fail
      refine (has_box (ls := [[115]]) OH42 (by rw [nw2_n]; omega) 0 7 (k := 1) rfl (by omega) nw2_s).mono ?_
      clear O42
      rintro _ w43 ⟨rfl, O43⟩
      clear OH42
      have O44 := O43.selK 4 [3, 0, 2]
      try simp only [List.map_cons, List.map_nil, List.getD_cons_zero, List.getD_cons_succ, List.eraseIdx_cons_zero, List.eraseIdx_cons_succ, List.getElem_cons_zero, List.getElem_cons_succ, List.take_succ_cons, List.take_zero, List.drop_succ_cons, List.drop_zero, List.cons_append, List.nil_append, List.append_eq] at O44
      clear O43
      have OH43 := (O44.newBox #[.string ⟨#[115]⟩, .string ⟨#[114]⟩] 9).pick 1
      try simp only [List.map_cons, List.map_nil, List.getD_cons_zero, List.getD_cons_succ, List.eraseIdx_cons_zero, List.eraseIdx_cons_succ, List.getElem_cons_zero, List.getElem_cons_succ, List.take_succ_cons, List.take_zero, List.drop_succ_cons, List.drop_zero, List.cons_append, List.nil_append, List.append_eq] at OH43
      go_wp2_with fail
      refine (has_box (ls := [[115], [114]]) OH43 (by rw [nr_n]; omega) 0 7 (k := 2) rfl (by omega) nr_s).mono ?_
      clear O44
      rintro _ w44 ⟨rfl, O45⟩
      clear OH43
      have O46 := O45.selK 4 [3, 2, 0]
      try simp only [List.map_cons, List.map_nil, List.getD_cons_zero, List.getD_cons_succ, List.eraseIdx_cons_zero, List.eraseIdx_cons_succ, List.getElem_cons_zero, List.getElem_cons_succ, List.take_succ_cons, List.take_zero, List.drop_succ_cons, List.drop_zero, List.cons_append, List.nil_append, List.append_eq] at O46
      clear O45
      go_wp2_with fail
      refine (add_good O46 g_w2 (by omega) [116] (by decide) e_nT n_t).mono ?_
      clear O46
      rintro _ w45 ⟨rfl, O47⟩
      have O48 := O47.selK 3 [1, 2]
      try simp only [List.map_cons, List.map_nil, List.getD_cons_zero, List.getD_cons_succ, List.eraseIdx_cons_zero, List.eraseIdx_cons_succ, List.getElem_cons_zero, List.getElem_cons_succ, List.take_succ_cons, List.take_zero, List.drop_succ_cons, List.drop_zero, List.cons_append, List.nil_append, List.append_eq] at O48
      clear O47
      have OH45 := (O48.newBox #[.string ⟨#[115]⟩, .string ⟨#[116]⟩] 9).pick 1
      try simp only [List.map_cons, List.map_nil, List.getD_cons_zero, List.getD_cons_succ, List.eraseIdx_cons_zero, List.eraseIdx_cons_succ, List.getElem_cons_zero, List.getElem_cons_succ, List.take_succ_cons, List.take_zero, List.drop_succ_cons, List.drop_zero, List.cons_append, List.nil_append, List.append_eq] at OH45
      go_wp2_with fail
      refine (has_box (ls := [[115], [116]]) OH45 (by rw [nt_n]; omega) 0 7 (k := 2) rfl (by omega) nt_s).mono ?_
      clear O48
      rintro _ w46 ⟨rfl, O49⟩
      clear OH45
      have O50 := O49.selK 3 [2]
      try simp only [List.map_cons, List.map_nil, List.getD_cons_zero, List.getD_cons_succ, List.eraseIdx_cons_zero, List.eraseIdx_cons_succ, List.getElem_cons_zero, List.getElem_cons_succ, List.take_succ_cons, List.take_zero, List.drop_succ_cons, List.drop_zero, List.cons_append, List.nil_append, List.append_eq] at O50
      clear O49
      have OH46 := (O50.newBox #[.string ⟨#[115]⟩, .string ⟨#[114]⟩] 9).pick 1
      try simp only [List.map_cons, List.map_nil, List.getD_cons_zero, List.getD_cons_succ, List.eraseIdx_cons_zero, List.eraseIdx_cons_succ, List.getElem_cons_zero, List.getElem_cons_succ, List.take_succ_cons, List.take_zero, List.drop_succ_cons, List.drop_zero, List.cons_append, List.nil_append, List.append_eq] at OH46
      go_wp2_with fail
      refine (has_box (ls := [[115], [114]]) OH46 (by rw [nr_n]; omega) 0 7 (k := 2) rfl (by omega) nr_s).mono ?_
      clear O50
      rintro _ w47 ⟨rfl, O51⟩
      clear OH46
      go_wp2
      go_returns
      exact ⟨rfl, O51.below⟩
end Go.Proofs.YtnlppcjfpmnahaaGreatDoor
