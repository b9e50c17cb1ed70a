/- frame: Join. -/
import Derived.Test.YtnlppcjfpmnahaaGreatDoorFmE
import Derived.Test.YtnlppcjfpmnahaaGreatDoorFmQ
namespace Go.Proofs.YtnlppcjfpmnahaaGreatDoor
set_option linter.all false
open Go.RowKit

theorem joinM_lt : ∀ (ss : List (List UInt8)), joinM ss < 65536
  | [] => by simp [joinM]
  | x :: r => by
    have h := numL_lt ((getT x).take 2)
    have h2 : 2 ^ (8 * ((getT x).take 2).length) ≤ 2 ^ 16 := Nat.pow_le_pow_right (by omega) (by simp; omega)
    show joinN x < 65536
    unfold joinN
    omega
theorem joinM_eq {x : List UInt8} {ss : List (List UInt8)} (h0 : 0 < ss.length) (e : x = ss[0]) : joinM ss = numL ((getT x).take 2) := by
  match ss, h0, e with
  | y :: r, _, e => subst e; rfl
theorem bif_lt (b : Bool) {m : Nat} (h : m < 65536) : (bif b then 0 else m) < 65536 := by cases b <;> simp <;> omega
theorem run_sub (l : List UInt8) (i j : Nat) (h1 : i ≤ j) (h2 : j ≤ l.length) (w : World) : (Instr.slice 9 (.string ⟨l.toArray⟩) (some (.int .i64 i)) (some (.int .i64 j)) none).run Tryz.prog w = .ok (.string ⟨((l.drop i).take (j - i)).toArray⟩) w := by
  have hsz : (⟨l.toArray⟩ : ByteArray).size = l.length := by simp [ByteArray.size]
  rw [run_slice_string w 9 ⟨l.toArray⟩ .i64 .i64 i j Tryz.underlying9 (by omega) (by omega) (by rw [hsz]; omega), mk_extract, List.drop_take]
  rfl
theorem run_subFrom (l : List UInt8) (i : Nat) (h2 : i ≤ l.length) (w : World) : (Instr.slice 9 (.string ⟨l.toArray⟩) (some (.int .i64 i)) none none).run Tryz.prog w = .ok (.string ⟨(l.drop i).toArray⟩) w := by
  have hsz : (⟨l.toArray⟩ : ByteArray).size = l.length := by simp [ByteArray.size]
  rw [run_slice_string_from_if w 9 ⟨l.toArray⟩ .i64 i Tryz.underlying9, if_pos ⟨by omega, by rw [hsz]; omega⟩, mk_extract, hsz, List.drop_take]
  show Result.ok (Value.string ⟨((l.drop i).take (l.length - i)).toArray⟩) w = _
  rw [List.take_of_length_le (by simp)]
theorem dropWhile_all {p : UInt8 → Bool} : ∀ (l : List UInt8), (∀ x, x ∈ l.dropWhile p → p x = true) → ∀ x, x ∈ l → p x = true
  | [], _, x, hx => by cases hx
  | a :: l, h, x, hx => by
    by_cases ha : p a = true
    · rw [List.dropWhile_cons_of_pos ha] at h
      rcases List.mem_cons.1 hx with rfl | hx
      · exact ha
      · exact dropWhile_all l h x hx
    · rw [List.dropWhile_cons_of_neg ha] at h
      exact h x hx
theorem dropWhile_nil {p : UInt8 → Bool} : ∀ (l : List UInt8), l.dropWhile p = [] ↔ ∀ x, x ∈ l → p x = true
  | [] => by simp
  | a :: l => by
    by_cases ha : p a = true
    · rw [List.dropWhile_cons_of_pos ha, dropWhile_nil l]
      constructor
      · intro h x hx
        rcases List.mem_cons.1 hx with rfl | hx
        · exact ha
        · exact h x hx
      · intro h x hx
        exact h x (List.mem_cons_of_mem _ hx)
    · rw [List.dropWhile_cons_of_neg ha]
      constructor
      · intro h; cases h
      · intro h
        exact absurd (h a (by simp)) ha
theorem trim_zero (l : List UInt8) : (Lib.trimB l 0).isEmpty = zeroB l := by
  rw [Bool.eq_iff_iff, List.isEmpty_iff]
  unfold Lib.trimB Lib.trimLeftB Lib.trimRightB zeroB
  rw [dropWhile_nil, List.all_eq_true]
  constructor
  · intro h x hx
    exact dropWhile_all l.reverse (fun y hy => h y (List.mem_reverse.2 hy)) x (List.mem_reverse.2 hx)
  · intro h x hx
    have h2 := (List.dropWhile_suffix (fun x : UInt8 => x == 0) (l := l.reverse)).subset (List.mem_reverse.1 hx)
    exact h x (List.mem_reverse.1 h2)
theorem bif_pos {k m : Nat} (h : 1 ≤ k) : (bif Nat.beq k 0 then 0 else m) = m := by
  match k, h with
  | j + 1, _ => rfl
set_option maxRecDepth 100000 in
set_option maxHeartbeats 4000000 in
theorem join_chg {w : World} {v : Value} {ss : List (List UInt8)} {G : List Nat} (hv : StrsR w v ss G) (age place : Int) (hn : ss.length ≤ 1000000000) :
    Calls Tryz.prog 76 #[v, .int .i64 age, .int .i64 place] w fun e w' => e = .returned (joinV age place ss) ∧ Own w w' [] := by
  have HV := Lib.hid hv
  obtain ⟨a, cap, rfl, -⟩ := hv
  have O0 := Own.start w
  obtain ⟨LEN, hLEN⟩ : ∃ LEN, LEN = ss.length := ⟨_, rfl⟩
  rw [← hLEN] at hn
  rw [← hLEN]
  have HLE := Lib.hid hLEN
  clear hLEN
  obtain ⟨RV, hRV⟩ : ∃ RV, RV = joinV age place ss := ⟨_, rfl⟩
  rw [← hRV]
  have HRV := Lib.hid hRV
  clear hRV
  go_enter Tryz.func76, Tryz.ntmps76
  go_wp2_with fail
  go_loopw [7, 9, 19] (fun nv sv iv wr => ∃ i : Nat, iv = .int .i64 i ∧ i ≤ LEN ∧ sv = .string ⟨(textOf (ss.take i)).toArray⟩ ∧ nv = .int .i64 ((bif Nat.beq i 0 then 0 else joinM ss : Nat) : Int) ∧ (i = 0 ∨ i < joinM ss) ∧ allOk age place 0 (ss.take i) = true ∧ Own w wr []) (fun _ _ iv _ => LEN - (intOf iv).toNat)
  case atStart => exact ⟨0, rfl, by omega, by rfl, by rfl, .inl rfl, by rfl, O0⟩
  case round =>
    clear O0
    obtain ⟨i, rfl, hi, rfl, rfl, hN, hok, O⟩ := hrel
    by_cases hlt : i < LEN
    · have hb1 : (i : Int) < (LEN : Int) := by omega
      obtain ⟨hli, cm⟩ : ∃ h : i < ss.length, ∃ g off, a = some ⟨g, off, none⟩ ∧ wr.cell? ⟨g, off + i, none⟩ = some (.string ⟨ss[i].toArray⟩) := by
        have hli : i < ss.length := by have := HLE.out; omega
        exact ⟨hli, (O.came HV.out).read hli⟩
      obtain ⟨g, off, rfl, cm⟩ := cm
      obtain ⟨x, hx⟩ : ∃ x, x = ss[i] := ⟨_, rfl⟩
      rw [← hx] at cm
      have HX := Lib.hid hx
      have HOK := Lib.hid hok
      have HNN := Lib.hid hN
      clear hx hN
      obtain ⟨TX, hTX⟩ : ∃ TX, TX = textOf (ss.take i) := ⟨_, rfl⟩
      have htl : TX.length = 112 * i := by
        rw [hTX, textOf_len hok, List.length_take, Nat.min_eq_left (by omega)]
      rw [← hTX]
      have HTX := Lib.hid hTX
      have HTL := Lib.hid htl
      clear hok hTX htl
      obtain ⟨NB, hNB⟩ : ∃ NB, NB = (bif Nat.beq i 0 then 0 else joinM ss : Nat) := ⟨_, rfl⟩
      rw [← hNB]
      have HNB := Lib.hid hNB
      clear hNB
      go_wp2_with fail
      refine (get_any O x).mono ?_
      clear cm O
      rintro e w2 ⟨rfl, O⟩
      cases hb : getB x with
      | false =>
        have hj := join_bad (age := age) (place := place) hli HNN.out (by rw [← HX.out]; unfold okAt; rw [hb]; rfl)
        rw [getV_false hb]
        have HJ := Lib.hid hj
        clear hb hj
        go_wp2
        go_returns
        exact ⟨by rw [HRV.out, joinV_false HJ.out]; rfl, O⟩
      | true =>
        rw [getV_true hb]
        obtain ⟨A, hA0⟩ : ∃ A : Int, A = (getA x : Int) := ⟨_, rfl⟩
        obtain ⟨P, hP0⟩ : ∃ P : Int, P = (getP x : Int) := ⟨_, rfl⟩
        rw [← hA0, ← hP0]
        have hokx : okAt age place i ss[i] = (decide (A = age) && decide (P = wrap64 (place + i))) := by
          rw [← HX.out, hA0, hP0]; unfold okAt; rw [hb]; rfl
        have HOKX := Lib.hid hokx
        have HB := Lib.hid hb
        clear hokx hA0 hP0 hb
        by_cases hA : A = age
        rotate_left
        · have HJ := Lib.hid (join_bad (age := age) (place := place) hli HNN.out (by rw [HOKX.out, decide_eq_false hA]; rfl))
          have hA1 : (A == age) = false := by simpa using hA
          have hA2 : (A != age) = true := by simpa using hA
          go_wp2
          go_returns
          exact ⟨by rw [HRV.out, joinV_false HJ.out]; rfl, O⟩
        by_cases hP : P = wrap64 (place + i)
        rotate_left
        · have HJ := Lib.hid (join_bad (age := age) (place := place) hli HNN.out (by rw [HOKX.out, decide_eq_false hP]; simp))
          have hP2 : (P != wrap64 (place + i)) = true := by simpa using hP
          go_wp2
          go_returns
          exact ⟨by rw [HRV.out, joinV_false HJ.out]; rfl, O⟩
        have HOKY := Lib.hid (show okAt age place i ss[i] = true by rw [HOKX.out, decide_eq_true hA, decide_eq_true hP]; rfl)
        clear HOKX
        obtain ⟨TY, hTY⟩ : ∃ TY, TY = TX ++ getT x := ⟨_, rfl⟩
        have hyl : TY.length = 112 * (i + 1) := by
          rw [hTY, List.length_append, HTL.out, getT_len HB.out]; omega
        have sm : ∀ w' : World, (Op.stringOp .add ⟨TX.toArray⟩ ⟨(getT x).toArray⟩).run Tryz.prog w' = .ok (.string ⟨TY.toArray⟩) w' := fun w' => by
          rw [run_string_add_sum _ _ _ (by
            show TX.length + (getT x).length ≤ _
            rw [HTL.out, getT_len HB.out]; omega), mk_append, hTY]
        have HTY := Lib.hid (show TY = textOf (ss.take (i + 1)) by rw [hTY, HTX.out, HX.out, textOf_snoc hli])
        have HOK1 := Lib.hid (show allOk age place 0 (ss.take (i + 1)) = true by rw [allOk_snoc hli, HOK.out, HOKY.out]; rfl)
        have HYL := Lib.hid hyl
        have E1 : (⟨TY.toArray⟩ : ByteArray).extract 0 2 = ⟨(TY.take 2).toArray⟩ := by
          rw [mk_extract]; rfl
        have hy2 : 2 ≤ TY.length := by omega
        clear hTY hyl
        obtain ⟨M, hM⟩ : ∃ M, M = joinM ss := ⟨_, rfl⟩
        have HM := Lib.hid hM
        have hMl : M < 65536 := by rw [hM]; exact joinM_lt ss
        clear hM
        have wi : IntKind.i64.wrap ((i : Int) + 1) = (i : Int) + 1 := i64_wraps _ (by omega) (by omega)
        have hgo : i = 0 ∨ i ≠ 0 := by omega
        rcases hgo with h0 | h0
        · subst h0
          clear HNB
          have HM2 := Lib.hid (show numL (TY.take 2) = M by
            have e := joinM_eq hli HX.out
            rw [HM.out, e]
            have t := (text_first (r := ss.drop 1) HB.out 1 (by omega)).1
            have e3 : ss.take (0 + 1) = [ss[0]] := by rw [List.take_succ_eq_append_getElem hli]; rfl
            have e2 : TY = textOf ((x :: ss.drop 1).take 1) := by
              show _ = textOf [x]
              rw [HTY.out, HX.out, e3]
            rw [e2, t])
          go_wp2_with fail
          refine (number_any (TY.take 2) (by simp; omega) _).mono ?_
          rw [HM2.out]
          rintro e w3 ⟨rfl, rfl⟩
          by_cases hM1 : M ≤ 1
          · have hM2 : (M : Int) ≤ 1 := by omega
            obtain ⟨k, hk⟩ : ∃ k, k = 0 + 1 := ⟨_, rfl⟩
            have HC := Lib.hid (show (k = ss.length ∧ (k = 0 ∨ k < joinM ss)) ∨ (1 ≤ k ∧ joinM ss ≤ k ∧ (k = 1 ∨ k - 1 < joinM ss)) from .inr ⟨by omega, by rw [← HM.out]; omega, .inl hk⟩)
            obtain ⟨ALL, hALL⟩ : ∃ ALL, ALL = TY := ⟨_, rfl⟩
            obtain ⟨NT, hNT⟩ : ∃ NT, NT = M := ⟨_, rfl⟩
            rw [← hk, ← hALL] at HTY
            rw [← hk] at HOK1
            rw [← hk, ← hALL] at HYL
            rw [← hNT] at HM
            have HNT := Lib.hid (show (bif Nat.beq k 0 then 0 else joinM ss : Nat) = NT by rw [hk, HM.out]; rfl)
            have HK := Lib.hid (show k ≤ ss.length by omega)
            subst hALL hNT
            clear hk
            obtain ⟨j1, j2⟩ := join_end HK.out HOK1.out HC.out
            rw [HNT.out, ← HTY.out] at j1
            rw [← HTY.out] at j2
            have J1 := Lib.hid j1
            have J2 := Lib.hid j2
            have hNTl : NT < 65536 := by rw [← HNT.out]; exact bif_lt _ (joinM_lt ss)
            clear j1 j2
            have wN : IntKind.i64.wrap ((NT : Int) * 112) = (NT : Int) * 112 := i64_wraps _ (by omega) (by omega)
            by_cases hE : ALL = []
            · have HJ := Lib.hid (show joinB age place ss = false by rw [J1.out, hE]; rfl)
              subst hE
              first
              | (go_wp2
                 go_returns
                 exact ⟨by rw [HRV.out, joinV_false HJ.out]; rfl, O⟩)
              | (go_wp2; done)
            have hE1 : ALL.isEmpty = false := by
              cases ALL with
              | nil => exact absurd rfl hE
              | cons => rfl
            have hE2 : 0 < ALL.length := List.length_pos_iff.2 hE
            by_cases q1 : (ALL.length : Int) = (NT : Int) * 112
            rotate_left
            · have HJ := Lib.hid (show joinB age place ss = false by rw [J1.out]; unfold tailB; rw [hE1, decide_eq_false (by omega)]; rfl)
              have q2 : ((ALL.length : Int) != (NT : Int) * 112) = true := by simpa using q1
              clear hE2
              go_wp2
              go_returns
              exact ⟨by rw [HRV.out, joinV_false HJ.out]; rfl, O⟩
            have h6 : 6 ≤ ALL.length := by have := HYL.out; omega
            have HQ1 := Lib.hid q1
            have q5 : ((ALL.length : Int) != (NT : Int) * 112) = false := by simpa using q1
            obtain ⟨Z, hZ⟩ : ∃ Z, Z = numL ((ALL.drop 2).take 4) := ⟨_, rfl⟩
            have e2 : ∀ w' : World, (Instr.slice 9 (.string ⟨ALL.toArray⟩) (some (.int .i64 2)) (some (.int .i64 6)) none).run Tryz.prog w' = .ok (.string ⟨((ALL.drop 2).take 4).toArray⟩) w' := fun w' => run_sub ALL 2 6 (by omega) h6 w'
            have hZl : Z < 4294967296 := by
              have h := numL_lt ((ALL.drop 2).take 4)
              have h2 : 2 ^ (8 * ((ALL.drop 2).take 4).length) ≤ 2 ^ 32 := Nat.pow_le_pow_right (by omega) (by simp; omega)
              rw [hZ]; omega
            have HZ := Lib.hid hZ
            clear hZ hE2 q1
            go_upto_region 15 with fail
            clear q5
            go_wp2_with fail
            refine (number_any ((ALL.drop 2).take 4) (by simp; omega) _).mono ?_
            rw [← HZ.out]
            rintro e w5 ⟨rfl, rfl⟩
            go_wp2_with fail
            refine (many_nat Z (by omega) _).mono ?_
            rintro e w6 ⟨rfl, rfl⟩
            by_cases q3 : manyN Z = NT
            rotate_left
            · have HJ := Lib.hid (show joinB age place ss = false by rw [J1.out]; unfold tailB; rw [← HZ.out, decide_eq_false q3]; simp)
              have q4 : ((manyN Z : Int) != (NT : Int)) = true := by simp; omega
              go_wp2
              go_returns
              exact ⟨by rw [HRV.out, joinV_false HJ.out]; rfl, O⟩
            have hml := many_le Z
            have hz6 : 6 + Z ≤ ALL.length := by have := HQ1.out; omega
            have wz : IntKind.i64.wrap (6 + (Z : Int)) = 6 + (Z : Int) := i64_wraps _ (by omega) (by omega)
            obtain ⟨C, hC⟩ : ∃ C, C = 6 + Z := ⟨_, rfl⟩
            have hC1 : 6 + (Z : Int) = (C : Int) := by omega
            rw [hC1] at wz
            have e3 : ∀ w' : World, (Instr.slice 9 (.string ⟨ALL.toArray⟩) (some (.int .i64 C)) none none).run Tryz.prog w' = .ok (.string ⟨(ALL.drop C).toArray⟩) w' := fun w' => run_subFrom ALL C (by omega) w'
            have e4 : ∀ w' : World, (Instr.slice 9 (.string ⟨ALL.toArray⟩) (some (.int .i64 6)) (some (.int .i64 C)) none).run Tryz.prog w' = .ok (.string ⟨((ALL.drop 6).take Z).toArray⟩) w' := fun w' => (run_sub ALL 6 C (by omega) (by omega) w').trans (by rw [hC, Nat.add_sub_cancel_left])
            have HCC := Lib.hid hC
            clear hml hC e2
            go_wp2_with fail
            refine (Tryz.strings_Trim_one ⟨(ALL.drop C).toArray⟩ 0 (by decide) _ (by show (ALL.drop C).length ≤ _; have := HQ1.out; simp; omega)).mono ?_
            rintro e w7 ⟨rfl, hw7⟩
            have O7 : Own w w7 [] := by
              rcases hw7 with h | h
              · rw [h]; exact O
              · rw [h]; exact O.drew
            clear hw7 e3
            have hjz : joinB age place ss = (Lib.trimB (ALL.drop C) 0).isEmpty := by
              rw [J1.out]; unfold tailB
              rw [hE1, ← HZ.out, ← HCC.out, decide_eq_true (by have := HQ1.out; omega), decide_eq_true q3, trim_zero]
              rfl
            obtain ⟨TR, hTR⟩ : ∃ TR, TR = Lib.trimB (ALL.drop C) 0 := ⟨_, rfl⟩
            rw [← hTR] at hjz
            rw [show (⟨(ALL.drop C).toArray⟩ : ByteArray).data.toList = ALL.drop C from by simp, ← hTR]
            have HJZ := Lib.hid hjz
            clear hjz hTR
            by_cases hT : TR = []
            · have HJ := Lib.hid (show joinB age place ss = true by rw [HJZ.out, hT]; rfl)
              subst hT
              go_wp2
              go_returns
              obtain ⟨g1, g2, g3, -⟩ := J2.out HJ.out
              have g4 : joinM ss = NT := by rw [← HNT.out, bif_pos g2]
              exact ⟨by rw [HRV.out, joinV_true HJ.out, g3, ← HZ.out, g4]; rfl, O7⟩
            · have hT1 : TR.isEmpty = false := by
                cases TR with
                | nil => exact absurd rfl hT
                | cons => rfl
              have HJ := Lib.hid (show joinB age place ss = false by rw [HJZ.out, hT1])
              go_wp2
              go_returns
              exact ⟨by rw [HRV.out, joinV_false HJ.out]; rfl, O7⟩
          · have hM2 : ¬ (M : Int) ≤ 1 := by omega
            go_wp2
            refine ⟨⟨1, rfl, by omega, by rw [HTY.out], by rw [HM.out]; rfl, .inr (by rw [← HM.out]; omega), HOK1.out, O⟩, by simp [intOf]; omega⟩
        · have hnb : NB = M := by
            rw [HNB.out, HM.out]
            match i, h0 with
            | j + 1, _ => rfl
          have h00 : ¬ (i : Int) = 0 := by omega
          subst hnb
          by_cases hM1 : NB ≤ i + 1
          · have hM2 : (NB : Int) ≤ (i : Int) + 1 := by omega
            obtain ⟨k, hk⟩ : ∃ k, k = i + 1 := ⟨_, rfl⟩
            have HC := Lib.hid (show (k = ss.length ∧ (k = 0 ∨ k < joinM ss)) ∨ (1 ≤ k ∧ joinM ss ≤ k ∧ (k = 1 ∨ k - 1 < joinM ss)) from .inr ⟨by omega, by rw [← HM.out]; omega, .inr (by rcases HNN.out with q | q <;> omega)⟩)
            obtain ⟨ALL, hALL⟩ : ∃ ALL, ALL = TY := ⟨_, rfl⟩
            obtain ⟨NT, hNT⟩ : ∃ NT, NT = NB := ⟨_, rfl⟩
            rw [← hk, ← hALL] at HTY
            rw [← hk] at HOK1
            rw [← hk, ← hALL] at HYL
            rw [← hNT] at HM
            have HNT := Lib.hid (show (bif Nat.beq k 0 then 0 else joinM ss : Nat) = NT by rw [hk, HM.out]; rfl)
            have HK := Lib.hid (show k ≤ ss.length by omega)
            subst hALL hNT
            clear hk
            obtain ⟨j1, j2⟩ := join_end HK.out HOK1.out HC.out
            rw [HNT.out, ← HTY.out] at j1
            rw [← HTY.out] at j2
            have J1 := Lib.hid j1
            have J2 := Lib.hid j2
            have hNTl : NT < 65536 := by rw [← HNT.out]; exact bif_lt _ (joinM_lt ss)
            clear j1 j2
            have wN : IntKind.i64.wrap ((NT : Int) * 112) = (NT : Int) * 112 := i64_wraps _ (by omega) (by omega)
            by_cases hE : ALL = []
            · have HJ := Lib.hid (show joinB age place ss = false by rw [J1.out, hE]; rfl)
              subst hE
              first
              | (go_wp2
                 go_returns
                 exact ⟨by rw [HRV.out, joinV_false HJ.out]; rfl, O⟩)
              | (go_wp2; done)
            have hE1 : ALL.isEmpty = false := by
              cases ALL with
              | nil => exact absurd rfl hE
              | cons => rfl
            have hE2 : 0 < ALL.length := List.length_pos_iff.2 hE
            by_cases q1 : (ALL.length : Int) = (NT : Int) * 112
            rotate_left
            · have HJ := Lib.hid (show joinB age place ss = false by rw [J1.out]; unfold tailB; rw [hE1, decide_eq_false (by omega)]; rfl)
              have q2 : ((ALL.length : Int) != (NT : Int) * 112) = true := by simpa using q1
              clear hE2
              go_wp2
              go_returns
              exact ⟨by rw [HRV.out, joinV_false HJ.out]; rfl, O⟩
            have h6 : 6 ≤ ALL.length := by have := HYL.out; omega
            have HQ1 := Lib.hid q1
            have q5 : ((ALL.length : Int) != (NT : Int) * 112) = false := by simpa using q1
            obtain ⟨Z, hZ⟩ : ∃ Z, Z = numL ((ALL.drop 2).take 4) := ⟨_, rfl⟩
            have e2 : ∀ w' : World, (Instr.slice 9 (.string ⟨ALL.toArray⟩) (some (.int .i64 2)) (some (.int .i64 6)) none).run Tryz.prog w' = .ok (.string ⟨((ALL.drop 2).take 4).toArray⟩) w' := fun w' => run_sub ALL 2 6 (by omega) h6 w'
            have hZl : Z < 4294967296 := by
              have h := numL_lt ((ALL.drop 2).take 4)
              have h2 : 2 ^ (8 * ((ALL.drop 2).take 4).length) ≤ 2 ^ 32 := Nat.pow_le_pow_right (by omega) (by simp; omega)
              rw [hZ]; omega
            have HZ := Lib.hid hZ
            clear hZ hE2 q1
            go_upto_region 15 with fail
            clear q5
            go_wp2_with fail
            refine (number_any ((ALL.drop 2).take 4) (by simp; omega) _).mono ?_
            rw [← HZ.out]
            rintro e w5 ⟨rfl, rfl⟩
            go_wp2_with fail
            refine (many_nat Z (by omega) _).mono ?_
            rintro e w6 ⟨rfl, rfl⟩
            by_cases q3 : manyN Z = NT
            rotate_left
            · have HJ := Lib.hid (show joinB age place ss = false by rw [J1.out]; unfold tailB; rw [← HZ.out, decide_eq_false q3]; simp)
              have q4 : ((manyN Z : Int) != (NT : Int)) = true := by simp; omega
              go_wp2
              go_returns
              exact ⟨by rw [HRV.out, joinV_false HJ.out]; rfl, O⟩
            have hml := many_le Z
            have hz6 : 6 + Z ≤ ALL.length := by have := HQ1.out; omega
            have wz : IntKind.i64.wrap (6 + (Z : Int)) = 6 + (Z : Int) := i64_wraps _ (by omega) (by omega)
            obtain ⟨C, hC⟩ : ∃ C, C = 6 + Z := ⟨_, rfl⟩
            have hC1 : 6 + (Z : Int) = (C : Int) := by omega
            rw [hC1] at wz
            have e3 : ∀ w' : World, (Instr.slice 9 (.string ⟨ALL.toArray⟩) (some (.int .i64 C)) none none).run Tryz.prog w' = .ok (.string ⟨(ALL.drop C).toArray⟩) w' := fun w' => run_subFrom ALL C (by omega) w'
            have e4 : ∀ w' : World, (Instr.slice 9 (.string ⟨ALL.toArray⟩) (some (.int .i64 6)) (some (.int .i64 C)) none).run Tryz.prog w' = .ok (.string ⟨((ALL.drop 6).take Z).toArray⟩) w' := fun w' => (run_sub ALL 6 C (by omega) (by omega) w').trans (by rw [hC, Nat.add_sub_cancel_left])
            have HCC := Lib.hid hC
            clear hml hC e2
            go_wp2_with fail
            refine (Tryz.strings_Trim_one ⟨(ALL.drop C).toArray⟩ 0 (by decide) _ (by show (ALL.drop C).length ≤ _; have := HQ1.out; simp; omega)).mono ?_
            rintro e w7 ⟨rfl, hw7⟩
            have O7 : Own w w7 [] := by
              rcases hw7 with h | h
              · rw [h]; exact O
              · rw [h]; exact O.drew
            clear hw7 e3
            have hjz : joinB age place ss = (Lib.trimB (ALL.drop C) 0).isEmpty := by
              rw [J1.out]; unfold tailB
              rw [hE1, ← HZ.out, ← HCC.out, decide_eq_true (by have := HQ1.out; omega), decide_eq_true q3, trim_zero]
              rfl
            obtain ⟨TR, hTR⟩ : ∃ TR, TR = Lib.trimB (ALL.drop C) 0 := ⟨_, rfl⟩
            rw [← hTR] at hjz
            rw [show (⟨(ALL.drop C).toArray⟩ : ByteArray).data.toList = ALL.drop C from by simp, ← hTR]
            have HJZ := Lib.hid hjz
            clear hjz hTR
            by_cases hT : TR = []
            · have HJ := Lib.hid (show joinB age place ss = true by rw [HJZ.out, hT]; rfl)
              subst hT
              go_wp2
              go_returns
              obtain ⟨g1, g2, g3, -⟩ := J2.out HJ.out
              have g4 : joinM ss = NT := by rw [← HNT.out, bif_pos g2]
              exact ⟨by rw [HRV.out, joinV_true HJ.out, g3, ← HZ.out, g4]; rfl, O7⟩
            · have hT1 : TR.isEmpty = false := by
                cases TR with
                | nil => exact absurd rfl hT
                | cons => rfl
              have HJ := Lib.hid (show joinB age place ss = false by rw [HJZ.out, hT1])
              go_wp2
              go_returns
              exact ⟨by rw [HRV.out, joinV_false HJ.out]; rfl, O7⟩
          · have hM2 : ¬ (NB : Int) ≤ (i : Int) + 1 := by omega
            go_wp2
            refine ⟨⟨i + 1, by go_num, by omega, by rw [HTY.out], by rw [HM.out]; rfl, .inr (by rw [← HM.out]; omega), HOK1.out, O⟩, by simp [intOf]; omega⟩
    · have hb1 : ¬ (i : Int) < (LEN : Int) := by omega
      obtain ⟨ALL, hALL⟩ : ∃ ALL, ALL = textOf (ss.take i) := ⟨_, rfl⟩
      obtain ⟨NT, hNT⟩ : ∃ NT, (bif Nat.beq i 0 then 0 else joinM ss : Nat) = NT := ⟨_, rfl⟩
      rw [hNT, ← hALL]
      have hil : i = ss.length := by have := HLE.out; omega
      have HYL := Lib.hid (show ALL.length = 112 * i by rw [hALL, textOf_len hok, List.length_take]; congr 1; omega)
      have HTY := Lib.hid hALL
      have HOK1 := Lib.hid hok
      have HNT := Lib.hid hNT
      have HK := Lib.hid (show i ≤ ss.length by omega)
      have HC := Lib.hid (show (i = ss.length ∧ (i = 0 ∨ i < joinM ss)) ∨ (1 ≤ i ∧ joinM ss ≤ i ∧ (i = 1 ∨ i - 1 < joinM ss)) from .inl ⟨hil, hN⟩)
      clear hALL hok hNT hN hil
      obtain ⟨j1, j2⟩ := join_end HK.out HOK1.out HC.out
      rw [HNT.out, ← HTY.out] at j1
      rw [← HTY.out] at j2
      have J1 := Lib.hid j1
      have J2 := Lib.hid j2
      have hNTl : NT < 65536 := by rw [← HNT.out]; exact bif_lt _ (joinM_lt ss)
      clear j1 j2
      have wN : IntKind.i64.wrap ((NT : Int) * 112) = (NT : Int) * 112 := i64_wraps _ (by omega) (by omega)
      by_cases hE : ALL = []
      · have HJ := Lib.hid (show joinB age place ss = false by rw [J1.out, hE]; rfl)
        subst hE
        first
        | (go_wp2
           go_returns
           exact ⟨by rw [HRV.out, joinV_false HJ.out]; rfl, O⟩)
        | (go_wp2; done)
      have hE1 : ALL.isEmpty = false := by
        cases ALL with
        | nil => exact absurd rfl hE
        | cons => rfl
      have hE2 : 0 < ALL.length := List.length_pos_iff.2 hE
      by_cases q1 : (ALL.length : Int) = (NT : Int) * 112
      rotate_left
      · have HJ := Lib.hid (show joinB age place ss = false by rw [J1.out]; unfold tailB; rw [hE1, decide_eq_false (by omega)]; rfl)
        have q2 : ((ALL.length : Int) != (NT : Int) * 112) = true := by simpa using q1
        clear hE2
        go_wp2
        go_returns
        exact ⟨by rw [HRV.out, joinV_false HJ.out]; rfl, O⟩
      have h6 : 6 ≤ ALL.length := by have := HYL.out; omega
      have HQ1 := Lib.hid q1
      have q5 : ((ALL.length : Int) != (NT : Int) * 112) = false := by simpa using q1
      obtain ⟨Z, hZ⟩ : ∃ Z, Z = numL ((ALL.drop 2).take 4) := ⟨_, rfl⟩
      have e2 : ∀ w' : World, (Instr.slice 9 (.string ⟨ALL.toArray⟩) (some (.int .i64 2)) (some (.int .i64 6)) none).run Tryz.prog w' = .ok (.string ⟨((ALL.drop 2).take 4).toArray⟩) w' := fun w' => run_sub ALL 2 6 (by omega) h6 w'
      have hZl : Z < 4294967296 := by
        have h := numL_lt ((ALL.drop 2).take 4)
        have h2 : 2 ^ (8 * ((ALL.drop 2).take 4).length) ≤ 2 ^ 32 := Nat.pow_le_pow_right (by omega) (by simp; omega)
        rw [hZ]; omega
      have HZ := Lib.hid hZ
      clear hZ hE2 q1
      go_upto_region 15 with fail
      clear q5
      go_wp2_with fail
      refine (number_any ((ALL.drop 2).take 4) (by simp; omega) _).mono ?_
      rw [← HZ.out]
      rintro e w5 ⟨rfl, rfl⟩
      go_wp2_with fail
      refine (many_nat Z (by omega) _).mono ?_
      rintro e w6 ⟨rfl, rfl⟩
      by_cases q3 : manyN Z = NT
      rotate_left
      · have HJ := Lib.hid (show joinB age place ss = false by rw [J1.out]; unfold tailB; rw [← HZ.out, decide_eq_false q3]; simp)
        have q4 : ((manyN Z : Int) != (NT : Int)) = true := by simp; omega
        go_wp2
        go_returns
        exact ⟨by rw [HRV.out, joinV_false HJ.out]; rfl, O⟩
      have hml := many_le Z
      have hz6 : 6 + Z ≤ ALL.length := by have := HQ1.out; omega
      have wz : IntKind.i64.wrap (6 + (Z : Int)) = 6 + (Z : Int) := i64_wraps _ (by omega) (by omega)
      obtain ⟨C, hC⟩ : ∃ C, C = 6 + Z := ⟨_, rfl⟩
      have hC1 : 6 + (Z : Int) = (C : Int) := by omega
      rw [hC1] at wz
      have e3 : ∀ w' : World, (Instr.slice 9 (.string ⟨ALL.toArray⟩) (some (.int .i64 C)) none none).run Tryz.prog w' = .ok (.string ⟨(ALL.drop C).toArray⟩) w' := fun w' => run_subFrom ALL C (by omega) w'
      have e4 : ∀ w' : World, (Instr.slice 9 (.string ⟨ALL.toArray⟩) (some (.int .i64 6)) (some (.int .i64 C)) none).run Tryz.prog w' = .ok (.string ⟨((ALL.drop 6).take Z).toArray⟩) w' := fun w' => (run_sub ALL 6 C (by omega) (by omega) w').trans (by rw [hC, Nat.add_sub_cancel_left])
      have HCC := Lib.hid hC
      clear hml hC e2
      go_wp2_with fail
      refine (Tryz.strings_Trim_one ⟨(ALL.drop C).toArray⟩ 0 (by decide) _ (by show (ALL.drop C).length ≤ _; have := HQ1.out; simp; omega)).mono ?_
      rintro e w7 ⟨rfl, hw7⟩
      have O7 : Own w w7 [] := by
        rcases hw7 with h | h
        · rw [h]; exact O
        · rw [h]; exact O.drew
      clear hw7 e3
      have hjz : joinB age place ss = (Lib.trimB (ALL.drop C) 0).isEmpty := by
        rw [J1.out]; unfold tailB
        rw [hE1, ← HZ.out, ← HCC.out, decide_eq_true (by have := HQ1.out; omega), decide_eq_true q3, trim_zero]
        rfl
      obtain ⟨TR, hTR⟩ : ∃ TR, TR = Lib.trimB (ALL.drop C) 0 := ⟨_, rfl⟩
      rw [← hTR] at hjz
      rw [show (⟨(ALL.drop C).toArray⟩ : ByteArray).data.toList = ALL.drop C from by simp, ← hTR]
      have HJZ := Lib.hid hjz
      clear hjz hTR
      by_cases hT : TR = []
      · have HJ := Lib.hid (show joinB age place ss = true by rw [HJZ.out, hT]; rfl)
        subst hT
        go_wp2
        go_returns
        obtain ⟨g1, g2, g3, -⟩ := J2.out HJ.out
        have g4 : joinM ss = NT := by rw [← HNT.out, bif_pos g2]
        exact ⟨by rw [HRV.out, joinV_true HJ.out, g3, ← HZ.out, g4]; rfl, O7⟩
      · have hT1 : TR.isEmpty = false := by
          cases TR with
          | nil => exact absurd rfl hT
          | cons => rfl
        have HJ := Lib.hid (show joinB age place ss = false by rw [HJZ.out, hT1])
        go_wp2
        go_returns
        exact ⟨by rw [HRV.out, joinV_false HJ.out]; rfl, O7⟩
end Go.Proofs.YtnlppcjfpmnahaaGreatDoor
