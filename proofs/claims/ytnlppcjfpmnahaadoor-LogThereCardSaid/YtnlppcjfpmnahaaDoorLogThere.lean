/- LogThere: the walk. -/
import Derived.Test.YtnlppcjfpmnahaaDoorLgRaw
import Derived.Test.YtnlppcjfpmnahaaDoorLgTh
namespace Go.Proofs.YtnlppcjfpmnahaaDoor
set_option linter.all false
open Go.RowKit

theorem mod1000 (n : Int) : ∃ N : Nat, N < 1000 ∧ wrap64 ((IntKind.u64.wrap n).tmod 1000) = (N : Int) := by
  have h0 : 0 ≤ IntKind.u64.wrap n := by rw [IntKind.wrap_u64]; omega
  have h1 : (IntKind.u64.wrap n).tmod 1000 = IntKind.u64.wrap n % 1000 := Int.tmod_eq_emod_of_nonneg h0
  rw [h1]
  refine ⟨(IntKind.u64.wrap n % 1000).toNat, by omega, ?_⟩
  rw [IntWalk.wrap64_in _ (by omega)]
  omega
theorem many_bound {L : List (List UInt8)} (h : sumMn L < 9000) {s : List UInt8} (hs : s ∈ L) : s.length ≤ 9000 ∧ manyN s.length ≤ 1000 := by
  have := sumMn_mem hs
  have h2 : s.length < 9000 := by omega
  refine ⟨by omega, ?_⟩
  unfold manyN
  omega
set_option maxRecDepth 100000 in
set_option maxHeartbeats 8000000 in
theorem logThere_walk {w : World} (n : Int) (hn : (Lit.int .i64 n).wf = true) (v1 : Value) (o1 : ∃ (l : List St) (G : List Nat), StepsR w v1 l G ∧ l.length ≤ maxLen ∧ ∀ s ∈ l, s.Wf) (half : Int) (_hh : (Lit.int .i64 half).wf = true) (more : Int) (_hm : (Lit.int .i64 more).wf = true)
    (v4 : Value) (ss : List (List UInt8)) (G4 : List Nat) (s4 : StrsR w v4 ss G4) (_b4 : ∀ s ∈ ss, s.length ≤ maxLen) (_g4 : ∀ k ∈ G4, k < w.heap.size) (c4 : ss.length ≤ maxLen) :
    Calls Tryd.prog 3 #[.int .i64 n, v1, .int .i64 half, .int .i64 more, v4] w fun e w' => e = .returned (.bool true) ∧ Below w.heap.size w w' := by
  obtain ⟨l, G, hl, ll, lw⟩ := o1
  obtain ⟨a1, cap1, rfl, -⟩ := id hl
  obtain ⟨a4, cap4, rfl, -⟩ := id s4
  have hn64 := wf64 hn
  unfold I64 at hn64
  have O := Own.start w
  have HL := Lib.hid hl
  have LW := Lib.hid lw
  have S4 := Lib.hid s4
  have LL := Lib.hid ll
  have C4 := Lib.hid c4
  have l4 : ss.length ≤ 9223372036854775807 := c4
  clear hl lw s4 ll c4 hn _hh _hm _b4 _g4
  obtain ⟨N4, hN4⟩ : ∃ N, N = ss.length := ⟨_, rfl⟩
  rw [← hN4] at S4 l4 ⊢
  have HN4 := Lib.hid hN4
  clear hN4
  go_enter Tryd.func3, Tryd.ntmps3
  go_wp2_with fail
  refine (works12_own O).mono ?_
  clear O
  rintro e w1 ⟨rfl, O⟩
  go_wp2_with fail
  refine (long12_own O HL.out LL.out LW.out).mono ?_
  clear O
  rintro e w2 ⟨r, rfl, O, hr⟩
  cases r
  rotate_left
  · go_wp2_with fail
    refine (works12_own O).mono ?_
    clear O
    rintro e w2 ⟨rfl, O⟩
    go_wp2
    go_ret
    exact ⟨rfl, O.below⟩
  have HSUM := Lib.hid (hr rfl)
  clear hr
  by_cases n2 : n < 1
  · go_wp2_with fail
    refine (works12_own O).mono ?_
    clear O
    rintro e w2 ⟨rfl, O⟩
    go_wp2
    go_ret
    exact ⟨rfl, O.below⟩
  by_cases n40 : 40 < n
  · go_wp2_with fail
    refine (works12_own O).mono ?_
    clear O
    rintro e w2 ⟨rfl, O⟩
    go_wp2
    go_ret
    exact ⟨rfl, O.below⟩
  by_cases x30 : (30 : Int) < (N4 : Int)
  · go_wp2_with fail
    refine (works12_own O).mono ?_
    clear O
    rintro e w2 ⟨rfl, O⟩
    go_wp2
    go_ret
    exact ⟨rfl, O.below⟩
  go_wp2_with fail
  refine (many12_own O S4.out HN4.out (by have := C4.out; have := HN4.out; omega)).mono ?_
  clear O
  rintro e w2 ⟨r, rfl, O, hr2⟩
  cases r
  rotate_left
  · go_wp2_with fail
    refine (works12_own O).mono ?_
    clear O
    rintro e w2 ⟨rfl, O⟩
    go_wp2
    go_ret
    exact ⟨rfl, O.below⟩
  have HMAN := Lib.hid (hr2 rfl)
  clear hr2
  obtain ⟨k, rfl⟩ : ∃ k : Nat, n = (k : Int) := ⟨n.toNat, by omega⟩
  have nL := Lib.hid (show k ≤ 40 ∧ 1 ≤ k by omega)
  go_wp2_with fail
  refine (new_own O k (by omega) (by omega)).mono ?_
  clear O
  rintro _ w3 ⟨b, rfl, O⟩
  go_wp2_with fail
  refine (raw_own O (calm_new k) (Fit.new (by omega)) (by show k ≤ 41; omega) HL.out HSUM.out LW.out).mono ?_
  clear O HSUM HL LW LL
  rintro _ w4 ⟨rfl, m0, C1, F1, N0, O⟩
  have N0 : m0.n = k := N0
  have C0 := Lib.hid C1
  have F0 := Lib.hid F1
  clear C1 F1
  obtain ⟨hf, hhf, hmod⟩ := mod2 half
  obtain ⟨r, hr1, hr2⟩ := mod1000 more
  have TP := top12_own O (by rw [N0]; have := nL.out; omega)
  have hT := top_le C0.out.1
  have TO := Lib.hid (topL_on C0.out.1)
  generalize topL m0 = T at TP hT TO
  have s1 : IntKind.i64.wrap (T + 1) = T + 1 := IntWalk.i64_in _ (by omega)
  have s2 : IntKind.i64.wrap (T + 1 + (r : Int)) = T + 1 + (r : Int) := IntWalk.i64_in _ (by omega)
  go_wp2_with fail
  refine TP.mono ?_
  clear TP O
  rintro _ w6 ⟨rfl, O⟩
  by_cases hA : (4294967296 : Int) ≤ T + 1 + (r : Int)
  · go_wp2
    go_ret
    exact ⟨rfl, O.below⟩
  by_cases x0 : N4 = 0
  · have x0' : ((N4 : Int) == 0) = true := by simp [x0]
    clear x0
    go_wp2
    go_ret
    exact ⟨rfl, O.below⟩
  have x0' : ((N4 : Int) == 0) = false := by simp [x0]
  have xN : 0 < N4 := by omega
  obtain ⟨A, hAe⟩ : ∃ A : Nat, T + 1 + (r : Int) = (A : Int) := ⟨(T + 1 + (r : Int)).toNat, by omega⟩
  have H : Hid (Q0 m0 hf A) := ⟨by rw [N0]; exact nL.out.1, hhf, by omega, fun y hy => by
    have h4 := maxAge_mem hy
    have h5 := TO.out
    omega, C0.out⟩
  obtain ⟨oh, hoh, ohe⟩ : ∃ oh : Nat, oh ≤ 1 ∧ IntKind.i64.wrap (1 - (hf : Int)) = (oh : Int) ∧ oh = 1 - hf := ⟨1 - hf, by omega, by rw [IntWalk.i64_in _ (by omega)]; omega, rfl⟩
  have SC := sectors12_own O C0.out.1 (by rw [N0]; have := nL.out; omega) oh hoh
  obtain ⟨ohw, ohe⟩ := ohe
  have HAE := Lib.hid hAe
  have OHE := Lib.hid ohe
  clear TO hT hAe ohe
  clear O
  go_upto_region 9 with fail
  rw [HAE.out]
  clear HAE s1 s2
  go_wp2_with fail
  refine SC.mono ?_
  clear SC
  rintro _ w7 ⟨ov, rfl, O⟩
  rw [N0] at O
  have HFV := fun w => half_good k (by omega) hf hhf w
  generalize ((hf * (k / 2) : Nat) : Int) = first at HFV
  obtain ⟨most, hmost⟩ : ∃ x, x = k / 2 := ⟨_, rfl⟩
  rw [← hmost] at HFV
  have HMO := Lib.hid hmost
  clear hmost
  go_wp2_with fail
  refine (HFV _).mono ?_
  clear HFV
  rintro _ w8 ⟨rfl, rfl⟩
  obtain ⟨OS, hOS⟩ : ∃ x, x = secsL m0 (oh * (k / 2)) (k / 2) := ⟨_, rfl⟩
  rw [← hOS] at O
  have HOS := Lib.hid hOS
  clear hOS hmod hr2
  obtain ⟨g4, o4, rfl⟩ : ∃ g o, a4 = some ⟨g, o, none⟩ := by
    obtain ⟨a, c, e, h⟩ := S4.out
    obtain ⟨g, o, e2, -⟩ := h (by have := HN4.out; omega)
    simp only [Value.slice.injEq] at e
    exact ⟨g, o, e.1.trans e2⟩
  have CS : Hid (∀ w' (LL : List Piece), Own w w' LL → ∀ j (hj : j < ss.length), w'.cell? ⟨g4, o4 + j, none⟩ = some (.string ⟨ss[j].toArray⟩)) := fun w' LL h j hj => by
    obtain ⟨a, c, e, h2⟩ := S4.out.keep h.chg (by simp)
    obtain ⟨g, o, e2, -, h3⟩ := h2 (by omega)
    simp only [Value.slice.injEq] at e
    rw [← e.1] at e2
    simp only [Option.some.injEq, Addr.mk.injEq, and_true] at e2
    obtain ⟨rfl, rfl⟩ := e2
    exact h3 j hj
  clear x0 x0' n2 n40
  have hx : 0 < ss.length := by have := HN4.out; omega
  have SB := many_bound HMAN.out (List.getElem_mem hx)
  have CSI := Lib.hid (fun w' (LL : List Piece) (h : Own w w' LL) => CS.out w' LL h 0 hx)
  generalize ss[0] = s at SB CSI
  rw [Nat.add_zero] at CSI
  have MN := fun w' => many_nat s.length (by omega) w'
  have hb : ¬ ((hf : Int) < 0 ∨ 1 < (hf : Int) ∨ (A : Int) < 1 ∨ 4294967295 < (A : Int)) := by have := H.out.ages; omega
  have OB := O.pick 1
  try simp only [List.map_cons, List.map_nil, List.getD_cons_zero, List.getD_cons_succ, List.eraseIdx_cons_zero, List.eraseIdx_cons_succ, List.getElem_cons_zero, List.getElem_cons_succ, List.take_succ_cons, List.take_zero, List.drop_succ_cons, List.drop_zero, List.cons_append, List.nil_append, List.append_eq] at OB
  have BG := begin_own OB F0.out (by rw [N0]; omega) (hf : Int) (A : Int) s (by omega)
  have c0 := CSI.out _ _ O
  by_cases hroom : manyN s.length ≤ most
  · obtain ⟨l', m', hw, PI, hu, -⟩ := (QIs.start H.out).put s (by show 0 + manyN s.length ≤ m0.n / 2; rw [N0, ← HMO.out]; omega)
    have FW := write_fits (l := Lg.start m0 hf A) F0.out s
    rw [hw] at FW
    have FW : Hid (m'.Fit 2020) := FW.mono (by show 2000 + m0.n / 2 ≤ 2020; omega)
    rw [q_good hb hw] at BG
    have PH := Lib.hid PI
    have hroom' : (manyN s.length : Int) ≤ (most : Int) := by omega
    generalize manyN s.length = M at MN hroom'
    clear hw hroom PI hb OB O hu SB
    unfold BeginPost at BG
    simp only at BG
    go_wp2_with fail
    refine BG.mono ?_
    clear BG c0
    rintro _ w10 ⟨q, rfl, O⟩
    have c1 := CSI.out _ _ O
    go_wp2_with fail
    refine (MN _).mono ?_
    clear MN
    rintro _ w11 ⟨rfl, rfl⟩
    have O2 : Own w w10 (strs (.slice none 0 0) [] :: lgb q l' (.pointer (some ⟨b, 0, none⟩)) :: dk (.pointer (some ⟨b, 0, none⟩)) m' :: strs ov OS :: []) := O.nilStrs
    clear O
    go_wp2_with (at_builtin; refine wpList_append_strO rfl _ _ rfl _ [] s O2 rfl rfl (by simp) ?_)
    intro pv w12 O3
    obtain ⟨pa, pc, hpv⟩ := O3.shape
    have HPV := Lib.hid hpv
    clear O2 c1 hpv
    go_wp2_with fail
    go_loopw [19, 20] (fun pv iv wx => ∃ (i : Nat) (put : List (List UInt8)) (m : Dk) (lg : Lg) (a : Option Addr) (cap : Nat), iv = .int .i64 i ∧ pv = .slice a put.length cap ∧ 1 ≤ i ∧ i ≤ N4 ∧ Hid (m.Fit (2000 + 20 * i) ∧ put.length ≤ i ∧ QIs m0 hf A lg m put ∧ put ≠ []) ∧
      Own w wx [strs (.slice a put.length cap) put, lgb q lg (.pointer (some ⟨b, 0, none⟩)), dk (.pointer (some ⟨b, 0, none⟩)) m, strs ov OS]) (fun _ iv _ => N4 - (intOf iv).toNat)
    case atStart => exact ⟨1, [s], m', l', pa, pc, rfl, HPV.out, by omega, by omega, ⟨FW.out, by simp, PH.out, by simp⟩, by rw [← HPV.out]; exact O3⟩
    case round =>
      clear O3
      obtain ⟨i, put, m, lg, a, cap, rfl, rfl, hi1, hi, HQ, O⟩ := hrel
      by_cases hlt : i < N4
      · have hb1 : (i : Int) < (N4 : Int) := by omega
        have hx : i < ss.length := by have := HN4.out; omega
        have SB := many_bound HMAN.out (List.getElem_mem hx)
        have CSI := Lib.hid (fun w' (LL : List Piece) (h : Own w w' LL) => CS.out w' LL h i hx)
        generalize ss[i] = s at *
        have MN := fun w' => many_nat s.length (by omega) w'
        have nm : m.n = k := HQ.out.2.2.1.is.n.trans N0
        have lon : lg.off = false := HQ.out.2.2.1.is.lon
        have hmany : lg.many = most := by rw [HQ.out.2.2.1.many, N0, HMO.out]
        have ons := HQ.out.2.2.1.is.on
        have ml : most ≤ 20 := by rw [HMO.out]; omega
        have used := ons.used
        have HP := Lib.hid HQ.out.2.2.1
        have HFm := Lib.hid HQ.out.1
        have LN : Hid (put.length ≤ i) := HQ.out.2.1
        have HNE := Lib.hid HQ.out.2.2.2
        have HLT := Lib.hid hlt
        clear HQ hlt
        obtain ⟨R, hR⟩ : ∃ R, R = lg.many - lg.used := ⟨_, rfl⟩
        have OB := O.pick 1
        try simp only [List.map_cons, List.map_nil, List.getD_cons_zero, List.getD_cons_succ, List.eraseIdx_cons_zero, List.eraseIdx_cons_succ, List.getElem_cons_zero, List.getElem_cons_succ, List.take_succ_cons, List.take_zero, List.drop_succ_cons, List.drop_zero, List.cons_append, List.nil_append, List.append_eq] at OB
        have RM := room_own OB used (by rw [hmany]; omega)
        rw [← hR] at RM
        have HRR := Lib.hid hR
        have HMM := Lib.hid hmany
        clear hR hmany
        go_wp2_with fail
        refine RM.mono ?_
        clear RM OB
        rintro _ w13 ⟨rfl, nn, rfl⟩
        have O1 := O.drewN nn
        clear O
        generalize wr.drewN nn = W at O1 ⊢
        have OP := O1.pick 2
        try simp only [List.map_cons, List.map_nil, List.getD_cons_zero, List.getD_cons_succ, List.eraseIdx_cons_zero, List.eraseIdx_cons_succ, List.getElem_cons_zero, List.getElem_cons_succ, List.take_succ_cons, List.take_zero, List.drop_succ_cons, List.drop_zero, List.cons_append, List.nil_append, List.append_eq] at OP
        have OPS := ops_any OP
        have hops : m.ops ≤ 9000 := by have := HFm.out.ops; omega
        obtain ⟨P, hP⟩ : ∃ P, P = m.ops := ⟨_, rfl⟩
        rw [← hP] at OPS hops
        have HP2 := Lib.hid hP
        clear hP
        go_wp2_with fail
        refine OPS.mono ?_
        clear OPS OP
        rintro _ w14 ⟨rfl, rfl⟩
        have c0 := CSI.out _ _ O1
        have OA := O1.selK 4 [1, 2, 0, 3]
        try simp only [List.map_cons, List.map_nil, List.getD_cons_zero, List.getD_cons_succ, List.eraseIdx_cons_zero, List.eraseIdx_cons_succ, List.getElem_cons_zero, List.getElem_cons_succ, List.take_succ_cons, List.take_zero, List.drop_succ_cons, List.drop_zero, List.cons_append, List.nil_append, List.append_eq] at OA
        have AD := add_own OA ons HFm.out (by have := HMM.out; omega) s (by omega)
        have ea : lg.add m s = lg.write m s := by unfold Lg.add; rw [lon]; rfl
        unfold AddPost at AD
        rw [ea] at AD
        clear OA O1 ea
        by_cases hroom : manyN s.length ≤ R
        · obtain ⟨l', m', hw, PI, hu, ho⟩ := HP.out.put s (by have := HRR.out; omega)
          have FW := write_fits (l := lg) HFm.out s
          rw [hw] at FW AD
          have hM2 := HMM.out
          have FW : Hid (m'.Fit (2000 + 20 * (i + 1))) := FW.mono (by omega)
          have PH := Lib.hid PI
          have hroom' : (manyN s.length : Int) ≤ (R : Int) := by omega
          have on2 := PI.is.on.used
          have mm2 : l'.many = most := by rw [PI.many, N0, HMO.out]
          obtain ⟨R', hR'⟩ : ∃ R', R' = l'.many - l'.used := ⟨_, rfl⟩
          obtain ⟨P', hP'⟩ : ∃ P', P' = m'.ops := ⟨_, rfl⟩
          have RM := fun (w' : World) (LL : List Piece) (h : Own w w' (lgb q l' (.pointer (some ⟨b, 0, none⟩)) :: LL)) => room_own h on2 (by rw [mm2]; omega)
          have OPS := fun (w' : World) (LL : List Piece) (h : Own w w' (dk (.pointer (some ⟨b, 0, none⟩)) m' :: LL)) => ops_any h
          rw [← hP'] at OPS
          rw [← hR'] at RM
          have RM := Lib.hid RM
          have OPS := Lib.hid OPS
          have s1 : IntKind.i64.wrap ((R : Int) - (manyN s.length : Int)) = (R' : Int) := by have := HRR.out; rw [IntWalk.i64_in _ (by omega)]; omega
          have s2 : IntKind.i64.wrap ((P : Int) + (manyN s.length : Int)) = (P' : Int) := by have := HP2.out; rw [IntWalk.i64_in _ (by omega)]; omega
          have SL := Lib.hid SB.1
          simp only at AD
          generalize manyN s.length = M at MN hroom' s1 s2
          clear hw hroom PI ons hu ho hR' hP' mm2 on2 SB used lon
          go_wp2_with fail
          refine AD.mono ?_
          clear AD c0
          rintro _ w15 ⟨rfl, O⟩
          have c1 := CSI.out _ _ O
          go_wp2_with fail
          refine (MN _).mono ?_
          clear MN
          rintro _ w16 ⟨rfl, rfl⟩
          go_wp2_with fail
          refine (RM.out _ _ O).mono ?_
          clear RM c1
          rintro _ w17 ⟨rfl, n2, rfl⟩
          have O1 := O.drewN n2
          clear O
          generalize w15.drewN n2 = W2 at O1 ⊢
          have O2 := O1.pick 1
          try simp only [List.map_cons, List.map_nil, List.getD_cons_zero, List.getD_cons_succ, List.eraseIdx_cons_zero, List.eraseIdx_cons_succ, List.getElem_cons_zero, List.getElem_cons_succ, List.take_succ_cons, List.take_zero, List.drop_succ_cons, List.drop_zero, List.cons_append, List.nil_append, List.append_eq] at O2
          go_wp2_with fail
          refine (OPS.out _ _ O2).mono ?_
          clear OPS O2
          rintro _ w18 ⟨rfl, rfl⟩
          have c1 := CSI.out _ _ O1
          have O2 := O1.selK 4 [2, 0, 1, 3]
          try simp only [List.map_cons, List.map_nil, List.getD_cons_zero, List.getD_cons_succ, List.eraseIdx_cons_zero, List.eraseIdx_cons_succ, List.getElem_cons_zero, List.getElem_cons_succ, List.take_succ_cons, List.take_zero, List.drop_succ_cons, List.drop_zero, List.cons_append, List.nil_append, List.append_eq] at O2
          have pl : put.length ≤ 1000000000 := by have := LN.out; omega
          clear O1
          go_wp2_with (at_builtin; refine wpList_append_strO rfl _ _ rfl _ put s O2 rfl rfl pl ?_)
          intro pv w19 O3
          obtain ⟨pa, pc, rfl⟩ := O3.shape
          clear O2 c1
          go_wp2
          go_roundw
          case rel =>
            exact ⟨i + 1, put ++ [s], m', l', pa, pc, by go_num, by simp, by omega, by have := HLT.out; omega, ⟨FW.out, by have := LN.out; simp; omega, PH.out, by simp⟩, O3⟩
          case measure => simp [intOf]; have := HLT.out; omega
        · rw [Lg.Is.full (by have := HRR.out; omega)] at AD
          have hroom' : ¬ (manyN s.length : Int) ≤ (R : Int) := by omega
          have RM := fun (w' : World) (LL : List Piece) (h : Own w w' (lgb q lg (.pointer (some ⟨b, 0, none⟩)) :: LL)) => room_own h used (by rw [HMM.out]; omega)
          have OPS := fun (w' : World) (LL : List Piece) (h : Own w w' (dk (.pointer (some ⟨b, 0, none⟩)) m :: LL)) => ops_any h
          rw [← HP2.out] at OPS
          rw [← HRR.out] at RM
          have RM := Lib.hid RM
          have OPS := Lib.hid OPS
          simp only at AD
          generalize manyN s.length = M at MN hroom'
          clear hroom ons SB used lon
          go_wp2_with fail
          refine AD.mono ?_
          clear AD c0
          rintro _ w15 ⟨rfl, O⟩
          have c1 := CSI.out _ _ O
          go_wp2_with fail
          refine (MN _).mono ?_
          clear MN
          rintro _ w16 ⟨rfl, rfl⟩
          go_wp2_with fail
          refine (RM.out _ _ O).mono ?_
          clear RM c1
          rintro _ w17 ⟨rfl, n2, rfl⟩
          have O1 := O.drewN n2
          clear O
          generalize w15.drewN n2 = W2 at O1 ⊢
          have O2 := O1.pick 1
          try simp only [List.map_cons, List.map_nil, List.getD_cons_zero, List.getD_cons_succ, List.eraseIdx_cons_zero, List.eraseIdx_cons_succ, List.getElem_cons_zero, List.getElem_cons_succ, List.take_succ_cons, List.take_zero, List.drop_succ_cons, List.drop_zero, List.cons_append, List.nil_append, List.append_eq] at O2
          go_wp2_with fail
          refine (OPS.out _ _ O2).mono ?_
          clear OPS O2
          rintro _ w18 ⟨rfl, rfl⟩
          go_wp2
          go_roundw
          case rel =>
            exact ⟨i + 1, put, m, lg, a, cap, by go_num, rfl, by omega, by have := HLT.out; omega, ⟨HFm.out.mono (by omega), by have := LN.out; omega, HP.out, HNE.out⟩, O1.selK 4 [2, 0, 1, 3]⟩
          case measure => simp [intOf]; have := HLT.out; omega
      · have hb1 : ¬ (i : Int) < (N4 : Int) := by omega
        have O2 := O.selK 4 [2, 0, 1, 3]
        try simp only [List.map_cons, List.map_nil, List.getD_cons_zero, List.getD_cons_succ, List.eraseIdx_cons_zero, List.eraseIdx_cons_succ, List.getElem_cons_zero, List.getElem_cons_succ, List.take_succ_cons, List.take_zero, List.drop_succ_cons, List.drop_zero, List.cons_append, List.nil_append, List.append_eq] at O2
        have nm : m.n = k := HQ.out.2.2.1.is.n.trans N0
        have SC := sectors12_own O2 HQ.out.2.2.1.is.calm.1 (by rw [nm]; omega) oh hoh
        have e7 : secsL m (oh * (m.n / 2)) (m.n / 2) = OS := by rw [OHE.out, HQ.out.2.2.1.other H.out, HOS.out, N0, OHE.out]
        rw [e7] at SC
        have TL := HQ.out.2.2.1.top H.out HQ.out.2.2.2
        have SN := HQ.out.2.2.1.scan H.out HQ.out.2.2.2
        have LP : Hid (put.length ≤ i) := HQ.out.2.1
        have TL := Lib.hid TL
        have SN := Lib.hid SN
        have OL : OS.length ≤ 1000000000 := by rw [HOS.out, secsL_len]; omega
        clear e7 HQ O2
        go_wp2_with fail
        refine SC.mono ?_
        clear SC O
        rintro _ w13 ⟨sv, rfl, O⟩
        have SM := same12_any w13 sv ov OS OS _ _ O.strsR (O.pick 4).strsR OL true (decide_eq_true rfl)
        go_wp2_with fail
        refine SM.mono ?_
        clear SM
        rintro _ w14 ⟨rfl, nn, rfl⟩
        have O1 := (O.drop).drewN nn
        clear O
        generalize w13.drewN nn = W at O1 ⊢
        have HS := has_own O1 (by rw [nm]; omega) (hf : Int) (A : Int) (a := a) (n := put.length) (cap := cap) (ls := put) (fun w' h => ⟨_, (h.pick 1).strsR⟩) (by have := LP.out; omega) (r := true) (by rw [SN.out]; simp)
        clear O1
        go_wp2_with fail
        refine HS.mono ?_
        clear HS
        rintro _ w15 ⟨rfl, O⟩
        have TP := top12_own O (by rw [nm]; omega)
        rw [TL.out] at TP
        go_wp2_with fail
        refine TP.mono ?_
        clear TP O
        rintro _ w16 ⟨rfl, O⟩
        go_wp2
        go_ret
        exact ⟨rfl, O.below⟩
  · have hroom' : ¬ (manyN s.length : Int) ≤ (most : Int) := by omega
    rw [q_full hb (by rw [N0, ← HMO.out]; exact hroom)] at BG
    generalize manyN s.length = M at MN hroom'
    clear hroom hb OB O SB
    unfold BeginPost at BG
    simp only at BG
    go_wp2_with fail
    refine BG.mono ?_
    clear BG c0
    rintro _ w10 ⟨rfl, O⟩
    have c1 := CSI.out _ _ O
    go_wp2_with fail
    refine (MN _).mono ?_
    clear MN
    rintro _ w11 ⟨rfl, rfl⟩
    clear c1
    go_wp2_with fail
    go_loopw [19, 20] (fun pv iv wx => pv = .slice none 0 0 ∧ iv = .int .i64 1 ∧ Own w wx [dk (.pointer (some ⟨b, 0, none⟩)) m0, strs ov OS]) (fun _ _ _ => 0)
    case atStart => exact ⟨rfl, rfl, O⟩
    case round =>
      clear O
      obtain ⟨rfl, rfl, O⟩ := hrel
      have SC := sectors12_own O C0.out.1 (by rw [N0]; omega) oh hoh
      rw [N0, ← HOS.out] at SC
      have OL : OS.length ≤ 1000000000 := by rw [HOS.out, secsL_len]; omega
      by_cases h1 : (1 : Int) < (N4 : Int)
      · go_wp2_with fail
        refine SC.mono ?_
        clear SC O
        rintro _ w13 ⟨sv, rfl, O⟩
        have SM := same12_any w13 sv ov OS OS _ _ O.strsR (O.pick 2).strsR OL true (decide_eq_true rfl)
        go_wp2_with fail
        refine SM.mono ?_
        clear SM
        rintro _ w14 ⟨rfl, nn, rfl⟩
        have O1 := O.drewN nn
        clear O
        go_wp2
        go_ret
        exact ⟨rfl, O1.below⟩
      · go_wp2_with fail
        refine SC.mono ?_
        clear SC O
        rintro _ w13 ⟨sv, rfl, O⟩
        have SM := same12_any w13 sv ov OS OS _ _ O.strsR (O.pick 2).strsR OL true (decide_eq_true rfl)
        go_wp2_with fail
        refine SM.mono ?_
        clear SM
        rintro _ w14 ⟨rfl, nn, rfl⟩
        have O1 := O.drewN nn
        clear O
        go_wp2
        go_ret
        exact ⟨rfl, O1.below⟩
end Go.Proofs.YtnlppcjfpmnahaaDoor
