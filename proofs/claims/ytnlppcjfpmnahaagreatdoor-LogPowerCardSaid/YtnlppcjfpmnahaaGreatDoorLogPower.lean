/- LogPower: the walk. -/
import Derived.Test.YtnlppcjfpmnahaaGreatDoorLgTop
import Derived.Test.YtnlppcjfpmnahaaGreatDoorDiskJ
import Derived.Deep.CutBlock
import Derived.Deep.DeepCutAuto
namespace Go.Proofs.YtnlppcjfpmnahaaGreatDoor
set_option linter.all false
open Go.RowKit

def OneP (put : List (List UInt8)) (N : Nat) : Prop := put = [] → N = 1
theorem StrsR.takeP {w : World} {g off n cap : Nat} {ss : List (List UInt8)} {G : List Nat} (h : StrsR w (.slice (some ⟨g, off, none⟩) n cap) ss G) (k : Nat) (hk : k ≤ n) (cap' : Nat) : StrsR w (.slice (some ⟨g, off, none⟩) k cap') (ss.take k) G := by
  obtain ⟨a, c, he, hr⟩ := h
  simp only [Value.slice.injEq] at he
  obtain ⟨rfl, rfl, rfl⟩ := he
  have hl : (ss.take k).length = k := by simp; omega
  refine ⟨_, _, by rw [hl], fun hp => ?_⟩
  obtain ⟨g', off', e, hg, hc⟩ := hr (by omega)
  refine ⟨g', off', e, hg, fun i hi => ?_⟩
  rw [hc i (by omega)]
  simp
theorem begin_full {m : Dk} {half age : Nat} (hb : ¬ ((half : Int) < 0 ∨ 1 < (half : Int) ∨ (age : Int) < 1 ∨ 4294967295 < (age : Int))) {s : List UInt8} (h : ¬ (Lg.start m half age).used + manyN s.length ≤ (Lg.start m half age).many) : beginV m half age s = (none, m, 41) := by
  rw [begin_good hb s (Lg.Is.full h), if_neg (by omega)]
theorem modM (n : Int) (M : Nat) (h1 : 1 ≤ M) (h2 : M ≤ 100000) : ∃ r : Nat, r < M ∧ IntKind.u64.wrap (M : Int) = (M : Int) ∧ wrap64 ((IntKind.u64.wrap n).tmod (M : Int)) = (r : Int) := by
  have h0 : 0 ≤ IntKind.u64.wrap n := by rw [IntKind.wrap_u64]; omega
  have h1' : (IntKind.u64.wrap n).tmod (M : Int) = IntKind.u64.wrap n % (M : Int) := Int.tmod_eq_emod_of_nonneg h0
  have h3 := Int.emod_nonneg (IntKind.u64.wrap n) (show (M : Int) ≠ 0 by omega)
  have h4 := Int.emod_lt_of_pos (IntKind.u64.wrap n) (show (0 : Int) < M by omega)
  rw [h1']
  refine ⟨(IntKind.u64.wrap n % (M : Int)).toNat, by omega, by rw [IntKind.wrap_u64]; omega, ?_⟩
  rw [IntWalk.wrap64_in _ (by omega)]
  omega
theorem many_bound {L : List (List UInt8)} (h : sumMn L < 9000) {s : List UInt8} (hs : s ∈ L) : s.length ≤ 9000 ∧ manyN s.length ≤ 1000 := by
  have := sumMn_mem hs
  have h2 : s.length < 9000 := by omega
  refine ⟨by omega, ?_⟩
  unfold manyN
  omega
set_option maxRecDepth 100000 in
set_option maxHeartbeats 8000000 in
theorem logPower_walk {w : World} (n : Int) (hn : (Lit.int .i64 n).wf = true) (v1 : Value) (o1 : ∃ (l : List St) (G : List Nat), StepsR w v1 l G ∧ l.length ≤ maxLen ∧ ∀ s ∈ l, s.Wf) (half : Int) (_hh : (Lit.int .i64 half).wf = true)
    (v3 : Value) (ss : List (List UInt8)) (G3 : List Nat) (s3 : StrsR w v3 ss G3) (_b3 : ∀ s ∈ ss, s.length ≤ maxLen) (_g3 : ∀ k ∈ G3, k < w.heap.size) (c3 : ss.length ≤ maxLen) (kd : ∃ a cap, v3 = .slice a ss.length cap ∧ ss.length ≤ cap)
    (after : Int) (_ha : (Lit.int .i64 after).wf = true) (v5 : Value) (zs : List Int) (G5 : List Nat) (s5 : SlR w v5 (zs.map (.int .i64)) G5) (c5 : zs.length ≤ maxLen) (iz : ∀ z ∈ zs, (Lit.int .i64 z).wf = true) :
    Calls Tryz.prog 3 #[.int .i64 n, v1, .int .i64 half, v3, .int .i64 after, v5] w fun e w' => e = .returned (.bool true) ∧ Below w.heap.size w w' := by
  obtain ⟨l, G, hl, ll, lw⟩ := o1
  obtain ⟨a1, cap1, rfl, -⟩ := id hl
  obtain ⟨a3, cap3, rfl, hcap3⟩ := kd
  obtain ⟨a5, cap5, rfl, -⟩ := id s5
  rw [List.length_map] at s5
  have hn64 := wf64 hn
  unfold I64 at hn64
  have O := Own.start w
  have HL := Lib.hid hl
  have LW := Lib.hid lw
  have S3 := Lib.hid s3
  have S5 := Lib.hid s5
  have IZ := Lib.hid iz
  have LL := Lib.hid ll
  have C3 := Lib.hid c3
  have l3 : ss.length ≤ 9223372036854775807 := c3
  have l5 : zs.length ≤ 9223372036854775807 := c5
  clear hl lw s3 s5 iz ll c3 c5 hn _hh _ha _b3 _g3
  obtain ⟨N3, hN3⟩ : ∃ N, N = ss.length := ⟨_, rfl⟩
  obtain ⟨N5, hN5⟩ : ∃ N, N = zs.length := ⟨_, rfl⟩
  rw [← hN3] at S3 hcap3 l3 ⊢
  rw [← hN5] at S5 l5
  simp only [List.length_map]
  rw [← hN5]
  have HN3 := Lib.hid hN3
  have HN5 := Lib.hid hN5
  clear hN3 hN5
  go_enter Tryz.func3, Tryz.ntmps3
  go_wp2_with fail
  refine (works12_own O).mono ?_
  clear O
  rintro e w1 ⟨rfl, O⟩
  go_wp2_with fail
  refine (long12_own O HL.out LL.out LW.out).mono ?_
  clear O
  rintro e w2 ⟨r, rfl, O, hr⟩
  cases r
  rotate_left
  · go_wp2_with fail
    refine (works12_own O).mono ?_
    clear O
    rintro e w2 ⟨rfl, O⟩
    go_wp2
    go_ret
    exact ⟨rfl, O.below⟩
  have HSUM := Lib.hid (hr rfl)
  clear hr
  by_cases n2 : n < 2
  · go_wp2_with fail
    refine (works12_own O).mono ?_
    clear O
    rintro e w2 ⟨rfl, O⟩
    go_wp2
    go_ret
    exact ⟨rfl, O.below⟩
  by_cases n40 : 40 < n
  · go_wp2_with fail
    refine (works12_own O).mono ?_
    clear O
    rintro e w2 ⟨rfl, O⟩
    go_wp2
    go_ret
    exact ⟨rfl, O.below⟩
  by_cases x30 : (30 : Int) < (N3 : Int)
  · go_wp2_with fail
    refine (works12_own O).mono ?_
    clear O
    rintro e w2 ⟨rfl, O⟩
    go_wp2
    go_ret
    exact ⟨rfl, O.below⟩
  go_wp2_with fail
  refine (many12_own O S3.out HN3.out (by have := C3.out; have := HN3.out; omega)).mono ?_
  clear O
  rintro e w2 ⟨r, rfl, O, hr2⟩
  cases r
  rotate_left
  · go_wp2_with fail
    refine (works12_own O).mono ?_
    clear O
    rintro e w2 ⟨rfl, O⟩
    go_wp2
    go_ret
    exact ⟨rfl, O.below⟩
  have HMAN := Lib.hid (hr2 rfl)
  clear hr2
  by_cases x0 : N3 = 0
  · have x0' : ((N3 : Int) == 0) = true := by simp [x0]
    clear x0
    go_wp2_with fail
    refine (works12_own O).mono ?_
    clear O
    rintro e w2 ⟨rfl, O⟩
    go_wp2
    go_ret
    exact ⟨rfl, O.below⟩
  have x0' : ((N3 : Int) == 0) = false := by simp [x0]
  by_cases x5 : (1000 : Int) < (N5 : Int)
  · go_wp2_with fail
    refine (works12_own O).mono ?_
    clear O
    rintro e w2 ⟨rfl, O⟩
    go_wp2
    go_ret
    exact ⟨rfl, O.below⟩
  obtain ⟨k, rfl⟩ : ∃ k : Nat, n = (k : Int) := ⟨n.toNat, by omega⟩
  have nL := Lib.hid (show k ≤ 40 ∧ 2 ≤ k by omega)
  have xN : 0 < N3 := by omega
  go_wp2_with fail
  refine (new_own O k (by omega) (by omega)).mono ?_
  clear O
  rintro _ w3 ⟨b, rfl, O⟩
  go_wp2_with fail
  refine (raw_own O (calm_new k) (Fit.new (by omega)) (by show k ≤ 41; omega) HL.out HSUM.out LW.out).mono ?_
  clear O HSUM HL LW LL
  rintro _ w4 ⟨rfl, m1, C1, F1, N1, O⟩
  go_wp2_with fail
  have SY := sync_fit O F1 (by omega) (m' := m1.sync.1) (er := m1.sync.2) rfl
  have C0 := Lib.hid (sync_calm C1)
  have F0 := Lib.hid F1.sync
  have N0 : m1.sync.1.n = k := (sync_n m1).trans N1
  have W0 : Hid (∀ i, m1.sync.1.was i = none) := fun i => by rw [sync_on C1.1]; rfl
  generalize m1.sync = R at SY C0 F0 N0 W0
  obtain ⟨m0, er0⟩ := R
  simp only at SY C0 F0 N0 W0
  refine SY.mono ?_
  clear SY O C1 F1 N1
  rintro _ w5 ⟨rfl, O⟩
  obtain ⟨hf, hhf, hmod⟩ := mod2 half
  have TP := top12_own O (by rw [N0]; have := nL.out; omega)
  have hT := top_le C0.out.1
  have TO := Lib.hid (topL_on C0.out.1)
  generalize topL m0 = T at TP hT TO
  have s1 : IntKind.i64.wrap (T + 1) = T + 1 := IntWalk.i64_in _ (by omega)
  go_wp2_with fail
  refine TP.mono ?_
  clear TP O
  rintro _ w6 ⟨rfl, O⟩
  by_cases hA : (4294967296 : Int) ≤ T + 1
  · go_wp2
    go_ret
    exact ⟨rfl, O.below⟩
  obtain ⟨A, hAe⟩ : ∃ A : Nat, T + 1 = (A : Int) := ⟨(T + 1).toNat, by omega⟩
  have H : Hid (P0 m0 hf A) := ⟨by rw [N0]; exact nL.out.1, hhf, by omega, fun i hi => ⟨by
    have h1 : m0.get i ∈ secsL m0 0 m0.n := by
      have h2 : i < (secsL m0 0 m0.n).length := by rw [secsL_len]; exact hi
      have h3 := secsL_at m0 0 m0.n i h2
      rw [Nat.zero_add] at h3
      rw [← h3]
      exact List.getElem_mem h2
    have h4 := maxAge_mem h1
    have h5 := TO.out
    omega, F0.out.ok.full.get i⟩, C0.out, W0.out⟩
  have hA2 : ¬ (4294967296 : Int) ≤ (A : Int) := by omega
  obtain ⟨oh, hoh, ohe⟩ : ∃ oh : Nat, oh ≤ 1 ∧ IntKind.i64.wrap (1 - (hf : Int)) = (oh : Int) ∧ oh = 1 - hf := ⟨1 - hf, by omega, by rw [IntWalk.i64_in _ (by omega)]; omega, rfl⟩
  have SC := sectors12_own O C0.out.1 (by rw [N0]; have := nL.out; omega) oh hoh
  obtain ⟨ohw, ohe⟩ := ohe
  have HAE := Lib.hid hAe
  have OHE := Lib.hid ohe
  clear TO hT hA2 hAe ohe
  clear O
  go_upto_region 10 with fail
  rw [HAE.out]
  clear HAE s1
  go_wp2_with fail
  refine SC.mono ?_
  clear SC
  rintro _ w7 ⟨ov, rfl, O⟩
  rw [N0] at O
  have O1 : Own w w7 (strs (.slice none 0 0) [] :: dk (.pointer (some ⟨b, 0, none⟩)) m0 :: strs ov (secsL m0 (oh * (k / 2)) (k / 2)) :: []) := O.nilStrs.selK 3 [0, 2, 1]
  clear O hmod
  trace_state
  obtain ⟨OS, hOS⟩ : ∃ x, x = secsL m0 (oh * (k / 2)) (k / 2) := ⟨_, rfl⟩
  rw [← hOS] at O1
  have HOS := Lib.hid hOS
  clear hOS
  obtain ⟨g3, o3, rfl⟩ : ∃ g o, a3 = some ⟨g, o, none⟩ := by
    obtain ⟨a, c, e, h⟩ := S3.out
    obtain ⟨g, o, e2, -⟩ := h (by have := HN3.out; omega)
    simp only [Value.slice.injEq] at e
    exact ⟨g, o, e.1.trans e2⟩
  have CS : Hid (∀ w' (LL : List Piece), Own w w' LL → ∀ j (hj : j < ss.length), w'.cell? ⟨g3, o3 + j, none⟩ = some (.string ⟨ss[j].toArray⟩)) := fun w' LL h j hj => by
    obtain ⟨a, c, e, h2⟩ := S3.out.keep h.chg (by simp)
    obtain ⟨g, o, e2, -, h3⟩ := h2 (by omega)
    simp only [Value.slice.injEq] at e
    rw [← e.1] at e2
    simp only [Option.some.injEq, Addr.mk.injEq, and_true] at e2
    obtain ⟨rfl, rfl⟩ := e2
    exact h3 j hj
  have x5' := Lib.hid x5
  clear x0 x0' x5 n2 n40
  go_upto_block 0 with fail
  go_cut [17] (fun pv wx => ∃ (put : List (List UInt8)) (m3 : Dk), Hid (m3.Fit 8000 ∧ m3.n = k ∧ (put.length ≤ 30 ∧ OneP put N3) ∧ (OnP hf A m3 put ∨ ∃ h : N3 - 1 < ss.length, OffP m0 hf A m3 put ss[N3 - 1])) ∧ Own w wx [strs pv put, dk (.pointer (some ⟨b, 0, none⟩)) m3, strs ov OS])
  case first =>
    go_wp2_with fail
    go_loopw [17, 18, 19] (fun pv gv iv wx => ∃ (i : Nat) (put : List (List UInt8)) (m : Dk), iv = .int .i64 i ∧ i < N3 ∧ Hid (m.Fit (2001 + 21 * i) ∧ put.length ≤ i) ∧
      ((i = 0 ∧ gv = .pointer none ∧ pv = .slice none 0 0 ∧ Hid (m = m0) ∧ Own w wx [strs (.slice none 0 0) [], dk (.pointer (some ⟨b, 0, none⟩)) m0, strs ov OS]) ∨
       (0 < i ∧ ∃ (q : Nat) (lg : Lg) (a : Option Addr) (cap : Nat), gv = .pointer (some ⟨q, 0, none⟩) ∧ pv = .slice a put.length cap ∧ Hid (PIs m0 hf A lg m put ∧ put ≠ []) ∧ Own w wx [strs (.slice a put.length cap) put, lgb q lg (.pointer (some ⟨b, 0, none⟩)), dk (.pointer (some ⟨b, 0, none⟩)) m, strs ov OS]))) (fun _ _ iv _ => N3 - (intOf iv).toNat)
    case atStart => exact ⟨0, [], m0, rfl, by omega, ⟨F0.out.mono (by omega), by simp⟩, .inl ⟨rfl, rfl, rfl, rfl, O1⟩⟩
    case round =>
      clear O1
      obtain ⟨i, put, m, rfl, hi, HF, HC⟩ := hrel
      have hb1 : (i : Int) < (N3 : Int) := by omega
      have hx : i < ss.length := by have := HN3.out; omega
      have w1 : IntKind.i64.wrap ((N3 : Int) - 1) = (N3 : Int) - 1 := IntWalk.i64_in _ (by omega)
      have SB := many_bound HMAN.out (List.getElem_mem hx)
      obtain ⟨r, hr1, hr2, hr3⟩ := modM after (manyN ss[i].length) (many_pos _) (by omega)
      have MN := fun w' => many_nat ss[i].length (by omega) w'
      rcases HC with ⟨rfl, rfl, rfl, hm, O⟩ | ⟨hi0, q, lg, a, cap, rfl, rfl, HP, O⟩
      · by_cases hlast : N3 = 1
        · have e1 : ((0 : Int) == (N3 : Int) - 1) = true := by simp; omega
          have SL := Lib.hid (CS.out _ _ O 0 hx)
          have CSI := Lib.hid (fun w' (LL : List Piece) (h : Own w w' LL) => CS.out w' LL h 0 hx)
          have HS : Hid (∃ h : N3 - 1 < ss.length, ss[N3 - 1] = ss[0]) := ⟨by omega, by congr 1; omega⟩
          generalize ss[0] = s at *
          rw [Nat.add_zero] at CSI
          have c0 := CSI.out _ _ O
          obtain ⟨M, hM⟩ : ∃ M, M = manyN s.length := ⟨_, rfl⟩
          rw [← hM] at hr1 hr2 hr3 MN SB
          have HM := Lib.hid hM
          have m1 : ¬ (M : Int) = 0 := by omega
          obtain ⟨K, hK⟩ : ∃ K : Nat, K = 1 + r := ⟨_, rfl⟩
          have w2 : IntKind.i64.wrap (1 + (r : Int)) = (K : Int) := by rw [IntWalk.i64_in _ (by omega)]; omega
          have FA := Lib.hid (fun w' (LL : List Piece) (h : Own w w' (dk (.pointer (some ⟨b, 0, none⟩)) m0 :: LL)) => fail_any (K : Int) (by omega) h)
          have HK := Lib.hid (show 1 ≤ K ∧ K ≤ M by omega)
          have HLAST := Lib.hid hlast
          clear hM hK hm SL hlast
          go_wp2_with fail
          refine (MN _).mono ?_
          rintro _ w8 ⟨rfl, rfl⟩
          have O2 := O.pick 1
          try simp only [List.map_cons, List.map_nil, List.getD_cons_zero, List.getD_cons_succ, List.eraseIdx_cons_zero, List.eraseIdx_cons_succ, List.getElem_cons_zero, List.getElem_cons_succ, List.take_succ_cons, List.take_zero, List.drop_succ_cons, List.drop_zero, List.cons_append, List.nil_append, List.append_eq] at O2
          go_wp2_with fail
          refine (FA.out _ _ O2).mono ?_
          clear O O2 FA
          rintro _ w9 ⟨rfl, O⟩
          have c1 := CSI.out _ _ O
          have hb : ¬ ((hf : Int) < 0 ∨ 1 < (hf : Int) ∨ (A : Int) < 1 ∨ 4294967295 < (A : Int)) := by have := H.out.ages; omega
          have F1 : (m0.fail (K : Int)).Fit 2001 := F0.out.fail (by have := HK.out.2; have := SB.2; omega)
          have BG := begin_own O F1 (by show 2001 + m0.n ≤ 9000; omega) (hf : Int) (A : Int) s (by omega)
          by_cases hroom : (Lg.start m0 hf A).used + manyN s.length ≤ (Lg.start m0 hf A).many
          · obtain ⟨l', m3, er, hw, h41, OP⟩ := (PIs.start H.out).torn H.out s hroom HK.out.1 (by rw [← HM.out]; exact HK.out.2) F0.out
            have FW := write_fits (l := Lg.start m0 hf A) F1 s
            have NW := lgw_n (m0.fail (K : Int)) (Lg.start m0 hf A) s
            rw [hw] at FW NW
            have FIN : Hid (m3.Fit 8000 ∧ m3.n = k ∧ (([] : List (List UInt8)).length ≤ 30 ∧ OneP [] N3) ∧ (OnP hf A m3 [] ∨ ∃ h : N3 - 1 < ss.length, OffP m0 hf A m3 [] ss[N3 - 1])) := ⟨FW.mono (by show 2001 + m0.n / 2 ≤ 8000; omega), NW.trans N0, ⟨by simp, fun _ => HLAST.out⟩, .inr (by obtain ⟨h, e⟩ := HS.out; exact ⟨h, by rw [e]; exact OP⟩)⟩
            rw [begin_good (m := m0.fail (K : Int)) hb s hw] at BG
            clear hw hroom FW NW F1 OP hb
            by_cases her : er = 0
            · rw [if_pos her] at BG
              clear her h41 O
              unfold BeginPost at BG
              simp only at BG
              go_wp2_with fail
              refine BG.mono ?_
              clear BG c0 c1
              rintro _ w10 ⟨q, rfl, O⟩
              go_wp2
              go_meet
              exact ⟨[], m3, FIN, O.drop.selK 3 [1, 0, 2]⟩
            · rw [if_neg her] at BG
              have h41b : (er == 41) = false := by simp [h41]
              clear O her
              unfold BeginPost at BG
              simp only at BG
              go_wp2_with fail
              refine BG.mono ?_
              clear BG c0 c1
              rintro _ w10 ⟨rfl, O⟩
              go_wp2
              go_meet
              exact ⟨[], m3, FIN, O.selK 3 [1, 0, 2]⟩
          · rw [begin_full (m := m0.fail (K : Int)) hb hroom] at BG
            clear O F1 hroom hb
            unfold BeginPost at BG
            simp only at BG
            go_wp2_with fail
            refine BG.mono ?_
            clear BG c0 c1
            rintro _ w10 ⟨rfl, O⟩
            go_wp2
            go_ret
            exact ⟨rfl, O.below⟩
        · have e1 : ((0 : Int) == (N3 : Int) - 1) = false := by simp; omega
          have CSI := Lib.hid (fun w' (LL : List Piece) (h : Own w w' LL) => CS.out w' LL h 0 hx)
          generalize ss[0] = s at *
          rw [Nat.add_zero] at CSI
          have hb : ¬ ((hf : Int) < 0 ∨ 1 < (hf : Int) ∨ (A : Int) < 1 ∨ 4294967295 < (A : Int)) := by have := H.out.ages; omega
          have OB := O.pick 1
          try simp only [List.map_cons, List.map_nil, List.getD_cons_zero, List.getD_cons_succ, List.eraseIdx_cons_zero, List.eraseIdx_cons_succ, List.getElem_cons_zero, List.getElem_cons_succ, List.take_succ_cons, List.take_zero, List.drop_succ_cons, List.drop_zero, List.cons_append, List.nil_append, List.append_eq] at OB
          have BG := begin_own OB F0.out (by rw [N0]; omega) (hf : Int) (A : Int) s (by omega)
          have c0 := CSI.out _ _ O
          have HLAST := Lib.hid hlast
          clear hlast hr3 hr2 hr1 MN O OB hm
          by_cases hroom : (Lg.start m0 hf A).used + manyN s.length ≤ (Lg.start m0 hf A).many
          · obtain ⟨l', m', hw, PI⟩ := (PIs.start H.out).put s hroom
            have FW := write_fits (l := Lg.start m0 hf A) F0.out s
            rw [hw] at FW
            have FW : Hid (m'.Fit 2021) := FW.mono (by show 2001 + m0.n / 2 ≤ 2021; omega)
            rw [begin_good hb s hw, if_pos rfl] at BG
            have PH := Lib.hid PI
            clear hw hroom PI hb
            unfold BeginPost at BG
            simp only at BG
            go_wp2_with fail
            refine BG.mono ?_
            clear BG c0
            rintro _ w10 ⟨q, rfl, O⟩
            have c1 := CSI.out _ _ O
            have O2 := O.selK 4 [2, 0, 1, 3]
            try simp only [List.map_cons, List.map_nil, List.getD_cons_zero, List.getD_cons_succ, List.eraseIdx_cons_zero, List.eraseIdx_cons_succ, List.getElem_cons_zero, List.getElem_cons_succ, List.take_succ_cons, List.take_zero, List.drop_succ_cons, List.drop_zero, List.cons_append, List.nil_append, List.append_eq] at O2
            clear O
            go_wp2_with (at_builtin; refine wpList_append_strO rfl _ _ rfl _ [] s O2 rfl rfl (by simp) ?_)
            intro pv w11 O3
            obtain ⟨pa, pc, rfl⟩ := O3.shape
            clear O2 c1
            have O4 := O3.pick 2
            try simp only [List.map_cons, List.map_nil, List.getD_cons_zero, List.getD_cons_succ, List.eraseIdx_cons_zero, List.eraseIdx_cons_succ, List.getElem_cons_zero, List.getElem_cons_succ, List.take_succ_cons, List.take_zero, List.drop_succ_cons, List.drop_zero, List.cons_append, List.nil_append, List.append_eq] at O4
            clear O3
            have SY := sync_fit O4 FW.out (by omega) (m' := m'.sync.1) (er := m'.sync.2) rfl
            have FS := Lib.hid FW.out.sync
            generalize m'.sync = R at SY PH FS
            obtain ⟨m2, er⟩ := R
            simp only at SY PH FS
            go_wp2_with fail
            refine SY.mono ?_
            clear SY O4
            rintro _ w12 ⟨rfl, O⟩
            go_wp2
            go_roundw
            case rel =>
              refine ⟨1, [s], m2, by go_num, by have := HLAST.out; omega, ⟨FS.out.mono (by omega), by simp⟩, .inr ⟨by omega, q, l', pa, pc, rfl, rfl, ⟨PH.out, by simp⟩, O.selK 4 [1, 2, 0, 3]⟩⟩
            case measure => simp [intOf]; have := HLAST.out; omega
          · rw [begin_full hb hroom] at BG
            clear hroom hb
            unfold BeginPost at BG
            simp only at BG
            go_wp2_with fail
            refine BG.mono ?_
            clear BG c0
            rintro _ w10 ⟨rfl, O⟩
            go_wp2
            go_ret
            exact ⟨rfl, O.below⟩
      · have i0 : ((i : Int) == 0) = false := by simp; omega
        have CSI := Lib.hid (fun w' (LL : List Piece) (h : Own w w' LL) => CS.out w' LL h i hx)
        obtain ⟨hp1, hne⟩ := HP.out
        have HPI := Lib.hid hp1
        have HNE := Lib.hid hne
        have lon : lg.off = false := hp1.is.lon
        have hmany : lg.many ≤ 20 := by rw [hp1.many, N0]; omega
        have ons := hp1.is.on
        have LN : Hid (put.length ≤ i) := HF.out.2
        have HFm := Lib.hid HF.out.1
        have nm : m.n = k := hp1.is.n.trans N0
        clear hp1 hne HP HF
        by_cases hlast : i + 1 = N3
        · have e1 : ((i : Int) == (N3 : Int) - 1) = true := by simp; omega
          have HS : Hid (∃ h : N3 - 1 < ss.length, ss[N3 - 1] = ss[i]) := ⟨by omega, by congr 1; omega⟩
          generalize ss[i] = s at *
          have c0 := CSI.out _ _ O
          obtain ⟨M, hM⟩ : ∃ M, M = manyN s.length := ⟨_, rfl⟩
          rw [← hM] at hr1 hr2 hr3 MN SB
          have HM := Lib.hid hM
          have m1 : ¬ (M : Int) = 0 := by omega
          obtain ⟨K, hK⟩ : ∃ K : Nat, K = 1 + r := ⟨_, rfl⟩
          have w2 : IntKind.i64.wrap (1 + (r : Int)) = (K : Int) := by rw [IntWalk.i64_in _ (by omega)]; omega
          have FA := Lib.hid (fun w' (LL : List Piece) (h : Own w w' (dk (.pointer (some ⟨b, 0, none⟩)) m :: LL)) => fail_any (K : Int) (by omega) h)
          have HK := Lib.hid (show 1 ≤ K ∧ K ≤ M by omega)
          have HLAST := Lib.hid hlast
          clear hM hK hlast
          go_wp2_with fail
          refine (MN _).mono ?_
          rintro _ w8 ⟨rfl, rfl⟩
          have O2 := O.pick 2
          try simp only [List.map_cons, List.map_nil, List.getD_cons_zero, List.getD_cons_succ, List.eraseIdx_cons_zero, List.eraseIdx_cons_succ, List.getElem_cons_zero, List.getElem_cons_succ, List.take_succ_cons, List.take_zero, List.drop_succ_cons, List.drop_zero, List.cons_append, List.nil_append, List.append_eq] at O2
          go_wp2_with fail
          refine (FA.out _ _ O2).mono ?_
          clear O O2 FA
          rintro _ w9 ⟨rfl, O⟩
          have c1 := CSI.out _ _ O
          have F1 : (m.fail (K : Int)).Fit (2001 + 21 * i) := HFm.out.fail (by have := HK.out.2; have := SB.2; omega)
          have O3 := O.selK 4 [2, 0, 1, 3]
          try simp only [List.map_cons, List.map_nil, List.getD_cons_zero, List.getD_cons_succ, List.eraseIdx_cons_zero, List.eraseIdx_cons_succ, List.getElem_cons_zero, List.getElem_cons_succ, List.take_succ_cons, List.take_zero, List.drop_succ_cons, List.drop_zero, List.cons_append, List.nil_append, List.append_eq] at O3
          have AD := add_own O3 (H := ⟨ons.room, ons.used, ons.age⟩) F1 (by omega) s (by omega)
          have ea : lg.add (m.fail (K : Int)) s = lg.write (m.fail (K : Int)) s := by unfold Lg.add; rw [lon]; rfl
          unfold AddPost at AD
          rw [ea] at AD
          by_cases hroom : lg.used + manyN s.length ≤ lg.many
          · obtain ⟨l', m3, er, hw, h41, OP⟩ := HPI.out.torn H.out s hroom HK.out.1 (by rw [← HM.out]; exact HK.out.2) HFm.out
            have FW := write_fits (l := lg) F1 s
            have NW := lgw_n (m.fail (K : Int)) lg s
            rw [hw] at FW NW AD
            have FIN : Hid (m3.Fit 8000 ∧ m3.n = k ∧ (put.length ≤ 30 ∧ OneP put N3) ∧ (OnP hf A m3 put ∨ ∃ h : N3 - 1 < ss.length, OffP m0 hf A m3 put ss[N3 - 1])) := ⟨FW.mono (by omega), NW.trans nm, ⟨by have := LN.out; omega, fun h => absurd h HNE.out⟩, .inr (by obtain ⟨h, e⟩ := HS.out; exact ⟨h, by rw [e]; exact OP⟩)⟩
            simp only at AD
            clear hw hroom FW NW F1 OP ea O O3 ons h41
            go_wp2_with fail
            refine AD.mono ?_
            clear AD c0 c1
            rintro _ w10 ⟨rfl, O⟩
            go_wp2
            go_meet
            exact ⟨put, m3, FIN, O.drop.selK 3 [1, 0, 2]⟩
          · rw [Lg.Is.full hroom] at AD
            have FIN : Hid ((m.fail (K : Int)).Fit 8000 ∧ (m.fail (K : Int)).n = k ∧ (put.length ≤ 30 ∧ OneP put N3) ∧ (OnP hf A (m.fail (K : Int)) put ∨ ∃ h : N3 - 1 < ss.length, OffP m0 hf A (m.fail (K : Int)) put ss[N3 - 1])) := ⟨F1.mono (by omega), nm, ⟨by have := LN.out; omega, fun h => absurd h HNE.out⟩, .inl (HPI.out.fail_on H.out HNE.out K)⟩
            simp only at AD
            clear hroom F1 ea O O3 ons
            go_wp2_with fail
            refine AD.mono ?_
            clear AD c0 c1
            rintro _ w10 ⟨rfl, O⟩
            go_wp2
            go_meet
            exact ⟨put, _, FIN, O.drop.selK 3 [1, 0, 2]⟩
        · have e1 : ((i : Int) == (N3 : Int) - 1) = false := by simp; omega
          generalize ss[i] = s at *
          have c0 := CSI.out _ _ O
          have HLAST := Lib.hid hlast
          have OB := O.selK 4 [1, 2, 0, 3]
          try simp only [List.map_cons, List.map_nil, List.getD_cons_zero, List.getD_cons_succ, List.eraseIdx_cons_zero, List.eraseIdx_cons_succ, List.getElem_cons_zero, List.getElem_cons_succ, List.take_succ_cons, List.take_zero, List.drop_succ_cons, List.drop_zero, List.cons_append, List.nil_append, List.append_eq] at OB
          have AD := add_own OB ons HFm.out (by omega) s (by omega)
          have ea : lg.add m s = lg.write m s := by unfold Lg.add; rw [lon]; rfl
          unfold AddPost at AD
          rw [ea] at AD
          clear hlast hr3 hr2 hr1 MN O OB ea
          by_cases hroom : lg.used + manyN s.length ≤ lg.many
          · obtain ⟨l', m', hw, PI⟩ := HPI.out.put s hroom
            have FW := write_fits (l := lg) HFm.out s
            rw [hw] at FW AD
            have FW : Hid (m'.Fit (2001 + 21 * i + 20)) := FW.mono (by omega)
            have PH := Lib.hid PI
            simp only at AD
            clear hw hroom PI ons
            go_wp2_with fail
            refine AD.mono ?_
            clear AD c0
            rintro _ w10 ⟨rfl, O⟩
            have c1 := CSI.out _ _ O
            have O2 := O.selK 4 [2, 0, 1, 3]
            try simp only [List.map_cons, List.map_nil, List.getD_cons_zero, List.getD_cons_succ, List.eraseIdx_cons_zero, List.eraseIdx_cons_succ, List.getElem_cons_zero, List.getElem_cons_succ, List.take_succ_cons, List.take_zero, List.drop_succ_cons, List.drop_zero, List.cons_append, List.nil_append, List.append_eq] at O2
            have pl : put.length ≤ 1000000000 := by have := LN.out; omega
            clear O
            go_wp2_with (at_builtin; refine wpList_append_strO rfl _ _ rfl _ put s O2 rfl rfl pl ?_)
            intro pv w11 O3
            obtain ⟨pa, pc, rfl⟩ := O3.shape
            clear O2 c1
            have O4 := O3.pick 2
            try simp only [List.map_cons, List.map_nil, List.getD_cons_zero, List.getD_cons_succ, List.eraseIdx_cons_zero, List.eraseIdx_cons_succ, List.getElem_cons_zero, List.getElem_cons_succ, List.take_succ_cons, List.take_zero, List.drop_succ_cons, List.drop_zero, List.cons_append, List.nil_append, List.append_eq] at O4
            clear O3
            have SY := sync_fit O4 FW.out (by omega) (m' := m'.sync.1) (er := m'.sync.2) rfl
            have FS := Lib.hid FW.out.sync
            generalize m'.sync = R at SY PH FS
            obtain ⟨m2, er⟩ := R
            simp only at SY PH FS
            go_wp2_with fail
            refine SY.mono ?_
            clear SY O4
            rintro _ w12 ⟨rfl, O⟩
            go_wp2
            go_roundw
            case rel =>
              refine ⟨i + 1, put ++ [s], m2, by go_num, by have := HLAST.out; omega, ⟨FS.out.mono (by omega), by have := LN.out; simp; omega⟩, .inr ⟨by omega, q, l', pa, pc, rfl, by simp, ⟨PH.out, by simp⟩, O.selK 4 [1, 2, 0, 3]⟩⟩
            case measure => simp [intOf]; have := HLAST.out; omega
          · rw [Lg.Is.full hroom] at AD
            have SYX := Lib.hid (fun w' (LL : List Piece) (h : Own w w' (dk (.pointer (some ⟨b, 0, none⟩)) m :: LL)) => sync_fit h HFm.out (by omega) (m' := m.sync.1) (er := m.sync.2) rfl)
            have FS := Lib.hid HFm.out.sync
            have PH := Lib.hid HPI.out.sync
            simp only at AD
            clear hroom ons
            go_wp2_with fail
            refine AD.mono ?_
            clear AD c0
            rintro _ w10 ⟨rfl, O⟩
            generalize m.sync = R at SYX PH FS
            obtain ⟨m2, er⟩ := R
            simp only at SYX PH FS
            have O2 := O.pick 1
            try simp only [List.map_cons, List.map_nil, List.getD_cons_zero, List.getD_cons_succ, List.eraseIdx_cons_zero, List.eraseIdx_cons_succ, List.getElem_cons_zero, List.getElem_cons_succ, List.take_succ_cons, List.take_zero, List.drop_succ_cons, List.drop_zero, List.cons_append, List.nil_append, List.append_eq] at O2
            go_wp2_with fail
            refine (SYX.out _ _ O2).mono ?_
            clear SYX O O2
            rintro _ w12 ⟨rfl, O⟩
            go_wp2
            go_roundw
            case rel =>
              refine ⟨i + 1, put, m2, by go_num, by have := HLAST.out; omega, ⟨FS.out.mono (by omega), by have := LN.out; omega⟩, .inr ⟨by omega, q, lg, a, cap, rfl, rfl, ⟨PH.out, HNE.out⟩, O.selK 4 [2, 1, 0, 3]⟩⟩
            case measure => simp [intOf]; have := HLAST.out; omega
  case rest =>
    clear O1
    obtain ⟨put, m3, HX, O⟩ := hcut
    obtain ⟨pa, pc, rfl⟩ := O.shape
    obtain ⟨hx1, hx2, ⟨hx3, hx5⟩, hx4⟩ := HX.out
    have PN1 := Lib.hid hx5
    clear hx5
    have F3 := Lib.hid hx1
    have ON := on_any (O.pick 1)
    rcases hx4 with ⟨p1, p2, p3⟩ | ⟨hh, p1, p2⟩
    · rw [p1] at ON
      have O2 := O.pick 1
      try simp only [List.map_cons, List.map_nil, List.getD_cons_zero, List.getD_cons_succ, List.eraseIdx_cons_zero, List.eraseIdx_cons_succ, List.getElem_cons_zero, List.getElem_cons_succ, List.take_succ_cons, List.take_zero, List.drop_succ_cons, List.drop_zero, List.cons_append, List.nil_append, List.append_eq] at O2
      have hp : (0 : Int) < (put.length : Int) := by
        cases put with
        | nil => exact absurd rfl p2
        | cons x r => simp
      have HS := has_own O2 (by rw [hx2]; omega) (hf : Int) (A : Int) (a := pa) (n := put.length) (cap := pc) (ls := put) (fun w' h => ⟨_, (h.pick 1).strsR⟩) (by omega) (r := true) (by rw [p3]; simp)
      clear O O2 p1 p2 p3 HX hx1 hx2
      go_wp2_with fail
      refine ON.mono ?_
      clear ON
      rintro _ w8 ⟨rfl, rfl⟩
      go_wp2_with fail
      refine HS.mono ?_
      clear HS
      rintro _ w8 ⟨rfl, O⟩
      go_wp2
      go_ret
      exact ⟨rfl, O.below⟩
    · rw [p1] at ON
      have HB := p2 zs
      have O2 := O.pick 1
      try simp only [List.map_cons, List.map_nil, List.getD_cons_zero, List.getD_cons_succ, List.eraseIdx_cons_zero, List.eraseIdx_cons_succ, List.getElem_cons_zero, List.getElem_cons_succ, List.take_succ_cons, List.take_zero, List.drop_succ_cons, List.drop_zero, List.cons_append, List.nil_append, List.append_eq] at O2
      have BT := boot_fit O2 F3.out (by omega) a5 N5 cap5 zs (fun w' m' h => ⟨_, S5.out.keep h.chg (by simp)⟩) (by have := HN5.out; have := x5'.out; unfold maxLen; omega) (m' := (m3.boot zs).1) (er := (m3.boot zs).2) rfl
      obtain ⟨e0, q1, q2, q3, q4, q5, q6⟩ := HB
      rw [e0] at BT
      generalize (m3.boot zs).1 = m4 at BT q1 q2 q3 q4 q5 q6
      clear O O2 p1 p2 HX hx1 hx2 e0 F3
      go_wp2_with fail
      refine ON.mono ?_
      clear ON
      rintro _ w8 ⟨rfl, rfl⟩
      go_wp2_with fail
      refine BT.mono ?_
      clear BT
      rintro _ w8 ⟨rfl, O⟩
      have TP := top12_own O (by rw [q1, N0]; omega)
      generalize topL m4 = T4 at TP q3
      have t4 : ¬ (A : Int) < T4 := by omega
      go_wp2_with fail
      refine TP.mono ?_
      clear TP O
      rintro _ w9 ⟨rfl, O⟩
      have SC := sectors12_own O q2 (by rw [q1, N0]; omega) oh hoh
      have q7 : secsL m4 (oh * (m4.n / 2)) (m4.n / 2) = OS := by rw [HOS.out, q1, N0, OHE.out]; rw [N0] at q4; exact q4
      rw [q7] at SC
      go_wp2_with fail
      refine SC.mono ?_
      clear SC O
      rintro _ w10 ⟨sv, rfl, O⟩
      have OL : OS.length ≤ 1000000000 := by rw [HOS.out, secsL_len]; omega
      have SM := same12_any w10 sv ov OS OS _ _ O.strsR (O.pick 3).strsR OL true (decide_eq_true rfl)
      go_wp2_with fail
      refine SM.mono ?_
      clear SM
      rintro _ w11 ⟨rfl, nn, rfl⟩
      have O := (O.drop).drewN nn
      generalize w10.drewN nn = W at O ⊢
      have Q5 := Lib.hid q5
      have Q6 := Lib.hid q6
      have CSI := Lib.hid (fun w' (LL : List Piece) (h : Own w w' LL) => CS.out w' LL h (N3 - 1) hh)
      have TK := Lib.hid (fun w' (LL : List Piece) (h : Own w w' LL) => StrsR.takeP (S3.out.keep h.chg (by simp)) 1 (by omega) cap3)
      have SS : Hid (N3 = 1 → ss.take 1 = [ss[N3 - 1]]) := fun e => by
        have := HN3.out
        match ss, hh, this with
        | [x], hh, _ => subst e; rfl
        | [], hh, _ => simp at hh
        | x :: y :: r, _, h2 => simp at h2; omega
      generalize ss[N3 - 1] = s at Q5 Q6 CSI SS
      clear q5 q6
      by_cases hpe : put = []
      · subst hpe
        have R1 := Q6.out rfl
        have SCN := scan_own O (by rw [q1, N0]; omega) (hf : Int)
        unfold ScanPost at SCN
        generalize m4.scan (hf : Int) = R at SCN R1
        obtain ⟨ra, rl, re⟩ := R
        simp only at SCN R1
        have N1 := Lib.hid (PN1.out rfl)
        clear O Q5 Q6
        go_wp2_with fail
        refine SCN.mono ?_
        clear SCN
        rintro _ w12 ⟨nv, rfl, O⟩
        rcases R1 with rfl | ⟨rfl, r2⟩
        · go_wp2
          go_ret
          exact ⟨rfl, O.below⟩
        · rcases r2 with r2 | ⟨rfl, rfl⟩
          · have r3 : (ra == (A : Int)) = false := by simp; omega
            go_wp2
            go_ret
            exact ⟨rfl, O.below⟩
          · have c13 : (1 : Int) ≤ (cap3 : Int) := by omega
            have TS := TK.out _ _ O
            rw [SS.out N1.out] at TS
            have SM := same12_any w12 nv (.slice (some ⟨g3, o3, none⟩) 1 cap3) [s] [s] _ _ O.strsR TS (by simp) true (decide_eq_true rfl)
            go_wp2_with fail
            refine SM.mono ?_
            clear SM
            rintro _ w13 ⟨rfl, n2, rfl⟩
            go_wp2
            go_ret
            exact ⟨rfl, (O.drewN n2).below⟩
      · have hp : (0 : Int) < (put.length : Int) := by
          cases put with
          | nil => exact absurd rfl hpe
          | cons x r => simp
        have R1 := Q5.out hpe
        have HSX := Lib.hid (fun (w' : World) (LL : List Piece) (h : Own w w' (dk (.pointer (some ⟨b, 0, none⟩)) m4 :: LL)) (a : Option Addr) (nn cap : Nat) (ls : List (List UInt8)) (RD : ∀ w', Own w w' (dk (.pointer (some ⟨b, 0, none⟩)) m4 :: LL) → ∃ G, StrsR w' (.slice a nn cap) ls G) (hl : ls.length ≤ 1000000) (r : Bool) (hr : decide (m4.scan (hf : Int) = ((A : Int), ls, 0)) = r) => has_own h (by rw [q1, N0]; omega) (hf : Int) (A : Int) RD hl hr)
        obtain ⟨gp, cp, ep⟩ := (O.pick 1).shapePos (by omega)
        simp only [Value.slice.injEq] at ep
        obtain ⟨rfl, -, rfl⟩ := ep
        go_upto_region 34 with fail
        have OD := O.drew
        obtain ⟨n1, hn1⟩ : ∃ n1, n1 = N3 - 1 := ⟨_, rfl⟩
        rw [← hn1] at CSI
        have w1 : IntKind.i64.wrap ((N3 : Int) - 1) = (n1 : Int) := by rw [IntWalk.i64_in _ (by omega)]; omega
        have b1 : (n1 : Int) < (N3 : Int) := by omega
        have HSS := CSI
        have HT := HSS.out _ _ OD
        clear O Q5 Q6 hn1 TK SS
        -- R34
        rcases R1 with R1 | R1
        · have H1 := HSX.out _ _ OD (some ⟨gp, 0, none⟩) put.length pc put (fun w' h => ⟨_, (h.pick 1).strsR⟩) (by omega) true (by rw [R1]; simp)
          clear R1
          refine (wpIn_wide (n := 3)).1 ?_
          refine wpIn_region_any (by kernel_rfl) ?_
          change wpAnyIn _ _ _ _ _ _ _ _ _ (World.drew _)
          refine AnyS.any (S := fun w' => w'.cell? ⟨g3, o3 + n1, none⟩ = some (.string ⟨s.toArray⟩)) ?_
          refine AnyS.on (i := 0) (.pointer (some ⟨b, 0, none⟩)) rfl (by kernel_rfl) (by kernel_rfl) (by kernel_rfl) (fun _ _ _ h => h) (by kernel_rfl) (fun x hx => by go_simp; done) (fun _ => rfl) HT ?_
          try simp only [Act.put, List.getElem_toArray, List.getElem_cons_succ, List.getElem_cons_zero, List.setIfInBounds_toArray, List.set_cons_succ, List.set_cons_zero]
          refine AnyS.on (i := 1) (.int .i64 (hf : Int)) rfl (by kernel_rfl) (by kernel_rfl) (by kernel_rfl) (fun _ _ _ h => h) (by kernel_rfl) (fun x hx => by go_simp; done) (fun _ => rfl) HT ?_
          try simp only [Act.put, List.getElem_toArray, List.getElem_cons_succ, List.getElem_cons_zero, List.setIfInBounds_toArray, List.set_cons_succ, List.set_cons_zero]
          refine AnyS.on (i := 2) (.int .i64 (A : Int)) rfl (by kernel_rfl) (by kernel_rfl) (by kernel_rfl) (fun _ _ _ h => h) (by kernel_rfl) (fun x hx => by go_simp; done) (fun _ => rfl) HT ?_
          try simp only [Act.put, List.getElem_toArray, List.getElem_cons_succ, List.getElem_cons_zero, List.setIfInBounds_toArray, List.set_cons_succ, List.set_cons_zero]
          refine AnyS.on (i := 3) (.slice (some ⟨gp, 0, none⟩) put.length pc) rfl (by kernel_rfl) (by kernel_rfl) (by kernel_rfl) (fun _ _ _ h => h) (by kernel_rfl) (fun x hx => by go_simp; done) (fun _ => rfl) HT ?_
          try simp only [Act.put, List.getElem_toArray, List.getElem_cons_succ, List.getElem_cons_zero, List.setIfInBounds_toArray, List.set_cons_succ, List.set_cons_zero]
          refine AnyS.call (i := 4) (by kernel_rfl) rfl (by kernel_rfl) (by go_simp; done) (H1) ?_
          clear OD HT
          intro ws OD
          have HT := HSS.out _ _ OD
          refine And.intro HT ?_
          try simp only [Act.put, List.getElem_toArray, List.getElem_cons_succ, List.getElem_cons_zero, List.setIfInBounds_toArray, List.set_cons_succ, List.set_cons_zero]
          refine AnyS.on (i := 5) (.bool true) rfl (by kernel_rfl) (by kernel_rfl) (by kernel_rfl) (fun _ _ _ h => h) (by kernel_rfl) (fun x hx => by go_simp; done) (fun _ => rfl) HT ?_
          try simp only [Act.put, List.getElem_toArray, List.getElem_cons_succ, List.getElem_cons_zero, List.setIfInBounds_toArray, List.set_cons_succ, List.set_cons_zero]
          refine AnyS.off (i := 6) rfl (by kernel_rfl) (by kernel_rfl) (by kernel_rfl) (fun _ _ _ h => h) (by kernel_rfl) (fun _ => rfl) HT ?_
          try simp only [Act.put, List.getElem_toArray, List.getElem_cons_succ, List.getElem_cons_zero, List.setIfInBounds_toArray, List.set_cons_succ, List.set_cons_zero]
          refine AnyS.off (i := 7) rfl (by kernel_rfl) (by kernel_rfl) (by kernel_rfl) (fun _ _ _ h => h) (by kernel_rfl) (fun _ => rfl) HT ?_
          try simp only [Act.put, List.getElem_toArray, List.getElem_cons_succ, List.getElem_cons_zero, List.setIfInBounds_toArray, List.set_cons_succ, List.set_cons_zero]
          refine AnyS.off (i := 8) rfl (by kernel_rfl) (by kernel_rfl) (by kernel_rfl) (fun _ _ _ h => h) (by kernel_rfl) (fun _ => rfl) HT ?_
          try simp only [Act.put, List.getElem_toArray, List.getElem_cons_succ, List.getElem_cons_zero, List.setIfInBounds_toArray, List.set_cons_succ, List.set_cons_zero]
          refine AnyS.off (i := 9) rfl (by kernel_rfl) (by kernel_rfl) (by kernel_rfl) (fun _ _ _ h => h) (by kernel_rfl) (fun _ => rfl) HT ?_
          try simp only [Act.put, List.getElem_toArray, List.getElem_cons_succ, List.getElem_cons_zero, List.setIfInBounds_toArray, List.set_cons_succ, List.set_cons_zero]
          refine AnyS.off (i := 10) rfl (by kernel_rfl) (by kernel_rfl) (by kernel_rfl) (fun _ _ _ h => h) (by kernel_rfl) (fun _ => rfl) HT ?_
          try simp only [Act.put, List.getElem_toArray, List.getElem_cons_succ, List.getElem_cons_zero, List.setIfInBounds_toArray, List.set_cons_succ, List.set_cons_zero]
          refine AnyS.off (i := 12) rfl (by kernel_rfl) (by kernel_rfl) (by kernel_rfl) (fun _ _ _ h => h) (by kernel_rfl) (fun _ => rfl) HT ?_
          try simp only [Act.put, List.getElem_toArray, List.getElem_cons_succ, List.getElem_cons_zero, List.setIfInBounds_toArray, List.set_cons_succ, List.set_cons_zero]
          refine AnyS.off (i := 13) rfl (by kernel_rfl) (by kernel_rfl) (by kernel_rfl) (fun _ _ _ h => h) (by kernel_rfl) (fun _ => rfl) HT ?_
          try simp only [Act.put, List.getElem_toArray, List.getElem_cons_succ, List.getElem_cons_zero, List.setIfInBounds_toArray, List.set_cons_succ, List.set_cons_zero]
          refine AnyS.off (i := 11) rfl (by kernel_rfl) (by kernel_rfl) (by kernel_rfl) (fun _ _ _ h => h) (by kernel_rfl) (fun _ => rfl) HT ?_
          try simp only [Act.put, List.getElem_toArray, List.getElem_cons_succ, List.getElem_cons_zero, List.setIfInBounds_toArray, List.set_cons_succ, List.set_cons_zero]
          refine AnyS.off (i := 14) rfl (by kernel_rfl) (by kernel_rfl) (by kernel_rfl) (fun _ _ _ h => h) (by kernel_rfl) (fun _ => rfl) HT ?_
          try simp only [Act.put, List.getElem_toArray, List.getElem_cons_succ, List.getElem_cons_zero, List.setIfInBounds_toArray, List.set_cons_succ, List.set_cons_zero]
          refine AnyS.off (i := 15) rfl (by kernel_rfl) (by kernel_rfl) (by kernel_rfl) (fun _ _ _ h => h) (by kernel_rfl) (fun _ => rfl) HT ?_
          try simp only [Act.put, List.getElem_toArray, List.getElem_cons_succ, List.getElem_cons_zero, List.setIfInBounds_toArray, List.set_cons_succ, List.set_cons_zero]
          refine AnyS.off (i := 16) rfl (by kernel_rfl) (by kernel_rfl) (by kernel_rfl) (fun _ _ _ h => h) (by kernel_rfl) (fun _ => rfl) HT ?_
          try simp only [Act.put, List.getElem_toArray, List.getElem_cons_succ, List.getElem_cons_zero, List.setIfInBounds_toArray, List.set_cons_succ, List.set_cons_zero]
          refine AnyS.off (i := 17) rfl (by kernel_rfl) (by kernel_rfl) (by kernel_rfl) (fun _ _ _ h => h) (by kernel_rfl) (fun _ => rfl) HT ?_
          try simp only [Act.put, List.getElem_toArray, List.getElem_cons_succ, List.getElem_cons_zero, List.setIfInBounds_toArray, List.set_cons_succ, List.set_cons_zero]
          refine AnyS.off (i := 18) rfl (by kernel_rfl) (by kernel_rfl) (by kernel_rfl) (fun _ _ _ h => h) (by kernel_rfl) (fun _ => rfl) HT ?_
          try simp only [Act.put, List.getElem_toArray, List.getElem_cons_succ, List.getElem_cons_zero, List.setIfInBounds_toArray, List.set_cons_succ, List.set_cons_zero]
          refine AnyS.off (i := 19) rfl (by kernel_rfl) (by kernel_rfl) (by kernel_rfl) (fun _ _ _ h => h) (by kernel_rfl) (fun _ => rfl) HT ?_
          try simp only [Act.put, List.getElem_toArray, List.getElem_cons_succ, List.getElem_cons_zero, List.setIfInBounds_toArray, List.set_cons_succ, List.set_cons_zero]
          refine AnyS.skip (i := 20) (by kernel_rfl) rfl (by kernel_rfl) HT ?_
          try simp only [Act.put, List.getElem_toArray, List.getElem_cons_succ, List.getElem_cons_zero, List.setIfInBounds_toArray, List.set_cons_succ, List.set_cons_zero]
          refine AnyS.on (i := 21) (.bool true) rfl (by kernel_rfl) (by kernel_rfl) (by kernel_rfl) (fun _ _ _ h => h) (by kernel_rfl) (fun x hx => by go_simp; done) (fun _ => rfl) HT ?_
          try simp only [Act.put, List.getElem_toArray, List.getElem_cons_succ, List.getElem_cons_zero, List.setIfInBounds_toArray, List.set_cons_succ, List.set_cons_zero]
          refine AnyS.on (i := 22) (.bool true) rfl (by kernel_rfl) (by kernel_rfl) (by kernel_rfl) (fun _ _ _ h => h) (by kernel_rfl) (fun x hx => by go_simp; done) (fun _ => rfl) HT ?_
          try simp only [Act.put, List.getElem_toArray, List.getElem_cons_succ, List.getElem_cons_zero, List.setIfInBounds_toArray, List.set_cons_succ, List.set_cons_zero]
          refine AnyS.done (by kernel_rfl) ?_ _
          go_wp2
          go_ret
          exact ⟨rfl, OD.below⟩
        · have H1 := HSX.out _ _ OD (some ⟨gp, 0, none⟩) put.length pc put (fun w' h => ⟨_, (h.pick 1).strsR⟩) (by omega) false (by rw [R1]; simp)
          refine (wpIn_wide (n := 3)).1 ?_
          refine wpIn_region_any (by kernel_rfl) ?_
          change wpAnyIn _ _ _ _ _ _ _ _ _ (World.drew _)
          refine AnyS.any (S := fun w' => w'.cell? ⟨g3, o3 + n1, none⟩ = some (.string ⟨s.toArray⟩)) ?_
          refine AnyS.on (i := 0) (.pointer (some ⟨b, 0, none⟩)) rfl (by kernel_rfl) (by kernel_rfl) (by kernel_rfl) (fun _ _ _ h => h) (by kernel_rfl) (fun x hx => by go_simp; done) (fun _ => rfl) HT ?_
          try simp only [Act.put, List.getElem_toArray, List.getElem_cons_succ, List.getElem_cons_zero, List.setIfInBounds_toArray, List.set_cons_succ, List.set_cons_zero]
          refine AnyS.on (i := 1) (.int .i64 (hf : Int)) rfl (by kernel_rfl) (by kernel_rfl) (by kernel_rfl) (fun _ _ _ h => h) (by kernel_rfl) (fun x hx => by go_simp; done) (fun _ => rfl) HT ?_
          try simp only [Act.put, List.getElem_toArray, List.getElem_cons_succ, List.getElem_cons_zero, List.setIfInBounds_toArray, List.set_cons_succ, List.set_cons_zero]
          refine AnyS.on (i := 2) (.int .i64 (A : Int)) rfl (by kernel_rfl) (by kernel_rfl) (by kernel_rfl) (fun _ _ _ h => h) (by kernel_rfl) (fun x hx => by go_simp; done) (fun _ => rfl) HT ?_
          try simp only [Act.put, List.getElem_toArray, List.getElem_cons_succ, List.getElem_cons_zero, List.setIfInBounds_toArray, List.set_cons_succ, List.set_cons_zero]
          refine AnyS.on (i := 3) (.slice (some ⟨gp, 0, none⟩) put.length pc) rfl (by kernel_rfl) (by kernel_rfl) (by kernel_rfl) (fun _ _ _ h => h) (by kernel_rfl) (fun x hx => by go_simp; done) (fun _ => rfl) HT ?_
          try simp only [Act.put, List.getElem_toArray, List.getElem_cons_succ, List.getElem_cons_zero, List.setIfInBounds_toArray, List.set_cons_succ, List.set_cons_zero]
          refine AnyS.call (i := 4) (by kernel_rfl) rfl (by kernel_rfl) (by go_simp; done) (H1) ?_
          clear OD HT
          intro ws OD
          have HT := HSS.out _ _ OD
          refine And.intro HT ?_
          try simp only [Act.put, List.getElem_toArray, List.getElem_cons_succ, List.getElem_cons_zero, List.setIfInBounds_toArray, List.set_cons_succ, List.set_cons_zero]
          refine AnyS.on (i := 5) (.bool false) rfl (by kernel_rfl) (by kernel_rfl) (by kernel_rfl) (fun _ _ _ h => h) (by kernel_rfl) (fun x hx => by go_simp; done) (fun _ => rfl) HT ?_
          try simp only [Act.put, List.getElem_toArray, List.getElem_cons_succ, List.getElem_cons_zero, List.setIfInBounds_toArray, List.set_cons_succ, List.set_cons_zero]
          refine AnyS.on (i := 6) (.pointer (some ⟨b, 0, none⟩)) rfl (by kernel_rfl) (by kernel_rfl) (by kernel_rfl) (fun _ _ _ h => h) (by kernel_rfl) (fun x hx => by go_simp; done) (fun _ => rfl) HT ?_
          try simp only [Act.put, List.getElem_toArray, List.getElem_cons_succ, List.getElem_cons_zero, List.setIfInBounds_toArray, List.set_cons_succ, List.set_cons_zero]
          refine AnyS.on (i := 7) (.int .i64 (hf : Int)) rfl (by kernel_rfl) (by kernel_rfl) (by kernel_rfl) (fun _ _ _ h => h) (by kernel_rfl) (fun x hx => by go_simp; done) (fun _ => rfl) HT ?_
          try simp only [Act.put, List.getElem_toArray, List.getElem_cons_succ, List.getElem_cons_zero, List.setIfInBounds_toArray, List.set_cons_succ, List.set_cons_zero]
          refine AnyS.on (i := 8) (.int .i64 (A : Int)) rfl (by kernel_rfl) (by kernel_rfl) (by kernel_rfl) (fun _ _ _ h => h) (by kernel_rfl) (fun x hx => by go_simp; done) (fun _ => rfl) HT ?_
          try simp only [Act.put, List.getElem_toArray, List.getElem_cons_succ, List.getElem_cons_zero, List.setIfInBounds_toArray, List.set_cons_succ, List.set_cons_zero]
          refine AnyS.on (i := 10) (.slice (some ⟨gp, 0, none⟩) put.length pc) rfl (by kernel_rfl) (by kernel_rfl) (by kernel_rfl) (fun _ _ _ h => h) (by kernel_rfl) (fun x hx => by go_simp; done) (fun _ => rfl) HT ?_
          try simp only [Act.put, List.getElem_toArray, List.getElem_cons_succ, List.getElem_cons_zero, List.setIfInBounds_toArray, List.set_cons_succ, List.set_cons_zero]
          refine AnyS.on (i := 12) (.slice (some ⟨g3, o3, none⟩) N3 cap3) rfl (by kernel_rfl) (by kernel_rfl) (by kernel_rfl) (fun _ _ _ h => h) (by kernel_rfl) (fun x hx => by go_simp; done) (fun _ => rfl) HT ?_
          try simp only [Act.put, List.getElem_toArray, List.getElem_cons_succ, List.getElem_cons_zero, List.setIfInBounds_toArray, List.set_cons_succ, List.set_cons_zero]
          refine AnyS.on (i := 13) (.slice (some ⟨g3, o3, none⟩) N3 cap3) rfl (by kernel_rfl) (by kernel_rfl) (by kernel_rfl) (fun _ _ _ h => h) (by kernel_rfl) (fun x hx => by go_simp; done) (fun _ => rfl) HT ?_
          try simp only [Act.put, List.getElem_toArray, List.getElem_cons_succ, List.getElem_cons_zero, List.setIfInBounds_toArray, List.set_cons_succ, List.set_cons_zero]
          refine AnyS.on (i := 14) (.int .i64 (N3 : Int)) rfl (by kernel_rfl) (by kernel_rfl) (by kernel_rfl) (fun _ _ _ h => h) (by kernel_rfl) (fun x hx => by go_simp; done) (fun _ => rfl) HT ?_
          try simp only [Act.put, List.getElem_toArray, List.getElem_cons_succ, List.getElem_cons_zero, List.setIfInBounds_toArray, List.set_cons_succ, List.set_cons_zero]
          refine AnyS.on (i := 15) (.int .i64 (n1 : Int)) rfl (by kernel_rfl) (by kernel_rfl) (by kernel_rfl) (fun _ _ _ h => h) (by kernel_rfl) (fun x hx => by go_simp; done) (fun _ => rfl) HT ?_
          try simp only [Act.put, List.getElem_toArray, List.getElem_cons_succ, List.getElem_cons_zero, List.setIfInBounds_toArray, List.set_cons_succ, List.set_cons_zero]
          refine AnyS.on (i := 16) (.pointer (some ⟨g3, o3 + n1, none⟩)) rfl (by kernel_rfl) (by kernel_rfl) (by kernel_rfl) (fun _ _ _ h => h) (by kernel_rfl) (fun x hx => by go_simp; done) (fun _ => rfl) HT ?_
          try simp only [Act.put, List.getElem_toArray, List.getElem_cons_succ, List.getElem_cons_zero, List.setIfInBounds_toArray, List.set_cons_succ, List.set_cons_zero]
          refine AnyS.on (i := 17) (.string ⟨s.toArray⟩) rfl (by kernel_rfl) (by kernel_rfl) (by kernel_rfl) (fun _ _ _ h => h) (by kernel_rfl) (fun x hx => by have hx1 : x.cell? _ = _ := hx; go_simp; done) (fun _ => rfl) HT ?_
          try simp only [Act.put, List.getElem_toArray, List.getElem_cons_succ, List.getElem_cons_zero, List.setIfInBounds_toArray, List.set_cons_succ, List.set_cons_zero]
          skip
          refine AnyS.two (i := 9) (j := 18) (by kernel_rfl) ?_ ?_
          · have OE := OD.emptyStrs
            have SP := (OE.pick 2).strsR
            refine AnyS.stepTo (i := 9) (v := .slice (some ⟨ws.heap.size, 0, none⟩) 0 0) (w' := ws.alloc (.cells #[] 9)) rfl (by kernel_rfl) (by go_simp; done) (HSS.out _ _ OE) ?_
            try simp only [Act.put, List.getElem_toArray, List.getElem_cons_succ, List.getElem_cons_zero, List.setIfInBounds_toArray, List.set_cons_succ, List.set_cons_zero]
            refine AnyS.two (i := 11) (j := 18) (by kernel_rfl) ?_ ?_
            · obtain ⟨v2, w2, hr2, OE⟩ := run_append_strsO OE SP (by simp; omega) 23
              rw [List.nil_append] at OE
              refine AnyS.stepTo (i := 11) (v := v2) (w' := w2) rfl (by kernel_rfl) (exec_append rfl (by kernel_rfl) (by kernel_rfl) hr2) (HSS.out _ _ OE) ?_
              try simp only [Act.put, List.getElem_toArray, List.getElem_cons_succ, List.getElem_cons_zero, List.setIfInBounds_toArray, List.set_cons_succ, List.set_cons_zero]
              have OE := OE.newBox #[.string ⟨s.toArray⟩] 9
              refine AnyS.one (i := 18) (by kernel_rfl) ?_
              refine AnyS.stepTo (i := 18) (v := .slice (some ⟨w2.heap.size, 0, none⟩) 1 1) (w' := w2.alloc (.cells #[.string ⟨s.toArray⟩] 9)) rfl (by kernel_rfl) (by go_simp; done) (HSS.out _ _ OE) ?_
              try simp only [Act.put, List.getElem_toArray, List.getElem_cons_succ, List.getElem_cons_zero, List.setIfInBounds_toArray, List.set_cons_succ, List.set_cons_zero]
              have OE := OE.selK 3 [1, 0, 2]
              try simp only [List.map_cons, List.map_nil, List.getD_cons_zero, List.getD_cons_succ, List.eraseIdx_cons_zero, List.eraseIdx_cons_succ, List.getElem_cons_zero, List.getElem_cons_succ, List.take_succ_cons, List.take_zero, List.drop_succ_cons, List.drop_zero, List.cons_append, List.nil_append, List.append_eq] at OE
              have SB := strsR_at [s] (OE.pick 1).obj rfl 1 rfl
              obtain ⟨v3, w3, hr3, OE⟩ := run_append_strsO OE SB (by simp; omega) 23
              obtain ⟨a4, c4, rfl⟩ := OE.shape
              refine AnyS.one (i := 19) (by kernel_rfl) ?_
              refine AnyS.stepTo (i := 19) (v := _) (w' := _) rfl (by kernel_rfl) (exec_append rfl (by kernel_rfl) (by kernel_rfl) hr3) (HSS.out _ _ OE) ?_
              try simp only [Act.put, List.getElem_toArray, List.getElem_cons_succ, List.getElem_cons_zero, List.setIfInBounds_toArray, List.set_cons_succ, List.set_cons_zero]
              have OF := OE.selK 3 [2, 0, 1]
              try simp only [List.map_cons, List.map_nil, List.getD_cons_zero, List.getD_cons_succ, List.eraseIdx_cons_zero, List.eraseIdx_cons_succ, List.getElem_cons_zero, List.getElem_cons_succ, List.take_succ_cons, List.take_zero, List.drop_succ_cons, List.drop_zero, List.cons_append, List.nil_append, List.append_eq] at OF
              have HT := HSS.out _ _ OF
              have H2 := HSX.out _ _ OF a4 (put ++ [s]).length c4 (put ++ [s]) (fun w' h => ⟨_, (h.pick 1).strsR⟩) (by simp; omega) true (by rw [R1]; simp)
              refine AnyS.call (i := 20) (by kernel_rfl) rfl (by kernel_rfl) (by go_simp; done) H2 ?_
              clear OF OE HT
              intro wz OF
              have HT := HSS.out _ _ OF
              refine And.intro HT ?_
              try simp only [Act.put, List.getElem_toArray, List.getElem_cons_succ, List.getElem_cons_zero, List.setIfInBounds_toArray, List.set_cons_succ, List.set_cons_zero]
              refine AnyS.on (i := 21) (.bool true) rfl (by kernel_rfl) (by kernel_rfl) (by kernel_rfl) (fun _ _ _ h => h) (by kernel_rfl) (fun x hx => by go_simp; done) (fun _ => rfl) HT ?_
              try simp only [Act.put, List.getElem_toArray, List.getElem_cons_succ, List.getElem_cons_zero, List.setIfInBounds_toArray, List.set_cons_succ, List.set_cons_zero]
              refine AnyS.on (i := 22) (.bool true) rfl (by kernel_rfl) (by kernel_rfl) (by kernel_rfl) (fun _ _ _ h => h) (by kernel_rfl) (fun x hx => by go_simp; done) (fun _ => rfl) HT ?_
              try simp only [Act.put, List.getElem_toArray, List.getElem_cons_succ, List.getElem_cons_zero, List.setIfInBounds_toArray, List.set_cons_succ, List.set_cons_zero]
              refine AnyS.done (by kernel_rfl) ?_ _
              go_wp2
              go_ret
              exact ⟨rfl, OF.below⟩
            · replace OE := OE.newBox #[.string ⟨s.toArray⟩] 9
              refine AnyS.stepTo (i := 18) (v := .slice (some ⟨(ws.alloc (.cells #[] 9)).heap.size, 0, none⟩) 1 1) (w' := (ws.alloc (.cells #[] 9)).alloc (.cells #[.string ⟨s.toArray⟩] 9)) rfl (by kernel_rfl) (by go_simp; done) (HSS.out _ _ OE) ?_
              try simp only [Act.put, List.getElem_toArray, List.getElem_cons_succ, List.getElem_cons_zero, List.setIfInBounds_toArray, List.set_cons_succ, List.set_cons_zero]
              replace OE := OE.selK 3 [1, 0, 2]
              try simp only [List.map_cons, List.map_nil, List.getD_cons_zero, List.getD_cons_succ, List.eraseIdx_cons_zero, List.eraseIdx_cons_succ, List.getElem_cons_zero, List.getElem_cons_succ, List.take_succ_cons, List.take_zero, List.drop_succ_cons, List.drop_zero, List.cons_append, List.nil_append, List.append_eq] at OE
              replace SP := (OE.pick 3).strsR
              refine AnyS.one (i := 11) (by kernel_rfl) ?_
              obtain ⟨v2, w2, hr2, OE⟩ := run_append_strsO OE SP (by simp; omega) 23
              rw [List.nil_append] at OE
              refine AnyS.stepTo (i := 11) (v := v2) (w' := w2) rfl (by kernel_rfl) (exec_append rfl (by kernel_rfl) (by kernel_rfl) hr2) (HSS.out _ _ OE) ?_
              try simp only [Act.put, List.getElem_toArray, List.getElem_cons_succ, List.getElem_cons_zero, List.setIfInBounds_toArray, List.set_cons_succ, List.set_cons_zero]
              have SB := strsR_at [s] (OE.pick 1).obj rfl 1 rfl
              obtain ⟨v3, w3, hr3, OE⟩ := run_append_strsO OE SB (by simp; omega) 23
              obtain ⟨a4, c4, rfl⟩ := OE.shape
              refine AnyS.one (i := 19) (by kernel_rfl) ?_
              refine AnyS.stepTo (i := 19) (v := _) (w' := _) rfl (by kernel_rfl) (exec_append rfl (by kernel_rfl) (by kernel_rfl) hr3) (HSS.out _ _ OE) ?_
              try simp only [Act.put, List.getElem_toArray, List.getElem_cons_succ, List.getElem_cons_zero, List.setIfInBounds_toArray, List.set_cons_succ, List.set_cons_zero]
              have OF := OE.selK 3 [2, 0, 1]
              try simp only [List.map_cons, List.map_nil, List.getD_cons_zero, List.getD_cons_succ, List.eraseIdx_cons_zero, List.eraseIdx_cons_succ, List.getElem_cons_zero, List.getElem_cons_succ, List.take_succ_cons, List.take_zero, List.drop_succ_cons, List.drop_zero, List.cons_append, List.nil_append, List.append_eq] at OF
              have HT := HSS.out _ _ OF
              have H2 := HSX.out _ _ OF a4 (put ++ [s]).length c4 (put ++ [s]) (fun w' h => ⟨_, (h.pick 1).strsR⟩) (by simp; omega) true (by rw [R1]; simp)
              refine AnyS.call (i := 20) (by kernel_rfl) rfl (by kernel_rfl) (by go_simp; done) H2 ?_
              clear OF OE HT
              intro wz OF
              have HT := HSS.out _ _ OF
              refine And.intro HT ?_
              try simp only [Act.put, List.getElem_toArray, List.getElem_cons_succ, List.getElem_cons_zero, List.setIfInBounds_toArray, List.set_cons_succ, List.set_cons_zero]
              refine AnyS.on (i := 21) (.bool true) rfl (by kernel_rfl) (by kernel_rfl) (by kernel_rfl) (fun _ _ _ h => h) (by kernel_rfl) (fun x hx => by go_simp; done) (fun _ => rfl) HT ?_
              try simp only [Act.put, List.getElem_toArray, List.getElem_cons_succ, List.getElem_cons_zero, List.setIfInBounds_toArray, List.set_cons_succ, List.set_cons_zero]
              refine AnyS.on (i := 22) (.bool true) rfl (by kernel_rfl) (by kernel_rfl) (by kernel_rfl) (fun _ _ _ h => h) (by kernel_rfl) (fun x hx => by go_simp; done) (fun _ => rfl) HT ?_
              try simp only [Act.put, List.getElem_toArray, List.getElem_cons_succ, List.getElem_cons_zero, List.setIfInBounds_toArray, List.set_cons_succ, List.set_cons_zero]
              refine AnyS.done (by kernel_rfl) ?_ _
              go_wp2
              go_ret
              exact ⟨rfl, OF.below⟩
          · have OE := OD.newBox #[.string ⟨s.toArray⟩] 9
            refine AnyS.stepTo (i := 18) (v := .slice (some ⟨ws.heap.size, 0, none⟩) 1 1) (w' := ws.alloc (.cells #[.string ⟨s.toArray⟩] 9)) rfl (by kernel_rfl) (by go_simp; done) (HSS.out _ _ OE) ?_
            try simp only [Act.put, List.getElem_toArray, List.getElem_cons_succ, List.getElem_cons_zero, List.setIfInBounds_toArray, List.set_cons_succ, List.set_cons_zero]
            replace OE := OE.emptyStrs
            have SP := (OE.pick 3).strsR
            refine AnyS.one (i := 9) (by kernel_rfl) ?_
            refine AnyS.stepTo (i := 9) (v := .slice (some ⟨(ws.alloc (.cells #[.string ⟨s.toArray⟩] 9)).heap.size, 0, none⟩) 0 0) (w' := (ws.alloc (.cells #[.string ⟨s.toArray⟩] 9)).alloc (.cells #[] 9)) rfl (by kernel_rfl) (by go_simp; done) (HSS.out _ _ OE) ?_
            try simp only [Act.put, List.getElem_toArray, List.getElem_cons_succ, List.getElem_cons_zero, List.setIfInBounds_toArray, List.set_cons_succ, List.set_cons_zero]
            refine AnyS.one (i := 11) (by kernel_rfl) ?_
            obtain ⟨v2, w2, hr2, OE⟩ := run_append_strsO OE SP (by simp; omega) 23
            rw [List.nil_append] at OE
            refine AnyS.stepTo (i := 11) (v := v2) (w' := w2) rfl (by kernel_rfl) (exec_append rfl (by kernel_rfl) (by kernel_rfl) hr2) (HSS.out _ _ OE) ?_
            try simp only [Act.put, List.getElem_toArray, List.getElem_cons_succ, List.getElem_cons_zero, List.setIfInBounds_toArray, List.set_cons_succ, List.set_cons_zero]
            have SB := strsR_at [s] (OE.pick 1).obj rfl 1 rfl
            obtain ⟨v3, w3, hr3, OE⟩ := run_append_strsO OE SB (by simp; omega) 23
            obtain ⟨a4, c4, rfl⟩ := OE.shape
            refine AnyS.one (i := 19) (by kernel_rfl) ?_
            refine AnyS.stepTo (i := 19) (v := _) (w' := _) rfl (by kernel_rfl) (exec_append rfl (by kernel_rfl) (by kernel_rfl) hr3) (HSS.out _ _ OE) ?_
            try simp only [Act.put, List.getElem_toArray, List.getElem_cons_succ, List.getElem_cons_zero, List.setIfInBounds_toArray, List.set_cons_succ, List.set_cons_zero]
            have OF := OE.selK 3 [2, 0, 1]
            try simp only [List.map_cons, List.map_nil, List.getD_cons_zero, List.getD_cons_succ, List.eraseIdx_cons_zero, List.eraseIdx_cons_succ, List.getElem_cons_zero, List.getElem_cons_succ, List.take_succ_cons, List.take_zero, List.drop_succ_cons, List.drop_zero, List.cons_append, List.nil_append, List.append_eq] at OF
            have HT := HSS.out _ _ OF
            have H2 := HSX.out _ _ OF a4 (put ++ [s]).length c4 (put ++ [s]) (fun w' h => ⟨_, (h.pick 1).strsR⟩) (by simp; omega) true (by rw [R1]; simp)
            refine AnyS.call (i := 20) (by kernel_rfl) rfl (by kernel_rfl) (by go_simp; done) H2 ?_
            clear OF OE HT
            intro wz OF
            have HT := HSS.out _ _ OF
            refine And.intro HT ?_
            try simp only [Act.put, List.getElem_toArray, List.getElem_cons_succ, List.getElem_cons_zero, List.setIfInBounds_toArray, List.set_cons_succ, List.set_cons_zero]
            refine AnyS.on (i := 21) (.bool true) rfl (by kernel_rfl) (by kernel_rfl) (by kernel_rfl) (fun _ _ _ h => h) (by kernel_rfl) (fun x hx => by go_simp; done) (fun _ => rfl) HT ?_
            try simp only [Act.put, List.getElem_toArray, List.getElem_cons_succ, List.getElem_cons_zero, List.setIfInBounds_toArray, List.set_cons_succ, List.set_cons_zero]
            refine AnyS.on (i := 22) (.bool true) rfl (by kernel_rfl) (by kernel_rfl) (by kernel_rfl) (fun _ _ _ h => h) (by kernel_rfl) (fun x hx => by go_simp; done) (fun _ => rfl) HT ?_
            try simp only [Act.put, List.getElem_toArray, List.getElem_cons_succ, List.getElem_cons_zero, List.setIfInBounds_toArray, List.set_cons_succ, List.set_cons_zero]
            refine AnyS.done (by kernel_rfl) ?_ _
            go_wp2
            go_ret
            exact ⟨rfl, OF.below⟩
        -- END34
end Go.Proofs.YtnlppcjfpmnahaaGreatDoor
