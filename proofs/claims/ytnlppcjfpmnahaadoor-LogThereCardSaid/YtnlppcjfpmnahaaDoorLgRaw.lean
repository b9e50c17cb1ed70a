/- mailroomlaw12: raw. -/
import Derived.Test.YtnlppcjfpmnahaaDoorLgX
import Derived.Test.YtnlppcjfpmnahaaDoorLgZ
import Derived.StillTailTactics
namespace Go.Proofs.YtnlppcjfpmnahaaDoor
set_option linter.all false
open Go.RowKit

theorem wf64 {z : Int} (h : (Lit.int .i64 z).wf = true) : I64 z := by
  have := bounds_i64 h
  unfold I64
  omega
theorem age_le (s : List UInt8) : ageS s ≤ 4294967295 := by
  unfold ageS
  split
  · have h1 := numL_lt (s.take 4)
    have h2 := numL_lt ((s.drop 120).take 4)
    have h3 : (s.take 4).length ≤ 4 := by rw [List.length_take]; omega
    have h4 : ((s.drop 120).take 4).length ≤ 4 := by rw [List.length_take]; omega
    have h5 := Nat.pow_le_pow_right (n := 2) (by omega) (show 8 * (s.take 4).length ≤ 32 by omega)
    have h6 := Nat.pow_le_pow_right (n := 2) (by omega) (show 8 * ((s.drop 120).take 4).length ≤ 32 by omega)
    omega
  · omega
theorem top_le {m : Dk} (h : m.off = false) : 0 ≤ topL m ∧ topL m ≤ 4294967295 := by
  rw [topL_on h]
  have := maxAge_le (secsL m 0 m.n) 0 4294967295 (by omega) (fun s _ => age_le s)
  unfold maxAge
  omega
theorem set_at {xs : List Value} {k : Nat} {v : Value} (h : xs[k]? = some v) : xs.set k v = xs := by
  obtain ⟨hl, e⟩ := List.getElem?_eq_some_iff.1 h
  rw [← e, List.set_getElem_self]
theorem mod2 (n : Int) : ∃ N : Nat, N ≤ 1 ∧ wrap64 ((IntKind.u64.wrap n).tmod 2) = (N : Int) := by
  have h0 : 0 ≤ IntKind.u64.wrap n := by rw [IntKind.wrap_u64]; omega
  have h1 : (IntKind.u64.wrap n).tmod 2 = IntKind.u64.wrap n % 2 := Int.tmod_eq_emod_of_nonneg h0
  rw [h1]
  refine ⟨(IntKind.u64.wrap n % 2).toNat, by omega, ?_⟩
  rw [IntWalk.wrap64_in _ (by omega)]
  omega
set_option maxRecDepth 100000 in
set_option maxHeartbeats 4000000 in
theorem raw_own {w0 w : World} {L : List Piece} {p : Value} {m : Dk} (O : Own w0 w (dk p m :: L)) (hC : m.Calm) (hF : m.Fit 0) (hn : m.n ≤ 41) {a : Option Addr} {N cap : Nat} {l : List St} {G : List Nat} (hv : StepsR w0 (.slice a N cap) l G) (hs : sumSt l < 3000) (hwf : ∀ s ∈ l, s.Wf) :
    Calls Tryd.prog 8 #[p, .slice a N cap] w fun e w' => e = .returned (.tuple #[]) ∧ ∃ m', m'.Calm ∧ m'.Fit 2000 ∧ m'.n = m.n ∧ Own w0 w' (dk p m' :: L) := by
  obtain ⟨b, bn, bw, hp, -⟩ := O.dkE
  subst hp
  have hN := hv.len
  have hl100 := sumSt_len l
  have hN100 : N ≤ 100 := by omega
  have HV := Lib.hid hv
  have HW := Lib.hid hwf
  have HN := Lib.hid hN
  have HS := Lib.hid hs
  have HC := Lib.hid hC
  have HF := Lib.hid hF
  clear hv hwf hN hs hC hF hl100
  go_enter Tryd.func8, Tryd.ntmps8
  obtain ⟨i0, HI⟩ : ∃ i, Hid (Tryd.prog.info? 37 = some i ∧ i.zero = some (.pointer none) ∧ i.size = 1 ∧ i.bytes ≤ 1000) := ⟨_, rfl, rfl, rfl, by decide⟩
  go_wp2_with (at_make; refine wpList_make_rowO (e := 37) (size := 1) rfl _ rfl i0 (.pointer none) Tryd.underlying54 HI.out.1 HI.out.2.1 HI.out.2.2.1 HI.out.2.2.2 2 rfl (by omega) O ?_)
  intro lg w1 O1
  have e2 : (madeCells #[Value.pointer none] 2).toList = [Value.pointer none, Value.pointer none] := by kernel_rfl
  replace O1 : Own w0 w1 (rowP lg [Value.pointer none, Value.pointer none] :: dk (.pointer (some ⟨b, 0, none⟩)) m :: L) := by
    rw [e2] at O1; exact O1
  clear O HI e2
  have O2 : LogsAt w0 w1 L (.pointer (some ⟨b, 0, none⟩)) m lg := ⟨none, none, goodL_none _, goodL_none _, by
    have A := O1.factI (p := True) trivial
    have B := A.factI (p := True) trivial
    exact B.selK 4 [2, 0, 1, 3]⟩
  clear O1
  go_wp2_with fail
  go_loopw [5] (fun iv wx => ∃ (k : Nat) (m' : Dk), iv = .int .i64 k ∧ k ≤ N ∧ Hid (m'.Calm ∧ m'.Fit (20 * k) ∧ m'.n = m.n) ∧ LogsAt w0 wx L (.pointer (some ⟨b, 0, none⟩)) m' lg) (fun iv _ => N - (intOf iv).toNat)
  case atStart => exact ⟨0, m, rfl, by omega, ⟨HC.out, HF.out, rfl⟩, O2⟩
  case round =>
    clear O2 HC HF
    obtain ⟨k, m', rfl, hk, HM, O⟩ := hrel
    by_cases hlt : k < N
    rotate_left
    · have hb1 : ¬ (k : Int) < (N : Int) := by omega
      go_wp2
      go_end0
      obtain ⟨x0, x1, -, -, O⟩ := O
      exact ⟨rfl, m', HM.out.1, HM.out.2.1.mono (by omega), HM.out.2.2, O.drop.drop.drop⟩
    have hb1 : (k : Int) < (N : Int) := by omega
    have hx : k < l.length := by rw [← HN.out]; exact hlt
    obtain ⟨hf, hh, hmod⟩ := mod2 l[k].half
    obtain ⟨x, y, xs, xl, xk, gx, OW, BK⟩ := O.at hf hh
    clear O
    obtain ⟨g, off, e1, -⟩ := HV.out.at hx
    subst e1
    have KC := Lib.hid (fun w' (LL : List Piece) (h : Own w0 w' LL) => by
      obtain ⟨g', off', e1, hc⟩ := (HV.out.keep h.chg (by simp)).at hx
      simp only [Option.some.injEq, Addr.mk.injEq, and_true] at e1
      obtain ⟨rfl, rfl⟩ := e1
      exact hc)
    have sw : Hid l[k].Wf := HW.out _ (List.getElem_mem hx)
    have sl : Hid (l[k].s.length < 3000) := by
      have h1 := HS.out
      have h2 := sumSt_mem (List.getElem_mem hx)
      unfold stN at h2
      unfold Hid
      omega
    generalize l[k] = s at KC sw sl hmod
    clear hx
    obtain ⟨hm1, hm2, hm3⟩ := HM.out
    have GX := Lib.hid gx
    have BKH := Lib.hid BK
    have XK := Lib.hid xk
    have XL := Lib.hid xl
    clear gx BK HM xk xl
    have HM1 := Lib.hid hm1
    have HM2 := Lib.hid hm2
    have HM3 := Lib.hid hm3
    clear hm1 hm2
    have TX := Lib.hid (fun w' (LL : List Piece) (h : Own w0 w' LL) => text12_own h s (by have := sl.out; omega) sw.out.many)
    have TL : Hid ((textL s).length ≤ 4500) := by have := textL_len s; have := sl.out; unfold Hid; omega
    generalize textL s = tx at TX TL
    have hc := KC.out _ _ OW
    have c0 := hc.c0
    have c1 := hc.c1
    clear hc
    have w8 := sw.out.what
    have NX : Hid (∀ w' m2, m2.Calm → m2.Fit (20 * k + 20) → m2.n = m'.n → LogsAt w0 w' L (.pointer (some ⟨b, 0, none⟩)) m2 lg → Hid (m2.Calm ∧ m2.Fit (20 * (k + 1)) ∧ m2.n = m.n) ∧ LogsAt w0 w' L (.pointer (some ⟨b, 0, none⟩)) m2 lg) := fun w' m2 a1 a2 a3 a4 => ⟨⟨a1, a2, a3.trans hm3⟩, a4⟩
    have CK : Hid (∀ w' (LL : List Piece), Own w0 w' LL → Hid (w'.cell? ⟨g, off + k * 6, none⟩ = some (.int .u8 s.what) ∧ w'.cell? ⟨g, off + k * 6 + 1, none⟩ = some (.int .i64 s.half) ∧ w'.cell? ⟨g, off + k * 6 + 2, none⟩ = some (.int .i64 s.age) ∧ w'.cell? ⟨g, off + k * 6 + 3, none⟩ = some (.string ⟨s.s.toArray⟩) ∧ w'.cell? ⟨g, off + k * 6 + 4, none⟩ = some (.int .i64 s.many) ∧ w'.cell? ⟨g, off + k * 6 + 5, none⟩ = some (.slice s.ka s.keep.length s.kc))) := fun w' LL h => ⟨(KC.out _ _ h).c0, (KC.out _ _ h).c1, (KC.out _ _ h).c2, (KC.out _ _ h).c3, (KC.out _ _ h).c4, (KC.out _ _ h).c5⟩
    have KEEP : Hid (∀ w' m2, m2.n = m'.n → Own w0 w' (dk (.pointer (some ⟨b, 0, none⟩)) m2 :: lgOpt x (.pointer (some ⟨b, 0, none⟩)) :: rowP lg xs :: lgOpt y (.pointer (some ⟨b, 0, none⟩)) :: L) → LogsAt w0 w' L (.pointer (some ⟨b, 0, none⟩)) m2 lg) := fun w' m2 e h => by
      have := BKH.out w' m2 e x GX.out
      rw [set_at XK.out] at this
      exact this h
    have CX : Hid (∀ w' (LL : List Piece), Own w0 w' (rowP lg xs :: LL) → Hid (w'.cell? ⟨lg, hf, none⟩ = some (lgPtr x) ∧ w'.frozen? ⟨lg, hf, none⟩ = false)) := fun w' LL h => by
      have hl : hf < xs.length := by rw [XL.out]; omega
      obtain ⟨-, g2, e, c, f⟩ := Own.rowvAt h hf hl
      simp only [Option.some.injEq, Addr.mk.injEq, and_true] at e
      obtain rfl := e
      have e2 := XK.out
      rw [List.getElem?_eq_getElem hl] at e2
      rw [Option.some.inj e2] at c
      exact ⟨c, f⟩
    have i2 : (hf : Int) < 2 := by omega
    by_cases h0 : s.what = 0
    · rw [h0] at c0
      go_upto_region 7 with fail
      have TP := Lib.hid (fun w' (LL : List Piece) (h : Own w0 w' (dk (.pointer (some ⟨b, 0, none⟩)) m' :: LL)) => top12_own h (by omega))
      have hT : 0 ≤ topL m' ∧ topL m' ≤ 4294967295 := top_le HM1.out.1
      have BG := Lib.hid (fun w' (LL : List Piece) (h : Own w0 w' (dk (.pointer (some ⟨b, 0, none⟩)) m' :: LL)) => begin_own h HM2.out (by omega) (hf : Int) (topL m' + 1) tx (by have := TL.out; omega))
      have BK2 := Lib.hid (begin_keeps HM1.out HM2.out (by omega) (hf : Int) (topL m' + 1) tx)
      generalize topL m' = T at TP hT BG BK2
      have s1 : IntKind.i64.wrap (T + 1) = T + 1 := IntWalk.i64_in _ (by omega)
      generalize hR : beginV m' (hf : Int) (T + 1) tx = R at BG BK2
      obtain ⟨lo, mm, er⟩ := R
      have ER := Lib.hid (begin_er hR)
      have OD := OW.drew
      have k0 := CK.out _ _ OW
      have k1 := CK.out _ _ OD
      clear OW c0 c1 hR hT w8 h0
      cases lo
      · have hne : ¬ er = 0 := ER.out.2 rfl
        unfold BeginPost at BG
        simp only at BG
        go_region_held3 (fun w' => w'.cell? ⟨g, off + k * 6, none⟩ = some (.int .u8 s.what) ∧ w'.cell? ⟨g, off + k * 6 + 1, none⟩ = some (.int .i64 s.half) ∧ w'.cell? ⟨g, off + k * 6 + 2, none⟩ = some (.int .i64 s.age) ∧ w'.cell? ⟨g, off + k * 6 + 3, none⟩ = some (.string ⟨s.s.toArray⟩) ∧ w'.cell? ⟨g, off + k * 6 + 4, none⟩ = some (.int .i64 s.many) ∧ w'.cell? ⟨g, off + k * 6 + 5, none⟩ = some (.slice s.ka s.keep.length s.kc))
          (first | with_reducible exact k0.out | with_reducible exact k1.out)
          (first
            | (go_at_call 9; (with_reducible refine (TP.out _ _ OD).mono ?_); rintro e1 ws ⟨rfl, OD⟩; have k1 := CK.out _ _ OD)
            | (go_at_call 20; (with_reducible refine (TX.out _ _ OD).mono ?_); rintro e2 ws ⟨rfl, OD⟩; have k1 := CK.out _ _ OD)
            | (go_at_call 12; (with_reducible refine (BG.out _ _ OD).mono ?_); rintro e3 ws ⟨rfl, OD⟩; have k1 := CK.out _ _ OD))
        have FIN := NX.out ws mm BK2.out.1 BK2.out.2.1 BK2.out.2.2.1 (KEEP.out _ _ BK2.out.2.2.1 OD)
        clear OD k0 k1 BK2 ER BG TP
        go_wp2
        go_roundw
        case rel => exact ⟨k + 1, mm, by go_num, by omega, FIN.1, FIN.2⟩
        case measure => simp [intOf]; omega
      · rename_i lr
        obtain rfl : er = 0 := ER.out.1 lr rfl
        unfold BeginPost at BG
        simp only at BG
        go_region_held3 (fun w' => w'.cell? ⟨g, off + k * 6, none⟩ = some (.int .u8 s.what) ∧ w'.cell? ⟨g, off + k * 6 + 1, none⟩ = some (.int .i64 s.half) ∧ w'.cell? ⟨g, off + k * 6 + 2, none⟩ = some (.int .i64 s.age) ∧ w'.cell? ⟨g, off + k * 6 + 3, none⟩ = some (.string ⟨s.s.toArray⟩) ∧ w'.cell? ⟨g, off + k * 6 + 4, none⟩ = some (.int .i64 s.many) ∧ w'.cell? ⟨g, off + k * 6 + 5, none⟩ = some (.slice s.ka s.keep.length s.kc))
          (first | with_reducible exact k0.out | with_reducible exact k1.out)
          (first
            | (go_at_call 9; (with_reducible refine (TP.out _ _ OD).mono ?_); rintro e1 ws ⟨rfl, OD⟩; have k1 := CK.out _ _ OD)
            | (go_at_call 20; (with_reducible refine (TX.out _ _ OD).mono ?_); rintro e2 ws ⟨rfl, OD⟩; have k1 := CK.out _ _ OD)
            | (go_at_call 12; (with_reducible refine (BG.out _ _ OD).mono ?_); rintro e3 ws ⟨q, rfl, OD⟩; have k1 := CK.out _ _ OD))
        clear k0 k1 BG TP ER
        have OE := OD.selK 5 [3, 1, 0, 2, 4]
        try simp only [List.map_cons, List.map_nil, List.getD_cons_zero, List.getD_cons_succ, List.eraseIdx_cons_zero, List.eraseIdx_cons_succ, List.getElem_cons_zero, List.getElem_cons_succ, List.take_succ_cons, List.take_zero, List.drop_succ_cons, List.drop_zero, List.cons_append, List.nil_append, List.append_eq] at OE
        obtain ⟨cx, fx⟩ := (CX.out _ _ OE).out
        have OF : ∀ w', w' = ws.setCell ⟨lg, hf, none⟩ (.pointer (some ⟨q, 0, none⟩)) → LogsAt w0 w' L (.pointer (some ⟨b, 0, none⟩)) mm lg := fun w' e => by
          subst e
          have h2 : Own w0 (ws.setCell ⟨lg, hf, none⟩ (lgPtr (some (q, lr)))) (rowP lg (xs.set hf (lgPtr (some (q, lr)))) :: _) := Own.rowvStore OE hf (lgPtr (some (q, lr)))
          have h3 : Own w0 (ws.setCell ⟨lg, hf, none⟩ (lgPtr (some (q, lr)))) (dk (.pointer (some ⟨b, 0, none⟩)) mm :: lgOpt (some (q, lr)) (.pointer (some ⟨b, 0, none⟩)) :: rowP lg (xs.set hf (lgPtr (some (q, lr)))) :: lgOpt y (.pointer (some ⟨b, 0, none⟩)) :: L) := h2.selK 5 [1, 2, 0, 4]
          exact BKH.out _ mm BK2.out.2.2.1 (some (q, lr)) (BK2.out.2.2.2 q) h3
        have FIN := Lib.hid (fun w' e => NX.out w' mm BK2.out.1 BK2.out.2.1 BK2.out.2.2.1 (OF w' e))
        clear OD OE OF BK2
        go_wp2
        go_roundw
        case rel => exact ⟨k + 1, mm, by go_num, by omega, (FIN.out _ rfl).1, (FIN.out _ rfl).2⟩
        case measure => simp [intOf]; omega
    have f0 : (s.what == 0) = false := by simp [h0]
    clear h0
    by_cases h1 : s.what = 1
    · rw [h1] at c0 f0
      go_upto_region 11 with fail
      have OD := OW.drew
      have k0 := CK.out _ _ OW
      have k1 := CK.out _ _ OD
      have k2 := CX.out _ _ (OW.pick 2)
      have k3 := CX.out _ _ (OD.pick 2)
      clear OW c0 c1 w8 h1 f0
      cases x
      · have AN := Lib.hid (fun w' => add_nil tx w')
        have CX2 : Hid (∀ w' (LL : List Piece), Own w0 w' (rowP lg xs :: LL) → Hid (w'.cell? ⟨lg, hf, none⟩ = some (.pointer none))) := fun w' LL h => (CX.out _ _ h).out.1
        clear k2 k3
        have k2 := CX2.out _ _ (OD.pick 2)
        rw [hmod]
        go_region_held3 (fun w' => w'.cell? ⟨lg, hf, none⟩ = some (.pointer none) ∧ w'.cell? ⟨g, off + k * 6, none⟩ = some (.int .u8 s.what) ∧ w'.cell? ⟨g, off + k * 6 + 1, none⟩ = some (.int .i64 s.half) ∧ w'.cell? ⟨g, off + k * 6 + 2, none⟩ = some (.int .i64 s.age) ∧ w'.cell? ⟨g, off + k * 6 + 3, none⟩ = some (.string ⟨s.s.toArray⟩) ∧ w'.cell? ⟨g, off + k * 6 + 4, none⟩ = some (.int .i64 s.many) ∧ w'.cell? ⟨g, off + k * 6 + 5, none⟩ = some (.slice s.ka s.keep.length s.kc))
          (first | with_reducible exact ⟨k2.out, k1.out⟩ | with_reducible exact ⟨k2.out, k0.out⟩)
          (first
            | (go_at_call 20; (with_reducible refine (TX.out _ _ OD).mono ?_); rintro e2 ws ⟨rfl, OD⟩; have k1 := CK.out _ _ OD; have k2 := CX2.out _ _ (OD.pick 2))
            | (go_at_call 16; (with_reducible refine (AN.out _).mono ?_); rintro e3 ws ⟨rfl, rfl⟩))
        have FIN := NX.out ws m' HM1.out (HM2.out.mono (by omega)) rfl (KEEP.out _ _ rfl OD)
        clear OD k0 k1 k2
        go_wp2
        go_roundw
        case rel => exact ⟨k + 1, m', by go_num, by omega, FIN.1, FIN.2⟩
        case measure => simp [intOf]; omega
      · rename_i ql
        obtain ⟨q, lr⟩ := ql
        have CX2 : Hid (∀ w' (LL : List Piece), Own w0 w' (rowP lg xs :: LL) → Hid (w'.cell? ⟨lg, hf, none⟩ = some (.pointer (some ⟨q, 0, none⟩)))) := fun w' LL h => (CX.out _ _ h).out.1
        clear k2 k3
        have k2 := CX2.out _ _ (OD.pick 2)
        rw [hmod]
        have lon := goodL_on GX.out
        have lmn : lr.many ≤ 20 := (GX.out q lr rfl).2.2.2
        have AC := Lib.hid (fun w' (LL : List Piece) (h : Own w0 w' (lgb q lr (.pointer (some ⟨b, 0, none⟩)) :: dk (.pointer (some ⟨b, 0, none⟩)) m' :: LL)) => add_own h lon HM2.out (by omega) tx (by have := TL.out; omega))
        have A1 := Lib.hid (add_calm HM1.out lr tx)
        have A2 := Lib.hid (add_fits (l := lr) HM2.out tx)
        have A3 := Lib.hid (add_n m' lr tx)
        have A4 := goodL_of (q := q) (lon.add tx) (by rw [add_many]; exact lmn)
        rw [add_n] at A4
        have A4 := Lib.hid A4
        unfold AddPost at AC
        generalize lr.add m' tx = R at AC A1 A2 A3 A4
        obtain ⟨l2, m2, er⟩ := R
        simp only at AC A1 A2 A3 A4
        have FIN := Lib.hid (fun w' (h : Own w0 w' (lgb q l2 (.pointer (some ⟨b, 0, none⟩)) :: dk (.pointer (some ⟨b, 0, none⟩)) m2 :: rowP lg xs :: lgOpt y (.pointer (some ⟨b, 0, none⟩)) :: L)) => by
          have h2 := BKH.out w' m2 A3.out (some (q, l2)) A4.out
          rw [show lgPtr (some (q, l2)) = lgPtr (some (q, lr)) from rfl, set_at XK.out] at h2
          exact NX.out w' m2 A1.out (A2.out.mono (by omega)) A3.out (h2 (h.selK 4 [1, 0, 2, 3])))
        clear lon A1 A2 A3 A4 BKH KEEP
        go_region_held3 (fun w' => w'.cell? ⟨lg, hf, none⟩ = some (.pointer (some ⟨q, 0, none⟩)) ∧ w'.cell? ⟨g, off + k * 6, none⟩ = some (.int .u8 s.what) ∧ w'.cell? ⟨g, off + k * 6 + 1, none⟩ = some (.int .i64 s.half) ∧ w'.cell? ⟨g, off + k * 6 + 2, none⟩ = some (.int .i64 s.age) ∧ w'.cell? ⟨g, off + k * 6 + 3, none⟩ = some (.string ⟨s.s.toArray⟩) ∧ w'.cell? ⟨g, off + k * 6 + 4, none⟩ = some (.int .i64 s.many) ∧ w'.cell? ⟨g, off + k * 6 + 5, none⟩ = some (.slice s.ka s.keep.length s.kc))
          (first | with_reducible exact ⟨k2.out, k1.out⟩)
          (first
            | (go_at_call 20; (with_reducible refine (TX.out _ _ OD).mono ?_); rintro e2 ws ⟨rfl, OD⟩; have k1 := CK.out _ _ OD; have k2 := CX2.out _ _ (OD.pick 2); have OX := OD.pick 1)
            | (go_at_call 16; (with_reducible refine (AC.out _ _ OX).mono ?_); rintro e3 ws ⟨rfl, OD⟩; have k1 := CK.out _ _ OD; have k2 := CX2.out _ _ (OD.pick 2)))
        have FIN := FIN.out _ OD
        clear OD k0 k1 k2
        go_wp2
        go_roundw
        case rel => exact ⟨k + 1, m2, by go_num, by omega, FIN.1, FIN.2⟩
        case measure => simp [intOf]; omega
    have f1 : (s.what == 1) = false := by simp [h1]
    clear h1
    by_cases h2 : s.what = 2
    · rw [h2] at c0 f0 f1
      have SY := Lib.hid (fun w' (LL : List Piece) (h : Own w0 w' (dk (.pointer (some ⟨b, 0, none⟩)) m' :: LL)) => sync_fit h HM2.out (by omega) (m' := m'.sync.1) (er := m'.sync.2) rfl)
      have A1 := Lib.hid (sync_calm HM1.out)
      have A2 := Lib.hid (HM2.out.sync)
      have A3 := Lib.hid (sync_n m')
      generalize m'.sync = R at SY A1 A2 A3
      obtain ⟨m2, er⟩ := R
      simp only at SY A1 A2 A3
      clear w8 h2
      go_wp2_with fail
      refine (SY.out _ _ OW).mono ?_
      clear SY OW
      rintro _ ws ⟨rfl, O⟩
      have FIN := NX.out ws m2 A1.out (A2.out.mono (by omega)) A3.out (KEEP.out _ _ A3.out O)
      clear A1 A2 A3 O
      go_wp2
      go_roundw
      case rel => exact ⟨k + 1, m2, by go_num, by omega, FIN.1, FIN.2⟩
      case measure => simp [intOf]; omega
    have f2 : (s.what == 2) = false := by simp [h2]
    clear h2
    by_cases h3 : s.what = 3
    · rw [h3] at c0 f0 f1 f2
      go_upto_region 15 with fail
      clear c0 c1 f0 f1 f2 h3 w8
      obtain ⟨d0, d1, d2, d3, d4, d5⟩ := (CK.out _ _ OW).out
      go_wp2_with fail
      refine (TX.out _ _ OW).mono ?_
      clear TX OW d0 d1 d2 d3 d4 d5
      rintro _ ws ⟨rfl, O⟩
      obtain ⟨g2, cap1, W1, hconv, g3, cap3, W2, happ, hcap, OB⟩ := bytes_zeros O tx (by have := TL.out; omega) 128 (by omega) (by omega) 57
      have CA := (CK.out _ _ OB).out.2.2.1
      have CB := (CK.out _ _ OB.drew).out.2.2.1
      have FB := first_bytes OB.drew 128 (by simp) cap3
      have BL : ((tx ++ List.replicate 128 0).take 128).length = 128 := by rw [List.length_take, List.length_append, List.length_replicate]; omega
      generalize (tx ++ List.replicate 128 0).take 128 = s128 at FB BL
      have c128 : (128 : Int) ≤ (cap3 : Int) := by omega
      have OC := OB.drew.drop
      clear OB O hcap
      go_wp2_with (at_builtin; refine Lib.wpList_append_run _ rfl _ _ _ _ rfl _ _ rfl rfl _ _ happ ?_)
      have WR := Lib.hid (write_fit OC HM2.out (by omega) s.age (wf64 sw.out.age) s128 (by omega) (m' := (m'.write s.age s128).1) (er := (m'.write s.age s128).2) rfl)
      have A1 := Lib.hid (write_calm1 HM1.out s.age s128)
      have A2 := Lib.hid (HM2.out.write s.age s128)
      have A3 := Lib.hid (write_n m' s.age s128)
      generalize m'.write s.age s128 = R at WR A1 A2 A3
      obtain ⟨m2, er⟩ := R
      simp only at WR A1 A2 A3
      have KA := Lib.hid CA
      have KB := Lib.hid CB
      clear CA CB OC happ hconv
      replace KA := KA.out
      replace KB := KB.out
      go_still_tail 9, (by kernel_rfl)
      change wpList _ _ _ _ _ W2.drew
      go_wp2_with fail
      refine (WR.out).mono ?_
      clear WR
      rintro _ wz ⟨rfl, OD⟩
      have FIN := NX.out _ m2 A1.out (A2.out.mono (by omega)) A3.out (KEEP.out _ _ A3.out OD)
      clear OD A1 A2 A3 KA KB FB
      go_wp2
      go_roundw
      case rel => exact ⟨k + 1, m2, by go_num, by omega, FIN.1, FIN.2⟩
      case measure => simp [intOf]; omega
    have f3 : (s.what == 3) = false := by simp [h3]
    clear h3
    have FIN := NX.out wr m' HM1.out (HM2.out.mono (by omega)) rfl (KEEP.out _ _ rfl OW)
    clear OW w8
    go_wp2
    go_roundw
    case rel => exact ⟨k + 1, m', by go_num, by omega, FIN.1, FIN.2⟩
    case measure => simp [intOf]; omega
end Go.Proofs.YtnlppcjfpmnahaaDoor
