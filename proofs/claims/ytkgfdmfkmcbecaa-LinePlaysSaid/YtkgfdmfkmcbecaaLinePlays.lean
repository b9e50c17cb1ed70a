/- LinePlays: the walk. -/
import Derived.Test.YtkgfdmfkmcbecaaLineJ
import Derived.Test.YtkgfdmfkmcbecaaSl
namespace Go.Proofs.Ytkgfdmfkmcbecaa
set_option linter.all false
open Go.RowKit Go.Shelf

theorem FrOk.len {f : Fr} (h : FrOk f) (hm : f.most ≤ 512) : f.left.length ≤ 512 := by
  cases hd : f.dead
  · have := (h.2.1 hd).2; omega
  · rw [h.2.2 hd]; simp
theorem rfeed_is {w0 w : World} {L : List Piece} {b : Nat} {f f' : Fr} {s : List UInt8} {ls : List (List UInt8)} {er : Int} (O : Own w0 w (box b (frX f) 47 :: L)) (hok : FrOk f) (hr : feedL f s = (ls, er, f')) (hs : s.length ≤ 10000000) (hm : f.most ≤ 512) :
    Calls Try.prog 22 #[.pointer (some ⟨b, 0, none⟩), .string ⟨s.toArray⟩] w fun e w' => ∃ v, e = .returned (.tuple #[v, .int .i64 er]) ∧ Own w0 w' (strs v ls :: box b (frX f') 47 :: L) := by
  have h := rfeed_own hok s hs (by have := hok.len hm; omega) (by omega) O
  rw [hr] at h
  exact h
theorem left_quiet {w0 w : World} {L : List Piece} {p : Value} {f : Fr} (O : Own w0 w (fram p f :: L)) : ∀ n, Calls Try.prog 14 #[p] (w.drewN n) fun e w' => e = .returned (.string ⟨f.left.toArray⟩) ∧ w' = w.drewN n :=
  fun n => (lleft_own (O.drewN n)).mono fun e w' h => ⟨h.1, h.2.symm⟩
theorem dead_quiet {w0 w : World} {L : List Piece} {p : Value} {f : Fr} (O : Own w0 w (fram p f :: L)) : ∀ n, Calls Try.prog 15 #[p] (w.drewN n) fun e w' => e = .returned (.bool f.dead) ∧ w' = w.drewN n :=
  fun n => (ldead_own (O.drewN n)).mono fun e w' h => ⟨h.1, h.2.symm⟩
theorem same_quiet {w : World} {va vb : Value} {ls : List (List UInt8)} {Ga Gb : List Nat} (ha : StrsR w va ls Ga) (hb : StrsR w vb ls Gb) (hl : ls.length ≤ 1000000000) : ∀ n, Calls Try.prog 13 #[va, vb] (w.drewN n) fun e w' => e = .returned (.bool true) ∧ ∃ m, w' = (w.drewN n).drewN m :=
  fun n => same_any (w.drewN n) va vb ls ls Ga Gb (ha.drewN n) (hb.drewN n) hl true (by simp)

set_option maxRecDepth 100000 in
set_option maxHeartbeats 4000000 in
theorem linePlays_walk (w : World) (m : Int) (hm : w.cell? ⟨0, 0, none⟩ = some (.int .i64 m)) (most : Int) (hmost : (Lit.int IntKind.i64 most).wf = true) (vl : Value) (ls : List (List UInt8)) (Gl : List Nat) (sl : StrsR w vl ls Gl) (bl : ∀ s ∈ ls, s.length ≤ maxLen) (gl : ∀ k ∈ Gl, k < w.heap.size) (cl : ls.length ≤ maxLen)
    (vd : Value) (ds : List Bool) (Gd : List Nat) (sd : SlR w vd (ds.map .bool) Gd) (cd : ds.length ≤ maxLen) :
    Calls Try.prog 7 #[.int .i64 most, vl, vd] w fun e w' => e = .returned (.bool true) ∧ Below w.heap.size w w' := by
  obtain ⟨al, capl, rfl, _⟩ := id sl
  obtain ⟨ad, capd, hvd, _⟩ := id sd
  rw [List.length_map] at hvd
  subst hvd
  have HM := Lib.hid hm
  have SL := Lib.hid sl; have BL := Lib.hid bl; have SD := Lib.hid sd
  clear sl bl gl hm sd
  have O := Own.start w
  go_enter Try.func7, Try.ntmps7
  go_wp2_with fail
  refine (long_any _ _ ls Gl SL.out BL.out cl).mono ?_
  rintro e w1 ⟨b1, rfl, rfl, hsh1⟩
  cases b1
  rotate_left
  · clear hsh1
    go_wp2_with fail
    refine (awake_any _ m HM.out).mono ?_
    rintro e w2 ⟨rfl, ch2⟩
    have O := O.pure ch2
    go_wp2
    go_ret
    exact ⟨rfl, O.below⟩
  obtain ⟨j6, l6⟩ := hsh1 rfl; clear hsh1
  by_cases hb : 2 ≤ most ∧ most ≤ 512
  rotate_left
  · go_wp2_with fail
    refine (lnew_bad most hb).mono ?_
    rintro e w3 ⟨rfl, rfl⟩
    go_wp2_with fail
    refine (rnew_bad most hb).mono ?_
    rintro e w3 ⟨rfl, rfl⟩
    go_wp2_with fail
    refine (awake_any _ m HM.out).mono ?_
    rintro e w2 ⟨rfl, ch2⟩
    have O := O.pure ch2
    go_wp2
    go_ret
    exact ⟨rfl, O.below⟩
  go_wp2_with fail
  refine (lnew_own O most hb.1 hb.2).mono ?_
  clear O
  rintro e w3 ⟨p, rfl, O⟩
  go_wp2_with fail
  refine (rnew_own O most hb.1 hb.2).mono ?_
  clear O
  rintro e w4 ⟨y, rfl, O⟩
  go_wp2_with fail
  go_loopw [11] (fun iv wr => ∃ (i : Nat) (f : Fr), iv = .int .i64 i ∧ i ≤ ls.length ∧ FrOk f ∧ f.most = most ∧ Own w wr [box y (frX f) 47, fram (.pointer (some ⟨p, 0, none⟩)) f]) (fun iv _ => ls.length - (intOf iv).toNat)
  case atStart => exact ⟨0, Fr.zero most, rfl, by omega, frOk_zero hb.1, rfl, O⟩
  case round =>
    clear O
    obtain ⟨i, f, rfl, hi, hok, hfm, O⟩ := hrel
    by_cases hlt : i < ls.length
    rotate_left
    · have hb1 : ¬ (i : Int) < (ls.length : Int) := by omega
      clear hok hfm
      go_wp2_with fail
      refine (awake_any _ m (O.chg.cell HM.out (by simp))).mono ?_
      rintro e w2 ⟨rfl, ch2⟩
      have O := O.pure ch2
      go_wp2
      go_ret
      exact ⟨rfl, O.below⟩
    have hb1 : (i : Int) < (ls.length : Int) := by omega
    have OK := Lib.hid hok; have FM := Lib.hid hfm; clear hok hfm
    by_cases hdl : i < ds.length
    focus
      have hb2 : (i : Int) < (ds.length : Int) := by omega
      obtain ⟨g2, off2, rfl, cell⟩ := (O.cameSl SD.out).read (k := i) (by simpa using hdl)
      rw [List.getElem_map] at cell
      obtain ⟨rb, hrb⟩ : ∃ rb, rb = ds[i] := ⟨_, rfl⟩
      rw [← hrb] at cell
      clear hrb
      cases rb
      focus
        obtain ⟨f0, hf0⟩ : ∃ q, q = f := ⟨_, rfl⟩
        rw [← hf0] at O OK FM
        clear hf0
        go_wp2_with fail
        clear cell
      rotate_left
      focus
        go_wp2_with fail
        refine (lreset_own (O.pick 1)).mono ?_
        clear O
        rintro e w5 ⟨rfl, O⟩
        try simp only [List.map_cons, List.map_nil, List.getD_cons_zero, List.getD_cons_succ, List.eraseIdx_cons_zero, List.eraseIdx_cons_succ, List.getElem_cons_zero, List.getElem_cons_succ] at O
        have y1 : w5.cell? ⟨y, 1, none⟩ = some (.string ⟨f.left.toArray⟩) := (O.pick 1).cell 1
        have y2 : w5.cell? ⟨y, 2, none⟩ = some (.bool f.dead) := (O.pick 1).cell 2
        have yf : ∀ o, w5.frozen? ⟨y, o, none⟩ = false := fun o => (O.pick 1).free o
        have O2 := ((O.pick 1).set 2 (.bool false)).set 1 (.string ⟨#[]⟩)
        go_wp2_with fail
        obtain ⟨f0, hf0⟩ : ∃ q, q = Fr.zero f.most := ⟨_, rfl⟩
        have OK2 : Hid (FrOk f0) := by rw [hf0]; exact frOk_zero OK.out.1
        have FM2 : Hid (f0.most = most) := by rw [hf0]; exact FM.out
        obtain ⟨wr2, hwr⟩ : ∃ W, W = (w5.setCell ⟨y, 2, none⟩ (.bool false)).setCell ⟨y, 1, none⟩ (.string ⟨#[]⟩) := ⟨_, rfl⟩
        rw [← hwr] at O2 ⊢
        clear hwr O OK FM y1 y2 yf cell
        have O : Own w wr2 [box y (frX f0) 47, fram (.pointer (some ⟨p, 0, none⟩)) f0] := by rw [hf0]; exact O2
        have OK := OK2; have FM := FM2
        clear OK2 FM2 O2 hf0
    rotate_right
    focus
      have hb2 : ¬ (i : Int) < (ds.length : Int) := by omega
      obtain ⟨f0, hf0⟩ : ∃ q, q = f := ⟨_, rfl⟩
      rw [← hf0] at O OK FM
      clear hf0
      go_wp2_with fail
    all_goals
      have fl := OK.out.len (by rw [FM.out]; exact hb.2)
      refine (lcopy_own (by omega) (O.pick 1)).mono ?_
      clear O
      rintro e w6 ⟨c, rfl, O⟩
      try simp only [List.map_cons, List.map_nil, List.getD_cons_zero, List.getD_cons_succ, List.eraseIdx_cons_zero, List.eraseIdx_cons_succ, List.getElem_cons_zero, List.getElem_cons_succ] at O
      go_wp2_with fail
      refine (rcopy_own (O.pick 2)).mono ?_
      clear O
      rintro e w7 ⟨z, rfl, O⟩
      try simp only [List.map_cons, List.map_nil, List.getD_cons_zero, List.getD_cons_succ, List.eraseIdx_cons_zero, List.eraseIdx_cons_succ, List.getElem_cons_zero, List.getElem_cons_succ] at O
      obtain ⟨g, off, rfl, cell0⟩ := SL.out.read hlt
      have CC := Lib.hid cell0; clear cell0
      have hxl : ls[i].length ≤ 6000 := by have := joinL_le hlt; omega
      have BF := feed_bound f0 ls[i]
      have OKF := feed_ok OK.out ls[i]
      have BG := feed_bound f0 [97, 13, 10]
      obtain ⟨⟨l1, e1, f1⟩, hF1⟩ : ∃ r, feedL f0 ls[i] = r := ⟨_, rfl⟩
      obtain ⟨⟨l2, e2, f2⟩, hF2⟩ : ∃ r, feedL f0 [97, 13, 10] = r := ⟨_, rfl⟩
      rw [hF1] at BF OKF
      rw [hF2] at BG
      obtain ⟨bf1, bf2, bf3⟩ := BF
      obtain ⟨bg1, bg2, bg3⟩ := BG
      have F1 := Lib.hid hF1; have F2 := Lib.hid hF2; have OKF1 : Hid (FrOk f1) := OKF; have FM1 : Hid (f1.most = most) := bf3.trans FM.out
      clear hF1 hF2 OKF bf3 bg3
      dsimp only [List.length_cons, List.length_nil] at bf1 bf2 bg1 bg2
      have cell := O.chg.cell CC.out (by simp)
      go_wp2_with fail
      refine (feed_is HM.out (s := ls[i]) (O.pick 3) F1.out (by omega) (by omega)).mono ?_
      clear O cell
      rintro e w8 ⟨v1, rfl, O⟩
      try simp only [List.map_cons, List.map_nil, List.getD_cons_zero, List.getD_cons_succ, List.eraseIdx_cons_zero, List.eraseIdx_cons_succ, List.getElem_cons_zero, List.getElem_cons_succ] at O
      obtain ⟨a1, cap1, rfl⟩ := O.shape
      have cell := O.chg.cell CC.out (by simp)
      go_wp2_with fail
      refine (rfeed_is (s := ls[i]) (O.pick 3) OK.out F1.out (by omega) (by rw [FM.out]; exact hb.2)).mono ?_
      clear O cell
      rintro e w9 ⟨v2, rfl, O⟩
      try simp only [List.map_cons, List.map_nil, List.getD_cons_zero, List.getD_cons_succ, List.eraseIdx_cons_zero, List.eraseIdx_cons_succ, List.getElem_cons_zero, List.getElem_cons_succ] at O
      obtain ⟨a2, cap2, rfl⟩ := O.shape
      have y1 : w9.cell? ⟨y, 1, none⟩ = some (.string ⟨f1.left.toArray⟩) := (O.pick 1).cell 1
      have y2 : w9.cell? ⟨y, 2, none⟩ = some (.bool f1.dead) := (O.pick 1).cell 2
      have z1 : w9.cell? ⟨z, 1, none⟩ = some (.string ⟨f0.left.toArray⟩) := (O.pick 4).cell 1
      have z2 : w9.cell? ⟨z, 2, none⟩ = some (.bool f0.dead) := (O.pick 4).cell 2
      have SQ := Lib.hid (same_quiet (O.pick 2).strsR O.strsR (by omega))
      have LP := Lib.hid (left_quiet (O.pick 3)); have DP := Lib.hid (dead_quiet (O.pick 3))
      have LC := Lib.hid (left_quiet (O.pick 5)); have DC := Lib.hid (dead_quiet (O.pick 5))
      have i1 := frn_int e1; have i2 := frn_str f1.left; have i3 := frn_bool f1.dead; have i4 := frn_str f0.left; have i5 := frn_bool f0.dead
      go_wp2_with fail
      go_quiet (first
        | (go_at_call 13; with_reducible exact Calls.quiet_of (SQ.out _))
        | (go_at_call 14; with_reducible exact Calls.quiet_of_same (LP.out _))
        | (go_at_call 14; with_reducible exact Calls.quiet_of_same (LC.out _))
        | (go_at_call 15; with_reducible exact Calls.quiet_of_same (DP.out _))
        | (go_at_call 15; with_reducible exact Calls.quiet_of_same (DC.out _)))
      replace O := O.drewN nq
      clear SQ LP DP LC DC y1 y2 z1 z2 i1 i2 i3 i4 i5
      go_wp2_with fail
      replace O := O.sel [2, 5, 4, 3, 1]
      try simp only [List.map_cons, List.map_nil, List.getD_cons_zero, List.getD_cons_succ, List.eraseIdx_cons_zero, List.eraseIdx_cons_succ, List.getElem_cons_zero, List.getElem_cons_succ] at O
      go_loopw [18] (fun kv wk => ∃ (k : Nat) (lx : List (List UInt8)), kv = .int .i64 k ∧ k ≤ l1.length ∧ lx.length = l1.length ∧ Own w wk [strs (.slice a1 l1.length cap1) lx, fram (.pointer (some ⟨c, 0, none⟩)) f0, box z (frX f0) 47, fram (.pointer (some ⟨p, 0, none⟩)) f1, box y (frX f1) 47]) (fun kv _ => l1.length - (intOf kv).toNat)
      case atStart => exact ⟨0, l1, rfl, by omega, rfl, O⟩
      case round =>
        clear O
        obtain ⟨k, lx, rfl, hk, hlx, O⟩ := hrel
        by_cases hkl : k < l1.length
        · have hb4 : (k : Int) < (l1.length : Int) := by omega
          rcases row_shape' O.row with h | ⟨g1, c1, h⟩
          · simp only [Value.slice.injEq] at h; omega
          simp only [Value.slice.injEq] at h
          obtain ⟨rfl, -, rfl⟩ := h
          obtain ⟨-, ca, cb⟩ := O.readRow k (by omega)
          have HLX := Lib.hid hlx
          have huu : ∃ u : List UInt8, _ = some (Value.string ⟨u.toArray⟩) := ⟨_, ca⟩
          clear ca hlx
          obtain ⟨uu, huu⟩ := huu
          have O2 := O.store k [115, 112, 111, 105, 108, 116]
          go_wp2
          go_roundw
          case rel => exact ⟨k + 1, lx.set k [115, 112, 111, 105, 108, 116], by go_num, by omega, by simp; exact HLX.out, O2⟩
          case measure => simp [intOf]; omega
        · have hb4 : ¬ (k : Int) < (l1.length : Int) := by omega
          go_wp2_with fail
          refine (feed_is HM.out (s := [97, 13, 10]) (O.pick 1) F2.out (by decide) (by omega)).mono ?_
          clear O
          rintro e w12 ⟨v3, rfl, O⟩
          try simp only [List.map_cons, List.map_nil, List.getD_cons_zero, List.getD_cons_succ, List.eraseIdx_cons_zero, List.eraseIdx_cons_succ, List.getElem_cons_zero, List.getElem_cons_succ] at O
          obtain ⟨a3, cap3, rfl⟩ := O.shape
          go_wp2_with fail
          refine (rfeed_is (s := [97, 13, 10]) (O.pick 3) OK.out F2.out (by decide) (by rw [FM.out]; exact hb.2)).mono ?_
          clear O
          rintro e w13 ⟨v4, rfl, O⟩
          try simp only [List.map_cons, List.map_nil, List.getD_cons_zero, List.getD_cons_succ, List.eraseIdx_cons_zero, List.eraseIdx_cons_succ, List.getElem_cons_zero, List.getElem_cons_succ] at O
          obtain ⟨a4, cap4, rfl⟩ := O.shape
          have y1 : w13.cell? ⟨y, 1, none⟩ = some (.string ⟨f1.left.toArray⟩) := (O.pick 6).cell 1
          have SQ := Lib.hid (same_quiet (O.pick 2).strsR O.strsR (by omega))
          have LP := Lib.hid (left_quiet (O.pick 5))
          have i1 := frn_int e2; have i2 := frn_str f1.left
          go_wp2_with fail
          go_quiet (first
            | (go_at_call 13; with_reducible exact Calls.quiet_of (SQ.out _))
            | (go_at_call 14; with_reducible exact Calls.quiet_of_same (LP.out _)))
          replace O := (O.drewN nq).sel [6, 5]
          try simp only [List.map_cons, List.map_nil, List.getD_cons_zero, List.getD_cons_succ, List.eraseIdx_cons_zero, List.eraseIdx_cons_succ, List.getElem_cons_zero, List.getElem_cons_succ] at O
          clear SQ LP y1 i1 i2
          go_wp2
          go_roundw
          case rel => exact ⟨i + 1, f1, by go_num, by omega, OKF1.out, FM1.out, O⟩
          case measure => simp [intOf]; omega
end Go.Proofs.Ytkgfdmfkmcbecaa
