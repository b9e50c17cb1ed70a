/- mailroomref10.Disk: Boot. -/
import Derived.Test.YtobflkddkplpiaaPlayC
import Derived.StillTailTactics
namespace Go.Proofs.Ytobflkddkplpiaa
set_option linter.all false
open Go.RowKit Go.Maps

theorem bootI_wasL_set {m : Dk} (h : m.Ok) (keep : List Int) {i j : Nat} (hi : i < m.dirty.length) (hj : m.dirty[i] = (j : Int)) (hjn : j < m.n) :
    ∃ t, (m.bootI keep i).wasL[j]? = some t ∧ t.length = 128 ∧ (m.bootI keep (i + 1)).wasL = (m.bootI keep i).wasL.set j ((m.get j).take (keepAt keep i) ++ t.drop (keepAt keep i)) := by
  obtain ⟨s, t, hs, ht, hsl, htl⟩ := bootI_at h keep hi
  have hn : (m.bootI keep i).n = m.n := (bootI_n m keep i).1
  have e : m.dirty.getD i 0 = m.dirty[i] := by simp [hi]
  rw [hj] at hs ht
  have hg : m.get (j : Int) = s := by
    have nb := not_before m hi
    have := (bootI_now h keep i (by omega) (j : Int)).1 (by rw [← hj]; exact nb)
    unfold Dk.get
    rw [← this, hs]; rfl
  refine ⟨t, ?_, htl, ?_⟩
  · rw [wasL_at (by rw [hn]; exact hjn), ht]; rfl
  · have eb : m.bootI keep (i + 1) = (m.bootI keep i).boot1 (j : Int) (keepAt keep i) := by
      show (m.bootI keep i).boot1 (m.dirty.getD i 0) (keepAt keep i) = _
      rw [e, hj]
    rw [eb, boot1_is hs ht, hg]
    refine list_by (m := m.n) (by rw [wasL_len]; exact hn) (by rw [List.length_set, wasL_len]; exact hn) (fun k hk => ?_)
    have hk' : k < (m.bootI keep i).n := by rw [hn]; exact hk
    rw [List.getElem?_set, wasL_at hk']
    rw [wasL_at (m := { m.bootI keep i with now := upd (m.bootI keep i).now (j : Int) (some (s.take (keepAt keep i) ++ t.drop (keepAt keep i))), was := upd (m.bootI keep i).was (j : Int) none, cn := (m.bootI keep i).cn + 1 }) hk']
    unfold Dk.get
    dsimp only
    by_cases hkj : j = k
    · subst hkj
      rw [if_pos rfl, if_pos (by rw [wasL_len]; exact hk'), upd_same, upd_same]
      rfl
    · rw [if_neg hkj, upd_other _ _ (show (k : Int) ≠ (j : Int) by omega), upd_other _ _ (show (k : Int) ≠ (j : Int) by omega)]
theorem bootI_zero_wasL (m : Dk) (keep : List Int) : (m.bootI keep 0).wasL = m.wasL := rfl
theorem boot_wetB {m : Dk} (h : m.Ok) (ho : m.off = true) (keep : List Int) : Bv (wetB (m.boot keep).1) = (madeCells #[Value.bool false] m.n).toList := by
  rw [wet_none (boot_was h ho keep), boot_n]
  exact (made_false m.n).symm
theorem boot_end {m : Dk} (ho : m.off = true) (keep : List Int) : (m.boot keep).1.wasL = (m.bootI keep m.dirty.length).wasL := by
  unfold Dk.boot; rw [if_pos ho]; rfl
theorem boot_cells {m : Dk} (ho : m.off = true) (keep : List Int) : (m.boot keep).1.ops = m.ops ∧ (m.boot keep).1.left = 0 ∧ (m.boot keep).1.off = false := by
  unfold Dk.boot; rw [if_pos ho]
  exact ⟨(bootI_n m keep _).2.1, rfl, rfl⟩

set_option maxRecDepth 100000 in
set_option maxHeartbeats 4000000 in
theorem xboot_own {w0 w : World} {L : List Piece} {p : Value} {m : Dk} {c : Nat} (O : Own w0 w (xk p m :: L)) (h : m.Fit c) (hc : c ≤ 9000) (ak : Option Addr) (ck : Nat) (xs : List Int) (G : List Nat)
    (hs : SlR w0 (.slice ak xs.length ck) (xs.map (Value.int .i64)) G) (hx : xs.length ≤ maxLen) {m' : Dk} {er : Int} (hr : m.boot xs = (m', er)) :
    Calls Try.prog 41 #[p, .slice ak xs.length ck] w fun e w' => e = .returned (.int .i64 er) ∧ Own w0 w' (xk p m' :: L) := by
  have hx2 : xs.length ≤ 9223372036854775807 := hx
  obtain ⟨b, aw, cw, an, cn, at0, ct, f, lf, hp, hrel, U⟩ := O.xkE
  subst hp
  obtain ⟨c0, c1, c2, c3, c4, c5, c6, fr⟩ := U.xAt
  rcases Bool.eq_false_or_eq_true m.off with ho | ho
  rotate_left
  · have hrd : m.boot xs = (m, 7) := by unfold Dk.boot; rw [if_neg (by simp [ho])]
    rw [hrd] at hr
    simp only [Prod.mk.injEq] at hr
    obtain ⟨rfl, rfl⟩ := hr
    rw [ho] at c6
    clear hrd ho U hrel hs hx
    go_enter Try.func41, Try.ntmps41
    go_wp2
    go_ret
    exact ⟨rfl, O⟩
  rw [ho] at c6
  have hnn : m.n ≤ 1024 := h.n
  have HS := Lib.hid hs; have HF := Lib.hid h; have HO := Lib.hid ho; have HRR := Lib.hid hr; have HX := Lib.hid hx
  clear hs h ho hr hrel U hx
  have hdl := dirty_len (HF.out.small hc)
  have HI := Lib.hid (dirty_in m)
  go_enter Try.func41, Try.ntmps41
  go_wp2_with fail
  refine (xdirty_own O hnn).mono ?_
  clear O c0 c1 c2 c3 c4 c5 c6 fr
  rintro e w1 ⟨al, cl, rfl, O⟩
  obtain ⟨b', aw, cw, an, cn, at0, ct, f, lf, hp, hrel, U⟩ := (O.pick 1).xkE
  simp only [Value.pointer.injEq, Option.some.injEq, Addr.mk.injEq, and_true] at hp
  subst hp
  clear O hrel
  go_wp2_with fail
  go_loopw [6] (fun iv wr => ∃ (i : Nat), iv = .int .i64 i ∧ i ≤ m.dirty.length ∧
      Own w0 wr (box b (xcells m aw cw an cn at0 ct f lf) 74 :: strs (.slice aw m.n cw) (m.bootI xs i).wasL :: strs (.slice an m.n cn) m.nowL :: rowv 4 1 (.slice at0 m.n ct) m.n (Bv (wetB m)) :: nums (.slice al m.dirty.length cl) m.dirty :: L)) (fun iv _ => m.dirty.length - (intOf iv).toNat)
  case atStart => exact ⟨0, rfl, by omega, U⟩
  case round =>
    clear U
    obtain ⟨i, rfl, hi, O⟩ := hrel
    by_cases hlt : i < m.dirty.length
    · have hb1 : (i : Int) < (m.dirty.length : Int) := by omega
      obtain ⟨gl, e1, l0, -⟩ := (O.pick 4).numsAt i hlt
      subst e1
      have hdi := HI.out _ (List.getElem_mem hlt)
      obtain ⟨j, hj⟩ : ∃ j : Nat, m.dirty[i] = (j : Int) := ⟨m.dirty[i].toNat, by omega⟩
      have hjn : j < m.n := by omega
      have hjb : (j : Int) < (m.n : Int) := by omega
      rw [hj] at l0
      obtain ⟨t, ht, htl, hset⟩ := bootI_wasL_set HF.out.ok xs hlt hj hjn
      have hwl : (m.bootI xs i).wasL.length = m.n := by rw [wasL_len]; exact (bootI_n m xs i).1
      obtain ⟨-, gw, e2, w0c, fw⟩ := (O.pick 1).strsAt j (by rw [hwl]; exact hjn)
      obtain ⟨-, gn, e3, n0, -⟩ := (O.pick 2).strsAt j (by rw [nowL_len]; exact hjn)
      subst e2 e3
      rw [show (m.bootI xs i).wasL[j]'(by rw [hwl]; exact hjn) = t from by rw [List.getElem?_eq_getElem (by rw [hwl]; exact hjn)] at ht; exact Option.some.inj ht] at w0c
      rw [show m.nowL[j]'(by rw [nowL_len]; exact hjn) = m.get j from by
        have := nowL_at hjn; rw [List.getElem?_eq_getElem (by rw [nowL_len]; exact hjn)] at this; exact Option.some.inj this] at n0
      have hgl : (m.get (j : Int)).length = 128 := HF.out.ok.full.get _
      obtain ⟨s, hsg⟩ : ∃ s, s = m.get (j : Int) := ⟨_, rfl⟩
      rw [← hsg] at n0 hgl hset
      obtain ⟨K, hK⟩ : ∃ K, K = keepAt xs i := ⟨_, rfl⟩
      have hK8 : K ≤ 128 := by rw [hK]; exact keepAt_le xs i
      rw [← hK] at hset
      obtain ⟨A1, hA1⟩ : ∃ A1, A1 = s.take K := ⟨_, rfl⟩
      obtain ⟨A2, hA2⟩ : ∃ A2, A2 = t.drop K := ⟨_, rfl⟩
      rw [← hA1, ← hA2] at hset
      have lA1 : A1.length = K := by rw [hA1]; simp; omega
      have lA2 : A2.length = 128 - K := by rw [hA2]; simp; omega
      have E1 : (⟨s.toArray⟩ : ByteArray).extract 0 K = ⟨A1.toArray⟩ := by rw [mk_extract]; exact congrArg (fun l : List UInt8 => (⟨l.toArray⟩ : ByteArray)) (by rw [hA1]; simp)
      have E2 : (⟨t.toArray⟩ : ByteArray).extract K 128 = ⟨A2.toArray⟩ := by rw [mk_extract]; exact congrArg (fun l : List UInt8 => (⟨l.toArray⟩ : ByteArray)) (by rw [hA2, ← htl]; simp)
      have O2 := (O.pick 1).store j (A1 ++ A2)
      rw [← hset] at O2
      have c0 : wr.cell? ⟨b, 0, none⟩ = some (.slice (some ⟨gw, 0, none⟩) m.n cw) := O.xAt.c0
      have c1 : wr.cell? ⟨b, 1, none⟩ = some (.slice (some ⟨gn, 0, none⟩) m.n cn) := O.xAt.c1
      have SL := HS.out.keep O.chg (by simp)
      have hj' := hj
      have hn' : m.nowL[j]'(by rw [nowL_len]; exact hjn) = s := by
        have := nowL_at hjn; rw [List.getElem?_eq_getElem (by rw [nowL_len]; exact hjn)] at this; rw [hsg]; exact Option.some.inj this
      have hKe := hK
      have O3 := O2.drew.selK 5 [1, 0, 2, 3, 4]
      have hKi : (K : Int) ≤ 128 := by omega
      clear hj hj' hn' hdi ht hset hsg hA1 hA2 hK O O2
      by_cases hik : i < xs.length
      · have hik2 : (i : Int) < (xs.length : Int) := by omega
        obtain ⟨gk, ok, ek, dk0⟩ := SL.read (k := i) (by simpa using hik)
        subst ek
        rw [List.getElem_map] at dk0
        unfold keepAt at hKe
        rw [if_pos hik] at hKe
        rw [show xs.getD i 0 = xs[i] from by simp [hik]] at hKe
        by_cases hp0 : 0 < xs[i]
        · by_cases hp8 : 128 < xs[i]
          · obtain rfl : K = 128 := by omega
            obtain rfl : A2 = [] := List.eq_nil_of_length_eq_zero (by rw [lA2])
            rw [List.append_nil] at O3
            · clear SL hKe
              go_upto_region 12 with fail
              go_still_tail 34, (by kernel_rfl)
              go_wp2
              go_roundw
              case rel => exact ⟨i + 1, by go_num, by omega, O3⟩
              case measure => simp [intOf]; omega
          · obtain hKx : xs[i] = (K : Int) := by omega
            rw [hKx] at dk0 hp0 hp8
            clear hKx
            · clear SL hKe
              go_upto_region 12 with fail
              go_still_tail 34, (by kernel_rfl)
              go_wp2
              go_roundw
              case rel => exact ⟨i + 1, by go_num, by omega, O3⟩
              case measure => simp [intOf]; omega
        · obtain rfl : K = 0 := by omega
          have hp1 : xs[i] ≤ 0 := by omega
          obtain rfl : A1 = [] := List.eq_nil_of_length_eq_zero (by rw [lA1])
          rw [List.nil_append] at O3
          · · clear SL hKe
              go_upto_region 12 with fail
              go_still_tail 34, (by kernel_rfl)
              go_wp2
              go_roundw
              case rel => exact ⟨i + 1, by go_num, by omega, O3⟩
              case measure => simp [intOf]; omega
      · unfold keepAt at hKe
        rw [if_neg hik] at hKe
        subst hKe
        obtain rfl : A1 = [] := List.eq_nil_of_length_eq_zero (by rw [lA1])
        rw [List.nil_append] at O3
        have hik2 : ¬ (i : Int) < (xs.length : Int) := by omega
        · · · clear SL
              go_upto_region 12 with fail
              go_still_tail 34, (by kernel_rfl)
              go_wp2
              go_roundw
              case rel => exact ⟨i + 1, by go_num, by omega, O3⟩
              case measure => simp [intOf]; omega
    · have hb1 : ¬ (i : Int) < (m.dirty.length : Int) := by omega
      obtain rfl : i = m.dirty.length := by omega
      have ho := HO.out
      obtain ⟨M, hM⟩ : ∃ M, M = (m.boot xs).1 := ⟨_, rfl⟩
      have hrd : m.boot xs = (M, 0) := by rw [hM]; unfold Dk.boot; rw [if_pos ho]
      have hrr := HRR.out
      rw [hrd] at hrr
      simp only [Prod.mk.injEq] at hrr
      obtain ⟨rfl, rfl⟩ := hrr
      have ew : M.wasL = (m.bootI xs m.dirty.length).wasL := by rw [hM]; exact boot_end ho xs
      have en : M.nowL = M.wasL := by rw [hM]; exact (boot_wasL HF.out.ok ho xs).symm
      have et : Bv (wetB M) = (madeCells #[Value.bool false] m.n).toList := by rw [hM]; exact boot_wetB HF.out.ok ho xs
      have enn : M.n = m.n := by rw [hM]; exact boot_n m xs
      obtain ⟨eo, el, ef⟩ := boot_cells ho xs
      rw [← hM] at eo el ef
      rw [← ew] at O
      have hrel : Rel M false lf := ⟨fun e => (by cases e), fun _ => el⟩
      obtain ⟨KD, GS, SR⟩ := (O.pick 1).copyStrs
      have KD' := Lib.hid KD; have SR' := Lib.hid SR
      have hwl : M.wasL.length = m.n := by rw [wasL_len, enn]
      have hl1 : Hid (([] : List (List UInt8)).length + M.wasL.length ≤ 1000000000) := Lib.hid (by rw [hwl]; simp; omega)
      obtain ⟨i0, hi0, hz0, hz1, hz2⟩ := info_parts info_bool
      have HI0 := Lib.hid hi0; have HZ := Lib.hid hz0; have HZ1 := Lib.hid hz1; have HZ2 := Lib.hid hz2
      have HW := Lib.hid hwl; have HEN := Lib.hid en; have HET := Lib.hid et; have HNN := Lib.hid enn; have HEO := Lib.hid eo; have HEF := Lib.hid ef; have HRL := Lib.hid hrel
      have c0 := O.xAt.c0
      have blt := O.boxlt
      clear KD SR hi0 hz0 hz1 hz2 hwl en et enn eo ef hrel ho hM hrd ew el HS HX HRR
      go_wp2_with (at_builtin; refine wpList_append_strsO rfl _ _ rfl _ [] _ M.wasL GS O.emptyStrs rfl rfl SR'.out KD'.out hl1.out ?_)
      intro v' w6 O6
      obtain ⟨a', c', rfl⟩ := O6.shape
      rw [HW.out] at O6 ⊢
      clear c0 blt O KD' SR' hl1
      have c1 := (O6.pick 1).xAt.c1
      have fr := (O6.pick 1).free
      have O7 := (O6.pick 1).set 1 (.slice a' m.n c')
      go_wp2_with (at_make; refine wpList_make_rowO (e := 4) (size := 1) rfl _ rfl i0 (.bool false) Try.underlying71 HI0.out HZ.out HZ1.out (by rw [HZ2.out]; omega) m.n rfl (by omega) O7 ?_)
      intro g w8 O8
      clear c1 fr O6 O7
      have c2 : w8.cell? ⟨b, 2, none⟩ = some (.slice at0 m.n ct) := (O8.pick 1).cell 2
      have c5 : w8.cell? ⟨b, 5, none⟩ = some (.bool f) := (O8.pick 1).cell 5
      have c6 : w8.cell? ⟨b, 6, none⟩ = some (.bool m.off) := (O8.pick 1).cell 6
      have fr := (O8.pick 1).free
      have O9 := (((O8.pick 1).set 2 (.slice (some ⟨g, 0, none⟩) m.n m.n)).set 6 (.bool false)).set 5 (.bool false)
      have O10 : Own w0 (((w8.setCell ⟨b, 2, none⟩ (.slice (some ⟨g, 0, none⟩) m.n m.n)).setCell ⟨b, 6, none⟩ (.bool false)).setCell ⟨b, 5, none⟩ (.bool false)) (xk (.pointer (some ⟨b, 0, none⟩)) M :: L) := Own.xkI (aw := aw) (cw := cw) (an := a') (cn := c') (at0 := some ⟨g, 0, none⟩) (ct := m.n) HRL.out (by
        have ex : xcells M aw cw a' c' (some ⟨g, 0, none⟩) m.n false lf = ((((xcells m aw cw an cn at0 ct f lf).setIfInBounds 1 (.slice a' m.n c')).setIfInBounds 2 (.slice (some ⟨g, 0, none⟩) m.n m.n)).setIfInBounds 6 (.bool false)).setIfInBounds 5 (.bool false) := by
          unfold xcells
          rw [HNN.out, HEO.out, HEF.out]
          rfl
        rw [ex, HET.out, HEN.out, HNN.out]
        exact O9.selK 7 [0, 3, 2, 1])
      clear O8 O9
      go_wp2
      go_ret
      exact ⟨rfl, O10⟩
end Go.Proofs.Ytobflkddkplpiaa
