/- DiskKept: the walk. -/
import Derived.Test.YtobflkddkplpiaaKeptC
import Derived.Test.YtobflkddkplpiaaDiskCopies
import Derived.Deep.DeepCutAuto
namespace Go.Proofs.Ytobflkddkplpiaa
set_option linter.all false
open Go.RowKit Go.Maps

set_option maxRecDepth 100000 in
set_option maxHeartbeats 8000000 in
theorem diskKept_walk {w : World} (n : Int) (hn : (Lit.int .i64 n).wf = true) (v1 : Value) (o1 : StepsIn w v1) (kd : Kind v1) (v2 : Value) (zs : List Int) (G2 : List Nat) (s2 : SlR w v2 (zs.map (Value.int .i64)) G2) (c2 : zs.length ≤ maxLen) (iz2 : ∀ z ∈ zs, (Lit.int .i64 z).wf = true) :
    Calls Try.prog 3 #[.int .i64 n, v1, v2] w fun e w' => e = .returned (.bool true) ∧ Below w.heap.size w w' := by
  obtain ⟨l, G, hl, ll, lw⟩ := o1
  obtain ⟨a, cap, rfl, -⟩ := id hl
  obtain ⟨ka, kc, rfl, -⟩ := id s2
  have O := Own.start w
  simp only [List.length_map] at s2 ⊢
  have HL := Lib.hid hl; have LW := Lib.hid lw; have S2 := Lib.hid s2
  have hz2 : zs.length ≤ 9223372036854775807 := c2
  have C2 := Lib.hid c2; have IZ2 := Lib.hid iz2
  clear hl lw s2 c2 iz2
  go_enter Try.func3, Try.ntmps3
  go_wp2_with fail
  refine (works_own O).mono ?_
  clear O
  rintro e w1 ⟨rfl, O⟩
  go_wp2_with fail
  refine (long_any _ a cap l G (HL.out.keep O.chg (by simp)) ll LW.out).mono ?_
  rintro e w2 ⟨r, rfl, rfl, hr⟩
  cases r
  rotate_left
  · go_wp2_with fail
    refine (works_own O).mono ?_
    clear O
    rintro e w2 ⟨rfl, O⟩
    go_wp2
    go_ret
    exact ⟨rfl, O.below⟩
  replace hr := hr (by trivial)
  by_cases hz : (1000 : Int) < (zs.length : Int)
  · go_wp2_with fail
    refine (works_own O).mono ?_
    clear O
    rintro e w2 ⟨rfl, O⟩
    go_wp2
    go_ret
    exact ⟨rfl, O.below⟩
  by_cases h40 : 40 < n
  · go_wp2_with fail
    refine (works_own O).mono ?_
    clear O
    rintro e w2 ⟨rfl, O⟩
    go_wp2
    go_ret
    exact ⟨rfl, O.below⟩
  by_cases h1 : n < 1
  · go_wp2_with fail
    refine (new_bad n (.inl h1) _).mono ?_
    rintro e w2 ⟨rfl, rfl⟩
    go_wp2
    go_ret
    exact ⟨rfl, O.below⟩
  obtain ⟨N, rfl⟩ : ∃ N : Nat, n = (N : Int) := ⟨n.toNat, by omega⟩
  have hN1 : 1 ≤ N := by omega
  have hN40 : N ≤ 40 := by omega
  go_wp2_with fail
  refine (new_own O N (by omega) (by omega)).mono ?_
  clear O
  rintro e w2 ⟨b, rfl, O⟩
  clear h40 h1 hz
  go_wp2_with fail
  go_loopw [9, 11] (fun sv iv wr => ∃ (k : Nat) (aw : Option Addr) (cw : Nat), sv = .slice aw k cw ∧ iv = .int .i64 k ∧ k ≤ N ∧ Own w wr [strs (.slice aw k cw) (List.replicate k zeros), dk (.pointer (some ⟨b, 0, none⟩)) (Dk.new N)]) (fun _ iv _ => N - (intOf iv).toNat)
  case atStart => exact ⟨0, none, 0, rfl, rfl, by omega, O.nilStrs⟩
  case round =>
    clear O
    obtain ⟨k, aw, cw, rfl, rfl, hk, O⟩ := hrel
    by_cases hlt : k < N
    · have hb1 : (k : Int) < (N : Int) := by omega
      go_wp2_with fail
      refine (full_own O 0 0 rfl).mono ?_
      clear O
      rintro e w5 ⟨rfl, O⟩
      have hl1 : (List.replicate k zeros).length ≤ 1000000000 := by simp; omega
      go_wp2_with (at_builtin; refine wpList_append_strO rfl _ _ rfl _ _ (fullS 0) O rfl rfl hl1 ?_)
      intro v' w6 O6
      rw [show List.replicate k zeros ++ [fullS 0] = List.replicate (k + 1) zeros from (List.replicate_succ').symm] at O6
      obtain ⟨aw', cw', rfl⟩ := O6.shape
      rw [List.length_replicate] at O6 ⊢
      clear O hl1
      go_wp2
      go_roundw
      case rel => exact ⟨k + 1, aw', cw', rfl, by go_num, by omega, O6⟩
      case measure => simp [intOf]; omega
    · have hb1 : ¬ (k : Int) < (N : Int) := by omega
      obtain rfl : k = N := by omega
      have KD := O.strsKind
      obtain ⟨GS, SR⟩ : ∃ G, StrsR wr (.slice aw k cw) (List.replicate k zeros) G := ⟨_, O.strsR⟩
      have SR2 : StrsR (wr.alloc (.cells #[] 9)) (.slice aw k cw) (List.replicate k zeros) GS := SR.keep ((Chg.refl [] wr).alloc _) (by simp)
      have hl1 : ([] : List (List UInt8)).length + (List.replicate k zeros).length ≤ 1000000000 := by simp; omega
      have KD' := Lib.hid KD; have SR2' := Lib.hid SR2
      clear SR KD SR2
      go_wp2_with (at_builtin; refine wpList_append_strsO rfl _ _ rfl _ [] _ (List.replicate k zeros) GS O.emptyStrs rfl rfl SR2'.out KD'.out hl1 ?_)
      intro v' w6 O6
      obtain ⟨an, cn, rfl⟩ := O6.shape
      rw [List.length_replicate] at O6 ⊢
      have e1 : (Dk.new k).nowL = List.replicate k zeros := new_nowL k
      have e2 : (Dk.new k).wasL = List.replicate k zeros := new_wasL k
      replace O6 : Own w w6 [strs (.slice an k cn) (Dk.new k).nowL, strs (.slice aw k cw) (Dk.new k).wasL, dk (.pointer (some ⟨b, 0, none⟩)) (Dk.new k)] := by rw [e1, e2]; exact O6
      clear O KD' SR2' hl1 e1 e2
      have O7 := O6.emptyRowv 33 5
      have FM0 : Hid ((Dk.new k).Fit 0) := Lib.hid (Fit.new (by omega))
      have hl3 : 0 + l.length ≤ 100000000 := by omega
      have hl4 : l.length + 3 ≤ 100000000 := by omega
      have HL3 := Lib.hid hl3; have HL4 := Lib.hid hl4
      clear hl3 hl4
      have KD1 := Lib.hid kd
      have ST : Hid (StepsR (w6.alloc (.cells #[] 33)) (.slice a l.length cap) l G) := Lib.hid (HL.out.keep O7.chg (by simp))
      clear kd
      go_wp2_with (at_builtin; refine wpList_append_stepsO rfl _ _ rfl O7 rfl (.slice a l.length cap) l G rfl ST.out KD1.out HL3.out ?_)
      intro v8 w8 O8
      clear O6 O7 ST
      go_wp2_with (at_builtin; refine wpList_append_threeO rfl _ _ rfl O8 rfl rfl HL4.out ?_)
      intro v9 w9 O9
      rw [← rowSt_cells] at O9
      obtain ⟨a9, c9, rfl⟩ := O9.rowvShape
      clear O8 KD1 HL3 HL4
      go_wp2_with fail
      obtain ⟨T, hT⟩ : ∃ T, T = l.length + 3 := ⟨_, rfl⟩
      rw [← hT] at O9 ⊢
      have hT2 : T ≤ 303 := by omega
      have HT := Lib.hid hT
      clear hT
      go_loopw [9, 10, 12] (fun sv nv iv wr => ∃ (i : Nat) (m : Dk) (aw : Option Addr) (cw : Nat) (an : Option Addr) (cn : Nat), sv = .slice aw k cw ∧ nv = .slice an k cn ∧ iv = .int .i64 i ∧ i ≤ T ∧ m.Fit i ∧ m.n = k ∧ EndI l.length m i ∧
          Own w wr [strs (.slice an k cn) m.nowL, strs (.slice aw k cw) m.wasL, dk (.pointer (some ⟨b, 0, none⟩)) m, rowv 33 5 (.slice a9 T c9) T ((rowSt l).flatMap St.cell)]) (fun _ _ iv _ => T - (intOf iv).toNat)
      case atStart => exact ⟨0, Dk.new k, aw, cw, an, cn, rfl, rfl, rfl, by omega, FM0.out, rfl, EndI.start _ _, O9.selK 4 [1, 2, 3, 0]⟩
      case round =>
        clear O9 FM0
        obtain ⟨i, m, aw, cw, an, cn, rfl, rfl, rfl, hi, hf, hmn, he, O⟩ := hrel
        have HF := Lib.hid hf; have HN := Lib.hid hmn; have HE := Lib.hid he
        clear hf hmn he
        by_cases hlt : i < T
        rotate_left
        · have hb1 : ¬ (i : Int) < (T : Int) := by omega
          obtain ⟨ho, hw⟩ := HE.out.2.2 (by have := HT.out; omega)
          have hd : m.dirty = [] := by
            apply List.eq_nil_iff_forall_not_mem.2
            intro q hq
            have := (mem_dirty HF.out.ok.dom q).1 hq
            rw [hw] at this; cases this
          clear hw
          go_wp2_with fail
          refine (on_any (O.pick 2)).mono ?_
          rw [ho]
          rintro e w3 ⟨rfl, rfl⟩
          go_wp2_with fail
          refine (dirty_dk (O.pick 2) (HF.out.small (by omega)) HF.out.ok.dom).mono ?_
          rw [hd]
          rintro e w3 ⟨da, dc, rfl, O3⟩
          go_wp2
          go_ret
          exact ⟨rfl, O3.below⟩
        · have hb1 : (i : Int) < (T : Int) := by omega
          have hil : i < (rowSt l).length := by have := HT.out; rw [rowSt_len]; omega
          obtain ⟨g9, e9, c0, c1, c2, c3, c4⟩ := (O.pick 3).rowStep i hil
          subst e9
          obtain ⟨r, hr9⟩ : ∃ r, r = (rowSt l)[i] := ⟨_, rfl⟩
          rw [← hr9] at c0 c1 c2 c3 c4
          have HR : Hid ((rowSt l)[i]? = some r) := Lib.hid (by rw [hr9]; exact List.getElem?_eq_getElem hil)
          clear hr9 hil
          obtain ⟨s, hs⟩ : ∃ s, (eff l ka kc zs)[i]? = some s := by
            have : i < (eff l ka kc zs).length := by have := HT.out; simp [eff]; omega
            exact ⟨_, List.getElem?_eq_getElem this⟩
          have HS := Lib.hid hs
          clear hs
          have O2 := O.newBox #[.int .u8 r.what, .int .i64 r.at0, .int .u8 (r.by_.toNat : Int), .int .i64 r.odd, .slice r.ka r.keep.length r.kc] 33
          go_wp2_with fail
          refine (on_any (O2.pick 3)).mono ?_
          generalize hon : (!m.off) = onb
          have HON := Lib.hid hon
          clear hon
          rintro e w3 ⟨rfl, rfl⟩
          go_upto_if 79 with fail
          generalize hz : wr.heap.size = z at O2 ⊢
          clear hz O c0 c1 c2 c3 c4
          go_cut [] (fun wx => ∃ s1 : St, (i = l.length + 1 → s1 = stWrite) ∧ (i ≠ l.length + 1 → s1 = r) ∧ Own w wx [box z #[.int .u8 s1.what, .int .i64 s1.at0, .int .u8 (s1.by_.toNat : Int), .int .i64 s1.odd, .slice s1.ka s1.keep.length s1.kc] 33, strs (.slice an k cn) m.nowL, strs (.slice aw k cw) m.wasL, dk (.pointer (some ⟨b, 0, none⟩)) m, rowv 33 5 (.slice (some ⟨g9, 0, none⟩) T c9) T ((rowSt l).flatMap St.cell)])
          case first =>
            by_cases h2 : i = l.length + 1
            · have i1 : ((i : Int) == (T : Int) - 2) = true := by have := HT.out; simp; omega
              have z0 := O2.cell 0
              have z1 := O2.cell 1
              have z2 := O2.cell 2
              have z3 := O2.cell 3
              have z4 := O2.cell 4
              have zf := O2.free
              go_wp2_with fail
              go_meet
              refine ⟨stWrite, fun _ => rfl, fun h => absurd h2 h, ?_⟩
              exact ((((O2.set 0 _).set 1 _).set 2 _).set 3 _).set 4 _
            · have i1 : ((i : Int) == (T : Int) - 2) = false := by have := HT.out; simp; omega
              go_wp2_with fail
              go_meet
              exact ⟨r, fun h => absurd h h2, fun _ => rfl, O2⟩
          case rest =>
          obtain ⟨s1, hs1, hs2, O⟩ := hcut
          clear O2
          go_upto_if 85 with fail
          go_cut [] (fun wx => Own w wx [box z #[.int .u8 s.what, .int .i64 s.at0, .int .u8 (s.by_.toNat : Int), .int .i64 s.odd, .slice s.ka s.keep.length s.kc] 33, strs (.slice an k cn) m.nowL, strs (.slice aw k cw) m.wasL, dk (.pointer (some ⟨b, 0, none⟩)) m, rowv 33 5 (.slice (some ⟨g9, 0, none⟩) T c9) T ((rowSt l).flatMap St.cell)])
          case first =>
            by_cases h3 : i = l.length + 2
            · have i1 : ((i : Int) == (T : Int) - 1) = true := by have := HT.out; simp; omega
              have z4 := O.cell 4
              have zf := O.free
              obtain ⟨q1, q2⟩ := (eff_at (l := l) (i := i) (by have := HT.out; omega) ka kc zs).2.2 h3
              obtain rfl : s = ⟨3, 0, 0, 0, ka, kc, zs⟩ := by have := HS.out; rw [q1] at this; exact (Option.some.inj this).symm
              obtain rfl : s1 = stBoot := by
                rw [hs2 (by omega)]
                have := HR.out; rw [q2] at this; exact (Option.some.inj this).symm
              have O' := O.set 4 (.slice ka zs.length kc)
              clear hs1 hs2 q1 q2 h3
              go_wp2_with fail
              go_meet
              exact O'
            · have i1 : ((i : Int) == (T : Int) - 1) = false := by have := HT.out; simp; omega
              obtain ⟨q1, q2, -⟩ := eff_at (l := l) (i := i) (by have := HT.out; omega) ka kc zs
              obtain rfl : s = s1 := by
                by_cases h2 : i = l.length + 1
                · rw [hs1 h2]
                  have := HS.out; rw [q2 h2] at this; exact (Option.some.inj this).symm
                · rw [hs2 h2]
                  have := HS.out; rw [← q1 h2 h3, HR.out] at this; exact (Option.some.inj this).symm
              clear hs1 hs2 q1 q2 h3
              go_wp2_with fail
              go_meet
              exact O
          case rest =>
          clear O
          have O := hcut
          clear hcut hs1 hs2 s1 HR
          have sw : Hid s.Wf := Lib.hid (eff_wf LW.out C2.out IZ2.out HS.out)
          have SL := Lib.hid (eff_sl HL.out S2.out HS.out)
          have FM := Lib.hid (HF.out.step sw.out)
          have NM := Lib.hid ((step_n m s).trans HN.out)
          have EM := Lib.hid (HE.out.step (s := s) HF.out.ok (by rw [HN.out]; omega) (fun e => by have := HS.out; rw [e] at this; exact eff_l _ _ _ this)
            (fun e => by have := (eff_at (l := l) (i := i) (by have := HT.out; omega) ka kc zs).2.1 e; rw [HS.out] at this; exact Option.some.inj this)
            (fun e => by have := ((eff_at (l := l) (i := i) (by have := HT.out; omega) ka kc zs).2.2 e).1; rw [HS.out] at this; rw [Option.some.inj this]))
          obtain ⟨M, hM⟩ : ∃ M, M = m.step s := ⟨_, rfl⟩
          rw [← hM] at FM NM EM
          unfold Dk.step at hM
          have ha : Hid (I64 s.at0) := Lib.hid sw.out.at0
          have hbl : Hid (s.bytes.length ≤ 1000000) := Lib.hid s.bytes_len
          have hle := St.i64le sw.out
          have hq : Hid (s.bytes = stepBytes s.by_ s.odd) := Lib.hid rfl
          have c0 : wc.cell? ⟨z, 0, none⟩ = some (.int .u8 s.what) := O.cell 0
          have c1 : wc.cell? ⟨z, 1, none⟩ = some (.int .i64 s.at0) := O.cell 1
          have c2 : wc.cell? ⟨z, 2, none⟩ = some (.int .u8 (s.by_.toNat : Int)) := O.cell 2
          have c3 : wc.cell? ⟨z, 3, none⟩ = some (.int .i64 s.odd) := O.cell 3
          have c4 : wc.cell? ⟨z, 4, none⟩ = some (.slice s.ka s.keep.length s.kc) := O.cell 4
          by_cases h0 : s.what = 0
          · rw [if_pos h0] at hM
            have i0 : (s.what == 0) = true := by simp [h0]
            clear h0
            rcases write_cases m s.at0 s.bytes with ⟨er, hwr, her⟩ | ⟨j, hj, hjn, hwr⟩
            · rw [hwr] at hM
              have HM := Lib.hid hwr
              have i1 : (er == 0) = false := by simp [her]
              clear hwr her
              subst hM
              have O3 := O.selK 5 [3, 0, 1, 2, 4]
              clear O
              go_wp2_with fail
              go_region_held3 (fun w' => w'.cell? ⟨z, 0, none⟩ = some (.int .u8 s.what) ∧ w'.cell? ⟨z, 1, none⟩ = some (.int .i64 s.at0) ∧ w'.cell? ⟨z, 2, none⟩ = some (.int .u8 (s.by_.toNat : Int)) ∧ w'.cell? ⟨z, 3, none⟩ = some (.int .i64 s.odd) ∧ w'.cell? ⟨z, 4, none⟩ = some (.slice s.ka s.keep.length s.kc))
                (first
                  | exact ⟨c0, c1, c2, c3, c4⟩
                  | exact ⟨ch.cell c0 (by simp), ch.cell c1 (by simp), ch.cell c2 (by simp), ch.cell c3 (by simp), ch.cell c4 (by simp)⟩
                  | exact ⟨(O5.pick 1).cell 0, (O5.pick 1).cell 1, (O5.pick 1).cell 2, (O5.pick 1).cell 3, (O5.pick 1).cell 4⟩)
                (first
                  | (go_at_call 14; (with_reducible refine (bytes_any _ s.what (s.at0) s.by_ s.odd s.ka s.keep.length s.kc).mono ?_); rw [← hq.out]; rintro e ws ⟨rfl, ch⟩; have O4 := O3.drew.pure ch)
                  | (go_at_call 13; (with_reducible refine (write_fit O4 HF.out (by omega) (s.at0) ha.out s.bytes hbl.out HM.out).mono ?_); rintro e ws2 ⟨rfl, O5⟩))
              clear ch O4 O3 c0 c1 c2 c3 c4
              have O := O5.selK 5 [2, 3, 0, 4]
              clear O5
              go_wp2_with fail
              go_loopw [17] (fun qv wr => ∃ q : Nat, qv = .int .i64 q ∧ q ≤ k ∧ Own w wr [strs (.slice an k cn) M.nowL, strs (.slice aw k cw) M.wasL, dk (.pointer (some ⟨b, 0, none⟩)) M, rowv 33 5 (.slice (some ⟨g9, 0, none⟩) T c9) T ((rowSt l).flatMap St.cell)]) (fun qv _ => k - (intOf qv).toNat)
              case atStart => exact ⟨0, rfl, by omega, O⟩
              case round =>
                clear O
                obtain ⟨q, rfl, hq, O⟩ := hrel
                by_cases hqk : q < k
                · have hb2 : (q : Int) < (k : Int) := by omega
                  cases ho : M.off
                  · obtain ⟨-, gq, eq1, cq, -⟩ := O.strsAt q (by rw [nowL_len, NM.out]; exact hqk)
                    subst eq1
                    have hnq : M.nowL[q]'(by rw [nowL_len, NM.out]; exact hqk) = M.get q := by
                      have := nowL_at (m := M) (k := q) (by rw [NM.out]; exact hqk)
                      rw [List.getElem?_eq_getElem (by rw [nowL_len, NM.out]; exact hqk)] at this
                      exact Option.some.inj this
                    rw [hnq] at cq
                    have hrd : Hid (M.read (q : Int) = (M.get q, 0)) := Lib.hid (read_in ho (by rw [NM.out]; exact hqk))
                    have HO := Lib.hid ho
                    clear hnq ho
                    go_wp2_with fail
                    refine (on_any (O.pick 2)).mono ?_
                    rw [HO.out]
                    rintro e w3 ⟨rfl, rfl⟩
                    go_wp2_with fail
                    refine (is10_own (O.pick 2) q (I64.nat (by omega)) (M.get q) true (by rw [hrd.out]; simp)).mono ?_
                    clear O cq
                    rintro e w3 ⟨rfl, O⟩
                    replace O := O.selK 4 [1, 2, 0, 3]
                    go_wp2
                    go_roundw
                    case rel => exact ⟨q + 1, by go_num, by omega, O⟩
                    case measure => simp [intOf]; omega
                  · have HO := Lib.hid ho
                    clear ho
                    go_wp2_with fail
                    refine (on_any (O.pick 2)).mono ?_
                    rw [HO.out]
                    rintro e w3 ⟨rfl, rfl⟩
                    go_wp2
                    go_roundw
                    case rel => exact ⟨i + 1, M, _, _, _, _, rfl, rfl, by go_num, by omega, FM.out, NM.out, EM.out, O⟩
                    case measure => simp [intOf]; omega
                · have hb2 : ¬ (q : Int) < (k : Int) := by omega
                  go_wp2
                  go_roundw
                  case rel => exact ⟨i + 1, M, _, _, _, _, rfl, rfl, by go_num, by omega, FM.out, NM.out, EM.out, O⟩
                  case measure => simp [intOf]; omega
            · rw [hwr] at hM
              have hjk : (j : Int) < (k : Int) := by rw [HN.out] at hjn; omega
              have hjn' : j < m.nowL.length := by rw [nowL_len]; exact hjn
              have enow : (m.put j s.bytes).did.nowL = m.nowL.set j s.bytes := put_nowL hjn _
              have ewas : (m.put j s.bytes).did.wasL = m.wasL := put_wasL hjn _
              have EN := Lib.hid enow; have EW := Lib.hid ewas
              rw [hj] at hwr c1 O ha
              have HM := Lib.hid hwr
              replace hM : M = (m.put j s.bytes).did := hM
              clear hwr enow ewas hj hle
              have O3 := O.selK 5 [3, 0, 1, 2, 4]
              clear O
              go_wp2_with fail
              go_region_held3 (fun w' => w'.cell? ⟨z, 0, none⟩ = some (.int .u8 s.what) ∧ w'.cell? ⟨z, 1, none⟩ = some (.int .i64 (j : Int)) ∧ w'.cell? ⟨z, 2, none⟩ = some (.int .u8 (s.by_.toNat : Int)) ∧ w'.cell? ⟨z, 3, none⟩ = some (.int .i64 s.odd) ∧ w'.cell? ⟨z, 4, none⟩ = some (.slice s.ka s.keep.length s.kc))
                (first
                  | exact ⟨c0, c1, c2, c3, c4⟩
                  | exact ⟨ch.cell c0 (by simp), ch.cell c1 (by simp), ch.cell c2 (by simp), ch.cell c3 (by simp), ch.cell c4 (by simp)⟩
                  | exact ⟨(O5.pick 1).cell 0, (O5.pick 1).cell 1, (O5.pick 1).cell 2, (O5.pick 1).cell 3, (O5.pick 1).cell 4⟩)
                (first
                  | (go_at_call 14; (with_reducible refine (bytes_any _ s.what ((j : Int)) s.by_ s.odd s.ka s.keep.length s.kc).mono ?_); rw [← hq.out]; rintro e ws ⟨rfl, ch⟩; have O4 := O3.drew.pure ch)
                  | (go_at_call 13; (with_reducible refine (write_fit O4 HF.out (by omega) ((j : Int)) ha.out s.bytes hbl.out HM.out).mono ?_); rintro e ws2 ⟨rfl, O5⟩))
              clear ch O4 O3 c0 c1 c2 c3 c4
              have d0 : ws2.cell? ⟨z, 0, none⟩ = some (.int .u8 s.what) := (O5.pick 1).cell 0
              have d1 : ws2.cell? ⟨z, 1, none⟩ = some (.int .i64 (j : Int)) := (O5.pick 1).cell 1
              have d2 : ws2.cell? ⟨z, 2, none⟩ = some (.int .u8 (s.by_.toNat : Int)) := (O5.pick 1).cell 2
              have d3 : ws2.cell? ⟨z, 3, none⟩ = some (.int .i64 s.odd) := (O5.pick 1).cell 3
              have d4 : ws2.cell? ⟨z, 4, none⟩ = some (.slice s.ka s.keep.length s.kc) := (O5.pick 1).cell 4
              obtain ⟨-, gn, egn, cn0, fn0⟩ := (O5.pick 2).strsAt j hjn'
              subst egn
              obtain ⟨old, hold⟩ : ∃ old, old = m.nowL[j] := ⟨_, rfl⟩
              rw [← hold] at cn0
              have O6 := O5.drew
              replace hjn' := Lib.hid hjn'
              clear hold O5
              go_wp2_with fail
              go_region_held3 (fun w' => w'.cell? ⟨z, 0, none⟩ = some (.int .u8 s.what) ∧ w'.cell? ⟨z, 1, none⟩ = some (.int .i64 (j : Int)) ∧ w'.cell? ⟨z, 2, none⟩ = some (.int .u8 (s.by_.toNat : Int)) ∧ w'.cell? ⟨z, 3, none⟩ = some (.int .i64 s.odd) ∧ w'.cell? ⟨z, 4, none⟩ = some (.slice s.ka s.keep.length s.kc))
                (first
                  | exact ⟨d0, d1, d2, d3, d4⟩
                  | exact ⟨ch.cell d0 (by simp), ch.cell d1 (by simp), ch.cell d2 (by simp), ch.cell d3 (by simp), ch.cell d4 (by simp)⟩
                  | exact ⟨(O8.pick 2).cell 0, (O8.pick 2).cell 1, (O8.pick 2).cell 2, (O8.pick 2).cell 3, (O8.pick 2).cell 4⟩)
                (first
                  | (go_at_call 14; (with_reducible refine (bytes_any _ s.what ((j : Int)) s.by_ s.odd s.ka s.keep.length s.kc).mono ?_); rw [← hq.out]; rintro e ws ⟨rfl, ch⟩; have O7 := O6.pure ch;
                      have q1 : ws.cell? ⟨gn, j, none⟩ = some (.string ⟨old.toArray⟩) := ch.cell cn0 (by simp); have q2 := ((O7.pick 2).free0 j hjn'.out); have O8 := (O7.pick 2).store j s.bytes))
              have O := O8.selK 5 [0, 3, 1, 4]
              rw [← EN.out, ← EW.out, ← hM] at O
              clear O6 O7 O8 q1 q2 d0 d1 d2 d3 d4 cn0 fn0 ch hM
              go_wp2_with fail
              go_loopw [17] (fun qv wr => ∃ q : Nat, qv = .int .i64 q ∧ q ≤ k ∧ Own w wr [strs (.slice (some ⟨gn, 0, none⟩) k cn) M.nowL, strs (.slice aw k cw) M.wasL, dk (.pointer (some ⟨b, 0, none⟩)) M, rowv 33 5 (.slice (some ⟨g9, 0, none⟩) T c9) T ((rowSt l).flatMap St.cell)]) (fun qv _ => k - (intOf qv).toNat)
              case atStart => exact ⟨0, rfl, by omega, O⟩
              case round =>
                clear O
                obtain ⟨q, rfl, hq, O⟩ := hrel
                by_cases hqk : q < k
                · have hb2 : (q : Int) < (k : Int) := by omega
                  cases ho : M.off
                  · obtain ⟨-, gq, eq1, cq, -⟩ := O.strsAt q (by rw [nowL_len, NM.out]; exact hqk)
                    simp only [Option.some.injEq, Addr.mk.injEq] at eq1
                    obtain ⟨rfl, -, -⟩ := eq1
                    have hnq : M.nowL[q]'(by rw [nowL_len, NM.out]; exact hqk) = M.get q := by
                      have := nowL_at (m := M) (k := q) (by rw [NM.out]; exact hqk)
                      rw [List.getElem?_eq_getElem (by rw [nowL_len, NM.out]; exact hqk)] at this
                      exact Option.some.inj this
                    rw [hnq] at cq
                    have hrd : Hid (M.read (q : Int) = (M.get q, 0)) := Lib.hid (read_in ho (by rw [NM.out]; exact hqk))
                    have HO := Lib.hid ho
                    clear hnq ho
                    go_wp2_with fail
                    refine (on_any (O.pick 2)).mono ?_
                    rw [HO.out]
                    rintro e w3 ⟨rfl, rfl⟩
                    go_wp2_with fail
                    refine (is10_own (O.pick 2) q (I64.nat (by omega)) (M.get q) true (by rw [hrd.out]; simp)).mono ?_
                    clear O cq
                    rintro e w3 ⟨rfl, O⟩
                    replace O := O.selK 4 [1, 2, 0, 3]
                    go_wp2
                    go_roundw
                    case rel => exact ⟨q + 1, by go_num, by omega, O⟩
                    case measure => simp [intOf]; omega
                  · have HO := Lib.hid ho
                    clear ho
                    go_wp2_with fail
                    refine (on_any (O.pick 2)).mono ?_
                    rw [HO.out]
                    rintro e w3 ⟨rfl, rfl⟩
                    go_wp2
                    go_roundw
                    case rel => exact ⟨i + 1, M, _, _, _, _, rfl, rfl, by go_num, by omega, FM.out, NM.out, EM.out, O⟩
                    case measure => simp [intOf]; omega
                · have hb2 : ¬ (q : Int) < (k : Int) := by omega
                  go_wp2
                  go_roundw
                  case rel => exact ⟨i + 1, M, _, _, _, _, rfl, rfl, by go_num, by omega, FM.out, NM.out, EM.out, O⟩
                  case measure => simp [intOf]; omega
          rw [if_neg h0] at hM
          have i0 : (s.what == 0) = false := by simp [h0]
          clear h0
          by_cases h1 : s.what = 1
          · rw [if_pos h1] at hM
            have i1 : (s.what == 1) = true := by simp [h1]
            clear h1
            have O3 := O.selK 5 [3, 1, 2, 4]
            clear O
            rcases Bool.eq_false_or_eq_true m.off with ho | ho
            · have hsy : m.sync = (m, 42) := by unfold Dk.sync; rw [if_pos ho]
              rw [hsy] at hM
              have HM := Lib.hid hsy
              clear hsy ho
              subst hM
              go_wp2_with fail
              refine (sync_fit O3 HF.out (by omega) HM.out).mono ?_
              clear O3
              rintro e w3 ⟨rfl, O⟩
              replace O := O.selK 4 [1, 2, 0, 3]
              go_wp2_with fail
              go_loopw [17] (fun qv wr => ∃ q : Nat, qv = .int .i64 q ∧ q ≤ k ∧ Own w wr [strs (.slice an k cn) M.nowL, strs (.slice aw k cw) M.wasL, dk (.pointer (some ⟨b, 0, none⟩)) M, rowv 33 5 (.slice (some ⟨g9, 0, none⟩) T c9) T ((rowSt l).flatMap St.cell)]) (fun qv _ => k - (intOf qv).toNat)
              case atStart => exact ⟨0, rfl, by omega, O⟩
              case round =>
                clear O
                obtain ⟨q, rfl, hq, O⟩ := hrel
                by_cases hqk : q < k
                · have hb2 : (q : Int) < (k : Int) := by omega
                  cases ho : M.off
                  · obtain ⟨-, gq, eq1, cq, -⟩ := O.strsAt q (by rw [nowL_len, NM.out]; exact hqk)
                    subst eq1
                    have hnq : M.nowL[q]'(by rw [nowL_len, NM.out]; exact hqk) = M.get q := by
                      have := nowL_at (m := M) (k := q) (by rw [NM.out]; exact hqk)
                      rw [List.getElem?_eq_getElem (by rw [nowL_len, NM.out]; exact hqk)] at this
                      exact Option.some.inj this
                    rw [hnq] at cq
                    have hrd : Hid (M.read (q : Int) = (M.get q, 0)) := Lib.hid (read_in ho (by rw [NM.out]; exact hqk))
                    have HO := Lib.hid ho
                    clear hnq ho
                    go_wp2_with fail
                    refine (on_any (O.pick 2)).mono ?_
                    rw [HO.out]
                    rintro e w3 ⟨rfl, rfl⟩
                    go_wp2_with fail
                    refine (is10_own (O.pick 2) q (I64.nat (by omega)) (M.get q) true (by rw [hrd.out]; simp)).mono ?_
                    clear O cq
                    rintro e w3 ⟨rfl, O⟩
                    replace O := O.selK 4 [1, 2, 0, 3]
                    go_wp2
                    go_roundw
                    case rel => exact ⟨q + 1, by go_num, by omega, O⟩
                    case measure => simp [intOf]; omega
                  · have HO := Lib.hid ho
                    clear ho
                    go_wp2_with fail
                    refine (on_any (O.pick 2)).mono ?_
                    rw [HO.out]
                    rintro e w3 ⟨rfl, rfl⟩
                    go_wp2
                    go_roundw
                    case rel => exact ⟨i + 1, M, _, _, _, _, rfl, rfl, by go_num, by omega, FM.out, NM.out, EM.out, O⟩
                    case measure => simp [intOf]; omega
                · have hb2 : ¬ (q : Int) < (k : Int) := by omega
                  go_wp2
                  go_roundw
                  case rel => exact ⟨i + 1, M, _, _, _, _, rfl, rfl, by go_num, by omega, FM.out, NM.out, EM.out, O⟩
                  case measure => simp [intOf]; omega
            · have hsy : m.sync = (({ m with was := fun _ => none } : Dk).did, 0) := by unfold Dk.sync; rw [if_neg (by simp [ho])]
              rw [hsy] at hM
              have HM := Lib.hid hsy
              have en := sync_nowL m
              have ew := sync_wasL m
              replace hM : M = ({ m with was := fun _ => none } : Dk).did := hM
              rw [← hM] at en ew HM
              have EN := Lib.hid en; have EW := Lib.hid ew
              clear hsy ho en ew hM
              go_wp2_with fail
              refine (sync_fit O3 HF.out (by omega) HM.out).mono ?_
              clear O3
              rintro e w3 ⟨rfl, O⟩
              replace O := O.selK 4 [1, 2, 0, 3]
              have KD := Lib.hid O.strsKind
              obtain ⟨GS, SR⟩ : ∃ G, StrsR w3 (.slice an k cn) m.nowL G := ⟨_, O.strsR⟩
              have SR2 : Hid (StrsR (w3.alloc (.cells #[] 9)) (.slice an k cn) m.nowL GS) := Lib.hid (SR.keep ((Chg.refl [] w3).alloc _) (by simp))
              have hl1 : Hid (([] : List (List UInt8)).length + m.nowL.length ≤ 1000000000) := Lib.hid (by rw [nowL_len, HN.out]; simp; omega)
              clear SR
              go_wp2_with (at_builtin; refine wpList_append_strsO rfl _ _ rfl _ [] _ m.nowL GS O.emptyStrs rfl rfl SR2.out KD.out hl1.out ?_)
              intro v' w6 O6
              replace O6 := O6.selK 5 [1, 0, 3, 4]
              obtain ⟨aw', cw', hv'⟩ := (O6.pick 1).shape
              subst hv'
              rw [show m.nowL.length = k from by rw [nowL_len, HN.out]] at O6 ⊢
              replace O := O6
              clear O6 KD SR2 hl1
              rw [← EN.out] at O
              have ew2 : M.wasL = M.nowL := by rw [EW.out, EN.out]
              rw [show (strs (.slice aw' k cw') M.nowL) = strs (.slice aw' k cw') M.wasL from by rw [ew2]] at O
              clear ew2
              go_wp2_with fail
              go_loopw [17] (fun qv wr => ∃ q : Nat, qv = .int .i64 q ∧ q ≤ k ∧ Own w wr [strs (.slice an k cn) M.nowL, strs (.slice aw' k cw') M.wasL, dk (.pointer (some ⟨b, 0, none⟩)) M, rowv 33 5 (.slice (some ⟨g9, 0, none⟩) T c9) T ((rowSt l).flatMap St.cell)]) (fun qv _ => k - (intOf qv).toNat)
              case atStart => exact ⟨0, rfl, by omega, O⟩
              case round =>
                clear O
                obtain ⟨q, rfl, hq, O⟩ := hrel
                by_cases hqk : q < k
                · have hb2 : (q : Int) < (k : Int) := by omega
                  cases ho : M.off
                  · obtain ⟨-, gq, eq1, cq, -⟩ := O.strsAt q (by rw [nowL_len, NM.out]; exact hqk)
                    subst eq1
                    have hnq : M.nowL[q]'(by rw [nowL_len, NM.out]; exact hqk) = M.get q := by
                      have := nowL_at (m := M) (k := q) (by rw [NM.out]; exact hqk)
                      rw [List.getElem?_eq_getElem (by rw [nowL_len, NM.out]; exact hqk)] at this
                      exact Option.some.inj this
                    rw [hnq] at cq
                    have hrd : Hid (M.read (q : Int) = (M.get q, 0)) := Lib.hid (read_in ho (by rw [NM.out]; exact hqk))
                    have HO := Lib.hid ho
                    clear hnq ho
                    go_wp2_with fail
                    refine (on_any (O.pick 2)).mono ?_
                    rw [HO.out]
                    rintro e w3 ⟨rfl, rfl⟩
                    go_wp2_with fail
                    refine (is10_own (O.pick 2) q (I64.nat (by omega)) (M.get q) true (by rw [hrd.out]; simp)).mono ?_
                    clear O cq
                    rintro e w3 ⟨rfl, O⟩
                    replace O := O.selK 4 [1, 2, 0, 3]
                    go_wp2
                    go_roundw
                    case rel => exact ⟨q + 1, by go_num, by omega, O⟩
                    case measure => simp [intOf]; omega
                  · have HO := Lib.hid ho
                    clear ho
                    go_wp2_with fail
                    refine (on_any (O.pick 2)).mono ?_
                    rw [HO.out]
                    rintro e w3 ⟨rfl, rfl⟩
                    go_wp2
                    go_roundw
                    case rel => exact ⟨i + 1, M, _, _, _, _, rfl, rfl, by go_num, by omega, FM.out, NM.out, EM.out, O⟩
                    case measure => simp [intOf]; omega
                · have hb2 : ¬ (q : Int) < (k : Int) := by omega
                  go_wp2
                  go_roundw
                  case rel => exact ⟨i + 1, M, _, _, _, _, rfl, rfl, by go_num, by omega, FM.out, NM.out, EM.out, O⟩
                  case measure => simp [intOf]; omega
          rw [if_neg h1] at hM
          have i1 : (s.what == 1) = false := by simp [h1]
          clear h1
          by_cases h2 : s.what = 2
          · rw [if_pos h2] at hM
            have i2 : (s.what == 2) = true := by simp [h2]
            clear h2
            have O3 := O.selK 5 [3, 1, 2, 4]
            clear O
            go_wp2_with fail
            refine (fail_any s.at0 hle O3).mono ?_
            clear O3
            rintro e w3 ⟨rfl, O⟩
            replace O : Own w w3 [strs (.slice an k cn) (m.fail s.at0).nowL, strs (.slice aw k cw) (m.fail s.at0).wasL, dk (.pointer (some ⟨b, 0, none⟩)) (m.fail s.at0), rowv 33 5 (.slice (some ⟨g9, 0, none⟩) T c9) T ((rowSt l).flatMap St.cell)] := O.selK 4 [1, 2, 0, 3]
            rw [← hM] at O
            clear hM
            go_wp2_with fail
            go_loopw [17] (fun qv wr => ∃ q : Nat, qv = .int .i64 q ∧ q ≤ k ∧ Own w wr [strs (.slice an k cn) M.nowL, strs (.slice aw k cw) M.wasL, dk (.pointer (some ⟨b, 0, none⟩)) M, rowv 33 5 (.slice (some ⟨g9, 0, none⟩) T c9) T ((rowSt l).flatMap St.cell)]) (fun qv _ => k - (intOf qv).toNat)
            case atStart => exact ⟨0, rfl, by omega, O⟩
            case round =>
              clear O
              obtain ⟨q, rfl, hq, O⟩ := hrel
              by_cases hqk : q < k
              · have hb2 : (q : Int) < (k : Int) := by omega
                cases ho : M.off
                · obtain ⟨-, gq, eq1, cq, -⟩ := O.strsAt q (by rw [nowL_len, NM.out]; exact hqk)
                  subst eq1
                  have hnq : M.nowL[q]'(by rw [nowL_len, NM.out]; exact hqk) = M.get q := by
                    have := nowL_at (m := M) (k := q) (by rw [NM.out]; exact hqk)
                    rw [List.getElem?_eq_getElem (by rw [nowL_len, NM.out]; exact hqk)] at this
                    exact Option.some.inj this
                  rw [hnq] at cq
                  have hrd : Hid (M.read (q : Int) = (M.get q, 0)) := Lib.hid (read_in ho (by rw [NM.out]; exact hqk))
                  have HO := Lib.hid ho
                  clear hnq ho
                  go_wp2_with fail
                  refine (on_any (O.pick 2)).mono ?_
                  rw [HO.out]
                  rintro e w3 ⟨rfl, rfl⟩
                  go_wp2_with fail
                  refine (is10_own (O.pick 2) q (I64.nat (by omega)) (M.get q) true (by rw [hrd.out]; simp)).mono ?_
                  clear O cq
                  rintro e w3 ⟨rfl, O⟩
                  replace O := O.selK 4 [1, 2, 0, 3]
                  go_wp2
                  go_roundw
                  case rel => exact ⟨q + 1, by go_num, by omega, O⟩
                  case measure => simp [intOf]; omega
                · have HO := Lib.hid ho
                  clear ho
                  go_wp2_with fail
                  refine (on_any (O.pick 2)).mono ?_
                  rw [HO.out]
                  rintro e w3 ⟨rfl, rfl⟩
                  go_wp2
                  go_roundw
                  case rel => exact ⟨i + 1, M, _, _, _, _, rfl, rfl, by go_num, by omega, FM.out, NM.out, EM.out, O⟩
                  case measure => simp [intOf]; omega
              · have hb2 : ¬ (q : Int) < (k : Int) := by omega
                go_wp2
                go_roundw
                case rel => exact ⟨i + 1, M, _, _, _, _, rfl, rfl, by go_num, by omega, FM.out, NM.out, EM.out, O⟩
                case measure => simp [intOf]; omega
          rw [if_neg h2] at hM
          have i2 : (s.what == 2) = false := by simp [h2]
          clear h2
          by_cases h3 : s.what = 3
          · rw [if_pos h3] at hM
            have i3 : (s.what == 3) = true := by simp [h3]
            clear h3
            have O3 := O.selK 5 [3, 1, 2, 4, 0]
            clear O
            obtain ⟨G', SL'⟩ := SL.out
            have SLH := Lib.hid SL'
            clear SL'
            go_wp2_with fail
            refine (dirty_dk O3 (HF.out.small (by omega)) HF.out.ok.dom).mono ?_
            clear O3
            rintro e w3 ⟨da, dc, rfl, O⟩
            have O3 := O.selK 6 [1, 3, 2, 0, 4, 5]
            have d4 : w3.cell? ⟨z, 4, none⟩ = some (.slice s.ka s.keep.length s.kc) := (O.selK 6 [5]).cell 4
            clear O c0 c1 c2 c3 c4
            have hkl : Hid (s.keep.length ≤ maxLen) := Lib.hid sw.out.keep.1
            have hcame : Hid (∀ w' m', Own w w' (dk (.pointer (some ⟨b, 0, none⟩)) m' :: strs (.slice aw k cw) m.wasL :: strs (.slice an k cn) m.nowL :: nums (.slice da m.dirty.length dc) m.dirty :: [rowv 33 5 (.slice (some ⟨g9, 0, none⟩) T c9) T ((rowSt l).flatMap St.cell), box z #[.int .u8 s.what, .int .i64 s.at0, .int .u8 (s.by_.toNat : Int), .int .i64 s.odd, .slice s.ka s.keep.length s.kc] 33]) → ∃ G, SlR w' (.slice s.ka s.keep.length s.kc) (s.keep.map (Value.int .i64)) G) := Lib.hid (fun w' m' O' => ⟨G', O'.cameSl SLH.out⟩)
            rcases Bool.eq_false_or_eq_true m.off with ho | ho
            · have hbt : Hid (m.boot s.keep = ((m.boot s.keep).1, 0)) := Lib.hid (by unfold Dk.boot; rw [if_pos ho])
              have hkb : Hid (KeptOk (m.boot s.keep).1 m.dirty m.wasL m.nowL) := Lib.hid (kept_boot HF.out.ok ho s.keep)
              have hon : Hid ((m.boot s.keep).1.off = false) := Lib.hid (boot_on m ho s.keep)
              have hww : Hid ((m.boot s.keep).1.wasL = (m.boot s.keep).1.nowL) := Lib.hid (boot_wasL HF.out.ok ho s.keep)
              obtain rfl : onb = false := by rw [← HON.out, ho]; rfl
              rw [← hM] at hbt hkb hon hww
              clear ho hM
              go_wp2_with fail
              refine (boot_fit O3 HF.out (by omega) s.ka s.keep.length s.kc s.keep hcame.out hkl.out hbt.out).mono ?_
              clear O3 d4
              rintro e w4 ⟨rfl, O⟩
              go_wp2_with fail
              refine (on_any O).mono ?_
              rw [hon.out]
              rintro e w5 ⟨rfl, rfl⟩
              have hdl : Hid (m.dirty.length ≤ 1024) := Lib.hid (dirty_len (HF.out.small (by omega)))
              have hdi : Hid (∀ d ∈ m.dirty, 0 ≤ d ∧ d < (M.n : Int)) := Lib.hid (fun d hd => by have := dirty_in m d hd; rw [HN.out] at this; rw [NM.out]; exact this)
              go_wp2_with fail
              refine (kept_own hon.out O (by rw [NM.out]; omega) (by rw [wasL_len, HN.out, NM.out]) (by rw [nowL_len, HN.out, NM.out]) hdi.out hdl.out hkb.out).mono ?_
              clear O
              rintro e w5 ⟨rfl, O⟩
              replace O := O.selK 6 [1, 0, 4]
              rw [← mix_zero M.nowL m.wasL] at O
              go_wp2_with fail
              go_loopw [16] (fun qv wr => ∃ q : Nat, qv = .int .i64 q ∧ q ≤ k ∧ Own w wr [strs (.slice aw k cw) (M.nowL.take q ++ m.wasL.drop q), dk (.pointer (some ⟨b, 0, none⟩)) M, rowv 33 5 (.slice (some ⟨g9, 0, none⟩) T c9) T ((rowSt l).flatMap St.cell)]) (fun qv _ => k - (intOf qv).toNat)
              case atStart => exact ⟨0, rfl, by omega, O⟩
              case round =>
                clear O
                obtain ⟨q, rfl, hq', O⟩ := hrel
                have hn1 : M.nowL.length = k := by rw [nowL_len, NM.out]
                have hn2 : m.wasL.length = k := by rw [wasL_len, HN.out]
                have HN1 := Lib.hid hn1; have HN2 := Lib.hid hn2
                clear hn1 hn2
                by_cases hqk : q < k
                · have hb2 : (q : Int) < (k : Int) := by omega
                  have hrd : Hid (M.read (q : Int) = (M.get q, 0)) := Lib.hid (read_in hon.out (by rw [NM.out]; exact hqk))
                  go_wp2_with fail
                  refine (read_own (O.pick 1) q (I64.nat (by omega))).mono ?_
                  rw [hrd.out]
                  clear O
                  rintro e w6 ⟨rfl, O⟩
                  have hl5 : q < (M.nowL.take q ++ m.wasL.drop q).length := by
                    have := HN1.out; have := HN2.out
                    simp; omega
                  obtain ⟨-, gw, egw, cw0, fw0⟩ := (O.pick 1).strsAt q hl5
                  subst egw
                  have O5 := (O.pick 1).store q (M.get q)
                  rw [mix_set (by rw [HN1.out]; exact hqk) (by rw [HN2.out]; exact hqk) (nowL_at (by rw [NM.out]; exact hqk))] at O5
                  obtain ⟨old, hold⟩ : ∃ old, old = (M.nowL.take q ++ m.wasL.drop q)[q] := ⟨_, rfl⟩
                  rw [← hold] at cw0
                  clear hold hl5 O
                  go_wp2
                  go_roundw
                  case rel => exact ⟨q + 1, by go_num, by omega, O5⟩
                  case measure => simp [intOf]; omega
                · have hb2 : ¬ (q : Int) < (k : Int) := by omega
                  obtain rfl : k = q := by omega
                  have e1 := mix_end (A := M.nowL) (B := m.wasL) (by rw [HN1.out, HN2.out])
                  rw [HN1.out] at e1
                  rw [e1] at O
                  clear e1
                  have KD := Lib.hid O.strsKind
                  obtain ⟨GS, SR⟩ : ∃ G, StrsR wr (.slice aw k cw) M.nowL G := ⟨_, O.strsR⟩
                  have SR2 : Hid (StrsR (wr.alloc (.cells #[] 9)) (.slice aw k cw) M.nowL GS) := Lib.hid (SR.keep ((Chg.refl [] wr).alloc _) (by simp))
                  have hl1 : Hid (([] : List (List UInt8)).length + M.nowL.length ≤ 1000000000) := Lib.hid (by rw [nowL_len, NM.out]; simp; omega)
                  clear SR
                  go_wp2_with (at_builtin; refine wpList_append_strsO rfl _ _ rfl _ [] _ M.nowL GS O.emptyStrs rfl rfl SR2.out KD.out hl1.out ?_)
                  intro v' w6 O6
                  obtain ⟨an', cn', hv'⟩ := O6.shape
                  subst hv'
                  rw [show M.nowL.length = k from by rw [nowL_len, NM.out]] at O6 ⊢
                  replace O := O6
                  rw [show (strs (.slice aw k cw) M.nowL) = strs (.slice aw k cw) M.wasL from by rw [hww.out]] at O
                  clear O6 KD SR2 hl1
                  go_wp2_with fail
                  go_loopw [17] (fun qv wr => ∃ q : Nat, qv = .int .i64 q ∧ q ≤ k ∧ Own w wr [strs (.slice an' k cn') M.nowL, strs (.slice aw k cw) M.wasL, dk (.pointer (some ⟨b, 0, none⟩)) M, rowv 33 5 (.slice (some ⟨g9, 0, none⟩) T c9) T ((rowSt l).flatMap St.cell)]) (fun qv _ => k - (intOf qv).toNat)
                  case atStart => exact ⟨0, rfl, by omega, O⟩
                  case round =>
                    clear O
                    obtain ⟨q, rfl, hq, O⟩ := hrel
                    by_cases hqk : q < k
                    · have hb2 : (q : Int) < (k : Int) := by omega
                      cases ho : M.off
                      · obtain ⟨-, gq, eq1, cq, -⟩ := O.strsAt q (by rw [nowL_len, NM.out]; exact hqk)
                        subst eq1
                        have hnq : M.nowL[q]'(by rw [nowL_len, NM.out]; exact hqk) = M.get q := by
                          have := nowL_at (m := M) (k := q) (by rw [NM.out]; exact hqk)
                          rw [List.getElem?_eq_getElem (by rw [nowL_len, NM.out]; exact hqk)] at this
                          exact Option.some.inj this
                        rw [hnq] at cq
                        have hrd : Hid (M.read (q : Int) = (M.get q, 0)) := Lib.hid (read_in ho (by rw [NM.out]; exact hqk))
                        have HO := Lib.hid ho
                        clear hnq ho
                        go_wp2_with fail
                        refine (on_any (O.pick 2)).mono ?_
                        rw [HO.out]
                        rintro e w3 ⟨rfl, rfl⟩
                        go_wp2_with fail
                        refine (is10_own (O.pick 2) q (I64.nat (by omega)) (M.get q) true (by rw [hrd.out]; simp)).mono ?_
                        clear O cq
                        rintro e w3 ⟨rfl, O⟩
                        replace O := O.selK 4 [1, 2, 0, 3]
                        go_wp2
                        go_roundw
                        case rel => exact ⟨q + 1, by go_num, by omega, O⟩
                        case measure => simp [intOf]; omega
                      · have HO := Lib.hid ho
                        clear ho
                        go_wp2_with fail
                        refine (on_any (O.pick 2)).mono ?_
                        rw [HO.out]
                        rintro e w3 ⟨rfl, rfl⟩
                        go_wp2
                        go_roundw
                        case rel => exact ⟨i + 1, M, _, _, _, _, rfl, rfl, by go_num, by omega, FM.out, NM.out, EM.out, O⟩
                        case measure => simp [intOf]; omega
                    · have hb2 : ¬ (q : Int) < (k : Int) := by omega
                      go_wp2
                      go_roundw
                      case rel => exact ⟨i + 1, M, _, _, _, _, rfl, rfl, by go_num, by omega, FM.out, NM.out, EM.out, O⟩
                      case measure => simp [intOf]; omega
            · have hbt : Hid (m.boot s.keep = (m, 7)) := Lib.hid (by unfold Dk.boot; rw [if_neg (by simp [ho])])
              have hMm : M = m := by rw [hM, hbt.out]
              subst hMm
              clear ho hM
              go_wp2_with fail
              refine (boot_fit O3 HF.out (by omega) s.ka s.keep.length s.kc s.keep hcame.out hkl.out hbt.out).mono ?_
              clear O3 d4
              rintro e w4 ⟨rfl, O⟩
              replace O := O.selK 6 [2, 1, 0, 4]
              go_wp2
              go_roundw
              case rel => exact ⟨i + 1, M, _, _, _, _, rfl, rfl, by go_num, by omega, FM.out, NM.out, EM.out, O⟩
              case measure => simp [intOf]; omega
          · rw [if_neg h3] at hM
            subst hM
            have i3 : (s.what == 3) = false := by simp [h3]
            clear h3
            replace O := O.selK 5 [1, 2, 3, 4]
            go_wp2_with fail
            go_loopw [17] (fun qv wr => ∃ q : Nat, qv = .int .i64 q ∧ q ≤ k ∧ Own w wr [strs (.slice an k cn) M.nowL, strs (.slice aw k cw) M.wasL, dk (.pointer (some ⟨b, 0, none⟩)) M, rowv 33 5 (.slice (some ⟨g9, 0, none⟩) T c9) T ((rowSt l).flatMap St.cell)]) (fun qv _ => k - (intOf qv).toNat)
            case atStart => exact ⟨0, rfl, by omega, O⟩
            case round =>
              clear O
              obtain ⟨q, rfl, hq, O⟩ := hrel
              by_cases hqk : q < k
              · have hb2 : (q : Int) < (k : Int) := by omega
                cases ho : M.off
                · obtain ⟨-, gq, eq1, cq, -⟩ := O.strsAt q (by rw [nowL_len, NM.out]; exact hqk)
                  subst eq1
                  have hnq : M.nowL[q]'(by rw [nowL_len, NM.out]; exact hqk) = M.get q := by
                    have := nowL_at (m := M) (k := q) (by rw [NM.out]; exact hqk)
                    rw [List.getElem?_eq_getElem (by rw [nowL_len, NM.out]; exact hqk)] at this
                    exact Option.some.inj this
                  rw [hnq] at cq
                  have hrd : Hid (M.read (q : Int) = (M.get q, 0)) := Lib.hid (read_in ho (by rw [NM.out]; exact hqk))
                  have HO := Lib.hid ho
                  clear hnq ho
                  go_wp2_with fail
                  refine (on_any (O.pick 2)).mono ?_
                  rw [HO.out]
                  rintro e w3 ⟨rfl, rfl⟩
                  go_wp2_with fail
                  refine (is10_own (O.pick 2) q (I64.nat (by omega)) (M.get q) true (by rw [hrd.out]; simp)).mono ?_
                  clear O cq
                  rintro e w3 ⟨rfl, O⟩
                  replace O := O.selK 4 [1, 2, 0, 3]
                  go_wp2
                  go_roundw
                  case rel => exact ⟨q + 1, by go_num, by omega, O⟩
                  case measure => simp [intOf]; omega
                · have HO := Lib.hid ho
                  clear ho
                  go_wp2_with fail
                  refine (on_any (O.pick 2)).mono ?_
                  rw [HO.out]
                  rintro e w3 ⟨rfl, rfl⟩
                  go_wp2
                  go_roundw
                  case rel => exact ⟨i + 1, M, _, _, _, _, rfl, rfl, by go_num, by omega, FM.out, NM.out, EM.out, O⟩
                  case measure => simp [intOf]; omega
              · have hb2 : ¬ (q : Int) < (k : Int) := by omega
                go_wp2
                go_roundw
                case rel => exact ⟨i + 1, M, _, _, _, _, rfl, rfl, by go_num, by omega, FM.out, NM.out, EM.out, O⟩
                case measure => simp [intOf]; omega
end Go.Proofs.Ytobflkddkplpiaa
