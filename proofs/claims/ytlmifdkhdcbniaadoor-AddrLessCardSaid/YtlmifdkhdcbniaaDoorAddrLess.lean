/- AddrLess: the walk. -/
import Derived.Test.YtlmifdkhdcbniaaDoorAdApp
import Derived.Deep.RegionHeld3
import Derived.Deep.DeepCutAuto
import Derived.Test.YtlmifdkhdcbniaaDoorAdLessP
import Derived.Test.YtlmifdkhdcbniaaDoorAdMail
import Derived.Test.YtlmifdkhdcbniaaDoorAdLessQ
import Derived.WalkLawsBesides
import Derived.Sort.Walk0
namespace Go.Proofs.YtlmifdkhdcbniaaDoor
set_option linter.all false
open Go.RowKit

theorem cell_blt {w : World} {b o : Nat} {v : Value} (h : w.cell? ⟨b, o, none⟩ = some v) : b < w.heap.size := by
  rcases Nat.lt_or_ge b w.heap.size with h' | h'
  · exact h'
  · simp [World.cell?, Array.getElem?_eq_none h'] at h
theorem own_val (m : Ml) : m.val = .agg #[.string ⟨m.frm.toArray⟩, .slice m.ra m.rc.length m.rcap, .bool m.req, .string ⟨m.env.toArray⟩, .string ⟨m.txt.toArray⟩] := rfl
theorem small_of {m : Ml} (hc : m.rc.length ≤ m.rcap) (h3 : m.rc.length ≤ 300) (h : ∀ s, s ∈ textsL m → s.length ≤ 9000) : m.Small := by
  refine ⟨?_, ?_, ?_, by omega, hc, fun r hr => ?_⟩
  · have := h m.frm (by simp [textsL, tx]); omega
  · have := h m.env (by simp [textsL, tx]); omega
  · have := h m.txt (by simp [textsL, tx]); omega
  · have := h r.1 (by
      unfold textsL tx
      rw [List.take_of_length_le (by omega)]
      simp only [List.mem_append, List.mem_map]
      exact .inr ⟨r, hr, rfl⟩)
    omega
set_option maxRecDepth 100000 in
set_option maxHeartbeats 8000000 in
theorem addrLess_walk {w : World} (K : Kinds w) (mx : Int) (hmx : MaxLenAt w mx) (v : Value) (o : ∃ (m : Ml) (G : List Nat), MailIn w v m G) (rcpts : Int) (hr : (Lit.int .i64 rcpts).wf = true) (most : Int) (hmo : (Lit.int .i64 most).wf = true) :
    Calls Tryd.prog 7 #[v, .int .i64 rcpts, .int .i64 most] w fun e w' => e = .returned (.bool true) ∧ Below w.heap.size w w' := by
  obtain ⟨m, G, rfl, hrc, hcap, hmax, hkind⟩ := o
  have HM := Lib.hid hmx
  obtain ⟨frm, ra, rcap, rc, req, env, txt⟩ := m
  obtain ⟨N, hN⟩ : ∃ n, n = rc.length := ⟨_, rfl⟩
  have O := (Own.start w).newBox #[.string ⟨frm.toArray⟩, .slice ra N rcap, .bool req, .string ⟨env.toArray⟩, .string ⟨txt.toArray⟩] 39
  have TX := fun (W : World) (L : List Piece) (O : Own w W L) => texts_own O ⟨frm, ra, rcap, rc, req, env, txt⟩ (hrc.own O) hmax
  rw [own_val]
  simp only at hrc hcap hmax hkind ⊢
  simp only [own_val] at TX
  have HSM := fun h3 h => small_of (m := ⟨frm, ra, rcap, rc, req, env, txt⟩) hcap h3 h
  generalize hTL : textsL ⟨frm, ra, rcap, rc, req, env, txt⟩ = tl at TX HSM
  have ML := fun (W : World) (L : List Piece) (O : Own w W L) (hs : Ml.Small ⟨frm, ra, rcap, rc, req, env, txt⟩) (r : Int) (hE : Ml.err ⟨frm, ra, rcap, rc, req, env, txt⟩ rcpts most = r) => mail_own K HM.out O ⟨frm, ra, rcap, rc, req, env, txt⟩ (hrc.own O) hs hE
  have DL := fun (W : World) (L : List Piece) (O : Own w W L) (hs : Ml.Small ⟨frm, ra, rcap, rc, req, env, txt⟩) => domains_own K O ⟨frm, ra, rcap, rc, req, env, txt⟩ (hrc.own O) hs (ds := domsS rc) rfl
  simp only [own_val] at ML DL
  rw [← hN] at TX ML DL HSM ⊢
  have htl : tl.length ≤ 1000000 := by
    rw [← hTL]; exact Nat.le_trans (tx_len _ _ _ _ _) (by omega)
  have HN := Lib.hid hN
  have HCAP := Lib.hid (show N ≤ rcap by omega)
  have HKIND := Lib.hid hkind
  clear hmx hN hTL hcap hmax hkind
  obtain ⟨c0, c1, c2, c3, c4⟩ := box5 O
  go_enter Tryd.func7, Tryd.ntmps7
  go_wp2_with fail
  refine (works4_own K O).mono ?_
  clear O c0 c1 c2 c3 c4
  rintro e w1 ⟨rfl, O⟩
  obtain ⟨c0, c1, c2, c3, c4⟩ := box5 O
  go_wp2_with fail
  refine (TX _ _ O).mono ?_
  clear O TX c0 c1 c2 c3 c4
  rintro e w2 ⟨tv, rfl, O⟩
  obtain ⟨ta, tcap, rfl⟩ := O.shape
  obtain ⟨c0, c1, c2, c3, c4⟩ := box5 (O.pick 1)
  have LG := long4_free tl _ _ _ O.strsR htl
  go_wp2_with fail
  refine LG.mono ?_
  clear LG
  rintro e w3 ⟨r, rfl, rfl, hlong⟩
  cases r
  rotate_left
  · clear hlong
    go_wp2_with fail
    refine (works4_own K O).mono ?_
    clear O
    rintro e w9 ⟨rfl, O⟩
    go_wp2
    go_ret
    exact ⟨rfl, O.below⟩
  have HLONG := Lib.hid (hlong rfl)
  clear hlong
  by_cases h300 : (300 : Int) < (N : Int)
  · go_wp2_with fail
    refine (works4_own K O).mono ?_
    clear O
    rintro e w9 ⟨rfl, O⟩
    go_wp2
    go_ret
    exact ⟨rfl, O.below⟩
  have SM := Lib.hid (HSM (by omega) HLONG.out)
  clear HLONG HSM
  have hN3 : N ≤ 300 := by omega
  obtain ⟨E, hE⟩ : ∃ x, Ml.err ⟨frm, ra, rcap, rc, req, env, txt⟩ rcpts most = x := ⟨_, rfl⟩
  go_wp2_with fail
  refine (ML _ _ O SM.out E hE).mono ?_
  clear O c0 c1 c2 c3 c4
  rintro e w4 ⟨rfl, O⟩
  by_cases hE0 : E = 0
  rotate_left
  · have hE1 : (E != 0) = true := by simpa using hE0
    go_wp2_with fail
    refine (works4_own K O).mono ?_
    clear O
    rintro e w9 ⟨rfl, O⟩
    go_wp2
    go_ret
    exact ⟨rfl, O.below⟩
  subst hE0
  have HE := Lib.hid hE
  replace O := O.drop
  clear hE h300
  obtain ⟨c0, c1, c2, c3, c4⟩ := box5 O
  go_wp2_with fail
  refine (DL _ _ O SM.out).mono ?_
  clear O c0 c1 c2 c3 c4 DL htl
  rintro e w5 ⟨dv, rfl, O⟩
  obtain ⟨ds, hds⟩ : ∃ x, x = domsS rc := ⟨_, rfl⟩
  rw [← hds] at O
  have HDS := Lib.hid hds
  clear hds
  obtain ⟨da, dcap, rfl⟩ := O.shape
  obtain ⟨dn, hdn⟩ : ∃ n, n = ds.length := ⟨_, rfl⟩
  rw [← hdn] at O ⊢
  have HDN := Lib.hid hdn
  clear hdn
  have hdn3 : dn ≤ 300 := by
    have h1 := Lib.compact_length_le (sortS (doms rc))
    have h2 : (sortS (doms rc)).length = (doms rc).length := List.length_mergeSort _
    have h3 := doms_len rc
    have h4 : ds.length = (Lib.compact (sortS (doms rc))).length := by rw [HDS.out]; rfl
    have h5 := HN.out
    have h6 := HDN.out
    omega
  obtain ⟨i0, hi0, hz0, hz1, hz2⟩ := info_parts info_boolA
  have HI := Lib.hid hi0; have HZ := Lib.hid hz0; have HZ1 := Lib.hid hz1; have HZ2 := Lib.hid hz2
  clear hi0 hz0 hz1 hz2
  go_wp2_with (at_make; refine wpList_make_rowO (e := 4) (size := 1) rfl _ rfl i0 (.bool false) Tryd.underlying46 HI.out HZ.out HZ1.out (by rw [HZ2.out]; omega) dn rfl (by omega) O ?_)
  intro fg w6 O1
  clear O
  have hms : (madeCells #[Value.bool false] dn).toList = fC rc ds 0 0 := by
    rw [fC_start, ← HDN.out]; exact made_false dn
  rw [hms] at O1
  clear hms
  have HERR := Lib.hid (err_zero HE.out)
  go_wp2_with fail
  go_loopw [9] (fun iv wr => ∃ i : Nat, i ≤ N ∧ iv = .int .i64 i ∧ Own w wr [rowv 4 1 (.slice (some ⟨fg, 0, none⟩) dn dn) dn (fC rc ds i 0), strs (.slice da dn dcap) ds, box w.heap.size #[.string ⟨frm.toArray⟩, .slice ra N rcap, .bool req, .string ⟨env.toArray⟩, .string ⟨txt.toArray⟩] 39]) (fun iv _ => N - (intOf iv).toNat)
  case atStart => exact ⟨0, by omega, rfl, O1⟩
  case round =>
    clear O1
    obtain ⟨i, hi, rfl, O⟩ := hrel
    obtain ⟨c0, c1, c2, c3, c4⟩ := box5 (O.pick 2)
    by_cases hlt : i < N
    · have hb1 : (i : Int) < (N : Int) := by omega
      have hil : i < rc.length := by have := HN.out; omega
      obtain ⟨g, off, rfl, hg, hcell⟩ := (hrc.own O) (by omega)
      obtain ⟨d0, d1⟩ := hcell i hil
      have hly := SM.out.to _ (List.getElem_mem hil)
      have hpy : parseB rc[i].1 = true := rcOk_parse [] rc HERR.out.2.2.2 _ (List.getElem_mem hil)
      have hdm : domL rc[i].1 ∈ ds := by rw [HDS.out, domsS_mem, mem_doms]; exact ⟨_, List.getElem_mem hil, hpy, rfl⟩
      have FS := fun k (hk : k < ds.length) => fC_set (rc := rc) (ds := ds) hil hk
      change rc[i].1.length ≤ 100000 at hly
      generalize rc[i] = y at d0 d1 hly hpy hdm FS
      clear hcell
      obtain ⟨y, yb⟩ := y
      simp only at d0 d1 hly hpy hdm FS
      have HFS := Lib.hid FS
      have HDM := Lib.hid hdm
      have HPY := Lib.hid (parseV_true hpy)
      clear FS hdm hpy
      go_wp2_with fail
      refine (parse_is K O HPY.out (by omega)).mono ?_
      clear O c0 c1 c2 c3 c4 d0 d1 HPY
      rintro e w7 ⟨rfl, O⟩
      generalize domL y = d at HFS HDM ⊢
      generalize locL y = ly
      go_wp2_with fail
      go_loopw [13, 14] (fun bv kv wr => ∃ (k : Nat) (b : Bool), k ≤ dn ∧ kv = .int .i64 k ∧ bv = .bool b ∧ ((ds.take k).any (· == d) = b) ∧ Own w wr [rowv 4 1 (.slice (some ⟨fg, 0, none⟩) dn dn) dn (fC rc ds i k), strs (.slice da dn dcap) ds, box w.heap.size #[.string ⟨frm.toArray⟩, .slice (some ⟨g, off, none⟩) N rcap, .bool req, .string ⟨env.toArray⟩, .string ⟨txt.toArray⟩] 39]) (fun _ kv _ => dn - (intOf kv).toNat)
      case atStart => exact ⟨0, false, by omega, rfl, rfl, rfl, O⟩
      case round =>
        clear O
        obtain ⟨k, b, hk, rfl, rfl, hb, O⟩ := hrel
        have HB := Lib.hid hb
        clear hb
        by_cases hlk : k < dn
        · have hb2 : (k : Int) < (dn : Int) := by omega
          have hkl : k < ds.length := by have := HDN.out; omega
          obtain ⟨-, gd, rfl, e0, -⟩ := (O.pick 1).strsAt k hkl
          obtain ⟨-, fg', hfg, f0, ff⟩ := O.rowvAt k (by rw [fC_len]; exact hkl)
          simp only [Option.some.injEq, Addr.mk.injEq, and_true] at hfg
          subst hfg
          rw [fC_at rc ds i k hkl] at f0
          have SET := Lib.hid (HFS.out k hkl)
          have NB : Hid ((ds.take (k + 1)).any (· == d) = (b || (ds[k] == d))) := by
            unfold Hid; rw [List.take_succ_eq_append_getElem hkl, List.any_append, HB.out]; simp
          have ST := fun u => O.rowvStore k u
          generalize hdk : ds[k] = x at e0 f0 SET NB
          generalize ((rc.take i).any fun r => domL r.1 == x) = old at f0 SET
          obtain ⟨q, hq⟩ : ∃ q, (x == d) = q := ⟨_, rfl⟩
          rw [hq] at SET NB
          have HST := fun u => Lib.hid (ST u)
          clear ST hdk HB
          cases b <;> cases old
          all_goals
            go_wp2_with fail
            go_roundw
            case rel => exact ⟨k + 1, _, by omega, by go_num, rfl, NB.out, by rw [← SET.out]; exact (HST (.bool _)).out⟩
            case measure => simp [intOf]; omega
        · obtain rfl : k = dn := by omega
          have hall := HB.out
          rw [List.take_of_length_le (by have := HDN.out; omega)] at hall
          have hb1 : b = true := by rw [← hall, List.any_eq_true]; exact ⟨d, HDM.out, by simp⟩
          subst hb1
          have TURN : Hid (fC rc ds i k = fC rc ds (i + 1) 0) := by unfold Hid; rw [← fC_turn, HDN.out]
          clear hall HB
          go_wp2_with fail
          go_roundw
          case rel => exact ⟨i + 1, by omega, by go_num, by rw [← TURN.out]; exact O⟩
          case measure => simp [intOf]; omega
    · obtain rfl : i = N := by omega
      have ALLF := Lib.hid (fun k hk hd => fC_end rc ds i (by have := HN.out; omega) k hk hd)
      have RISE : Hid (ds.Pairwise (· < ·)) := by unfold Hid; rw [HDS.out]; exact domsS_rising rc
      have INDS : Hid (∀ k (h : k < ds.length), ∃ r, r ∈ rc ∧ domL r.1 = ds[k]) := by
        intro k h
        have := List.getElem_mem h
        have h2 : ds[k] ∈ domsS rc := by rw [← HDS.out]; exact this
        rw [domsS_mem, mem_doms] at h2
        obtain ⟨r, h3, -, h4⟩ := h2
        exact ⟨r, h3, h4⟩
      go_wp2_with fail
      clear c0 c1 c2 c3 c4
      go_loopw [15] (fun kv wr => ∃ k : Nat, k ≤ dn ∧ kv = .int .i64 k ∧ Own w wr [rowv 4 1 (.slice (some ⟨fg, 0, none⟩) dn dn) dn (fC rc ds i 0), strs (.slice da dn dcap) ds, box w.heap.size #[.string ⟨frm.toArray⟩, .slice ra i rcap, .bool req, .string ⟨env.toArray⟩, .string ⟨txt.toArray⟩] 39]) (fun kv _ => dn - (intOf kv).toNat)
      case atStart => exact ⟨0, by omega, rfl, O⟩
      case round =>
        clear O
        obtain ⟨k, hk, rfl, O⟩ := hrel
        by_cases hlk : k < dn
        · have hb2 : (k : Int) < (dn : Int) := by omega
          have hkl : k < ds.length := by have := HDN.out; omega
          obtain ⟨-, gd, rfl, e0, -⟩ := (O.pick 1).strsAt k hkl
          obtain ⟨-, fg', hfg, f0, ff⟩ := O.rowvAt k (by rw [fC_len]; exact hkl)
          simp only [Option.some.injEq, Addr.mk.injEq, and_true] at hfg
          subst hfg
          rw [ALLF.out k hkl (INDS.out k hkl)] at f0
          by_cases hk0 : k = 0
          · subst hk0
            go_wp2_with fail
            go_quiet (fail)
            go_wp2
            go_roundw
            case rel => exact ⟨1, by omega, by go_num, O.drewN _⟩
            case measure => simp [intOf]; omega
          · have hk3 : 0 < k := by omega
            have hk1 : (0 : Int) < (k : Int) := by omega
            have hk2 : (1 : Int) ≤ (k : Int) := by omega
            have hkp : k - 1 < ds.length := by omega
            obtain ⟨-, gd', hgd, e1, -⟩ := (O.pick 1).strsAt (k - 1) hkp
            simp only [Option.some.injEq, Addr.mk.injEq, and_true] at hgd
            subst hgd
            have lt : ds[k - 1] < ds[k] := List.pairwise_iff_getElem.1 RISE.out (k - 1) k hkp hkl (by omega)
            have bl : Op.bytesLess ds[k - 1] ds[k] = true := by rw [bytesLess_eq]; exact decide_eq_true lt
            clear lt
            have j1 : (k : Int) - 1 < (dn : Int) := by omega
            have j5 : (k : Int) < (dn : Int) + 1 := by omega
            have j2 : 0 ≤ (k : Int) - 1 := by omega
            have j3 : ((k : Int) - 1).toNat = k - 1 := by omega
            have s1 : IntKind.i64.wrap ((k : Int) - 1) = (k : Int) - 1 := IntWalk.i64_in _ (by omega)
            go_wp2_with fail
            go_quiet (fail)
            go_wp2
            go_roundw
            case rel => exact ⟨k + 1, by omega, by go_num, O.drewN _⟩
            case measure => simp [intOf]; omega
        · obtain rfl : k = dn := by omega
          obtain ⟨c0, c1, c2, c3, c4⟩ := box5 (O.pick 2)
          have hNpos : 0 < i := by
            have h1 : 0 < rc.length := (head_parts HERR.out.2.2.1).1
            have h2 := HN.out
            omega
          by_cases hA : (i : Int) < rcpts
          focus
            go_upto_region 24 with fail
            obtain ⟨T, hT⟩ : ∃ n, n = wr.heap.size := ⟨_, rfl⟩
            have nT1 : w.heap.size ≠ T := by
              have := cell_blt c1
              omega
            have nT2 : ∀ g v, wr.cell? ⟨g, v, none⟩ ≠ none → g ≠ T := by
              intro g v h
              obtain ⟨u, hu⟩ := Option.ne_none_iff_exists'.1 h
              have := cell_blt hu
              omega
            have RCW := hrc.own O
            have O1 := O.newBox #[.string ⟨frm.toArray⟩, .slice ra i rcap, .bool req, .string ⟨env.toArray⟩, .string ⟨txt.toArray⟩] 39
            rw [← hT] at O1 ⊢
            clear O c0 c1 c2 c3 c4 hT
            generalize wr.alloc (.cells #[.string ⟨frm.toArray⟩, .slice ra i rcap, .bool req, .string ⟨env.toArray⟩, .string ⟨txt.toArray⟩] 39) = W at O1 ⊢
            obtain ⟨c0, c1, c2, c3, c4⟩ := box5 (O1.pick 3)
            obtain ⟨g, off, rfl, hg, hcell⟩ := (hrc.own O1) (by have := HN.out; omega)
            have hp0 : 0 < rc.length := by have := HN.out; omega
            obtain ⟨d0, d1⟩ := hcell 0 hp0
            have nT3 : g ≠ T := by
              obtain ⟨g', off', e, -, hcell'⟩ := RCW hp0
              simp only [Option.some.injEq, Addr.mk.injEq, and_true] at e
              obtain ⟨rfl, rfl⟩ := e
              exact nT2 g _ (by rw [(hcell' 0 hp0).1]; simp)
            clear nT2 RCW
            have TK1 : Hid (rc.take 1 = [rc[0]]) := by
              show rc.take (0 + 1) = _
              rw [List.take_succ_eq_append_getElem hp0]; rfl
            generalize rc[0] = y at d0 d1 TK1
            obtain ⟨y, yb⟩ := y
            simp only [Nat.zero_mul, Nat.add_zero] at d0 d1
            have HS : Hid (∀ w', Chg [T] W w' → (w'.cell? ⟨w.heap.size, 1, none⟩ = some (.slice (some ⟨g, off, none⟩) i rcap) ∧ w'.cell? ⟨g, off, none⟩ = some (.string ⟨y.toArray⟩) ∧ w'.cell? ⟨g, off + 1, none⟩ = some (.bool yb))) :=
              fun w' h => ⟨h.cell c1 (by simpa using nT1), h.cell d0 (by simpa using nT3), h.cell d1 (by simpa using nT3)⟩
            clear nT1 nT3
            have CW := fun {w'} (h : Chg [] W w') => HS.out w' (h.weak (by simp))
            have hN6 : i ≤ 1000000 := by omega
            have SW := Own.start W
            have SB := SW.newBox #[.string ⟨y.toArray⟩, .bool yb] 43
            have SAB : Own W ((W.alloc (.cells #[] 43)).alloc (.cells #[.string ⟨y.toArray⟩, .bool yb] 43)) [box (W.heap.size + 1) #[.string ⟨y.toArray⟩, .bool yb] 43] := by
              have h := (SW.alloc (.cells #[] 43)).newBox #[.string ⟨y.toArray⟩, .bool yb] 43
              rw [show (W.alloc (.cells #[] 43)).heap.size = W.heap.size + 1 from by show (W.heap.push _).size = _; simp] at h
              exact h
            have HRW := Lib.hid (hrc.own O1)
            have t1 : W.cell? ⟨T, 1, none⟩ = some (.slice (some ⟨g, off, none⟩) i rcap) := O1.cell 1
            have tob := O1.obj
            go_region_held3? (fun w' => w'.cell? ⟨w.heap.size, 1, none⟩ = some (.slice (some ⟨g, off, none⟩) i rcap) ∧ w'.cell? ⟨g, off, none⟩ = some (.string ⟨y.toArray⟩) ∧ w'.cell? ⟨g, off + 1, none⟩ = some (.bool yb))
              (first
                | with_reducible exact CW SW.chg
                | with_reducible exact CW SW.drew.chg
                | with_reducible exact CW (SW.alloc _).chg
                | with_reducible exact CW (SW.alloc _).drew.chg
                | with_reducible exact CW ((SW.alloc _).alloc _).chg
                | with_reducible exact CW ((SW.alloc _).alloc _).drew.chg
                | with_reducible exact CW O2.chg
                | with_reducible exact CW ON.chg
                | with_reducible exact CW Q2.chg
                | with_reducible exact CW O3.chg
                | with_reducible exact KC.out)
              (first
                | ((with_reducible refine wp_if ?_ (wp_copyRc (cap := rcap) HN.out hNpos hN6 ((SW.alloc _).drew) (HRW.out.own (SW.alloc _).drew) rfl ?_ ?_ ?_ ?_)); (iterate 2 rfl); exact ⟨_, rfl⟩; rfl; intro x1 y1 w2 O2; (have ON := (O2.newBox #[.string ⟨y.toArray⟩, .bool yb] 43).pick 1); (have P0 : (w2.alloc (.cells #[.string ⟨y.toArray⟩, .bool yb] 43)).cell? ⟨w2.heap.size, 0, none⟩ = some (.string ⟨y.toArray⟩) := (ON.pick 1).cell 0); (have P1 : (w2.alloc (.cells #[.string ⟨y.toArray⟩, .bool yb] 43)).cell? ⟨w2.heap.size, 1, none⟩ = some (.bool yb) := (ON.pick 1).cell 1))
                | ((with_reducible refine wp_if ?_ (wp_copyRc (cap := rcap) HN.out hNpos hN6 ((SB.alloc _).drew) (HRW.out.own (SB.alloc _).drew) rfl ?_ ?_ ?_ ?_)); (iterate 2 rfl); exact ⟨_, rfl⟩; rfl; intro x1 y1 w2 Q2; (have P0 : w2.cell? ⟨_, 0, none⟩ = some (.string ⟨y.toArray⟩) := (Q2.pick 1).cell 0); (have P1 : w2.cell? ⟨_, 1, none⟩ = some (.bool yb) := (Q2.pick 1).cell 1))
                | ((with_reducible refine wp_if ?_ (wp_copyRc (cap := rcap) HN.out hNpos hN6 (SAB.drew) (HRW.out.own (SAB.drew)) rfl ?_ ?_ ?_ ?_)); (iterate 2 rfl); exact ⟨_, rfl⟩; rfl; intro x1 y1 w2 Q2; (have P0 : w2.cell? ⟨_, 0, none⟩ = some (.string ⟨y.toArray⟩) := (Q2.pick 1).cell 0); (have P1 : w2.cell? ⟨_, 1, none⟩ = some (.bool yb) := (Q2.pick 1).cell 1))
                | ((with_reducible refine wp_if ?_ (wp_oneRc ON hN6 _ _ _ P0 P1 rfl ?_ ?_ ?_ ?_)); (iterate 4 rfl); intro x3 y3 w3 O3; (have z1 := O3.chg.cell t1 (by simp)); (have z2 := free_at (O3.chg.obj tob (by simp)) 1); (have KC := Lib.hid (HS.out _ ((O3.chg.weak (T := [T]) (by simp)).setB (b := T) (by simp) 1 (.slice x3 (i + 1) y3)))))
                | ((with_reducible refine wp_if ?_ (wp_oneRc Q2 hN6 _ _ _ P0 P1 rfl ?_ ?_ ?_ ?_)); (iterate 4 rfl); intro x3 y3 w3 O3; (have z1 := O3.chg.cell t1 (by simp)); (have z2 := free_at (O3.chg.obj tob (by simp)) 1); (have KC := Lib.hid (HS.out _ ((O3.chg.weak (T := [T]) (by simp)).setB (b := T) (by simp) 1 (.slice x3 (i + 1) y3))))))
            all_goals
              have O5 := (O1.newRowv O3.chg O3.rowvRow).pick 1
              have O6 : Own w (w3.setCell ⟨T, 1, none⟩ (.slice x3 (i + 1) y3)) (box T #[.string ⟨frm.toArray⟩, .slice x3 (i + 1) y3, .bool req, .string ⟨env.toArray⟩, .string ⟨txt.toArray⟩] 39 :: _) := O5.set 1 (.slice x3 (i + 1) y3)
              obtain ⟨e0, e1, e2, e3, e4⟩ := box5 O6
              have O7 := (O6.drop).selK 4 [3, 0]
              have OR := O6.drop
              rw [show flat2 rc ++ flat2 [(y, yb)] = flat2 (rc ++ rc.take 1) from by rw [TK1.out, flat2_app]] at OR
              have hl2 : i + 1 = (rc ++ rc.take 1).length := by rw [TK1.out, List.length_append, ← HN.out]; rfl
              obtain ⟨G2, RC2⟩ := rowv_rc OR hl2
              have CP2 := (rowv_cap OR).1
              have SM2 : Ml.Small ⟨frm, x3, y3, rc ++ rc.take 1, req, env, txt⟩ := ⟨SM.out.frm, SM.out.env, SM.out.txt, by show (rc ++ rc.take 1).length ≤ _; omega, by show (rc ++ rc.take 1).length ≤ y3; rw [← hl2]; exact CP2, fun r hr => SM.out.to r (by rcases List.mem_append.1 hr with h | h; exact h; exact List.mem_of_mem_take h)⟩
              have EE : Ml.err ⟨frm, x3, y3, rc ++ rc.take 1, req, env, txt⟩ rcpts most = 4 := err_twice HE.out (by show (rc.length : Int) < rcpts; rw [← HN.out]; exact hA) rfl rfl
              have MC := mail_own K HM.out O7 ⟨frm, x3, y3, rc ++ rc.take 1, req, env, txt⟩ RC2 SM2 EE
              rw [own_val] at MC
              simp only at MC
              rw [← hl2] at MC
              clear hl2 RC2 CP2 SM2 EE OR O7 O5 O6
              go_wp2_with fail
              refine MC.mono ?_
              clear MC e0 e1 e2 e3 e4 z1 z2 KC O3 O1 SW SB SAB tob t1 P0 P1 d0 d1 c0 c1 c2 c3 c4 HS CW HRW TK1 hp0 hN6 hcell hA
              rintro e W0 ⟨rfl, OT⟩
              clear hlk hk
              obtain ⟨LL, OT⟩ : ∃ L, Own w W0 (box w.heap.size #[.string ⟨frm.toArray⟩, .slice (some ⟨g, off, none⟩) i rcap, .bool req, .string ⟨env.toArray⟩, .string ⟨txt.toArray⟩] 39 :: L) := ⟨_, OT⟩
              obtain ⟨c0, c1, c2, c3, c4⟩ := box5 OT
              go_upto_region 29 with fail
              clear c0 c1 c2 c3 c4
              have OL := OT.newBox #[.string ⟨([] : List UInt8).toArray⟩, .slice (some ⟨g, off, none⟩) i rcap, .bool req, .string ⟨([] : List UInt8).toArray⟩, .string ⟨txt.toArray⟩] 39
              clear OT
              obtain ⟨B, hB⟩ : ∃ n, n = W0.heap.size := ⟨_, rfl⟩
              rw [← hB] at OL ⊢
              clear hB
              change Code.wp _ _ _ _ (W0.alloc (.cells #[.string ⟨([] : List UInt8).toArray⟩, .slice (some ⟨g, off, none⟩) i rcap, .bool req, .string ⟨([] : List UInt8).toArray⟩, .string ⟨txt.toArray⟩] 39))
              generalize W0.alloc (.cells #[.string ⟨([] : List UInt8).toArray⟩, .slice (some ⟨g, off, none⟩) i rcap, .bool req, .string ⟨([] : List UInt8).toArray⟩, .string ⟨txt.toArray⟩] 39) = W at OL ⊢
              obtain ⟨c0, c1, c2, c3, c4⟩ := box5 (OL.pick 1)
              have l1 := OL.cell 1
              have f1 := OL.free 1
              have hcp : i ≤ rcap := HCAP.out
              by_cases h1 : 1 < i
              focus
                have h1' : (1 : Int) < (i : Int) := by omega
                have h2' : (i : Int) - 1 ≤ (rcap : Int) := by omega
                have h3' : (0 : Int) ≤ (i : Int) - 1 := by omega
                have s1 : IntKind.i64.wrap ((i : Int) - 1) = (i : Int) - 1 := IntWalk.i64_in _ (by omega)
                have s2 : ((i : Int) - 1).toNat = i - 1 := by omega
                go_upto_region 31 with fail
                have OM : Own w (W.setCell ⟨B, 1, none⟩ (.slice (some ⟨g, off, none⟩) (i - 1) rcap)) (box B #[.string ⟨([] : List UInt8).toArray⟩, .slice (some ⟨g, off, none⟩) (i - 1) rcap, .bool req, .string ⟨([] : List UInt8).toArray⟩, .string ⟨txt.toArray⟩] 39 :: _) := OL.set 1 (.slice (some ⟨g, off, none⟩) (i - 1) rcap)
                change Code.wp _ _ _ _ (W.setCell ⟨B, 1, none⟩ (.slice (some ⟨g, off, none⟩) (i - 1) rcap))
                generalize W.setCell ⟨B, 1, none⟩ (.slice (some ⟨g, off, none⟩) (i - 1) rcap) = W1 at OM ⊢
                obtain ⟨rc', hrc'⟩ : ∃ q, q = rc.take (i - 1) := ⟨_, rfl⟩
                have HN' : Hid (i - 1 = rc'.length) := by unfold Hid; rw [hrc', List.length_take, ← HN.out]; omega
                have HR' : Hid (rc' = rc ∨ (1 < rc.length ∧ rc' = rc.take (rc.length - 1))) := .inr ⟨by rw [← HN.out]; exact h1, by rw [← HN.out]; exact hrc'⟩
                have RC' : Hid (∃ G, RcR w (some ⟨g, off, none⟩) rc' G) := ⟨_, by rw [hrc']; exact hrc.take _⟩
                clear hrc' s1 s2 h1 h1' h2' h3' OL l1 f1 c0 c1 c2 c3 c4
                generalize i - 1 = n' at OM HN' ⊢
              rotate_left
              focus
                have h1' : (i : Int) ≤ 1 := by omega
                go_upto_region 31 with fail
                have OM := OL
                obtain ⟨W1, hW1⟩ : ∃ q, q = W := ⟨_, rfl⟩
                subst hW1
                obtain ⟨rc', hrc'⟩ : ∃ q, q = rc := ⟨_, rfl⟩
                have HN' : Hid (i = rc'.length) := by rw [hrc']; exact HN
                have HR' : Hid (rc' = rc ∨ (1 < rc.length ∧ rc' = rc.take (rc.length - 1))) := .inl hrc'
                have RC' : Hid (∃ G, RcR w (some ⟨g, off, none⟩) rc' G) := ⟨_, by rw [hrc']; exact hrc⟩
                clear hrc' h1 h1' OL l1 f1 c0 c1 c2 c3 c4
                obtain ⟨n', hn'⟩ : ∃ n, n = i := ⟨_, rfl⟩
                have HN' : Hid (n' = rc'.length) := by rw [hn']; exact HN'
                have OM : Own w W1 (box B #[.string ⟨([] : List UInt8).toArray⟩, .slice (some ⟨g, off, none⟩) n' rcap, .bool req, .string ⟨([] : List UInt8).toArray⟩, .string ⟨txt.toArray⟩] 39 :: box w.heap.size #[.string ⟨frm.toArray⟩, .slice (some ⟨g, off, none⟩) i rcap, .bool req, .string ⟨env.toArray⟩, .string ⟨txt.toArray⟩] 39 :: LL) := by rw [hn']; exact OM
                clear hn'
              all_goals
                obtain ⟨c0, c1, c2, c3, c4⟩ := box5 (OM.pick 1)
                have hx := SM.out.txt
                change txt.length ≤ 100000 at hx
                have s1 : IntKind.i64.wrap ((txt.length : Int) - 2) = (txt.length : Int) - 2 := IntWalk.i64_in _ (by omega)
                go_wp2_with fail
                go_loopw [18] (fun av wr => ∃ a : Nat, av = .int .i64 a ∧ a ≤ txt.length - 2 ∧ Hid (∀ j (h : j < txt.length), a ≤ j → j < txt.length - 2 → txt[j] ≠ 10) ∧ wr = W1) (fun av _ => (intOf av).toNat)
                case atStart => exact ⟨txt.length - 2, by rw [show max 0 ((txt.length : Int) - 2) = ((txt.length - 2 : Nat) : Int) from by omega], Nat.le_refl _, fun j hj => last_start txt j hj, rfl⟩
                case round =>
                  obtain ⟨a, rfl, ha, hno, rfl⟩ := hrel
                  by_cases ha0 : a = 0
                  · subst ha0
                    have LA : Hid (LastLine txt 0) := last_zero ha hno.out rfl
                    have hal : 0 ≤ txt.length := by omega
                    go_upto_region 34 with fail
                    clear hx
                    obtain ⟨tx, htx⟩ : ∃ q, q = txt.take 0 := ⟨_, rfl⟩
                    have RS := run_subTo txt 0 hal
                    clear RS
                    obtain rfl : tx = [] := by rw [htx]; rfl
                    have HTX := Lib.hid htx
                    clear htx
                    have l4 := OM.cell 4
                    have f4 := OM.free 4
                    have OF : Own w (wr.setCell ⟨B, 4, none⟩ (.string ⟨([] : List UInt8).toArray⟩)) (box B #[.string ⟨([] : List UInt8).toArray⟩, .slice (some ⟨g, off, none⟩) n' rcap, .bool req, .string ⟨([] : List UInt8).toArray⟩, .string ⟨([] : List UInt8).toArray⟩] 39 :: _) := OM.set 4 (.string ⟨([] : List UInt8).toArray⟩)
                    go_upto_region 35 with fail
                    change Code.wp _ _ _ _ (wr.setCell ⟨B, 4, none⟩ (.string ⟨([] : List UInt8).toArray⟩))
                    generalize wr.setCell ⟨B, 4, none⟩ (.string ⟨([] : List UInt8).toArray⟩) = W2 at OF ⊢
                    clear l4 f4 c0 c1 c2 c3 c4
                    obtain ⟨e0, e1, e2, e3, e4⟩ := box5 OF
                    obtain ⟨G', RC⟩ := RC'.out
                    have EE := err_less (m := ⟨frm, some ⟨g, off, none⟩, rcap, rc, req, env, txt⟩) (m' := ⟨[], some ⟨g, off, none⟩, rcap, rc', req, [], []⟩) HE.out rfl rfl HR'.out LA.out HTX.out
                    have hrl : rc'.length ≤ rc.length := by rcases HR'.out with h | ⟨-, h⟩ <;> rw [h] <;> simp
                    have SM3 : Ml.Small ⟨[], some ⟨g, off, none⟩, rcap, rc', req, [], []⟩ := ⟨by simp, by simp, by simp, by show rc'.length ≤ _; have := HN.out; omega, by show rc'.length ≤ rcap; have := HN.out; have := HCAP.out; omega, fun r hr => SM.out.to r (by rcases HR'.out with h | ⟨-, h⟩; rw [h] at hr; exact hr; rw [h] at hr; exact List.mem_of_mem_take hr)⟩
                    have MC := mail_own K HM.out OF ⟨[], some ⟨g, off, none⟩, rcap, rc', req, [], []⟩ (RC.own OF) SM3 EE
                    rw [own_val] at MC
                    simp only at MC
                    rw [← HN'.out] at MC
                    clear hrl SM3 EE RC OM OF
                    (try clear ML); (try clear ha); (try clear hal); (try clear s1); (try clear hno); (try clear LA); (try clear HTX); (try clear hlt); (try clear hi); (try clear hNpos); (try clear hcp); (try clear p0); (try clear p1); (try clear p2); (try clear p3); (try clear p4); (try clear p5); (try clear s3); (try clear hx1); (try clear c0); (try clear c1); (try clear c2); (try clear c3); (try clear c4); (try clear HDS); (try clear HKIND); (try clear HCH); (try clear HA)
                    go_wp2_with fail
                    refine MC.mono ?_
                    rintro e w9 ⟨rfl, OZ⟩
                    go_wp2
                    go_ret
                    exact ⟨rfl, OZ.below⟩
                  · have hx1 : a - 1 < txt.length := by omega
                    have p0 : 0 < a := by omega
                    have p1 : (1 : Int) ≤ (a : Int) := by omega
                    have p2 : (a : Int) < (txt.length : Int) + 1 := by omega
                    have p3 : ((a : Int) - 1).toNat = a - 1 := by omega
                    have p4 : (0 : Int) ≤ (a : Int) - 1 := by omega
                    have p5 : (a : Int) - 1 < (txt.length : Int) := by omega
                    have s3 : IntKind.i64.wrap ((a : Int) - 1) = (a : Int) - 1 := IntWalk.i64_in _ (by omega)
                    have st := fun h => last_step p0 hno.out hx1 h
                    have sp := fun h => last_stop ha hno.out hx1 h
                    have HA := Lib.hid ha
                    clear ha ha0 hx
                    generalize hch : txt[a - 1] = ch at st sp
                    have HCH : Hid (txt[a - 1]? = some ch) := by unfold Hid; rw [← hch]; exact List.getElem?_eq_getElem hx1
                    by_cases hc : ch = 10
                    · subst hc
                      have LA : Hid (LastLine txt a) := sp rfl
                      clear st sp
                      have hal : a ≤ txt.length := by omega
                      go_upto_region 34 with fail
                      obtain ⟨tx, htx⟩ : ∃ q, q = txt.take a := ⟨_, rfl⟩
                      have RS := run_subTo txt a hal
                      rw [← htx] at RS
                      have HTX := Lib.hid htx
                      clear htx
                      have l4 := OM.cell 4
                      have f4 := OM.free 4
                      have OF : Own w (wr.setCell ⟨B, 4, none⟩ (.string ⟨tx.toArray⟩)) (box B #[.string ⟨([] : List UInt8).toArray⟩, .slice (some ⟨g, off, none⟩) n' rcap, .bool req, .string ⟨([] : List UInt8).toArray⟩, .string ⟨tx.toArray⟩] 39 :: _) := OM.set 4 (.string ⟨tx.toArray⟩)
                      go_upto_region 35 with fail
                      change Code.wp _ _ _ _ (wr.setCell ⟨B, 4, none⟩ (.string ⟨tx.toArray⟩))
                      generalize wr.setCell ⟨B, 4, none⟩ (.string ⟨tx.toArray⟩) = W2 at OF ⊢
                      clear RS l4 f4 c0 c1 c2 c3 c4
                      obtain ⟨e0, e1, e2, e3, e4⟩ := box5 OF
                      obtain ⟨G', RC⟩ := RC'.out
                      have EE := err_less (m := ⟨frm, some ⟨g, off, none⟩, rcap, rc, req, env, txt⟩) (m' := ⟨[], some ⟨g, off, none⟩, rcap, rc', req, [], tx⟩) HE.out rfl rfl HR'.out LA.out HTX.out
                      have hrl : rc'.length ≤ rc.length := by rcases HR'.out with h | ⟨-, h⟩ <;> rw [h] <;> simp
                      have SM3 : Ml.Small ⟨[], some ⟨g, off, none⟩, rcap, rc', req, [], tx⟩ := ⟨by simp, by simp, by show tx.length ≤ _; rw [HTX.out, List.length_take]; have := SM.out.txt; simp only at this; omega, by show rc'.length ≤ _; have := HN.out; omega, by show rc'.length ≤ rcap; have := HN.out; have := HCAP.out; omega, fun r hr => SM.out.to r (by rcases HR'.out with h | ⟨-, h⟩; rw [h] at hr; exact hr; rw [h] at hr; exact List.mem_of_mem_take hr)⟩
                      have MC := mail_own K HM.out OF ⟨[], some ⟨g, off, none⟩, rcap, rc', req, [], tx⟩ (RC.own OF) SM3 EE
                      rw [own_val] at MC
                      simp only at MC
                      rw [← HN'.out] at MC
                      clear hrl SM3 EE RC OM OF
                      (try clear ML); (try clear ha); (try clear hal); (try clear s1); (try clear hno); (try clear LA); (try clear HTX); (try clear hlt); (try clear hi); (try clear hNpos); (try clear hcp); (try clear p0); (try clear p1); (try clear p2); (try clear p3); (try clear p4); (try clear p5); (try clear s3); (try clear hx1); (try clear c0); (try clear c1); (try clear c2); (try clear c3); (try clear c4); (try clear HDS); (try clear HKIND); (try clear HCH); (try clear HA)
                      go_wp2_with fail
                      refine MC.mono ?_
                      rintro e w9 ⟨rfl, OZ⟩
                      go_wp2
                      go_ret
                      exact ⟨rfl, OZ.below⟩
                    · have ST := Lib.hid (st hc)
                      have hc2 : (ch == 10) = false := by simpa using hc
                      clear st sp
                      have hc3 : (ch != 10) = true := by simpa using hc
                      have hn1 : ¬ ch.toNat = 10 := fun h => hc (UInt8.toNat_inj.1 (by simpa using h))
                      have hn2 : ((ch.toNat : Int) == 10) = false := by simp; omega
                      have hn3 : ((ch.toNat : Int) != 10) = true := by simp; omega
                      go_wp2_with fail
                      go_roundw
                      case rel => exact ⟨a - 1, by rw [show ((a - 1 : Nat) : Int) = (a : Int) - 1 from by omega], by have := HA.out; omega, ST.out, trivial⟩
                      case measure => simp [intOf]; omega
          focus
            have OT := O.pick 2
            clear O
            obtain ⟨W0, hW0⟩ : ∃ q, q = wr := ⟨_, rfl⟩
            subst hW0
            have hp0 : 0 < rc.length := by have := HN.out; omega
            obtain ⟨g, off, rfl, hg, -⟩ := (hrc.own OT) hp0
            clear hp0
            clear hlk hk
            obtain ⟨LL, OT⟩ : ∃ L, Own w W0 (box w.heap.size #[.string ⟨frm.toArray⟩, .slice (some ⟨g, off, none⟩) i rcap, .bool req, .string ⟨env.toArray⟩, .string ⟨txt.toArray⟩] 39 :: L) := ⟨_, OT⟩
            obtain ⟨c0, c1, c2, c3, c4⟩ := box5 OT
            go_upto_region 29 with fail
            clear c0 c1 c2 c3 c4
            have OL := OT.newBox #[.string ⟨([] : List UInt8).toArray⟩, .slice (some ⟨g, off, none⟩) i rcap, .bool req, .string ⟨([] : List UInt8).toArray⟩, .string ⟨txt.toArray⟩] 39
            clear OT
            obtain ⟨B, hB⟩ : ∃ n, n = W0.heap.size := ⟨_, rfl⟩
            rw [← hB] at OL ⊢
            clear hB
            change Code.wp _ _ _ _ (W0.alloc (.cells #[.string ⟨([] : List UInt8).toArray⟩, .slice (some ⟨g, off, none⟩) i rcap, .bool req, .string ⟨([] : List UInt8).toArray⟩, .string ⟨txt.toArray⟩] 39))
            generalize W0.alloc (.cells #[.string ⟨([] : List UInt8).toArray⟩, .slice (some ⟨g, off, none⟩) i rcap, .bool req, .string ⟨([] : List UInt8).toArray⟩, .string ⟨txt.toArray⟩] 39) = W at OL ⊢
            obtain ⟨c0, c1, c2, c3, c4⟩ := box5 (OL.pick 1)
            have l1 := OL.cell 1
            have f1 := OL.free 1
            have hcp : i ≤ rcap := HCAP.out
            by_cases h1 : 1 < i
            focus
              have h1' : (1 : Int) < (i : Int) := by omega
              have h2' : (i : Int) - 1 ≤ (rcap : Int) := by omega
              have h3' : (0 : Int) ≤ (i : Int) - 1 := by omega
              have s1 : IntKind.i64.wrap ((i : Int) - 1) = (i : Int) - 1 := IntWalk.i64_in _ (by omega)
              have s2 : ((i : Int) - 1).toNat = i - 1 := by omega
              go_upto_region 31 with fail
              have OM : Own w (W.setCell ⟨B, 1, none⟩ (.slice (some ⟨g, off, none⟩) (i - 1) rcap)) (box B #[.string ⟨([] : List UInt8).toArray⟩, .slice (some ⟨g, off, none⟩) (i - 1) rcap, .bool req, .string ⟨([] : List UInt8).toArray⟩, .string ⟨txt.toArray⟩] 39 :: _) := OL.set 1 (.slice (some ⟨g, off, none⟩) (i - 1) rcap)
              change Code.wp _ _ _ _ (W.setCell ⟨B, 1, none⟩ (.slice (some ⟨g, off, none⟩) (i - 1) rcap))
              generalize W.setCell ⟨B, 1, none⟩ (.slice (some ⟨g, off, none⟩) (i - 1) rcap) = W1 at OM ⊢
              obtain ⟨rc', hrc'⟩ : ∃ q, q = rc.take (i - 1) := ⟨_, rfl⟩
              have HN' : Hid (i - 1 = rc'.length) := by unfold Hid; rw [hrc', List.length_take, ← HN.out]; omega
              have HR' : Hid (rc' = rc ∨ (1 < rc.length ∧ rc' = rc.take (rc.length - 1))) := .inr ⟨by rw [← HN.out]; exact h1, by rw [← HN.out]; exact hrc'⟩
              have RC' : Hid (∃ G, RcR w (some ⟨g, off, none⟩) rc' G) := ⟨_, by rw [hrc']; exact hrc.take _⟩
              clear hrc' s1 s2 h1 h1' h2' h3' OL l1 f1 c0 c1 c2 c3 c4
              generalize i - 1 = n' at OM HN' ⊢
            rotate_left
            focus
              have h1' : (i : Int) ≤ 1 := by omega
              go_upto_region 31 with fail
              have OM := OL
              obtain ⟨W1, hW1⟩ : ∃ q, q = W := ⟨_, rfl⟩
              subst hW1
              obtain ⟨rc', hrc'⟩ : ∃ q, q = rc := ⟨_, rfl⟩
              have HN' : Hid (i = rc'.length) := by rw [hrc']; exact HN
              have HR' : Hid (rc' = rc ∨ (1 < rc.length ∧ rc' = rc.take (rc.length - 1))) := .inl hrc'
              have RC' : Hid (∃ G, RcR w (some ⟨g, off, none⟩) rc' G) := ⟨_, by rw [hrc']; exact hrc⟩
              clear hrc' h1 h1' OL l1 f1 c0 c1 c2 c3 c4
              obtain ⟨n', hn'⟩ : ∃ n, n = i := ⟨_, rfl⟩
              have HN' : Hid (n' = rc'.length) := by rw [hn']; exact HN'
              have OM : Own w W1 (box B #[.string ⟨([] : List UInt8).toArray⟩, .slice (some ⟨g, off, none⟩) n' rcap, .bool req, .string ⟨([] : List UInt8).toArray⟩, .string ⟨txt.toArray⟩] 39 :: box w.heap.size #[.string ⟨frm.toArray⟩, .slice (some ⟨g, off, none⟩) i rcap, .bool req, .string ⟨env.toArray⟩, .string ⟨txt.toArray⟩] 39 :: LL) := by rw [hn']; exact OM
              clear hn'
            all_goals
              obtain ⟨c0, c1, c2, c3, c4⟩ := box5 (OM.pick 1)
              have hx := SM.out.txt
              change txt.length ≤ 100000 at hx
              have s1 : IntKind.i64.wrap ((txt.length : Int) - 2) = (txt.length : Int) - 2 := IntWalk.i64_in _ (by omega)
              go_wp2_with fail
              go_loopw [18] (fun av wr => ∃ a : Nat, av = .int .i64 a ∧ a ≤ txt.length - 2 ∧ Hid (∀ j (h : j < txt.length), a ≤ j → j < txt.length - 2 → txt[j] ≠ 10) ∧ wr = W1) (fun av _ => (intOf av).toNat)
              case atStart => exact ⟨txt.length - 2, by rw [show max 0 ((txt.length : Int) - 2) = ((txt.length - 2 : Nat) : Int) from by omega], Nat.le_refl _, fun j hj => last_start txt j hj, rfl⟩
              case round =>
                obtain ⟨a, rfl, ha, hno, rfl⟩ := hrel
                by_cases ha0 : a = 0
                · subst ha0
                  have LA : Hid (LastLine txt 0) := last_zero ha hno.out rfl
                  have hal : 0 ≤ txt.length := by omega
                  go_upto_region 34 with fail
                  clear hx
                  obtain ⟨tx, htx⟩ : ∃ q, q = txt.take 0 := ⟨_, rfl⟩
                  have RS := run_subTo txt 0 hal
                  clear RS
                  obtain rfl : tx = [] := by rw [htx]; rfl
                  have HTX := Lib.hid htx
                  clear htx
                  have l4 := OM.cell 4
                  have f4 := OM.free 4
                  have OF : Own w (wr.setCell ⟨B, 4, none⟩ (.string ⟨([] : List UInt8).toArray⟩)) (box B #[.string ⟨([] : List UInt8).toArray⟩, .slice (some ⟨g, off, none⟩) n' rcap, .bool req, .string ⟨([] : List UInt8).toArray⟩, .string ⟨([] : List UInt8).toArray⟩] 39 :: _) := OM.set 4 (.string ⟨([] : List UInt8).toArray⟩)
                  go_upto_region 35 with fail
                  change Code.wp _ _ _ _ (wr.setCell ⟨B, 4, none⟩ (.string ⟨([] : List UInt8).toArray⟩))
                  generalize wr.setCell ⟨B, 4, none⟩ (.string ⟨([] : List UInt8).toArray⟩) = W2 at OF ⊢
                  clear l4 f4 c0 c1 c2 c3 c4
                  obtain ⟨e0, e1, e2, e3, e4⟩ := box5 OF
                  obtain ⟨G', RC⟩ := RC'.out
                  have EE := err_less (m := ⟨frm, some ⟨g, off, none⟩, rcap, rc, req, env, txt⟩) (m' := ⟨[], some ⟨g, off, none⟩, rcap, rc', req, [], []⟩) HE.out rfl rfl HR'.out LA.out HTX.out
                  have hrl : rc'.length ≤ rc.length := by rcases HR'.out with h | ⟨-, h⟩ <;> rw [h] <;> simp
                  have SM3 : Ml.Small ⟨[], some ⟨g, off, none⟩, rcap, rc', req, [], []⟩ := ⟨by simp, by simp, by simp, by show rc'.length ≤ _; have := HN.out; omega, by show rc'.length ≤ rcap; have := HN.out; have := HCAP.out; omega, fun r hr => SM.out.to r (by rcases HR'.out with h | ⟨-, h⟩; rw [h] at hr; exact hr; rw [h] at hr; exact List.mem_of_mem_take hr)⟩
                  have MC := mail_own K HM.out OF ⟨[], some ⟨g, off, none⟩, rcap, rc', req, [], []⟩ (RC.own OF) SM3 EE
                  rw [own_val] at MC
                  simp only at MC
                  rw [← HN'.out] at MC
                  clear hrl SM3 EE RC OM OF
                  (try clear ML); (try clear ha); (try clear hal); (try clear s1); (try clear hno); (try clear LA); (try clear HTX); (try clear hlt); (try clear hi); (try clear hNpos); (try clear hcp); (try clear p0); (try clear p1); (try clear p2); (try clear p3); (try clear p4); (try clear p5); (try clear s3); (try clear hx1); (try clear c0); (try clear c1); (try clear c2); (try clear c3); (try clear c4); (try clear HDS); (try clear HKIND); (try clear HCH); (try clear HA)
                  go_wp2_with fail
                  refine MC.mono ?_
                  rintro e w9 ⟨rfl, OZ⟩
                  go_wp2
                  go_ret
                  exact ⟨rfl, OZ.below⟩
                · have hx1 : a - 1 < txt.length := by omega
                  have p0 : 0 < a := by omega
                  have p1 : (1 : Int) ≤ (a : Int) := by omega
                  have p2 : (a : Int) < (txt.length : Int) + 1 := by omega
                  have p3 : ((a : Int) - 1).toNat = a - 1 := by omega
                  have p4 : (0 : Int) ≤ (a : Int) - 1 := by omega
                  have p5 : (a : Int) - 1 < (txt.length : Int) := by omega
                  have s3 : IntKind.i64.wrap ((a : Int) - 1) = (a : Int) - 1 := IntWalk.i64_in _ (by omega)
                  have st := fun h => last_step p0 hno.out hx1 h
                  have sp := fun h => last_stop ha hno.out hx1 h
                  have HA := Lib.hid ha
                  clear ha ha0 hx
                  generalize hch : txt[a - 1] = ch at st sp
                  have HCH : Hid (txt[a - 1]? = some ch) := by unfold Hid; rw [← hch]; exact List.getElem?_eq_getElem hx1
                  by_cases hc : ch = 10
                  · subst hc
                    have LA : Hid (LastLine txt a) := sp rfl
                    clear st sp
                    have hal : a ≤ txt.length := by omega
                    go_upto_region 34 with fail
                    obtain ⟨tx, htx⟩ : ∃ q, q = txt.take a := ⟨_, rfl⟩
                    have RS := run_subTo txt a hal
                    rw [← htx] at RS
                    have HTX := Lib.hid htx
                    clear htx
                    have l4 := OM.cell 4
                    have f4 := OM.free 4
                    have OF : Own w (wr.setCell ⟨B, 4, none⟩ (.string ⟨tx.toArray⟩)) (box B #[.string ⟨([] : List UInt8).toArray⟩, .slice (some ⟨g, off, none⟩) n' rcap, .bool req, .string ⟨([] : List UInt8).toArray⟩, .string ⟨tx.toArray⟩] 39 :: _) := OM.set 4 (.string ⟨tx.toArray⟩)
                    go_upto_region 35 with fail
                    change Code.wp _ _ _ _ (wr.setCell ⟨B, 4, none⟩ (.string ⟨tx.toArray⟩))
                    generalize wr.setCell ⟨B, 4, none⟩ (.string ⟨tx.toArray⟩) = W2 at OF ⊢
                    clear RS l4 f4 c0 c1 c2 c3 c4
                    obtain ⟨e0, e1, e2, e3, e4⟩ := box5 OF
                    obtain ⟨G', RC⟩ := RC'.out
                    have EE := err_less (m := ⟨frm, some ⟨g, off, none⟩, rcap, rc, req, env, txt⟩) (m' := ⟨[], some ⟨g, off, none⟩, rcap, rc', req, [], tx⟩) HE.out rfl rfl HR'.out LA.out HTX.out
                    have hrl : rc'.length ≤ rc.length := by rcases HR'.out with h | ⟨-, h⟩ <;> rw [h] <;> simp
                    have SM3 : Ml.Small ⟨[], some ⟨g, off, none⟩, rcap, rc', req, [], tx⟩ := ⟨by simp, by simp, by show tx.length ≤ _; rw [HTX.out, List.length_take]; have := SM.out.txt; simp only at this; omega, by show rc'.length ≤ _; have := HN.out; omega, by show rc'.length ≤ rcap; have := HN.out; have := HCAP.out; omega, fun r hr => SM.out.to r (by rcases HR'.out with h | ⟨-, h⟩; rw [h] at hr; exact hr; rw [h] at hr; exact List.mem_of_mem_take hr)⟩
                    have MC := mail_own K HM.out OF ⟨[], some ⟨g, off, none⟩, rcap, rc', req, [], tx⟩ (RC.own OF) SM3 EE
                    rw [own_val] at MC
                    simp only at MC
                    rw [← HN'.out] at MC
                    clear hrl SM3 EE RC OM OF
                    (try clear ML); (try clear ha); (try clear hal); (try clear s1); (try clear hno); (try clear LA); (try clear HTX); (try clear hlt); (try clear hi); (try clear hNpos); (try clear hcp); (try clear p0); (try clear p1); (try clear p2); (try clear p3); (try clear p4); (try clear p5); (try clear s3); (try clear hx1); (try clear c0); (try clear c1); (try clear c2); (try clear c3); (try clear c4); (try clear HDS); (try clear HKIND); (try clear HCH); (try clear HA)
                    go_wp2_with fail
                    refine MC.mono ?_
                    rintro e w9 ⟨rfl, OZ⟩
                    go_wp2
                    go_ret
                    exact ⟨rfl, OZ.below⟩
                  · have ST := Lib.hid (st hc)
                    have hc2 : (ch == 10) = false := by simpa using hc
                    clear st sp
                    have hc3 : (ch != 10) = true := by simpa using hc
                    have hn1 : ¬ ch.toNat = 10 := fun h => hc (UInt8.toNat_inj.1 (by simpa using h))
                    have hn2 : ((ch.toNat : Int) == 10) = false := by simp; omega
                    have hn3 : ((ch.toNat : Int) != 10) = true := by simp; omega
                    go_wp2_with fail
                    go_roundw
                    case rel => exact ⟨a - 1, by rw [show ((a - 1 : Nat) : Int) = (a : Int) - 1 from by omega], by have := HA.out; omega, ST.out, trivial⟩
                    case measure => simp [intOf]; omega
end Go.Proofs.YtlmifdkhdcbniaaDoor
