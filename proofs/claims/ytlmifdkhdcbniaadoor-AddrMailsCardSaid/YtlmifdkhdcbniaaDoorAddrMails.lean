/- AddrMails: the walk. -/
import Derived.Test.YtlmifdkhdcbniaaDoorAdMe
import Derived.Test.YtlmifdkhdcbniaaDoorAdMail
import Derived.Test.YtlmifdkhdcbniaaDoorAdLessQ
import Derived.Deep.DeepCutAuto
namespace Go.Proofs.YtlmifdkhdcbniaaDoor
set_option linter.all false
open Go.RowKit

theorem small_of' {m : Ml} (hc : m.rc.length ≤ m.rcap) (h3 : m.rc.length ≤ 300) (h : ∀ s, s ∈ textsL m → s.length ≤ 9000) : m.Small := by
  refine ⟨?_, ?_, ?_, by omega, hc, fun r hr => ?_⟩
  · have := h m.frm (by simp [textsL, tx]); omega
  · have := h m.env (by simp [textsL, tx]); omega
  · have := h m.txt (by simp [textsL, tx]); omega
  · have := h r.1 (by
      unfold textsL tx
      rw [List.take_of_length_le (by omega)]
      simp only [List.mem_append, List.mem_map]
      exact .inr ⟨r, hr, rfl⟩)
    omega
theorem ml_val (m : Ml) : m.val = .agg #[.string ⟨m.frm.toArray⟩, .slice m.ra m.rc.length m.rcap, .bool m.req, .string ⟨m.env.toArray⟩, .string ⟨m.txt.toArray⟩] := rfl
set_option maxRecDepth 100000 in
set_option maxHeartbeats 8000000 in
theorem addrMails_walk {w : World} (K : Kinds w) (mx : Int) (hmx : MaxLenAt w mx) (v : Value) (o : ∃ (m : Ml) (G : List Nat), MailIn w v m G) (rcpts : Int) (hr : (Lit.int .i64 rcpts).wf = true) (most : Int) (hmo : (Lit.int .i64 most).wf = true) :
    Calls Tryd.prog 6 #[v, .int .i64 rcpts, .int .i64 most] w fun e w' => e = .returned (.bool true) ∧ Below w.heap.size w w' := by
  obtain ⟨m, G, rfl, hrc, hcap, hmax, hkind⟩ := o
  have HM := Lib.hid hmx
  obtain ⟨frm, ra, rcap, rc, req, env, txt⟩ := m
  obtain ⟨N, hN⟩ : ∃ n, n = rc.length := ⟨_, rfl⟩
  have O := (Own.start w).newBox #[.string ⟨frm.toArray⟩, .slice ra N rcap, .bool req, .string ⟨env.toArray⟩, .string ⟨txt.toArray⟩] 39
  have TX := fun (W : World) (L : List Piece) (O : Own w W L) => texts_own O ⟨frm, ra, rcap, rc, req, env, txt⟩ (hrc.own O) hmax
  rw [ml_val]
  simp only at hrc hcap hmax hkind ⊢
  simp only [ml_val] at TX
  have HSM := fun h3 h => small_of' (m := ⟨frm, ra, rcap, rc, req, env, txt⟩) hcap h3 h
  generalize hTL : textsL ⟨frm, ra, rcap, rc, req, env, txt⟩ = tl at TX HSM
  obtain ⟨ds, hds⟩ : ∃ x, domsS rc = x := ⟨_, rfl⟩
  obtain ⟨E, hE⟩ : ∃ x, Ml.err ⟨frm, ra, rcap, rc, req, env, txt⟩ rcpts most = x := ⟨_, rfl⟩
  have ML := fun (W : World) (L : List Piece) (O : Own w W L) (hs : Ml.Small ⟨frm, ra, rcap, rc, req, env, txt⟩) => rmail_own O ⟨frm, ra, rcap, rc, req, env, txt⟩ (hrc.own O) hs hE
  have DL := fun (W : World) (L : List Piece) (O : Own w W L) (hs : Ml.Small ⟨frm, ra, rcap, rc, req, env, txt⟩) => rdomains_own O ⟨frm, ra, rcap, rc, req, env, txt⟩ (hrc.own O) hs hds
  have ML2 := fun (X : Option Addr) (y : Nat) (W : World) (L : List Piece) (O : Own w W L) (G2 : List Nat) (hr2 : RcR W X rc G2) (hs : Ml.Small ⟨frm, X, y, rc, req, env, txt⟩) => mail_own K HM.out O ⟨frm, X, y, rc, req, env, txt⟩ hr2 hs (rcpts := rcpts) (most := most) (r := E) (by rw [← hE]; rfl)
  have DL2 := fun (X : Option Addr) (y : Nat) (W : World) (L : List Piece) (O : Own w W L) (G2 : List Nat) (hr2 : RcR W X rc G2) (hs : Ml.Small ⟨frm, X, y, rc, req, env, txt⟩) => domains_own K O ⟨frm, X, y, rc, req, env, txt⟩ hr2 hs hds
  simp only [ml_val] at ML DL ML2 DL2
  rw [← hN] at TX ML DL ML2 DL2 HSM ⊢
  have htl : tl.length ≤ 1000000 := by
    rw [← hTL]; exact Nat.le_trans (tx_len _ _ _ _ _) (by omega)
  have HN := Lib.hid hN
  have HDS : Hid (ds.length ≤ N) := by
    have h1 := Lib.compact_length_le (sortS (doms rc))
    have h2 : (sortS (doms rc)).length = (doms rc).length := List.length_mergeSort _
    have h3 := doms_len rc
    have h4 : ds.length = (Lib.compact (sortS (doms rc))).length := by rw [← hds]; rfl
    unfold Hid; omega
  clear hmx hN hTL hcap hmax hkind hE hds
  obtain ⟨c0, c1, c2, c3, c4⟩ := box5 O
  go_enter Tryd.func6, Tryd.ntmps6
  go_wp2_with fail
  refine (TX _ _ O).mono ?_
  clear O TX c0 c1 c2 c3 c4
  rintro e w2 ⟨tv, rfl, O⟩
  obtain ⟨ta, tcap, rfl⟩ := O.shape
  obtain ⟨c0, c1, c2, c3, c4⟩ := box5 (O.pick 1)
  have LG := long4_free tl _ _ _ O.strsR htl
  go_wp2_with fail
  refine LG.mono ?_
  clear LG
  rintro e w3 ⟨r, rfl, rfl, hlong⟩
  cases r
  rotate_left
  · clear hlong
    go_wp2_with fail
    refine (works4_own K O).mono ?_
    clear O
    rintro e w9 ⟨rfl, O⟩
    go_wp2
    go_ret
    exact ⟨rfl, O.below⟩
  have HLONG := Lib.hid (hlong rfl)
  clear hlong
  by_cases h300 : (300 : Int) < (N : Int)
  · go_wp2_with fail
    refine (works4_own K O).mono ?_
    clear O
    rintro e w9 ⟨rfl, O⟩
    go_wp2
    go_ret
    exact ⟨rfl, O.below⟩
  have SM := Lib.hid (HSM (by omega) HLONG.out)
  clear HLONG HSM htl
  have hN3 : N ≤ 300 := by omega
  go_upto_region 4 with fail
  clear c0 c1 c2 c3 c4 h300
  replace O := O.drop
  have O1 := O.newBox #[.string ⟨frm.toArray⟩, .slice ra N rcap, .bool req, .string ⟨env.toArray⟩, .string ⟨txt.toArray⟩] 39
  obtain ⟨T, hT⟩ : ∃ n, n = w2.heap.size := ⟨_, rfl⟩
  rw [← hT] at O1 ⊢
  clear O hT
  change Code.wp _ _ _ _ (w2.alloc (.cells #[.string ⟨frm.toArray⟩, .slice ra N rcap, .bool req, .string ⟨env.toArray⟩, .string ⟨txt.toArray⟩] 39))
  generalize w2.alloc (.cells #[.string ⟨frm.toArray⟩, .slice ra N rcap, .bool req, .string ⟨env.toArray⟩, .string ⟨txt.toArray⟩] 39) = W at O1 ⊢
  have l1 : (W.alloc (.cells #[] 43)).cell? ⟨w.heap.size, 1, none⟩ = some (.slice ra N rcap) := ((O1.alloc (.cells #[] 43)).pick 1).cell 1
  go_wp2_with (at_builtin; refine wpList_copyRcO HN.out (by omega) O1 (hrc.own O1) rfl _ _ rfl rfl rfl ?_)
  clear O1 l1
  intro X y W2 O2
  have t1 := (O2.pick 1).cell 1
  have t2 := (O2.pick 1).free 1
  have OS : Own w (W2.setCell ⟨T, 1, none⟩ (.slice X N y)) (box T #[.string ⟨frm.toArray⟩, .slice X N y, .bool req, .string ⟨env.toArray⟩, .string ⟨txt.toArray⟩] 39 :: _) := (O2.pick 1).set 1 (.slice X N y)
  go_wp2_with fail
  clear O2 t1 t2
  have hcapy : Hid (N ≤ y) := (rowv_cap (OS.pick 1)).1
  have SM2 : Hid (Ml.Small ⟨frm, X, y, rc, req, env, txt⟩) := ⟨SM.out.frm, SM.out.env, SM.out.txt, SM.out.many, by show rc.length ≤ y; have := hcapy.out; have := HN.out; omega, SM.out.to⟩
  have HML := Lib.hid ML; have HDL := Lib.hid DL; have HML2 := Lib.hid (ML2 X y); have HDL2 := Lib.hid (DL2 X y)
  clear ML DL ML2 DL2
  go_loopw [8] (fun rv wr => ∃ r : Nat, r ≤ 2 ∧ rv = .int .i64 r ∧ Own w wr [box T #[.string ⟨frm.toArray⟩, .slice X N y, .bool req, .string ⟨env.toArray⟩, .string ⟨txt.toArray⟩] 39, rowv 43 2 (.slice X N y) N (flat2 rc), box w.heap.size #[.string ⟨frm.toArray⟩, .slice ra N rcap, .bool req, .string ⟨env.toArray⟩, .string ⟨txt.toArray⟩] 39]) (fun rv _ => 2 - (intOf rv).toNat)
  case atStart => exact ⟨0, by omega, rfl, OS⟩
  case round =>
    clear OS
    obtain ⟨r, hr2, rfl, O⟩ := hrel
    obtain ⟨c0, c1, c2, c3, c4⟩ := box5 O
    by_cases hlt : r < 2
    · have hb1 : (r : Int) < 2 := by omega
      obtain ⟨G2, RC2⟩ := rowv_rc (O.pick 1) HN.out
      have DD := HDL2.out _ _ O G2 RC2 SM2.out
      clear RC2
      go_wp2_with fail
      refine DD.mono ?_
      clear DD O c0 c1 c2 c3 c4
      rintro e w5 ⟨dv, rfl, O⟩
      obtain ⟨da, dcap, rfl⟩ := O.shape
      obtain ⟨c0, c1, c2, c3, c4⟩ := box5 (O.pick 3)
      have DD := HDL.out _ _ O SM.out
      go_wp2_with fail
      refine DD.mono ?_
      clear DD O c0 c1 c2 c3 c4
      rintro e w6 ⟨ev, rfl, O⟩
      obtain ⟨ea, ecap, rfl⟩ := O.shape
      have SL := sameL_any w6 _ _ ds ds _ _ ((O.pick 1).strsR) O.strsR (by have := HDS.out; omega) true (by simp)
      obtain ⟨dn, hdn⟩ : ∃ n, n = ds.length := ⟨_, rfl⟩
      rw [← hdn] at O SL ⊢
      have HDN := Lib.hid hdn
      clear hdn
      have O := O.drop
      go_wp2_with fail
      refine SL.mono ?_
      clear SL
      rintro e w7 ⟨rfl, nd, rfl⟩
      have OD := O.drewN nd
      generalize w6.drewN nd = W7 at OD ⊢
      clear O
      have hdn3 : dn ≤ 300 := by have := HDS.out; have := HDN.out; omega
      go_wp2_with fail
      go_loopw [10] (fun kv wr => ∃ (k : Nat) (ss : List (List UInt8)), k ≤ dn ∧ kv = .int .i64 k ∧ Hid (dn = ss.length) ∧ Own w wr [strs (.slice da dn dcap) ss, box T #[.string ⟨frm.toArray⟩, .slice X N y, .bool req, .string ⟨env.toArray⟩, .string ⟨txt.toArray⟩] 39, rowv 43 2 (.slice X N y) N (flat2 rc), box w.heap.size #[.string ⟨frm.toArray⟩, .slice ra N rcap, .bool req, .string ⟨env.toArray⟩, .string ⟨txt.toArray⟩] 39]) (fun kv _ => dn - (intOf kv).toNat)
      case atStart => exact ⟨0, ds, by omega, rfl, HDN, OD⟩
      case round =>
        clear OD
        obtain ⟨k, ss, hk, rfl, HSS, O⟩ := hrel
        by_cases hlk : k < dn
        · have hb2 : (k : Int) < (dn : Int) := by omega
          have hkl : k < ss.length := by have := HSS.out; omega
          obtain ⟨-, gd, rfl, e0, e1⟩ := O.strsAt k hkl
          have O2 := O.store k [115, 112, 111, 105, 108, 116]
          have HS2 : Hid (dn = (ss.set k [115, 112, 111, 105, 108, 116]).length) := by unfold Hid; rw [List.length_set]; exact HSS.out
          generalize ss.set k [115, 112, 111, 105, 108, 116] = ss2 at O2 HS2
          generalize ss[k] = old at e0
          clear O hkl
          go_wp2_with fail
          go_roundw
          case rel => exact ⟨k + 1, ss2, by omega, by go_num, HS2, O2⟩
          case measure => simp [intOf]; omega
        · obtain rfl : k = dn := by omega
          go_wp2_with fail
          go_roundw
          case rel => exact ⟨r + 1, by omega, by go_num, O.drop⟩
          case measure => simp [intOf]; omega
    · obtain rfl : r = 2 := by omega
      clear hlt
      go_wp2_with fail
      go_loopw [11] (fun iv wr => ∃ i : Nat, i ≤ N ∧ iv = .int .i64 i ∧ Own w wr [box T #[.string ⟨frm.toArray⟩, .slice X N y, .bool req, .string ⟨env.toArray⟩, .string ⟨txt.toArray⟩] 39, rowv 43 2 (.slice X N y) N (flat2 rc), box w.heap.size #[.string ⟨frm.toArray⟩, .slice ra N rcap, .bool req, .string ⟨env.toArray⟩, .string ⟨txt.toArray⟩] 39]) (fun iv _ => N - (intOf iv).toNat)
      case atStart => exact ⟨0, by omega, rfl, O⟩
      case round =>
        clear O c0 c1 c2 c3 c4
        obtain ⟨i, hi, rfl, O⟩ := hrel
        have c1 := O.cell 1
        by_cases hlt : i < N
        · have hb1 : (i : Int) < (N : Int) := by omega
          have hil : i < rc.length := by have := HN.out; omega
          have m1 := (O.pick 2).cell 1
          obtain ⟨G2, RC2⟩ := rowv_rc (O.pick 1) HN.out
          obtain ⟨g, off, rfl, -, hcell⟩ := (hrc.own O) (by omega)
          obtain ⟨g2, off2, rfl, -, hcell2⟩ := RC2 (by omega)
          obtain ⟨d0, d1⟩ := hcell i hil
          obtain ⟨f0, f1⟩ := hcell2 i hil
          generalize rc[i] = z at d0 d1 f0 f1
          clear hcell hcell2 hil
          obtain ⟨z, zb⟩ := z
          simp only at d0 d1 f0 f1
          have i1 : (z == z) = true := by simp
          have i2 : (zb == zb) = true := by simp
          go_wp2_with fail
          go_quiet (fail)
          go_wp2
          go_roundw
          case rel => exact ⟨i + 1, by omega, by go_num, O.drewN _⟩
          case measure => simp [intOf]; omega
        · obtain rfl : i = N := by omega
          go_upto_region 20 with fail
          clear c1
          have HS : Hid (∀ w', Own w w' [box T #[.string ⟨frm.toArray⟩, .slice X i y, .bool req, .string ⟨env.toArray⟩, .string ⟨txt.toArray⟩] 39, rowv 43 2 (.slice X i y) i (flat2 rc), box w.heap.size #[.string ⟨frm.toArray⟩, .slice ra i rcap, .bool req, .string ⟨env.toArray⟩, .string ⟨txt.toArray⟩] 39] → (w'.cell? ⟨T, 0, none⟩ = some (.string ⟨frm.toArray⟩) ∧ w'.cell? ⟨T, 1, none⟩ = some (.slice X i y) ∧ w'.cell? ⟨T, 2, none⟩ = some (.bool req) ∧ w'.cell? ⟨T, 3, none⟩ = some (.string ⟨env.toArray⟩) ∧ w'.cell? ⟨T, 4, none⟩ = some (.string ⟨txt.toArray⟩) ∧
            w'.cell? ⟨w.heap.size, 0, none⟩ = some (.string ⟨frm.toArray⟩) ∧ w'.cell? ⟨w.heap.size, 1, none⟩ = some (.slice ra i rcap) ∧ w'.cell? ⟨w.heap.size, 2, none⟩ = some (.bool req) ∧ w'.cell? ⟨w.heap.size, 3, none⟩ = some (.string ⟨env.toArray⟩) ∧ w'.cell? ⟨w.heap.size, 4, none⟩ = some (.string ⟨txt.toArray⟩))) :=
            fun w' h => ⟨h.cell 0, h.cell 1, h.cell 2, h.cell 3, h.cell 4, (h.pick 2).cell 0, (h.pick 2).cell 1, (h.pick 2).cell 2, (h.pick 2).cell 3, (h.pick 2).cell 4⟩
          have K0 := Lib.hid (HS.out _ O)
          have i1 : (E == E) = true := by simp
          obtain ⟨G2, RC2⟩ := rowv_rc (O.pick 1) HN.out
          have HRC2 := Lib.hid (HML2.out _ _ O.drew G2 (show RcR wr.drew X rc G2 from RC2) SM2.out)
          clear RC2
          go_region_held3? (fun w' => w'.cell? ⟨T, 0, none⟩ = some (.string ⟨frm.toArray⟩) ∧ w'.cell? ⟨T, 1, none⟩ = some (.slice X i y) ∧ w'.cell? ⟨T, 2, none⟩ = some (.bool req) ∧ w'.cell? ⟨T, 3, none⟩ = some (.string ⟨env.toArray⟩) ∧ w'.cell? ⟨T, 4, none⟩ = some (.string ⟨txt.toArray⟩) ∧
            w'.cell? ⟨w.heap.size, 0, none⟩ = some (.string ⟨frm.toArray⟩) ∧ w'.cell? ⟨w.heap.size, 1, none⟩ = some (.slice ra i rcap) ∧ w'.cell? ⟨w.heap.size, 2, none⟩ = some (.bool req) ∧ w'.cell? ⟨w.heap.size, 3, none⟩ = some (.string ⟨env.toArray⟩) ∧ w'.cell? ⟨w.heap.size, 4, none⟩ = some (.string ⟨txt.toArray⟩))
            (first
              | with_reducible exact K0.out
              | exact K0.out
              | exact HS.out _ O1
              | exact HS.out _ O2
              | exact HS.out _ O3)
            (first
              | (go_at_call 29; (with_reducible refine (HRC2.out).mono ?_); rintro e1 ws1 ⟨rfl, O1⟩)
              | (go_at_call 30; (with_reducible refine (HML.out _ _ O1 SM.out).mono ?_); rintro e1 ws2 ⟨rfl, O2⟩)
              | (go_at_call 9; (with_reducible refine (works4_own K O2).mono ?_); rintro e1 ws3 ⟨rfl, O3⟩))
          go_wp2
          go_ret
          exact ⟨rfl, O3.below⟩
end Go.Proofs.YtlmifdkhdcbniaaDoor
