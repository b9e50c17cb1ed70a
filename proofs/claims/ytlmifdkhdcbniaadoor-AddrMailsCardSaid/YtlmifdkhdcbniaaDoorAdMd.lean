/- mailroomref04.Domains. -/
import Derived.Test.YtlmifdkhdcbniaaDoorAdMc
import Derived.Test.YtlmifdkhdcbniaaDoorAdMb
import Derived.Test.YtlmifdkhdcbniaaDoorAdLess
import Derived.Test.YtlmifdkhdcbniaaDoorAdApp
import Derived.WalkLawsBesides
import Derived.Deep.DeepCutAuto
namespace Go.Proofs.YtlmifdkhdcbniaaDoor
set_option linter.all false
open Go.RowKit

theorem bl_beq {a b : BL} (h : a ≠ b) : (a == b) = false ∧ (a != b) = true := by
  have : (a == b) = false := by simpa using h
  exact ⟨this, by rw [bne, this]; rfl⟩
theorem strs_cap {w0 w : World} {L : List Piece} {a : Option Addr} {n cap : Nat} {ss : List (List UInt8)} (O : Own w0 w (strs (.slice a n cap) ss :: L)) : n = ss.length ∧ n ≤ cap ∧ (n = 0 ∨ ∃ g, a = some ⟨g, 0, none⟩) := by
  rcases O.row.2 with ⟨h, hn⟩ | ⟨g', cap', cur, h, _, _, hnc, _⟩
  · simp only [Value.slice.injEq] at h
    obtain ⟨-, rfl, rfl⟩ := h
    exact ⟨hn.symm, Nat.le_refl _, .inl rfl⟩
  · simp only [Value.slice.injEq] at h
    obtain ⟨rfl, h1, h2⟩ := h
    exact ⟨h1, by omega, .inr ⟨g', rfl⟩⟩
theorem strsR_zero (w : World) (a : Option Addr) (c : Nat) (G : List Nat) : StrsR w (.slice a 0 c) [] G := ⟨a, c, rfl, fun h => by simp at h⟩
theorem strsR_drop0 {w : World} {g n cap : Nat} {ss : List (List UInt8)} {G : List Nat} (h : StrsR w (.slice (some ⟨g, 0, none⟩) n cap) ss G) (k : Nat) (hk : k ≤ ss.length) (c : Nat) : StrsR w (.slice (some ⟨g, k, none⟩) (n - k) c) (ss.drop k) G := by
  have := strsR_drop h k hk c
  rwa [Nat.zero_add] at this
theorem Own.newBoxA {w0 w : World} {L : List Piece} (h : Own w0 w L) (o : Obj) (vals : Array Value) (ty : TypeId) : Own w0 ((w.alloc o).alloc (.cells vals ty)) (box (w.heap.size + 1) vals ty :: L) := by
  have h2 := (h.alloc o).newBox vals ty
  rw [show (w.alloc o).heap.size = w.heap.size + 1 from by show (w.heap.push _).size = _; simp] at h2
  exact h2
theorem Own.newBoxD {w0 w : World} {L : List Piece} (h : Own w0 w L) (o : Obj) (vals : Array Value) (ty : TypeId) : Own w0 ((w.alloc o).drew.alloc (.cells vals ty)) (box (w.heap.size + 1) vals ty :: L) := by
  have h2 := (h.alloc o).drew.newBox vals ty
  rw [show (w.alloc o).drew.heap.size = w.heap.size + 1 from by show (w.heap.push _).size = _; simp] at h2
  exact h2
set_option maxRecDepth 100000 in
set_option maxHeartbeats 8000000 in
theorem rdomains_any {w : World} (m : Ml) {G : List Nat} (hr : RcR w m.ra m.rc G) (hs : m.Small) :
    Calls Tryd.prog 28 #[m.val] w (CompPost w [] (domsS m.rc)) := by
  obtain ⟨frm, ra, rcap, rc, req, env, txt⟩ := m
  obtain ⟨h1, h2, h3, h4, hcap, h5⟩ := hs
  simp only [Ml.val, Ml.cells] at h1 h2 h3 h4 h5 hcap hr ⊢
  have DS : Hid (∀ ss, RisOf ss (doms rc) → ss = domsS rc) := fun ss h => risOf_doms h
  generalize domsS rc = res at DS ⊢
  obtain ⟨N, hN⟩ : ∃ n, n = rc.length := ⟨_, rfl⟩
  rw [← hN]
  have HN := Lib.hid hN
  have O := ((Own.start w).newBox #[.string ⟨frm.toArray⟩, .slice ra N rcap, .bool req, .string ⟨env.toArray⟩, .string ⟨txt.toArray⟩] 39).nilStrs
  have H4 := Lib.hid (show N ≤ 100000 by omega)
  have H5 := Lib.hid h5
  clear hN h1 h2 h3 h4 h5 hcap
  obtain ⟨c0, c1, c2, c3, c4⟩ := box5 (O.pick 1)
  go_enter Tryd.func28, Tryd.ntmps28
  go_wp2_with fail
  clear c0 c1 c2 c3 c4
  go_loopw [3, 4] (fun ov iv wr => ∃ (i : Nat) (a : Option Addr) (n cap : Nat) (ss : List (List UInt8)), i ≤ N ∧ iv = .int .i64 i ∧ ov = .slice a n cap ∧ Hid (RisOf ss (doms (rc.take i))) ∧ Hid (ss.length ≤ i) ∧ Own w wr [strs (.slice a n cap) ss, box w.heap.size #[.string ⟨frm.toArray⟩, .slice ra N rcap, .bool req, .string ⟨env.toArray⟩, .string ⟨txt.toArray⟩] 39]) (fun _ iv _ => N - (intOf iv).toNat)
  case atStart => exact ⟨0, none, 0, 0, [], by omega, rfl, rfl, risOf_nil, Nat.le_refl 0, O⟩
  case round =>
    clear O
    obtain ⟨i, sa, sn, scap, ss, hi, rfl, rfl, HRS, HSL, O⟩ := hrel
    obtain ⟨c0, c1, c2, c3, c4⟩ := box5 (O.pick 1)
    have hNB := H4.out
    by_cases hlt : i < N
    · have hb1 : (i : Int) < (N : Int) := by omega
      have hil : i < rc.length := by have := HN.out; omega
      obtain ⟨g, off, rfl, hg, hcell⟩ := (hr.own O) (by omega)
      obtain ⟨d0, d1⟩ := hcell i hil
      have hly := H5.out _ (List.getElem_mem hil)
      have HST := Lib.hid (doms_snoc hil)
      generalize rc[i] = y at d0 d1 hly HST
      clear hcell d1
      obtain ⟨y, yb⟩ := y
      simp only at d0 hly HST
      go_wp2_with fail
      refine (rparse_own O y (by omega)).mono ?_
      clear O c0 c1 c2 c3 c4 d0
      rintro e w2 ⟨rfl, O⟩
      rcases parse_cases y with ⟨e1, e2⟩ | ⟨e1, e2⟩
      rotate_left
      · rw [e2]
        have NX : Hid (doms (rc.take (i + 1)) = doms (rc.take i)) := by unfold Hid; rw [HST.out, if_neg (by rw [e1]; simp)]
        clear HST e1 e2
        go_wp2_with fail
        go_roundw
        case rel => exact ⟨i + 1, sa, sn, scap, ss, by omega, by go_num, rfl, by rw [NX.out]; exact HRS, by have := HSL.out; unfold Hid; omega, O⟩
        case measure => simp [intOf]; omega
      rw [e2]
      have NX : Hid (doms (rc.take (i + 1)) = doms (rc.take i) ++ [domL y]) := by unfold Hid; rw [HST.out, if_pos e1]
      clear HST e1 e2
      generalize domL y = d at NX ⊢
      generalize locL y = ll
      obtain ⟨n, hn⟩ : ∃ n, n = ss.length := ⟨_, rfl⟩
      obtain ⟨_, _, hsh⟩ := O.shape
      obtain rfl : sn = n := by simp only [Value.slice.injEq] at hsh; omega
      clear hsh
      have HSN := Lib.hid hn
      clear hn
      have hsn5 : sn ≤ 100000 := by have := HSN.out; have := HSL.out; omega
      go_wp2_with fail
      go_loopw [8] (fun kv wr => ∃ k : Nat, k ≤ sn ∧ kv = .int .i64 k ∧ Hid (∀ j (hj : j < ss.length), j < k → ss[j] < d) ∧ Own w wr [strs (.slice sa sn scap) ss, box w.heap.size #[.string ⟨frm.toArray⟩, .slice (some ⟨g, off, none⟩) N rcap, .bool req, .string ⟨env.toArray⟩, .string ⟨txt.toArray⟩] 39]) (fun kv _ => sn - (intOf kv).toNat)
      case atStart => exact ⟨0, by omega, rfl, fun j hj h => by omega, O⟩
      case round =>
        clear O
        obtain ⟨k, hk, rfl, HLT, O⟩ := hrel
        by_cases hks : k < sn
        focus
          have hkl : k < ss.length := by have := HSN.out; omega
          have hb2 : (k : Int) < (sn : Int) := by omega
          obtain ⟨-, g2, rfl, f0, -⟩ := O.strsAt k hkl
          have HGT : Hid (∀ x, ss[k] = x → (x < d → ∀ j (hj : j < ss.length), j < k + 1 → ss[j] < d) ∧ (¬ x < d → x ≠ d → RisOf (ss.take k ++ [d] ++ ss.drop k) (doms (rc.take (i + 1)))) ∧ (x = d → RisOf ss (doms (rc.take (i + 1))))) := by
            rintro x rfl
            refine ⟨fun h j hj hj1 => ?_, fun h1 h2 => ?_, fun h => ?_⟩
            · by_cases e : j = k
              · subst e; exact h
              · exact HLT.out j hj (by omega)
            · rw [NX.out]; exact risOf_in HRS.out (by omega) HLT.out (fun _ => ⟨h1, h2⟩)
            · rw [NX.out]; exact risOf_has HRS.out (by rw [← h]; exact List.getElem_mem hkl)
          have HG2 := HGT.out _ rfl
          clear HGT
          generalize ss[k] = x at f0 HG2
          by_cases hxd : x < d
          · have bl : Op.bytesLess x d = true := by rw [bytesLess_eq]; exact decide_eq_true hxd
            have HL2 := Lib.hid (HG2.1 hxd)
            clear HG2 hxd
            go_wp2_with fail
            go_roundw
            case rel => exact ⟨k + 1, by omega, by go_num, HL2, O⟩
            case measure => simp [intOf]; omega
          have bl : Op.bytesLess x d = false := by rw [bytesLess_eq]; exact decide_eq_false hxd
          have hb3 : ((k : Int) == (sn : Int)) = false := by simp; omega
          by_cases hxe : x = d
          · have HIS := Lib.hid (HG2.2.2 hxe)
            subst hxe
            have i1 : (x == x) = true := by simp
            have i2 : (x != x) = false := by simp
            clear HG2 hxd
            go_wp2_with fail
            go_roundw
            case rel => exact ⟨i + 1, _, sn, scap, ss, by omega, by go_num, rfl, HIS, by have := HSL.out; unfold Hid; omega, O⟩
            case measure => simp [intOf]; omega
          have HRN := Lib.hid (HG2.2.1 hxd hxe)
          obtain ⟨b1, b2⟩ := bl_beq hxe
          clear HG2 hxd hxe
          go_upto_region 11 with fail
          obtain ⟨sa, hsa'⟩ : ∃ q, q = some (⟨g2, 0, none⟩ : Addr) := ⟨_, rfl⟩
          rw [← hsa'] at O ⊢
          clear f0 b1 b2 hkl hb2 hb3 bl hsa'
        rotate_left
        focus
          have hks' : ¬ (k : Int) < (sn : Int) := by omega
          have hb3 : ((k : Int) == (sn : Int)) = true := by simp; omega
          have HRN : Hid (RisOf (ss.take k ++ [d] ++ ss.drop k) (doms (rc.take (i + 1)))) := by
            unfold Hid
            rw [NX.out]
            exact risOf_in HRS.out (by have := HSN.out; omega) HLT.out (fun h => by have := HSN.out; omega)
          go_upto_region 11 with fail
          clear hb3 hks'
        all_goals
          obtain ⟨-, hcp, hsa⟩ := strs_cap O
          clear HLT HRS NX
          have HL2 : Hid ((ss.take k ++ [d] ++ ss.drop k).length ≤ i + 1) := by
            have := HSL.out; unfold Hid; simp; omega
          have q1 : (k : Int) ≤ (sn : Int) := by omega
          have q2 : (k : Int) ≤ (scap : Int) := by omega
          have q3 : (sn : Int) ≤ (scap : Int) := by omega
          have hk6 : k ≤ 1000000 := by omega
          have hs6 : sn - k ≤ 1000000 := by omega
          obtain ⟨BX, hBX⟩ : ∃ q, q = box w.heap.size #[.string ⟨frm.toArray⟩, .slice (some ⟨g, off, none⟩) N rcap, .bool req, .string ⟨env.toArray⟩, .string ⟨txt.toArray⟩] 39 := ⟨_, rfl⟩
          rw [← hBX] at O
          have HBX := Lib.hid hBX
          clear hBX
          have hkl : Hid (k ≤ ss.length) := by have := HSN.out; unfold Hid; omega
          have HD1 : Hid ([d].length ≤ 1000000) := by unfold Hid; simp
          have HTK : Hid ((ss.take k).length ≤ 1000000) := by unfold Hid; simp; omega
          have HL3 : Hid ((ss.take k ++ [d]).length ≤ 1000000) := by unfold Hid; simp; omega
          by_cases hk0 : k = 0
          · by_cases hs0 : sn = 0
            · have EQ : ss.take k ++ [d] ++ ss.drop k = ([d] ++ []) := by
                have hss : ss = [] := List.eq_nil_of_length_eq_zero (HSN.out.symm.trans hs0)
                rw [hss, hk0]; rfl
              have HRN2 : Hid (RisOf ([d] ++ []) (doms (rc.take (i + 1)))) := by unfold Hid; rw [← show ss.take k ++ [d] ++ ss.drop k = ([d] ++ []) from EQ]; exact HRN.out
              have HL2' : Hid (([d] ++ []).length ≤ i + 1) := by unfold Hid; rw [← show ss.take k ++ [d] ++ ss.drop k = ([d] ++ []) from EQ]; exact HL2.out
              clear HRN HL2 EQ
              subst hk0 hs0
              clear hk6
              have OD : Own w ((wr.alloc (.cells #[.string ⟨d.toArray⟩] 9)).alloc (.cells #[] 9)).drew [box wr.heap.size #[.string ⟨d.toArray⟩] 9, strs (.slice sa 0 scap) ss, BX] := ((O.newBox #[.string ⟨d.toArray⟩] 9).alloc (.cells #[] 9)).drew
              have OA : Own w ((wr.alloc (.cells #[] 9)).alloc (.cells #[.string ⟨d.toArray⟩] 9)).drew [box (wr.heap.size + 1) #[.string ⟨d.toArray⟩] 9, strs (.slice sa 0 scap) ss, BX] := (O.newBoxA (.cells #[] 9) #[.string ⟨d.toArray⟩] 9).drew
              have OC : Own w ((wr.alloc (.cells #[] 9)).drew.alloc (.cells #[.string ⟨d.toArray⟩] 9)) [box (wr.heap.size + 1) #[.string ⟨d.toArray⟩] 9, strs (.slice sa 0 scap) ss, BX] := O.newBoxD (.cells #[] 9) #[.string ⟨d.toArray⟩] 9
              have OD2 : Own w ((wr.alloc (.cells #[.string ⟨d.toArray⟩] 9)).alloc (.cells #[] 9)) [box wr.heap.size #[.string ⟨d.toArray⟩] 9, strs (.slice sa 0 scap) ss, BX] := (O.newBox #[.string ⟨d.toArray⟩] 9).alloc (.cells #[] 9)
              have OA2 : Own w ((wr.alloc (.cells #[] 9)).alloc (.cells #[.string ⟨d.toArray⟩] 9)) [box (wr.heap.size + 1) #[.string ⟨d.toArray⟩] 9, strs (.slice sa 0 scap) ss, BX] := O.newBoxA (.cells #[] 9) #[.string ⟨d.toArray⟩] 9
              have RD := box1R OD
              have RA := box1R OA
              have RC := box1R OC
              have RD2 := box1R OD2
              have RA2 := box1R OA2
              go_region_held3? (fun _ => True) (exact trivial)
                (first
                  | ((with_reducible refine wp_if ?_ (wp_zeroS _ rfl ?_ ?_)); (iterate 2 rfl); (refine ⟨?_, ?_, ?_, ?_, ?_, ?_⟩); rotate_left 3; rfl; rfl)
                  | ((with_reducible refine wp_if ?_ (wp_copyS OD RD (by decide) (by decide) rfl ?_ ?_ ?_ ?_)); (iterate 2 rfl); exact ⟨_, rfl⟩; rfl; intro x2 y2 w3 O3; skip)
                  | ((with_reducible refine wp_if ?_ (wp_copyS OA RA (by decide) (by decide) rfl ?_ ?_ ?_ ?_)); (iterate 2 rfl); exact ⟨_, rfl⟩; rfl; intro x2 y2 w3 O3; skip)
                  | ((with_reducible refine wp_if ?_ (wp_copyS OC RC (by decide) (by decide) rfl ?_ ?_ ?_ ?_)); (iterate 2 rfl); exact ⟨_, rfl⟩; rfl; intro x2 y2 w3 O3; skip)
                  | ((with_reducible refine wp_if ?_ (wp_copyS OD2 RD2 (by decide) (by decide) rfl ?_ ?_ ?_ ?_)); (iterate 2 rfl); exact ⟨_, rfl⟩; rfl; intro x2 y2 w3 O3; skip)
                  | ((with_reducible refine wp_if ?_ (wp_copyS OA2 RA2 (by decide) (by decide) rfl ?_ ?_ ?_ ?_)); (iterate 2 rfl); exact ⟨_, rfl⟩; rfl; intro x2 y2 w3 O3; skip)
                  | ((with_reducible refine wp_if ?_ (wp_appV O3 ([]) HD1.out rfl ?_ ?_ ?_ ?_)); (iterate 3 rfl); (refine ⟨?_, 0, ?_, [], ?_, strsR_zero _ _ _ _, Nat.zero_le _⟩); rotate_left 2; rfl; intro x3 m3 y3 w4 O4))
              all_goals
                have O5 : Own w w4 [strs (.slice x3 m3 y3) ([d] ++ []), BX] := O4.selK 4 [0, 3]
                rw [HBX.out] at O5
                go_wp2
                go_roundw
                case rel => exact ⟨i + 1, x3, m3, y3, ([d] ++ []), by omega, by go_num, rfl, HRN2, HL2', O5⟩
                case measure => simp [intOf]; omega
            · have EQ : ss.take k ++ [d] ++ ss.drop k = ([d] ++ ss) := by rw [hk0]; rfl
              have HRN2 : Hid (RisOf ([d] ++ ss) (doms (rc.take (i + 1)))) := by unfold Hid; rw [← show ss.take k ++ [d] ++ ss.drop k = ([d] ++ ss) from EQ]; exact HRN.out
              have HL2' : Hid (([d] ++ ss).length ≤ i + 1) := by unfold Hid; rw [← show ss.take k ++ [d] ++ ss.drop k = ([d] ++ ss) from EQ]; exact HL2.out
              clear HRN HL2 EQ
              subst hk0
              clear hk6
              obtain ⟨g3, rfl⟩ := hsa.resolve_left hs0
              have hcap0 : ¬ scap = 0 := by omega
              have hs6 : sn ≤ 1000000 := by omega
              have OD : Own w ((wr.alloc (.cells #[.string ⟨d.toArray⟩] 9)).alloc (.cells #[] 9)).drew [box wr.heap.size #[.string ⟨d.toArray⟩] 9, strs (.slice (some ⟨g3, 0, none⟩) sn scap) ss, BX] := ((O.newBox #[.string ⟨d.toArray⟩] 9).alloc (.cells #[] 9)).drew
              have OA : Own w ((wr.alloc (.cells #[] 9)).alloc (.cells #[.string ⟨d.toArray⟩] 9)).drew [box (wr.heap.size + 1) #[.string ⟨d.toArray⟩] 9, strs (.slice (some ⟨g3, 0, none⟩) sn scap) ss, BX] := (O.newBoxA (.cells #[] 9) #[.string ⟨d.toArray⟩] 9).drew
              have OC : Own w ((wr.alloc (.cells #[] 9)).drew.alloc (.cells #[.string ⟨d.toArray⟩] 9)) [box (wr.heap.size + 1) #[.string ⟨d.toArray⟩] 9, strs (.slice (some ⟨g3, 0, none⟩) sn scap) ss, BX] := O.newBoxD (.cells #[] 9) #[.string ⟨d.toArray⟩] 9
              have OD2 : Own w ((wr.alloc (.cells #[.string ⟨d.toArray⟩] 9)).alloc (.cells #[] 9)) [box wr.heap.size #[.string ⟨d.toArray⟩] 9, strs (.slice (some ⟨g3, 0, none⟩) sn scap) ss, BX] := (O.newBox #[.string ⟨d.toArray⟩] 9).alloc (.cells #[] 9)
              have OA2 : Own w ((wr.alloc (.cells #[] 9)).alloc (.cells #[.string ⟨d.toArray⟩] 9)) [box (wr.heap.size + 1) #[.string ⟨d.toArray⟩] 9, strs (.slice (some ⟨g3, 0, none⟩) sn scap) ss, BX] := O.newBoxA (.cells #[] 9) #[.string ⟨d.toArray⟩] 9
              have RD := box1R OD
              have RA := box1R OA
              have RC := box1R OC
              have RD2 := box1R OD2
              have RA2 := box1R OA2
              go_region_held3? (fun _ => True) (exact trivial)
                (first
                  | ((with_reducible refine wp_if ?_ (wp_zeroS _ rfl ?_ ?_)); (iterate 2 rfl); (refine ⟨?_, ?_, ?_, ?_, ?_, ?_⟩); rotate_left 3; rfl; rfl)
                  | ((with_reducible refine wp_if ?_ (wp_copyS OD RD (by decide) (by decide) rfl ?_ ?_ ?_ ?_)); (iterate 2 rfl); exact ⟨_, rfl⟩; rfl; intro x2 y2 w3 O3; (have RO := (O3.pick 2).strsR))
                  | ((with_reducible refine wp_if ?_ (wp_copyS OA RA (by decide) (by decide) rfl ?_ ?_ ?_ ?_)); (iterate 2 rfl); exact ⟨_, rfl⟩; rfl; intro x2 y2 w3 O3; (have RO := (O3.pick 2).strsR))
                  | ((with_reducible refine wp_if ?_ (wp_copyS OC RC (by decide) (by decide) rfl ?_ ?_ ?_ ?_)); (iterate 2 rfl); exact ⟨_, rfl⟩; rfl; intro x2 y2 w3 O3; (have RO := (O3.pick 2).strsR))
                  | ((with_reducible refine wp_if ?_ (wp_copyS OD2 RD2 (by decide) (by decide) rfl ?_ ?_ ?_ ?_)); (iterate 2 rfl); exact ⟨_, rfl⟩; rfl; intro x2 y2 w3 O3; (have RO := (O3.pick 2).strsR))
                  | ((with_reducible refine wp_if ?_ (wp_copyS OA2 RA2 (by decide) (by decide) rfl ?_ ?_ ?_ ?_)); (iterate 2 rfl); exact ⟨_, rfl⟩; rfl; intro x2 y2 w3 O3; (have RO := (O3.pick 2).strsR))
                  | ((with_reducible refine wp_if ?_ (wp_appV O3 (ss) HD1.out rfl ?_ ?_ ?_ ?_)); (iterate 3 rfl); (refine ⟨_, _, _, _, ?_, RO, hs6⟩); rfl; intro x3 m3 y3 w4 O4))
              all_goals
                have O5 : Own w w4 [strs (.slice x3 m3 y3) ([d] ++ ss), BX] := O4.selK 4 [0, 3]
                rw [HBX.out] at O5
                go_wp2
                go_roundw
                case rel => exact ⟨i + 1, x3, m3, y3, ([d] ++ ss), by omega, by go_num, rfl, HRN2, HL2', O5⟩
                case measure => simp [intOf]; omega
          · have hk1 : 0 < k := by omega
            obtain ⟨g3, rfl⟩ := hsa.resolve_left (by omega)
            by_cases hkn : k = sn
            · have EQ : ss.take k ++ [d] ++ ss.drop k = (ss.take k ++ [d] ++ []) := by rw [show ss.drop k = [] from List.drop_of_length_le (by have := HSN.out; omega)]
              have HRN2 : Hid (RisOf (ss.take k ++ [d] ++ []) (doms (rc.take (i + 1)))) := by unfold Hid; rw [← show ss.take k ++ [d] ++ ss.drop k = (ss.take k ++ [d] ++ []) from EQ]; exact HRN.out
              have HL2' : Hid ((ss.take k ++ [d] ++ []).length ≤ i + 1) := by unfold Hid; rw [← show ss.take k ++ [d] ++ ss.drop k = (ss.take k ++ [d] ++ []) from EQ]; exact HL2.out
              clear HRN HL2 EQ
              obtain ⟨sz, hsz⟩ : ∃ q, q = sn - k := ⟨_, rfl⟩
              have hsz0 : sn - k = 0 := by omega
              clear hs6 hkn hsz
              have OE := (O.alloc (.cells #[] 9)).drew
              have OD : Own w ((wr.alloc (.cells #[.string ⟨d.toArray⟩] 9)).alloc (.cells #[] 9)).drew [strs (.slice (some ⟨g3, 0, none⟩) sn scap) ss, box wr.heap.size #[.string ⟨d.toArray⟩] 9, BX] := (((O.newBox #[.string ⟨d.toArray⟩] 9).pick 1).alloc (.cells #[] 9)).drew
              have OA : Own w ((wr.alloc (.cells #[] 9)).alloc (.cells #[.string ⟨d.toArray⟩] 9)).drew [strs (.slice (some ⟨g3, 0, none⟩) sn scap) ss, box (wr.heap.size + 1) #[.string ⟨d.toArray⟩] 9, BX] := ((O.newBoxA (.cells #[] 9) #[.string ⟨d.toArray⟩] 9).pick 1).drew
              have RE := strsR_take OE.strsR k hkl.out scap
              have RD := strsR_take OD.strsR k hkl.out scap
              have RA := strsR_take OA.strsR k hkl.out scap
              go_region_held3? (fun _ => True) (exact trivial)
                (first
                  | ((with_reducible refine wp_if ?_ (wp_copyS OE RE hk1 hk6 rfl ?_ ?_ ?_ ?_)); (iterate 2 rfl); exact ⟨_, rfl⟩; rfl; intro x1 y1 w2 O2; (have OB : Own w (w2.alloc (.cells #[.string ⟨d.toArray⟩] 9)) [strs (.slice (some ⟨x1, 0, none⟩) k y1) (ss.take k), box w2.heap.size #[.string ⟨d.toArray⟩] 9, strs (.slice (some ⟨g3, 0, none⟩) sn scap) ss, BX] := (O2.newBox #[.string ⟨d.toArray⟩] 9).pick 1); (have RB := box1R (OB.pick 1)))
                  | ((with_reducible refine wp_if ?_ (wp_copyS OD RD hk1 hk6 rfl ?_ ?_ ?_ ?_)); (iterate 2 rfl); exact ⟨_, rfl⟩; rfl; intro x1 y1 w2 P2; (have OB : Own w w2 [strs (.slice (some ⟨x1, 0, none⟩) k y1) (ss.take k), box wr.heap.size #[.string ⟨d.toArray⟩] 9, strs (.slice (some ⟨g3, 0, none⟩) sn scap) ss, BX] := P2.selK 4 [0, 2, 1, 3]); (have RB := box1R (OB.pick 1)))
                  | ((with_reducible refine wp_if ?_ (wp_copyS OA RA hk1 hk6 rfl ?_ ?_ ?_ ?_)); (iterate 2 rfl); exact ⟨_, rfl⟩; rfl; intro x1 y1 w2 P2; (have OB : Own w w2 [strs (.slice (some ⟨x1, 0, none⟩) k y1) (ss.take k), box (wr.heap.size + 1) #[.string ⟨d.toArray⟩] 9, strs (.slice (some ⟨g3, 0, none⟩) sn scap) ss, BX] := P2.selK 4 [0, 2, 1, 3]); (have RB := box1R (OB.pick 1)))
                  | ((with_reducible refine wp_if ?_ (wp_appS OB RB (by decide) HTK.out rfl ?_ ?_ ?_ ?_)); (iterate 4 rfl); intro x2 m2 y2 w3 O3; skip)
                  | ((with_reducible refine wp_if ?_ (wp_appV O3 ([]) HL3.out rfl ?_ ?_ ?_ ?_)); (iterate 3 rfl); (refine ⟨?_, 0, ?_, [], ?_, strsR_zero _ _ _ _, Nat.zero_le _⟩); rotate_left 2; rfl; intro x3 m3 y3 w4 O4))
              all_goals
                have O5 : Own w w4 [strs (.slice x3 m3 y3) (ss.take k ++ [d] ++ []), BX] := O4.selK 4 [0, 3]
                rw [HBX.out] at O5
                go_wp2
                go_roundw
                case rel => exact ⟨i + 1, x3, m3, y3, (ss.take k ++ [d] ++ []), by omega, by go_num, rfl, HRN2, HL2', O5⟩
                case measure => simp [intOf]; omega
            · have EQ : ss.take k ++ [d] ++ ss.drop k = (ss.take k ++ [d] ++ ss.drop k) := rfl
              have HRN2 : Hid (RisOf (ss.take k ++ [d] ++ ss.drop k) (doms (rc.take (i + 1)))) := by unfold Hid; rw [← show ss.take k ++ [d] ++ ss.drop k = (ss.take k ++ [d] ++ ss.drop k) from EQ]; exact HRN.out
              have HL2' : Hid ((ss.take k ++ [d] ++ ss.drop k).length ≤ i + 1) := by unfold Hid; rw [← show ss.take k ++ [d] ++ ss.drop k = (ss.take k ++ [d] ++ ss.drop k) from EQ]; exact HL2.out
              clear HRN HL2 EQ
              have hcap0 : ¬ scap = k := by omega
              have OE := (O.alloc (.cells #[] 9)).drew
              have OD : Own w ((wr.alloc (.cells #[.string ⟨d.toArray⟩] 9)).alloc (.cells #[] 9)).drew [strs (.slice (some ⟨g3, 0, none⟩) sn scap) ss, box wr.heap.size #[.string ⟨d.toArray⟩] 9, BX] := (((O.newBox #[.string ⟨d.toArray⟩] 9).pick 1).alloc (.cells #[] 9)).drew
              have OA : Own w ((wr.alloc (.cells #[] 9)).alloc (.cells #[.string ⟨d.toArray⟩] 9)).drew [strs (.slice (some ⟨g3, 0, none⟩) sn scap) ss, box (wr.heap.size + 1) #[.string ⟨d.toArray⟩] 9, BX] := ((O.newBoxA (.cells #[] 9) #[.string ⟨d.toArray⟩] 9).pick 1).drew
              have RE := strsR_take OE.strsR k hkl.out scap
              have RD := strsR_take OD.strsR k hkl.out scap
              have RA := strsR_take OA.strsR k hkl.out scap
              go_region_held3? (fun _ => True) (exact trivial)
                (first
                  | ((with_reducible refine wp_if ?_ (wp_copyS OE RE hk1 hk6 rfl ?_ ?_ ?_ ?_)); (iterate 2 rfl); exact ⟨_, rfl⟩; rfl; intro x1 y1 w2 O2; (have OB : Own w (w2.alloc (.cells #[.string ⟨d.toArray⟩] 9)) [strs (.slice (some ⟨x1, 0, none⟩) k y1) (ss.take k), box w2.heap.size #[.string ⟨d.toArray⟩] 9, strs (.slice (some ⟨g3, 0, none⟩) sn scap) ss, BX] := (O2.newBox #[.string ⟨d.toArray⟩] 9).pick 1); (have RB := box1R (OB.pick 1)))
                  | ((with_reducible refine wp_if ?_ (wp_copyS OD RD hk1 hk6 rfl ?_ ?_ ?_ ?_)); (iterate 2 rfl); exact ⟨_, rfl⟩; rfl; intro x1 y1 w2 P2; (have OB : Own w w2 [strs (.slice (some ⟨x1, 0, none⟩) k y1) (ss.take k), box wr.heap.size #[.string ⟨d.toArray⟩] 9, strs (.slice (some ⟨g3, 0, none⟩) sn scap) ss, BX] := P2.selK 4 [0, 2, 1, 3]); (have RB := box1R (OB.pick 1)))
                  | ((with_reducible refine wp_if ?_ (wp_copyS OA RA hk1 hk6 rfl ?_ ?_ ?_ ?_)); (iterate 2 rfl); exact ⟨_, rfl⟩; rfl; intro x1 y1 w2 P2; (have OB : Own w w2 [strs (.slice (some ⟨x1, 0, none⟩) k y1) (ss.take k), box (wr.heap.size + 1) #[.string ⟨d.toArray⟩] 9, strs (.slice (some ⟨g3, 0, none⟩) sn scap) ss, BX] := P2.selK 4 [0, 2, 1, 3]); (have RB := box1R (OB.pick 1)))
                  | ((with_reducible refine wp_if ?_ (wp_appS OB RB (by decide) HTK.out rfl ?_ ?_ ?_ ?_)); (iterate 4 rfl); intro x2 m2 y2 w3 O3; (have RO := strsR_drop0 (n := sn) (cap := scap) ((O3.pick 2).strsR) k hkl.out (scap - k)))
                  | ((with_reducible refine wp_if ?_ (wp_appV O3 (ss.drop k) HL3.out rfl ?_ ?_ ?_ ?_)); (iterate 3 rfl); (refine ⟨_, _, _, _, ?_, RO, hs6⟩); rfl; intro x3 m3 y3 w4 O4))
              all_goals
                have O5 : Own w w4 [strs (.slice x3 m3 y3) (ss.take k ++ [d] ++ ss.drop k), BX] := O4.selK 4 [0, 3]
                rw [HBX.out] at O5
                go_wp2
                go_roundw
                case rel => exact ⟨i + 1, x3, m3, y3, (ss.take k ++ [d] ++ ss.drop k), by omega, by go_num, rfl, HRN2, HL2', O5⟩
                case measure => simp [intOf]; omega
    · obtain rfl : i = N := by omega
      have E := HRS.out
      rw [List.take_of_length_le (by have := HN.out; omega)] at E
      obtain rfl := DS.out _ E
      clear E HRS
      go_wp2
      go_ret
      exact ⟨_, rfl, O.sel [0]⟩
end Go.Proofs.YtlmifdkhdcbniaaDoor
