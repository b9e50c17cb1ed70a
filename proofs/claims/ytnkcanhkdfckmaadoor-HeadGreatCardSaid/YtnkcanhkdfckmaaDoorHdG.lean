/- head: Show. -/
import Derived.Test.YtnkcanhkdfckmaaDoorHdF
import Derived.Deep.RegionHeld3
import Derived.Test.YtnkcanhkdfckmaaDoorHeldIn
import Derived.Deep.DeepCutAuto
namespace Go.Proofs.YtnkcanhkdfckmaaDoor
set_option linter.all false
open Go.RowKit

/-- may a value have this byte? -/
def vc (c : UInt8) : Bool := (c == 9) || decide (32 ≤ c.toNat ∧ c.toNat ≤ 126)
def showB (f : Fd) : Bool := f.2.all vc && (namedB f.1 && (trimL f.2 == f.2))
def showL (f : Fd) : List UInt8 := if showB f = true then f.1 ++ ([58, 32] ++ f.2) else []
def showV (f : Fd) : Value := .tuple #[.string ⟨(showL f).toArray⟩, .int .i64 (if showB f = true then 0 else 4)]
theorem showV_no {f : Fd} (h : showB f = false) : showV f = .tuple #[.string ⟨#[]⟩, .int .i64 4] := by unfold showV showL; rw [h]; rfl
theorem showV_yes {f : Fd} (h : showB f = true) : showV f = .tuple #[.string ⟨(f.1 ++ ([58, 32] ++ f.2)).toArray⟩, .int .i64 0] := by unfold showV showL; rw [h]; rfl
set_option maxRecDepth 100000 in
set_option maxHeartbeats 4000000 in
theorem show_own {w0 w : World} {L : List Piece} (O : Own w0 w L) (f : Fd) (h1 : f.1.length ≤ 10000000) (h2 : f.2.length ≤ 10000000) {v : Value} (hv : showV f = v) :
    Calls Tryd.prog 13 #[fdV f] w fun e w' => e = .returned v ∧ Own w0 w' L := by
  obtain ⟨nm, vl⟩ := f
  simp only at h1 h2
  have HS : Hid (showB (nm, vl) = (vl.all vc && (namedB nm && (trimL vl == vl)))) := rfl
  have NO : Hid (showB (nm, vl) = false → v = .tuple #[.string ⟨#[]⟩, .int .i64 4]) := fun h => by rw [← hv, showV_no h]
  have YES : Hid (showB (nm, vl) = true → v = .tuple #[.string ⟨(nm ++ ([58, 32] ++ vl)).toArray⟩, .int .i64 0]) := fun h => by rw [← hv, showV_yes h]
  clear hv
  show Calls Tryd.prog 13 #[.agg #[.string ⟨nm.toArray⟩, .string ⟨vl.toArray⟩]] w _
  have O1 := O.newBox #[.string ⟨nm.toArray⟩, .string ⟨vl.toArray⟩] 29
  obtain ⟨B, hB⟩ : ∃ b, b = w.heap.size := ⟨_, rfl⟩
  obtain ⟨g, cap, W1, hcv, O2⟩ := O1.toBytes vl
  have c1 := O1.cell 1
  go_enter Tryd.func13, Tryd.ntmps13
  go_wp2_with fail
  rw [← hB] at O2 ⊢
  clear O O1 hcv c1 hB
  go_loopw [10] (fun iv wr => ∃ k : Nat, k ≤ vl.length ∧ iv = .int .i64 k ∧ Hid ((vl.take k).all vc = true) ∧ wr = W1) (fun iv _ => vl.length - (intOf iv).toNat)
  case atStart => exact ⟨0, by omega, rfl, rfl, by trivial⟩
  case round =>
    obtain ⟨k, hk, rfl, HA, rfl⟩ := hrel
    by_cases hlt : k < vl.length
    · have hb1 : (k : Int) < (vl.length : Int) := by omega
      obtain ⟨r1, r2⟩ := O2.byteCell k hlt
      have NX : Hid ((vl.take (k + 1)).all vc = vc vl[k]) := by
        unfold Hid; rw [List.take_succ_eq_append_getElem hlt, List.all_append, HA.out]; simp
      have OFF : Hid (vc vl[k] = false → v = .tuple #[.string ⟨#[]⟩, .int .i64 4]) := by
        intro h
        refine NO.out ?_
        rw [HS.out]
        have : vl.all vc = false := by
          rw [List.all_eq_false]; exact ⟨vl[k], List.getElem_mem hlt, by simpa using h⟩
        rw [this]; rfl
      have c9 := bq_is vl[k] 9 9 rfl
      have VC : Hid (vc vl[k] = ((vl[k] == 9) || decide (32 ≤ vl[k].toNat ∧ vl[k].toNat ≤ 126))) := rfl
      generalize vl[k] = c at r1 NX OFF c9 VC
      rcases Bool.eq_false_or_eq_true (c == 9) with q | q
      · have NX2 : Hid ((vl.take (k + 1)).all vc = true) := NX.out.trans (by rw [VC.out, q]; rfl)
        rw [q] at c9
        have c9' : ((c.toNat : Int) != 9) = false := by rw [bne, c9]; rfl
        clear NX OFF VC q
        go_wp2_with fail
        go_roundw
        case rel => exact ⟨k + 1, by omega, by go_num, NX2, by trivial⟩
        case measure => simp [intOf]; omega
      rw [q] at c9
      have c9' : ((c.toNat : Int) != 9) = true := by rw [bne, c9]; rfl
      by_cases c1 : (c.toNat : Int) < 32
      · have fin := OFF.out (by rw [VC.out, q, decide_eq_false (by omega)]; rfl)
        subst fin
        clear NX OFF VC HS NO YES q
        go_wp2
        refine bodyPost_ret (results_tmp2 rfl _ _ _) rfl ?_
        exact ⟨rfl, O2.drop.drop⟩
      by_cases c2 : 126 < (c.toNat : Int)
      · have fin := OFF.out (by rw [VC.out, q, decide_eq_false (by omega)]; rfl)
        subst fin
        clear NX OFF VC HS NO YES q
        go_wp2
        refine bodyPost_ret (results_tmp2 rfl _ _ _) rfl ?_
        exact ⟨rfl, O2.drop.drop⟩
      have NX2 : Hid ((vl.take (k + 1)).all vc = true) := NX.out.trans (by rw [VC.out, q, decide_eq_true (by omega)]; rfl)
      clear NX OFF VC q
      go_wp2_with fail
      go_roundw
      case rel => exact ⟨k + 1, by omega, by go_num, NX2, by trivial⟩
      case measure => simp [intOf]; omega
    · obtain rfl : k = vl.length := by omega
      have E := HA.out
      rw [List.take_length] at E
      have HS2 : Hid (showB (nm, vl) = (namedB nm && (trimL vl == vl))) := by unfold Hid; rw [HS.out, E]; rfl
      clear HA E HS
      have O3 := O2.drop
      clear O2
      have NM := Lib.hid (fun (w' : World) (L' : List Piece) (h : Own w0 w' L') => named_own h nm (by omega))
      have TR := Lib.hid (fun (w' : World) (L' : List Piece) (h : Own w0 w' L') => trim_own h vl (by omega))
      generalize namedB nm = nb at NM HS2
      have HSS : Hid (∀ w', Own w0 w' (box B #[.string ⟨nm.toArray⟩, .string ⟨vl.toArray⟩] 29 :: L) → w'.cell? ⟨B, 0, none⟩ = some (.string ⟨nm.toArray⟩) ∧ w'.cell? ⟨B, 1, none⟩ = some (.string ⟨vl.toArray⟩)) := fun w' h => ⟨h.cell 0, h.cell 1⟩
      have K0 := Lib.hid (HSS.out _ O3)
      cases nb
      focus
        have fin := NO.out HS2.out
        subst fin
        clear NO YES HS2 TR
        go_upto_region 7 with fail
        have NM2 := NM.out _ _ O3.drew
        have HT : wr.drew.cell? ⟨B, 0, none⟩ = some (.string ⟨nm.toArray⟩) ∧ wr.drew.cell? ⟨B, 1, none⟩ = some (.string ⟨vl.toArray⟩) := K0.out
        refine (wpIn_wide (n := 3)).1 ?_
        refine wpIn_region_any (by kernel_rfl) ?_
        change wpAnyIn _ _ _ _ _ _ _ _ _ (World.drew _)
        refine AnyS.any (S := fun w' => w'.cell? ⟨B, 0, none⟩ = some (.string ⟨nm.toArray⟩) ∧ w'.cell? ⟨B, 1, none⟩ = some (.string ⟨vl.toArray⟩)) ?_
        refine AnyS.take (i := 0) (.pointer (some ⟨B, 0, none⟩)) rfl (by kernel_rfl) (by kernel_rfl) (by kernel_rfl) (fun _ _ _ h => h) ⟨fun _ x hx => (by obtain ⟨g0, g1⟩ := hx; go_simp; done), fun h => (nomatch (show true = false from h)), fun _ => rfl⟩ HT ?_
        try simp only [Act.put, List.setIfInBounds_toArray, List.set_cons_succ, List.set_cons_zero]
        refine AnyS.take (i := 1) (.string ⟨nm.toArray⟩) rfl (by kernel_rfl) (by kernel_rfl) (by kernel_rfl) (fun _ _ _ h => h) ⟨fun _ x hx => (by obtain ⟨g0, g1⟩ := hx; go_simp; done), fun h => (nomatch (show true = false from h)), fun _ => rfl⟩ HT ?_
        try simp only [Act.put, List.setIfInBounds_toArray, List.set_cons_succ, List.set_cons_zero]
        refine AnyS.one (i := 2) (by kernel_rfl) ?_
        refine wpOpIn_step rfl (fun K hK => ?_)
        go_simp
        refine ⟨trivial, ?_⟩
        refine (callsIn_wide.2 NM2).mono ?_
        rintro e1 ws ⟨rfl, O4⟩
        have HT2 := HSS.out _ O4
        refine hK _ _ ⟨HT2, ?_⟩
        clear hK K
        try simp only [Act.put, List.setIfInBounds_toArray, List.set_cons_succ, List.set_cons_zero]
        refine AnyS.take (i := 3) (.bool true) rfl (by kernel_rfl) (by kernel_rfl) (by kernel_rfl) (fun _ _ _ h => h) ⟨fun _ x hx => (by obtain ⟨g0, g1⟩ := hx; go_simp; done), fun h => (nomatch (show true = false from h)), fun _ => rfl⟩ HT2 ?_
        try simp only [Act.put, List.setIfInBounds_toArray, List.set_cons_succ, List.set_cons_zero]
        refine AnyS.take (i := 4) (.bool true) rfl (by kernel_rfl) (by kernel_rfl) (by kernel_rfl) (fun _ _ _ h => h) ⟨fun _ x hx => (by obtain ⟨g0, g1⟩ := hx; go_simp; done), fun h => (nomatch (show true = false from h)), fun _ => rfl⟩ HT2 ?_
        try simp only [Act.put, List.setIfInBounds_toArray, List.set_cons_succ, List.set_cons_zero]
        refine AnyS.take (i := 5) undef rfl (by kernel_rfl) (by kernel_rfl) (by kernel_rfl) (fun _ _ _ h => h) ⟨fun h => (nomatch (show false = true from h)), fun _ => rfl, fun _ => rfl⟩ HT2 ?_
        try simp only [Act.put, List.setIfInBounds_toArray, List.set_cons_succ, List.set_cons_zero]
        refine AnyS.take (i := 6) undef rfl (by kernel_rfl) (by kernel_rfl) (by kernel_rfl) (fun _ _ _ h => h) ⟨fun h => (nomatch (show false = true from h)), fun _ => rfl, fun _ => rfl⟩ HT2 ?_
        try simp only [Act.put, List.setIfInBounds_toArray, List.set_cons_succ, List.set_cons_zero]
        refine AnyS.take (i := 8) undef rfl (by kernel_rfl) (by kernel_rfl) (by kernel_rfl) (fun _ _ _ h => h) ⟨fun h => (nomatch (show false = true from h)), fun _ => rfl, fun _ => rfl⟩ HT2 ?_
        try simp only [Act.put, List.setIfInBounds_toArray, List.set_cons_succ, List.set_cons_zero]
        refine AnyS.take (i := 9) undef rfl (by kernel_rfl) (by kernel_rfl) (by kernel_rfl) (fun _ _ _ h => h) ⟨fun h => (nomatch (show false = true from h)), fun _ => rfl, fun _ => rfl⟩ HT2 ?_
        try simp only [Act.put, List.setIfInBounds_toArray, List.set_cons_succ, List.set_cons_zero]
        refine AnyS.one (i := 7) (by kernel_rfl) ?_
        refine wpOpIn_step rfl (fun K hK => ?_)
        go_simp
        refine ⟨trivial, hK _ _ ⟨HT2, ?_⟩⟩
        clear hK K
        try simp only [Act.put, List.setIfInBounds_toArray, List.set_cons_succ, List.set_cons_zero]
        refine AnyS.take (i := 10) undef rfl (by kernel_rfl) (by kernel_rfl) (by kernel_rfl) (fun _ _ _ h => h) ⟨fun h => (nomatch (show false = true from h)), fun _ => rfl, fun _ => rfl⟩ HT2 ?_
        try simp only [Act.put, List.setIfInBounds_toArray, List.set_cons_succ, List.set_cons_zero]
        refine AnyS.take (i := 11) (.bool true) rfl (by kernel_rfl) (by kernel_rfl) (by kernel_rfl) (fun _ _ _ h => h) ⟨fun _ x hx => (by obtain ⟨g0, g1⟩ := hx; go_simp; done), fun h => (nomatch (show true = false from h)), fun _ => rfl⟩ HT2 ?_
        try simp only [Act.put, List.setIfInBounds_toArray, List.set_cons_succ, List.set_cons_zero]
        refine AnyS.done (by kernel_rfl) ?_ _
        go_wp2
        refine bodyPost_ret (results_tmp2 rfl _ _ _) rfl ?_
        exact ⟨rfl, O4.drop⟩
      focus
        generalize htl : trimL vl = tv at TR HS2
        clear htl
        obtain ⟨q, hq⟩ : ∃ q, (tv == vl) = q := ⟨_, rfl⟩
        have hq2 : (tv != vl) = !q := by rw [bne, hq]
        have HS3 : Hid (showB (nm, vl) = q) := by unfold Hid; rw [HS2.out, hq]; rfl
        clear HS2
        cases q
        all_goals
          simp only [Bool.not_false, Bool.not_true] at hq2
          go_upto_region 7 with fail
          go_region_held3? (fun w' => w'.cell? ⟨B, 0, none⟩ = some (.string ⟨nm.toArray⟩) ∧ w'.cell? ⟨B, 1, none⟩ = some (.string ⟨vl.toArray⟩))
            (first | with_reducible exact K0.out | exact K0.out | exact (HSS.out _ O4) | exact (HSS.out _ O5))
            (first
              | (go_at_call 35; (with_reducible refine (NM.out _ _ O3.drew).mono ?_); rintro e1 ws ⟨rfl, O4⟩)
              | (go_at_call 36; (with_reducible refine (TR.out _ _ O4).mono ?_); rintro e1 ws2 ⟨rfl, O5⟩))
          have c0 := O5.cell 0
          have c1 := O5.cell 1
          first
            | (have fin := NO.out HS3.out
               subst fin
               clear NO YES HS3
               go_wp2
               refine bodyPost_ret (results_tmp2 rfl _ _ _) rfl ?_
               exact ⟨rfl, O5.drop⟩)
            | (have fin := YES.out HS3.out
               subst fin
               clear NO YES HS3
               go_wp2
               refine bodyPost_ret (results_tmp2 rfl _ _ _) rfl ?_
               exact ⟨by first | rfl | simp, O5.drop⟩)
end Go.Proofs.YtnkcanhkdfckmaaDoor
