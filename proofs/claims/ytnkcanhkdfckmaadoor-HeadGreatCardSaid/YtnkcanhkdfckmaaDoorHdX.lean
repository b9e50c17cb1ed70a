/- mailroomref09 Fields, the walk. -/
import Derived.Test.YtnkcanhkdfckmaaDoorHdW
namespace Go.Proofs.YtnkcanhkdfckmaaDoor
set_option linter.all false
open Go.RowKit Go.Shelf

theorem info_rfd : (Tryd.prog.info? 45).map (fun i => (i.zero, i.size, i.bytes)) = some (some (.agg #[.string .empty, .string .empty]), 2, 32) := by kernel_rfl
theorem run_append_rfd {w0 w : World} {L : List Piece} {v : Value} {k : Nat} {xs : List Value} (O : Own w0 w (rowv 45 2 v k xs :: L)) (f : Fd) (hlen : k ≤ 20000000) (ty : TypeId) :
    ∃ a' cap w', (Builtin.append_ #[39, 39] ty #[v, .slice (some ⟨w.heap.size, 0, none⟩) 1 1]).run Tryd.prog (w.alloc (.cells #[.string ⟨f.1.toArray⟩, .string ⟨f.2.toArray⟩] 45)) = .ok (.slice a' (k + 1) cap) w' ∧ Own w0 w' (rowv 45 2 (.slice a' (k + 1) cap) (k + 1) (xs ++ flatF [f]) :: L) := by
  obtain ⟨U, ⟨row, rfl⟩, q⟩ := O.open
  obtain ⟨i0, hi, hz0, hz1, hz2⟩ := info_parts info_rfd
  have hb : (w.alloc (.cells #[.string ⟨f.1.toArray⟩, .string ⟨f.2.toArray⟩] 45)).heap[w.heap.size]? = some (.cells #[.string ⟨f.1.toArray⟩, .string ⟨f.2.toArray⟩] 45 (0, 0)) := heap_alloc_new _ _
  obtain ⟨v', w', hr, r1, r2, _, r3⟩ := run_append_new (P := Tryd.prog) (w.alloc (.cells #[.string ⟨f.1.toArray⟩, .string ⟨f.2.toArray⟩] 45)) w0.heap.size 39 ty 45 i0 _ 2 32 Tryd.underlying39 hi hz0 hz1 hz2 rfl (by decide) v k _ (row.alloc _) ⟨w.heap.size, 0, none⟩ 1 1 (flatF [f]) rfl
    (by intro j u hu
        match j, hu with
        | 0, hu => simp [flatF] at hu; subst hu; simp [Addr.add, cell_at hb]
        | 1, hu => simp [flatF] at hu; subst hu; simp [Addr.add, cell_at hb]) (by intro u hu; simp [flatF] at hu; rcases hu with rfl | rfl <;> rfl) (by unfold maxLen; omega) (by omega) (Nat.le_trans O.size (by simp))
  obtain ⟨a', cap, rfl⟩ : ∃ a' cap, v' = .slice a' (k + 1) cap := by
    rcases r1.2 with ⟨rfl, h0⟩ | ⟨g, cap, cur, rfl, _⟩
    · omega
    · exact ⟨_, _, rfl⟩
  refine ⟨a', cap, w', hr, q w' (rowv 45 2 (.slice a' (k + 1) cap) (k + 1) (xs ++ flatF [f])) _ ⟨r1, rfl⟩ (((Chg.refl _ w).alloc _).grown r2 (fun k hk _ => by simp [hk])) (fun i hi => ?_)⟩
  rcases r3 i (by simpa using hi) with h4 | h4
  · exact .inl (by simp [h4])
  · exact .inr (by simp at h4; omega)
theorem step_append_rfd {ops : Array Oper} {o : Oper} {a : Act} {w w' : World} {K : Act → World → Prop} {Q : Exit → Act → World → Prop} {E : Prop} {d s : Operand} {dT sT : TypeId}
    (hg : o.guard = none) (hop : o.op = Op.call { callee := Callee.builtin Builtin.append, args := #[d, s], argTypes := #[dT, sT] }) {dv sv v' : Value} (hd : a.eval d = dv) (hs : a.eval s = sv)
    (hr : (Builtin.append_ #[dT, sT] o.type #[dv, sv]).run Tryd.prog w = .ok v' w') (hK : K (a.put o.dst v') w') :
    if Region.wanted o (yielded ops a.tmps) = true then Oper.wp Tryd.prog o a w K Q else E := step_appendO hg hop hd hs hr hK
theorem rfd_at {w0 w : World} {L : List Piece} {e : TypeId} {a : Option Addr} {n cap : Nat} {xs : List Fd} (O : Own w0 w (rowv e 2 (.slice a n cap) n (flatF xs) :: L)) (k : Nat) (hk : k < xs.length) :
    ∃ g, a = some ⟨g, 0, none⟩ ∧ w.cell? ⟨g, k * 2 + 1, none⟩ = some (.string ⟨xs[k].2.toArray⟩) ∧ w.frozen? ⟨g, k * 2 + 1, none⟩ = false := by
  have hl := flatF_sz xs
  have h2 := flatF_vl hk
  obtain ⟨-, g, rfl, c0, f0⟩ := O.rowvAt (k * 2 + 1) (by omega)
  rw [List.getElem?_eq_getElem (by omega)] at h2
  exact ⟨g, rfl, by rw [c0]; exact h2, f0⟩
/-- the first i trimmed -/
def mixF (out : List Fd) (i : Nat) : List Fd := (out.take i).map trimF ++ out.drop i
theorem mixF_len (out : List Fd) (i : Nat) : (mixF out i).length = out.length := by unfold mixF; simp; omega
theorem mixF_at {out : List Fd} {i : Nat} (h : i < out.length) : (mixF out i)[i]'(by rw [mixF_len]; exact h) = out[i] := by
  unfold mixF
  rw [List.getElem_append_right (by simp; omega)]
  simp [Nat.min_eq_left (Nat.le_of_lt h)]
theorem mixF_set {out : List Fd} {i : Nat} (h : i < out.length) : (mixF out i).set i (trimF out[i]) = mixF out (i + 1) := by
  unfold mixF
  rw [List.set_append_right _ _ (by simp; omega), List.take_succ_eq_append_getElem h, List.length_map, List.length_take, Nat.min_eq_left (Nat.le_of_lt h), Nat.sub_self, List.drop_eq_getElem_cons h, List.set_cons_zero, List.map_append]
  simp
theorem mixF_end (out : List Fd) : mixF out out.length = out.map trimF := by simp [mixF]
theorem sumL_app (a b : List (List UInt8)) : sumL (a ++ b) = sumL a + sumL b := by simp [sumL]
set_option maxRecDepth 100000 in
set_option maxHeartbeats 8000000 in
theorem rFields_own {w0 w : World} {L : List Piece} (O : Own w0 w L) (s : List UInt8) (hs : s.length ≤ 10000000) {r : List Fd} (hr : fieldsL s = r) :
    Calls Tryd.prog 20 #[.string ⟨s.toArray⟩] w fun e w' => ∃ a cap, e = .returned (.slice a r.length cap) ∧ Own w0 w' (rowv 45 2 (.slice a r.length cap) r.length (flatF r) :: L) := by
  have FL : Hid (r = fs none (cutL s).1) := hr.symm
  have HLB := Lib.hid (cutL_len s)
  have SB : Hid (sumL (cutL s).1 ≤ 10000000) := by
    have h2 := sumL_join (cutL s).1
    have h3 := congrArg List.length (cutL_join s).1
    rw [List.length_append] at h3
    unfold Hid; omega
  have CUT := refCut_own ((O.nilRowv 45 2)) s (by omega)
  clear hr
  generalize cutL s = ct at FL CUT HLB SB
  obtain ⟨lines, rest⟩ := ct
  simp only at FL CUT HLB SB
  go_enter Tryd.func20, Tryd.ntmps20
  go_wp2_with fail
  refine CUT.mono ?_
  clear O CUT
  rintro e w1 ⟨lv, rfl, O⟩
  obtain ⟨la, lcap, rfl⟩ := O.shape
  obtain ⟨N, hN⟩ : ∃ n, n = lines.length := ⟨_, rfl⟩
  rw [← hN] at O HLB ⊢
  have HN := Lib.hid hN
  clear hN
  have hN9 : N ≤ 10000000 := by have := HLB.out; omega
  have OA : Own w0 w1 (rowv 45 2 (.slice none 0 0) 0 [] :: strs (.slice la N lcap) lines :: L) := O.pick 1
  clear O
  go_wp2_with fail
  go_loopw [3, 6] (fun ov iv wr => ∃ (k n : Nat) (pre : List Fd) (now : Option Fd) (a : Option Addr) (cap : Nat), ov = .slice a n cap ∧ iv = .int .i64 k ∧ k ≤ N ∧ n ≤ k ∧ Hid (n = (rawF pre now).length) ∧ Hid (r = pre.map trimF ++ fs now (lines.drop k)) ∧ Hid (now = none → pre = []) ∧ Hid (∀ f, f ∈ rawF pre now → f.2.length ≤ sumL (lines.take k)) ∧ Own w0 wr (rowv 45 2 (.slice a n cap) n (flatF (rawF pre now)) :: strs (.slice la N lcap) lines :: L)) (fun _ iv _ => N - (intOf iv).toNat)
  case atStart => exact ⟨0, 0, [], none, none, 0, rfl, rfl, by omega, by omega, rfl, FL, fun _ => rfl, (show Hid _ from fun f hf => by simp [rawF] at hf), OA⟩
  case round =>
    clear OA FL
    obtain ⟨k, n, pre, now, a, cap, rfl, rfl, hk, hnk, HNN, FL, NP, VB, O⟩ := hrel
    by_cases hlt : k < N
    rotate_left
    focus
      obtain rfl : N = k := by omega
      have hb1 : ¬ (N : Int) < (N : Int) := by omega
      have FIN : Hid (r = (rawF pre now).map trimF) := by
        unfold Hid; rw [FL.out, HN.out, List.drop_length, fs_end]
      have VB2 : Hid (∀ f, f ∈ rawF pre now → f.2.length ≤ 10000000) := fun f hf => by
        have := VB.out f hf
        rw [HN.out, List.take_length] at this
        exact Nat.le_trans this SB.out
      clear FL NP VB
      go_wp2_with fail
    rotate_left
    focus
      obtain ⟨-, lg, rfl, cl, -⟩ := (O.pick 1).strsAt k (by rw [← HN.out]; exact hlt)
      have hb1 : (k : Int) < (N : Int) := by omega
      have FLk := FL.out
      have VBk := VB.out
      have hlt2 : k < lines.length := by rw [← HN.out]; exact hlt
      have hs1 : sumL (lines.take (k + 1)) = sumL (lines.take k) + lines[k].length := by
        rw [List.take_succ_eq_append_getElem hlt2, sumL_app]; simp [sumL]
      have HK9 : Hid (sumL (lines.take k) ≤ 10000000) := by
        have : sumL lines = sumL (lines.take k) + sumL (lines.drop k) := by rw [← sumL_app, List.take_append_drop]
        have := SB.out
        unfold Hid; omega
      have hl9 : lines[k].length ≤ 10000000 := by
        have : sumL lines = sumL (lines.take (k + 1)) + sumL (lines.drop (k + 1)) := by
          rw [← sumL_app, List.take_append_drop]
        have := SB.out
        omega
      rw [List.drop_eq_getElem_cons hlt2] at FLk
      clear FL VB
      generalize lines[k] = l at cl FLk hs1 hl9
      clear hlt2
      have FLH := Lib.hid FLk
      have VBH := Lib.hid VBk
      have HS1 := Lib.hid hs1
      clear FLk VBk hs1
      have CS : (∃ g, now = some g ∧ contB l = true) ∨ (now = none ∨ contB l = false) := by
        cases now with
        | none => exact .inr (.inl rfl)
        | some g =>
          cases h : contB l with
          | true => exact .inl ⟨g, rfl, rfl⟩
          | false => exact .inr (.inr rfl)
      rcases CS with ⟨g, rfl, hcb⟩ | hnc
      · have hn : n = pre.length + 1 := by rw [HNN.out]; simp [rawF]
        have hnl : n - 1 < (rawF pre (some g)).length := by rw [← HNN.out]; omega
        have hgx : (rawF pre (some g))[n - 1] = g := by
          subst hn; simp [rawF]
        obtain ⟨fg, rfl, c1, f1⟩ := rfd_at O (n - 1) hnl
        rw [hgx] at c1
        have OS := O.rowvStore ((n - 1) * 2 + 1) (.string ⟨(g.2 ++ l).toArray⟩)
        rw [flatF_set hnl, hgx, show (rawF pre (some g)).set (n - 1) (g.1, g.2 ++ l) = rawF pre (some (g.1, g.2 ++ l)) by subst hn; simp [rawF]] at OS
        have OSH := Lib.hid OS
        obtain ⟨h0, hb⟩ : ∃ h0 : 0 < l.length, blankB (l[0]'h0) = true := by
          cases l with
          | nil => cases hcb
          | cons c x => exact ⟨by simp, by rw [← hcb, contB_cons]; rfl⟩
        have BK := blank_any l[0]
        rw [hb] at BK
        have BKH := Lib.hid BK
        have FLN : Hid (r = pre.map trimF ++ fs (some (g.1, g.2 ++ l)) (lines.drop (k + 1))) := by
          unfold Hid; rw [FLH.out, fs_cont _ _ _ hcb]
        have VBN : Hid (∀ f, f ∈ rawF pre (some (g.1, g.2 ++ l)) → f.2.length ≤ sumL (lines.take (k + 1))) := by
          intro f hf
          have := HS1.out
          simp only [rawF, Option.toList, List.mem_append, List.mem_singleton] at hf
          rcases hf with hf | rfl
          · have := VBH.out f (by simp [rawF, hf]); omega
          · have := VBH.out g (by simp [rawF])
            rw [List.length_append]; omega
        have hg9 : g.2.length ≤ 10000000 := by
          have := VBH.out g (by simp [rawF])
          have := HK9.out
          omega
        have HNX : Hid (n = (rawF pre (some (g.1, g.2 ++ l))).length) := by rw [HNN.out]; unfold Hid; simp [rawF]
        have hn1 : (0 : Int) < (n : Int) := by omega
        have hl1 : (0 : Int) < (l.length : Int) := by omega
        have i1 : (n : Int) - 1 < (n : Int) := by omega
        have i2 : 0 ≤ (n : Int) - 1 := by omega
        have i3 : ((n : Int) - 1).toNat = n - 1 := by omega
        have i4 : n - 1 < n := by omega
        have s1 : IntKind.i64.wrap ((n : Int) - 1) = (n : Int) - 1 := IntWalk.i64_in _ (by omega)
        clear O OS hb BK FLH VBH HNN hgx hnl hn NP hcb HS1
        go_wp2_with fail
        refine (BKH.out _).mono ?_
        rintro e w2 ⟨rfl, rfl⟩
        go_wp2_with fail
        go_roundw
        case rel => exact ⟨k + 1, n, pre, some (g.1, g.2 ++ l), _, cap, rfl, by go_num, by omega, by omega, HNX, FLN, (fun h => by cases h), VBN, OSH.out⟩
        case measure => simp [intOf]; omega
      have NC : n = 0 ∨ (0 < n ∧ l = []) ∨ (0 < n ∧ ∃ h0 : 0 < l.length, blankB (l[0]'h0) = false) := by
        rcases hnc with q | q
        · left
          have := NP.out q
          rw [HNN.out, q, this]; rfl
        · rcases Nat.eq_zero_or_pos n with h | h
          · exact .inl h
          · cases l with
            | nil => exact .inr (.inl ⟨h, rfl⟩)
            | cons c x => exact .inr (.inr ⟨h, by simp, by rw [← q, contB_cons]; rfl⟩)
      have HNC := Lib.hid hnc
      have COL := colon_any l (by omega)
      have COLH := Lib.hid COL
      clear hnc COL
      rcases NC with hn0 | ⟨hn0, hl0⟩ | ⟨hn0, h0, hb⟩
      focus
        have hn1 : ¬ (0 : Int) < (n : Int) := by omega
        clear hn0
        go_wp2_with fail
        clear hn1
      rotate_left
      focus
        have hn1 : (0 : Int) < (n : Int) := by omega
        have hl1 : ¬ (0 : Int) < (l.length : Int) := by rw [hl0]; simp
        clear hl0
        go_wp2_with fail
      rotate_left
      focus
        have hn1 : (0 : Int) < (n : Int) := by omega
        have hl1 : (0 : Int) < (l.length : Int) := by omega
        have BK := blank_any l[0]
        rw [hb] at BK
        have BKH := Lib.hid BK
        clear BK hb
        go_wp2_with fail
        refine (BKH.out _).mono ?_
        rintro e w2 ⟨rfl, rfl⟩
        go_wp2_with fail
        clear BKH
      all_goals
        refine (COLH.out _).mono ?_
        rintro e w2 ⟨rfl, rfl⟩
        by_cases hc : colonN l = 0
        rotate_left
        focus
          obtain ⟨hbg, hcl, hbl⟩ := colonN_pos hc
          have FLN : Hid (r = (rawF pre now).map trimF ++ fs (some (l.take (colonN l), l.drop (colonN l + 1))) (lines.drop (k + 1))) := by
            unfold Hid; rw [FLH.out, fs_next _ _ _ HNC.out hbg, hbl]
          generalize colonN l = c at hc hcl FLN
          have VBN : Hid (∀ f, f ∈ rawF (rawF pre now) (some (l.take c, l.drop (c + 1))) → f.2.length ≤ sumL (lines.take (k + 1))) := by
            intro f hf
            have := HS1.out
            rw [rawF, Option.toList, List.mem_append, List.mem_singleton] at hf
            rcases hf with hf | rfl
            · have := VBH.out f hf; omega
            · simp; omega
          have HNX : Hid (n + 1 = (rawF (rawF pre now) (some (l.take c, l.drop (c + 1)))).length) := by
            rw [HNN.out]; unfold Hid; simp [rawF, Nat.add_assoc]
          obtain ⟨a2, cap2, w3, hap, O3⟩ := run_append_rfd O.drew (l.take c, l.drop (c + 1)) (by omega) 39
          rw [← flatF_snoc, show rawF pre now ++ [(l.take c, l.drop (c + 1))] = rawF (rawF pre now) (some (l.take c, l.drop (c + 1))) from rfl] at O3
          have O3H := Lib.hid O3
          have ST := run_subTo l c (by omega)
          have SF := run_subFrom l (c + 1) (by omega)
          rw [show ((c + 1 : Nat) : Int) = (c : Int) + 1 by omega] at SF
          have hq : ((c : Int) == 0) = false := by simpa using hc
          have s1 : IntKind.i64.wrap ((c : Int) + 1) = (c : Int) + 1 := IntWalk.i64_in _ (by omega)
          clear O O3 HNN FLH VBH HNC COLH NP HS1 HK9 hbg hbl hc
          go_wp2_with fail
          go_region_held3 (fun _ => True) (exact trivial) (refine step_append_rfd rfl rfl rfl rfl hap ?_)
          go_wp2
          go_roundw
          case rel => exact ⟨k + 1, n + 1, rawF pre now, some (l.take c, l.drop (c + 1)), a2, cap2, rfl, by go_num, by omega, by omega, HNX, FLN, (fun h => by cases h), VBN, O3H.out⟩
          case measure => simp [intOf]; omega
        have FIN : Hid (r = (rawF pre now).map trimF) := by
          unfold Hid; rw [FLH.out, fs_stop _ _ _ HNC.out (colonN_zero hc)]
        have VB2 : Hid (∀ f, f ∈ rawF pre now → f.2.length ≤ 10000000) := fun f hf => by
          have := VBH.out f hf
          have := HK9.out
          omega
        rw [hc]
        clear FLH VBH NP HS1 HNC COLH
        go_wp2_with fail
    all_goals
      generalize rawF pre now = out at HNN FIN VB2 O
      have OM : Own w0 _ (rowv 45 2 (.slice a n cap) n (flatF (mixF out 0)) :: L) := (show Own w0 _ (rowv 45 2 (.slice a n cap) n (flatF (mixF out 0)) :: _) from O).selK 2 [0]
      clear O
      go_loopw [9] (fun iv wx => ∃ i : Nat, i ≤ n ∧ iv = .int .i64 i ∧ Own w0 wx (rowv 45 2 (.slice a n cap) n (flatF (mixF out i)) :: L)) (fun iv _ => n - (intOf iv).toNat)
      case atStart => exact ⟨0, by omega, rfl, OM⟩
      case round =>
        clear OM
        obtain ⟨i, hi, rfl, O⟩ := hrel
        by_cases hin : i < n
        · first
            | (exfalso; omega)
            | (have hio : i < out.length := by have := HNN.out; omega
               obtain ⟨g, rfl, c1, f1⟩ := rfd_at O i (by rw [mixF_len]; exact hio)
               rw [mixF_at hio] at c1
               have hb2 : (i : Int) < (n : Int) := by omega
               have hn2 : (0 : Int) < (n : Int) := by omega
               have hi7 : i ≤ 10000000 := by omega
               have TR := Lib.hid (rtrim_any out[i].2 (by have := VB2.out _ (List.getElem_mem hio); omega))
               have OS := O.rowvStore (i * 2 + 1) (.string ⟨(trimL out[i].2).toArray⟩)
               have e : (flatF (mixF out i)).set (i * 2 + 1) (.string ⟨(trimL out[i].2).toArray⟩) = flatF (mixF out (i + 1)) := by
                 rw [flatF_set (by rw [mixF_len]; exact hio), ← mixF_set hio, mixF_at hio]; rfl
               rw [e] at OS
               have OSH := Lib.hid OS
               clear O OS e HNN FIN VB2
               generalize out[i] = f at c1 TR OSH
               clear hio
               go_wp2_with fail
               refine (TR.out _).mono ?_
               rintro e w2 ⟨rfl, rfl⟩
               go_wp2_with fail
               go_wp2
               go_roundw
               case rel => exact ⟨i + 1, by omega, by go_num, OSH.out⟩
               case measure => simp [intOf]; omega)
        · have hin2 : i = n := by omega
          subst hin2
          have hb2 : ¬ (i : Int) < (i : Int) := by omega
          have hm : mixF out i = r := by rw [HNN.out, mixF_end]; exact FIN.out.symm
          have hl : i = r.length := by rw [← hm, mixF_len]; exact HNN.out
          rw [hm] at O
          have OH : Hid (∃ a' cap', Ending.returned (Value.slice a i cap) = .returned (.slice a' r.length cap') ∧ Own w0 wr (rowv 45 2 (.slice a' r.length cap') r.length (flatF r) :: L)) := by
            rw [← hl]
            exact ⟨a, cap, rfl, O⟩
          clear O hm hl HNN FIN VB2
          go_wp2
          go_ret
          exact OH.out
end Go.Proofs.YtnkcanhkdfckmaaDoor
