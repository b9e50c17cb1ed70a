/- ReplyTells: the walk. -/
import Derived.Test.YtghgiaokdbeepaaReplyX
namespace Go.Proofs.Ytghgiaokdbeepaa
set_option linter.all false
open Go.RowKit

set_option maxRecDepth 100000 in
set_option maxHeartbeats 8000000 in
theorem replyTells_walk (s : List UInt8) (hs : s.length ≤ 140737488351232) (code : Int) (hwc : (Lit.int .i64 code).wf = true) (vp : Value) (p : Rep) (Gp : List Nat) (w : World) (op : RepIn w vp p Gp) (kp : ∀ a b s, vp = .agg #[a, b, s] → Kind s) (vq : Value) (q : Rep) (Gq : List Nat) (oq : RepIn w vq q Gq) :
    Calls Try.prog 7 #[.string ⟨s.toArray⟩, .int .i64 code, vp, vq] w fun e w' => e = .returned (.bool true) ∧ Below w.heap.size w w' := by
  obtain ⟨sp, rfl, rp, bp, gp, cp⟩ := op
  have KP := Lib.hid (kp _ _ _ rfl); clear kp
  obtain ⟨sq, rfl, rq, bq, gq, cq⟩ := oq
  obtain ⟨ap, capp, rfl, _⟩ := id rp
  obtain ⟨aq, capq, rfl, _⟩ := id rq
  have RP := Lib.hid rp; have BP := Lib.hid bp; have RQ := Lib.hid rq; have BQ := Lib.hid bq
  clear rp bp gp rq bq gq
  have O := ((Own.start w).newBox #[.int .i64 p.code, .string ⟨p.status.toArray⟩, .slice ap p.lines.length capp] 34).newBox #[.int .i64 q.code, .string ⟨q.status.toArray⟩, .slice aq q.lines.length capq] 34
  rw [show (w.alloc (.cells #[.int .i64 p.code, .string ⟨p.status.toArray⟩, .slice ap p.lines.length capp] 34)).heap.size = w.heap.size + 1 from by simp] at O
  by_cases h5 : 5000 < s.length
  · have h5' : (5000 : Int) < (s.length : Int) := by omega
    go_enter Try.func7, Try.ntmps7
    go_wp2_with fail
    refine (awake_any _).mono ?_
    rintro e w2 ⟨rfl, ch2⟩
    replace O := O.pure ch2
    go_wp2
    go_ret
    exact ⟨rfl, O.below⟩
  have h5' : ¬ (5000 : Int) < (s.length : Int) := by omega
  have h5'' : decide ((5000 : Int) < (s.length : Int)) = false := by simp; omega
  go_enter Try.func7, Try.ntmps7
  go_wp2_with fail
  generalize (w.alloc (.cells #[.int .i64 p.code, .string ⟨p.status.toArray⟩, .slice ap p.lines.length capp] 34)).alloc (.cells #[.int .i64 q.code, .string ⟨q.status.toArray⟩, .slice aq q.lines.length capq] 34) = W at O ⊢
  obtain ⟨BP0, hBP⟩ : ∃ B, B = w.heap.size := ⟨_, rfl⟩
  obtain ⟨BQ0, hBQ⟩ : ∃ B, B = w.heap.size + 1 := ⟨_, rfl⟩
  rw [← hBQ, ← hBP] at O
  rw [← hBQ, ← hBP]
  clear hBQ hBP
  have p1 : W.cell? ⟨BP0, 1, none⟩ = some (.string ⟨p.status.toArray⟩) := (O.pick 1).cell 1
  have p2 : W.cell? ⟨BP0, 2, none⟩ = some (.slice ap p.lines.length capp) := (O.pick 1).cell 2
  have q1 : W.cell? ⟨BQ0, 1, none⟩ = some (.string ⟨q.status.toArray⟩) := O.cell 1
  have q2 : W.cell? ⟨BQ0, 2, none⟩ = some (.slice aq q.lines.length capq) := O.cell 2
  refine (long_any _ _ p.lines Gp (O.came RP.out) BP.out cp).mono ?_
  rintro e w1 ⟨b1, rfl, rfl, hsh1⟩
  cases b1
  rotate_left
  · clear hsh1
    go_wp2_with fail
    refine (awake_any _).mono ?_
    rintro e w2 ⟨rfl, ch2⟩
    replace O := O.pure ch2
    go_wp2
    go_ret
    exact ⟨rfl, O.below⟩
  have SP := Lib.hid (hsh1 rfl); clear hsh1
  go_wp2_with fail
  refine (long_any _ _ q.lines Gq (O.came RQ.out) BQ.out cq).mono ?_
  rintro e w1 ⟨b1, rfl, rfl, hsh1⟩
  cases b1
  rotate_left
  · clear hsh1
    go_wp2_with fail
    refine (awake_any _).mono ?_
    rintro e w2 ⟨rfl, ch2⟩
    replace O := O.pure ch2
    go_wp2
    go_ret
    exact ⟨rfl, O.below⟩
  have SQ := Lib.hid (hsh1 rfl); clear hsh1
  go_wp2_with fail
  · refine (awake_any _).mono ?_
    rintro e w2 ⟨rfl, ch2⟩
    replace O := O.pure ch2
    go_wp2
    go_ret
    exact ⟨rfl, O.below⟩
  refine (parse_any s _ (by unfold maxLen; omega)).mono ?_
  rintro e w2 ⟨rfl, ch2⟩
  replace O := O.pure ch2
  clear ch2
  unfold parsedV
  go_wp2_with fail
  refine (parse5_any s _ (by unfold maxLen; omega)).mono ?_
  rintro e w3 ⟨rfl, ch3⟩
  replace O := O.pure ch3
  clear ch3
  unfold parsedV
  obtain ⟨P, hP⟩ : ∃ P, P = parse s := ⟨_, rfl⟩
  rw [← hP]
  clear hP
  generalize w.heap.size = B at *
  clear p1 p2 q1 q2
  have p0 : w3.cell? ⟨BP0, 0, none⟩ = some (.int .i64 p.code) := (O.pick 1).cell 0
  have p1 : w3.cell? ⟨BP0, 1, none⟩ = some (.string ⟨p.status.toArray⟩) := (O.pick 1).cell 1
  have p2 : w3.cell? ⟨BP0, 2, none⟩ = some (.slice ap p.lines.length capp) := (O.pick 1).cell 2
  have q0 : w3.cell? ⟨BQ0, 0, none⟩ = some (.int .i64 q.code) := O.cell 0
  have q1 : w3.cell? ⟨BQ0, 1, none⟩ = some (.string ⟨q.status.toArray⟩) := O.cell 1
  have q2 : w3.cell? ⟨BQ0, 2, none⟩ = some (.slice aq q.lines.length capq) := O.cell 2
  obtain ⟨bb, hbb⟩ : ∃ b, decide (p.code = q.code ∧ p.status = q.status ∧ p.lines = q.lines) = b := ⟨_, rfl⟩
  have HBB := Lib.hid hbb; clear hbb
  have f1 : (P.code != P.code) = false := by simp
  have f2 : (P.more != P.more) = false := by simp
  have f3 : (P.text != P.text) = false := by simp
  have f4 : (P.err != P.err) = false := by simp
  have f5 : (classOf code != classOf code) = false := by simp
  have f6 : (bb != bb) = false := by simp
  have lp : p.lines.length ≤ 1000000 := by have := SP.out.2; omega
  have lq : q.lines.length ≤ 1000000 := by have := SQ.out.2; omega
  go_wp2_with fail
  go_region_held3 (fun w' => w'.cell? ⟨BP0, 0, none⟩ = some (.int .i64 p.code) ∧ w'.cell? ⟨BP0, 1, none⟩ = some (.string ⟨p.status.toArray⟩) ∧ w'.cell? ⟨BP0, 2, none⟩ = some (.slice ap p.lines.length capp) ∧
      w'.cell? ⟨BQ0, 0, none⟩ = some (.int .i64 q.code) ∧ w'.cell? ⟨BQ0, 1, none⟩ = some (.string ⟨q.status.toArray⟩) ∧ w'.cell? ⟨BQ0, 2, none⟩ = some (.slice aq q.lines.length capq))
    (first
      | exact ⟨p0, p1, p2, q0, q1, q2⟩
      | exact ⟨(O2.pick 1).cell 0, (O2.pick 1).cell 1, (O2.pick 1).cell 2, O2.cell 0, O2.cell 1, O2.cell 2⟩
      | exact ⟨(O3.pick 1).cell 0, (O3.pick 1).cell 1, (O3.pick 1).cell 2, O3.cell 0, O3.cell 1, O3.cell 2⟩)
    (first
      | (go_at_call 11; refine (class_any _ _).mono ?_; rintro e ws ⟨rfl, rfl⟩)
      | (go_at_call 28; refine (class5_any _ _).mono ?_; rintro e ws ⟨rfl, rfl⟩)
      | (go_at_call 29; refine (sameR_any w3.drew p q _ _ Gp Gq (O.drew.came RP.out) (O.drew.came RQ.out) (by omega) bb HBB.out).mono ?_; rintro e ws2 ⟨rfl, chs2⟩; have O2 := O.drew.pure chs2)
      | (go_at_call 26; refine (same5_any _ p q _ _ Gp Gq (O2.came RP.out) (O2.came RQ.out) (by omega) (by omega) bb HBB.out).mono ?_; rintro e ws3 ⟨rfl, chs3⟩; have O3 := O2.pure chs3))
  clear p0 p1 p2 q0 q1 q2 f1 f2 f3 f4 f5 f6 HBB O O2
  replace O := O3
  clear O3
  have p0 : ws3.cell? ⟨BP0, 0, none⟩ = some (.int .i64 p.code) := (O.pick 1).cell 0
  have p1 : ws3.cell? ⟨BP0, 1, none⟩ = some (.string ⟨p.status.toArray⟩) := (O.pick 1).cell 1
  have p2 : ws3.cell? ⟨BP0, 2, none⟩ = some (.slice ap p.lines.length capp) := (O.pick 1).cell 2
  have plt := (O.pick 1).boxlt
  replace O := (O.newBox #[.int .i64 p.code, .string ⟨p.status.toArray⟩, .slice ap p.lines.length capp] 34).newEmpty
  rw [show (ws3.alloc (.cells #[.int .i64 p.code, .string ⟨p.status.toArray⟩, .slice ap p.lines.length capp] 34)).heap.size = ws3.heap.size + 1 from by simp] at O
  have KM := Lib.hid (O.came RP.out)
  go_wp2_with (at_builtin; refine wpList_append_strsO rfl _ _ rfl _ [] _ p.lines Gp O rfl rfl KM.out KP.out (by simp; omega) ?_)
  intro v5 w5 O5
  obtain ⟨a5, cap5, rfl⟩ := O5.shape
  clear O KM p0 p1 p2 plt
  generalize ws3.heap.size = C at *
  have c0 : w5.cell? ⟨C, 2, none⟩ = some (.slice ap p.lines.length capp) := (O5.pick 1).cell 2
  have cf : ∀ o, w5.frozen? ⟨C, o, none⟩ = false := fun o => (O5.pick 1).free o
  go_wp2_with fail
  replace O5 := ((O5.pick 1).set 2 (.slice a5 p.lines.length cap5)).sel [0, 1, 2, 3]
  try simp only [List.map_cons, List.map_nil, List.getD_cons_zero, List.getD_cons_succ, List.eraseIdx_cons_zero, List.eraseIdx_cons_succ, List.getElem_cons_zero, List.getElem_cons_succ] at O5
  generalize w5.setCell ⟨C, 2, none⟩ (.slice a5 p.lines.length cap5) = w6 at O5 ⊢
  clear c0 cf
  have BL : ∀ l ∈ p.lines, l.length ≤ 100000000 := fun l hl => Nat.le_trans (short_all SP.out l hl) (by omega)
  have BL := Lib.hid BL
  go_loopw [18] (fun rv wr => ∃ k : Nat, k ≤ 2 ∧ rv = .int .i64 k ∧ Own w wr [box C #[.int .i64 p.code, .string ⟨p.status.toArray⟩, .slice a5 p.lines.length cap5] 34, strs (.slice a5 p.lines.length cap5) p.lines, box BQ0 #[.int .i64 q.code, .string ⟨q.status.toArray⟩, .slice aq q.lines.length capq] 34, box BP0 #[.int .i64 p.code, .string ⟨p.status.toArray⟩, .slice ap p.lines.length capp] 34]) (fun rv _ => 2 - (intOf rv).toNat)
  case atStart => exact ⟨0, by omega, rfl, O5⟩
  case round =>
    clear O5
    obtain ⟨k, hk, rfl, O⟩ := hrel
    have c0 : wr.cell? ⟨C, 0, none⟩ = some (.int .i64 p.code) := O.cell 0
    have c1 : wr.cell? ⟨C, 1, none⟩ = some (.string ⟨p.status.toArray⟩) := O.cell 1
    have c2 : wr.cell? ⟨C, 2, none⟩ = some (.slice a5 p.lines.length cap5) := O.cell 2
    by_cases h2 : k < 2
    rotate_left
    · have hb1 : ¬ (k : Int) < 2 := by omega
      have p2 : wr.cell? ⟨BP0, 2, none⟩ = some (.slice ap p.lines.length capp) := (O.pick 3).cell 2
      go_wp2_with fail
      refine (same_any _ _ _ p.lines p.lines _ Gp (O.pick 1).strsR (O.came RP.out) (by omega) true (by simp)).mono ?_
      rintro e w9 ⟨rfl, n9, rfl⟩
      replace O := O.drewN n9
      go_wp2_with fail
      refine (awake_any _).mono ?_
      rintro e w17 ⟨rfl, ch17⟩
      replace O := O.pure ch17
      go_wp2
      go_ret
      exact ⟨rfl, O.below⟩
    have hb1 : (k : Int) < 2 := by omega
    go_wp2_with fail
    refine (show_any _ p _ _ (O.pick 1).strsR BL.out cp).mono ?_
    rintro e w7 ⟨v7, rfl, row7, ch7⟩
    replace O := O.newStrs ch7 row7
    clear row7 ch7 c0 c1 c2
    obtain ⟨a7, cap7, rfl⟩ := O.shape
    have p0 : w7.cell? ⟨BP0, 0, none⟩ = some (.int .i64 p.code) := (O.pick 4).cell 0
    have p1 : w7.cell? ⟨BP0, 1, none⟩ = some (.string ⟨p.status.toArray⟩) := (O.pick 4).cell 1
    have p2 : w7.cell? ⟨BP0, 2, none⟩ = some (.slice ap p.lines.length capp) := (O.pick 4).cell 2
    go_wp2_with fail
    refine (show5_any _ p _ Gp (O.came RP.out) BL.out cp).mono ?_
    rintro e w8 ⟨v8, rfl, row8, ch8⟩
    replace O := O.newStrs ch8 row8
    clear row8 ch8 p0 p1 p2
    have shl : (showOf p).length ≤ 1000000000 := by
      rcases showOf_cases p with h | ⟨_, _, h⟩
      · rw [h.1]; simp
      · rw [h, showTo_len]; omega
    go_wp2_with fail
    refine (same_any _ _ _ (showOf p) (showOf p) _ _ (O.pick 1).strsR O.strsR shl true (by simp)).mono ?_
    rintro e w9 ⟨rfl, n9, rfl⟩
    replace O := (O.drewN n9).drop
    go_wp2_with fail
    obtain ⟨wo, rfl⟩ : ∃ wo : World, wo = wr := ⟨_, rfl⟩
    go_loopw [20] (fun iv wr => ∃ (i : Nat) (ss : List (List UInt8)), iv = .int .i64 i ∧ i ≤ (showOf p).length ∧ ss.length = (showOf p).length ∧ Own w wr [strs (.slice a7 (showOf p).length cap7) ss, box C #[.int .i64 p.code, .string ⟨p.status.toArray⟩, .slice a5 p.lines.length cap5] 34, strs (.slice a5 p.lines.length cap5) p.lines, box BQ0 #[.int .i64 q.code, .string ⟨q.status.toArray⟩, .slice aq q.lines.length capq] 34, box BP0 #[.int .i64 p.code, .string ⟨p.status.toArray⟩, .slice ap p.lines.length capp] 34]) (fun iv _ => (showOf p).length - (intOf iv).toNat)
    case atStart => exact ⟨0, showOf p, rfl, by omega, rfl, O⟩
    case round =>
      clear O
      obtain ⟨i, ss, rfl, hi, hss, O⟩ := hrel
      have HSS := Lib.hid hss; clear hss
      by_cases hlt : i < (showOf p).length
      · have hb2 : (i : Int) < ((showOf p).length : Int) := by omega
        rcases row_shape' O.row with hv | ⟨g, cap', hv⟩
        · simp only [Value.slice.injEq] at hv; omega
        simp only [Value.slice.injEq] at hv
        obtain ⟨rfl, -, rfl⟩ := hv
        obtain ⟨-, r1, r2⟩ := O.readRow i (by rw [HSS.out]; exact hlt)
        go_wp2
        go_roundw
        case rel => exact ⟨i + 1, ss.set i spoilt, by go_num, by omega, by rw [List.length_set]; exact HSS.out, O.store i spoilt⟩
        case measure => simp [intOf]; omega
      · go_wp2
        go_roundw
        case rel => exact ⟨k + 1, by omega, by go_num, O.drop⟩
        case measure => simp [intOf]; omega
end Go.Proofs.Ytghgiaokdbeepaa
