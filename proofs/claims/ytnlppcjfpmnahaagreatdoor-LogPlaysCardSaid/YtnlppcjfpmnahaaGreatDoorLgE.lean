/- log: sectors, records. -/
import Derived.Test.YtnlppcjfpmnahaaGreatDoorLgD
import Derived.Test.YtnlppcjfpmnahaaGreatDoorFmG
import Derived.Test.YtnlppcjfpmnahaaGreatDoorRange
import Derived.Test.YtnlppcjfpmnahaaGreatDoorOwnIn
namespace Go.Proofs.YtnlppcjfpmnahaaGreatDoor
set_option linter.all false
open Go.RowKit Go.Shelf
attribute [local go_sem] Oper.semAt_some

theorem StrsR.dropS {w : World} {g off n cap : Nat} {ss : List (List UInt8)} {G : List Nat} (h : StrsR w (.slice (some ⟨g, off, none⟩) n cap) ss G) (k : Nat) (hk : k ≤ n) (cap' : Nat) : StrsR w (.slice (some ⟨g, off + k, none⟩) (n - k) cap') (ss.drop k) G := by
  obtain ⟨a, c, he, hr⟩ := h
  simp only [Value.slice.injEq] at he
  obtain ⟨rfl, rfl, rfl⟩ := he
  have hl : (ss.drop k).length = ss.length - k := by simp
  refine ⟨_, _, by rw [hl], fun hp => ?_⟩
  obtain ⟨g', off', e, hg, hc⟩ := hr (by omega)
  simp only [Option.some.injEq, Addr.mk.injEq, and_true] at e
  obtain ⟨rfl, rfl⟩ := e
  refine ⟨g, off + k, rfl, hg, fun i hi => ?_⟩
  rw [Nat.add_assoc, hc (k + i) (by omega)]
  simp
theorem Own.capS {w0 w : World} {L : List Piece} {g n cap : Nat} {ss : List (List UInt8)} (h : Own w0 w (strs (.slice (some ⟨g, 0, none⟩) n cap) ss :: L)) : n ≤ cap := by
  rcases h.row.2 with ⟨hv, _⟩ | ⟨g', cap', cur, hv, _, _, hnc, _⟩
  · cases hv
  · simp only [Value.slice.injEq] at hv
    obtain ⟨-, rfl, rfl⟩ := hv
    exact hnc
set_option maxRecDepth 100000 in
theorem run_row3 (g off n cap k : Nat) (h : k < n) (hc : n ≤ cap) (w : World) : (Instr.slice 23 (.slice (some ⟨g, off, none⟩) n cap) (some (.int .i64 k)) (some (.int .i64 n)) (some (.int .i64 n))).run Tryz.prog w = .ok (.slice (some ⟨g, off + k, none⟩) (n - k) (n - k)) w := by
  rw [run_slice_lhm w 23 (some ⟨g, off, none⟩) n cap (by rw [Tryz.underlying23]; rfl) .i64 .i64 .i64 k n n (by omega) (by omega) (by omega) (by omega)]
  have hs := Tryz.sizeOf9 w
  rw [show Tryz.prog.elem 23 = 9 from by kernel_rfl, hs]
  have hne : ¬ n = k := by omega
  simp [Result.andThen, sliced, Addr.add, hne]
set_option maxRecDepth 100000 in
theorem secs_own {w0 w : World} {L : List Piece} {p : Value} {m : Dk} (O : Own w0 w (dk p m :: L)) (hoff : m.off = false) (hn : m.n ≤ 1024) (first many : Nat) (h : first + many ≤ m.n) :
    Calls Tryz.prog 41 #[p, .int .i64 first, .int .i64 many] w fun e w' => ∃ v, e = .returned (.tuple #[v, .int .i64 0]) ∧ Own w0 w' (strs v (secsL m first many) :: dk p m :: L) := by
  obtain ⟨b, bn, bw, hp, -⟩ := O.dkE
  subst hp
  have O1 : Own w0 w (strs (.slice none 0 0) (secsL m first 0) :: dk (.pointer (some ⟨b, 0, none⟩)) m :: L) := O.nilStrs
  clear O
  go_enter Tryz.func41, Tryz.ntmps41
  go_wp2_with fail
  go_loopw [8, 13] (fun ov iv wx => ∃ i : Nat, iv = .int .i64 i ∧ i ≤ many ∧ Own w0 wx (strs ov (secsL m first i) :: dk (.pointer (some ⟨b, 0, none⟩)) m :: L)) (fun _ iv _ => many - (intOf iv).toNat)
  case atStart => exact ⟨0, rfl, by omega, O1⟩
  case round =>
    clear O1
    obtain ⟨i, rfl, hi, O⟩ := hrel
    by_cases hlt : i < many
    · have hb1 : (i : Int) < (many : Int) := by omega
      have s1 : IntKind.i64.wrap ((first : Int) + (i : Int)) = (first : Int) + (i : Int) := IntWalk.i64_in _ (by omega)
      have RD := read_own (O.pick 1) ((first : Int) + (i : Int)) (show I64 _ from I64.nat (k := first + i) (by omega))
      have e : m.read ((first : Int) + (i : Int)) = (m.get ((first + i : Nat) : Int), 0) := by
        unfold Dk.read; rw [hoff, if_neg (by simp), if_neg (by omega)]; congr 2
      rw [e] at RD
      have HS := Lib.hid (secsL_snoc m first i)
      have hl := secsL_len m first i
      generalize m.get ((first + i : Nat) : Int) = x at RD HS
      obtain ⟨ss, hss⟩ : ∃ ss, ss = secsL m first i := ⟨_, rfl⟩
      rw [← hss] at HS hl O RD
      have RD2 := RD
      have HL := Lib.hid hl
      clear RD e hss hl
      go_wp2_with fail
      refine RD2.mono ?_
      clear RD2 O
      rintro _ w1 ⟨rfl, O⟩
      have O2 := O.pick 1
      try simp only [List.map_cons, List.map_nil, List.getD_cons_zero, List.getD_cons_succ, List.eraseIdx_cons_zero, List.eraseIdx_cons_succ, List.getElem_cons_zero, List.getElem_cons_succ, List.take_succ_cons, List.take_zero, List.drop_succ_cons, List.drop_zero, List.cons_append, List.nil_append, List.append_eq] at O2
      have l1 : ss.length ≤ 1000000000 := by have := HL.out; omega
      clear O
      go_wp2_with (at_builtin; refine wpList_append_strO rfl _ _ rfl _ ss x O2 rfl rfl l1 ?_)
      intro v' w5 O3
      rw [← HS.out] at O3
      clear O2
      go_wp2
      go_roundw
      case rel => exact ⟨i + 1, by go_num, by omega, O3⟩
      case measure => simp [intOf]; omega
    · obtain rfl : i = many := by omega
      have hb1 : ¬ (i : Int) < (i : Int) := by omega
      go_wp2
      go_returns
      exact ⟨_, rfl, O⟩
/-- what records keeps -/
def recIt (B A : Nat) (v : Value) (age : Int) (ss : List (List UInt8)) (_ : Nat) : Piece := both (box B #[v] 23) (both (box A #[.int .i64 age] 3) (strs v ss))
def encR (x : List UInt8) : Array Value := #[.string ⟨x.toArray⟩]
theorem sizeAlloc (w : World) (o : Obj) : (w.alloc o).heap.size = w.heap.size + 1 := by simp
theorem records_own {w0 w : World} {L : List Piece} {v : Value} {ss : List (List UInt8)} (O : Own w0 w (strs v ss :: L)) (age : Int) :
    Calls Tryz.prog 58 #[v, .int .i64 age] w fun e w' => ∃ B A, e = .returned (.func (.func 75) #[] #[.pointer (some ⟨B, 0, none⟩), .pointer (some ⟨A, 0, none⟩)]) ∧ Own w0 w' (recIt B A v age ss 0 :: L) := by
  have O2 := (O.newBox #[v] 23).newBox #[.int .i64 age] 3
  rw [sizeAlloc] at O2
  obtain ⟨a, cap, rfl⟩ := O.shape
  have O3 := O2.selK 3 [0, 2, 1]
  try simp only [List.map_cons, List.map_nil, List.getD_cons_zero, List.getD_cons_succ, List.eraseIdx_cons_zero, List.eraseIdx_cons_succ, List.getElem_cons_zero, List.getElem_cons_succ, List.take_succ_cons, List.take_zero, List.drop_succ_cons, List.drop_zero, List.cons_append, List.nil_append, List.append_eq] at O3
  have O3 := O3.pack.pick 1
  try simp only [List.map_cons, List.map_nil, List.getD_cons_zero, List.getD_cons_succ, List.eraseIdx_cons_zero, List.eraseIdx_cons_succ, List.getElem_cons_zero, List.getElem_cons_succ, List.take_succ_cons, List.take_zero, List.drop_succ_cons, List.drop_zero, List.cons_append, List.nil_append, List.append_eq] at O3
  have O4 := O3.pack
  clear O O2 O3
  go_enter Tryz.func58, Tryz.ntmps58
  go_wp2
  go_ret
  exact ⟨w.heap.size, w.heap.size + 1, rfl, O4⟩
set_option maxRecDepth 100000 in
set_option maxHeartbeats 4000000 in
theorem records_iter (B A : Nat) (g n cap : Nat) (age : Int) (ss : List (List UInt8)) (hn : n = ss.length) (hn1 : n ≤ 1024) : IterO Tryz.prog 75 #[.pointer (some ⟨B, 0, none⟩), .pointer (some ⟨A, 0, none⟩)] encR (recsL age n 0 ss) (recIt B A (.slice (some ⟨g, 0, none⟩) n cap) age ss) := by
  intro nn w0 lp R Rx hY L W O h0
  refine callsIn_of_wp Tryz.func75 rfl trivial ?_
  simp only [Tryz.ntmps75, List.size_toArray, List.length_cons, List.length_nil, Nat.reduceAdd, Nat.reduceSub, Array.replicate_succ, Array.replicate_zero, List.push_toArray, List.append_toArray, List.nil_append, List.cons_append]
  have HY := Lib.hid hY; clear hY
  have HN := Lib.hid hn; clear hn
  have hpos : ∀ k p, (recsL age n 0 ss).drop k = recsL age (n - p) (p : Int) (ss.drop p) → p ≤ n → k ≤ (recsL age n 0 ss).length →
      (joinB age p (ss.drop p) = true → ∃ hk : k < (recsL age n 0 ss).length, (recsL age n 0 ss)[k] = joinT (ss.drop p) ∧ (recsL age n 0 ss).drop (k + 1) = recsL age (n - (p + joinM (ss.drop p))) ((p + joinM (ss.drop p) : Nat) : Int) (ss.drop (p + joinM (ss.drop p))) ∧ 1 ≤ joinM (ss.drop p) ∧ p + joinM (ss.drop p) ≤ n) ∧
      (joinB age p (ss.drop p) = false → k = (recsL age n 0 ss).length) := by
    intro k p h hp hk
    have hl : (ss.drop p).length = n - p := by rw [List.length_drop, HN.out]
    refine ⟨fun hj => ?_, fun hj => ?_⟩
    · obtain ⟨m1, m2⟩ := join_M hj
      rw [hl] at m2
      have e : n - p = (n - p - 1) + 1 := by omega
      have h2 : (recsL age n 0 ss).drop k = joinT (ss.drop p) :: recsL age (n - p - 1) ((p : Int) + (joinM (ss.drop p) : Int)) ((ss.drop p).drop (joinM (ss.drop p))) := by
        rw [h, e, recsL, if_pos hj]; rfl
      have hk2 : k < (recsL age n 0 ss).length := by
        rcases Nat.lt_or_ge k (recsL age n 0 ss).length with q | q
        · exact q
        · rw [List.drop_of_length_le q] at h2; cases h2
      rw [List.drop_eq_getElem_cons hk2] at h2
      injection h2 with h3 h4
      refine ⟨hk2, h3, ?_, m1, by omega⟩
      have hl2 : ((ss.drop p).drop (joinM (ss.drop p))).length ≤ n - p - 1 := by rw [List.length_drop, hl]; omega
      have hl3 : (ss.drop (p + joinM (ss.drop p))).length ≤ n - (p + joinM (ss.drop p)) := by rw [List.length_drop, HN.out]; omega
      rw [h4, recsL_fuel _ _ _ _ hl2, recsL_fuel _ (n - (p + joinM (ss.drop p))) _ _ hl3, List.drop_drop]
      congr 1
    · have h2 : (recsL age n 0 ss).drop k = [] := by
        rw [h]
        cases hq : n - p with
        | zero => rfl
        | succ f => rw [recsL, hj]; rfl
      have := congrArg List.length h2
      rw [List.length_drop] at this
      simp at this
      omega
  have HP := Lib.hid hpos
  clear hpos
  have O1 : Own w0 W (box B #[.slice (some ⟨g, 0, none⟩) n cap] 23 :: box A #[.int .i64 age] 3 :: strs (.slice (some ⟨g, 0, none⟩) n cap) ss :: L) := ((Own.unpack O).pick 1).unpack.selK 3 [2, 0, 1]
  clear O
  gi_wp2_with fail
  gi_loopw [4] (fun pv wr => ∃ (k p : Nat) (L : List Piece), pv = .int .i64 p ∧ p ≤ n ∧ k ≤ (recsL age n 0 ss).length ∧ Hid ((recsL age n 0 ss).drop k = recsL age (n - p) (p : Int) (ss.drop p)) ∧ Own w0 wr (box B #[.slice (some ⟨g, 0, none⟩) n cap] 23 :: box A #[.int .i64 age] 3 :: strs (.slice (some ⟨g, 0, none⟩) n cap) ss :: L) ∧ R k L) (fun pv _ => n - (intOf pv).toNat)
  case atStart => exact ⟨0, 0, L, rfl, by omega, by omega, (by unfold Hid; simp), O1, h0⟩
  case round =>
    clear O1 h0
    obtain ⟨k, p, L, rfl, hp, hk, HR, O, hRk⟩ := hrel
    have c0 : wr.cell? ⟨B, 0, none⟩ = some (.slice (some ⟨g, 0, none⟩) n cap) := O.cell 0
    obtain ⟨hyes, hno⟩ := HP.out k p HR.out hp hk
    have HY1 := Lib.hid hyes
    have HN1 := Lib.hid hno
    clear hyes hno
    by_cases hlt : p < n
    rotate_left
    · obtain rfl : p = n := by omega
      have hb1 : ¬ (p : Int) < (p : Int) := by omega
      have hkl : k = (recsL age p 0 ss).length := HN1.out (by rw [List.drop_of_length_le (by rw [HN.out]; omega)]; rfl)
      gi_wp2
      refine bodyPost_end (results_none rfl _ _ _) rfl ?_
      refine ⟨⟨_, rfl⟩, .inl ⟨L, O.drop.drop.drop, by rw [← hkl]; exact hRk⟩⟩
    have hb1 : (p : Int) < (n : Int) := by omega
    have hcap : n ≤ cap := ((O.pick 2)).capS
    have R3 := fun w => run_row3 g 0 n cap p hlt hcap w
    have OD := O.drew
    have SR : StrsR wr.drew (.slice (some ⟨g, 0 + p, none⟩) (n - p) (n - p)) (ss.drop p) _ := (OD.pick 2).strsR.dropS p (by omega) (n - p)
    have hsl : (ss.drop p).length ≤ 1000000000 := by rw [List.length_drop]; have := HN.out; omega
    have JC := Lib.hid (join_chg SR age p hsl)
    rw [Nat.zero_add] at R3 JC
    have k0 : Hid (wr.cell? ⟨B, 0, none⟩ = some (.slice (some ⟨g, 0, none⟩) n cap) ∧ wr.cell? ⟨A, 0, none⟩ = some (.int .i64 age)) := ⟨O.cell 0, (O.pick 1).cell 0⟩
    have k1 : Hid (wr.drew.cell? ⟨B, 0, none⟩ = some (.slice (some ⟨g, 0, none⟩) n cap) ∧ wr.drew.cell? ⟨A, 0, none⟩ = some (.int .i64 age)) := ⟨OD.cell 0, (OD.pick 1).cell 0⟩
    clear SR hsl O HP
    cases hj : joinB age p (ss.drop p)
    · rw [joinV_false hj] at JC
      have hkl := HN1.out hj
      clear hj HY1 HN1 HR HY
      gi_wp2_with fail
      refine wpIn_wide.2 ?_
      go_region_held3 (fun w' => w'.cell? ⟨B, 0, none⟩ = some (.slice (some ⟨g, 0, none⟩) n cap) ∧ w'.cell? ⟨A, 0, none⟩ = some (.int .i64 age))
        (first | with_reducible exact k0.out | with_reducible exact k1.out | with_reducible exact k2.out)
        (first
          | (go_at_call 76; (with_reducible refine JC.out.mono ?_); rintro e1 w4 ⟨rfl, oj⟩; have O5 := OD.pure oj.chg; have k2 : Hid (w4.cell? ⟨B, 0, none⟩ = some (.slice (some ⟨g, 0, none⟩) n cap) ∧ w4.cell? ⟨A, 0, none⟩ = some (.int .i64 age)) := ⟨O5.cell 0, (O5.pick 1).cell 0⟩))
      clear k0 k1 k2 OD JC R3
      gi_wp2
      refine ⟨(fun f h => by cases h), ?_⟩
      gi_wp2
      refine bodyPost_ret (results_none rfl _ _ _) rfl ?_
      exact ⟨⟨_, rfl⟩, .inl ⟨L, O5.drop.drop.drop, by rw [← hkl]; exact hRk⟩⟩
    · rw [joinV_true hj] at JC
      obtain ⟨hk2, e3, e4, m1, m2⟩ := HY1.out hj
      have NX : Hid ((recsL age n 0 ss).drop (k + 1) = recsL age (n - (p + joinM (ss.drop p))) ((p + joinM (ss.drop p) : Nat) : Int) (ss.drop (p + joinM (ss.drop p)))) := e4
      have s1 : IntKind.i64.wrap ((p : Int) + (joinM (ss.drop p) : Int)) = (p : Int) + (joinM (ss.drop p) : Int) := IntWalk.i64_in _ (by omega)
      have E3 := Lib.hid e3
      clear hj HY1 HN1 HR e4 e3
      obtain ⟨M, hM⟩ : ∃ M, M = joinM (ss.drop p) := ⟨_, rfl⟩
      rw [← hM] at JC NX s1 m1 m2
      obtain ⟨t, ht⟩ : ∃ t, t = joinT (ss.drop p) := ⟨_, rfl⟩
      rw [← ht] at JC E3
      clear hM ht
      gi_wp2_with fail
      refine wpIn_wide.2 ?_
      go_region_held3 (fun w' => w'.cell? ⟨B, 0, none⟩ = some (.slice (some ⟨g, 0, none⟩) n cap) ∧ w'.cell? ⟨A, 0, none⟩ = some (.int .i64 age))
        (first | with_reducible exact k0.out | with_reducible exact k1.out | with_reducible exact k2.out)
        (first
          | (go_at_call 76; (with_reducible refine JC.out.mono ?_); rintro e1 w4 ⟨rfl, oj⟩; have O5 := OD.pure oj.chg; have k2 : Hid (w4.cell? ⟨B, 0, none⟩ = some (.slice (some ⟨g, 0, none⟩) n cap) ∧ w4.cell? ⟨A, 0, none⟩ = some (.int .i64 age)) := ⟨O5.cell 0, (O5.pick 1).cell 0⟩))
      clear k0 k1 k2 OD JC R3
      have HYk := HY.out k hk2 L w4 (by
        have O6 := O5.selK 3 [1, 2, 0]
        try simp only [List.map_cons, List.map_nil, List.getD_cons_zero, List.getD_cons_succ, List.eraseIdx_cons_zero, List.eraseIdx_cons_succ, List.getElem_cons_zero, List.getElem_cons_succ, List.take_succ_cons, List.take_zero, List.drop_succ_cons, List.drop_zero, List.cons_append, List.nil_append, List.append_eq] at O6
        exact (O6.pack.pick 1).pack) hRk
      rw [E3.out] at HYk
      obtain ⟨fn, tmps, assign, body, hy, hRn⟩ := HYk
      dsimp only [encR] at hy
      clear O5 E3
      gi_wp2_with fail
      refine ⟨(fun h => by cases h), ?_⟩
      refine hRn.mono ?_
      clear hRn hy
      rintro e W3 (⟨rfl, L', O3, hR3⟩ | ⟨rfl, L', O3, hx⟩)
      · have O7 : Own w0 W3 (box B #[.slice (some ⟨g, 0, none⟩) n cap] 23 :: box A #[.int .i64 age] 3 :: strs (.slice (some ⟨g, 0, none⟩) n cap) ss :: L') := ((Own.unpack O3).pick 1).unpack.selK 3 [2, 0, 1]
        clear O3
        gi_wp2
        go_roundw
        case rel => exact ⟨k + 1, p + M, L', by go_num, by omega, by omega, NX, O7, hR3⟩
        case measure => simp [intOf]; omega
      · gi_wp2
        refine bodyPost_ret (results_none rfl _ _ _) rfl ?_
        exact ⟨⟨_, rfl⟩, .inr ⟨L', O3.drop, hx⟩⟩
end Go.Proofs.YtnlppcjfpmnahaaGreatDoor
