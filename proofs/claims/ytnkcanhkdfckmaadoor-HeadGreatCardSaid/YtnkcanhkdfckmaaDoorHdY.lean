/- fields that are read; mailroomlaw09.told; mailroomref09.Same, Get. -/
import Derived.Test.YtnkcanhkdfckmaaDoorHdX
import Derived.Test.YtnkcanhkdfckmaaDoorHdQ
import Derived.Test.YtnkcanhkdfckmaaDoorHdH
import Derived.Laws.StructEq
namespace Go.Proofs.YtnkcanhkdfckmaaDoor
set_option linter.all false
open Go.RowKit Go.Shelf

/-- a slice of fields reads these -/
def FdR (w : World) (v : Value) (xs : List Fd) : Prop :=
  ∃ a cap, v = .slice a xs.length cap ∧ (0 < xs.length → ∃ g off, a = some ⟨g, off, none⟩ ∧ ∀ i (h : i < xs.length), w.cell? ⟨g, off + i * 2, none⟩ = some (.string ⟨xs[i].1.toArray⟩) ∧ w.cell? ⟨g, off + i * 2 + 1, none⟩ = some (.string ⟨xs[i].2.toArray⟩))
theorem FdR.at {w : World} {a : Option Addr} {n cap : Nat} {xs : List Fd} (h : FdR w (.slice a n cap) xs) (k : Nat) (hk : k < xs.length) :
    ∃ g off, a = some ⟨g, off, none⟩ ∧ w.cell? ⟨g, off + k * 2, none⟩ = some (.string ⟨xs[k].1.toArray⟩) ∧ w.cell? ⟨g, off + k * 2 + 1, none⟩ = some (.string ⟨xs[k].2.toArray⟩) := by
  obtain ⟨a', c', hv, hr⟩ := h
  simp only [Value.slice.injEq] at hv
  obtain ⟨rfl, -, -⟩ := hv
  obtain ⟨g, off, rfl, hc⟩ := hr (by omega)
  exact ⟨g, off, rfl, hc k hk⟩
theorem FdR.chg {w w' : World} {v : Value} {xs : List Fd} (h : FdR w v xs) (hc : Chg [] w w') : FdR w' v xs := by
  obtain ⟨a, cap, rfl, hr⟩ := h
  refine ⟨a, cap, rfl, fun hp => ?_⟩
  obtain ⟨g, off, rfl, hcell⟩ := hr hp
  exact ⟨g, off, rfl, fun i hi => ⟨hc.cell (hcell i hi).1 (by simp), hc.cell (hcell i hi).2 (by simp)⟩⟩
theorem Own.fdR {w0 w : World} {L : List Piece} {e : TypeId} {a : Option Addr} {n cap : Nat} {xs : List Fd} (O : Own w0 w (rowv e 2 (.slice a n cap) n (flatF xs) :: L)) : FdR w (.slice a n cap) xs := by
  have hn : n = xs.length := by
    have h1 := O.rowvLen
    have h2 := flatF_len xs
    omega
  subst hn
  refine ⟨a, cap, rfl, fun hp => ?_⟩
  obtain ⟨-, g, rfl, -, -⟩ := O.rowvAt 0 (by rw [flatF_len]; omega)
  refine ⟨g, 0, rfl, fun i hi => ?_⟩
  have hl := flatF_len xs
  obtain ⟨h1, h2⟩ := flatF_at xs i hi
  obtain ⟨-, g1, e1, c0, -⟩ := O.rowvAt (i * 2) (by omega)
  obtain ⟨-, g2, e2, c1, -⟩ := O.rowvAt (i * 2 + 1) (by omega)
  simp only [Option.some.injEq, Addr.mk.injEq, and_true] at e1 e2
  subst e1 e2
  rw [List.getElem?_eq_getElem (by omega)] at h1 h2
  rw [Nat.zero_add]
  exact ⟨by rw [c0]; exact h1, by rw [c1]; exact h2⟩
theorem wpList_append_rfdO {w0 w : World} {L : List Piece} {ops : Array Oper} {rest : List Oper} {o : Oper} {a : Act} {Q : Exit → Act → World → Prop} (hgd : o.guard = none) (s x : Operand)
    (ho : o.op = .call { callee := .builtin .append, args := #[s, x], argTypes := #[39, 39] })
    (v : Value) (k : Nat) (xs : List Value) (f : Fd) (O : Own w0 w (rowv 45 2 v k xs :: L)) (hs : a.eval s = v)
    (hx : a.eval x = .slice (some ⟨w.heap.size, 0, none⟩) 1 1) (hlen : k ≤ 20000000)
    (h : ∀ a' cap w', Own w0 w' (rowv 45 2 (.slice a' (k + 1) cap) (k + 1) (xs ++ flatF [f]) :: L) → wpList Tryd.prog ops Q rest (a.put o.dst (.slice a' (k + 1) cap)) w') :
    wpList Tryd.prog ops Q (o :: rest) a (w.alloc (.cells #[.string ⟨f.1.toArray⟩, .string ⟨f.2.toArray⟩] 45)) := by
  obtain ⟨a', cap, w', hr, O'⟩ := run_append_rfd O f hlen o.type
  refine wpList_plain hgd fun K hK => ?_
  unfold Oper.wp
  simp [execOp, ho, resolve, invoke, builtin, hs, hx, hr, Result.andThen]
  exact hK _ _ (h a' cap w' O')
def RfdPost (w0 : World) (L : List Piece) (xs : List Fd) (e : Ending) (w' : World) : Prop := ∃ a cap, e = .returned (.slice a xs.length cap) ∧ Own w0 w' (rowv 45 2 (.slice a xs.length cap) xs.length (flatF xs) :: L)
set_option maxHeartbeats 2000000 in
theorem told_own {w0 w : World} {L : List Piece} (O : Own w0 w L) {a : Option Addr} {cap : Nat} {xs : List Fd} (hl : xs.length ≤ 10000000) (RD : ∀ w', Own w0 w' L → FdR w' (.slice a xs.length cap) xs) :
    Calls Tryd.prog 19 #[.slice a xs.length cap] w (RfdPost w0 L xs) := by
  have RDH := Lib.hid RD
  clear RD
  obtain ⟨N, hN⟩ : ∃ n, n = xs.length := ⟨_, rfl⟩
  have HN := Lib.hid hN
  rw [← hN] at hl RDH ⊢
  clear hN
  have O1 := O.nilRowv 45 2
  clear O
  go_enter Tryd.func19, Tryd.ntmps19
  go_wp2_with fail
  go_loopw [3, 4] (fun ov iv wr => ∃ (k : Nat) (a1 : Option Addr) (c1 : Nat), ov = .slice a1 k c1 ∧ iv = .int .i64 k ∧ k ≤ N ∧ Own w0 wr (rowv 45 2 (.slice a1 k c1) k (flatF (xs.take k)) :: L)) (fun _ iv _ => N - (intOf iv).toNat)
  case atStart => exact ⟨0, none, 0, rfl, rfl, by omega, O1⟩
  case round =>
    clear O1
    obtain ⟨k, a1, c1, rfl, rfl, hk, O⟩ := hrel
    by_cases hlt : k < N
    · have hb1 : (k : Int) < (N : Int) := by omega
      have hlt2 : k < xs.length := by rw [← HN.out]; exact hlt
      obtain ⟨g, off, rfl, d0, d1⟩ := (RDH.out _ O.drop).at k hlt2
      have TK : Hid (flatF (xs.take (k + 1)) = flatF (xs.take k) ++ flatF [xs[k]]) := by
        unfold Hid; rw [List.take_succ_eq_append_getElem hlt2, flatF_snoc]
      generalize xs[k] = f at d0 d1 TK
      clear hlt2
      go_wp2_with (at_builtin; refine wpList_append_rfdO rfl _ _ rfl _ k _ f O rfl rfl (by omega) ?_)
      intro a2 c2 w2 O2
      rw [← TK.out] at O2
      go_wp2
      go_roundw
      case rel => exact ⟨k + 1, a2, c2, rfl, by go_num, by omega, O2⟩
      case measure => simp [intOf]; omega
    · obtain rfl : k = N := by omega
      have OH : Hid (RfdPost w0 L xs (.returned (.slice a1 k c1)) wr) := by
        rw [HN.out] at O ⊢
        rw [List.take_length] at O
        exact ⟨a1, c1, rfl, O⟩
      clear O
      go_wp2
      go_ret
      exact OH.out
theorem rfdEq_run (f g : Fd) (w : World) : (Op.equalIn 10000 45 (.agg #[.string ⟨f.1.toArray⟩, .string ⟨f.2.toArray⟩]) (.agg #[.string ⟨g.1.toArray⟩, .string ⟨g.2.toArray⟩])).run Tryd.prog w = .ok (decide (f = g)) w := by
  have h1 : ∀ x y : List UInt8, ((⟨x.toArray⟩ : ByteArray).toList == (⟨y.toArray⟩ : ByteArray).toList) = decide (x = y) := by
    intro x y
    rw [ByteArray.toList_eq, ByteArray.toList_eq]
    exact Bool.beq_eq_decide_eq _ _
  have h2 : ∀ a b c d : List UInt8, decide ((a, b) = (c, d)) = (decide (a = c) && decide (b = d)) := by
    intro a b c d
    rw [Bool.eq_iff_iff]; simp
  obtain ⟨f1, f2⟩ := f
  obtain ⟨g1, g2⟩ := g
  rw [h2, ← h1, ← h1]
  go_simp
  by_cases q1 : f1 = g1 <;> by_cases q2 : f2 = g2 <;> simp [q1, q2]
set_option maxHeartbeats 2000000 in
theorem rSame_any (w : World) {aa ab : Option Addr} {n m ca cb : Nat} {xs ys : List Fd} (ha : FdR w (.slice aa n ca) xs) (hb : FdR w (.slice ab m cb) ys) (hn : n = xs.length) (hm : m = ys.length) (hl : n ≤ 1000000000) {b : Bool} (hr : decide (xs = ys) = b) :
    Calls Tryd.prog 18 #[.slice aa n ca, .slice ab m cb] w fun e w' => e = .returned (.bool b) ∧ ∃ n, w' = w.drewN n := by
  have A := Lib.hid ha
  have B := Lib.hid hb
  have R := Lib.hid hr
  have HN := Lib.hid hn
  have HM := Lib.hid hm
  clear ha hb hr hn hm
  by_cases hq : n = m
  rotate_left
  · have hq' : ((n : Int) != (m : Int)) = true := by simp; omega
    have fin : b = false := by
      rw [← R.out, decide_eq_false_iff_not]
      rintro rfl
      exact hq (HN.out.trans HM.out.symm)
    subst fin
    clear R HN HM
    go_enter Tryd.func18, Tryd.ntmps18
    go_wp2
    go_ret
    exact ⟨rfl, 0, rfl⟩
  · subst hq
    have hq' : ((n : Int) != (n : Int)) = false := by simp
    go_enter Tryd.func18, Tryd.ntmps18
    go_wp2_with fail
    go_loopw [5] (fun iv wr => ∃ k j : Nat, k ≤ n ∧ iv = .int .i64 k ∧ wr = w.drewN j ∧ Hid (xs.take k = ys.take k)) (fun iv _ => n - (intOf iv).toNat)
    case atStart => exact ⟨0, 0, by omega, rfl, rfl, rfl⟩
    case round =>
      obtain ⟨k, j, hk, rfl, rfl, HT⟩ := hrel
      by_cases hlt : k < n
      · have hx : k < xs.length := by rw [← HN.out]; exact hlt
        have hy : k < ys.length := by rw [← HM.out]; exact hlt
        have hb1 : (k : Int) < (n : Int) := by omega
        obtain ⟨g, off, rfl, c0, c1⟩ := A.out.at k hx
        obtain ⟨g', off', rfl, d0, d1⟩ := B.out.at k hy
        have EQ := rfdEq_run xs[k] ys[k]
        have NX : Hid (xs[k] = ys[k] → xs.take (k + 1) = ys.take (k + 1)) := fun h => by
          rw [List.take_succ_eq_append_getElem hx, List.take_succ_eq_append_getElem hy, HT.out, h]
        have OFF : Hid (xs[k] ≠ ys[k] → b = false) := fun h => by
          rw [← R.out, decide_eq_false_iff_not]
          intro e
          apply h
          simp [e]
        have c0' : (w.drewN j).cell? ⟨g, off + k * 2, none⟩ = _ := c0
        have c1' : (w.drewN j).cell? ⟨g, off + k * 2 + 1, none⟩ = _ := c1
        have d0' : (w.drewN j).cell? ⟨g', off' + k * 2, none⟩ = _ := d0
        have d1' : (w.drewN j).cell? ⟨g', off' + k * 2 + 1, none⟩ = _ := d1
        generalize hW : w.drewN j = W at c0' c1' d0' d1' ⊢
        have HW := Lib.hid hW
        clear hW c0 c1 d0 d1
        by_cases he : xs[k] = ys[k]
        · have NX2 := Lib.hid (NX.out he)
          rw [decide_eq_true he] at EQ
          clear NX OFF he HT
          generalize xs[k] = f at c0' c1' EQ
          generalize ys[k] = f' at d0' d1' EQ
          clear hx hy
          go_wp2_with fail
          go_quiet (fail)
          go_wp2
          go_roundw
          case rel => exact ⟨k + 1, j + _, by omega, by go_num, by rw [← HW.out, World.drewN_drewN], NX2⟩
          case measure => simp [intOf]; omega
        · have fin := OFF.out he
          subst fin
          rw [decide_eq_false he] at EQ
          clear NX OFF he HT R
          generalize xs[k] = f at c0' c1' EQ
          generalize ys[k] = f' at d0' d1' EQ
          clear hx hy
          go_wp2_with fail
          go_quiet (fail)
          go_wp2
          go_ret
          exact ⟨rfl, j + _, by rw [← HW.out, World.drewN_drewN]⟩
      · obtain rfl : k = n := by omega
        have fin : b = true := by
          rw [← R.out, decide_eq_true_iff]
          have h := HT.out
          rw [List.take_of_length_le (by have := HN.out; omega), List.take_of_length_le (by have := HM.out; omega)] at h
          exact h
        subst fin
        clear R
        go_wp2
        go_ret
        exact ⟨rfl, j, rfl⟩
set_option maxHeartbeats 2000000 in
theorem rGet_own {w0 w : World} {L : List Piece} (O : Own w0 w L) (s name : List UInt8) (hs : s.length ≤ 10000000) (hn : name.length ≤ 1000000000) {r : List (List UInt8)} (hr : getL s name = r) :
    Calls Tryd.prog 22 #[.string ⟨s.toArray⟩, .string ⟨name.toArray⟩] w (StrsPost w0 L r) := by
  obtain ⟨xs, hxs⟩ : ∃ xs, fieldsL s = xs := ⟨_, rfl⟩
  have GR : Hid (valsL name xs = r) := by unfold Hid; rw [← hr, ← hxs]; rfl
  have HB := Lib.hid (fun (f : Fd) (h : f ∈ xs) => fieldsL_bound (s := s) (f := f) (by rw [hxs]; exact h))
  have hfl : xs.length ≤ 10000001 := by have := fieldsL_len s; rw [hxs] at this; omega
  have FLD := rFields_own O.nilStrs s hs hxs
  clear hr hxs O
  obtain ⟨N, hN⟩ : ∃ n, n = xs.length := ⟨_, rfl⟩
  have HN := Lib.hid hN
  rw [← hN] at hfl FLD
  clear hN
  go_enter Tryd.func22, Tryd.ntmps22
  go_wp2_with fail
  refine FLD.mono ?_
  clear FLD
  rintro e w1 ⟨a, cap, rfl, O⟩
  have OA := O.pick 1
  clear O
  go_wp2_with fail
  go_loopw [5, 7] (fun ov iv wr => ∃ (k : Nat) (v : Value), ov = v ∧ iv = .int .i64 k ∧ k ≤ N ∧ Own w0 wr (strs v (valsL name (xs.take k)) :: rowv 45 2 (.slice a N cap) N (flatF xs) :: L)) (fun _ iv _ => N - (intOf iv).toNat)
  case atStart => exact ⟨0, _, rfl, rfl, by omega, OA⟩
  case round =>
    clear OA
    obtain ⟨k, v, rfl, rfl, hk, O⟩ := hrel
    obtain ⟨a1, c1, rfl⟩ := O.shape
    by_cases hlt : k < N
    · have hb1 : (k : Int) < (N : Int) := by omega
      have hx : k < xs.length := by rw [← HN.out]; exact hlt
      obtain ⟨g, off, rfl, d0, d1⟩ := (O.pick 1).fdR.at k hx
      have HSN : Hid (valsL name (xs.take (k + 1)) = if isN name xs[k] = true then valsL name (xs.take k) ++ [xs[k].2] else valsL name (xs.take k)) := by
        unfold Hid; rw [List.take_succ_eq_append_getElem hx]; exact valsL_snoc _ _ _
      have hvl : (valsL name (xs.take k)).length ≤ 1000000000 := by
        have := valsL_len name (xs.take k)
        simp at this; omega
      have hb2 := HB.out _ (List.getElem_mem hx)
      have LK := rlike_any xs[k].1 name (by omega)
      rw [show (smallL xs[k].1 == smallL name) = isN name xs[k] from rfl] at LK
      have LKH := Lib.hid LK
      generalize xs[k] = f at d0 d1 HSN hb2 LKH
      clear LK hx
      generalize hls : valsL name (xs.take k) = ls at O HSN hvl
      clear hls
      cases hi : isN name f
      · have SN : Hid (valsL name (xs.take (k + 1)) = ls) := by unfold Hid; rw [HSN.out, if_neg (by rw [hi]; simp)]
        rw [hi] at LKH
        clear HSN hi
        go_wp2_with fail
        refine (LKH.out _).mono ?_
        rintro e w2 ⟨rfl, j, rfl⟩
        have O2 := O.drewN j
        clear O
        go_wp2_with fail
        go_roundw
        case rel => exact ⟨k + 1, _, rfl, by go_num, by omega, by rw [SN.out]; exact O2⟩
        case measure => simp [intOf]; omega
      · have SN : Hid (valsL name (xs.take (k + 1)) = ls ++ [f.2]) := by unfold Hid; rw [HSN.out, if_pos hi]
        rw [hi] at LKH
        clear HSN hi
        go_wp2_with fail
        refine (LKH.out _).mono ?_
        rintro e w2 ⟨rfl, j, rfl⟩
        have O2 := O.drewN j
        have d1' : (wr.drewN j).cell? _ = _ := d1
        clear O d0 d1
        generalize wr.drewN j = W at O2 d1' ⊢
        go_wp2_with (at_builtin; refine wpList_append_strO rfl _ _ rfl _ ls f.2 O2 rfl rfl hvl ?_)
        intro v' w3 O3
        obtain ⟨a3, c3, rfl⟩ := O3.shape
        go_wp2
        go_roundw
        case rel => exact ⟨k + 1, _, rfl, by go_num, by omega, by rw [SN.out]; exact O3⟩
        case measure => simp [intOf]; omega
    · obtain rfl : k = N := by omega
      have e : valsL name (xs.take k) = r := by rw [List.take_of_length_le (by have := HN.out; omega), GR.out]
      rw [e] at O ⊢
      clear e
      have O2 := O.selK 2 [0]
      go_wp2
      go_ret
      exact ⟨_, _, rfl, O2⟩
end Go.Proofs.YtnkcanhkdfckmaaDoor
