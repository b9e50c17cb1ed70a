/- mailroomref10.Disk: Write, Fail, Dirty. -/
import Derived.Test.YtobflkddkplpiaaPlayA
import Derived.Deep.DeepCutAuto
namespace Go.Proofs.Ytobflkddkplpiaa
set_option linter.all false
open Go.RowKit Go.Maps

theorem wetB_at {m : Dk} {k : Nat} (h : k < m.n) : (wetB m)[k]? = some (m.was (k : Int)).isSome := by simp [wetB, h]
theorem wetB_len (m : Dk) : (wetB m).length = m.n := by simp [wetB]
theorem put_wetB {m : Dk} {k : Nat} (hk : k < m.n) (s : List UInt8) : Bv (wetB (m.put k s)) = (Bv (wetB m)).set k (.bool true) := by
  apply List.ext_getElem?
  intro j
  rw [List.getElem?_set]
  have e2 : (m.put k s).was = if (m.was k).isSome then m.was else upd m.was k (some (m.get k)) := rfl
  by_cases hj : j < m.n
  · by_cases h : k = j
    · subst h
      rw [if_pos rfl, if_pos (by simp [Bv, wetB_len]; exact hk)]
      simp only [Bv, List.getElem?_map, wetB_at (m := m.put k s) hj, e2]
      cases hw : m.was (k : Int) with
      | some t => simp [hw]
      | none => simp [upd_same]
    · rw [if_neg h]
      simp only [Bv, List.getElem?_map, wetB_at (m := m.put k s) hj, wetB_at hj, e2]
      cases hw : m.was (k : Int) with
      | some t => simp
      | none => simp only [Option.isSome_none]; rw [if_neg (by simp), upd_other _ _ (show (j : Int) ≠ (k : Int) by omega)]
  · have h1 : (wetB (m.put k s)).length = m.n := wetB_len _
    have h2 := wetB_len m
    rw [if_neg (by omega), List.getElem?_eq_none (by simp [Bv, h1]; omega), List.getElem?_eq_none (by simp [Bv, h2]; omega)]
theorem Rel.put {m : Dk} {f : Bool} {lf : Int} (h : Rel m f lf) (k : Int) (s : List UInt8) : Rel (m.put k s) f lf := ⟨h.on, h.none⟩
theorem write_is {m : Dk} {k : Int} {s : List UInt8} (ho : m.off = false) (h1 : 0 ≤ k) (h2 : k < m.n) (h3 : s.length = 128) : m.write k s = ((m.put k s).did, 0) := by
  unfold Dk.write; rw [if_neg (by simp [ho]), if_neg (by omega)]

set_option maxRecDepth 100000 in
theorem xwrite_own {w0 w : World} {L : List Piece} {p : Value} {m : Dk} {c : Nat} (O : Own w0 w (xk p m :: L)) (h : m.Fit c) (hc : c ≤ 9000) (k : Int) (hk : I64 k) (s : List UInt8) (hs : s.length ≤ 1000000) {m' : Dk} {er : Int} (hr : m.write k s = (m', er)) :
    Calls Try.prog 38 #[p, .int .i64 k, .string ⟨s.toArray⟩] w fun e w' => e = .returned (.int .i64 er) ∧ Own w0 w' (xk p m' :: L) := by
  obtain ⟨b, aw, cw, an, cn, at0, ct, f, lf, hp, hrel, U⟩ := O.xkE
  subst hp
  obtain ⟨c0, c1, c2, c3, c4, c5, c6, fr⟩ := U.xAt
  rcases Bool.eq_false_or_eq_true m.off with ho | ho
  · have hrd : m.write k s = (m, 42) := by unfold Dk.write; rw [if_pos ho]
    rw [hrd] at hr
    simp only [Prod.mk.injEq] at hr
    obtain ⟨rfl, rfl⟩ := hr
    rw [ho] at c6
    clear hrd ho U hrel
    go_enter Try.func38, Try.ntmps38
    go_wp2
    go_ret
    exact ⟨rfl, O⟩
  rw [ho] at c6
  by_cases h1 : k < 0
  · have hrd : m.write k s = (m, 1) := by unfold Dk.write; rw [if_neg (by simp [ho]), if_pos (.inl h1)]
    rw [hrd] at hr
    simp only [Prod.mk.injEq] at hr
    obtain ⟨rfl, rfl⟩ := hr
    clear hrd ho U hrel
    go_enter Try.func38, Try.ntmps38
    go_wp2
    go_ret
    exact ⟨rfl, O⟩
  by_cases h2 : (m.n : Int) ≤ k
  · have hrd : m.write k s = (m, 1) := by unfold Dk.write; rw [if_neg (by simp [ho]), if_pos (.inr (.inl h2))]
    rw [hrd] at hr
    simp only [Prod.mk.injEq] at hr
    obtain ⟨rfl, rfl⟩ := hr
    clear hrd ho U hrel
    go_enter Try.func38, Try.ntmps38
    go_wp2
    go_ret
    exact ⟨rfl, O⟩
  by_cases h3 : s.length = 128
  rotate_left
  · have hrd : m.write k s = (m, 1) := by unfold Dk.write; rw [if_neg (by simp [ho]), if_pos (.inr (.inr h3))]
    rw [hrd] at hr
    simp only [Prod.mk.injEq] at hr
    obtain ⟨rfl, rfl⟩ := hr
    have i3 : ((s.length : Int) != 128) = true := by simp; omega
    clear hrd ho U hrel
    go_enter Try.func38, Try.ntmps38
    go_wp2
    go_ret
    exact ⟨rfl, O⟩
  have i3 : ((s.length : Int) != 128) = false := by simp; omega
  obtain ⟨j, rfl⟩ : ∃ j : Nat, k = (j : Int) := ⟨k.toNat, by omega⟩
  have hj : j < m.n := by omega
  have hjb : (j : Int) < (m.n : Int) := by omega
  have hrd := write_is ho (by omega) hjb h3
  rw [hrd] at hr
  simp only [Prod.mk.injEq] at hr
  obtain ⟨rfl, rfl⟩ := hr
  obtain ⟨-, gn, e1, cj, fj⟩ := (U.pick 2).strsAt j (by rw [nowL_len]; exact hj)
  subst e1
  obtain ⟨old, hold⟩ : ∃ old, old = m.nowL[j]'(by rw [nowL_len]; exact hj) := ⟨_, rfl⟩
  rw [← hold] at cj
  have O2 := (U.pick 2).store j s
  obtain ⟨-, gt, e2, tj, gj⟩ := (O2.pick 3).rowvAt j (by simp [Bv, wetB_len]; exact hj)
  subst e2
  obtain ⟨oldb, holdb⟩ : ∃ q, q = (Bv (wetB m))[j]'(by simp [Bv, wetB_len]; exact hj) := ⟨_, rfl⟩
  rw [← holdb] at tj
  have O3 := (O2.pick 3).rowvStore j (.bool true)
  rw [← put_wetB hj s, ← (show (m.put j s).nowL = m.nowL.set j s from put_nowL hj s), ← (show (m.put j s).wasL = m.wasL from put_wasL hj s)] at O3
  have O4 : Own w0 _ (xk (.pointer (some ⟨b, 0, none⟩)) (m.put j s) :: L) := Own.xkI (hrel.put j s) (O3.selK 4 [2, 3, 1, 0])
  have d := (O2.pick 1).xAt
  have d2 := d.c2
  have HO := Lib.hid ho
  have hop : (m.put j s).ops ≤ 100000 := by have := h.ops; show m.ops ≤ _; omega
  have hle : (m.put j s).left ≤ 9223372036854775807 := h.left
  clear hrd ho U hrel hold holdb O O2 O3 d h1 h2 h3
  go_enter Try.func38, Try.ntmps38
  go_upto_region 6 with fail
  go_wp2_with fail
  refine (xdid_own O4 HO.out hop hle).mono ?_
  clear O4
  rintro e w5 ⟨rfl, O⟩
  go_wp2
  go_ret
  exact ⟨rfl, O⟩
theorem Rel.fail (m : Dk) (k : Int) : Rel (m.fail k) (decide (0 < k)) k := by
  refine ⟨fun e => ?_, fun e => ?_⟩
  · have : 0 < k := by simpa using e
    refine ⟨?_, fun _ => ?_⟩
    · show k = ((k.toNat : Nat) : Int); omega
    · show 0 < k.toNat; omega
  · have : ¬ 0 < k := by simpa using e
    show k.toNat = 0; omega
set_option maxRecDepth 100000 in
theorem xfail_own {w0 w : World} {L : List Piece} {p : Value} {m : Dk} (O : Own w0 w (xk p m :: L)) (k : Int) :
    Calls Try.prog 40 #[p, .int .i64 k] w fun e w' => e = .returned (.tuple #[]) ∧ Own w0 w' (xk p (m.fail k) :: L) := by
  obtain ⟨b, aw, cw, an, cn, at0, ct, f, lf, hp, hr, U⟩ := O.xkE
  subst hp
  obtain ⟨c0, c1, c2, c3, c4, c5, c6, fr⟩ := U.xAt
  have O2 : Own w0 ((w.setCell ⟨b, 5, none⟩ (.bool (decide (0 < k)))).setCell ⟨b, 4, none⟩ (.int .i64 k)) (xk (.pointer (some ⟨b, 0, none⟩)) (m.fail k) :: L) := Own.xkI (Rel.fail m k) ((U.set 5 (.bool (decide (0 < k)))).set 4 (.int .i64 k))
  clear O U hr
  go_enter Try.func40, Try.ntmps40
  go_wp2
  go_end0
  exact ⟨rfl, O2⟩
/-- the first j dirty ones -/
def dirtyTo (m : Dk) (j : Nat) : List Int := ((List.range j).filter fun k : Nat => (m.was (k : Int)).isSome).map fun k : Nat => (k : Int)
theorem dirtyTo_succ (m : Dk) (j : Nat) : dirtyTo m (j + 1) = dirtyTo m j ++ (if (m.was (j : Int)).isSome then [(j : Int)] else []) := by
  unfold dirtyTo
  rw [List.range_succ, List.filter_append, List.map_append]
  congr 1
  by_cases h : (m.was (j : Int)).isSome = true
  · rw [if_pos h]; simp [h]
  · rw [if_neg h]; simp [h]
theorem dirtyTo_len (m : Dk) (j : Nat) : (dirtyTo m j).length ≤ j := by
  unfold dirtyTo
  have := List.length_filter_le (fun k : Nat => (m.was (k : Int)).isSome) (List.range j)
  simp at this ⊢
  exact this
theorem info_int : (Try.prog.info? 3).map (fun i => (i.zero, i.size, i.bytes)) = some (some (.int .i64 0), 1, 8) := by kernel_rfl
theorem wpList_append_numO {w0 w : World} {L : List Piece} {ops : Array Oper} {rest : List Oper} {o : Oper} {a : Act} {Q : Exit → Act → World → Prop} (hgd : o.guard = none) (s x : Operand)
    (ho : o.op = .call { callee := .builtin .append, args := #[s, x], argTypes := #[23, 23] })
    {v : Value} {zs : List Int} (z : Int) (O : Own w0 w (nums v zs :: L)) (hs : a.eval s = v) (hx : a.eval x = .slice (some ⟨w.heap.size, 0, none⟩) 1 1) (hlen : zs.length + 1 ≤ 100000000)
    (h : ∀ v' w', Own w0 w' (nums v' (zs ++ [z]) :: L) → wpList Try.prog ops Q rest (a.put o.dst v') w') : wpList Try.prog ops Q (o :: rest) a (w.alloc (.cells #[.int .i64 z] 3)) := by
  obtain ⟨i0, hi0, hz0, hz1, hzb⟩ := info_parts info_int
  have O' : Own w0 w (rowv 3 1 v zs.length (zs.map (Value.int .i64)) :: L) := O
  refine wpList_append_rowO hgd s x ho i0 _ 8 Try.underlying23 hi0 hz0 hz1 hzb rfl (by omega) (O'.alloc _) hs ⟨w.heap.size, 0, none⟩ 1 1 [.int .i64 z] hx rfl (fun j u hu => ?_) (fun u hu => ?_) hlen (by omega) ?_
  · rw [show (⟨w.heap.size, 0, none⟩ : Addr).add j = ⟨w.heap.size, j, none⟩ from by unfold Addr.add; split <;> simp_all, cell_at (heap_alloc_new _ _)]
    simpa using hu
  · simp at hu; subst hu; rfl
  · intro v' w' O2
    refine h v' w' ?_
    have e : zs.map (Value.int .i64) ++ [Value.int .i64 z] = (zs ++ [z]).map (Value.int .i64) := by simp
    rw [e, show zs.length + 1 = (zs ++ [z]).length from by simp] at O2
    exact O2
theorem Own.nilNums {w0 w : World} {L : List Piece} (h : Own w0 w L) : Own w0 w (nums (.slice none 0 0) [] :: L) :=
  h.new (Chg.refl _ _) (nums (.slice none 0 0) []) (F := []) ⟨World.ownsRow_nil _ _ _ _, rfl⟩ (by simp)
set_option maxRecDepth 100000 in
set_option maxHeartbeats 1000000 in
theorem xdirty_own {w0 w : World} {L : List Piece} {p : Value} {m : Dk} (O : Own w0 w (xk p m :: L)) (hn : m.n ≤ 1024) :
    Calls Try.prog 43 #[p] w fun e w' => ∃ a cap, e = .returned (.slice a m.dirty.length cap) ∧ Own w0 w' (nums (.slice a m.dirty.length cap) m.dirty :: xk p m :: L) := by
  obtain ⟨b, aw, cw, an, cn, at0, ct, f, lf, hp, hr, U⟩ := O.xkE
  subst hp
  have HR := Lib.hid hr
  clear hr O
  have hdd : m.dirty = dirtyTo m m.n := rfl
  have HD := Lib.hid hdd
  clear hdd
  go_enter Try.func43, Try.ntmps43
  go_wp2_with fail
  go_loopw [3, 4] (fun ov iv wr => ∃ (j : Nat) (a : Option Addr) (cap : Nat), ov = .slice a (dirtyTo m j).length cap ∧ iv = .int .i64 j ∧ j ≤ m.n ∧
      Own w0 wr (nums (.slice a (dirtyTo m j).length cap) (dirtyTo m j) :: box b (xcells m aw cw an cn at0 ct f lf) 74 :: strs (.slice aw m.n cw) m.wasL :: strs (.slice an m.n cn) m.nowL :: rowv 4 1 (.slice at0 m.n ct) m.n (Bv (wetB m)) :: L)) (fun _ iv _ => m.n - (intOf iv).toNat)
  case atStart => exact ⟨0, none, 0, rfl, rfl, by omega, U.nilNums⟩
  case round =>
    clear U
    obtain ⟨j, a, cap, rfl, rfl, hj, O⟩ := hrel
    have c2 := (O.pick 1).xAt.c2
    by_cases hlt : j < m.n
    · have hb1 : (j : Int) < (m.n : Int) := by omega
      obtain ⟨-, gt, e2, tj, -⟩ := (O.pick 4).rowvAt j (by simp [Bv, wetB_len]; exact hlt)
      subst e2
      have hv : (Bv (wetB m))[j]'(by simp [Bv, wetB_len]; exact hlt) = .bool (m.was (j : Int)).isSome := by simp [Bv, wetB]
      rw [hv] at tj
      clear hv
      have hs := dirtyTo_succ m j
      have hdl : (dirtyTo m j).length + 1 ≤ 100000000 := by have := dirtyTo_len m j; omega
      have HDL := Lib.hid hdl
      clear hdl
      rcases Bool.eq_false_or_eq_true (m.was (j : Int)).isSome with hw | hw
      · rw [hw] at tj hs
        rw [if_pos rfl] at hs
        have HS := Lib.hid hs
        clear hs hw
        go_wp2_with (at_builtin; refine wpList_append_numO rfl _ _ rfl (j : Int) O rfl rfl HDL.out ?_)
        intro v' w6 O6
        rw [← HS.out] at O6
        obtain ⟨a', cap', rfl⟩ := O6.numsShape
        clear O c2 tj
        go_wp2
        go_roundw
        case rel => exact ⟨j + 1, a', cap', rfl, by go_num, by omega, O6⟩
        case measure => simp [intOf]; omega
      · rw [hw] at tj hs
        rw [if_neg (by simp), List.append_nil] at hs
        have HS := Lib.hid hs
        clear hs hw
        rw [← HS.out] at O
        go_wp2
        go_roundw
        case rel => exact ⟨j + 1, a, cap, by rw [HS.out], by go_num, by omega, O⟩
        case measure => simp [intOf]; omega
    · have hb1 : ¬ (j : Int) < (m.n : Int) := by omega
      obtain rfl : j = m.n := by omega
      rw [← HD.out] at O ⊢
      go_wp2
      go_ret
      exact ⟨_, _, rfl, (Own.xkI HR.out (O.selK 5 [1, 2, 3, 4, 0])).selK 2 [1, 0]⟩
end Go.Proofs.Ytobflkddkplpiaa
