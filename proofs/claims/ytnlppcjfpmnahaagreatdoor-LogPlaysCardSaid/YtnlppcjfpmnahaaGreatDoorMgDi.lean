/- merged: DiskD DiskE DiskF DiskG DiskJ (wip/merge.py) -/
import Derived.Test.YtnlppcjfpmnahaaGreatDoorLgDk
import Derived.Test.YtnlppcjfpmnahaaGreatDoorNums
import Derived.Test.YtnlppcjfpmnahaaGreatDoorSl
/- disk: Dirty; printed by wip/lgsplit.py. -/
namespace Go.Proofs.YtnlppcjfpmnahaaGreatDoor
set_option linter.all false
open Go.RowKit Go.Maps Go.Sort Go.Shelf

theorem intKeys_mem {D : DataW Unit} (h : ∃ es, D = .map es ∧ es.Pairwise (fun p q => p.1 ≠ q.1) ∧ ∀ p ∈ es, ∃ x : Int, p.1 = .int .i64 x) : (intKeys D).Nodup ∧ ∀ k : Int, k ∈ intKeys D ↔ has D (kI k) = true := by
  obtain ⟨es, rfl, h1, h2⟩ := h
  constructor
  · show (es.map fun p => Go.intOf p.1).Pairwise (· ≠ ·)
    rw [List.pairwise_map]
    refine h1.imp_of_mem (fun {p q} hp hq hne e => hne ?_)
    obtain ⟨x, hx⟩ := h2 p hp
    obtain ⟨y, hy⟩ := h2 q hq
    rw [hx, hy] at e ⊢
    have : x = y := e
    rw [this]
  · intro k
    rw [has_eq]
    simp only [intKeys, List.mem_map, List.any_eq_true]
    constructor
    · rintro ⟨p, hp, e⟩
      obtain ⟨x, hx⟩ := h2 p hp
      refine ⟨p, hp, ?_⟩
      rw [hx] at e ⊢
      have : x = k := e
      rw [this]
      simp [kI, Lit.sameKey]
    · rintro ⟨p, hp, e⟩
      obtain ⟨x, hx⟩ := h2 p hp
      refine ⟨p, hp, ?_⟩
      rw [hx] at e ⊢
      by_cases hk : x = k
      · exact hk
      · rw [show (Lit.int .i64 x) = kI x from rfl, sameKey_ne (kI_ne hk)] at e
        cases e
theorem keys_dirty {m : Dk} {D : DataW Unit} (hD : Reads D m.was) (hd : m.Dom) (h : ∃ es, D = .map es ∧ es.Pairwise (fun p q => p.1 ≠ q.1) ∧ ∀ p ∈ es, ∃ x : Int, p.1 = .int .i64 x) {ss : List Int} (hs : ss.Perm (intKeys D)) :
    ss.mergeSort (fun x y => decide (x ≤ y)) = m.dirty := by
  obtain ⟨h1, h2⟩ := intKeys_mem h
  have hp : (intKeys D).Perm m.dirty := (List.perm_ext_iff_of_nodup h1 (rising_nodup (dirty_rising m))).2 (fun k => by
    rw [h2 k, mem_dirty hd, (hD k).1])
  refine List.Perm.eq_of_pairwise (le := fun a b => a ≤ b) (fun a b _ _ h1 h2 => by omega) ?_ ((dirty_rising m).imp (fun h => by omega)) ((List.mergeSort_perm _ _).trans (hs.trans hp))
  refine (List.pairwise_mergeSort (le := fun x y : Int => decide (x ≤ y)) (fun a b c h1 h2 => by simp at h1 h2 ⊢; omega) (fun a b => by simp; omega) ss).imp (fun h => by simpa using h)
theorem entries_int {w : World} {b n : Nat} {D : DataW Unit} {R : Value → Option (DataW Unit × List MemPlace)} (h : w.ownsMap Tryz.prog 3 R b n D) : ∃ es, D = .map es ∧ es.Pairwise (fun p q => p.1 ≠ q.1) ∧ ∀ p ∈ es, ∃ x : Int, p.1 = .int .i64 x := by
  obtain ⟨es, clock, _, F, _, rfl⟩ := h
  refine ⟨_, rfl, ((WideShapes.sorted_perm _).pairwise_iff (fun {_ _} hne => Ne.symm hne)).2 (Maps.fit_apart lawI F), fun p hp => ?_⟩
  obtain ⟨x, hx, rfl⟩ := List.mem_map.1 (mem_sorted.1 hp)
  obtain ⟨y, hy⟩ := F.reads x hx
  rw [WideElems.rg_of hy]
  obtain ⟨z, _, hz, _⟩ := Maps.keyOf_int_inv Tryz.underlying3 (WideElems.rd_key hy)
  exact ⟨z, hz⟩

theorem sortsA (k : Nat) : AnyZI.SortsIn Tryz.prog Tryz.sortedA_ren Fence.wide k :=
  ⟨fun blk off cap ss W hH hblk hsz => callsIn_wide.2 (AnyM.slices_Sort_int Tryz.sortA blk off cap ss W hH hblk hsz),
   fun p cap W => callsIn_wide.2 (AnyM.slices_Sort_int_none Tryz.sortA p cap W)⟩

set_option maxHeartbeats 1000000 in
theorem dirty_any {w0 w : World} {L : List Piece} {b bn bw : Nat} {m : Dk} (U : Own w0 w (box b (m.cells bn bw) 73 :: mp bn m.cn m.now :: mp bw m.cw m.was :: L)) (S : m.Small) (hd : m.Dom) :
    Calls Tryz.prog 40 #[.pointer (some ⟨b, 0, none⟩)] w fun e w' => ∃ v, e = .returned v ∧ w'.ownsRow w.heap.size 3 1 v m.dirty.length (m.dirty.map encZ) ∧ Chg [] w w' := by
  obtain ⟨c0, c1, c2, c3, c4, c5, fr⟩ := U.dkAt
  obtain ⟨D, hown, hD⟩ := (U.pick 2).mapped
  have hsz := hown.size_le
  have hcw := S.cw
  have hmax : Maps.size D ≤ maxLen := by unfold maxLen; omega
  have hbytes : Maps.size D * 8 ≤ 140737488355328 := by omega
  have HE := Lib.hid (entries_int hown)
  have HD := Lib.hid hD
  have HM := Lib.hid hd
  clear hsz hcw S hD hd U
  refine (callsIn_wide (n := 6)).1 ?_
  have hbl := hown.lt
  have hseq : SeqGives Fence.wide 2 Tryz.prog 74 #[.pointer (some ⟨w.heap.size, 0, none⟩)] encZ (fun ss => ss.Perm (intKeys D)) (Maps.size D) (w.alloc (.cells #[.map (some bw)] 71)) :=
    AnyZI.keys_gives (ρ := Tryz.keysA_ren) { Tryz.keysA with } Fence.wide _ trivial rfl (by omega) w.heap.size bw m.cw D _ (by simp) (by simp) (by
      obtain ⟨es, clock, hb, Ft, hs, hD⟩ := hown
      exact ⟨es, clock, (Below.heap_alloc _ _ bw hbl).trans hb, Ft, hs, hD⟩)
  have cK : ∀ mb W, CallsIn Fence.wide 5 Tryz.prog 56 #[.map mb] W fun e w' => e = .returned (.func (.func 74) #[] #[.pointer (some ⟨W.heap.size, 0, none⟩)]) ∧ w' = W.alloc (.cells #[.map mb] 71) := fun mb W => AnyZI.keys_in Tryz.keysA Fence.wide 5 trivial rfl mb W
  have cS := AnyZI.sorted_in Tryz.sortedA Fence.wide 5 trivial trivial trivial trivial rfl (by omega) (sortsA _) (enters_of Tryz.func73 (by kernel_rfl) rfl) 74 #[.pointer (some ⟨w.heap.size, 0, none⟩)] trivial (enters_of Tryz.func74 (by kernel_rfl) rfl) _ _ hmax hbytes _ hseq
  change CallsIn _ _ Tryz.prog 55 _ _ _ at cS
  have hfK : Fence.wide.fn 56 := trivial
  have hfS : Fence.wide.fn 55 := trivial
  clear hmax hbytes hseq
  refine callsIn_of_wp Tryz.func40 rfl trivial ?_ rfl
  simp only [Tryz.ntmps40, List.size_toArray, List.length_cons, List.length_nil, Nat.reduceAdd, Nat.reduceSub, Array.replicate_succ, Array.replicate_zero, List.push_toArray, List.append_toArray, List.nil_append, List.cons_append]
  gi_wp2_with (first
    | (gi_at_call 56; refine (cK _ _).mono ?_; rintro e w' ⟨rfl, rfl⟩)
    | (gi_at_call 55; refine cS.mono ?_; rintro e w' ⟨v, ss, rfl, hS, hrow, hnil, hb⟩))
  go_ret
  have he := keys_dirty HD.out HM.out HE.out hS
  have hrow2 := ownsRow_base_a hrow (by simp : w.heap.size ≤ _)
  have hl : ss.length = m.dirty.length := by rw [← he, List.length_mergeSort]
  rw [he, hl] at hrow2
  refine ⟨v, rfl, hrow2, ?_⟩
  have hb2 := ((Below.refl _ w).alloc (Nat.le_refl _) _).trans (hb.mono (by simp))
  exact ⟨hb2.os, hb2.tape, hb2.output, hb2.size, fun k hk _ => hb2.block k hk⟩
end Go.Proofs.YtnlppcjfpmnahaaGreatDoor
/- disk: Copy. -/
namespace Go.Proofs.YtnlppcjfpmnahaaGreatDoor
set_option linter.all false
open Go.RowKit Go.Maps

theorem below_chg {w w' : World} (h : Below w.heap.size w w') : Chg [] w w' := ⟨h.os, h.tape, h.output, h.size, fun k hk _ => h.block k hk⟩
theorem clone_own {w0 w : World} {L : List Piece} {b n : Nat} {f : Int → Option (List UInt8)} (O : Own w0 w (mp b n f :: L)) :
    Calls Tryz.prog 44 #[.map (some b)] w fun e w' => ∃ c, e = .returned (.map (some c)) ∧ Own w0 w' (mp c n f :: mp b n f :: L) := by
  obtain ⟨D, h1, h2⟩ := O.mapped
  refine (AnyW.maps_Clone_owns Tryz.cloneA 3 _ b n D w h1).mono ?_
  rintro e w' ⟨rfl, r1, r2, r3⟩
  exact ⟨_, rfl, O.new (below_chg r3) (mp w.heap.size n f) (F := [w.heap.size]) ⟨⟨D, r1, h2⟩, O.size, rfl⟩ (by simp)⟩
theorem setc {w : World} {a p : Addr} {v : Value} (u : Value) (h : p.block ≠ a.block) (hc : w.cell? p = some v) : (w.setCell a u).cell? p = some v :=
  (World.cell?_of_block (Below.heap_setCell _ _ _ _ h)).trans hc
theorem copy_nil (w : World) : Calls Tryz.prog 28 #[.pointer none] w fun e w' => e = .returned (.pointer none) ∧ w = w' := by
  go_enter Tryz.func28, Tryz.ntmps28
  go_wp2
  go_ret
  exact ⟨rfl, rfl⟩
set_option maxHeartbeats 2000000 in
theorem copy_own {w0 w : World} {L : List Piece} {p : Value} {m : Dk} (O : Own w0 w (dk p m :: L)) :
    Calls Tryz.prog 28 #[p] w fun e w' => ∃ a : Nat, e = .returned (.pointer (some ⟨a, 0, none⟩)) ∧ Own w0 w' (dk (.pointer (some ⟨a, 0, none⟩)) m :: dk p m :: L) := by
  obtain ⟨b, bn, bw, hp, U⟩ := O.dkE
  subst hp
  obtain ⟨c0, c1, c2, c3, c4, c5, fr⟩ := U.dkAt
  clear O fr
  go_enter Tryz.func28, Tryz.ntmps28
  go_wp2_with fail
  have O1 := U.newBox (m.cells bn bw) 73
  obtain ⟨c, hc⟩ : ∃ c, c = w.heap.size := ⟨_, rfl⟩
  obtain ⟨W1, hW1⟩ : ∃ W1, W1 = w.alloc (.cells (m.cells bn bw) 73) := ⟨_, rfl⟩
  have hW2 : W1 = w.alloc (.cells #[.int .i64 m.n, .map (some bn), .map (some bw), .int .i64 m.ops, .int .i64 m.left, .bool m.off] 73) := hW1
  rw [← hW2, ← hc]
  rw [← hW1, ← hc] at O1
  have hne : b ≠ c := by have := U.boxlt; omega
  clear hW1 hW2 hc c0 c1 c2 c3 c4 c5 U
  have d1 : W1.cell? ⟨b, 1, none⟩ = some (.map (some bn)) := (O1.pick 1).cell 1
  have d2 : W1.cell? ⟨b, 2, none⟩ = some (.map (some bw)) := (O1.pick 1).cell 2
  have O1d : Own w0 W1.drew (mp bn m.cn m.now :: box c (m.cells bn bw) 73 :: box b (m.cells bn bw) 73 :: mp bw m.cw m.was :: L) := O1.drew.pick 2
  go_region_held3 (fun w' => w'.cell? ⟨b, 1, none⟩ = some (.map (some bn)) ∧ w'.cell? ⟨b, 2, none⟩ = some (.map (some bw)))
    (first
      | exact ⟨d1, d2⟩
      | exact ⟨(Q2.pick 4).cell 1, (Q2.pick 4).cell 2⟩
      | exact ⟨k1, k2⟩
      | exact ⟨setc _ hne k1, setc _ hne k2⟩
      | exact ⟨setc _ hne (setc _ hne k1), setc _ hne (setc _ hne k2)⟩)
    (first
      | (go_at_call 44; (with_reducible refine (clone_own (b := bn) O1d).mono ?_); rintro e w2 ⟨e1, rfl, Q1⟩; have Q2 : Own w0 w2 (mp bw m.cw m.was :: mp e1 m.cn m.now :: mp bn m.cn m.now :: box c (m.cells bn bw) 73 :: box b (m.cells bn bw) 73 :: L) := Q1.pick 4; clear Q1)
      | (go_at_call 44; (with_reducible refine (clone_own (b := bw) Q2).mono ?_); rintro e w3 ⟨e2, rfl, Q3⟩; have k1 : w3.cell? ⟨b, 1, none⟩ = some (.map (some bn)) := (Q3.pick 5).cell 1; have k2 : w3.cell? ⟨b, 2, none⟩ = some (.map (some bw)) := (Q3.pick 5).cell 2; have g1 : w3.cell? ⟨c, 1, none⟩ = some (.map (some bn)) := (Q3.pick 4).cell 1; have g2 : w3.cell? ⟨c, 2, none⟩ = some (.map (some bw)) := (Q3.pick 4).cell 2; have gf : ∀ o, w3.frozen? ⟨c, o, none⟩ = false := fun o => (Q3.pick 4).free o))
  have O4 : Own w0 ((w3.setCell ⟨c, 1, none⟩ (.map (some e1))).setCell ⟨c, 2, none⟩ (.map (some e2))) (box c (m.cells e1 e2) 73 :: mp e1 m.cn m.now :: mp e2 m.cw m.was :: box b (m.cells bn bw) 73 :: mp bn m.cn m.now :: mp bw m.cw m.was :: L) := (((Q3.pick 4).set 1 (.map (some e1))).set 2 (.map (some e2))).selK 6 [0, 3, 1, 5, 4, 2]
  have O5 := Own.dkI (O4.dkI.selK 4 [1, 2, 3, 0])
  clear k1 k2 g1 g2 gf O4 Q3 Q2 O1d d1 d2 O1
  go_wp2
  go_ret
  exact ⟨c, rfl, O5.selK 2 [1, 0]⟩
end Go.Proofs.YtnlppcjfpmnahaaGreatDoor
/- disk: Boot; printed by wip/lgsplit.py. -/
namespace Go.Proofs.YtnlppcjfpmnahaaGreatDoor
set_option linter.all false
end Go.Proofs.YtnlppcjfpmnahaaGreatDoor
/- disk: Boot: the walk. -/
namespace Go.Proofs.YtnlppcjfpmnahaaGreatDoor
set_option linter.all false
open Go.RowKit Go.Maps

theorem dirty_own {w0 w : World} {L : List Piece} {b bn bw : Nat} {m : Dk} (U : Own w0 w (box b (m.cells bn bw) 73 :: mp bn m.cn m.now :: mp bw m.cw m.was :: L)) (S : m.Small) (hd : m.Dom) :
    Calls Tryz.prog 40 #[.pointer (some ⟨b, 0, none⟩)] w fun e w' => ∃ a cap, e = .returned (.slice a m.dirty.length cap) ∧ Own w0 w' (nums (.slice a m.dirty.length cap) m.dirty :: box b (m.cells bn bw) 73 :: mp bn m.cn m.now :: mp bw m.cw m.was :: L) := by
  refine (dirty_any U S hd).mono ?_
  rintro e w' ⟨v, rfl, row, ch⟩
  have O := U.newNums ch (v := v) (zs := m.dirty) row
  obtain ⟨a, cap, hv⟩ := O.numsShape
  subst hv
  exact ⟨a, cap, rfl, O⟩
theorem dirty_dk {w0 w : World} {L : List Piece} {p : Value} {m : Dk} (O : Own w0 w (dk p m :: L)) (S : m.Small) (hd : m.Dom) :
    Calls Tryz.prog 40 #[p] w fun e w' => ∃ a cap, e = .returned (.slice a m.dirty.length cap) ∧ Own w0 w' (nums (.slice a m.dirty.length cap) m.dirty :: dk p m :: L) := by
  obtain ⟨b, bn, bw, hp, U⟩ := O.dkE
  subst hp
  refine (dirty_own U S hd).mono ?_
  rintro e w' ⟨a, cap, rfl, O⟩
  exact ⟨a, cap, rfl, (Own.dkI (O.selK 4 [1, 2, 3, 0])).selK 2 [1, 0]⟩
theorem dirty_nil (w : World) : Calls Tryz.prog 40 #[.pointer none] w fun e w' => e = .returned (.slice none 0 0) ∧ w = w' := by
  go_enter Tryz.func40, Tryz.ntmps40
  go_wp2
  go_ret
  exact ⟨rfl, rfl⟩
theorem boot_nil (v : Value) (w : World) : Calls Tryz.prog 20 #[.pointer none, v] w fun e w' => e = .returned (.int .i64 2) ∧ w = w' := by
  go_enter Tryz.func20, Tryz.ntmps20
  go_wp2
  go_ret
  exact ⟨rfl, rfl⟩

set_option maxRecDepth 100000 in
set_option maxHeartbeats 4000000 in
theorem boot_own {w0 w : World} {L : List Piece} {p : Value} {m : Dk} (O : Own w0 w (dk p m :: L)) (S : m.Small) (hcn : m.cn ≤ 10000000) (hok : m.Ok) (ak : Option Addr) (nk ck : Nat) (xs : List Int)
    (hs : ∀ w' m', Own w0 w' (dk p m' :: L) → ∃ G, SlR w' (.slice ak nk ck) (xs.map (Value.int .i64)) G) (hx : xs.length ≤ maxLen) :
    Calls Tryz.prog 20 #[p, .slice ak nk ck] w fun e w' => e = .returned (.int .i64 (m.boot xs).2) ∧ Own w0 w' (dk p (m.boot xs).1 :: L) := by
  have hx2 : xs.length ≤ 9223372036854775807 := hx
  have hnk : nk = xs.length := by
    obtain ⟨G, h⟩ := hs w m O
    simpa using h.len
  subst hnk
  obtain ⟨b, bn, bw, hp, U⟩ := O.dkE
  subst hp
  obtain ⟨c0, c1, c2, c3, c4, c5, fr⟩ := U.dkAt
  cases ho : m.off
  · have E : m.boot xs = (m, 7) := by simp [Dk.boot, ho]
    rw [E]
    rw [ho] at c5
    clear c0 c1 c2 c3 c4 fr ho E U S hok hs
    go_enter Tryz.func20, Tryz.ntmps20
    go_wp2
    go_ret
    exact ⟨rfl, O⟩
  have E : m.boot xs = ({ m.bootI xs m.dirty.length with off := false, left := 0 }, 0) := by simp [Dk.boot, ho]
  rw [E]
  rw [ho] at c5
  have HO := Lib.hid ho
  have HS := Lib.hid hs
  have SS := Lib.hid S
  have OK := Lib.hid hok
  have HCN := Lib.hid hcn
  have hdl := dirty_len S
  clear E ho hs S hok hcn hx O c0 c1 c2 c3 c4 fr
  go_enter Tryz.func20, Tryz.ntmps20
  go_wp2_with fail
  refine (dirty_own U SS.out OK.out.dom).mono ?_
  clear U c5
  rintro e w1 ⟨ad, cd, rfl, O⟩
  go_wp2_with fail
  go_loopw [21] (fun iv wr => ∃ i : Nat, i ≤ m.dirty.length ∧ iv = .int .i64 i ∧ Own w0 wr (nums (.slice ad m.dirty.length cd) m.dirty :: box b (m.cells bn bw) 73 :: mp bn (m.bootI xs i).cn (m.bootI xs i).now :: mp bw (m.bootI xs i).cw (m.bootI xs i).was :: L)) (fun iv _ => m.dirty.length - (intOf iv).toNat)
  case atStart => exact ⟨0, by omega, rfl, O⟩
  case round =>
    clear O
    obtain ⟨i, hi, rfl, O⟩ := hrel
    by_cases hlt : i < m.dirty.length
    rotate_left
    · have he : i = m.dirty.length := by omega
      subst he
      have c4 := (O.pick 1).dkAt.c4
      have c5 := (O.pick 1).dkAt.c5
      have fr := (O.pick 1).dkAt.fr
      go_wp2
      go_ret
      refine ⟨rfl, ?_⟩
      have O2 := ((O.pick 1).set 5 (.bool false)).set 4 (.int .i64 0)
      have e2 : ({ m.bootI xs m.dirty.length with off := false, left := 0 } : Dk).cells bn bw = ((m.cells bn bw).setIfInBounds 5 (.bool false)).setIfInBounds 4 (.int .i64 0) := by
        have := bootI_n m xs m.dirty.length
        simp [Dk.cells, this.1, this.2.1]
      rw [← e2] at O2
      exact Own.dkI (m := { m.bootI xs m.dirty.length with off := false, left := 0 }) (O2.selK 4 [0, 2, 3])
    · obtain ⟨gd, hgd, cd0, -⟩ := O.numsAt i hlt
      subst hgd
      have hk64 := dirty_i64 SS.out OK.out.dom (List.getElem_mem hlt)
      obtain ⟨s, t, hS, hT, hsl, htl⟩ := bootI_at OK.out xs hlt
      have hb1 : (i : Int) < (m.dirty.length : Int) := by omega
      have hmi : m.bootI xs (i + 1) = { m.bootI xs i with now := upd (m.bootI xs i).now m.dirty[i] (some (s.take (keepAt xs i) ++ t.drop (keepAt xs i))), was := upd (m.bootI xs i).was m.dirty[i] none, cn := (m.bootI xs i).cn + 1 } := by
        show (m.bootI xs i).boot1 (m.dirty.getD i 0) (keepAt xs i) = _
        rw [show m.dirty.getD i 0 = m.dirty[i] from by simp [hlt]]
        exact boot1_is hS hT _
      have HMI := Lib.hid hmi
      have hcnI : (m.bootI xs i).cn ≤ 1000000000 := by
        have := (bootI_n m xs i).2.2.2
        have := HCN.out
        omega
      have HC2 := Lib.hid hcnI
      have hsl2 : (m.bootI xs i).cw = m.cw := (bootI_n m xs i).2.2.1
      obtain ⟨kk, hkk⟩ : ∃ kk, kk = m.dirty[i] := ⟨_, rfl⟩
      rw [← hkk] at cd0 hk64 hS hT
      have HMK := Lib.hid hkk
      clear hkk hmi hcnI hsl2
      have HK := Lib.hid hk64
      have HSS := Lib.hid hS
      have HTT := Lib.hid hT
      clear hk64 hS hT
      -- what the reading of keep gives
      obtain ⟨G, hsl3⟩ := HS.out wr (m.bootI xs i) (Own.dkI (bn := bn) (bw := bw) (by rw [bootI_cells]; exact O.selK 4 [1, 2, 3]))
      have HSL := Lib.hid hsl3
      clear hsl3
      have c1 := (O.pick 1).dkAt.c1
      have c2 := (O.pick 1).dkAt.c2
      obtain ⟨g, cap, W1, hcv, OB⟩ := O.toBytes t
      rw [htl] at hcv
      have b1 := (OB.pick 2).dkAt.c1
      have b2 := (OB.pick 2).dkAt.c2
      obtain ⟨n, hn⟩ : ∃ n, n = keepAt xs i := ⟨_, rfl⟩
      have hn128 : n ≤ 128 := by rw [hn]; exact keepAt_le xs i
      have HN := Lib.hid hn
      have hlt3 : t.drop (s.take n).length = t.drop n := by rw [List.length_take, show min n s.length = n from by omega]
      have hu : (s.take n ++ t.drop n).length = 128 := by simp; omega
      have HU := Lib.hid hu
      have hnS : (n : Int) ≤ (s.length : Int) := by omega
      have hext : (⟨s.toArray⟩ : ByteArray).extract 0 n = ⟨(s.take n).toArray⟩ := by rw [mk_extract]; simp
      clear hn hu
      by_cases hik : i < xs.length
      · have hik2 : (i : Int) < (xs.length : Int) := by omega
        obtain ⟨gk, ok, hgk, ck0⟩ := HSL.out.read (k := i) (by simpa using hik)
        subst hgk
        simp only [List.getElem_map] at ck0
        have hmx : max 0 (min xs[i] 128) = (n : Int) := by
          rw [HN.out]; unfold keepAt; rw [if_pos hik]
          have : xs.getD i 0 = xs[i] := by simp [hik]
          rw [this]; omega
        obtain ⟨w3, hcp, O3⟩ := run_copy_fitO (cap := cap) (l := s.take n) OB (by rw [List.length_take]; omega) 3
        rw [htl] at hcp
        go_wp2_with (first
          | (at_lookup; refine wpList_lookO rfl _ _ rfl (O.pick 3) rfl kk HK.out rfl ?_; rw [HTT.out, Option.getD_some]; try rw [hmx])
          | (at_lookup; refine wpList_lookO rfl _ _ rfl (OB.pick 3) rfl kk HK.out rfl ?_; rw [HSS.out, Option.getD_some]))
        clear hcv c1 c2 b1 b2 cd0 hcp
        rw [hlt3] at O3
        have c1 : w3.cell? ⟨b, 1, none⟩ = some (.map (some bn)) := (O3.pick 2).dkAt.c1
        have Od := O3.drew
        have hfb := Od.fromBytes cap
        rw [HU.out] at hfb
        obtain ⟨w4, hmu, O4⟩ := run_storeO (Od.pick 3) HC2.out kk HK.out _ (by rw [HU.out]; decide)
        have hfb4 := (O4.pick 1).fromBytes cap
        rw [HU.out] at hfb4
        go_region_held3 (fun w' => w'.cell? ⟨b, 1, none⟩ = some (.map (some bn)) ∧ (convert 57 9 (.slice (some ⟨g, 0, none⟩) 128 cap)).run Tryz.prog w' = .ok (.string ⟨(s.take n ++ t.drop n).toArray⟩) w')
          (first
            | exact ⟨c1, hfb⟩
            | exact ⟨(O4.pick 3).dkAt.c1, hfb4⟩)
          (first
            | (refine step_storeO rfl rfl rfl rfl rfl hmu ?_)
            | fail)
        clear hmu hfb hfb4 c1
        have c2 : w4.cell? ⟨b, 2, none⟩ = some (.map (some bw)) := (O4.pick 3).dkAt.c2
        go_wp2_with (at_delete; refine wpList_dropO rfl _ _ rfl (O4.pick 4) rfl kk HK.out rfl ?_; intro w5 O5)
        go_roundw
        case rel =>
          refine ⟨i + 1, by omega, by go_num, ?_⟩
          rw [HMI.out, ← HMK.out, ← HN.out]
          exact O5.selK 5 [3, 4, 1, 0]
        case measure => simp [intOf]; omega
      · have hik2 : ¬ (i : Int) < (xs.length : Int) := by omega
        have hn0 : n = 0 := by rw [HN.out]; unfold keepAt; rw [if_neg hik]
        have hmx : Hid ((0 : Int) = (n : Int)) := Lib.hid (by omega)
        have he0 : (⟨(s.take n).toArray⟩ : ByteArray) = ByteArray.empty := by rw [hn0]; rfl
        have HN0 := Lib.hid hn0
        clear hn0
        obtain ⟨w3, hcp, O3⟩ := run_copy_fitO (cap := cap) (l := s.take n) OB (by rw [List.length_take]; omega) 3
        rw [htl, he0] at hcp
        clear he0
        go_wp2_with (first
          | (at_lookup; refine wpList_lookO rfl _ _ rfl (O.pick 3) rfl kk HK.out rfl ?_; rw [HTT.out, Option.getD_some])
          | (at_lookup; refine wpList_lookO rfl _ _ rfl (OB.pick 3) rfl kk HK.out rfl ?_; rw [HSS.out, Option.getD_some]))
        clear hcv c1 c2 b1 b2 cd0 hcp
        rw [hlt3] at O3
        have c1 : w3.cell? ⟨b, 1, none⟩ = some (.map (some bn)) := (O3.pick 2).dkAt.c1
        have Od := O3.drew
        have hfb := Od.fromBytes cap
        rw [HU.out] at hfb
        obtain ⟨w4, hmu, O4⟩ := run_storeO (Od.pick 3) HC2.out kk HK.out _ (by rw [HU.out]; decide)
        have hfb4 := (O4.pick 1).fromBytes cap
        rw [HU.out] at hfb4
        go_region_held3 (fun w' => w'.cell? ⟨b, 1, none⟩ = some (.map (some bn)) ∧ (convert 57 9 (.slice (some ⟨g, 0, none⟩) 128 cap)).run Tryz.prog w' = .ok (.string ⟨(s.take n ++ t.drop n).toArray⟩) w')
          (first
            | exact ⟨c1, hfb⟩
            | exact ⟨(O4.pick 3).dkAt.c1, hfb4⟩)
          (first
            | (refine step_storeO rfl rfl rfl rfl rfl hmu ?_)
            | fail)
        clear hmu hfb hfb4 c1
        have c2 : w4.cell? ⟨b, 2, none⟩ = some (.map (some bw)) := (O4.pick 3).dkAt.c2
        go_wp2_with (at_delete; refine wpList_dropO rfl _ _ rfl (O4.pick 4) rfl kk HK.out rfl ?_; intro w5 O5)
        go_roundw
        case rel =>
          refine ⟨i + 1, by omega, by go_num, ?_⟩
          rw [HMI.out, ← HMK.out, ← HN.out]
          exact O5.selK 5 [3, 4, 1, 0]
        case measure => simp [intOf]; omega
end Go.Proofs.YtnlppcjfpmnahaaGreatDoor
/- disk: Boot over what fits; printed by wip/lgsplit.py. -/
namespace Go.Proofs.YtnlppcjfpmnahaaGreatDoor
set_option linter.all false
open Go.RowKit Go.Maps

section
variable {w0 w : World} {L : List Piece} {p : Value} {m : Dk} {c : Nat}
theorem boot_fit (O : Own w0 w (dk p m :: L)) (h : m.Fit c) (hc : c ≤ 9000) (ak : Option Addr) (nk ck : Nat) (xs : List Int)
    (hs : ∀ w' m', Own w0 w' (dk p m' :: L) → ∃ G, SlR w' (.slice ak nk ck) (xs.map (Value.int .i64)) G) (hx : xs.length ≤ maxLen) {m' : Dk} {er : Int} (hr : m.boot xs = (m', er)) :
    Calls Tryz.prog 20 #[p, .slice ak nk ck] w fun e w' => e = .returned (.int .i64 er) ∧ Own w0 w' (dk p m' :: L) := by
  have := boot_own O (h.small hc) (by have := h.cn; omega) h.ok ak nk ck xs hs hx
  rw [hr] at this
  exact this
end
end Go.Proofs.YtnlppcjfpmnahaaGreatDoor
