/- disk: Dirty; printed by wip/lgsplit.py. -/
import Derived.Test.YtnlppcjfpmnahaaGreatDoorLgDk
namespace Go.Proofs.YtnlppcjfpmnahaaGreatDoor
set_option linter.all false
open Go.RowKit Go.Maps Go.Sort Go.Shelf

theorem intKeys_mem {D : DataW Unit} (h : ∃ es, D = .map es ∧ es.Pairwise (fun p q => p.1 ≠ q.1) ∧ ∀ p ∈ es, ∃ x : Int, p.1 = .int .i64 x) : (intKeys D).Nodup ∧ ∀ k : Int, k ∈ intKeys D ↔ has D (kI k) = true := by
  obtain ⟨es, rfl, h1, h2⟩ := h
  constructor
  · show (es.map fun p => Go.intOf p.1).Pairwise (· ≠ ·)
    rw [List.pairwise_map]
    refine h1.imp_of_mem (fun {p q} hp hq hne e => hne ?_)
    obtain ⟨x, hx⟩ := h2 p hp
    obtain ⟨y, hy⟩ := h2 q hq
    rw [hx, hy] at e ⊢
    have : x = y := e
    rw [this]
  · intro k
    rw [has_eq]
    simp only [intKeys, List.mem_map, List.any_eq_true]
    constructor
    · rintro ⟨p, hp, e⟩
      obtain ⟨x, hx⟩ := h2 p hp
      refine ⟨p, hp, ?_⟩
      rw [hx] at e ⊢
      have : x = k := e
      rw [this]
      simp [kI, Lit.sameKey]
    · rintro ⟨p, hp, e⟩
      obtain ⟨x, hx⟩ := h2 p hp
      refine ⟨p, hp, ?_⟩
      rw [hx] at e ⊢
      by_cases hk : x = k
      · exact hk
      · rw [show (Lit.int .i64 x) = kI x from rfl, sameKey_ne (kI_ne hk)] at e
        cases e
theorem keys_dirty {m : Dk} {D : DataW Unit} (hD : Reads D m.was) (hd : m.Dom) (h : ∃ es, D = .map es ∧ es.Pairwise (fun p q => p.1 ≠ q.1) ∧ ∀ p ∈ es, ∃ x : Int, p.1 = .int .i64 x) {ss : List Int} (hs : ss.Perm (intKeys D)) :
    ss.mergeSort (fun x y => decide (x ≤ y)) = m.dirty := by
  obtain ⟨h1, h2⟩ := intKeys_mem h
  have hp : (intKeys D).Perm m.dirty := (List.perm_ext_iff_of_nodup h1 (rising_nodup (dirty_rising m))).2 (fun k => by
    rw [h2 k, mem_dirty hd, (hD k).1])
  refine List.Perm.eq_of_pairwise (le := fun a b => a ≤ b) (fun a b _ _ h1 h2 => by omega) ?_ ((dirty_rising m).imp (fun h => by omega)) ((List.mergeSort_perm _ _).trans (hs.trans hp))
  refine (List.pairwise_mergeSort (le := fun x y : Int => decide (x ≤ y)) (fun a b c h1 h2 => by simp at h1 h2 ⊢; omega) (fun a b => by simp; omega) ss).imp (fun h => by simpa using h)
theorem entries_int {w : World} {b n : Nat} {D : DataW Unit} {R : Value → Option (DataW Unit × List MemPlace)} (h : w.ownsMap Tryz.prog 3 R b n D) : ∃ es, D = .map es ∧ es.Pairwise (fun p q => p.1 ≠ q.1) ∧ ∀ p ∈ es, ∃ x : Int, p.1 = .int .i64 x := by
  obtain ⟨es, clock, _, F, _, rfl⟩ := h
  refine ⟨_, rfl, ((WideShapes.sorted_perm _).pairwise_iff (fun {_ _} hne => Ne.symm hne)).2 (Maps.fit_apart lawI F), fun p hp => ?_⟩
  obtain ⟨x, hx, rfl⟩ := List.mem_map.1 (mem_sorted.1 hp)
  obtain ⟨y, hy⟩ := F.reads x hx
  rw [WideElems.rg_of hy]
  obtain ⟨z, _, hz, _⟩ := Maps.keyOf_int_inv Tryz.underlying3 (WideElems.rd_key hy)
  exact ⟨z, hz⟩

theorem sortsA (k : Nat) : AnyZI.SortsIn Tryz.prog Tryz.sortedA_ren Fence.wide k :=
  ⟨fun blk off cap ss W hH hblk hsz => callsIn_wide.2 (AnyM.slices_Sort_int Tryz.sortA blk off cap ss W hH hblk hsz),
   fun p cap W => callsIn_wide.2 (AnyM.slices_Sort_int_none Tryz.sortA p cap W)⟩

set_option maxHeartbeats 1000000 in
theorem dirty_any {w0 w : World} {L : List Piece} {b bn bw : Nat} {m : Dk} (U : Own w0 w (box b (m.cells bn bw) 73 :: mp bn m.cn m.now :: mp bw m.cw m.was :: L)) (S : m.Small) (hd : m.Dom) :
    Calls Tryz.prog 40 #[.pointer (some ⟨b, 0, none⟩)] w fun e w' => ∃ v, e = .returned v ∧ w'.ownsRow w.heap.size 3 1 v m.dirty.length (m.dirty.map encZ) ∧ Chg [] w w' := by
  obtain ⟨c0, c1, c2, c3, c4, c5, fr⟩ := U.dkAt
  obtain ⟨D, hown, hD⟩ := (U.pick 2).mapped
  have hsz := hown.size_le
  have hcw := S.cw
  have hmax : Maps.size D ≤ maxLen := by unfold maxLen; omega
  have hbytes : Maps.size D * 8 ≤ 140737488355328 := by omega
  have HE := Lib.hid (entries_int hown)
  have HD := Lib.hid hD
  have HM := Lib.hid hd
  clear hsz hcw S hD hd U
  refine (callsIn_wide (n := 6)).1 ?_
  have hbl := hown.lt
  have hseq : SeqGives Fence.wide 2 Tryz.prog 74 #[.pointer (some ⟨w.heap.size, 0, none⟩)] encZ (fun ss => ss.Perm (intKeys D)) (Maps.size D) (w.alloc (.cells #[.map (some bw)] 71)) :=
    AnyZI.keys_gives (ρ := Tryz.keysA_ren) { Tryz.keysA with } Fence.wide _ trivial rfl (by omega) w.heap.size bw m.cw D _ (by simp) (by simp) (by
      obtain ⟨es, clock, hb, Ft, hs, hD⟩ := hown
      exact ⟨es, clock, (Below.heap_alloc _ _ bw hbl).trans hb, Ft, hs, hD⟩)
  have cK : ∀ mb W, CallsIn Fence.wide 5 Tryz.prog 56 #[.map mb] W fun e w' => e = .returned (.func (.func 74) #[] #[.pointer (some ⟨W.heap.size, 0, none⟩)]) ∧ w' = W.alloc (.cells #[.map mb] 71) := fun mb W => AnyZI.keys_in Tryz.keysA Fence.wide 5 trivial rfl mb W
  have cS := AnyZI.sorted_in Tryz.sortedA Fence.wide 5 trivial trivial trivial trivial rfl (by omega) (sortsA _) (enters_of Tryz.func73 (by kernel_rfl) rfl) 74 #[.pointer (some ⟨w.heap.size, 0, none⟩)] trivial (enters_of Tryz.func74 (by kernel_rfl) rfl) _ _ hmax hbytes _ hseq
  change CallsIn _ _ Tryz.prog 55 _ _ _ at cS
  have hfK : Fence.wide.fn 56 := trivial
  have hfS : Fence.wide.fn 55 := trivial
  clear hmax hbytes hseq
  refine callsIn_of_wp Tryz.func40 rfl trivial ?_ rfl
  simp only [Tryz.ntmps40, List.size_toArray, List.length_cons, List.length_nil, Nat.reduceAdd, Nat.reduceSub, Array.replicate_succ, Array.replicate_zero, List.push_toArray, List.append_toArray, List.nil_append, List.cons_append]
  gi_wp2_with (first
    | (gi_at_call 56; refine (cK _ _).mono ?_; rintro e w' ⟨rfl, rfl⟩)
    | (gi_at_call 55; refine cS.mono ?_; rintro e w' ⟨v, ss, rfl, hS, hrow, hnil, hb⟩))
  go_ret
  have he := keys_dirty HD.out HM.out HE.out hS
  have hrow2 := ownsRow_base_a hrow (by simp : w.heap.size ≤ _)
  have hl : ss.length = m.dirty.length := by rw [← he, List.length_mergeSort]
  rw [he, hl] at hrow2
  refine ⟨v, rfl, hrow2, ?_⟩
  have hb2 := ((Below.refl _ w).alloc (Nat.le_refl _) _).trans (hb.mono (by simp))
  exact ⟨hb2.os, hb2.tape, hb2.output, hb2.size, fun k hk _ => hb2.block k hk⟩
end Go.Proofs.YtnlppcjfpmnahaaGreatDoor
