/- disk: Dirty (the keys of a map, sorted: after the kit's worked text over int keys). -/
import Derived.Test.YtobflkddkplpiaaDiskC
namespace Go.Proofs.Ytobflkddkplpiaa
set_option linter.all false
open Go.RowKit Go.Maps Go.Sort Go.Shelf

/-- the dirty sectors -/
def Dk.dirty (m : Dk) : List Int := ((List.range m.n).filter fun k : Nat => (m.was (k : Int)).isSome).map fun k : Nat => (k : Int)
/-- what is dirty is a sector -/
def Dk.Dom (m : Dk) : Prop := ∀ k : Int, (m.was k).isSome = true → 0 ≤ k ∧ k < m.n
theorem mem_dirty {m : Dk} (h : m.Dom) (k : Int) : k ∈ m.dirty ↔ (m.was k).isSome = true := by
  simp only [Dk.dirty, List.mem_map, List.mem_filter, List.mem_range]
  constructor
  · rintro ⟨j, ⟨_, hj⟩, rfl⟩; exact hj
  · intro hk
    have := h k hk
    exact ⟨k.toNat, ⟨by omega, by rw [Int.toNat_of_nonneg this.1]; exact hk⟩, by omega⟩
theorem dirty_rising (m : Dk) : m.dirty.Pairwise (· < ·) := by
  unfold Dk.dirty
  rw [List.pairwise_map]
  refine List.Pairwise.imp (fun h => by omega) ((List.pairwise_lt_range (n := m.n)).filter _)
theorem rising_nodup {l : List Int} (h : l.Pairwise (· < ·)) : l.Nodup := h.imp (fun h => by omega)
theorem intKeys_mem {D : DataW Unit} (h : ∃ es, D = .map es ∧ es.Pairwise (fun p q => p.1 ≠ q.1) ∧ ∀ p ∈ es, ∃ x : Int, p.1 = .int .i64 x) : (intKeys D).Nodup ∧ ∀ k : Int, k ∈ intKeys D ↔ has D (kI k) = true := by
  obtain ⟨es, rfl, h1, h2⟩ := h
  constructor
  · show (es.map fun p => Go.intOf p.1).Pairwise (· ≠ ·)
    rw [List.pairwise_map]
    refine h1.imp_of_mem (fun {p q} hp hq hne e => hne ?_)
    obtain ⟨x, hx⟩ := h2 p hp
    obtain ⟨y, hy⟩ := h2 q hq
    rw [hx, hy] at e ⊢
    have : x = y := e
    rw [this]
  · intro k
    rw [has_eq]
    simp only [intKeys, List.mem_map, List.any_eq_true]
    constructor
    · rintro ⟨p, hp, e⟩
      obtain ⟨x, hx⟩ := h2 p hp
      refine ⟨p, hp, ?_⟩
      rw [hx] at e ⊢
      have : x = k := e
      rw [this]
      simp [kI, Lit.sameKey]
    · rintro ⟨p, hp, e⟩
      obtain ⟨x, hx⟩ := h2 p hp
      refine ⟨p, hp, ?_⟩
      rw [hx] at e ⊢
      by_cases hk : x = k
      · exact hk
      · rw [show (Lit.int .i64 x) = kI x from rfl, sameKey_ne (kI_ne hk)] at e
        cases e
theorem keys_dirty {m : Dk} {D : DataW Unit} (hD : Reads D m.was) (hd : m.Dom) (h : ∃ es, D = .map es ∧ es.Pairwise (fun p q => p.1 ≠ q.1) ∧ ∀ p ∈ es, ∃ x : Int, p.1 = .int .i64 x) {ss : List Int} (hs : ss.Perm (intKeys D)) :
    ss.mergeSort (fun x y => decide (x ≤ y)) = m.dirty := by
  obtain ⟨h1, h2⟩ := intKeys_mem h
  have hp : (intKeys D).Perm m.dirty := (List.perm_ext_iff_of_nodup h1 (rising_nodup (dirty_rising m))).2 (fun k => by
    rw [h2 k, mem_dirty hd, (hD k).1])
  refine List.Perm.eq_of_pairwise (le := fun a b => a ≤ b) (fun a b _ _ h1 h2 => by omega) ?_ ((dirty_rising m).imp (fun h => by omega)) ((List.mergeSort_perm _ _).trans (hs.trans hp))
  refine (List.pairwise_mergeSort (le := fun x y : Int => decide (x ≤ y)) (fun a b c h1 h2 => by simp at h1 h2 ⊢; omega) (fun a b => by simp; omega) ss).imp (fun h => by simpa using h)
theorem entries_int {w : World} {b n : Nat} {D : DataW Unit} {R : Value → Option (DataW Unit × List MemPlace)} (h : w.ownsMap Try.prog 3 R b n D) : ∃ es, D = .map es ∧ es.Pairwise (fun p q => p.1 ≠ q.1) ∧ ∀ p ∈ es, ∃ x : Int, p.1 = .int .i64 x := by
  obtain ⟨es, clock, _, F, _, rfl⟩ := h
  refine ⟨_, rfl, ((WideShapes.sorted_perm _).pairwise_iff (fun {_ _} hne => Ne.symm hne)).2 (Maps.fit_apart lawI F), fun p hp => ?_⟩
  obtain ⟨x, hx, rfl⟩ := List.mem_map.1 (mem_sorted.1 hp)
  obtain ⟨y, hy⟩ := F.reads x hx
  rw [WideElems.rg_of hy]
  obtain ⟨z, _, hz, _⟩ := Maps.keyOf_int_inv Try.underlying3 (WideElems.rd_key hy)
  exact ⟨z, hz⟩

theorem sortsA (k : Nat) : AnyZI.SortsIn Try.prog Try.sortedA_ren Fence.wide k :=
  ⟨fun blk off cap ss W hH hblk hsz => callsIn_wide.2 (AnyM.slices_Sort_int Try.sortA blk off cap ss W hH hblk hsz),
   fun p cap W => callsIn_wide.2 (AnyM.slices_Sort_int_none Try.sortA p cap W)⟩

set_option maxHeartbeats 1000000 in
theorem dirty_any {w0 w : World} {L : List Piece} {b bn bw : Nat} {m : Dk} (U : Own w0 w (box b (m.cells bn bw) 63 :: mp bn m.cn m.now :: mp bw m.cw m.was :: L)) (S : m.Small) (hd : m.Dom) :
    Calls Try.prog 17 #[.pointer (some ⟨b, 0, none⟩)] w fun e w' => ∃ v, e = .returned v ∧ w'.ownsRow w.heap.size 3 1 v m.dirty.length (m.dirty.map encZ) ∧ Chg [] w w' := by
  obtain ⟨c0, c1, c2, c3, c4, c5, fr⟩ := U.dkAt
  obtain ⟨D, hown, hD⟩ := (U.pick 2).mapped
  have hsz := hown.size_le
  have hcw := S.cw
  have hmax : Maps.size D ≤ maxLen := by unfold maxLen; omega
  have hbytes : Maps.size D * 8 ≤ 140737488355328 := by omega
  have HE := Lib.hid (entries_int hown)
  have HD := Lib.hid hD
  have HM := Lib.hid hd
  clear hsz hcw S hD hd U
  refine (callsIn_wide (n := 6)).1 ?_
  have hbl := hown.lt
  have hseq : SeqGives Fence.wide 2 Try.prog 46 #[.pointer (some ⟨w.heap.size, 0, none⟩)] encZ (fun ss => ss.Perm (intKeys D)) (Maps.size D) (w.alloc (.cells #[.map (some bw)] 61)) :=
    AnyZI.keys_gives (ρ := Try.keysA_ren) { Try.keysA with } Fence.wide _ trivial rfl (by omega) w.heap.size bw m.cw D _ (by simp) (by simp) (by
      obtain ⟨es, clock, hb, Ft, hs, hD⟩ := hown
      exact ⟨es, clock, (Below.heap_alloc _ _ bw hbl).trans hb, Ft, hs, hD⟩)
  have cK : ∀ mb W, CallsIn Fence.wide 5 Try.prog 36 #[.map mb] W fun e w' => e = .returned (.func (.func 46) #[] #[.pointer (some ⟨W.heap.size, 0, none⟩)]) ∧ w' = W.alloc (.cells #[.map mb] 61) := fun mb W => AnyZI.keys_in Try.keysA Fence.wide 5 trivial rfl mb W
  have cS := AnyZI.sorted_in Try.sortedA Fence.wide 5 trivial trivial trivial trivial rfl (by omega) (sortsA _) (enters_of Try.func45 (by kernel_rfl) rfl) 46 #[.pointer (some ⟨w.heap.size, 0, none⟩)] trivial (enters_of Try.func46 (by kernel_rfl) rfl) _ _ hmax hbytes _ hseq
  change CallsIn _ _ Try.prog 35 _ _ _ at cS
  have hfK : Fence.wide.fn 36 := trivial
  have hfS : Fence.wide.fn 35 := trivial
  clear hmax hbytes hseq
  refine callsIn_of_wp Try.func17 rfl trivial ?_ rfl
  simp only [Try.ntmps17, List.size_toArray, List.length_cons, List.length_nil, Nat.reduceAdd, Nat.reduceSub, Array.replicate_succ, Array.replicate_zero, List.push_toArray, List.append_toArray, List.nil_append, List.cons_append]
  gi_wp2_with (first
    | (gi_at_call 36; refine (cK _ _).mono ?_; rintro e w' ⟨rfl, rfl⟩)
    | (gi_at_call 35; refine cS.mono ?_; rintro e w' ⟨v, ss, rfl, hS, hrow, hnil, hb⟩))
  go_ret
  have he := keys_dirty HD.out HM.out HE.out hS
  have hrow2 := ownsRow_base_a hrow (by simp : w.heap.size ≤ _)
  have hl : ss.length = m.dirty.length := by rw [← he, List.length_mergeSort]
  rw [he, hl] at hrow2
  refine ⟨v, rfl, hrow2, ?_⟩
  have hb2 := ((Below.refl _ w).alloc (Nat.le_refl _) _).trans (hb.mono (by simp))
  exact ⟨hb2.os, hb2.tape, hb2.output, hb2.size, fun k hk _ => hb2.block k hk⟩
end Go.Proofs.Ytobflkddkplpiaa
