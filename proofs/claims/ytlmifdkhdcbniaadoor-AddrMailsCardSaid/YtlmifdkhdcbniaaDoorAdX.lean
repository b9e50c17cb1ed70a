/- addr, plain: domains are told rising, each once. -/
import Derived.Test.YtlmifdkhdcbniaaDoorAdW
namespace Go.Proofs.YtlmifdkhdcbniaaDoor
set_option linter.all false
open Go.RowKit

abbrev BL := List UInt8
theorem bl_irrefl (a : BL) : ¬ a < a := List.lt_irrefl a
theorem bl_trans {a b c : BL} (h1 : a < b) (h2 : b < c) : a < c := List.lt_trans h1 h2
theorem bl_le_trans {a b c : BL} (h1 : a ≤ b) (h2 : b ≤ c) : a ≤ c := List.le_trans h1 h2
theorem bl_total (a b : BL) : a ≤ b ∨ b ≤ a := List.le_total a b
theorem bl_lt_of {a b : BL} (h1 : a ≤ b) (h2 : a ≠ b) : a < b := by
  rcases Decidable.em (a < b) with h | h
  · exact h
  · exact absurd (List.le_antisymm h1 (List.not_lt.1 h)) h2
theorem bl_not {a b : BL} (h : a < b) : ¬ b ≤ a := by
  intro h2
  exact List.not_lt.2 h2 h
theorem sortS_sorted (ss : List BL) : (sortS ss).Pairwise (· ≤ ·) := by
  refine (List.pairwise_mergeSort (le := fun x y : BL => decide (x ≤ y)) (fun a b c h1 h2 => ?_) (fun a b => ?_) ss).imp (fun h => by simpa using h)
  · simp only [decide_eq_true_eq] at h1 h2 ⊢; exact bl_le_trans h1 h2
  · simpa using bl_total a b
theorem sortS_mem (ss : List BL) (x : BL) : x ∈ sortS ss ↔ x ∈ ss := (List.mergeSort_perm ss _).mem_iff
theorem compactUp_is (d : Array BL) (hd : ∀ i j, i < j → j < d.size → d[i]! ≤ d[j]!) : ∀ m, m ≤ d.size → (Lib.compactUpTo d m).Pairwise (· < ·) ∧ ∀ x, x ∈ Lib.compactUpTo d m ↔ ∃ j, j < m ∧ d[j]! = x
  | 0, _ => ⟨by simp [Lib.compactUpTo], fun x => by simp [Lib.compactUpTo]⟩
  | m + 1, h => by
    obtain ⟨h1, h2⟩ := compactUp_is d hd m (by omega)
    rw [Lib.compactUpTo_succ]
    by_cases k : Lib.keeps d m = true
    · rw [if_pos k]
      refine ⟨?_, fun x => ?_⟩
      · rw [List.pairwise_append]
        refine ⟨h1, by simp, fun x hx y hy => ?_⟩
        simp only [List.mem_singleton] at hy
        subst hy
        obtain ⟨j, hj, rfl⟩ := (h2 x).1 hx
        have hk : m = 0 ∨ d[m]! ≠ d[m - 1]! := by simpa [Lib.keeps] using k
        rcases hk with hk | hk
        · omega
        · have hle : d[m - 1]! ≤ d[m]! := hd (m - 1) m (by omega) (by omega)
          have hlt := bl_lt_of hle (fun e => hk e.symm)
          by_cases e : j = m - 1
          · rw [e]; exact hlt
          · have h3 := hd j (m - 1) (by omega) (by omega)
            rcases Decidable.em (d[j]! = d[m - 1]!) with q | q
            · rw [q]; exact hlt
            · exact bl_trans (bl_lt_of h3 q) hlt
      · rw [List.mem_append, h2]
        simp only [List.mem_singleton]
        constructor
        · rintro (⟨j, hj, rfl⟩ | rfl)
          · exact ⟨j, by omega, rfl⟩
          · exact ⟨m, by omega, rfl⟩
        · rintro ⟨j, hj, rfl⟩
          by_cases e : j = m
          · subst e; exact .inr rfl
          · exact .inl ⟨j, by omega, rfl⟩
    · rw [if_neg k, List.append_nil]
      refine ⟨h1, fun x => ?_⟩
      rw [h2]
      have hk : ¬ (m = 0 ∨ d[m]! ≠ d[m - 1]!) := by simpa [Lib.keeps] using k
      have hm : m ≠ 0 := fun e => hk (.inl e)
      have he : d[m]! = d[m - 1]! := by
        rcases Decidable.em (d[m]! = d[m - 1]!) with q | q
        · exact q
        · exact absurd (.inr q) hk
      constructor
      · rintro ⟨j, hj, rfl⟩; exact ⟨j, by omega, rfl⟩
      · rintro ⟨j, hj, rfl⟩
        by_cases e : j = m
        · subst e; exact ⟨j - 1, by omega, he.symm⟩
        · exact ⟨j, by omega, rfl⟩
theorem compact_is (zs : List BL) (h : zs.Pairwise (· ≤ ·)) : (Lib.compact zs).Pairwise (· < ·) ∧ ∀ x, x ∈ Lib.compact zs ↔ x ∈ zs := by
  have hg : ∀ j (hj : j < zs.length), zs.toArray[j]! = zs[j] := fun j hj => by simp [hj]
  obtain ⟨h1, h2⟩ := compactUp_is zs.toArray (fun i j hij hj => by
    have hj' : j < zs.length := by simpa using hj
    rw [hg i (by omega), hg j hj']
    exact List.pairwise_iff_getElem.1 h i j (by omega) hj' hij) zs.length (by simp)
  refine ⟨h1, fun x => ?_⟩
  unfold Lib.compact
  rw [h2]
  constructor
  · rintro ⟨j, hj, rfl⟩; rw [hg j hj]; exact List.getElem_mem hj
  · intro hx
    obtain ⟨j, hj, rfl⟩ := List.mem_iff_getElem.1 hx
    exact ⟨j, hj, hg j hj⟩
theorem domsS_rising (rc : List (List UInt8 × Bool)) : (domsS rc).Pairwise (· < ·) := (compact_is _ (sortS_sorted _)).1
theorem domsS_mem (rc : List (List UInt8 × Bool)) (x : BL) : x ∈ domsS rc ↔ x ∈ doms rc := by
  unfold domsS; rw [(compact_is _ (sortS_sorted _)).2, sortS_mem]
theorem mem_doms (rc : List (List UInt8 × Bool)) (x : BL) : x ∈ doms rc ↔ ∃ r, r ∈ rc ∧ parseB r.1 = true ∧ domL r.1 = x := by
  unfold doms
  simp only [List.mem_map, List.mem_filter]
  constructor
  · rintro ⟨r, ⟨h1, h2⟩, h3⟩; exact ⟨r, h1, h2, h3⟩
  · rintro ⟨r, h1, h2, h3⟩; exact ⟨r, ⟨h1, h2⟩, h3⟩
/-- two rising rows of the same texts are one -/
theorem rising_uniq : ∀ {a b : List BL}, a.Pairwise (· < ·) → b.Pairwise (· < ·) → (∀ x, x ∈ a ↔ x ∈ b) → a = b
  | [], [], _, _, _ => rfl
  | [], y :: b, _, _, h => by have := (h y).2 (by simp); simp at this
  | x :: a, [], _, _, h => by have := (h x).1 (by simp); simp at this
  | x :: a, y :: b, ha, hb, h => by
    rw [List.pairwise_cons] at ha hb
    have hxy : x = y := by
      rcases List.mem_cons.1 ((h x).1 (by simp)) with e | e
      · exact e
      · rcases List.mem_cons.1 ((h y).2 (by simp)) with e2 | e2
        · exact e2.symm
        · exact absurd (bl_trans (hb.1 x e) (ha.1 y e2)) (bl_irrefl y)
    subst hxy
    congr 1
    refine rising_uniq ha.2 hb.2 (fun z => ?_)
    constructor
    · intro hz
      rcases List.mem_cons.1 ((h z).1 (by simp [hz])) with e | e
      · subst e; exact absurd (ha.1 z hz) (bl_irrefl z)
      · exact e
    · intro hz
      rcases List.mem_cons.1 ((h z).2 (by simp [hz])) with e | e
      · subst e; exact absurd (hb.1 z hz) (bl_irrefl z)
      · exact e
end Go.Proofs.YtlmifdkhdcbniaaDoor
