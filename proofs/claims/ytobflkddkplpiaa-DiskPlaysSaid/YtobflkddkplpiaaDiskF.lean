/- disk: Boot: what it computes. -/
import Derived.Test.YtobflkddkplpiaaDiskE
import Derived.Test.YtobflkddkplpiaaNums
import Derived.Test.YtobflkddkplpiaaSl
namespace Go.Proofs.Ytobflkddkplpiaa
set_option linter.all false
open Go.RowKit Go.Maps

def keepAt (keep : List Int) (i : Nat) : Nat := if i < keep.length then (max 0 (min (keep.getD i 0) 128)).toNat else 0
def Dk.boot1 (m : Dk) (k : Int) (n : Nat) : Dk := { m with now := upd m.now k (some (((m.now k).getD []).take n ++ ((m.was k).getD []).drop n)), was := upd m.was k none, cn := m.cn + 1 }
/-- behind i rounds -/
def Dk.bootI (m : Dk) (keep : List Int) : Nat → Dk
  | 0 => m
  | i + 1 => (m.bootI keep i).boot1 (m.dirty.getD i 0) (keepAt keep i)
def Dk.boot (m : Dk) (keep : List Int) : Dk × Int := if m.off then ({ m.bootI keep m.dirty.length with off := false, left := 0 }, 0) else (m, 7)
/-- each text is a sector; what is dirty was written, and is a sector's number -/
structure Dk.Ok (m : Dk) : Prop where
  full : m.Full
  dom : m.Dom
  has : ∀ k, (m.was k).isSome = true → (m.now k).isSome = true
theorem keepAt_le (keep : List Int) (i : Nat) : keepAt keep i ≤ 128 := by unfold keepAt; split <;> omega
theorem dirty_len {m : Dk} (S : m.Small) : m.dirty.length ≤ 1024 := by
  have := S.n
  have h := List.length_filter_le (fun k : Nat => (m.was (k : Int)).isSome) (List.range m.n)
  simp [Dk.dirty] at h ⊢
  omega
theorem bootI_cells (m : Dk) (keep : List Int) (bn bw : Nat) : ∀ i, (m.bootI keep i).cells bn bw = m.cells bn bw
  | 0 => rfl
  | i + 1 => (show (m.bootI keep (i + 1)).cells bn bw = (m.bootI keep i).cells bn bw from rfl).trans (bootI_cells m keep bn bw i)
theorem bootI_n (m : Dk) (keep : List Int) : ∀ i, (m.bootI keep i).n = m.n ∧ (m.bootI keep i).ops = m.ops ∧ (m.bootI keep i).cw = m.cw ∧ (m.bootI keep i).cn = m.cn + i
  | 0 => ⟨rfl, rfl, rfl, rfl⟩
  | i + 1 => by
    obtain ⟨h1, h2, h3, h4⟩ := bootI_n m keep i
    exact ⟨h1, h2, h3, by show (m.bootI keep i).cn + 1 = _; omega⟩
theorem bootI_was (m : Dk) (keep : List Int) : ∀ i, i ≤ m.dirty.length → ∀ k, (m.bootI keep i).was k = if k ∈ m.dirty.take i then none else m.was k
  | 0, _, k => by simp [Dk.bootI]
  | i + 1, h, k => by
    have hi : i < m.dirty.length := by omega
    show upd (m.bootI keep i).was (m.dirty.getD i 0) none k = _
    rw [List.take_succ_eq_append_getElem hi]
    have e : m.dirty.getD i 0 = m.dirty[i] := by simp [hi]
    rw [e]
    by_cases hk : k = m.dirty[i]
    · rw [hk, upd_same, if_pos (List.mem_append_right _ (List.mem_singleton.2 rfl))]
    · rw [upd_other _ _ hk, bootI_was m keep i (by omega) k]
      simp only [List.mem_append, List.mem_singleton, hk, or_false]
theorem not_before (m : Dk) {i : Nat} (hi : i < m.dirty.length) : ¬ m.dirty[i] ∈ m.dirty.take i := fun hm => by
  rw [List.mem_take_iff_getElem] at hm
  obtain ⟨j, hj, e⟩ := hm
  have hj' : j < i := by omega
  have := List.pairwise_iff_getElem.1 (dirty_rising m) j i (by omega) hi hj'
  omega
theorem Dk.Ok.boot1 {m : Dk} (h : m.Ok) {k : Int} (hk : (m.was k).isSome = true) {n : Nat} (hn : n ≤ 128) : (m.boot1 k n).Ok := by
  obtain ⟨t, ht⟩ := Option.isSome_iff_exists.1 hk
  obtain ⟨s, hs⟩ := Option.isSome_iff_exists.1 (h.has k hk)
  have h1 := h.full.1 k s hs
  have h2 := h.full.2 k t ht
  refine ⟨⟨fun j u hu => ?_, fun j u hu => ?_⟩, fun j hj => ?_, fun j hj => ?_⟩
  · by_cases e : j = k
    · subst e
      replace hu : upd m.now j _ j = some u := hu
      rw [upd_same, hs, ht] at hu
      simp only [Option.some.injEq, Option.getD_some] at hu
      rw [← hu]
      simp [h1, h2]; omega
    · replace hu : upd m.now k _ j = some u := hu
      rw [upd_other _ _ e] at hu
      exact h.full.1 j u hu
  · by_cases e : j = k
    · subst e
      replace hu : upd m.was j none j = some u := hu
      rw [upd_same] at hu; cases hu
    · replace hu : upd m.was k none j = some u := hu
      rw [upd_other _ _ e] at hu
      exact h.full.2 j u hu
  · by_cases e : j = k
    · subst e
      replace hj : (upd m.was j none j).isSome = true := hj
      rw [upd_same] at hj; cases hj
    · replace hj : (upd m.was k none j).isSome = true := hj
      rw [upd_other _ _ e] at hj
      exact h.dom j hj
  · show (upd m.now k _ j).isSome = true
    by_cases e : j = k
    · subst e; rw [upd_same]; rfl
    · replace hj : (upd m.was k none j).isSome = true := hj
      rw [upd_other _ _ e] at hj ⊢
      exact h.has j hj
theorem bootI_ok {m : Dk} (h : m.Ok) (keep : List Int) : ∀ i, i ≤ m.dirty.length → (m.bootI keep i).Ok
  | 0, _ => h
  | i + 1, hi => by
    refine (bootI_ok h keep i (by omega)).boot1 ?_ (keepAt_le keep i)
    have hl : i < m.dirty.length := by omega
    have e : m.dirty.getD i 0 = m.dirty[i] := by simp [hl]
    rw [e, bootI_was m keep i (by omega), if_neg]
    · exact (mem_dirty h.dom _).1 (List.getElem_mem hl)
    · intro hm
      exact not_before m (by omega) hm
theorem bootI_at {m : Dk} (h : m.Ok) (keep : List Int) {i : Nat} (hi : i < m.dirty.length) : ∃ s t, (m.bootI keep i).now m.dirty[i] = some s ∧ (m.bootI keep i).was m.dirty[i] = some t ∧ s.length = 128 ∧ t.length = 128 := by
  have ho := bootI_ok h keep i (by omega)
  have hw : ((m.bootI keep i).was m.dirty[i]).isSome = true := by
    rw [bootI_was m keep i (by omega), if_neg]
    · exact (mem_dirty h.dom _).1 (List.getElem_mem hi)
    · intro hm
      exact not_before m (by omega) hm
  obtain ⟨t, ht⟩ := Option.isSome_iff_exists.1 hw
  obtain ⟨s, hs⟩ := Option.isSome_iff_exists.1 (ho.has _ hw)
  exact ⟨s, t, hs, ht, ho.full.1 _ s hs, ho.full.2 _ t ht⟩
theorem boot1_is {m : Dk} {k : Int} {s t : List UInt8} (hs : m.now k = some s) (ht : m.was k = some t) (n : Nat) : m.boot1 k n = { m with now := upd m.now k (some (s.take n ++ t.drop n)), was := upd m.was k none, cn := m.cn + 1 } := by
  unfold Dk.boot1; rw [hs, ht]; rfl
theorem dirty_i64 {m : Dk} (S : m.Small) (h : m.Dom) {k : Int} (hk : k ∈ m.dirty) : I64 k := by
  have := h k ((mem_dirty h k).1 hk)
  have := S.n
  exact WalkArith.wf_i64 (by omega)
end Go.Proofs.Ytobflkddkplpiaa
