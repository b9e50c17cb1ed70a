/- disk, plain: Dirty, Boot, what fits; printed by wip/lgsplit.py. -/
import Derived.Test.YtnlppcjfpmnahaaGreatDoorDiskC
namespace Go.Proofs.YtnlppcjfpmnahaaGreatDoor
set_option linter.all false
open Go.RowKit Go.Maps

/-- the dirty sectors -/
def Dk.dirty (m : Dk) : List Int := ((List.range m.n).filter fun k : Nat => (m.was (k : Int)).isSome).map fun k : Nat => (k : Int)
/-- what is dirty is a sector -/
def Dk.Dom (m : Dk) : Prop := ∀ k : Int, (m.was k).isSome = true → 0 ≤ k ∧ k < m.n
theorem mem_dirty {m : Dk} (h : m.Dom) (k : Int) : k ∈ m.dirty ↔ (m.was k).isSome = true := by
  simp only [Dk.dirty, List.mem_map, List.mem_filter, List.mem_range]
  constructor
  · rintro ⟨j, ⟨_, hj⟩, rfl⟩; exact hj
  · intro hk
    have := h k hk
    exact ⟨k.toNat, ⟨by omega, by rw [Int.toNat_of_nonneg this.1]; exact hk⟩, by omega⟩
theorem dirty_rising (m : Dk) : m.dirty.Pairwise (· < ·) := by
  unfold Dk.dirty
  rw [List.pairwise_map]
  refine List.Pairwise.imp (fun h => by omega) ((List.pairwise_lt_range (n := m.n)).filter _)
theorem rising_nodup {l : List Int} (h : l.Pairwise (· < ·)) : l.Nodup := h.imp (fun h => by omega)
def keepAt (keep : List Int) (i : Nat) : Nat := if i < keep.length then (max 0 (min (keep.getD i 0) 128)).toNat else 0
def Dk.boot1 (m : Dk) (k : Int) (n : Nat) : Dk := { m with now := upd m.now k (some (((m.now k).getD []).take n ++ ((m.was k).getD []).drop n)), was := upd m.was k none, cn := m.cn + 1 }
/-- behind i rounds -/
def Dk.bootI (m : Dk) (keep : List Int) : Nat → Dk
  | 0 => m
  | i + 1 => (m.bootI keep i).boot1 (m.dirty.getD i 0) (keepAt keep i)
def Dk.boot (m : Dk) (keep : List Int) : Dk × Int := if m.off then ({ m.bootI keep m.dirty.length with off := false, left := 0 }, 0) else (m, 7)
/-- each text is a sector; what is dirty was written, and is a sector's number -/
structure Dk.Ok (m : Dk) : Prop where
  full : m.Full
  dom : m.Dom
  has : ∀ k, (m.was k).isSome = true → (m.now k).isSome = true
theorem keepAt_le (keep : List Int) (i : Nat) : keepAt keep i ≤ 128 := by unfold keepAt; split <;> omega
theorem dirty_len {m : Dk} (S : m.Small) : m.dirty.length ≤ 1024 := by
  have := S.n
  have h := List.length_filter_le (fun k : Nat => (m.was (k : Int)).isSome) (List.range m.n)
  simp [Dk.dirty] at h ⊢
  omega
theorem bootI_cells (m : Dk) (keep : List Int) (bn bw : Nat) : ∀ i, (m.bootI keep i).cells bn bw = m.cells bn bw
  | 0 => rfl
  | i + 1 => (show (m.bootI keep (i + 1)).cells bn bw = (m.bootI keep i).cells bn bw from rfl).trans (bootI_cells m keep bn bw i)
theorem bootI_n (m : Dk) (keep : List Int) : ∀ i, (m.bootI keep i).n = m.n ∧ (m.bootI keep i).ops = m.ops ∧ (m.bootI keep i).cw = m.cw ∧ (m.bootI keep i).cn = m.cn + i
  | 0 => ⟨rfl, rfl, rfl, rfl⟩
  | i + 1 => by
    obtain ⟨h1, h2, h3, h4⟩ := bootI_n m keep i
    exact ⟨h1, h2, h3, by show (m.bootI keep i).cn + 1 = _; omega⟩
theorem bootI_was (m : Dk) (keep : List Int) : ∀ i, i ≤ m.dirty.length → ∀ k, (m.bootI keep i).was k = if k ∈ m.dirty.take i then none else m.was k
  | 0, _, k => by simp [Dk.bootI]
  | i + 1, h, k => by
    have hi : i < m.dirty.length := by omega
    show upd (m.bootI keep i).was (m.dirty.getD i 0) none k = _
    rw [List.take_succ_eq_append_getElem hi]
    have e : m.dirty.getD i 0 = m.dirty[i] := by simp [hi]
    rw [e]
    by_cases hk : k = m.dirty[i]
    · rw [hk, upd_same, if_pos (List.mem_append_right _ (List.mem_singleton.2 rfl))]
    · rw [upd_other _ _ hk, bootI_was m keep i (by omega) k]
      simp only [List.mem_append, List.mem_singleton, hk, or_false]
theorem not_before (m : Dk) {i : Nat} (hi : i < m.dirty.length) : ¬ m.dirty[i] ∈ m.dirty.take i := fun hm => by
  rw [List.mem_take_iff_getElem] at hm
  obtain ⟨j, hj, e⟩ := hm
  have hj' : j < i := by omega
  have := List.pairwise_iff_getElem.1 (dirty_rising m) j i (by omega) hi hj'
  omega
theorem Dk.Ok.boot1 {m : Dk} (h : m.Ok) {k : Int} (hk : (m.was k).isSome = true) {n : Nat} (hn : n ≤ 128) : (m.boot1 k n).Ok := by
  obtain ⟨t, ht⟩ := Option.isSome_iff_exists.1 hk
  obtain ⟨s, hs⟩ := Option.isSome_iff_exists.1 (h.has k hk)
  have h1 := h.full.1 k s hs
  have h2 := h.full.2 k t ht
  refine ⟨⟨fun j u hu => ?_, fun j u hu => ?_⟩, fun j hj => ?_, fun j hj => ?_⟩
  · by_cases e : j = k
    · subst e
      replace hu : upd m.now j _ j = some u := hu
      rw [upd_same, hs, ht] at hu
      simp only [Option.some.injEq, Option.getD_some] at hu
      rw [← hu]
      simp [h1, h2]; omega
    · replace hu : upd m.now k _ j = some u := hu
      rw [upd_other _ _ e] at hu
      exact h.full.1 j u hu
  · by_cases e : j = k
    · subst e
      replace hu : upd m.was j none j = some u := hu
      rw [upd_same] at hu; cases hu
    · replace hu : upd m.was k none j = some u := hu
      rw [upd_other _ _ e] at hu
      exact h.full.2 j u hu
  · by_cases e : j = k
    · subst e
      replace hj : (upd m.was j none j).isSome = true := hj
      rw [upd_same] at hj; cases hj
    · replace hj : (upd m.was k none j).isSome = true := hj
      rw [upd_other _ _ e] at hj
      exact h.dom j hj
  · show (upd m.now k _ j).isSome = true
    by_cases e : j = k
    · subst e; rw [upd_same]; rfl
    · replace hj : (upd m.was k none j).isSome = true := hj
      rw [upd_other _ _ e] at hj ⊢
      exact h.has j hj
theorem bootI_ok {m : Dk} (h : m.Ok) (keep : List Int) : ∀ i, i ≤ m.dirty.length → (m.bootI keep i).Ok
  | 0, _ => h
  | i + 1, hi => by
    refine (bootI_ok h keep i (by omega)).boot1 ?_ (keepAt_le keep i)
    have hl : i < m.dirty.length := by omega
    have e : m.dirty.getD i 0 = m.dirty[i] := by simp [hl]
    rw [e, bootI_was m keep i (by omega), if_neg]
    · exact (mem_dirty h.dom _).1 (List.getElem_mem hl)
    · intro hm
      exact not_before m (by omega) hm
theorem bootI_at {m : Dk} (h : m.Ok) (keep : List Int) {i : Nat} (hi : i < m.dirty.length) : ∃ s t, (m.bootI keep i).now m.dirty[i] = some s ∧ (m.bootI keep i).was m.dirty[i] = some t ∧ s.length = 128 ∧ t.length = 128 := by
  have ho := bootI_ok h keep i (by omega)
  have hw : ((m.bootI keep i).was m.dirty[i]).isSome = true := by
    rw [bootI_was m keep i (by omega), if_neg]
    · exact (mem_dirty h.dom _).1 (List.getElem_mem hi)
    · intro hm
      exact not_before m (by omega) hm
  obtain ⟨t, ht⟩ := Option.isSome_iff_exists.1 hw
  obtain ⟨s, hs⟩ := Option.isSome_iff_exists.1 (ho.has _ hw)
  exact ⟨s, t, hs, ht, ho.full.1 _ s hs, ho.full.2 _ t ht⟩
theorem boot1_is {m : Dk} {k : Int} {s t : List UInt8} (hs : m.now k = some s) (ht : m.was k = some t) (n : Nat) : m.boot1 k n = { m with now := upd m.now k (some (s.take n ++ t.drop n)), was := upd m.was k none, cn := m.cn + 1 } := by
  unfold Dk.boot1; rw [hs, ht]; rfl
theorem dirty_i64 {m : Dk} (S : m.Small) (h : m.Dom) {k : Int} (hk : k ∈ m.dirty) : I64 k := by
  have := h k ((mem_dirty h k).1 hk)
  have := S.n
  exact WalkArith.wf_i64 (by omega)
structure Dk.Fit (m : Dk) (c : Nat) : Prop where
  n : m.n ≤ 1024
  ops : m.ops ≤ c
  cw : m.cw ≤ c
  cn : m.cn ≤ 1025 * c
  left : m.left ≤ 9223372036854775807
  ok : m.Ok
theorem Dk.Fit.small {m : Dk} {c : Nat} (h : m.Fit c) (hc : c ≤ 9000) : m.Small := ⟨h.n, by have := h.ops; omega, h.left, by have := h.cn; omega, by have := h.cw; omega⟩
theorem Dk.Fit.mono {m : Dk} {c d : Nat} (h : m.Fit c) (hd : c ≤ d) : m.Fit d := ⟨h.n, by have := h.ops; omega, by have := h.cw; omega, by have := h.cn; omega, h.left, h.ok⟩
theorem Fit.new {n : Nat} (hn : n ≤ 1024) : (Dk.new n).Fit 0 :=
  ⟨hn, Nat.zero_le _, Nat.zero_le _, Nat.zero_le _, Nat.zero_le _, ⟨⟨(fun _ _ h => by cases h), (fun _ _ h => by cases h)⟩, (fun _ h => by cases h), (fun _ h => by cases h)⟩⟩
theorem Dk.Fit.did {m : Dk} {c : Nat} (h : m.Fit c) : m.did.Fit (c + 1) :=
  ⟨h.n, by show m.ops + 1 ≤ _; have := h.ops; omega, by show m.cw ≤ _; have := h.cw; omega, by show m.cn ≤ _; have := h.cn; omega, by show m.left - 1 ≤ _; have := h.left; omega, ⟨h.ok.full, h.ok.dom, h.ok.has⟩⟩
theorem Ok.put {m : Dk} (h : m.Ok) {k : Int} (hk : 0 ≤ k ∧ k < m.n) {s : List UInt8} (hs : s.length = 128) : (m.put k s).Ok := by
  have hw : ∀ j, (m.put k s).was j = if j = k ∧ (m.was k).isSome = false then some (m.get k) else m.was j := by
    intro j
    show (if (m.was k).isSome = true then m.was else upd m.was k (some (m.get k))) j = _
    cases hb : (m.was k).isSome
    · by_cases e : j = k
      · subst e; simp [upd]
      · simp [upd, e]
    · simp
  have hn : ∀ j, (m.put k s).now j = if j = k then some s else m.now j := fun j => rfl
  refine ⟨⟨fun j u hu => ?_, fun j u hu => ?_⟩, fun j hj => ?_, fun j hj => ?_⟩
  · rw [hn] at hu
    split at hu
    · simp only [Option.some.injEq] at hu; rw [← hu]; exact hs
    · exact h.full.1 j u hu
  · rw [hw] at hu
    split at hu
    · simp only [Option.some.injEq] at hu; rw [← hu]; exact h.full.get k
    · exact h.full.2 j u hu
  · rw [hw] at hj
    split at hj
    · rename_i e; rw [e.1]; exact hk
    · exact h.dom j hj
  · rw [hn]
    split
    · rfl
    · rename_i e
      rw [hw, if_neg (fun x => e x.1)] at hj
      exact h.has j hj
theorem Dk.Fit.write {m : Dk} {c : Nat} (h : m.Fit c) (k : Int) (s : List UInt8) : (m.write k s).1.Fit (c + 1) := by
  unfold Dk.write
  split
  · exact h.mono (by omega)
  · split
    · exact h.mono (by omega)
    · rename_i h2
      have h3 : 0 ≤ k ∧ k < m.n ∧ s.length = 128 := by omega
      have hp := Ok.put h.ok ⟨h3.1, h3.2.1⟩ h3.2.2
      have o : m.ops + 1 ≤ c + 1 := by have := h.ops; omega
      have cw : (m.put k s).cw ≤ c + 1 := by
        have := h.cw
        show (if (m.was k).isSome = true then m.cw else m.cw + 1) ≤ _
        split <;> omega
      have cn : m.cn + 1 ≤ 1025 * (c + 1) := by have := h.cn; omega
      exact ⟨h.n, o, cw, cn, by show m.left - 1 ≤ _; have := h.left; omega, ⟨hp.full, hp.dom, hp.has⟩⟩
theorem Dk.Fit.sync {m : Dk} {c : Nat} (h : m.Fit c) : m.sync.1.Fit (c + 1) := by
  unfold Dk.sync
  split
  · exact h.mono (by omega)
  · exact Dk.Fit.did (m := { m with was := fun _ => none }) ⟨h.n, h.ops, h.cw, h.cn, h.left, ⟨⟨h.ok.full.1, (fun _ _ e => by cases e)⟩, (fun _ e => by cases e), (fun _ e => by cases e)⟩⟩
theorem Dk.Fit.fail {m : Dk} {c : Nat} (h : m.Fit c) {k : Int} (hk : k ≤ 9223372036854775807) : (m.fail k).Fit c :=
  ⟨h.n, h.ops, h.cw, h.cn, by show k.toNat ≤ _; omega, ⟨h.ok.full, h.ok.dom, h.ok.has⟩⟩
theorem Dk.Fit.boot {m : Dk} {c : Nat} (h : m.Fit c) (keep : List Int) : (m.boot keep).1.Fit (c + 1) := by
  unfold Dk.boot
  split
  · have hb := bootI_n m keep m.dirty.length
    have ho := bootI_ok h.ok keep m.dirty.length (Nat.le_refl _)
    have hd : m.dirty.length ≤ 1024 := by
      have := h.n
      have h2 := List.length_filter_le (fun k : Nat => (m.was (k : Int)).isSome) (List.range m.n)
      simp [Dk.dirty] at h2 ⊢
      omega
    refine ⟨by show (m.bootI keep m.dirty.length).n ≤ _; rw [hb.1]; exact h.n, by show (m.bootI keep m.dirty.length).ops ≤ _; rw [hb.2.1]; have := h.ops; omega, by show (m.bootI keep m.dirty.length).cw ≤ _; rw [hb.2.2.1]; have := h.cw; omega, ?_, Nat.zero_le _, ⟨ho.full, ho.dom, ho.has⟩⟩
    show (m.bootI keep m.dirty.length).cn ≤ _
    rw [hb.2.2.2]
    have := h.cn
    omega
  · exact h.mono (by omega)
section
variable {w0 w : World} {L : List Piece} {p : Value} {m : Dk} {c : Nat}
theorem write_fit (O : Own w0 w (dk p m :: L)) (h : m.Fit c) (hc : c ≤ 9000) (k : Int) (hk : I64 k) (s : List UInt8) (hs : s.length ≤ 1000000) {m' : Dk} {er : Int} (hr : m.write k s = (m', er)) :
    Calls Tryz.prog 34 #[p, .int .i64 k, .string ⟨s.toArray⟩] w fun e w' => e = .returned (.int .i64 er) ∧ Own w0 w' (dk p m' :: L) := by
  have := write_own O (h.small hc) h.ok.full (by have := h.cn; omega) (by have := h.cw; omega) k hk s hs
  rw [hr] at this
  exact this
theorem sync_fit (O : Own w0 w (dk p m :: L)) (h : m.Fit c) (hc : c ≤ 9000) {m' : Dk} {er : Int} (hr : m.sync = (m', er)) :
    Calls Tryz.prog 11 #[p] w fun e w' => e = .returned (.int .i64 er) ∧ Own w0 w' (dk p m' :: L) := by
  have := sync_own O (h.small hc)
  rw [hr] at this
  exact this
end
end Go.Proofs.YtnlppcjfpmnahaaGreatDoor
