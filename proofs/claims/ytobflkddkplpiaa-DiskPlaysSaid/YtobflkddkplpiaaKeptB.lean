/- DiskKept: the plain laws. -/
import Derived.Test.YtobflkddkplpiaaKeptA
namespace Go.Proofs.Ytobflkddkplpiaa
set_option linter.all false
open Go.RowKit Go.Maps

theorem nowL_at {m : Dk} {k : Nat} (h : k < m.n) : m.nowL[k]? = some (m.get k) := by simp [Dk.nowL, h]
theorem wasL_at {m : Dk} {k : Nat} (h : k < m.n) : m.wasL[k]? = some ((m.was k).getD (m.get k)) := by simp [Dk.wasL, h]
theorem nowL_len (m : Dk) : m.nowL.length = m.n := by simp [Dk.nowL]
theorem wasL_len (m : Dk) : m.wasL.length = m.n := by simp [Dk.wasL]
theorem list_by {m : Nat} {a b : List (List UInt8)} (ha : a.length = m) (hb : b.length = m) (h : ∀ k, k < m → a[k]? = b[k]?) : a = b := by
  apply List.ext_getElem?
  intro k
  by_cases hk : k < m
  · exact h k hk
  · rw [List.getElem?_eq_none (by omega), List.getElem?_eq_none (by omega)]
theorem new_nowL (n : Nat) : (Dk.new n).nowL = List.replicate n zeros := by
  refine list_by (nowL_len _) (by simp; rfl) (fun k hk => ?_)
  rw [nowL_at hk]
  have : k < n := hk
  simp [this]; rfl
theorem new_wasL (n : Nat) : (Dk.new n).wasL = List.replicate n zeros := by
  refine list_by (wasL_len _) (by simp; rfl) (fun k hk => ?_)
  rw [wasL_at hk]
  have : k < n := hk
  simp [this]; rfl
theorem put_nowL {m : Dk} {k : Nat} (hk : k < m.n) (s : List UInt8) : (m.put k s).did.nowL = m.nowL.set k s := by
  refine list_by (m := m.n) (nowL_len _) (by simp [nowL_len]) (fun j hj => ?_)
  rw [nowL_at (m := (m.put k s).did) hj, List.getElem?_set]
  have e : (m.put k s).did.get (j : Int) = ((upd m.now k (some s)) (j : Int)).getD zeros := rfl
  rw [e]
  by_cases h : k = j
  · subst h
    rw [upd_same, if_pos rfl, if_pos (by rw [nowL_len]; exact hk)]
    rfl
  · rw [if_neg h, upd_other _ _ (by omega), nowL_at hj]; rfl
theorem put_wasL {m : Dk} {k : Nat} (hk : k < m.n) (s : List UInt8) : (m.put k s).did.wasL = m.wasL := by
  refine list_by (m := m.n) (wasL_len _) (wasL_len _) (fun j hj => ?_)
  rw [wasL_at (m := (m.put k s).did) hj, wasL_at hj]
  have e : (m.put k s).did.get (j : Int) = ((upd m.now k (some s)) (j : Int)).getD zeros := rfl
  have e2 : (m.put k s).did.was = if (m.was k).isSome then m.was else upd m.was k (some (m.get k)) := rfl
  rw [e, e2]
  by_cases h : k = j
  · subst h
    cases hw : m.was (k : Int) with
    | some t => simp [hw]
    | none => simp [hw, upd_same]
  · rw [upd_other m.now _ (show (j : Int) ≠ (k : Int) by omega)]
    cases hw : m.was (k : Int) with
    | some t => simp; rfl
    | none => simp only [Option.isSome_none]; rw [if_neg (by simp), upd_other _ _ (show (j : Int) ≠ (k : Int) by omega)]; rfl
theorem sync_nowL (m : Dk) : ({ m with was := fun _ => none } : Dk).did.nowL = m.nowL := rfl
theorem sync_wasL (m : Dk) : ({ m with was := fun _ => none } : Dk).did.wasL = m.nowL := by
  refine list_by (m := m.n) (wasL_len _) (nowL_len _) (fun j hj => ?_)
  rw [wasL_at (m := ({ m with was := fun _ => none } : Dk).did) hj, nowL_at hj]; rfl
theorem bootI_now {m : Dk} (h : m.Ok) (keep : List Int) : ∀ i, i ≤ m.dirty.length → ∀ k : Int, (k ∉ m.dirty.take i → (m.bootI keep i).now k = m.now k) ∧
    (k ∈ m.dirty.take i → ∃ n s t, m.now k = some s ∧ m.was k = some t ∧ (m.bootI keep i).now k = some (s.take n ++ t.drop n))
  | 0, _, k => by simp [Dk.bootI]
  | i + 1, hi, k => by
    have hl : i < m.dirty.length := by omega
    obtain ⟨p1, p2⟩ := bootI_now h keep i (by omega) k
    have e : m.dirty.getD i 0 = m.dirty[i] := by simp [hl]
    have eq : (m.bootI keep (i + 1)).now k = upd (m.bootI keep i).now m.dirty[i] (some ((((m.bootI keep i).now m.dirty[i]).getD []).take (keepAt keep i) ++ (((m.bootI keep i).was m.dirty[i]).getD []).drop (keepAt keep i))) k := by rw [← e]; rfl
    rw [List.take_succ_eq_append_getElem hl]
    by_cases hk : k = m.dirty[i]
    · subst hk
      refine ⟨fun hn => absurd (List.mem_append_right _ (List.mem_singleton.2 rfl)) hn, fun _ => ?_⟩
      obtain ⟨s, t, hs, ht, _⟩ := bootI_at h keep hl
      have nb := not_before m hl
      refine ⟨keepAt keep i, s, t, ?_, ?_, ?_⟩
      · rw [← (bootI_now h keep i (by omega) _).1 nb]; exact hs
      · rw [bootI_was m keep i (by omega), if_neg nb] at ht; exact ht
      · rw [eq, upd_same, hs, ht]; rfl
    · rw [eq, upd_other _ _ hk]
      refine ⟨fun hn => p1 (fun hm => hn (List.mem_append_left _ hm)), fun hm => p2 ?_⟩
      rcases List.mem_append.1 hm with hm | hm
      · exact hm
      · exact absurd (List.mem_singleton.1 hm) hk
theorem boot_n (m : Dk) (keep : List Int) : (m.boot keep).1.n = m.n := by
  unfold Dk.boot
  split
  · exact (bootI_n m keep _).1
  · rfl
theorem boot_was {m : Dk} (h : m.Ok) (ho : m.off = true) (keep : List Int) (k : Int) : (m.boot keep).1.was k = none := by
  have e : (m.boot keep).1.was k = (m.bootI keep m.dirty.length).was k := by unfold Dk.boot; rw [if_pos ho]
  rw [e, bootI_was m keep _ (Nat.le_refl _), List.take_length]
  split
  · rfl
  · rename_i hn
    cases hw : m.was k with
    | none => rfl
    | some t => exact absurd ((mem_dirty h.dom k).2 (by rw [hw]; rfl)) hn
theorem boot_get {m : Dk} (ho : m.off = true) (keep : List Int) (k : Int) : (m.boot keep).1.get k = ((m.bootI keep m.dirty.length).now k).getD zeros := by
  unfold Dk.boot; rw [if_pos ho]; rfl
theorem boot_wasL {m : Dk} (h : m.Ok) (ho : m.off = true) (keep : List Int) : (m.boot keep).1.wasL = (m.boot keep).1.nowL := by
  refine list_by (wasL_len _) (nowL_len _) (fun k hk => ?_)
  rw [wasL_at hk, nowL_at hk, boot_was h ho]; rfl
theorem kept_boot {m : Dk} (h : m.Ok) (ho : m.off = true) (keep : List Int) : KeptOk (m.boot keep).1 m.dirty m.wasL m.nowL := by
  intro k hk
  rw [boot_n] at hk
  rw [boot_get ho]
  obtain ⟨p1, p2⟩ := bootI_now h keep m.dirty.length (Nat.le_refl _) (k : Int)
  rw [List.take_length] at p1 p2
  have hg : (m.get (k : Int)).length = 128 := Dk.Full.get h.full _
  have hw : ((m.was (k : Int)).getD (m.get k)).length = 128 := by
    cases hw : m.was (k : Int) with
    | none => exact hg
    | some t => exact h.full.2 _ _ hw
  refine ⟨?_, _, _, wasL_at hk, nowL_at hk, hw, hg, fun i hi => ?_⟩
  · by_cases hd : (k : Int) ∈ m.dirty
    · obtain ⟨n, s, t, hs, ht, e⟩ := p2 hd
      rw [e]
      have h1 := h.full.1 _ _ hs
      have h2 := h.full.2 _ _ ht
      simp [h1, h2]; omega
    · rw [p1 hd]; exact hg
  · by_cases hd : (k : Int) ∈ m.dirty
    · obtain ⟨n, s, t, hs, ht, e⟩ := p2 hd
      have h1 := h.full.1 _ _ hs
      have h2 := h.full.2 _ _ ht
      have eg : m.get (k : Int) = s := by unfold Dk.get; rw [hs]; rfl
      rw [e, ht, eg]
      simp only [Option.getD_some]
      by_cases hin : i < n
      · right
        refine ⟨hd, ?_⟩
        rw [List.getElem?_append_left (by simp; omega), List.getElem?_take_of_lt hin]
      · left
        rw [List.getElem?_append_right (by simp; omega), List.getElem?_drop]
        congr 1
        simp; omega
    · left
      rw [p1 hd]
      have hw0 : m.was (k : Int) = none := by
        cases hw0 : m.was (k : Int) with
        | none => rfl
        | some t => exact absurd ((mem_dirty h.dom _).2 (by rw [hw0]; rfl)) hd
      rw [hw0]; rfl
theorem mix_set {A B : List (List UInt8)} {q : Nat} (ha : q < A.length) (hb : q < B.length) {x : List UInt8} (hx : A[q]? = some x) : (A.take q ++ B.drop q).set q x = A.take (q + 1) ++ B.drop (q + 1) := by
  apply List.ext_getElem?
  intro i
  rw [List.getElem?_set]
  by_cases h : q = i
  · subst h
    rw [if_pos rfl, if_pos (by simp; omega), List.getElem?_append_left (by simp; omega), List.getElem?_take_of_lt (by omega), hx]
  · rw [if_neg h]
    by_cases hi : i < q
    · rw [List.getElem?_append_left (by simp; omega), List.getElem?_append_left (by simp; omega), List.getElem?_take_of_lt hi, List.getElem?_take_of_lt (by omega)]
    · rw [List.getElem?_append_right (by simp; omega), List.getElem?_append_right (by simp; omega), List.getElem?_drop, List.getElem?_drop]
      congr 1
      simp
      omega
theorem mix_zero (A B : List (List UInt8)) : A.take 0 ++ B.drop 0 = B := by simp
theorem mix_end {A B : List (List UInt8)} (h : B.length = A.length) : A.take A.length ++ B.drop A.length = A := by simp [h]
theorem dirty_in (m : Dk) : ∀ d ∈ m.dirty, 0 ≤ d ∧ d < m.n := by
  intro d hd
  simp [Dk.dirty] at hd
  obtain ⟨a, ⟨h1, _⟩, rfl⟩ := hd
  omega
end Go.Proofs.Ytobflkddkplpiaa
