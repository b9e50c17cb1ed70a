/- a Boot: what each sector is (of DiskKept's plain laws). -/
import Derived.Test.YtnlppcjfpmnahaaGreatDoorLgDk
namespace Go.Proofs.YtnlppcjfpmnahaaGreatDoor
set_option linter.all false
open Go.RowKit Go.Maps

theorem bootI_now {m : Dk} (h : m.Ok) (keep : List Int) : ∀ i, i ≤ m.dirty.length → ∀ k : Int, (k ∉ m.dirty.take i → (m.bootI keep i).now k = m.now k) ∧
    (k ∈ m.dirty.take i → ∃ n s t, m.now k = some s ∧ m.was k = some t ∧ (m.bootI keep i).now k = some (s.take n ++ t.drop n))
  | 0, _, k => by simp [Dk.bootI]
  | i + 1, hi, k => by
    have hl : i < m.dirty.length := by omega
    obtain ⟨p1, p2⟩ := bootI_now h keep i (by omega) k
    have e : m.dirty.getD i 0 = m.dirty[i] := by simp [hl]
    have eq : (m.bootI keep (i + 1)).now k = upd (m.bootI keep i).now m.dirty[i] (some ((((m.bootI keep i).now m.dirty[i]).getD []).take (keepAt keep i) ++ (((m.bootI keep i).was m.dirty[i]).getD []).drop (keepAt keep i))) k := by rw [← e]; rfl
    rw [List.take_succ_eq_append_getElem hl]
    by_cases hk : k = m.dirty[i]
    · subst hk
      refine ⟨fun hn => absurd (List.mem_append_right _ (List.mem_singleton.2 rfl)) hn, fun _ => ?_⟩
      obtain ⟨s, t, hs, ht, _⟩ := bootI_at h keep hl
      have nb := not_before m hl
      refine ⟨keepAt keep i, s, t, ?_, ?_, ?_⟩
      · rw [← (bootI_now h keep i (by omega) _).1 nb]; exact hs
      · rw [bootI_was m keep i (by omega), if_neg nb] at ht; exact ht
      · rw [eq, upd_same, hs, ht]; rfl
    · rw [eq, upd_other _ _ hk]
      refine ⟨fun hn => p1 (fun hm => hn (List.mem_append_left _ hm)), fun hm => p2 ?_⟩
      rcases List.mem_append.1 hm with hm | hm
      · exact hm
      · exact absurd (List.mem_singleton.1 hm) hk
theorem boot_n (m : Dk) (keep : List Int) : (m.boot keep).1.n = m.n := by
  unfold Dk.boot
  split
  · exact (bootI_n m keep _).1
  · rfl
theorem boot_was {m : Dk} (h : m.Ok) (ho : m.off = true) (keep : List Int) (k : Int) : (m.boot keep).1.was k = none := by
  have e : (m.boot keep).1.was k = (m.bootI keep m.dirty.length).was k := by unfold Dk.boot; rw [if_pos ho]
  rw [e, bootI_was m keep _ (Nat.le_refl _), List.take_length]
  split
  · rfl
  · rename_i hn
    cases hw : m.was k with
    | none => rfl
    | some t => exact absurd ((mem_dirty h.dom k).2 (by rw [hw]; rfl)) hn
theorem boot_get {m : Dk} (ho : m.off = true) (keep : List Int) (k : Int) : (m.boot keep).1.get k = ((m.bootI keep m.dirty.length).now k).getD zeros := by
  unfold Dk.boot; rw [if_pos ho]; rfl
end Go.Proofs.YtnlppcjfpmnahaaGreatDoor
