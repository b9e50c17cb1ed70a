/- name: Fold (as in the name layer's text). -/
import Derived.Test.YtehkdbgoeakgbaaDoorNameC
import Derived.Test.YtehkdbgoeakgbaaDoorBytes
namespace Go.Proofs.YtehkdbgoeakgbaaDoor
set_option linter.all false
open Go.RowKit Go.Shelf

def low (c : UInt8) : UInt8 := if 65 ≤ c.toNat ∧ c.toNat ≤ 90 then UInt8.ofNat (c.toNat + 32) else c
theorem low_toNat (c : UInt8) : (low c).toNat = if 65 ≤ c.toNat ∧ c.toNat ≤ 90 then c.toNat + 32 else c.toNat := by
  unfold low; split
  · simp; omega
  · rfl
def foldTo (l : List UInt8) (k : Nat) : List UInt8 := (l.take k).map low ++ l.drop k
theorem foldTo_len (l : List UInt8) (k : Nat) : (foldTo l k).length = l.length := by simp [foldTo]; omega
theorem foldTo_get (l : List UInt8) (k j : Nat) (h : j < l.length) : (foldTo l k)[j]'(by rw [foldTo_len]; exact h) = if j < k then low l[j] else l[j] := by
  unfold foldTo
  rw [List.getElem_append]
  by_cases hj : j < k
  · rw [dif_pos (by simp; omega), if_pos hj]; simp
  · rw [dif_neg (by simp; omega), if_neg hj]
    simp only [List.length_map, List.length_take, List.getElem_drop]
    congr 1; omega
theorem foldTo_at {l : List UInt8} {k : Nat} (h : k < l.length) : (foldTo l k)[k]'(by rw [foldTo_len]; exact h) = l[k] := by
  rw [foldTo_get l k k h, if_neg (by omega)]
theorem foldTo_set {l : List UInt8} {k : Nat} (h : k < l.length) : (foldTo l k).set k (low l[k]) = foldTo l (k + 1) := by
  apply List.ext_getElem
  · simp [foldTo_len]
  · intro j h1 h2
    have hj : j < l.length := by rw [foldTo_len] at h2; exact h2
    rw [List.getElem_set, foldTo_get l (k + 1) j hj]
    by_cases e : k = j
    · subst e; rw [if_pos rfl, if_pos (by omega)]
    · rw [if_neg e, foldTo_get l k j hj]
      by_cases q : j < k
      · rw [if_pos q, if_pos (by omega)]
      · rw [if_neg q, if_neg (by omega)]
theorem foldTo_same {l : List UInt8} {k : Nat} (h : k < l.length) (hc : low l[k] = l[k]) : foldTo l k = foldTo l (k + 1) := by
  apply List.ext_getElem
  · simp [foldTo_len]
  · intro j h1 h2
    have hj : j < l.length := by rw [foldTo_len] at h2; exact h2
    rw [foldTo_get l k j hj, foldTo_get l (k + 1) j hj]
    by_cases q : j < k
    · rw [if_pos q, if_pos (by omega)]
    · rw [if_neg q]
      by_cases e : j = k
      · subst e; rw [if_pos (by omega), hc]
      · rw [if_neg (by omega)]
theorem low_great {c : UInt8} (h1 : 65 ≤ (c.toNat : Int)) (h2 : (c.toNat : Int) ≤ 90) : ((low c).toNat : Int) = (c.toNat : Int) - 65 + 97 := by
  rw [low_toNat, if_pos (by omega)]; omega
theorem low_small {c : UInt8} (h : (c.toNat : Int) < 65 ∨ 90 < (c.toNat : Int)) : low c = c := by
  unfold low; rw [if_neg (by omega)]
theorem foldTo_zero (l : List UInt8) : foldTo l 0 = l := by simp [foldTo]
theorem foldTo_end (l : List UInt8) : foldTo l l.length = l.map low := by simp [foldTo]
def folded (l : List UInt8) : List UInt8 := (Lib.trimSuffix l [46]).map low
theorem trimSuffix_le (l p : List UInt8) : (Lib.trimSuffix l p).length ≤ l.length := by
  unfold Lib.trimSuffix; split
  · simp
  · exact Nat.le_refl _
def foldV (l : List UInt8) : Value := if may (folded l) then .tuple #[.string ⟨(folded l).toArray⟩, .int .i64 0] else .tuple #[.string ⟨#[]⟩, .int .i64 4]

set_option maxHeartbeats 1000000 in
theorem fold_any (l : List UInt8) (w : World) (hl : l.length ≤ 1000000000) :
    Calls Tryd.prog 77 #[.string ⟨l.toArray⟩] w fun e w' => e = .returned (foldV l) ∧ Chg [] w w' := by
  have ht := trimSuffix_le l [46]
  go_enter Tryd.func77, Tryd.ntmps77
  go_wp2_with fail
  refine (Tryd.strings_TrimSuffix ⟨l.toArray⟩ ⟨#[46]⟩ _ (by simp [ByteArray.size]; omega)).mono ?_
  rintro e w1 ⟨rfl, rfl⟩
  have HF : Hid (folded l = (Lib.trimSuffix l [46]).map low) := rfl
  simp only at ht ⊢
  generalize Lib.trimSuffix l [46] = t at *
  obtain ⟨g, cap, W1, hcv, O⟩ := (Own.start w1).toBytes t
  go_wp2_with fail
  go_loopw [12] (fun iv wr => ∃ k : Nat, k ≤ t.length ∧ iv = .int .i64 k ∧ Own w1 wr [bytes g (foldTo t k)]) (fun iv _ => t.length - (intOf iv).toNat)
  case atStart => exact ⟨0, by omega, rfl, by rw [foldTo_zero]; exact O⟩
  case round =>
    clear O hcv
    obtain ⟨k, hk, rfl, O⟩ := hrel
    by_cases hlt : k < t.length
    · have hb1 : (k : Int) < (t.length : Int) := by omega
      obtain ⟨r1, r2⟩ := O.byteCell k (by rw [foldTo_len]; exact hlt)
      rw [foldTo_at hlt] at r1
      have SET := Lib.hid (foldTo_set hlt)
      have h256 : (t[k].toNat : Int) < 256 := by have := t[k].toNat_lt; omega
      by_cases c1 : 65 ≤ (t[k].toNat : Int)
      · by_cases c2 : (t[k].toNat : Int) ≤ 90
        · have LG := Lib.hid (low_great c1 c2)
          go_wp2
          go_roundw
          case rel => exact ⟨k + 1, by omega, by go_num, by rw [← SET.out, ← LG.out]; exact O.setByte k (low t[k])⟩
          case measure => simp [intOf]; omega
        · have SM := Lib.hid (foldTo_same hlt (low_small (.inr (by omega))))
          go_wp2
          go_roundw
          case rel => exact ⟨k + 1, by omega, by go_num, by rw [← SM.out]; exact O⟩
          case measure => simp [intOf]; omega
      · have SM := Lib.hid (foldTo_same hlt (low_small (.inl (by omega))))
        go_wp2
        go_roundw
        case rel => exact ⟨k + 1, by omega, by go_num, by rw [← SM.out]; exact O⟩
        case measure => simp [intOf]; omega
    · obtain rfl : k = t.length := by omega
      rw [foldTo_end, ← HF.out] at O
      have hfl : (folded l).length = t.length := by rw [HF.out]; simp
      have hcv := O.fromBytes cap
      rw [hfl] at hcv
      clear HF
      have HV : Hid (foldV l = if may (folded l) then .tuple #[.string ⟨(folded l).toArray⟩, .int .i64 0] else .tuple #[.string ⟨#[]⟩, .int .i64 4]) := rfl
      generalize folded l = f at *
      go_wp2_with fail
      refine (may_any f _ (by omega)).mono ?_
      rintro e w2 ⟨rfl, ch2⟩
      replace O := O.pure ch2
      clear hcv ch2
      have hcv := O.fromBytes cap
      rw [hfl] at hcv
      cases hm : may f
      · go_wp2
        go_ret2
        exact ⟨by rw [HV.out, hm]; rfl, O.chg⟩
      · go_wp2
        go_ret2
        exact ⟨by rw [HV.out, hm]; rfl, O.chg⟩

theorem may_len {l : List UInt8} (h : may l = true) : l.length ≤ 253 := by
  unfold may at h
  simp only [Bool.and_eq_true, decide_eq_true_eq] at h
  exact h.1.1
end Go.Proofs.YtehkdbgoeakgbaaDoor
