/- mailroomlaw01.long, clean. -/
import Derived.Test.YtkgfdmfkmcbecaaLineG
import Derived.WalkLawsBesides
namespace Go.Proofs.Ytkgfdmfkmcbecaa
set_option linter.all false
open Go.RowKit Go.Shelf

theorem joinL_nil : joinL [] = [] := rfl
def LongPost (ls : List (List UInt8)) (w : World) (e : Ending) (w' : World) : Prop := ∃ b : Bool, e = .returned (.bool b) ∧ w = w' ∧ (b = false → (joinL ls).length < 6000 ∧ ls.length < 6000)
theorem joinL_succ {ls : List (List UInt8)} {k : Nat} (h : k < ls.length) : (joinL (ls.take (k + 1))).length = (joinL (ls.take k)).length + ls[k].length + 2 := by
  rw [List.take_succ_eq_append_getElem h, joinL_snoc]; simp [crlf]; omega
set_option maxHeartbeats 1000000 in
theorem long_any (w : World) (v : Value) (ls : List (List UInt8)) (G : List Nat) (h : StrsR w v ls G) (hb : ∀ s ∈ ls, s.length ≤ maxLen) (hn : ls.length ≤ maxLen) :
    Calls Try.prog 19 #[v] w (LongPost ls w) := by
  obtain ⟨a, cap, rfl, hr⟩ := h
  unfold maxLen at hb hn
  have HB := Lib.hid hb; clear hb
  have HR := Lib.hid hr; clear hr
  go_enter Try.func19, Try.ntmps19
  go_wp2
  go_loop [3, 4] (fun n i => ∃ k m : Nat, k ≤ ls.length ∧ n = .int .i64 m ∧ i = .int .i64 k ∧ m ≤ 19000 ∧ (m < 6000 → (joinL (ls.take k)).length + 3 * k ≤ m)) (fun _ i => ls.length - (intOf i).toNat)
  case atStart => exact ⟨0, 0, by omega, rfl, rfl, by omega, by simp [joinL]⟩
  case round =>
    obtain ⟨k, m, hk, rfl, rfl, hm, hall⟩ := hrel
    have A := Lib.hid hall; clear hall
    by_cases hlt : k < ls.length
    · by_cases hm9 : (m : Int) < 6000
      · obtain ⟨g, off, rfl, _, hc⟩ := HR.out (by omega)
        have c := hc k hlt
        clear hc
        have hlen : ls[k].length ≤ 9223372036854775807 := HB.out _ (List.getElem_mem hlt)
        have hb1 : (k : Int) < (ls.length : Int) := by omega
        have HS := Lib.hid (joinL_succ hlt)
        rcases Nat.lt_or_ge ls[k].length 6000 with h9 | h9
        · have h9' : (ls[k].length : Int) < 6000 := by omega
          go_wp2
          go_round
          case rel => exact ⟨k + 1, m + 5 + ls[k].length, by omega, by go_num, by go_num, by omega, fun h => by have := A.out (by omega); rw [HS.out]; omega⟩
          case measure => simp [intOf]; omega
        · have h9' : ¬ (ls[k].length : Int) < 6000 := by omega
          go_wp2
          go_round
          case rel => exact ⟨k + 1, m + 5 + 6000, by omega, by go_num, by go_num, by omega, fun h => by omega⟩
          case measure => simp [intOf]; omega
      · go_wp2
        go_ret
        exact ⟨true, rfl, rfl, by simp⟩
    · obtain rfl : k = ls.length := by omega
      by_cases hm9 : (6000 : Int) ≤ (m : Int)
      · go_wp2
        go_ret
        exact ⟨true, rfl, rfl, by simp⟩
      · go_wp2
        go_ret
        exact ⟨false, rfl, rfl, fun _ => by have := A.out (by omega); rw [List.take_length] at this; omega⟩

def NoCrlf (s : List UInt8) : Prop := ∀ i (h : i + 1 < s.length), ¬ (s[i] = 13 ∧ s[i + 1] = 10)
def CleanPost (s : List UInt8) (w : World) (e : Ending) (w' : World) : Prop := ∃ b : Bool, e = .returned (.bool b) ∧ w = w' ∧ (b = true → NoCrlf s ∧ ∀ h : 0 < s.length, ¬ s[s.length - 1] = 13)
theorem u8_eq {c : UInt8} {n : Nat} (hn : n < 256) : ((c.toNat : Int) = n) ↔ c = UInt8.ofNat n := by
  constructor
  · intro h
    have h : c.toNat = n := by omega
    apply UInt8.toNat_inj.1
    rw [h]; simp; omega
  · rintro rfl
    simp; omega
set_option maxHeartbeats 1000000 in
theorem clean_any (w : World) (s : List UInt8) (hs : s.length ≤ 140737488351232) :
    Calls Try.prog 26 #[.string ⟨s.toArray⟩] w (CleanPost s w) := by
  go_enter Try.func26, Try.ntmps26
  go_wp2
  go_loopw [3] (fun iv wr => ∃ i : Nat, iv = .int .i64 i ∧ i ≤ s.length ∧ wr = w ∧ ∀ j (h : j + 1 < s.length), j < i → ¬ (s[j] = 13 ∧ s[j + 1] = 10)) (fun iv _ => s.length - (intOf iv).toNat)
  case atStart => exact ⟨0, rfl, by omega, rfl, fun j h h' => by omega⟩
  case round =>
    obtain ⟨i, rfl, hi, rfl, hall⟩ := hrel
    have A := Lib.hid hall; clear hall
    by_cases hlt : i + 1 < s.length
    · have hb1 : (i : Int) + 1 < (s.length : Int) := by omega
      have hb2 : (i : Int) < (s.length : Int) := by omega
      have hb3 : (0 : Int) ≤ (i : Int) := by omega
      have t1 : ((i : Int) + 1).toNat = i + 1 := by omega
      have t2 : i < s.length := by omega
      have hb4 : (0 : Int) ≤ (i : Int) + 1 := by omega
      by_cases h1 : (s[i].toNat : Int) = 13
      · by_cases h2 : (s[i + 1].toNat : Int) = 10
        · have h2' : ((s[i + 1].toNat : Int) == 10) = true := by simpa using h2
          go_wp2
          go_ret
          exact ⟨false, rfl, rfl, by simp⟩
        · have h2' : ((s[i + 1].toNat : Int) == 10) = false := by simpa using h2
          have N := Lib.hid h2
          clear h2
          go_wp2
          go_roundw
          case rel => exact ⟨i + 1, by go_num, by omega, trivial, fun j h h' => by
            by_cases e : j = i
            · subst e; intro hh; exact N.out ((u8_eq (n := 10) (by decide)).2 hh.2)
            · exact A.out j h (by omega)⟩
          case measure => simp [intOf]; omega
      · have N := Lib.hid h1
        have h1' : ((s[i].toNat : Int) == 13) = false := by simpa using h1
        go_wp2
        go_roundw
        case rel => exact ⟨i + 1, by go_num, by omega, trivial, fun j h h' => by
          by_cases e : j = i
          · subst e; intro hh; exact N.out ((u8_eq (n := 13) (by decide)).2 hh.1)
          · exact A.out j h (by omega)⟩
        case measure => simp [intOf]; omega
    · have hb1 : ¬ (i : Int) + 1 < (s.length : Int) := by omega
      by_cases h0 : s = []
      · subst h0
        go_wp2
        go_ret
        exact ⟨true, rfl, rfl, fun _ => ⟨fun j h => by simp at h, fun h => by simp at h⟩⟩
      · have hpos : 0 < s.length := List.length_pos_iff.2 h0
        have h0' : s.isEmpty = false := by simpa using h0
        have hb5 : (0 : Int) ≤ (s.length : Int) - 1 := by omega
        have hb6 : (s.length : Int) - 1 < (s.length : Int) := by omega
        have hb7 : ((s.length : Int) - 1).toNat = s.length - 1 := by omega
        have hb8 : s.length - 1 < s.length := by omega
        by_cases h1 : (s[s.length - 1].toNat : Int) = 13
        · have h1' : ((s[s.length - 1].toNat : Int) != 13) = false := by simpa using h1
          go_wp2
          go_ret
          exact ⟨false, rfl, rfl, by simp⟩
        · have h1' : ((s[s.length - 1].toNat : Int) != 13) = true := by simpa using h1
          have N := Lib.hid h1
          clear h1
          go_wp2
          go_ret
          exact ⟨true, rfl, rfl, fun _ => ⟨fun j h => A.out j h (by omega), fun h hh => N.out ((u8_eq (n := 13) (by decide)).2 hh)⟩⟩
end Go.Proofs.Ytkgfdmfkmcbecaa
