/- mailroomref08: next. -/
import Derived.Test.YtknellgmdmpabaaStuffF
import Derived.Deep.QuietTactic
import Derived.BigQuiet
namespace Go.Proofs.Ytknellgmdmpabaa
set_option linter.all false
open Go.RowKit Go.Shelf

theorem cutL_plain : ∀ s : List UInt8, NoCrlf s → cutL s = ([], s)
  | [], _ => rfl
  | [c], _ => rfl
  | c :: d :: t, h => by
    have h0 : ¬ (c = 13 ∧ d = 10) := by have := h 0 (by simp); simpa using this
    rw [cutL, if_neg h0, cutL_plain (d :: t) h.tail]
    rfl
def NextPost (t : List UInt8) (w : World) (e : Ending) (w' : World) : Prop := (∃ n, w' = w.drewN n) ∧
  ((cutL t = ([], t) ∧ e = .returned (.tuple #[.string ⟨t.toArray⟩, .string ⟨#[]⟩, .bool false])) ∨
    ∃ x t', cutL t = (x :: (cutL t').1, (cutL t').2) ∧ t = x ++ 13 :: 10 :: t' ∧ e = .returned (.tuple #[.string ⟨(x ++ [13, 10]).toArray⟩, .string ⟨t'.toArray⟩, .bool true]))
theorem u8_eq {c : UInt8} {n : Nat} (hn : n < 256) : ((c.toNat : Int) = n) ↔ c = UInt8.ofNat n := by
  constructor
  · intro h
    have h : c.toNat = n := by omega
    apply UInt8.toNat_inj.1
    rw [h]; simp; omega
  · rintro rfl
    simp; omega
set_option maxHeartbeats 1000000 in
theorem next_any (w : World) (s : List UInt8) (hs : s.length ≤ 1000000000) :
    Calls Try.prog 23 #[.string ⟨s.toArray⟩] w (NextPost s w) := by
  go_enter Try.func23, Try.ntmps23
  go_wp2
  go_loopw [5] (fun iv wr => ∃ i : Nat, iv = .int .i64 i ∧ i ≤ s.length ∧ wr = w ∧ ∀ j (h : j + 1 < s.length), j < i → ¬ (s[j] = 13 ∧ s[j + 1] = 10)) (fun iv _ => s.length - (intOf iv).toNat)
  case atStart => exact ⟨0, rfl, by omega, rfl, fun j h h' => by omega⟩
  case round =>
    obtain ⟨i, rfl, hi, rfl, hall⟩ := hrel
    have A := Lib.hid hall; clear hall
    by_cases hlt : i + 1 < s.length
    · have hb1 : (i : Int) + 1 < (s.length : Int) := by omega
      have hb2 : (i : Int) < (s.length : Int) := by omega
      have hb3 : (0 : Int) ≤ (i : Int) := by omega
      have t1 : ((i : Int) + 1).toNat = i + 1 := by omega
      have t2 : i < s.length := by omega
      have hb4 : (0 : Int) ≤ (i : Int) + 1 := by omega
      by_cases h1 : (s[i].toNat : Int) = 13
      · by_cases h2 : (s[i + 1].toNat : Int) = 10
        · have h2' : ((s[i + 1].toNat : Int) == 10) = true := by simpa using h2
          have E1 := (u8_eq (n := 13) (by decide)).1 h1
          have E2 := (u8_eq (n := 10) (by decide)).1 h2
          have hsplit : s = s.take i ++ 13 :: 10 :: s.drop (i + 2) := by
            conv => lhs; rw [← List.take_append_drop i s, List.drop_eq_getElem_cons t2, List.drop_eq_getElem_cons hlt, E1, E2]
            rfl
          have hno : NoCrlf (s.take i) := fun j hj => by
            simp at hj
            simp only [List.getElem_take]
            exact A.out j (by omega) (by omega)
          have hc : cutL s = (s.take i :: (cutL (s.drop (i + 2))).1, (cutL (s.drop (i + 2))).2) := by
            conv => lhs; rw [hsplit]
            exact cutL_line _ _ hno
          have htk : s.take (i + 2) = s.take i ++ [13, 10] := by
            rw [List.take_succ_eq_append_getElem hlt, List.take_succ_eq_append_getElem t2, E1, E2, List.append_assoc]
            rfl
          have HC := Lib.hid hc; have HS := Lib.hid hsplit; have HT := Lib.hid htk
          clear hc hsplit htk hno E1 E2
          have c1 : (i : Int) + 2 ≤ (s.length : Int) := by omega
          have c2 : (0 : Int) ≤ (i : Int) + 2 := by omega
          have c3 : ((i : Int) + 2).toNat = i + 2 := by omega
          have c4 : IntKind.i64.wrap ((i : Int) + 2) = (i : Int) + 2 := IntWalk.i64_in _ (by omega)
          have c5 : i + 2 ≤ s.length := by omega
          go_wp2_with fail
          go_quiet (fail)
          go_wp2
          rw [HT.out]
          go_returns
          exact ⟨⟨_, rfl⟩, .inr ⟨_, _, HC.out, HS.out, rfl⟩⟩
        · have h2' : ((s[i + 1].toNat : Int) == 10) = false := by simpa using h2
          have N := Lib.hid h2
          clear h2
          go_wp2
          go_roundw
          case rel => exact ⟨i + 1, by go_num, by omega, trivial, fun j h h' => by
            by_cases e : j = i
            · subst e; intro hh; exact N.out ((u8_eq (n := 10) (by decide)).2 hh.2)
            · exact A.out j h (by omega)⟩
          case measure => simp [intOf]; omega
      · have N := Lib.hid h1
        have h1' : ((s[i].toNat : Int) == 13) = false := by simpa using h1
        go_wp2
        go_roundw
        case rel => exact ⟨i + 1, by go_num, by omega, trivial, fun j h h' => by
          by_cases e : j = i
          · subst e; intro hh; exact N.out ((u8_eq (n := 13) (by decide)).2 hh.1)
          · exact A.out j h (by omega)⟩
        case measure => simp [intOf]; omega
    · have hb1 : ¬ (i : Int) + 1 < (s.length : Int) := by omega
      have HC := Lib.hid (cutL_plain s (fun j h => A.out j h (by omega)))
      go_wp2
      go_returns
      exact ⟨⟨0, rfl⟩, .inl ⟨HC.out, rfl⟩⟩
end Go.Proofs.Ytknellgmdmpabaa
