/- mailroomref03.Cut. -/
import Derived.Test.YtlmifdkhdcbniaaDoorNameG
namespace Go.Proofs.YtlmifdkhdcbniaaDoor
set_option linter.all false
open Go.RowKit Go.Shelf

theorem cut46_len (l : List UInt8) : (cut46 l).length ≤ l.length + 1 := by
  induction l with
  | nil => simp [cut46]
  | cons c t ih =>
    unfold cut46
    split
    · simp; omega
    · split
      · simp
      · rename_i h r e; rw [e] at ih; simp at ih ⊢; omega
theorem seg_split {l : List UInt8} {f k : Nat} (h1 : f ≤ k) (h2 : k < l.length) : l.drop f = (l.drop f).take (k - f) ++ l[k] :: l.drop (k + 1) := by
  have := (List.take_append_drop (k - f) (l.drop f)).symm
  rw [List.drop_drop, show f + (k - f) = k from by omega, List.drop_eq_getElem_cons h2] at this
  exact this
theorem cut3_dot {l : List UInt8} {f k : Nat} {ss : List (List UInt8)} (h1 : f ≤ k) (h2 : k < l.length) (hd : l[k] = 46) (hn : 46 ∉ (l.drop f).take (k - f)) (hc : cut46 l = ss ++ cut46 (l.drop f)) :
    cut46 l = (ss ++ [(l.take k).drop f]) ++ cut46 (l.drop (k + 1)) := by
  rw [List.drop_take]
  rw [seg_split h1 h2, hd, cut46_dot hn] at hc
  rw [hc]; simp
theorem cut3_end {l : List UInt8} {f : Nat} {ss : List (List UInt8)} (hn : 46 ∉ (l.drop f).take (l.length - f)) (hc : cut46 l = ss ++ cut46 (l.drop f)) :
    cut46 l = ss ++ [l.drop f] := by
  rw [List.take_of_length_le (by simp)] at hn
  rw [hc, cut46_one hn]
theorem cut3_on {l : List UInt8} {f k : Nat} (h1 : f ≤ k) (h2 : k < l.length) (hd : ¬ l[k] = 46) (hn : 46 ∉ (l.drop f).take (k - f)) : 46 ∉ (l.drop f).take (k + 1 - f) := by
  have hk : k - f < (l.drop f).length := by simp; omega
  rw [show k + 1 - f = k - f + 1 from by omega, List.take_succ_eq_append_getElem hk]
  simp only [List.mem_append, not_or]
  refine ⟨hn, ?_⟩
  simp only [List.getElem_drop, List.mem_singleton]
  intro e
  apply hd
  rw [e]; congr 1; omega
def Cut3 (l : List UInt8) (f k : Nat) (ss : List (List UInt8)) : Prop := (k ≤ l.length ∧ f ≤ k ∧ cut46 l = ss ++ cut46 (l.drop f) ∧ 46 ∉ (l.drop f).take (k - f)) ∨ (k = l.length + 1 ∧ f = l.length + 1 ∧ ss = cut46 l)
set_option maxHeartbeats 1000000 in
theorem cut3_any {w0 w : World} {L : List Piece} (O : Own w0 w L) (l : List UInt8) (hl : l.length ≤ 100000000) :
    Calls Tryd.prog 71 #[.string ⟨l.toArray⟩] w fun e w' => ∃ v, e = .returned v ∧ Own w0 w' (strs v (cut46 l) :: L) := by
  go_enter Tryd.func71, Tryd.ntmps71
  go_wp2_with fail
  have O2 := O.nilStrs
  go_loopw [3, 4, 5] (fun ov fv iv wr => ∃ (k f : Nat) (ss : List (List UInt8)), iv = .int .i64 k ∧ fv = .int .i64 f ∧ k ≤ l.length + 1 ∧ Cut3 l f k ss ∧ Own w0 wr (strs ov ss :: L)) (fun _ _ iv _ => l.length + 1 - (intOf iv).toNat)
  case atStart => exact ⟨0, 0, [], rfl, rfl, by omega, .inl ⟨by omega, by omega, rfl, by simp⟩, O2⟩
  case round =>
    clear O O2
    obtain ⟨k, f, ss, rfl, rfl, hk, hc, O⟩ := hrel
    obtain ⟨ao, capo, rfl⟩ := O.shape
    rcases hc with ⟨hk1, hf, hc, hn⟩ | ⟨rfl, rfl, rfl⟩
    · have hb1 : (k : Int) ≤ (l.length : Int) := by omega
      have hss : ss.length ≤ 1000000000 := by
        have := cut46_len l; rw [hc, List.length_append] at this; omega
      have HC := Lib.hid hc; have HN := Lib.hid hn; have HSS := Lib.hid hss
      clear hc hn hss
      have hfk : (f : Int) ≤ (k : Int) := by omega
      by_cases hlt : k < l.length
      · have hb2 : ((k : Int) == (l.length : Int)) = false := by simp; omega
        have hb3 : (k : Int) < (l.length : Int) := by omega
        by_cases hd : (l[k].toNat : Int) = 46
        · have hd' : ((l[k].toNat : Int) == 46) = true := by simp [hd]
          have HD : Hid (l[k] = 46) := by apply UInt8.toNat_inj.1; show _ = 46; omega
          clear hd
          go_wp2_with (at_builtin; refine wpList_append_strO rfl _ _ rfl _ _ _ O rfl rfl HSS.out ?_)
          intro v' w3 O
          obtain ⟨a3, cap3, rfl⟩ := O.shape
          go_wp2
          go_roundw
          case rel => exact ⟨k + 1, k + 1, _, by go_num, by go_num, by omega, .inl ⟨by omega, by omega, cut3_dot (by omega) hlt HD.out HN.out HC.out, by simp⟩, O⟩
          case measure => simp [intOf]; omega
        · have hd' : ((l[k].toNat : Int) == 46) = false := by simpa using hd
          have HD : Hid (¬ l[k] = 46) := by intro e; apply hd; rw [e]; rfl
          clear hd
          go_wp2_with fail
          go_roundw
          case rel => exact ⟨k + 1, f, ss, by go_num, rfl, by omega, .inl ⟨by omega, by omega, HC.out, cut3_on (by omega) hlt HD.out HN.out⟩, O⟩
          case measure => simp [intOf]; omega
      · obtain rfl : k = l.length := by omega
        go_wp2_with (at_builtin; refine wpList_append_strO rfl _ _ rfl _ _ _ O rfl rfl HSS.out ?_)
        intro v' w3 O
        obtain ⟨a3, cap3, rfl⟩ := O.shape
        go_wp2
        go_roundw
        case rel => exact ⟨l.length + 1, l.length + 1, _, by go_num, by go_num, by omega, .inr ⟨by omega, by omega, (cut3_end HN.out HC.out).symm⟩, O⟩
        case measure => simp [intOf]
    · go_wp2
      go_ret
      exact ⟨_, rfl, O⟩
end Go.Proofs.YtlmifdkhdcbniaaDoor
