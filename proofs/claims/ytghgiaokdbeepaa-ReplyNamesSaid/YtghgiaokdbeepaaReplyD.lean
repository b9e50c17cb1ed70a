/- reply.status: what it answers, second part. -/
import Derived.Test.YtghgiaokdbeepaaReplyC
namespace Go.Proofs.Ytghgiaokdbeepaa
set_option linter.all false
open Go.RowKit

def isAt (l : List UInt8) (a : Nat) (c : UInt8) : Bool := decide (a < l.length) && decide ((l.getD a 0).toNat = c.toNat)

set_option maxHeartbeats 1000000 in
theorem byte_any (l : List UInt8) (a : Nat) (c : UInt8) (ps pa : Nat) (w : World) (hs : l.length ≤ 1000000000) (ha : a ≤ l.length) (hw : AtCells w ps pa l a) (n : Int) (hn : n = (c.toNat : Int)) (b : Bool) (hb : isAt l a c = b) :
    Calls Try.prog 39 #[.int .u8 n, .pointer (some ⟨pa, 0, none⟩), .pointer (some ⟨ps, 0, none⟩)] w fun e w' => e = .returned (.bool b) ∧ AtCells w' ps pa l (a + 1) ∧ Chg [pa] w w' := by
  subst hn
  have hb := Lib.hid hb
  have hw0 := Lib.hid hw
  have c1 := cell_of_one hw.s
  have c2 := cell_of_one hw.a
  have f2 := free_of_one hw.a
  have ne := hw.ne
  clear hw
  by_cases hl : a < l.length
  · go_enter Try.func39, Try.ntmps39
    go_wp2
    go_ret
    refine ⟨ret_bool ?_, hw0.out.set _ _ (by go_num), (Chg.refl _ _).setCell (by simp) _⟩
    rw [← hb.out, isAt, getD_lt l a hl, Bool.eq_iff_iff]; simp [hl]; omega
  · go_enter Try.func39, Try.ntmps39
    go_wp2
    go_ret
    exact ⟨ret_bool (by rw [← hb.out, isAt, decide_eq_false hl]; rfl), hw0.out.set _ _ (by go_num), (Chg.refl _ _).setCell (by simp) _⟩

def status (code : Int) (l : List UInt8) : List UInt8 :=
  if classOf code = 3 then []
  else if digs l 0 1 = false then []
  else if ¬ ((l.getD 0 0).toNat : Int) - 48 = classOf code then []
  else if isAt l (run l 0) 46 = false then []
  else if digs l (run l 0 + 1) 3 = false then []
  else if isAt l (run l (run l 0 + 1)) 46 = false then []
  else if digs l (run l (run l 0 + 1) + 1) 3 = false then []
  else if run l (run l (run l 0 + 1) + 1) < l.length ∧ ¬ (l.getD (run l (run l (run l 0 + 1) + 1)) 0).toNat = 32 then []
  else l.take (run l (run l (run l 0 + 1) + 1))

theorem isAt_lt {l : List UInt8} {a : Nat} {c : UInt8} (h : isAt l a c = true) : a < l.length := by
  simp only [isAt, Bool.and_eq_true, decide_eq_true_eq] at h; exact h.1
theorem digs_head {l : List UInt8} {a m : Nat} (ha : a ≤ l.length) (h : digs l a m = true) : ∃ h : a < l.length, 48 ≤ (l[a].toNat : Int) ∧ (l[a].toNat : Int) ≤ 57 := by
  simp only [digs, Bool.and_eq_true, decide_eq_true_eq] at h
  have hr := run_le ha
  have hl : a < l.length := by omega
  refine ⟨hl, ?_⟩
  have hlen : 1 ≤ ((l.drop a).takeWhile isDig).length := by have := h.1.1; unfold run at this; omega
  rw [List.drop_eq_getElem_cons hl, List.takeWhile_cons] at hlen
  split at hlen
  · rename_i hd; simp only [isDig, decide_eq_true_eq] at hd; omega
  · simp at hlen

theorem atCells_new (w : World) (l : List UInt8) : AtCells ((w.alloc (.cells #[.string ⟨l.toArray⟩] 9)).alloc (.cells #[.int .i64 0] 3)) w.heap.size (w.heap.size + 1) l 0 := by
  refine ⟨?_, ?_, by omega⟩
  · rw [Below.heap_alloc _ _ _ (by simp)]; exact heap_alloc_new _ _
  · have := heap_alloc_new (w.alloc (.cells #[.string ⟨l.toArray⟩] 9)) (.cells #[.int .i64 0] 3)
    simpa using this

set_option maxHeartbeats 4000000 in
theorem status_any (code : Int) (l : List UInt8) (w : World) (hs : l.length ≤ 1000000000) :
    Calls Try.prog 33 #[.int .i64 code, .string ⟨l.toArray⟩] w fun e w' => e = .returned (.string ⟨(status code l).toArray⟩) ∧ Chg [] w w' := by
  have hm : l.length ≤ maxLen := by unfold maxLen; omega
  have hat := atCells_new w l
  have HAT := Lib.hid hat; clear hat
  have HW : Chg [w.heap.size + 1] w ((w.alloc (.cells #[.string ⟨l.toArray⟩] 9)).alloc (.cells #[.int .i64 0] 3)) := ((Chg.refl _ w).alloc _).alloc _
  have HW := Lib.hid HW
  have hc0 : 0 ≤ classOf code ∧ classOf code ≤ 5 := by unfold classOf; split <;> omega
  obtain ⟨hc1, hc2⟩ := hc0
  have fin : ∀ w', Chg [w.heap.size + 1] w w' → Chg [] w w' := fun w' h => h.weak (by simp)
  have FIN := Lib.hid fin; clear fin
  go_enter Try.func33, Try.ntmps33
  go_wp2_with fail
  refine (class_any code _).mono ?_
  rintro e w' ⟨rfl, rfl⟩
  by_cases h0 : classOf code = 3
  · have h0' : (classOf code == 3) = true := by simp [h0]
    have H0 := Lib.hid h0; clear h0
    go_wp2
    go_ret
    exact ⟨ret_str (by rw [status, if_pos H0.out]), FIN.out _ HW.out⟩
  have h0' : (classOf code == 3) = false := by simp [h0]
  cases h1 : digs l 0 1
  all_goals
    have H1 := Lib.hid h1
    go_wp2_with fail
    refine (digits_any l 0 1 _ _ _ hm (by omega) (by omega) HAT.out _ h1).mono ?_
    clear h1
    rintro e w1 ⟨rfl, at1, ch1⟩
    have AT1 := Lib.hid at1; clear at1
    have CH1 := Lib.hid (HW.out.trans ch1); clear ch1
  · go_wp2
    go_ret
    exact ⟨ret_str (by rw [status, if_neg h0, if_pos H1.out]), FIN.out _ CH1.out⟩
  obtain ⟨hl0, hl1, hl2⟩ := digs_head (by omega) H1.out
  have r1 := run_le (l := l) (a := 0) (by omega)
  have c1 := cell_of_one AT1.out.s
  by_cases h2 : ((l[0].toNat : Int) - 48 = classOf code)
  rotate_left
  · have h2' : ((l[0].toNat : Int) - 48 != classOf code) = true := by simp [h2]
    have H2 := Lib.hid h2; clear h2
    go_wp2
    go_ret
    exact ⟨ret_str (by simp [status, h0, H1.out, hl0, H2.out]), FIN.out _ CH1.out⟩
  have h2' : ((l[0].toNat : Int) - 48 != classOf code) = false := by simp [h2]
  have H2 := Lib.hid h2; clear h2
  have F2 : status code l = if isAt l (run l 0) 46 = false then []
      else if digs l (run l 0 + 1) 3 = false then []
      else if isAt l (run l (run l 0 + 1)) 46 = false then []
      else if digs l (run l (run l 0 + 1) + 1) 3 = false then []
      else if run l (run l (run l 0 + 1) + 1) < l.length ∧ ¬ (l.getD (run l (run l (run l 0 + 1) + 1)) 0).toNat = 32 then []
      else l.take (run l (run l (run l 0 + 1) + 1)) := by
    rw [status, if_neg h0, if_neg (by simp [H1.out]), if_neg]
    rw [getD_lt l 0 hl0]; simp [H2.out]
  have F2 := Lib.hid F2
  clear h0
  cases h3 : isAt l (run l 0) 46
  all_goals
    have H3 := Lib.hid h3
    go_wp2_with fail
    refine (byte_any l (run l 0) 46 _ _ _ hs (by omega) AT1.out _ (by rfl) _ h3).mono ?_
    clear h3 c1
    rintro e w2 ⟨rfl, at2, ch2⟩
    have AT2 := Lib.hid at2; clear at2
    have CH2 := Lib.hid (CH1.out.trans ch2); clear ch2
  · go_wp2
    go_ret
    exact ⟨ret_str (by rw [F2.out, if_pos H3.out]), FIN.out _ CH2.out⟩
  have g1 := isAt_lt H3.out
  cases h4 : digs l (run l 0 + 1) 3
  all_goals
    have H4 := Lib.hid h4
    go_wp2_with fail
    refine (digits_any l (run l 0 + 1) 3 _ _ _ hm (by omega) (by omega) AT2.out _ h4).mono ?_
    clear h4
    rintro e w3 ⟨rfl, at3, ch3⟩
    have AT3 := Lib.hid at3; clear at3
    have CH3 := Lib.hid (CH2.out.trans ch3); clear ch3
  · go_wp2
    go_ret
    exact ⟨ret_str (by rw [F2.out, if_neg (by simp [H3.out]), if_pos H4.out]), FIN.out _ CH3.out⟩
  have r2 := run_le (l := l) (a := run l 0 + 1) (by omega)
  cases h5 : isAt l (run l (run l 0 + 1)) 46
  all_goals
    have H5 := Lib.hid h5
    go_wp2_with fail
    refine (byte_any l (run l (run l 0 + 1)) 46 _ _ _ hs (by omega) AT3.out _ (by rfl) _ h5).mono ?_
    clear h5
    rintro e w4 ⟨rfl, at4, ch4⟩
    have AT4 := Lib.hid at4; clear at4
    have CH4 := Lib.hid (CH3.out.trans ch4); clear ch4
  · go_wp2
    go_ret
    exact ⟨ret_str (by rw [F2.out, if_neg (by simp [H3.out]), if_neg (by simp [H4.out]), if_pos H5.out]), FIN.out _ CH4.out⟩
  have g2 := isAt_lt H5.out
  cases h6 : digs l (run l (run l 0 + 1) + 1) 3
  all_goals
    have H6 := Lib.hid h6
    go_wp2_with fail
    refine (digits_any l (run l (run l 0 + 1) + 1) 3 _ _ _ hm (by omega) (by omega) AT4.out _ h6).mono ?_
    clear h6
    rintro e w5 ⟨rfl, at5, ch5⟩
    have AT5 := Lib.hid at5; clear at5
    have CH5 := Lib.hid (CH4.out.trans ch5); clear ch5
  · go_wp2
    go_ret
    exact ⟨ret_str (by rw [F2.out, if_neg (by simp [H3.out]), if_neg (by simp [H4.out]), if_neg (by simp [H5.out]), if_pos H6.out]), FIN.out _ CH5.out⟩
  have r3 := run_le (l := l) (a := run l (run l 0 + 1) + 1) (by omega)
  have c5 := cell_of_one AT5.out.s
  have d5 := cell_of_one AT5.out.a
  have F6 : status code l = if run l (run l (run l 0 + 1) + 1) < l.length ∧ ¬ (l.getD (run l (run l (run l 0 + 1) + 1)) 0).toNat = 32 then []
      else l.take (run l (run l (run l 0 + 1) + 1)) := by
    rw [F2.out, if_neg (by simp [H3.out]), if_neg (by simp [H4.out]), if_neg (by simp [H5.out]), if_neg (by simp [H6.out])]
  have F6 := Lib.hid F6
  generalize run l (run l (run l 0 + 1) + 1) = a at *
  by_cases h7 : a < l.length
  · by_cases h8 : (l[a].toNat : Int) = 32
    · have h8' : ((l[a].toNat : Int) != 32) = false := by simp [h8]
      have H8 := Lib.hid h8; clear h8
      go_wp2
      go_ret
      exact ⟨ret_str (by rw [F6.out, if_neg]; rw [getD_lt l a h7]; have := H8.out; omega), FIN.out _ CH5.out⟩
    · have h8' : ((l[a].toNat : Int) != 32) = true := by simp [h8]
      have H8 := Lib.hid h8; clear h8
      go_wp2
      go_ret
      exact ⟨ret_str (by rw [F6.out, if_pos]; rw [getD_lt l a h7]; have := H8.out; omega), FIN.out _ CH5.out⟩
  · go_wp2
    go_ret
    exact ⟨ret_str (by rw [F6.out, if_neg]; omega), FIN.out _ CH5.out⟩
end Go.Proofs.Ytghgiaokdbeepaa
