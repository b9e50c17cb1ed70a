/- reply.status: what it answers. -/
import Derived.Test.YtghgiaokdbeepaaReplyB
import Derived.Handy
namespace Go.Proofs.Ytghgiaokdbeepaa
set_option linter.all false
open Go.RowKit

def isDig (c : UInt8) : Bool := decide (48 ≤ c.toNat ∧ c.toNat ≤ 57)
/-- behind the digits from a on -/
def run (l : List UInt8) (a : Nat) : Nat := a + ((l.drop a).takeWhile isDig).length
theorem run_of {l : List UInt8} {a k : Nat} (ha : a ≤ k) (hk : k ≤ l.length) (h : ∀ j, a ≤ j → j < k → isDig (l.getD j 0) = true) (he : k = l.length ∨ isDig (l.getD k 0) = false) : run l a = k := by
  have e : l.drop a = (l.drop a).take (k - a) ++ l.drop k := by
    have := (List.take_append_drop (k - a) (l.drop a)).symm
    rw [List.drop_drop, show a + (k - a) = k by omega] at this
    exact this
  unfold run
  rw [e, List.takeWhile_append_of_pos]
  · have : (l.drop k).takeWhile isDig = [] := by
      rcases he with he | he
      · rw [List.drop_eq_nil_of_le (by omega)]; rfl
      · by_cases hl : k < l.length
        · rw [List.drop_eq_getElem_cons hl, List.takeWhile_cons, getD_lt l k hl] at *; simp [he]
        · rw [List.drop_eq_nil_of_le (by omega)]; rfl
    rw [this]; simp; omega
  · intro c hc
    obtain ⟨i, hi, rfl⟩ := List.mem_iff_getElem.1 hc
    simp at hi
    have := h (a + i) (by omega) (by omega)
    rw [getD_lt l _ (by omega)] at this
    simpa using this
theorem run_le {l : List UInt8} {a : Nat} (h : a ≤ l.length) : a ≤ run l a ∧ run l a ≤ l.length := by
  unfold run
  have := (List.takeWhile_sublist isDig (l := l.drop a)).length_le
  simp at this; omega

theorem dig_or (l : List UInt8) (k : Nat) : (¬ k < l.length ∧ Hid (¬ k < l.length)) ∨ (∃ h : k < l.length, Hid (isDig (l.getD k 0) = false) ∧ (l[k].toNat : Int) < 48) ∨ (∃ h : k < l.length, Hid (isDig (l.getD k 0) = false) ∧ (48 : Int) ≤ l[k].toNat ∧ (57 : Int) < l[k].toNat) ∨ (∃ h : k < l.length, Hid (isDig (l.getD k 0) = true) ∧ (48 : Int) ≤ l[k].toNat ∧ (l[k].toNat : Int) ≤ 57) := by
  by_cases h : k < l.length
  · right
    unfold Hid
    rw [getD_lt l k h]
    simp only [isDig, decide_eq_true_eq, decide_eq_false_iff_not, exists_prop, exists_prop_of_true h]
    omega
  · exact .inl ⟨h, h⟩

/-- the two cells that the closures share -/
structure AtCells (w : World) (ps pa : Nat) (l : List UInt8) (a : Nat) : Prop where
  s : w.heap[ps]? = some (.cells #[.string ⟨l.toArray⟩] 9 (0, 0))
  a : w.heap[pa]? = some (.cells #[.int .i64 (a : Int)] 3 (0, 0))
  ne : ps ≠ pa
theorem AtCells.drewN {w : World} {ps pa : Nat} {l : List UInt8} {a : Nat} (h : AtCells w ps pa l a) (n : Nat) : AtCells (w.drewN n) ps pa l a := ⟨h.s, h.a, h.ne⟩
theorem AtCells.set {w : World} {ps pa : Nat} {l : List UInt8} {a : Nat} (h : AtCells w ps pa l a) (b : Nat) (v : Value) (hv : v = .int .i64 (b : Int)) : AtCells (w.setCell ⟨pa, 0, none⟩ v) ps pa l b := by
  subst hv
  exact ⟨by rw [Below.heap_setCell _ _ _ _ (fun e => h.ne e)]; exact h.s, one_setCell h.a, h.ne⟩

def digs (l : List UInt8) (a most : Nat) : Bool :=
  decide (1 ≤ run l a - a ∧ run l a - a ≤ most) && (decide (run l a - a = 1) || decide ((l.getD a 0).toNat ≠ 48))

theorem digs_is {l : List UInt8} {a most k : Nat} {r : Bool} (hr : run l a = k) (h : (r = true) ↔ (1 ≤ k - a ∧ k - a ≤ most ∧ (k - a = 1 ∨ ¬ (l.getD a 0).toNat = 48))) : r = digs l a most := by
  rw [Bool.eq_iff_iff, h, digs, hr]
  simp [and_assoc]
theorem digs_next {l : List UInt8} {a k : Nat} (h : ∀ j, a ≤ j → j < k → isDig (l.getD j 0) = true) (hk : isDig (l.getD k 0) = true) : ∀ j, a ≤ j → j < k + 1 → isDig (l.getD j 0) = true := fun j h1 h2 => by
  by_cases e : j = k
  · rw [e]; exact hk
  · exact h j h1 (by omega)

set_option maxHeartbeats 1000000 in
theorem digits_any (l : List UInt8) (a most : Nat) (ps pa : Nat) (w : World) (hs : l.length ≤ maxLen) (ha : a ≤ l.length) (hm : most ≤ 9) (hw : AtCells w ps pa l a) (b : Bool) (hb : digs l a most = b) :
    Calls Try.prog 38 #[.int .i64 (most : Int), .pointer (some ⟨pa, 0, none⟩), .pointer (some ⟨ps, 0, none⟩)] w fun e w' => e = .returned (.bool b) ∧ AtCells w' ps pa l (run l a) ∧ Chg [pa] w w' := by
  unfold maxLen at hs
  have hb := Lib.hid hb
  have hw0 := Lib.hid hw
  have c1 := cell_of_one hw.s
  have c2 := cell_of_one hw.a
  clear hw
  go_enter Try.func38, Try.ntmps38
  go_wp2
  clear c1 c2
  go_loopw [] (fun wr => ∃ k : Nat, a ≤ k ∧ k ≤ l.length ∧ AtCells wr ps pa l k ∧ Chg [pa] w wr ∧ (∀ j, a ≤ j → j < k → isDig (l.getD j 0) = true)) (fun wr => l.length - (intOf ((wr.cell? ⟨pa, 0, none⟩).getD undef)).toNat)
  case atStart => exact ⟨a, Nat.le_refl _, ha, hw0.out, Chg.refl _ _, fun j h1 h2 => by omega⟩
  case round =>
    obtain ⟨k, hk1, hk2, hat, hch, hall⟩ := hrel
    have hw1 := Lib.hid hat
    have c1 := cell_of_one hat.s
    have c2 := cell_of_one hat.a
    have f2 := free_of_one hat.a
    have ne := hat.ne
    clear hat
    have H := Lib.hid hall; clear hall
    have HC := Lib.hid hch; clear hch
    have hd := dig_or l k
    rcases hd with ⟨h1, h2⟩ | ⟨h1, h2, h3⟩ | ⟨h1, h2, h3, h4⟩ | ⟨h1, h2, h3, h4⟩
    rotate_left 3
    · go_wp2
      go_roundw
      case rel => exact ⟨k + 1, by omega, by omega, hw1.out.set _ _ (by go_num), HC.out.setCell (by simp) _, digs_next H.out h2.out⟩
      case measure => simp [World.cell?, one_setCell hw1.out.a, hw1.out.a, intOf]; omega
    all_goals
      have hr := Lib.hid (run_of hk1 hk2 H.out (by first | exact .inr h2.out | exact .inl (by omega)))
      go_wp2
      all_goals
        go_ret
        refine ⟨ret_bool ?_, by rw [hr.out]; exact hw1.out, HC.out⟩
        first
        | exact (digs_is hr.out (by simp; omega)).trans hb.out
        | exact (digs_is hr.out (by rw [getD_lt l a (by omega)]; simp; omega)).trans hb.out
end Go.Proofs.Ytghgiaokdbeepaa
