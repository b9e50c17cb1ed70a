/- mailroomlaw10: full, is, ints. -/
import Derived.Test.YtobflkddkplpiaaDiskH
namespace Go.Proofs.Ytobflkddkplpiaa
set_option linter.all false
open Go.RowKit Go.Maps

def fullS (c : UInt8) : List UInt8 := List.replicate 128 c
theorem stepBytes_full (c : UInt8) : stepBytes c 0 = fullS c := by
  unfold stepBytes oddN fullS; rw [if_pos (by omega)]; rfl
theorem full_any (w : World) (c : UInt8) (x : Int) (hx : x = (c.toNat : Int)) : Calls Try.prog 11 #[.int .u8 x] w fun e w' => e = .returned (.string ⟨(fullS c).toArray⟩) ∧ Chg [] w w' := by
  subst hx
  go_enter Try.func11, Try.ntmps11
  go_wp2_with fail
  refine (bytes_any _ 0 0 c 0 none 0 0).mono ?_
  rw [stepBytes_full]
  rintro e w1 ⟨rfl, ch⟩
  go_wp2
  go_ret
  exact ⟨rfl, ch⟩
theorem full_own {w0 w : World} {L : List Piece} (O : Own w0 w L) (c : UInt8) (x : Int) (hx : x = (c.toNat : Int)) : Calls Try.prog 11 #[.int .u8 x] w fun e w' => e = .returned (.string ⟨(fullS c).toArray⟩) ∧ Own w0 w' L := by
  refine (full_any w c x hx).mono ?_
  rintro e w' ⟨rfl, ch⟩
  exact ⟨rfl, O.pure ch⟩
theorem is10_own {w0 w : World} {L : List Piece} {p : Value} {m : Dk} (O : Own w0 w (dk p m :: L)) (k : Int) (hk : I64 k) (s : List UInt8) (b : Bool) (hb : (decide ((m.read k).2 = 0) && decide ((m.read k).1 = s)) = b) :
    Calls Try.prog 21 #[p, .int .i64 k, .string ⟨s.toArray⟩] w fun e w' => e = .returned (.bool b) ∧ Own w0 w' (dk p m :: L) := by
  subst hb
  have i1 : ((m.read k).2 == 0) = decide ((m.read k).2 = 0) := by by_cases h : (m.read k).2 = 0 <;> simp [h]
  have i2 : ((m.read k).1 == s) = decide ((m.read k).1 = s) := by by_cases h : (m.read k).1 = s <;> simp [h]
  generalize decide ((m.read k).2 = 0) = d1 at *
  generalize decide ((m.read k).1 = s) = d2 at *
  cases d1 <;> cases d2
  all_goals
    go_enter Try.func21, Try.ntmps21
    go_wp2_with fail
    refine (read_own O k hk).mono ?_
    clear O
    rintro e w1 ⟨rfl, O⟩
    go_wp2
    go_ret
    exact ⟨rfl, O⟩

/-- ints: the same numbers? -/
theorem ints_any (w : World) (a b : Option Addr) (ca cb : Nat) (xs ys : List Int) (G H : List Nat) (hx : SlR w (.slice a xs.length ca) (xs.map (Value.int .i64)) G) (hy : SlR w (.slice b ys.length cb) (ys.map (Value.int .i64)) H) (hn : xs.length ≤ maxLen) (hm : ys.length ≤ maxLen) (r : Bool) (hr : decide (xs = ys) = r) :
    Calls Try.prog 25 #[.slice a xs.length ca, .slice b ys.length cb] w fun e w' => e = .returned (.bool r) ∧ Chg [] w w' := by
  have hn2 : xs.length ≤ 9223372036854775807 := hn
  have hm2 : ys.length ≤ 9223372036854775807 := hm
  subst hr
  by_cases hl : xs.length = ys.length
  rotate_left
  · have hne : decide (xs = ys) = false := by simp; intro e; exact hl (by rw [e])
    rw [hne]
    have i1 : ((xs.length : Int) != (ys.length : Int)) = true := by simp; omega
    clear hl hne hx hy hn hm
    go_enter Try.func25, Try.ntmps25
    go_wp2
    go_ret
    exact ⟨rfl, Chg.refl _ _⟩
  · have i1 : ((xs.length : Int) != (ys.length : Int)) = false := by simp; omega
    have HX := Lib.hid hx; have HY := Lib.hid hy
    have HL := Lib.hid hl
    clear hx hy hn hm hl
    go_enter Try.func25, Try.ntmps25
    go_wp2_with fail
    go_loopw [5] (fun iv wr => ∃ k : Nat, k ≤ xs.length ∧ iv = .int .i64 k ∧ Chg [] w wr ∧ xs.take k = ys.take k) (fun iv _ => xs.length - (intOf iv).toNat)
    case atStart => exact ⟨0, by omega, rfl, Chg.refl _ _, rfl⟩
    case round =>
      obtain ⟨k, hk, rfl, ch, ht⟩ := hrel
      have HT := Lib.hid ht; clear ht
      have CC := Lib.hid ch; clear ch
      by_cases hlt : k < xs.length
      · have hb1 : (k : Int) < (xs.length : Int) := by omega
        have hlt2 : k < ys.length := by have := HL.out; omega
        have hb2 : (k : Int) < (ys.length : Int) := by omega
        obtain ⟨g, og, e1, d1⟩ := (HX.out.keep CC.out (by simp)).read (k := k) (by simpa using hlt)
        obtain ⟨h, oh, e2, d2⟩ := (HY.out.keep CC.out (by simp)).read (k := k) (by simpa using hlt2)
        subst e1 e2
        simp only [List.getElem_map] at d1 d2
        by_cases he : xs[k] = ys[k]
        · have i2 : (xs[k] != ys[k]) = false := by simp [he]
          have HE := Lib.hid he; clear he
          go_wp2_with fail
          go_quiet (fail)
          go_wp2
          go_roundw
          case rel => exact ⟨k + 1, by omega, by go_num, CC.out.drewN _, take_eq_snoc hlt hlt2 HT.out HE.out⟩
          case measure => simp [intOf]; omega
        · have i2 : (xs[k] != ys[k]) = true := by simp [he]
          have hne : decide (xs = ys) = false := by
            simp only [decide_eq_false_iff_not]
            intro e
            subst e
            exact he rfl
          have HNE := Lib.hid hne
          clear he hne
          go_wp2_with fail
          go_quiet (fail)
          go_wp2
          go_ret
          exact ⟨by rw [HNE.out]; rfl, CC.out.drewN _⟩
      · have he : decide (xs = ys) = true := by
          have hk2 : k = xs.length := by omega
          have := HT.out
          rw [hk2, List.take_length, List.take_of_length_le (by have := HL.out; omega)] at this
          simp [this]
        have HE := Lib.hid he
        clear he
        have hb1 : ¬ (k : Int) < (xs.length : Int) := by omega
        go_wp2
        go_ret
        exact ⟨by rw [HE.out]; rfl, CC.out⟩
end Go.Proofs.Ytobflkddkplpiaa
