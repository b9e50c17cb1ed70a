/- addr: lines. -/
import Derived.Test.YtlmifdkhdcbniaaDoorAdE
import Derived.Test.YtlmifdkhdcbniaaDoorLinePlain
namespace Go.Proofs.YtlmifdkhdcbniaaDoor
set_option linter.all false
open Go.RowKit

/-- a test of bytes that keeps nothing -/
def stepP (p : UInt8 → Bool) (st : Bool) (c : UInt8) : Bool × Bool := (p c, st)
theorem eachRun_stepP (p : UInt8 → Bool) : ∀ (s : List UInt8) (st : Bool), eachRun (stepP p) st s = (s.all p, st)
  | [], st => rfl
  | c :: r, st => by
    simp only [eachRun, stepP, List.all_cons]
    cases p c
    · rfl
    · simpa [stepP] using eachRun_stepP p r st
def lc (c : UInt8) : Bool := (c == 9) || decide (32 ≤ c.toNat ∧ c.toNat ≤ 126)
def idc (c : UInt8) : Bool := letterB c || (c == 45)
theorem b_is' (c d : UInt8) (n : Int) (hn : (d.toNat : Int) = n) : ((c.toNat : Int) == n) = (c == d) := by
  subst hn
  by_cases h : c = d
  · subst h; simp
  · have e : (c == d) = false := by simpa using h
    rw [e]
    cases q : ((c.toNat : Int) == (d.toNat : Int)) with
    | false => rfl
    | true => exfalso; apply h; apply UInt8.toNat_inj.1; have := eq_of_beq q; omega
set_option maxHeartbeats 1000000 in
theorem lines1_tests : Tests 68 #[] (fun _ => []) (stepP lc) := by
  intro w0 w L st c O
  change Own w0 w L at O
  show Calls Tryd.prog 68 #[.int .u8 (c.toNat : Int)] w fun e w' => e = .returned (.bool (lc c)) ∧ Own w0 w' L
  have h9 := b_is' c 9 9 rfl
  have HL : Hid (lc c = ((c == 9) || decide (32 ≤ c.toNat ∧ c.toNat ≤ 126))) := rfl
  generalize lc c = r at HL ⊢
  rcases Bool.eq_false_or_eq_true (c == 9) with q | q
  · rw [q] at h9 HL
    have fin : r = true := HL.out
    subst fin
    clear HL q
    go_enter Tryd.func68, Tryd.ntmps68
    go_wp2
    go_ret
    exact ⟨rfl, O⟩
  · rw [q] at h9 HL
    clear q
    by_cases h1 : 32 ≤ (c.toNat : Int)
    · by_cases h2 : (c.toNat : Int) ≤ 126
      · have fin : r = true := by rw [HL.out, decide_eq_true (by omega)]; rfl
        subst fin
        go_enter Tryd.func68, Tryd.ntmps68
        go_wp2
        go_ret
        exact ⟨rfl, O⟩
      · have fin : r = false := by rw [HL.out, decide_eq_false (by omega)]; rfl
        subst fin
        have hd : decide ((c.toNat : Int) ≤ 126) = false := by simp; omega
        go_enter Tryd.func68, Tryd.ntmps68
        go_wp2
        go_ret
        exact ⟨rfl, O⟩
    · have fin : r = false := by rw [HL.out, decide_eq_false (by omega)]; rfl
      subst fin
      go_enter Tryd.func68, Tryd.ntmps68
      go_wp2
      go_ret
      exact ⟨rfl, O⟩
set_option maxHeartbeats 1000000 in
theorem mail1_tests : Tests 49 #[] (fun _ => []) (stepP idc) := by
  intro w0 w L st c O
  change Own w0 w L at O
  show Calls Tryd.prog 49 #[.int .u8 (c.toNat : Int)] w fun e w' => e = .returned (.bool (idc c)) ∧ Own w0 w' L
  have h9 := b_is' c 45 45 rfl
  have HL : Hid (idc c = (letterB c || (c == 45))) := rfl
  generalize idc c = r at HL ⊢
  have LA := letter_at c w
  generalize letterB c = a at HL LA
  generalize (c == 45) = q at HL h9
  have HL2 : r = (a || q) := HL.out
  clear HL
  go_enter Tryd.func49, Tryd.ntmps49
  go_wp2_with fail
  refine LA.mono ?_
  rintro e w1 ⟨rfl, rfl⟩
  cases a <;> cases q <;> (subst HL2; go_wp2; go_ret; exact ⟨rfl, O⟩)
theorem eachLines_own {w0 w : World} {L : List Piece} (O : Own w0 w L) (s : List UInt8) (hs : s.length ≤ 140737488351232) :
    Calls Tryd.prog 48 #[.string ⟨s.toArray⟩, .func (.func 68) #[] #[]] w fun e w' => e = .returned (.bool (s.all lc)) ∧ Own w0 w' L := by
  have O' : Own w0 w ((fun _ : Bool => ([] : List Piece)) true ++ L) := O
  have EA := each_own (lb := #[]) (it := fun _ => []) (f := stepP lc) lines1_tests (enters_of Tryd.func68 (by kernel_rfl) rfl) true s hs O'
  simp only [eachRun_stepP] at EA
  exact EA
theorem eachId_own {w0 w : World} {L : List Piece} (O : Own w0 w L) (s : List UInt8) (hs : s.length ≤ 140737488351232) :
    Calls Tryd.prog 48 #[.string ⟨s.toArray⟩, .func (.func 49) #[] #[]] w fun e w' => e = .returned (.bool (s.all idc)) ∧ Own w0 w' L := by
  have O' : Own w0 w ((fun _ : Bool => ([] : List Piece)) true ++ L) := O
  have EA := each_own (lb := #[]) (it := fun _ => []) (f := stepP idc) mail1_tests (enters_of Tryd.func49 (by kernel_rfl) rfl) true s hs O'
  simp only [eachRun_stepP] at EA
  exact EA
/-- each line of a text may be, and it ends with one -/
def lineB (l : List UInt8) : Bool := decide (l.length + 2 ≤ 512) && l.all lc
def linesB (s : List UInt8) : Bool := (cutL s).1.all lineB && (cutL s).2.isEmpty
theorem linesB_nil : linesB [] = true := rfl
theorem cut_crlf {s : List UInt8} : (Lib.index s crlf = -1 ∧ cutL s = ([], s)) ∨ ∃ i : Nat, Lib.index s crlf = i ∧ i + 2 ≤ s.length ∧ cutL s = (s.take i :: (cutL (s.drop (i + 2))).1, (cutL (s.drop (i + 2))).2) := cutL_idx s
theorem linesB_none {s : List UInt8} (h : cutL s = ([], s)) (hs : s ≠ []) : linesB s = false := by
  unfold linesB; rw [h]
  cases s with
  | nil => exact absurd rfl hs
  | cons _ _ => rfl
theorem linesB_some {s : List UInt8} {i : Nat} (h : cutL s = (s.take i :: (cutL (s.drop (i + 2))).1, (cutL (s.drop (i + 2))).2)) : linesB s = (lineB (s.take i) && linesB (s.drop (i + 2))) := by
  unfold linesB; rw [h]; simp [Bool.and_assoc]
set_option maxRecDepth 100000 in
set_option maxHeartbeats 2000000 in
theorem lines_own {w0 w : World} {L : List Piece} {m : Int} (hm : w0.cell? ⟨1, 0, none⟩ = some (.int .i64 m)) (O : Own w0 w L) (s : List UInt8) (hs : s.length ≤ 1000000) :
    Calls Tryd.prog 47 #[.string ⟨s.toArray⟩] w fun e w' => e = .returned (.bool (linesB s)) ∧ Own w0 w' L := by
  obtain ⟨r, hr⟩ : ∃ r, r = linesB s := ⟨_, rfl⟩
  rw [← hr]
  have HR := Lib.hid hr
  clear hr
  go_enter Tryd.func47, Tryd.ntmps47
  go_wp2_with fail
  go_loopw [0] (fun sv wr => ∃ t : List UInt8, t.length ≤ s.length ∧ sv = .string ⟨t.toArray⟩ ∧ r = linesB t ∧ Own w0 wr L) (fun sv _ => match sv with | .string b => b.size | _ => 0)
  case atStart => exact ⟨s, Nat.le_refl _, rfl, HR.out, O⟩
  case round =>
    clear O HR
    obtain ⟨t, hl, rfl, ht, O⟩ := hrel
    have HT := Lib.hid ht
    clear ht
    by_cases he : t = []
    · subst he
      have fin : r = true := HT.out.trans linesB_nil
      subst fin
      go_wp2
      go_ret
      exact ⟨rfl, O⟩
    have hne : t.isEmpty = false := by cases t with
      | nil => exact absurd rfl he
      | cons _ _ => rfl
    have HMW := O.chg.cell hm (by simp)
    have CUT : Calls Tryd.prog 65 #[.string ⟨t.toArray⟩, .string ⟨#[13, 10]⟩] wr fun e w' => e = .returned (.tuple #[.string ⟨(Lib.cut t crlf).1.toArray⟩, .string ⟨(Lib.cut t crlf).2.1.toArray⟩, .bool (Lib.cut t crlf).2.2]) ∧ ∃ n, w' = wr.drewN n :=
      Tryd.strings_Cut ⟨t.toArray⟩ ⟨#[13, 10]⟩ m wr (by simp [ByteArray.size]; omega) HMW
    rcases cut_crlf (s := t) with ⟨q1, q2⟩ | ⟨i, q1, q2, q3⟩
    · have CC : Lib.cut t crlf = (t, [], false) := by unfold Lib.cut; rw [q1]; rfl
      have fin : r = false := HT.out.trans (linesB_none q2 he)
      subst fin
      rw [CC] at CUT
      clear CC q1 q2 HT
      go_wp2_with fail
      refine CUT.mono ?_
      clear CUT
      rintro e w1 ⟨rfl, n, rfl⟩
      go_wp2
      go_ret
      exact ⟨rfl, O.drewN n⟩
    · have CC : Lib.cut t crlf = (t.take i, t.drop (i + 2), true) := by
        unfold Lib.cut; rw [q1, if_pos (by omega)]; simp [crlf]
      have LS := Lib.hid (HT.out.trans (linesB_some q3))
      rw [CC] at CUT
      have l1 : (t.take i).length = i := by simp; omega
      have l2 : (t.drop (i + 2)).length < t.length := by simp; omega
      clear CC q1 q3 HT
      generalize t.take i = a at CUT LS l1
      generalize t.drop (i + 2) = b at CUT LS l2
      have s1 : IntKind.i64.wrap ((a.length : Int) + 2) = (a.length : Int) + 2 := IntWalk.i64_in _ (by omega)
      by_cases h5 : 512 < a.length + 2
      · have fin : r = false := by rw [LS.out]; unfold lineB; rw [decide_eq_false (by omega)]; rfl
        subst fin
        have h5' : (512 : Int) < (a.length : Int) + 2 := by omega
        clear LS
        go_wp2_with fail
        refine CUT.mono ?_
        clear CUT
        rintro e w1 ⟨rfl, n, rfl⟩
        go_wp2
        go_ret
        exact ⟨rfl, O.drewN n⟩
      have h5' : ¬ (512 : Int) < (a.length : Int) + 2 := by omega
      have LS2 : Hid (r = (a.all lc && linesB b)) := by unfold Hid; rw [LS.out]; unfold lineB; rw [decide_eq_true (by omega)]; rfl
      clear LS h5
      go_wp2_with fail
      refine CUT.mono ?_
      clear CUT
      rintro e w1 ⟨rfl, n, rfl⟩
      replace O := O.drewN n
      generalize wr.drewN n = W at O ⊢
      have hd : decide ((512 : Int) < (a.length : Int) + 2) = false := by simp; omega
      have LA := Lib.hid (show a.length ≤ 1000000 by omega)
      have LB := Lib.hid (show b.length < t.length ∧ b.length ≤ s.length by omega)
      clear HMW hs h5' l1 l2 hl
      go_wp2_with fail
      refine (eachLines_own O a (by have := LA.out; omega)).mono ?_
      clear O
      rintro e w1 ⟨rfl, O⟩
      generalize a.all lc = q at LS2 ⊢
      cases q
      · have fin : r = false := LS2.out
        subst fin
        go_wp2
        go_ret
        exact ⟨rfl, O⟩
      · go_wp2
        go_roundw
        case rel => exact ⟨b, LB.out.2, rfl, LS2.out, O⟩
        case measure => have := LB.out.1; simpa [ByteArray.size] using this
end Go.Proofs.YtlmifdkhdcbniaaDoor
