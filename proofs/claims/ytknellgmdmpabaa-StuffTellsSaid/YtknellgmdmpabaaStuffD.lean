/- stuff: Unstuff. -/
import Derived.Test.YtknellgmdmpabaaStuffC
import Derived.ScopeJumps
import Derived.WalkMore
import Derived.Handy
namespace Go.Proofs.Ytknellgmdmpabaa
set_option linter.all false
open Go.RowKit Go.Shelf

/-- what is read of what was sent, behind acc -/
def uns : List UInt8 → List (List UInt8) → List UInt8 → List UInt8 × List UInt8 × Int
  | _, [], _ => ([], [], 8)
  | acc, l :: ls, r => if l = [46] then (acc, joinL ls ++ r, 0) else if hp l = true then (if hp l.tail = true then uns (acc ++ (l.tail ++ [13, 10])) ls r else ([], [], 4)) else uns (acc ++ (l ++ [13, 10])) ls r
def unsV (s : List UInt8) : List UInt8 × List UInt8 × Int := uns [] (cutL s).1 (cutL s).2
theorem cut_case (t : List UInt8) : (cutL t = ([], t) ∧ Lib.cut t [13, 10] = (t, [], false)) ∨
    ∃ x t', cutL t = (x :: (cutL t').1, (cutL t').2) ∧ Lib.cut t [13, 10] = (x, t', true) ∧ x.length + 2 + t'.length = t.length ∧ joinL (cutL t').1 ++ (cutL t').2 = t' := by
  rcases cutL_idx t with ⟨h1, h2⟩ | ⟨i, h1, h2, h3⟩
  · left
    refine ⟨h2, ?_⟩
    unfold Lib.cut
    rw [show Lib.index t [13, 10] = -1 from h1]
    rfl
  · right
    refine ⟨t.take i, t.drop (i + 2), h3, ?_, by simp; omega, (cutL_join _).1⟩
    unfold Lib.cut
    rw [show Lib.index t [13, 10] = i from h1, if_pos (by omega)]
    simp
theorem scut_any (t : List UInt8) (m : Int) (w : World) (hs : t.length < 4294967281) (hm : w.cell? ⟨0, 0, none⟩ = some (.int .i64 m)) {a b : List UInt8} {c : Bool} (hr : Lib.cut t [13, 10] = (a, b, c)) :
    Calls Try.prog 20 #[.string ⟨t.toArray⟩, .string ⟨#[13, 10]⟩] w fun e w' => e = .returned (.tuple #[.string ⟨a.toArray⟩, .string ⟨b.toArray⟩, .bool c]) ∧ ∃ n, w' = w.drewN n := by
  have h := Try.strings_Cut ⟨t.toArray⟩ ⟨#[13, 10]⟩ m w (by simpa [ByteArray.size] using hs) hm
  rw [show Lib.cut (⟨t.toArray⟩ : ByteArray).data.toList (⟨#[13, 10]⟩ : ByteArray).data.toList = (a, b, c) from hr] at h
  exact h
def UJ (w0 : World) (L : List Piece) (bb N : Nat) (R : List UInt8 × List UInt8 × Int) (a : Act) (w : World) : Prop :=
  ∃ (acc t : List UInt8) (x6 x7 x8 x9 x10 x11 x12 x13 x14 x15 x16 x17 x18 x19 x20 x21 x22 x23 x24 x25 x26 x27 x28 x29 : Value), a = { tmps := #[.string ⟨t.toArray⟩, undef, .string ⟨#[]⟩, .string ⟨#[]⟩, .int .i64 0, .pointer (some ⟨bb, 0, none⟩), x6, x7, x8, x9, x10, x11, x12, x13, x14, x15, x16, x17, x18, x19, x20, x21, x22, x23, x24, x25, x26, x27, x28, x29], defers := [] } ∧
    Own w0 w (bld bb acc :: L) ∧ uns acc (cutL t).1 (cutL t).2 = R ∧ acc.length + t.length ≤ N
def mu0 (a : Act) : Nat := match a.tmps.getD 0 undef with
  | Value.string s => s.size
  | _ => 0
def UnsPost (w0 : World) (L : List Piece) (r : List UInt8 × List UInt8 × Int) (e : Ending) (w' : World) : Prop := e = .returned (.tuple #[.string ⟨r.1.toArray⟩, .string ⟨r.2.1.toArray⟩, .int .i64 r.2.2]) ∧ Own w0 w' L

set_option maxHeartbeats 2000000 in
theorem unstuff_any {w0 w : World} {L : List Piece} (O : Own w0 w L) (m : Int) (hm : w0.cell? ⟨0, 0, none⟩ = some (.int .i64 m)) (l : List UInt8) (hl : l.length ≤ 10000000) :
    Calls Try.prog 10 #[.string ⟨l.toArray⟩] w (UnsPost w0 L (unsV l)) := by
  go_enter Try.func10, Try.ntmps10
  have HM := Lib.hid hm; clear hm
  obtain ⟨R, hR⟩ : ∃ R, uns [] (cutL l).1 (cutL l).2 = R := ⟨_, rfl⟩
  have O1 := O.newBld
  obtain ⟨bb, hbb⟩ : ∃ b, b = w.heap.size := ⟨_, rfl⟩
  rw [← hbb] at O1
  rw [show unsV l = R from hR]
  go_wp2
  refine wp_scope_jumps 0 (UJ w0 L bb 10000000 R) (fun a _ => mu0 a) rfl ?first ?pass
  focus
    obtain ⟨acc, hacc⟩ : ∃ a : List UInt8, a = [] := ⟨_, rfl⟩
    obtain ⟨t, ht⟩ : ∃ t, t = l := ⟨_, rfl⟩
    rw [← hacc] at O1 hR
    rw [← ht] at hR hl ⊢
    have HB : Hid (acc.length + t.length ≤ 10000000) := by unfold Hid; rw [hacc]; simpa using hl
    have HRR := Lib.hid hR
    clear hR O hacc ht hl
    go_wp2_with fail
    rw [← hbb]
    clear hbb
    have O := O1; clear O1
    have hb := HB.out
    refine wp_label ?_
    go_wp2_with fail
  rotate_left
  focus
    clear O O1 hR hbb hl
    rintro a w1 ⟨acc, t, x6, x7, x8, x9, x10, x11, x12, x13, x14, x15, x16, x17, x18, x19, x20, x21, x22, x23, x24, x25, x26, x27, x28, x29, rfl, O, hR, hb⟩
    have HB := Lib.hid hb; have HRR := Lib.hid hR
    clear hR
    go_wp2_with fail
  rotate_left
  all_goals
    rcases cut_case t with ⟨h1, h2⟩ | ⟨x, t', h1, h2, h3, h4⟩
    · refine (scut_any t m _ (by omega) (O.chg.cell HM.out (by simp)) h2).mono ?_
      have HR8 : Hid (R = ([], [], 8)) := by unfold Hid; rw [← HRR.out, h1]; rfl
      clear h1 h2
      rintro e w2 ⟨rfl, n, rfl⟩
      go_wp2
      simp only [Exit.jump]
      go_returns
      rw [HR8.out]
      exact ⟨rfl, (O.drewN n).drop⟩
    · refine (scut_any t m _ (by omega) (O.chg.cell HM.out (by simp)) h2).mono ?_
      have hR := HRR.out
      rw [h1] at hR
      have HR := Lib.hid hR; have H4 := Lib.hid h4
      clear h1 h2 h4 hR
      rintro e w2 ⟨rfl, n, rfl⟩
      replace O := O.drewN n
      by_cases hx : x = [46]
      · subst hx
        have HR0 : Hid (R = (acc, t', 0)) := by
          unfold Hid
          rw [← HR.out]
          unfold uns
          rw [if_pos rfl, H4.out]
        go_wp2_with fail
        refine (bstring_own O (by omega)).mono ?_
        clear O
        rintro e w3 ⟨rfl, O⟩
        go_wp2
        simp only [Exit.jump]
        go_returns
        rw [HR0.out]
        exact ⟨rfl, O⟩
      · have hx' : (x == [46]) = false := by simpa using hx
        go_wp2_with fail
        refine (hasPrefix_any x _).mono ?_
        rintro e w3 ⟨rfl, rfl⟩
        have hxl : acc.length + (x.length + 2) + t'.length ≤ 10000000 := by omega
        cases hh : hp x
        · have HR0 : Hid (uns (acc ++ (x ++ [13, 10])) (cutL t').1 (cutL t').2 = R) := by
            unfold Hid
            rw [← HR.out]
            conv => rhs; unfold uns
            rw [if_neg hx, hh]
            rfl
          clear hh hx'
          go_wp2_with fail
          refine (writeString_own O (x ++ [13, 10]) (by simp; omega)).mono ?_
          clear O
          rintro e w4 ⟨rfl, O⟩
          go_wp2
          first
            | exact wp_goto ⟨rfl, acc ++ (x ++ [13, 10]), t', _, _, _, _, _, _, _, _, _, _, _, _, _, _, _, _, _, _, _, _, _, _, _, _, rfl, O, HR0.out, by simp; omega⟩
            | exact wp_goto ⟨rfl, ⟨acc ++ (x ++ [13, 10]), t', _, _, _, _, _, _, _, _, _, _, _, _, _, _, _, _, _, _, _, _, _, _, _, _, rfl, O, HR0.out, by simp; omega⟩, by simp [mu0, ByteArray.size]; omega⟩
        · have hx0 : 1 ≤ x.length := by
            cases x with
            | nil => simp [hp, Lib.hasPrefix] at hh
            | cons a b => simp
          have hb1 : (1 : Int) ≤ (x.length : Int) := by omega
          go_wp2_with fail
          refine (hasPrefix_any x.tail _).mono ?_
          rintro e w3 ⟨rfl, rfl⟩
          cases hh2 : hp x.tail
          · have HR0 : Hid (R = ([], [], 4)) := by
              unfold Hid
              rw [← HR.out]
              conv => lhs; unfold uns
              rw [if_neg hx, hh, if_pos rfl, hh2]
              rfl
            clear hh hh2 hx'
            go_wp2
            simp only [Exit.jump]
            go_returns
            rw [HR0.out]
            exact ⟨rfl, O.drop⟩
          · have HR0 : Hid (uns (acc ++ (x.tail ++ [13, 10])) (cutL t').1 (cutL t').2 = R) := by
              unfold Hid
              rw [← HR.out]
              conv => rhs; unfold uns
              rw [if_neg hx, hh, if_pos rfl, hh2, if_pos rfl]
            clear hh hh2 hx'
            go_wp2_with fail
            refine (writeString_own O (x.tail ++ [13, 10]) (by simp; omega)).mono ?_
            clear O
            rintro e w4 ⟨rfl, O⟩
            go_wp2
            first
              | exact wp_goto ⟨rfl, acc ++ (x.tail ++ [13, 10]), t', _, _, _, _, _, _, _, _, _, _, _, _, _, _, _, _, _, _, _, _, _, _, _, _, rfl, O, HR0.out, by simp; omega⟩
              | exact wp_goto ⟨rfl, ⟨acc ++ (x.tail ++ [13, 10]), t', _, _, _, _, _, _, _, _, _, _, _, _, _, _, _, _, _, _, _, _, _, _, _, _, rfl, O, HR0.out, by simp; omega⟩, by simp [mu0, ByteArray.size]; omega⟩
end Go.Proofs.Ytknellgmdmpabaa
