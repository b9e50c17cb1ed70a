/- reply.Show. -/
import Derived.Test.YtghgiaokdbeepaaReplyH
namespace Go.Proofs.Ytghgiaokdbeepaa
set_option linter.all false
open Go.RowKit

def numStr (c : Int) : List UInt8 := [UInt8.ofNat (48 + c / 100).toNat, UInt8.ofNat (48 + c / 10 % 10).toNat, UInt8.ofNat (48 + c % 10).toNat]
def shownAt (x : Rep) (i : Nat) : List UInt8 := numStr x.code ++ [if i + 1 = x.lines.length then 32 else 45] ++ x.lines.getD i []
def showTo (x : Rep) (k : Nat) : List (List UInt8) := (List.range k).map (shownAt x)
theorem showTo_len (x : Rep) (k : Nat) : (showTo x k).length = k := by simp [showTo]
theorem showTo_succ (x : Rep) (k : Nat) : showTo x (k + 1) = showTo x k ++ [shownAt x k] := by simp [showTo, List.range_succ]
def showBad (x : Rep) : Prop := x.lines.length < 1 ∨ 32 < x.lines.length ∨ classOf x.code = 0
instance (x : Rep) : Decidable (showBad x) := by unfold showBad; infer_instance
def showAll (x : Rep) : Prop := ∀ i, i < x.lines.length → (parse (shownAt x i)).err = 0
open Classical in
noncomputable def showOf (x : Rep) : List (List UInt8) := if showBad x then [] else if showAll x then showTo x x.lines.length else []
def ShowPost (x : Rep) (w : World) (e : Ending) (w' : World) : Prop :=
  ∃ v, e = .returned v ∧ w'.ownsRow w.heap.size 9 1 v (showOf x).length ((showOf x).map str) ∧ Chg [] w w'

theorem conv_num {u : World} {n : Nat} (hn : n = u.heap.size) (c : Int) (t : TypeId) :
    (convert 42 9 (.slice (some ⟨n, 0, none⟩) 3 3)).run Try.prog (u.alloc (.cells #[.int .u8 (48 + c / 100), .int .u8 (48 + c / 10 % 10), .int .u8 (48 + c % 10)] t)) =
      .ok (.string ⟨(numStr c).toArray⟩) (u.alloc (.cells #[.int .u8 (48 + c / 100), .int .u8 (48 + c / 10 % 10), .int .u8 (48 + c % 10)] t)) := by
  refine (run_convert_bytes_arg (P := Try.prog) _ 42 5 Try.underlying42 Try.underlying5 n 0 3 3 [48 + c / 100, 48 + c / 10 % 10, 48 + c % 10] rfl ?_ 9 Try.underlying9).trans ?_
  · intro i hi
    rw [cell_at (new_at hn)]
    match i, hi with
    | 0, _ => rfl
    | 1, _ => rfl
    | 2, _ => rfl
  · rfl

theorem shownAt_last {x : Rep} {k : Nat} (h : k < x.lines.length) (hk : k + 1 = x.lines.length) : numStr x.code ++ 32 :: x.lines[k] = shownAt x k := by simp [shownAt, hk, h]
theorem shownAt_more {x : Rep} {k : Nat} (h : k < x.lines.length) (hk : ¬ k + 1 = x.lines.length) : numStr x.code ++ 45 :: x.lines[k] = shownAt x k := by simp [shownAt, hk, h]

set_option maxHeartbeats 2000000 in
theorem show_any (w : World) (x : Rep) (s : Value) (G : List Nat) (hs : StrsR w s x.lines G) (hl : ∀ l ∈ x.lines, l.length ≤ 100000000) (hn : x.lines.length ≤ maxLen) :
    Calls Try.prog 15 #[.agg #[.int .i64 x.code, .string ⟨x.status.toArray⟩, s]] w (ShowPost x w) := by
  obtain ⟨a, cap, rfl, hr⟩ := id hs
  have HS := Lib.hid hs; clear hs
  have HL := Lib.hid hl; clear hl
  have HR := Lib.hid hr; clear hr
  have hn' : x.lines.length ≤ 9223372036854775807 := hn
  by_cases h1 : x.lines.length < 1
  · have h1' : (x.lines.length : Int) < 1 := by omega
    go_enter Try.func15, Try.ntmps15
    go_wp2
    go_ret
    exact ⟨_, rfl, by rw [showOf, if_pos (.inl h1)]; exact World.ownsRow_nil _ _ _ _, (Chg.refl _ _).alloc _⟩
  by_cases h2 : 32 < x.lines.length
  · have h1' : ¬ (x.lines.length : Int) < 1 := by omega
    have h2' : (32 : Int) < (x.lines.length : Int) := by omega
    go_enter Try.func15, Try.ntmps15
    go_wp2
    go_ret
    exact ⟨_, rfl, by rw [showOf, if_pos (.inr (.inl h2))]; exact World.ownsRow_nil _ _ _ _, (Chg.refl _ _).alloc _⟩
  by_cases h3 : classOf x.code = 0
  · have h1' : ¬ (x.lines.length : Int) < 1 := by omega
    have h2' : ¬ (32 : Int) < (x.lines.length : Int) := by omega
    have h3' : (classOf x.code == 0) = true := by simp [h3]
    have H3 := Lib.hid h3; clear h3
    go_enter Try.func15, Try.ntmps15
    go_wp2_with fail
    refine (class_any _ _).mono ?_
    rintro e w1 ⟨rfl, rfl⟩
    go_wp2
    go_ret
    exact ⟨_, rfl, by rw [showOf, if_pos (.inr (.inr H3.out))]; exact World.ownsRow_nil _ _ _ _, (Chg.refl _ _).alloc _⟩
  have hc := h3
  have HB : Hid (¬ showBad x) := by unfold Hid showBad; omega
  have hcode : 200 ≤ x.code ∧ x.code ≤ 599 := by unfold classOf at h3; split at h3 <;> omega
  have h3' : (classOf x.code == 0) = false := by simp [h3]
  have h1' : ¬ (x.lines.length : Int) < 1 := by omega
  have h2' : ¬ (32 : Int) < (x.lines.length : Int) := by omega
  obtain ⟨hc1, hc2⟩ := hcode
  clear h3 hc
  have hconv := conv_num (u := w.alloc (.cells #[.int .i64 x.code, .string ⟨x.status.toArray⟩, .slice a x.lines.length cap] 34)) (n := w.heap.size + 1) (by simp) x.code 5
  go_enter Try.func15, Try.ntmps15
  go_wp2_with fail
  refine (class_any _ _).mono ?_
  rintro e w1 ⟨rfl, rfl⟩
  go_wp2
  clear hconv
  go_loopw [4, 49] (fun o i wr => ∃ (k : Nat), k ≤ x.lines.length ∧ i = .int .i64 k ∧ wr.ownsRow (w.heap.size + 1) 9 1 o (showTo x k).length ((showTo x k).map str) ∧ (∀ j, j < k → (parse (shownAt x j)).err = 0) ∧
    wr.heap[w.heap.size]? = some (.cells #[.int .i64 x.code, .string ⟨x.status.toArray⟩, .slice a x.lines.length cap] 34 (0, 0)) ∧ Chg [] w wr) (fun _ i _ => x.lines.length - (intOf i).toNat)
  case atStart => exact ⟨0, by omega, rfl, World.ownsRow_nil _ _ _ _, fun j hj => by omega, alloc_keeps (heap_alloc_new _ _) _, ((Chg.refl _ _).alloc _).alloc _⟩
  case round =>
    obtain ⟨k, hk, rfl, row, hall, box, hch⟩ := hrel
    obtain ⟨ao, capo, rfl⟩ := row_shape row
    have R := Lib.hid row; clear row
    have A := Lib.hid hall; clear hall
    have X := Lib.hid box; clear box
    have C := Lib.hid hch; clear hch
    by_cases hlt : k < x.lines.length
    · obtain ⟨g, off, rfl, _, hcell⟩ := HR.out (by omega)
      have c1 := C.out.cell (hcell k hlt) (by simp)
      clear hcell
      have x2 : wr.cell? ⟨w.heap.size, 2, none⟩ = some (.slice (some ⟨g, off, none⟩) x.lines.length cap) := by rw [cell_at X.out]; rfl
      have hb1 : (k : Int) < (x.lines.length : Int) := by omega
      have hnl : (numStr x.code).length ≤ 3 := by simp [numStr]
      have hkl : x.lines[k].length ≤ 100000000 := HL.out _ (List.getElem_mem hlt)
      have hsl : (shownAt x k).length ≤ 100000004 := by
        unfold shownAt
        rw [List.getD_eq_getElem?_getD, List.getElem?_eq_getElem hlt]
        simp [numStr]; omega
      have HSL := Lib.hid hsl; clear hsl
      have HB0 : Hid (w.heap.size + 1 ≤ wr.heap.size) := by have := lt_of_block X.out; unfold Hid; omega
      have hr : ∀ e (W : World), e = (numStr x.code ++ 32 :: x.lines[k]) ∨ True := fun _ _ => .inr trivial
      clear hr
      have hlast : (((k : Int) == (x.lines.length : Int) - 1) = true ∧ Hid (numStr x.code ++ 32 :: x.lines[k] = shownAt x k)) ∨ (((k : Int) == (x.lines.length : Int) - 1) = false ∧ Hid (numStr x.code ++ 45 :: x.lines[k] = shownAt x k)) := by
        by_cases hlast : k + 1 = x.lines.length
        · exact .inl ⟨by simp; omega, shownAt_last hlt hlast⟩
        · exact .inr ⟨by simp; omega, shownAt_more hlt hlast⟩
      rcases hlast with ⟨hl', E⟩ | ⟨hl', E⟩
      all_goals
        go_wp2_with fail
        rw [E.out]
        refine (parse_any (shownAt x k) _ (by have := HSL.out; unfold maxLen; omega)).mono ?_
        rintro e w2 ⟨rfl, ch2⟩
        have X2 := Lib.hid (ch2.obj X.out (by simp))
        have R2 := Lib.hid (ch2.row R.out (by simp))
        have C2 := Lib.hid (C.out.pure ch2)
        have HB2 := Lib.hid (Nat.le_trans HB0.out ch2.size)
        clear ch2 c1 x2
        unfold parsedV
        have hpe := parse_err (shownAt x k)
        rcases hpe with he | ⟨hbd, he⟩
        · have he' : ((parse (shownAt x k)).err != 0) = false := by rw [he]; rfl
          have HE := Lib.hid he; clear he
          go_wp2_with (at_builtin; refine wpList_append_str rfl _ _ rfl (w.heap.size + 1) _ (showTo x k) (shownAt x k) rfl (R2.out.alloc _) w2.heap.size rfl (by rw [cell_at (heap_alloc_new _ _)]; rfl) (by rw [showTo_len]; omega) (Nat.le_trans HB2.out (by simp)) ?_)
          intro v' w3 hown hgr hfr
          have X3 := Lib.hid (grown_obj hgr (alloc_keeps X2.out _) (by intro e; have := (R2.out.lt _ e).1; omega))
          have C3 := Lib.hid ((C2.out.alloc (.cells #[.string ⟨(shownAt x k).toArray⟩] 9)).grown hgr (fun j hj hlt => by have := (R2.out.lt j hj).1; omega))
          have R3 : Hid (w3.ownsRow (w.heap.size + 1) 9 1 v' (showTo x (k + 1)).length ((showTo x (k + 1)).map str)) := by unfold Hid; rw [showTo_succ]; exact (by simpa using hown)
          clear hown hgr hfr
          go_wp2
          go_roundw
          case rel => exact ⟨k + 1, by omega, by go_num, R3.out, fun j hj => by
            by_cases e : j = k
            · subst e; exact HE.out
            · exact A.out j (by omega), X3.out, C3.out⟩
          case measure => simp [intOf]; omega
        · have he' : ((parse (shownAt x k)).err != 0) = true := by rw [he]; rfl
          have HE := Lib.hid he; clear he hbd
          go_wp2
          go_ret
          refine ⟨_, rfl, ?_, C2.out⟩
          rw [showOf, if_neg HB.out, if_neg (fun hh => by have := hh k hlt; rw [HE.out] at this; cases this)]
          exact World.ownsRow_nil _ _ _ _
    · obtain rfl : k = x.lines.length := by omega
      go_wp2
      go_ret
      refine ⟨_, rfl, ?_, C.out⟩
      rw [showOf, if_neg HB.out, if_pos (show showAll x from A.out)]
      exact ownsRow_mono R.out (by omega)
end Go.Proofs.Ytghgiaokdbeepaa
