/- name: split, May. -/
import Derived.Test.YtehkdbgoeakgbaaDoorNameA
namespace Go.Proofs.YtehkdbgoeakgbaaDoor
set_option linter.all false
open Go.RowKit Go.Shelf
attribute [local go_sem] Oper.semAt_some

def encS (x : List UInt8) : Array Value := #[.string ⟨x.toArray⟩]
def boxS (B : Nat) (x : List UInt8) : Piece := box B #[.string ⟨x.toArray⟩] 9
theorem split_own {w0 w : World} {L : List Piece} (O : Own w0 w L) (l : List UInt8) :
    Calls Tryd.prog 58 #[.string ⟨l.toArray⟩] w fun e w' => ∃ B, e = .returned (.func (.func 72) #[] #[.pointer (some ⟨B, 0, none⟩)]) ∧ Own w0 w' (boxS B l :: L) := by
  go_enter Tryd.func58, Tryd.ntmps58
  go_wp2
  go_ret
  exact ⟨w.heap.size, rfl, O.newBox _ _⟩

/-- how long the text in a box is -/
def left (wr : World) (B : Nat) : Nat := match wr.cell? ⟨B, 0, none⟩ with
  | some (.string s) => s.size
  | _ => 0
theorem left_eq {w0 wr : World} {L : List Piece} {B : Nat} {x : List UInt8} (O : Own w0 wr (boxS B x :: L)) : left wr B = x.length := by
  have : wr.cell? ⟨B, 0, none⟩ = some (.string ⟨x.toArray⟩) := Own.cell O 0
  unfold left; rw [this]; rfl

set_option maxHeartbeats 1000000 in
theorem split_iter (l : List UInt8) (hl : l.length ≤ 1000000000) (B : Nat) : IterO Tryd.prog 72 #[.pointer (some ⟨B, 0, none⟩)] encS (cut46 l) (fun k => boxS B (sfx l k)) := by
  intro n w0 lp R Rx hY L W O h0
  refine callsIn_of_wp Tryd.func72 rfl trivial ?_
  simp only [Tryd.ntmps72, List.size_toArray, List.length_cons, List.length_nil, Nat.reduceAdd, Nat.reduceSub, Array.replicate_succ, Array.replicate_zero, List.push_toArray, List.append_toArray, List.nil_append, List.cons_append]
  have HY := Lib.hid hY; clear hY
  have HO := O
  gi_wp2
  gi_loopw [3] (fun _ wr => ∃ (k : Nat) (L : List Piece), k < (cut46 l).length ∧ Own w0 wr (boxS B (sfx l k) :: L) ∧ R k L) (fun _ wr => left wr B)
  case atStart => exact ⟨0, L, by have := cut46_ne l; exact List.length_pos_iff.2 this, O, h0⟩
  case round =>
    clear O HO h0
    obtain ⟨k, L, hk, O, hR⟩ := hrel
    have hle := sfx_le l k
    obtain ⟨e1, e2⟩ := sfx_at l k hk
    have E1 := Lib.hid e1; have E2 := Lib.hid e2
    clear e1 e2
    have c0 : wr.cell? ⟨B, 0, none⟩ = some (.string ⟨(sfx l k).toArray⟩) := Own.cell O 0
    have ML := Lib.hid (left_eq O)
    obtain ⟨s, hs⟩ : ∃ s, s = sfx l k := ⟨_, rfl⟩
    have TS : Hid (sfx l (k + 1) = tl46 s) := by rw [hs]; rfl
    rw [← hs] at O c0 ML E1 E2 hle
    have HS := Lib.hid hs; clear hs
    gi_wp2_with fail
    refine ⟨trivial, (fun h => by cases h), ?_⟩
    refine (callsIn_wide.2 (cutdot_any s _ (by omega))).mono ?_
    rintro e w1 ⟨rfl, ch1⟩
    rw [E1.out]
    replace O := O.pure ch1
    clear c0 ch1
    obtain ⟨fn, tmps, assign, body, hy, hRn⟩ := HY.out k hk L w1 (by show Own w0 w1 (boxS B (sfx l k) :: L); rw [← HS.out]; exact O) hR
    dsimp only [encS] at hy
    have E3 := E2.out
    obtain ⟨m, hm⟩ : ∃ m, m = has46 s := ⟨_, rfl⟩
    rw [← hm] at E3 ⊢
    have HM := Lib.hid hm; have HE := Lib.hid E3
    clear hm E3
    gi_wp2_with fail
    refine ⟨(fun h => by cases h), ?_⟩
    refine hRn.mono ?_
    clear hRn hy O
    rintro e W3 (⟨rfl, L', O3, hR3⟩ | ⟨rfl, L', O3, hx⟩)
    · have O3' : Own w0 W3 (boxS B s :: L') := by rw [HS.out]; exact O3
      have c0 : W3.cell? ⟨B, 0, none⟩ = some (.string ⟨s.toArray⟩) := Own.cell O3' 0
      have cf : ∀ o, W3.frozen? ⟨B, o, none⟩ = false := fun o => Own.free O3' o
      cases m
      · gi_wp2
        refine bodyPost_ret (results_none rfl _ _ _) rfl ?_
        have : k + 1 = (cut46 l).length := by have := HE.out; simp at this; omega
        exact ⟨⟨_, rfl⟩, .inl ⟨L', O3.drop, by rw [← this]; exact hR3⟩⟩
      · gi_wp2
        go_roundw
        case rel => exact ⟨k + 1, L', by have := HE.out; simpa using this, by rw [TS.out]; exact Own.set O3' 0 _, hR3⟩
        case measure =>
          rw [ML.out]
          have h4 : Own w0 (W3.setCell ⟨B, 0, none⟩ (.string ⟨(tl46 s).toArray⟩)) (boxS B (tl46 s) :: L') := Own.set O3' 0 _
          rw [left_eq h4]
          exact tl46_len HM.out.symm
    · gi_wp2
      refine bodyPost_ret (results_none rfl _ _ _) rfl ?_
      exact ⟨⟨_, rfl⟩, .inr ⟨L', O3.drop, hx⟩⟩
end Go.Proofs.YtehkdbgoeakgbaaDoor
