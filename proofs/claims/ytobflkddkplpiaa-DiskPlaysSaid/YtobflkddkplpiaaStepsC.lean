/- mailroomlaw10: long. -/
import Derived.Test.YtobflkddkplpiaaStepsB
import Derived.Test.YtobflkddkplpiaaDiskK
namespace Go.Proofs.Ytobflkddkplpiaa
set_option linter.all false
open Go.RowKit Go.Maps

/-- the cells of a step at g, off -/
structure StAt (w : World) (g off : Nat) (s : St) (G : List Nat) : Prop where
  c0 : w.cell? ⟨g, off, none⟩ = some (.int .u8 s.what)
  c1 : w.cell? ⟨g, off + 1, none⟩ = some (.int .i64 s.at0)
  c2 : w.cell? ⟨g, off + 2, none⟩ = some (.int .u8 (s.by_.toNat : Int))
  c3 : w.cell? ⟨g, off + 3, none⟩ = some (.int .i64 s.odd)
  c4 : w.cell? ⟨g, off + 4, none⟩ = some (.slice s.ka s.keep.length s.kc)
  sl : SlR w (.slice s.ka s.keep.length s.kc) (s.keep.map (Value.int .i64)) G
/-- element k of the steps that came in -/
theorem StepsR.at {w : World} {a : Option Addr} {n cap : Nat} {l : List St} {G : List Nat} (h : StepsR w (.slice a n cap) l G) {k : Nat} (hk : k < l.length) :
    ∃ g off, a = some ⟨g, off, none⟩ ∧ StAt w g (off + k * 5) l[k] G := by
  obtain ⟨a', cap', hv, h1, h2⟩ := h
  obtain ⟨g, off, rfl, hg, hc⟩ := h2 (by omega)
  simp only [Value.slice.injEq] at hv
  exact ⟨g, off, hv.1, ⟨hc k hk 0 (by omega), by rw [Nat.add_assoc]; exact hc k hk 1 (by omega), by rw [Nat.add_assoc]; exact hc k hk 2 (by omega), by rw [Nat.add_assoc]; exact hc k hk 3 (by omega), by rw [Nat.add_assoc]; exact hc k hk 4 (by omega), h1 _ (List.getElem_mem hk)⟩⟩
theorem StepsR.len {w : World} {a : Option Addr} {n cap : Nat} {l : List St} {G : List Nat} (h : StepsR w (.slice a n cap) l G) : n = l.length := by
  obtain ⟨a', cap', hv, _, _⟩ := h
  simp only [Value.slice.injEq] at hv
  exact hv.2.1

def LongPost (w : World) (n : Nat) (e : Ending) (w' : World) : Prop := ∃ r, e = .returned (.bool r) ∧ w = w' ∧ (r = false → n ≤ 300)
set_option maxRecDepth 100000 in
set_option maxHeartbeats 1000000 in
theorem long_any (w : World) (a : Option Addr) (cap : Nat) (l : List St) (G : List Nat) (hv : StepsR w (.slice a l.length cap) l G) (hl : l.length ≤ maxLen) (hwf : ∀ s ∈ l, s.Wf) :
    Calls Try.prog 9 #[.slice a l.length cap] w (LongPost w l.length) := by
  have hl2 : l.length ≤ 9223372036854775807 := hl
  have HV := Lib.hid hv
  have HW := Lib.hid hwf
  clear hv hl hwf
  go_enter Try.func9, Try.ntmps9
  go_wp2_with fail
  go_loopw [3, 4] (fun nv iv wr => ∃ k n : Nat, k ≤ l.length ∧ n ≤ 6100 ∧ 10 * k ≤ n ∧ nv = .int .i64 n ∧ iv = .int .i64 k ∧ wr = w) (fun nv iv _ => l.length - (intOf iv).toNat)
  case atStart => exact ⟨0, 0, by omega, by omega, by omega, rfl, rfl, rfl⟩
  case round =>
    obtain ⟨k, n, hk, hn, hkn, rfl, rfl, rfl⟩ := hrel
    by_cases hlt : k < l.length
    · have hb1 : (k : Int) < (l.length : Int) := by omega
      by_cases hlt2 : n < 3000
      · have hb2 : (n : Int) < 3000 := by omega
        obtain ⟨g, off, e1, hc⟩ := HV.out.at hlt
        subst e1
        obtain ⟨s, hs⟩ : ∃ s, s = l[k] := ⟨_, rfl⟩
        rw [← hs] at hc
        have c4 := hc.c4
        have sw : s.Wf := HW.out _ (by rw [hs]; exact List.getElem_mem hlt)
        have hkl : s.keep.length ≤ 9223372036854775807 := sw.keep.1
        obtain ⟨q, hq⟩ : ∃ q : Nat, q = min 3000 s.keep.length := ⟨_, rfl⟩
        have hq2 : min (3000 : Int) (s.keep.length : Int) = (q : Int) := by omega
        have hq3 : q ≤ 3000 := by omega
        have hq4 : (s.keep.length : Int) ≤ 9223372036854775807 := by omega
        clear hs sw hc hq
        go_wp2_with fail
        exact ⟨⟨k + 1, n + 10 + q, by omega, by omega, by omega, by go_num, by go_num, trivial⟩, by simp [intOf]; omega⟩
      · have hb2 : ¬ (n : Int) < 3000 := by omega
        have hb3 : (3000 : Int) ≤ (n : Int) := by omega
        go_wp2
        go_ret
        exact ⟨true, rfl, rfl, by simp⟩
    · have hb1 : ¬ (k : Int) < (l.length : Int) := by omega
      by_cases hlt2 : n < 3000
      · have hb3 : ¬ (3000 : Int) ≤ (n : Int) := by omega
        go_wp2
        go_ret
        exact ⟨false, rfl, rfl, fun _ => by omega⟩
      · have hb3 : (3000 : Int) ≤ (n : Int) := by omega
        go_wp2
        go_ret
        exact ⟨true, rfl, rfl, by simp⟩
end Go.Proofs.Ytobflkddkplpiaa
