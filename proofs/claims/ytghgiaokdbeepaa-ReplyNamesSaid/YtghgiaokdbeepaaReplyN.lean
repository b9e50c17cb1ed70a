/- slices.Clone of strings; Reader.Copy; mailroomref05.Same. -/
import Derived.Test.YtghgiaokdbeepaaReplyM
import Derived.WalkSpells
import Derived.Deep.RegionHeld3
namespace Go.Proofs.Ytghgiaokdbeepaa
set_option linter.all false
open Go.RowKit

def ClonePost (ss : List (List UInt8)) (w : World) (e : Ending) (w' : World) : Prop :=
  ∃ v, e = .returned v ∧ w'.ownsRow w.heap.size 9 1 v ss.length (ss.map str) ∧ Chg [] w w'

set_option maxHeartbeats 1000000 in
theorem clone_any (w : World) (B : Nat) (v : Value) (ss : List (List UInt8)) (h : w.ownsRow B 9 1 v ss.length (ss.map str)) (hl : ss.length ≤ 1000000) :
    Calls Try.prog 34 #[v] w (ClonePost ss w) := by
  have hsn := fun (u : World) (a : Option Addr) (n c : Nat) => Lib.run_eql_slice_nil (P := Try.prog) u 32 9 a n c 0 0 Try.underlying32
  rcases h.2 with ⟨rfl, hn⟩ | ⟨g, cap, cur, rfl, hb, hg, hnc, hcm, hcs, htake⟩
  · have hss : ss = [] := List.eq_nil_of_length_eq_zero hn
    subst hss
    go_enter Try.func34, Try.ntmps34
    go_wp2
    go_ret
    exact ⟨_, rfl, World.ownsRow_nil _ _ _ _, Chg.refl _ _⟩
  · have hcells := h.cells (g := g) rfl
    have HC := Lib.hid hcells
    have HG := Lib.hid hg
    clear hcells h hg htake
    obtain ⟨i0, hi, hz0, hz1, hz2⟩ := info_parts info_str
    have hown0 : (w.alloc (.cells #[] 9)).ownsRow w.heap.size 9 1 (.slice (some ⟨w.heap.size, 0, none⟩) 0 0) 0 [] := World.ownsRow_made w #[] 0 (Nat.le_refl _) (by unfold maxLen; omega) (by simp)
    have HO := Lib.hid hown0; clear hown0
    go_enter Try.func34, Try.ntmps34
    go_wp2_with (at_builtin; refine wpList_append_new _ rfl _ _ 32 rfl w.heap.size 9 i0 (.string .empty) 1 16 Try.underlying32 hi hz0 hz1 hz2 rfl (by decide) _ 0 [] rfl HO.out ⟨g, 0, none⟩ ss.length cap (ss.map str) rfl (by simp) ?c1 ?c2 ?c3 ?c4 ?c5 ?_)
    case c1 =>
      intro j u hu
      have hc := HC.out j u hu
      have hlt : g < w.heap.size := lt_of_block HG.out
      have hadd : ((⟨g, 0, none⟩ : Addr).add j).block = g := by unfold Addr.add; split <;> rfl
      rw [World.cell?_of_block (w := w) (by rw [hadd]; exact Below.heap_alloc _ _ _ hlt)]
      exact hc
    case c2 => simp [str, Value.oneCell']
    case c3 => unfold maxLen; omega
    case c4 => omega
    case c5 => simp
    intro v' w' hown' hgr _
    clear hsn
    go_wp2
    go_ret
    refine ⟨_, rfl, by simpa using hown', ((Chg.refl [] w).alloc (.cells #[] 9)).grown hgr (fun k hk hlt => by simp [Value.ownBlock] at hk; omega)⟩
theorem setc {w : World} {a p : Addr} {v : Value} (u : Value) (h : p.block ≠ a.block) (hc : w.cell? p = some v) : (w.setCell a u).cell? p = some v :=
  (World.cell?_of_block (Below.heap_setCell _ _ _ _ h)).trans hc

def CopyPost (B : Nat) (m : Rd) (w : World) (e : Ending) (w' : World) : Prop :=
  ∃ a F', e = .returned (.pointer (some a)) ∧ RdOf w' B (.pointer (some a)) m F' ∧ Chg [] w w' ∧ ∀ k, k ∈ F' → w.heap.size ≤ k

set_option maxHeartbeats 2000000 in
theorem copy_any (w : World) (B : Nat) (p : Value) (m : Rd) (F : List Nat) (h : RdOf w B p m F) (h1 : m.now.lines.length ≤ 1000000) (h2 : m.last.lines.length ≤ 1000000) :
    Calls Try.prog 20 #[p] w (CopyPost B m w) := by
  obtain ⟨b, v1, v2, rfl, rfl, h⟩ := h
  obtain ⟨a1, cap1, rfl⟩ := row_shape h.now
  obtain ⟨a2, cap2, rfl⟩ := row_shape h.last
  have c0 : w.cell? ⟨b, 0, none⟩ = some (.int .i64 m.now.code) := by rw [cell_at h.obj]; rfl
  have c1 : w.cell? ⟨b, 1, none⟩ = some (.string ⟨m.now.status.toArray⟩) := by rw [cell_at h.obj]; rfl
  have c2 : w.cell? ⟨b, 2, none⟩ = some (.slice a1 m.now.lines.length cap1) := by rw [cell_at h.obj]; rfl
  have c3 : w.cell? ⟨b, 3, none⟩ = some (.int .i64 m.last.code) := by rw [cell_at h.obj]; rfl
  have c4 : w.cell? ⟨b, 4, none⟩ = some (.string ⟨m.last.status.toArray⟩) := by rw [cell_at h.obj]; rfl
  have c5 : w.cell? ⟨b, 5, none⟩ = some (.slice a2 m.last.lines.length cap2) := by rw [cell_at h.obj]; rfl
  have c6 : w.cell? ⟨b, 6, none⟩ = some (.bool m.has) := by rw [cell_at h.obj]; rfl
  have c7 : w.cell? ⟨b, 7, none⟩ = some (.bool m.dead) := by rw [cell_at h.obj]; rfl
  have H := Lib.hid h
  have hb := lt_of_block h.obj
  clear h
  go_enter Try.func20, Try.ntmps20
  go_wp2_with fail
  obtain ⟨W1, hW1⟩ : ∃ W1, W1 = w.alloc (.cells #[.int .i64 m.now.code, .string ⟨m.now.status.toArray⟩, .slice a1 m.now.lines.length cap1, .int .i64 m.last.code, .string ⟨m.last.status.toArray⟩, .slice a2 m.last.lines.length cap2, .bool m.has, .bool m.dead] 67) := ⟨_, rfl⟩
  have C1 : Hid (Chg [] w W1) := by rw [hW1]; exact (Chg.refl _ _).alloc _
  have O1 : Hid (W1.heap[w.heap.size]? = some (.cells #[.int .i64 m.now.code, .string ⟨m.now.status.toArray⟩, .slice a1 m.now.lines.length cap1, .int .i64 m.last.code, .string ⟨m.last.status.toArray⟩, .slice a2 m.last.lines.length cap2, .bool m.has, .bool m.dead] 67 (0, 0))) := by rw [hW1]; exact heap_alloc_new _ _
  rw [← hW1]
  clear hW1 c0 c1 c3 c4 c6 c7
  have d2 := C1.out.cell (p := ⟨b, 2, none⟩) c2 (by simp)
  have d5 := C1.out.cell (p := ⟨b, 5, none⟩) c5 (by simp)
  have N1 : Hid (W1.drew.ownsRow B 9 1 (.slice a1 m.now.lines.length cap1) m.now.lines.length (m.now.lines.map str)) := C1.out.row H.out.now (by simp)
  have L1 : Hid (W1.drew.ownsRow B 9 1 (.slice a2 m.last.lines.length cap2) m.last.lines.length (m.last.lines.map str)) := C1.out.row H.out.last (by simp)
  have O1d : Hid (W1.drew.heap[w.heap.size]? = some (.cells #[.int .i64 m.now.code, .string ⟨m.now.status.toArray⟩, .slice a1 m.now.lines.length cap1, .int .i64 m.last.code, .string ⟨m.last.status.toArray⟩, .slice a2 m.last.lines.length cap2, .bool m.has, .bool m.dead] 67 (0, 0))) := O1.out
  have hne : b ≠ w.heap.size := by omega
  clear c2 c5
  generalize hc : w.heap.size = c at *
  have HSZ := Lib.hid hc
  clear hc
  go_region_held3 (fun w' => w'.cell? ⟨b, 2, none⟩ = some (.slice a1 m.now.lines.length cap1) ∧ w'.cell? ⟨b, 5, none⟩ = some (.slice a2 m.last.lines.length cap2))
    (first
      | exact ⟨d2, d5⟩
      | exact ⟨ch2.cell (p := ⟨b, 2, none⟩) d2 (by simp), ch2.cell (p := ⟨b, 5, none⟩) d5 (by simp)⟩
      | exact ⟨ch3.cell (p := ⟨b, 2, none⟩) (ch2.cell (p := ⟨b, 2, none⟩) d2 (by simp)) (by simp), ch3.cell (p := ⟨b, 5, none⟩) (ch2.cell (p := ⟨b, 5, none⟩) d5 (by simp)) (by simp)⟩
      | exact ⟨setc _ hne (ch3.cell (p := ⟨b, 2, none⟩) (ch2.cell (p := ⟨b, 2, none⟩) d2 (by simp)) (by simp)), setc _ hne (ch3.cell (p := ⟨b, 5, none⟩) (ch2.cell (p := ⟨b, 5, none⟩) d5 (by simp)) (by simp))⟩
      | exact ⟨setc _ hne (setc _ hne (ch3.cell (p := ⟨b, 2, none⟩) (ch2.cell (p := ⟨b, 2, none⟩) d2 (by simp)) (by simp))), setc _ hne (setc _ hne (ch3.cell (p := ⟨b, 5, none⟩) (ch2.cell (p := ⟨b, 5, none⟩) d5 (by simp)) (by simp)))⟩)
    (first
      | (go_at_call 34; (with_reducible refine (clone_any _ B (.slice a1 m.now.lines.length cap1) m.now.lines N1.out h1).mono ?_); rintro e w2 ⟨v2, rfl, row2, ch2⟩; obtain ⟨b1, cp1, rfl⟩ := row_shape row2)
      | (go_at_call 34; (with_reducible refine (clone_any w2 B (.slice a2 m.last.lines.length cap2) m.last.lines (ch2.row L1.out (fun _ _ => List.not_mem_nil)) h2).mono ?_); rintro e w3 ⟨v3, rfl, row3, ch3⟩; obtain ⟨b3, cp3, rfl⟩ := row_shape row3; have O3 := ch3.obj (ch2.obj O1d.out (by simp)) (by simp); have g2 : w3.cell? ⟨c, 2, none⟩ = some (.slice a1 m.now.lines.length cap1) := (by rw [cell_at O3]; rfl); have g5 : w3.cell? ⟨c, 5, none⟩ = some (.slice a2 m.last.lines.length cap2) := (by rw [cell_at O3]; rfl); have gf : ∀ o, w3.frozen? ⟨c, o, none⟩ = false := fun o => free_at O3 o; clear O3))
  have O3 := Lib.hid (ch3.obj (ch2.obj O1d.out (by simp)) (by simp))
  have M2 := Lib.hid (ch3.row row2 (by simp)); have M3 := Lib.hid row3
  have B2 := Lib.hid (fun k hk => (row2.lt k hk)); have B3 := Lib.hid (fun k hk => (row3.lt k hk).1)
  have C3 := Lib.hid (((C1.out.drew).pure ch2).pure ch3)
  have s1 := Lib.hid (lt_of_block O1.out)
  have s2 : Hid (W1.heap.size ≤ w2.heap.size) := ch2.size
  have s3 := Lib.hid C1.out.size
  clear row2 row3 ch2 ch3 d2 d5 g2 g5 gf
  go_wp2
  go_ret
  have eB : ∀ k, (Value.slice b1 m.now.lines.length cp1).ownBlock = some k → W1.heap.size ≤ k ∧ k < w2.heap.size := B2.out
  have eB3 : ∀ k, (Value.slice b3 m.last.lines.length cp3).ownBlock = some k → w2.heap.size ≤ k := B3.out
  have t1 := s1.out; have t2 := s2.out; have t3 := s3.out; have t4 := HSZ.out
  refine ⟨⟨c, 0, none⟩, fp c (.slice b1 m.now.lines.length cp1) (.slice b3 m.last.lines.length cp3), rfl, ⟨c, _, _, rfl, rfl, ?_⟩, (C3.out.setN (by omega) _ _).setN (by omega) _ _, ?_⟩
  · have n1 : (Value.slice b1 m.now.lines.length cp1).ownBlock ≠ some c := fun e => by have := eB c e; omega
    have n2 : (Value.slice b3 m.last.lines.length cp3).ownBlock ≠ some c := fun e => by have := eB3 c e; omega
    refine ⟨?_, ownsRow_mono (ownsRow_setCell_other (ownsRow_setCell_other M2.out n1 _) n1 _) ?_, ownsRow_mono (ownsRow_setCell_other (ownsRow_setCell_other M3.out n2 _) n2 _) ?_, ?_, n1, n2, ?_⟩
    · have := set_cells (set_cells O3.out 2 (.slice b1 m.now.lines.length cp1)) 5 (.slice b3 m.last.lines.length cp3)
      simpa using this
    · show B ≤ W1.heap.size
      have := H.out.base; omega
    · have := H.out.base; omega
    · have := H.out.base; omega
    · intro k hk hk2
      have := (eB k hk).2; have := eB3 k hk2; omega
  · intro k hk
    simp only [fp, List.mem_cons, List.mem_append, Option.mem_toList] at hk
    rcases hk with rfl | hk | hk
    · omega
    · have := (eB k hk).1; omega
    · have := eB3 k hk; omega
end Go.Proofs.Ytghgiaokdbeepaa
