/- mailroomlaw10: step. -/
import Derived.Test.YtobflkddkplpiaaStepsC
namespace Go.Proofs.Ytobflkddkplpiaa
set_option linter.all false
open Go.RowKit Go.Maps

def St.bytes (s : St) : List UInt8 := stepBytes s.by_ s.odd
theorem St.bytes_len (s : St) : s.bytes.length ≤ 1000000 := by
  unfold St.bytes stepBytes oddN; rw [List.length_replicate]; split <;> omega
def Dk.step (m : Dk) (s : St) : Dk :=
  if s.what = 0 then (m.write s.at0 s.bytes).1 else if s.what = 1 then m.sync.1 else if s.what = 2 then m.fail s.at0 else if s.what = 3 then (m.boot s.keep).1 else m
theorem St.i64le {s : St} (h : s.Wf) : s.at0 ≤ 9223372036854775807 := by
  have := bounds_i64 h.at0
  omega
theorem Dk.Fit.step {m : Dk} {c : Nat} (h : m.Fit c) {s : St} (sw : s.Wf) : (m.step s).Fit (c + 1) := by
  unfold Dk.step
  split
  · exact h.write _ _
  split
  · exact h.sync
  split
  · exact (h.fail (St.i64le sw)).mono (by omega)
  split
  · exact h.boot _
  · exact h.mono (by omega)
def St.val (s : St) : Value := .agg #[.int .u8 s.what, .int .i64 s.at0, .int .u8 (s.by_.toNat : Int), .int .i64 s.odd, .slice s.ka s.keep.length s.kc]

set_option maxRecDepth 100000 in
set_option maxHeartbeats 1000000 in
theorem step_own {w0 w : World} {L : List Piece} {p : Value} {m : Dk} {c : Nat} (O : Own w0 w (dk p m :: L)) (h : m.Fit c) (hc : c ≤ 9000) (s : St) (sw : s.Wf) {G : List Nat}
    (hs : SlR w0 (.slice s.ka s.keep.length s.kc) (s.keep.map (Value.int .i64)) G) :
    Calls Try.prog 22 #[p, .agg #[.int .u8 s.what, .int .i64 s.at0, .int .u8 (s.by_.toNat : Int), .int .i64 s.odd, .slice s.ka s.keep.length s.kc]] w fun e w' => e = .returned (.tuple #[]) ∧ Own w0 w' (dk p (m.step s) :: L) := by
  have O2 := O.newBox #[.int .u8 s.what, .int .i64 s.at0, .int .u8 (s.by_.toNat : Int), .int .i64 s.odd, .slice s.ka s.keep.length s.kc] 33
  have c0 := O2.cell 0
  have c1 := O2.cell 1
  have c2 := O2.cell 2
  have c3 := O2.cell 3
  have c4 := O2.cell 4
  obtain ⟨b, hb⟩ : ∃ b, b = w.heap.size := ⟨_, rfl⟩
  have O3 := (O2.pick 1)
  clear O O2
  obtain ⟨M, hM⟩ : ∃ M, M = m.step s := ⟨_, rfl⟩
  rw [← hM]
  unfold Dk.step at hM
  have ha : Hid (I64 s.at0) := Lib.hid sw.at0
  have hbl : Hid (s.bytes.length ≤ 1000000) := Lib.hid s.bytes_len
  have hk : Hid (s.keep.length ≤ maxLen) := Lib.hid sw.keep.1
  have HF := Lib.hid h; clear h
  have h5 := sw.what
  have hle := St.i64le sw
  have HS := Lib.hid hs; clear hs
  have hq : Hid (s.bytes = stepBytes s.by_ s.odd) := Lib.hid rfl
  clear sw
  by_cases h0 : s.what = 0
  · rw [if_pos h0] at hM
    obtain ⟨er, he⟩ : ∃ er, er = (m.write s.at0 s.bytes).2 := ⟨_, rfl⟩
    have HM : Hid (m.write s.at0 s.bytes = (M, er)) := Lib.hid (by rw [hM, he])
    clear hM he
    have i0 : (s.what == 0) = true := by simp [h0]
    clear h0
    go_enter Try.func22, Try.ntmps22
    go_wp2_with fail
    go_region_held3 (fun w' => w'.cell? ⟨w.heap.size, 0, none⟩ = some (.int .u8 s.what) ∧ w'.cell? ⟨w.heap.size, 1, none⟩ = some (.int .i64 s.at0) ∧ w'.cell? ⟨w.heap.size, 2, none⟩ = some (.int .u8 (s.by_.toNat : Int)) ∧ w'.cell? ⟨w.heap.size, 3, none⟩ = some (.int .i64 s.odd) ∧ w'.cell? ⟨w.heap.size, 4, none⟩ = some (.slice s.ka s.keep.length s.kc))
      (first
        | exact ⟨c0, c1, c2, c3, c4⟩
        | exact ⟨ch.cell c0 (by simp), ch.cell c1 (by simp), ch.cell c2 (by simp), ch.cell c3 (by simp), ch.cell c4 (by simp)⟩
        | exact ⟨(O5.pick 1).cell 0, (O5.pick 1).cell 1, (O5.pick 1).cell 2, (O5.pick 1).cell 3, (O5.pick 1).cell 4⟩)
      (first
        | (go_at_call 14; (with_reducible refine (bytes_any _ s.what s.at0 s.by_ s.odd s.ka s.keep.length s.kc).mono ?_); rw [← hq.out]; rintro e ws ⟨rfl, ch⟩; have O4 := O3.drew.pure ch)
        | (go_at_call 13; (with_reducible refine (write_fit O4 HF.out hc s.at0 ha.out s.bytes hbl.out HM.out).mono ?_); rintro e ws2 ⟨rfl, O5⟩))
    clear ch O3 O4
    have O6 := O5.selK 2 [0]
    clear O5
    go_wp2
    go_end0
    exact ⟨rfl, O6⟩
  rw [if_neg h0] at hM
  have i0 : (s.what == 0) = false := by simp [h0]
  clear h0
  by_cases h1 : s.what = 1
  · rw [if_pos h1] at hM
    obtain ⟨er, he⟩ : ∃ er, er = m.sync.2 := ⟨_, rfl⟩
    have HM : Hid (m.sync = (M, er)) := Lib.hid (by rw [hM, he])
    clear hM he
    have i1 : (s.what == 1) = true := by simp [h1]
    clear h1
    go_enter Try.func22, Try.ntmps22
    go_wp2_with fail
    refine (sync_fit O3 HF.out hc HM.out).mono ?_
    rintro e w5 ⟨rfl, O5⟩
    have O6 := O5.selK 2 [0]
    clear O5 O3
    go_wp2
    go_end0
    exact ⟨rfl, O6⟩
  rw [if_neg h1] at hM
  have i1 : (s.what == 1) = false := by simp [h1]
  clear h1
  by_cases h2 : s.what = 2
  · rw [if_pos h2] at hM
    have i2 : (s.what == 2) = true := by simp [h2]
    clear h2
    go_enter Try.func22, Try.ntmps22
    go_wp2_with fail
    refine (fail_any s.at0 hle O3).mono ?_
    rintro e w5 ⟨rfl, O5⟩
    rw [← hM] at O5
    have O6 := O5.selK 2 [0]
    clear O5 O3
    go_wp2
    go_end0
    exact ⟨rfl, O6⟩
  rw [if_neg h2] at hM
  have i2 : (s.what == 2) = false := by simp [h2]
  clear h2
  by_cases h3 : s.what = 3
  · rw [if_pos h3] at hM
    obtain ⟨er, he⟩ : ∃ er, er = (m.boot s.keep).2 := ⟨_, rfl⟩
    have HM : Hid (m.boot s.keep = (M, er)) := Lib.hid (by rw [hM, he])
    clear hM he
    have i3 : (s.what == 3) = true := by simp [h3]
    clear h3
    go_enter Try.func22, Try.ntmps22
    go_wp2_with fail
    refine (boot_fit O3 HF.out hc s.ka s.keep.length s.kc s.keep (fun w' m' O => ⟨G, O.cameSl HS.out⟩) hk.out HM.out).mono ?_
    rintro e w5 ⟨rfl, O5⟩
    have O6 := O5.selK 2 [0]
    clear O5 O3
    go_wp2
    go_end0
    exact ⟨rfl, O6⟩
  · rw [if_neg h3] at hM
    subst hM
    have i3 : (s.what == 3) = false := by simp [h3]
    clear h3
    have O6 := O3.selK 2 [0]
    clear O3
    go_enter Try.func22, Try.ntmps22
    go_wp2
    go_end0
    exact ⟨rfl, O6⟩
end Go.Proofs.Ytobflkddkplpiaa
