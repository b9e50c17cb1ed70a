/- mailroomref10.Disk: Sync. -/
import Derived.Test.YtobflkddkplpiaaPlayB
namespace Go.Proofs.Ytobflkddkplpiaa
set_option linter.all false
open Go.RowKit Go.Maps

def Dk.dry (m : Dk) : Dk := { m with was := fun _ => none }
theorem wet_none {m : Dk} (h : ∀ k, m.was k = none) : Bv (wetB m) = List.replicate m.n (.bool false) := by
  apply List.ext_getElem
  · simp [Bv, wetB_len]
  · intro i h1 h2
    simp [Bv, wetB, h]
theorem Own.copyStrs {w0 w : World} {L : List Piece} {v : Value} {ss : List (List UInt8)} (O : Own w0 w (strs v ss :: L)) :
    (v = .slice none 0 0 ∨ ∃ ad m c, v = .slice (some ad) m c) ∧ ∃ G, StrsR (w.alloc (.cells #[] 9)) v ss G :=
  ⟨O.strsKind, _, O.strsR.keep ((Chg.refl [] w).alloc _) (by simp)⟩
set_option maxRecDepth 100000 in
set_option maxHeartbeats 1000000 in
theorem xsync_own {w0 w : World} {L : List Piece} {p : Value} {m : Dk} {c : Nat} (O : Own w0 w (xk p m :: L)) (h : m.Fit c) (hc : c ≤ 9000) {m' : Dk} {er : Int} (hr : m.sync = (m', er)) :
    Calls Try.prog 39 #[p] w fun e w' => e = .returned (.int .i64 er) ∧ Own w0 w' (xk p m' :: L) := by
  obtain ⟨b, aw, cw, an, cn, at0, ct, f, lf, hp, hrel, U⟩ := O.xkE
  subst hp
  obtain ⟨c0, c1, c2, c3, c4, c5, c6, fr⟩ := U.xAt
  rcases Bool.eq_false_or_eq_true m.off with ho | ho
  · have hrd : m.sync = (m, 42) := by unfold Dk.sync; rw [if_pos ho]
    rw [hrd] at hr
    simp only [Prod.mk.injEq] at hr
    obtain ⟨rfl, rfl⟩ := hr
    rw [ho] at c6
    clear hrd ho U hrel
    go_enter Try.func39, Try.ntmps39
    go_wp2
    go_ret
    exact ⟨rfl, O⟩
  rw [ho] at c6
  have hrd : m.sync = (m.dry.did, 0) := by unfold Dk.sync; rw [if_neg (by simp [ho])]; rfl
  rw [hrd] at hr
  simp only [Prod.mk.injEq] at hr
  obtain ⟨rfl, rfl⟩ := hr
  obtain ⟨KD, GS, SR⟩ := (U.pick 2).copyStrs
  have KD' := Lib.hid KD; have SR' := Lib.hid SR
  have hl1 : Hid (([] : List (List UInt8)).length + m.nowL.length ≤ 1000000000) := Lib.hid (by rw [nowL_len]; have := h.n; simp; omega)
  have hnn : m.n ≤ 1024 := h.n
  have hop : m.dry.ops ≤ 100000 := by have := h.ops; show m.ops ≤ _; omega
  have hle : m.dry.left ≤ 9223372036854775807 := h.left
  have hrel2 : Rel m.dry f lf := ⟨hrel.on, hrel.none⟩
  have HO : Hid (m.dry.off = false) := Lib.hid ho
  have HR := Lib.hid hrel2; have HOP := Lib.hid hop; have HLE := Lib.hid hle
  clear hrd KD SR O ho hrel hrel2 hop hle
  obtain ⟨i0, hi0, hz0, hz1, hz2⟩ := info_parts info_bool
  have blt := U.boxlt
  have HI := Lib.hid hi0; have HZ := Lib.hid hz0; have HZ1 := Lib.hid hz1; have HZ2 := Lib.hid hz2
  clear hi0 hz0 hz1 hz2
  go_enter Try.func39, Try.ntmps39
  go_wp2_with (at_builtin; refine wpList_append_strsO rfl _ _ rfl _ [] _ m.nowL GS U.emptyStrs rfl rfl SR'.out KD'.out hl1.out ?_)
  intro v' w6 O6
  obtain ⟨a', c', rfl⟩ := O6.shape
  rw [nowL_len] at O6 ⊢
  clear c0 c1 c2 c3 c4 c5 c6 fr U blt KD' SR' hl1
  obtain ⟨c0, c1, c2, c3, c4, c5, c6, fr⟩ := (O6.pick 1).xAt
  have O7 := (O6.pick 1).set 0 (.slice a' m.n c')
  go_wp2_with (at_make; refine wpList_make_rowO (e := 4) (size := 1) rfl _ rfl i0 (.bool false) Try.underlying71 HI.out HZ.out HZ1.out (by rw [HZ2.out]; omega) m.n rfl (by omega) O7 ?_)
  intro g w8 O8
  clear c0 c1 c2 c3 c4 c5 c6 fr O6 O7
  have c2 : w8.cell? ⟨b, 2, none⟩ = some (.slice at0 m.n ct) := (O8.pick 1).cell 2
  have fr := (O8.pick 1).free
  have O9 := (O8.pick 1).set 2 (.slice (some ⟨g, 0, none⟩) m.n m.n)
  have e1 : Bv (wetB m.dry) = (madeCells #[Value.bool false] m.n).toList := by
    rw [wet_none (fun _ => rfl)]
    exact (made_false m.n).symm
  have e2 : m.dry.wasL = m.nowL := sync_wasL m
  have e3 : m.dry.nowL = m.nowL := rfl
  have O10 : Own w0 (w8.setCell ⟨b, 2, none⟩ (.slice (some ⟨g, 0, none⟩) m.n m.n)) (xk (.pointer (some ⟨b, 0, none⟩)) m.dry :: L) := Own.xkI (aw := a') (cw := c') (an := an) (cn := cn) (at0 := some ⟨g, 0, none⟩) (ct := m.n) HR.out (by
    rw [e1, e2, e3]
    exact O9.selK 6 [0, 2, 4, 1])
  clear hnn O8 O9 e1 e2 e3
  go_wp2_with fail
  refine (xdid_own O10 HO.out HOP.out HLE.out).mono ?_
  clear O10 c2 fr
  rintro e w5 ⟨rfl, O⟩
  go_wp2
  go_ret
  exact ⟨rfl, O⟩
end Go.Proofs.Ytobflkddkplpiaa
