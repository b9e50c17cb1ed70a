/- cmd, plain: what CmdLine, CmdBack ask. -/
import Derived.Test.YtehkdbgoeakgbaaGreatDoorCmOf
import Derived.Test.YtehkdbgoeakgbaaGreatDoorCmZ
import Derived.Test.YtehkdbgoeakgbaaGreatDoorFrameCd
namespace Go.Proofs.YtehkdbgoeakgbaaGreatDoor
set_option linter.all false
open Go.RowKit Go.Shelf

theorem word_pr : ∀ v : Nat, v ≤ 6 → (wordL v).all prB = true := by decide
theorem pn_pr {s : List UInt8} (h : pnB s = true) : ∀ c ∈ s, prB c = true := by
  intro c hc
  unfold pnB at h
  simp only [Bool.and_eq_true, List.all_eq_true] at h
  have h1 := h.2.2 c hc
  have := of256 (p := fun c => !(pnC c) || prB c) (by decide +kernel) c
  rw [h1] at this; simpa using this
theorem pt_pr {p : Pm} (h : pmB p = true) : ∀ c ∈ ptL p, prB c = true := by
  unfold pmB at h
  rw [Bool.and_eq_true, List.all_eq_true] at h
  intro c hc
  unfold ptL at hc
  have hv := of256 (p := fun c => !(pvC c) || prB c) (by decide +kernel) c
  simp only [List.mem_cons, List.mem_append] at hc
  rcases hc with rfl | hc | hc
  · decide
  · exact pn_pr h.1 c hc
  · split at hc
    · cases hc
    · rcases List.mem_cons.1 hc with rfl | hc
      · decide
      · rw [h.2 c hc] at hv; simpa using hv
theorem pms_pr {ps : List Pm} (h : pmsB ps = true) : ∀ c ∈ ps.flatMap ptL, prB c = true := by
  intro c hc
  unfold pmsB at h
  rw [Bool.and_eq_true] at h
  obtain ⟨p, hp, hc⟩ := List.mem_flatMap.1 hc
  exact pt_pr (pmsRun_all ps [] h.1 p hp) c hc
theorem line_pr {c : Cm} (h : mayCm c = true) : ∀ b ∈ lineCm c, prB b = true := by
  obtain ⟨h1, h6⟩ := may_verb h
  have hw := List.all_eq_true.1 (word_pr c.verb h6)
  obtain ⟨v, x, ps⟩ := c
  simp only at h1 h6 hw
  have hx : (∀ b ∈ x, prB b = true) ∧ (∀ b ∈ ps.flatMap ptL, prB b = true) := by
    match v, h1, h6 with
    | 1, _, _ =>
      simp only [mayCm, Bool.and_eq_true, List.isEmpty_iff] at h
      obtain ⟨h2, rfl⟩ := h
      exact ⟨may_pr h2, by simp⟩
    | 2, _, _ | 5, _, _ | 6, _, _ =>
      simp only [mayCm, Bool.and_eq_true, List.isEmpty_iff] at h
      obtain ⟨rfl, rfl⟩ := h
      exact ⟨by simp, by simp⟩
    | 3, _, _ =>
      simp only [mayCm, Bool.and_eq_true, Bool.or_eq_true, List.isEmpty_iff] at h
      obtain ⟨h2, h3⟩ := h
      refine ⟨?_, pms_pr h3⟩
      rcases h2 with rfl | h2
      · simp
      · exact addr_pr h2
    | 4, _, _ =>
      simp only [mayCm, Bool.and_eq_true] at h
      exact ⟨addr_pr h.1, pms_pr h.2⟩
  intro b hb
  unfold lineCm at hb
  simp only [List.mem_append] at hb
  rcases hb with hb | hb | hb
  · exact hw b hb
  · split at hb
    · simp only [List.mem_cons, List.mem_append, List.not_mem_nil, or_false] at hb
      rcases hb with rfl | hb | rfl
      · decide
      · exact hx.1 b hb
      · decide
    · exact hx.1 b hb
  · exact hx.2 b hb
theorem small_ps {x : List UInt8} {l : List Pm} (h : min 5000 x.length + sumP l < 5000) : x.length < 5000 ∧ l.length ≤ 1000 ∧ (l.flatMap ptL).length ≤ 5000 ∧ ∀ p ∈ l, p.1.length ≤ 5000 ∧ p.2.length ≤ 5000 := by
  have hm : ∀ p ∈ l, p.1.length ≤ 5000 ∧ p.2.length ≤ 5000 := fun p hp => by have := sumP_mem hp; omega
  have hf : ∀ q : List Pm, (∀ p ∈ q, p.1.length ≤ 5000 ∧ p.2.length ≤ 5000) → (q.flatMap ptL).length ≤ sumP q := by
    intro q
    induction q with
    | nil => intro _; simp
    | cons p q ih =>
      intro h
      have h1 := ih fun r hr => h r (List.mem_cons_of_mem _ hr)
      obtain ⟨h2, h3⟩ := h p List.mem_cons_self
      have h4 : (ptL p).length ≤ 2 + p.1.length + p.2.length := by unfold ptL; simp; split <;> simp <;> omega
      have h5 : sumP (p :: q) = 5 + min 5000 p.1.length + min 5000 p.2.length + sumP q := by simp [sumP]
      simp only [List.flatMap_cons, List.length_append]
      omega
  have := hf l hm
  have := sumP_len l
  exact ⟨by omega, by omega, by omega, hm⟩
/-- what Show tells, by cases -/
theorem show_three (c : Cm) : (mayCm c = true ∧ (lineCm c).length ≤ 510 ∧ showV7 c = .tuple #[.string ⟨(lineCm c).toArray⟩, .int .i64 0]) ∨ ∃ e : Int, (e = 4 ∨ e = 40) ∧ showV7 c = .tuple #[.string ⟨#[]⟩, .int .i64 e] := by
  cases h : mayCm c with
  | false => exact .inr ⟨4, .inl rfl, show7_no h⟩
  | true =>
    rcases Nat.lt_or_ge 510 (lineCm c).length with q | q
    · exact .inr ⟨40, .inr rfl, show7_long h q⟩
    · exact .inl ⟨rfl, q, show7_yes h q⟩
/-- a command that came in and is not long: what the law does with it -/
structure Small (w0 : World) (c : Cm) (a : Option Addr) (cap : Nat) : Prop where
  rd : ∀ w' L, Own w0 w' L → PmR w' (.slice a c.ps.length cap) c.ps
  vb : c.verb < 256
  arg : c.arg.length < 5000
  len : c.ps.length ≤ 1000
  pts : (c.ps.flatMap ptL).length ≤ 5000
  each : ∀ p ∈ c.ps, p.1.length ≤ 5000 ∧ p.2.length ≤ 5000
theorem CmdIn.small {w : World} {v : Value} {c : Cm} {a : Option Addr} {cap : Nat} (h : CmdIn w v c a cap) (hs : min 5000 c.arg.length + sumP c.ps < 5000) : Small w c a cap := by
  obtain ⟨h1, h2, h3, h4⟩ := small_ps hs
  exact ⟨fun w' L O => h.rd.chg O.chg, by have := h.vb; omega, h1, h2, h3, h4⟩
theorem CmdIn.long {w : World} {v : Value} {c : Cm} {a : Option Addr} {cap : Nat} (h : CmdIn w v c a cap) {w' : World} {L : List Piece} (O : Own w w' L) :
    Calls Tryz.prog 4 #[cmV c a c.ps.length cap] w' fun e w'' => ∃ r, e = .returned (.bool r) ∧ Own w w'' L ∧ (r = false → Small w c a cap) := by
  refine (long7_own O c rfl h.max h.arg h.each (fun w2 h2 => h.rd.chg h2.chg)).mono ?_
  rintro e w2 ⟨r, h1, h2, h3⟩
  exact ⟨r, h1, h2, fun hr => h.small (h3 hr)⟩
end Go.Proofs.YtehkdbgoeakgbaaGreatDoor
