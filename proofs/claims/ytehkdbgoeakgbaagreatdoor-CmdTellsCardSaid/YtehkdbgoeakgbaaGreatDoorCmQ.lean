/- cmd, plain: what a command is, its line, the command of a line. -/
import Derived.Test.YtehkdbgoeakgbaaGreatDoorCmP
namespace Go.Proofs.YtehkdbgoeakgbaaGreatDoor
set_option linter.all false
open Go.RowKit

def upC (c : UInt8) : UInt8 := if 97 ≤ c.toNat ∧ c.toNat ≤ 122 then UInt8.ofNat (c.toNat - 32) else c
/-- a text in great letters -/
def upL (s : List UInt8) : List UInt8 := s.map upC
/-- a parameter: its name, its value -/
abbrev Pm := List UInt8 × List UInt8
def capB (c : UInt8) : Bool := decide (65 ≤ c.toNat ∧ c.toNat ≤ 90)
def pnC (c : UInt8) : Bool := capB c || decide (48 ≤ c.toNat ∧ c.toNat ≤ 57)
def pvC (c : UInt8) : Bool := decide (33 ≤ c.toNat ∧ c.toNat ≤ 126) && !(c == 61)
def pnB (s : List UInt8) : Bool := decide (1 ≤ s.length ∧ s.length ≤ 32) && (capB (s.getD 0 0) && s.all pnC)
def pmB (p : Pm) : Bool := pnB p.1 && p.2.all pvC
def pmsRun : List (List UInt8) → List Pm → Bool
  | _, [] => true
  | seen, p :: r => pmB p && (!seen.contains p.1 && pmsRun (seen ++ [p.1]) r)
def pmsB (l : List Pm) : Bool := pmsRun [] l && decide (l.length ≤ 8)
structure Cm where
  verb : Nat
  arg : List UInt8
  ps : List Pm
def mayCm (c : Cm) : Bool := match c.verb with
  | 1 => may c.arg && c.ps.isEmpty
  | 2 => c.arg.isEmpty && c.ps.isEmpty
  | 3 => (c.arg.isEmpty || parseB c.arg) && pmsB c.ps
  | 4 => parseB c.arg && pmsB c.ps
  | 5 => c.arg.isEmpty && c.ps.isEmpty
  | 6 => c.arg.isEmpty && c.ps.isEmpty
  | _ => false
def wordL : Nat → List UInt8
  | 1 => [69, 72, 76, 79, 32]
  | 2 => [83, 84, 65, 82, 84, 84, 76, 83]
  | 3 => [77, 65, 73, 76, 32, 70, 82, 79, 77, 58]
  | 4 => [82, 67, 80, 84, 32, 84, 79, 58]
  | 5 => [68, 65, 84, 65]
  | 6 => [81, 85, 73, 84]
  | _ => []
/-- a parameter's text -/
def ptL (p : Pm) : List UInt8 := 32 :: (p.1 ++ (if p.2 = [] then [] else 61 :: p.2))
def lineCm (c : Cm) : List UInt8 := wordL c.verb ++ ((if c.verb = 3 ∨ c.verb = 4 then 60 :: (c.arg ++ [62]) else c.arg) ++ c.ps.flatMap ptL)
/-- what Show tells: the line, and the error -/
def showCm (c : Cm) : List UInt8 × Int := if mayCm c = true then (if (lineCm c).length ≤ 510 then (lineCm c, 0) else ([], 40)) else ([], 4)
/-- the parameters of a text, each behind a blank -/
def wordOf (s : List UInt8) : List UInt8 := s.takeWhile fun c => !(c == 32)
def pmOf (w : List UInt8) : Pm := (upL (w.takeWhile fun c => !(c == 61)), (w.dropWhile fun c => !(c == 61)).drop 1)
def pmOk (w : List UInt8) : Bool := pmB (pmOf w) && !(w.contains 61 && (pmOf w).2.isEmpty)
def parsePs : Nat → List UInt8 → Option (List Pm)
  | _, [] => some []
  | 0, _ => none
  | n + 1, c :: s => if c = 32 ∧ pmOk (wordOf s) = true then (parsePs n (s.drop (wordOf s).length)).map (pmOf (wordOf s) :: ·) else none
theorem all256 {p : UInt8 → Bool} (h : ∀ n : Nat, n < 256 → p (UInt8.ofNat n) = true) (c : UInt8) : p c = true := by
  have := h c.toNat (UInt8.toNat_lt c)
  simpa using this
theorem pnC_up (c : UInt8) (h : pnC c = true) : upC c = c ∧ c ≠ 32 ∧ c ≠ 61 := by
  have := all256 (p := fun c => !pnC c || (upC c == c && (!(c == 32) && !(c == 61)))) (by decide +kernel) c
  simp only [h, Bool.not_true, Bool.false_or, Bool.and_eq_true, Bool.not_eq_true', beq_iff_eq, beq_eq_false_iff_ne] at this
  exact this
theorem pvC_ne (c : UInt8) (h : pvC c = true) : c ≠ 32 := by
  rintro rfl; revert h; decide
theorem upC_up (c : UInt8) : upC (upC c) = upC c := by
  have := all256 (p := fun c => upC (upC c) == upC c) (by decide +kernel) c
  simpa using this
theorem upL_up (s : List UInt8) : upL (upL s) = upL s := by
  unfold upL; rw [List.map_map]; congr 1; funext c; exact upC_up c
theorem pm_parts {p : Pm} (h : pmB p = true) : (∀ c ∈ p.1, pnC c = true) ∧ p.1 ≠ [] ∧ ∀ c ∈ p.2, pvC c = true := by
  unfold pmB pnB at h
  simp only [Bool.and_eq_true, decide_eq_true_eq] at h
  obtain ⟨⟨⟨h1, -⟩, -, h3⟩, h4⟩ := h
  refine ⟨List.all_eq_true.1 h3, ?_, List.all_eq_true.1 h4⟩
  intro e; rw [e] at h1; simp at h1
theorem takeWhile_split {p : UInt8 → Bool} {a b : List UInt8} (h1 : ∀ c ∈ a, p c = true) (h2 : b = [] ∨ ∃ c t, b = c :: t ∧ p c = false) : (a ++ b).takeWhile p = a ∧ (a ++ b).dropWhile p = b := by
  induction a with
  | nil =>
    rcases h2 with rfl | ⟨c, t, rfl, hc⟩
    · simp
    · simp [hc]
  | cons d a ih =>
    obtain ⟨i1, i2⟩ := ih (fun c hc => h1 c (by simp [hc]))
    have hd := h1 d (by simp)
    simp [hd, i1, i2]
/-- the word of a parameter -/
def wdL (p : Pm) : List UInt8 := p.1 ++ (if p.2 = [] then [] else 61 :: p.2)
theorem wdL_ok {p : Pm} (h : pmB p = true) : (∀ c ∈ wdL p, c ≠ 32) ∧ pmOf (wdL p) = p ∧ pmOk (wdL p) = true := by
  obtain ⟨h1, h2, h3⟩ := pm_parts h
  have hn : ∀ c ∈ p.1, (!(c == 61)) = true := fun c hc => by have := (pnC_up c (h1 c hc)).2.2; simpa using this
  have hup : upL p.1 = p.1 := by
    unfold upL
    conv => rhs; rw [← List.map_id p.1]
    exact List.map_congr_left (fun c hc => (pnC_up c (h1 c hc)).1)
  have e : pmOf (wdL p) = p := by
    unfold pmOf wdL
    by_cases q : p.2 = []
    · rw [if_pos q]
      obtain ⟨t1, t2⟩ := takeWhile_split hn (b := []) (.inl rfl)
      rw [t1, t2, hup]
      exact Prod.ext rfl (by simp [q])
    · rw [if_neg q]
      obtain ⟨t1, t2⟩ := takeWhile_split hn (b := 61 :: p.2) (.inr ⟨61, p.2, rfl, by decide⟩)
      rw [t1, t2, hup]
      rfl
  refine ⟨?_, e, ?_⟩
  · intro c hc
    unfold wdL at hc
    rcases List.mem_append.1 hc with hc | hc
    · exact (pnC_up c (h1 c hc)).2.1
    · by_cases q : p.2 = []
      · rw [if_pos q] at hc; cases hc
      · rw [if_neg q] at hc
        rcases List.mem_cons.1 hc with rfl | hc
        · decide
        · exact pvC_ne c (h3 c hc)
  · unfold pmOk
    rw [e, h, Bool.true_and]
    by_cases q : p.2 = []
    · have : (wdL p).contains 61 = false := by
        unfold wdL; rw [if_pos q, List.append_nil]
        rw [List.contains_eq_any_beq, List.any_eq_false]
        intro c hc
        have := (pnC_up c (h1 c hc)).2.2
        simpa using fun e => this e.symm
      rw [this]; rfl
    · have : p.2.isEmpty = false := by cases hp : p.2 with | nil => exact absurd hp q | cons _ _ => rfl
      rw [this]; simp
theorem parse_pt : ∀ (ps : List Pm) (n : Nat), (∀ p ∈ ps, pmB p = true) → (ps.flatMap ptL).length ≤ n → parsePs n (ps.flatMap ptL) = some ps
  | [], n, _, _ => by cases n <;> rfl
  | p :: ps, n, h, hn => by
    have hp := h p (by simp)
    obtain ⟨w1, w2, w3⟩ := wdL_ok hp
    have e : (p :: ps).flatMap ptL = 32 :: (wdL p ++ ps.flatMap ptL) := by simp [ptL, wdL]
    rw [e] at hn ⊢
    have hw : wordOf (wdL p ++ ps.flatMap ptL) = wdL p := by
      unfold wordOf
      refine (takeWhile_split (fun c hc => by simpa using w1 c hc) ?_).1
      cases ps with
      | nil => exact .inl rfl
      | cons q ps => exact .inr ⟨32, _, by simp [ptL]; rfl, by decide⟩
    cases n with
    | zero => simp at hn
    | succ n =>
      rw [parsePs, hw, if_pos ⟨rfl, w3⟩, List.drop_left, parse_pt ps n (fun p hp => h p (by simp [hp])) (by simp only [List.length_cons, List.length_append] at hn; omega), w2]
      rfl
theorem pmOf_up (w : List UInt8) (h : pmOk w = true) : upL (wdL (pmOf w)) = upL w ∧ (wdL (pmOf w)).length = w.length := by
  unfold pmOk at h
  rw [Bool.and_eq_true] at h
  obtain ⟨h1, h2⟩ := h
  have hs := List.takeWhile_append_dropWhile (p := fun c : UInt8 => !(c == 61)) (l := w)
  unfold pmOf wdL at *
  generalize ht : w.takeWhile (fun c => !(c == 61)) = a at *
  cases hd : w.dropWhile (fun c => !(c == 61)) with
  | nil =>
    rw [hd] at hs h2
    simp only [List.append_nil] at hs
    subst hs
    simp [upL, upC_up]
  | cons c t =>
    rw [hd] at hs h2
    have hc : c = 61 := by
      have := List.head?_dropWhile_not (p := fun c : UInt8 => !(c == 61)) (l := w)
      rw [hd] at this
      simpa using this
    subst hc
    have hcon : w.contains 61 = true := by rw [← hs]; simp
    rw [hcon] at h2
    simp only [List.drop_one, List.tail_cons, Bool.true_and, Bool.not_eq_true'] at h2 ⊢
    have hne : t ≠ [] := by rintro rfl; cases h2
    rw [if_neg hne, ← hs]
    constructor
    · unfold upL
      rw [List.map_append, List.map_append, List.map_map]
      congr 1
      exact List.map_congr_left (fun c _ => upC_up c)
    · simp [upL]
theorem drop_tw (p : UInt8 → Bool) : ∀ s : List UInt8, s.drop (s.takeWhile p).length = s.dropWhile p
  | [] => rfl
  | c :: s => by
    have ih := drop_tw p s
    simp only [List.takeWhile_cons, List.dropWhile_cons]
    cases p c
    · rfl
    · simpa using ih
theorem parse_up : ∀ (n : Nat) (s : List UInt8) (ps : List Pm), parsePs n s = some ps → (∀ p ∈ ps, pmB p = true) ∧ upL (ps.flatMap ptL) = upL s ∧ (ps.flatMap ptL).length = s.length
  | n, [], ps, h => by
    have : ps = [] := by cases n <;> (simp [parsePs] at h; exact h)
    subst this; simp [upL]
  | 0, c :: s, ps, h => by simp [parsePs] at h
  | n + 1, c :: s, ps, h => by
    rw [parsePs] at h
    split at h
    · rename_i hc
      obtain ⟨rfl, hk⟩ := hc
      cases hr : parsePs n (s.drop (wordOf s).length) with
      | none => rw [hr] at h; cases h
      | some qs =>
        rw [hr] at h
        simp only [Option.map_some, Option.some.injEq] at h
        subst h
        obtain ⟨i1, i2, i3⟩ := parse_up n _ qs hr
        obtain ⟨u1, u2⟩ := pmOf_up (wordOf s) hk
        have hw : s = wordOf s ++ s.drop (wordOf s).length := by
          have := List.takeWhile_append_dropWhile (p := fun c : UInt8 => !(c == 32)) (l := s)
          have e2 : s.drop (wordOf s).length = s.dropWhile fun c => !(c == 32) := drop_tw _ s
          rw [e2]; exact this.symm
        have e : (pmOf (wordOf s) :: qs).flatMap ptL = 32 :: (wdL (pmOf (wordOf s)) ++ qs.flatMap ptL) := by simp [ptL, wdL]
        rw [e]
        refine ⟨?_, ?_, ?_⟩
        · intro p hp
          rcases List.mem_cons.1 hp with rfl | hp
          · unfold pmOk at hk; rw [Bool.and_eq_true] at hk; exact hk.1
          · exact i1 p hp
        · conv => rhs; rw [hw]
          have q : ∀ a b : List UInt8, upL (32 :: (a ++ b)) = upC 32 :: (upL a ++ upL b) := fun a b => by simp [upL]
          rw [q, q, u1, i2]
        · conv => rhs; rw [hw]
          simp [u2, i3]
    · cases h
/-- where the path ends that a text begins by -/
def pathAt (s : List UInt8) : Option Nat := (List.range s.length).find? fun i => unB (s.take (i + 1))
def isWord (line : List UInt8) (v : Nat) : Bool := (wordL v).isPrefixOf (upL line)
def parseV1 (v : Nat) (r : List UInt8) : Option Cm :=
  if v = 3 ∨ v = 4 then match pathAt r with
    | none => none
    | some i => match parsePs r.length (r.drop (i + 1)) with
      | none => none
      | some ps => if mayCm ⟨v, unL (r.take (i + 1)), ps⟩ = true then some ⟨v, unL (r.take (i + 1)), ps⟩ else none
  else if mayCm ⟨v, r, []⟩ = true then some ⟨v, r, []⟩ else none
def parseCm (line : List UInt8) : Option Cm := match [1, 2, 3, 4, 5, 6].find? (isWord line) with
  | none => none
  | some v => parseV1 v (line.drop (wordL v).length)
theorem upL_app (a b : List UInt8) : upL (a ++ b) = upL a ++ upL b := by simp [upL]
theorem pathAt_some {s : List UInt8} {i : Nat} (h : pathAt s = some i) : i < s.length ∧ unB (s.take (i + 1)) = true := by
  unfold pathAt at h
  have h1 := List.find?_some h
  have h2 := List.mem_of_find?_eq_some h
  exact ⟨List.mem_range.1 h2, by simpa using h1⟩
theorem pathAt_is {s : List UInt8} {i : Nat} (hi : i < s.length) (hu : unB (s.take (i + 1)) = true) : pathAt s = some i := by
  cases h : pathAt s with
  | none =>
    unfold pathAt at h
    rw [List.find?_eq_none] at h
    exact absurd hu (by simpa using h i (List.mem_range.2 hi))
  | some j =>
    obtain ⟨j1, j2⟩ := pathAt_some h
    congr 1
    rcases Nat.lt_trichotomy j i with q | q | q
    · exact absurd (show j + 1 < i + 1 by omega) (path_one j2 hu (by omega))
    · exact q
    · exact absurd (show i + 1 < j + 1 by omega) (path_one hu j2 (by omega))
theorem pathAt_line {x : List UInt8} (h : (x.isEmpty || parseB x) = true) (r : List UInt8) : pathAt (60 :: (x ++ [62]) ++ r) = some (x.length + 1) := by
  refine pathAt_is (by simp) ?_
  have : (60 :: (x ++ [62]) ++ r).take (x.length + 1 + 1) = 60 :: (x ++ [62]) := by
    rw [show x.length + 1 + 1 = (60 :: (x ++ [62])).length by simp, List.take_left]
  rw [this]
  exact (un_of h).1
theorem word_up (v : Nat) : upL (wordL v) = wordL v := by
  match v with
  | 0 => rfl
  | 1 => decide
  | 2 => decide
  | 3 => decide
  | 4 => decide
  | 5 => decide
  | 6 => decide
  | n + 7 => rfl
theorem isWord_line {v : Nat} (hv : 1 ≤ v ∧ v ≤ 6) (r : List UInt8) : [1, 2, 3, 4, 5, 6].find? (isWord (wordL v ++ r)) = some v := by
  have hu : upL (wordL v ++ r) = wordL v ++ upL r := by rw [upL_app, word_up]
  unfold isWord
  simp only [hu]
  generalize upL r = t
  match v, hv with
  | 1, _ => simp [wordL, List.isPrefixOf]
  | 2, _ => simp [wordL, List.isPrefixOf]
  | 3, _ => simp [wordL, List.isPrefixOf]
  | 4, _ => simp [wordL, List.isPrefixOf]
  | 5, _ => simp [wordL, List.isPrefixOf]
  | 6, _ => simp [wordL, List.isPrefixOf]
theorem may_verb {c : Cm} (h : mayCm c = true) : 1 ≤ c.verb ∧ c.verb ≤ 6 := by
  unfold mayCm at h
  split at h <;> first | (rename_i e; rw [e]; omega) | cases h
theorem pmsRun_all : ∀ (l : List Pm) (seen : List (List UInt8)), pmsRun seen l = true → ∀ p ∈ l, pmB p = true
  | [], _, _, p, hp => by cases hp
  | q :: l, seen, h, p, hp => by
    simp only [pmsRun, Bool.and_eq_true] at h
    rcases List.mem_cons.1 hp with rfl | hp
    · exact h.1
    · exact pmsRun_all l _ h.2.2 p hp
theorem may_path {c : Cm} (h : mayCm c = true) (hv : c.verb = 3 ∨ c.verb = 4) : (c.arg.isEmpty || parseB c.arg) = true ∧ ∀ p ∈ c.ps, pmB p = true := by
  unfold mayCm at h
  rcases hv with e | e
  · rw [e] at h
    simp only [Bool.and_eq_true] at h
    have h2 := h.2
    unfold pmsB at h2
    rw [Bool.and_eq_true] at h2
    exact ⟨h.1, pmsRun_all _ _ h2.1⟩
  · rw [e] at h
    simp only [Bool.and_eq_true] at h
    have h2 := h.2
    unfold pmsB at h2
    rw [Bool.and_eq_true] at h2
    exact ⟨by rw [h.1]; simp, pmsRun_all _ _ h2.1⟩
theorem may_plain {c : Cm} (h : mayCm c = true) (hv : ¬ (c.verb = 3 ∨ c.verb = 4)) : c.ps = [] := by
  unfold mayCm at h
  split at h
  all_goals first
    | (simp only [Bool.and_eq_true, List.isEmpty_iff] at h; exact h.2)
    | (exfalso; apply hv; rename_i e; rw [e]; simp)
    | cases h
theorem parse_line {c : Cm} (h : mayCm c = true) : parseCm (lineCm c) = some c := by
  obtain ⟨v, x, ps⟩ := c
  have hv := may_verb h
  simp only at hv
  unfold parseCm lineCm
  simp only
  rw [isWord_line hv]
  simp only [List.drop_left]
  unfold parseV1
  by_cases q : v = 3 ∨ v = 4
  · obtain ⟨h1, h2⟩ := may_path h q
    rw [if_pos q, if_pos q, pathAt_line h1]
    simp only at h1 h2 ⊢
    have e1 : (60 :: (x ++ [62]) ++ ps.flatMap ptL).drop (x.length + 1 + 1) = ps.flatMap ptL := by
      rw [show x.length + 1 + 1 = (60 :: (x ++ [62])).length by simp, List.drop_left]
    have e2 : (60 :: (x ++ [62]) ++ ps.flatMap ptL).take (x.length + 1 + 1) = 60 :: (x ++ [62]) := by
      rw [show x.length + 1 + 1 = (60 :: (x ++ [62])).length by simp, List.take_left]
    rw [e1, e2, parse_pt ps _ h2 (by simp only [List.length_append]; omega), (un_of h1).2]
    simp only
    rw [if_pos h]
  · rw [if_neg q, if_neg q]
    have hp := may_plain h q
    simp only at hp
    subst hp
    simp only [List.flatMap_nil, List.append_nil]
    rw [if_pos h]
/-- what is parsed may be, and its line is the text, but for the letters -/
theorem parse_back {line : List UInt8} {c : Cm} (h : parseCm line = some c) : mayCm c = true ∧ upL (lineCm c) = upL line ∧ (lineCm c).length = line.length := by
  unfold parseCm at h
  cases hf : [1, 2, 3, 4, 5, 6].find? (isWord line) with
  | none => rw [hf] at h; cases h
  | some v =>
    rw [hf] at h
    simp only at h
    have hw := List.find?_some hf
    unfold isWord at hw
    have hpre : wordL v <+: upL line := List.isPrefixOf_iff_prefix.1 hw
    have hlen : (wordL v).length ≤ line.length := by
      have := hpre.length_le
      simpa [upL] using this
    have htk : upL (line.take (wordL v).length) = wordL v := by
      obtain ⟨t, ht⟩ := hpre
      have := congrArg (List.take (wordL v).length) ht
      rw [List.take_left] at this
      unfold upL at this ⊢
      rw [List.map_take]
      exact this.symm
    have hsplit := List.take_append_drop (wordL v).length line
    generalize hr : line.drop (wordL v).length = r at h hsplit
    have go : ∀ c : Cm, c.verb = v → upL ((if c.verb = 3 ∨ c.verb = 4 then 60 :: (c.arg ++ [62]) else c.arg) ++ c.ps.flatMap ptL) = upL r → ((if c.verb = 3 ∨ c.verb = 4 then 60 :: (c.arg ++ [62]) else c.arg) ++ c.ps.flatMap ptL).length = r.length → upL (lineCm c) = upL line ∧ (lineCm c).length = line.length := by
      intro c hc h1 h2
      constructor
      · unfold lineCm
        rw [upL_app, h1, hc, word_up, ← hsplit, upL_app, htk]
      · unfold lineCm
        rw [List.length_append, h2, hc, ← hsplit, List.length_append, List.length_take, Nat.min_eq_left hlen]
    unfold parseV1 at h
    by_cases q : v = 3 ∨ v = 4
    · rw [if_pos q] at h
      cases hp : pathAt r with
      | none => rw [hp] at h; cases h
      | some i =>
        rw [hp] at h
        simp only at h
        cases hps : parsePs r.length (r.drop (i + 1)) with
        | none => rw [hps] at h; cases h
        | some ps =>
          rw [hps] at h
          simp only at h
          split at h
          · rename_i hm
            simp only [Option.some.injEq] at h
            subst h
            obtain ⟨i1, i2⟩ := pathAt_some hp
            obtain ⟨u1, -⟩ := un_form i2
            obtain ⟨-, p2, p3⟩ := parse_up _ _ _ hps
            have hrr := List.take_append_drop (i + 1) r
            refine ⟨hm, go _ rfl ?_ ?_⟩
            · simp only [if_pos q]
              rw [upL_app, ← u1, p2, ← upL_app, hrr]
            · simp only [if_pos q]
              rw [List.length_append, ← u1, p3, ← List.length_append, hrr]
          · cases h
    · rw [if_neg q] at h
      split at h
      · rename_i hm
        simp only [Option.some.injEq] at h
        subst h
        refine ⟨hm, go _ rfl ?_ ?_⟩ <;> simp [if_neg q]
      · cases h
theorem line_inj {a b : Cm} (ha : mayCm a = true) (hb : mayCm b = true) (h : lineCm a = lineCm b) : a = b := by
  have h1 := parse_line ha
  rw [h, parse_line hb] at h1
  exact (Option.some.inj h1).symm
/-- letters of the verb's word otherwise: the same command -/
theorem parse_other {c : Cm} (h : mayCm c = true) {w : List UInt8} (hw : upL w = wordL c.verb) (r : List UInt8) (hr : lineCm c = wordL c.verb ++ r) : parseCm (w ++ r) = some c := by
  have h1 := parse_line h
  rw [hr] at h1
  have hl : w.length = (wordL c.verb).length := by
    have := congrArg List.length hw
    simpa [upL] using this
  unfold parseCm at h1 ⊢
  have hi : ∀ v, isWord (w ++ r) v = isWord (wordL c.verb ++ r) v := by
    intro v; unfold isWord; rw [upL_app, upL_app, hw, word_up]
  have hi2 : isWord (w ++ r) = isWord (wordL c.verb ++ r) := funext hi
  rw [hi2]
  rw [isWord_line (may_verb h)] at h1 ⊢
  simp only [List.drop_left] at h1 ⊢
  rw [← hl, List.drop_left]
  exact h1
theorem verb_up {a b : Cm} (ha : mayCm a = true) (hb : mayCm b = true) (h : upL (lineCm a) = upL (lineCm b)) : a.verb = b.verb := by
  have h1 := isWord_line (may_verb ha) ((if a.verb = 3 ∨ a.verb = 4 then 60 :: (a.arg ++ [62]) else a.arg) ++ a.ps.flatMap ptL)
  have h2 := isWord_line (may_verb hb) ((if b.verb = 3 ∨ b.verb = 4 then 60 :: (b.arg ++ [62]) else b.arg) ++ b.ps.flatMap ptL)
  have e : isWord (lineCm a) = isWord (lineCm b) := by funext v; unfold isWord; rw [h]
  unfold lineCm at e
  rw [e, h2] at h1
  exact (Option.some.inj h1).symm
end Go.Proofs.YtehkdbgoeakgbaaGreatDoor
