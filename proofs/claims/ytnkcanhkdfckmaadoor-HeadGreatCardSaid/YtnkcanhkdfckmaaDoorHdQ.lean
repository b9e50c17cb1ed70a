/- head, plain: the fields of lines that are shown, folded or not; names with other letters. -/
import Derived.Test.YtnkcanhkdfckmaaDoorHdP
namespace Go.Proofs.YtnkcanhkdfckmaaDoor
set_option linter.all false
open Go.RowKit

/-- a line's places where it may be folded -/
inductive FoldOf (s : List UInt8) : Nat → List (List UInt8) → List UInt8 → Prop
  | zero : FoldOf s 0 [] []
  | keep {k : Nat} {ps : List (List UInt8)} {cur : List UInt8} (h : k < s.length) : FoldOf s k ps cur → FoldOf s (k + 1) ps (cur ++ [s[k]])
  | fold {k : Nat} {ps : List (List UInt8)} {cur : List UInt8} (h : k < s.length) : FoldOf s k ps cur → s[k] = 32 → (0 < k) → (∀ h' : k - 1 < s.length, s[k - 1] ≠ 58) → FoldOf s (k + 1) (ps ++ [cur]) [s[k]]
/-- the lines of a field, folded or not -/
def FdLines (f : Fd) (ls : List (List UInt8)) : Prop := ∃ p rest, ls = (f.1 ++ 58 :: 32 :: p) :: rest ∧ (∀ r ∈ rest, ∃ t, r = 32 :: t) ∧ p ++ rest.flatten = f.2
theorem nc_ne {c : UInt8} (h : nc c = true) : c ≠ 58 ∧ c ≠ 32 ∧ c ≠ 9 ∧ c ≠ 13 := by
  unfold nc at h
  rw [Bool.and_eq_true] at h
  have h1 := of_decide_eq_true h.1
  refine ⟨?_, ?_, ?_, ?_⟩ <;> (rintro rfl; revert h h1; decide)
theorem vc_ne {c : UInt8} (h : vc c = true) : c ≠ 13 := by
  rintro rfl; revert h; decide
theorem namedB_all {s : List UInt8} (h : namedB s = true) : s ≠ [] ∧ ∀ c ∈ s, nc c = true := by
  unfold namedB at h
  rw [Bool.and_eq_true] at h
  refine ⟨?_, List.all_eq_true.1 h.2⟩
  rintro rfl; cases h.1
theorem showB_all {f : Fd} (h : showB f = true) : namedB f.1 = true ∧ (∀ c ∈ f.2, vc c = true) ∧ trimL f.2 = f.2 := by
  unfold showB at h
  rw [Bool.and_eq_true, Bool.and_eq_true] at h
  exact ⟨h.2.1, List.all_eq_true.1 h.1, by simpa using h.2.2⟩
theorem foldOf_pre {nm vl : List UInt8} (hn : ∀ c ∈ nm, nc c = true) {s : List UInt8} (hs : s = nm ++ 58 :: 32 :: vl) {k : Nat} {ps : List (List UInt8)} {cur : List UInt8} (h : FoldOf s k ps cur) :
    k ≤ s.length ∧ (k ≤ nm.length + 2 → ps = [] ∧ cur = s.take k) ∧ (nm.length + 2 ≤ k → ∃ p rest, ps ++ [cur] = (nm ++ 58 :: 32 :: p) :: rest ∧ (∀ r ∈ rest, ∃ t, r = 32 :: t) ∧ p ++ rest.flatten = (s.take k).drop (nm.length + 2)) := by
  have at1 : ∀ (h : nm.length < s.length), s[nm.length] = 58 := by intro h; subst hs; simp
  have ht2 : s.take (nm.length + 2) = nm ++ [58, 32] := by
    subst hs
    rw [List.take_append]
    simp [List.take_of_length_le]
  have base : ∀ {k : Nat} {ps : List (List UInt8)} {cur : List UInt8}, k = nm.length + 2 → ps = [] → cur = s.take k → ∃ p rest, ps ++ [cur] = (nm ++ 58 :: 32 :: p) :: rest ∧ (∀ r ∈ rest, ∃ t, r = 32 :: t) ∧ p ++ rest.flatten = (s.take k).drop (nm.length + 2) := by
    rintro k ps cur rfl rfl rfl
    refine ⟨[], [], by rw [ht2]; rfl, by simp, ?_⟩
    rw [ht2, List.drop_of_length_le (by simp)]; rfl
  induction h with
  | zero => exact ⟨by omega, fun _ => ⟨rfl, rfl⟩, fun h => by omega⟩
  | @keep k ps cur hk h ih =>
    obtain ⟨i1, i2, i3⟩ := ih
    have a2 : k + 1 ≤ nm.length + 2 → ps = [] ∧ cur ++ [s[k]] = s.take (k + 1) := fun q => by
      obtain ⟨e1, e2⟩ := i2 (by omega)
      exact ⟨e1, by rw [e2, List.take_succ_eq_append_getElem hk]⟩
    refine ⟨by omega, a2, fun q => ?_⟩
    by_cases q2 : k + 1 = nm.length + 2
    · obtain ⟨e1, e2⟩ := a2 (by omega)
      exact base q2 e1 e2
    · obtain ⟨p, rest, e1, e2, e3⟩ := i3 (by omega)
      have hdr : (s.take (k + 1)).drop (nm.length + 2) = (s.take k).drop (nm.length + 2) ++ [s[k]] := by
        rw [List.take_succ_eq_append_getElem hk, List.drop_append_of_le_length (by simp; omega)]
      rcases List.eq_nil_or_concat rest with rfl | ⟨r0, rl, rfl⟩
      · have e4 : ps = [] ∧ cur = nm ++ 58 :: 32 :: p := by
          cases ps with
          | nil => simpa using e1
          | cons a t => simp at e1
        refine ⟨p ++ [s[k]], [], by rw [e4.1, e4.2]; simp, by simp, ?_⟩
        rw [hdr, ← e3]; simp
      · have e4 : ps = (nm ++ 58 :: 32 :: p) :: r0 ∧ cur = rl := by
          have : ps ++ [cur] = ((nm ++ 58 :: 32 :: p) :: r0) ++ [rl] := by rw [e1]; simp
          exact List.append_inj' this rfl |>.imp id (by simp)
        refine ⟨p, r0 ++ [rl ++ [s[k]]], by rw [e4.1, e4.2]; simp, ?_, ?_⟩
        · intro r hr
          rcases List.mem_append.1 hr with hr | hr
          · exact e2 r (by simp [hr])
          · simp at hr; subst hr
            obtain ⟨t, ht⟩ := e2 rl (by simp)
            exact ⟨t ++ [s[k]], by rw [ht]; rfl⟩
        · rw [hdr, ← e3]; simp
  | @fold k ps cur hk h h32 h0 h58 ih =>
    obtain ⟨i1, i2, i3⟩ := ih
    have hge : nm.length + 2 ≤ k := by
      rcases Nat.lt_or_ge k (nm.length + 2) with q | q
      · exfalso
        rcases Nat.lt_or_ge k nm.length with q2 | q2
        · have : s[k] = nm[k] := by subst hs; rw [List.getElem_append_left q2]
          have := (nc_ne (hn nm[k] (List.getElem_mem q2))).2.1
          simp_all
        · rcases Nat.lt_or_ge nm.length k with q3 | q3
          · have e : k - 1 = nm.length := by omega
            have := h58 (by omega)
            simp only [e] at this
            exact this (at1 (by omega))
          · have e : k = nm.length := by omega
            subst e
            rw [at1 hk] at h32
            cases h32
      · exact q
    obtain ⟨p, rest, e1, e2, e3⟩ := i3 hge
    refine ⟨by omega, fun q => by omega, fun _ => ⟨p, rest ++ [[s[k]]], by rw [e1]; simp, ?_, ?_⟩⟩
    · intro r hr
      rcases List.mem_append.1 hr with hr | hr
      · exact e2 r hr
      · simp at hr; subst hr; exact ⟨[], by rw [h32]⟩
    · rw [List.take_succ_eq_append_getElem hk, List.drop_append_of_le_length (by simp; omega), ← e3]; simp
theorem foldOf_lines {f : Fd} (hf : showB f = true) {ps : List (List UInt8)} {cur : List UInt8} (h : FoldOf (showL f) (showL f).length ps cur) : FdLines f (ps ++ [cur]) := by
  obtain ⟨h1, -, -⟩ := showB_all hf
  have hs : showL f = f.1 ++ 58 :: 32 :: f.2 := by unfold showL; rw [if_pos hf]; rfl
  obtain ⟨-, -, h3⟩ := foldOf_pre (namedB_all h1).2 hs h
  obtain ⟨p, rest, e1, e2, e3⟩ := h3 (by rw [hs]; simp)
  refine ⟨p, rest, e1, e2, ?_⟩
  rw [e3, List.take_length, hs]
  rw [show f.1 ++ 58 :: 32 :: f.2 = (f.1 ++ [58, 32]) ++ f.2 by simp, show f.1.length + 2 = (f.1 ++ [58, 32]).length by simp, List.drop_left]
theorem fdLines_plain {f : Fd} (hf : showB f = true) : FdLines f [showL f] :=
  ⟨f.2, [], by unfold showL; rw [if_pos hf]; rfl, by simp, by simp⟩
theorem fdLines_cr {f : Fd} (hf : showB f = true) {ls : List (List UInt8)} (h : FdLines f ls) : ∀ l ∈ ls, (∀ c ∈ l, c ≠ 13) ∧ l ≠ [] := by
  obtain ⟨h1, h2, -⟩ := showB_all hf
  obtain ⟨p, rest, rfl, e2, e3⟩ := h
  have hv : ∀ c, c ∈ p ++ rest.flatten → c ≠ 13 := fun c hc => vc_ne (h2 c (by rw [← e3]; exact hc))
  intro l hl
  rcases List.mem_cons.1 hl with rfl | hl
  · refine ⟨fun c hc => ?_, by simp⟩
    rcases List.mem_append.1 hc with hc | hc
    · exact (nc_ne ((namedB_all h1).2 c hc)).2.2.2
    · rcases List.mem_cons.1 hc with rfl | hc
      · decide
      · rcases List.mem_cons.1 hc with rfl | hc
        · decide
        · exact hv c (by simp [hc])
  · refine ⟨fun c hc => hv c (List.mem_append_right _ (List.mem_flatten.2 ⟨l, hl, hc⟩)), ?_⟩
    obtain ⟨t, rfl⟩ := e2 l hl
    simp
theorem begL_named {nm t : List UInt8} (h : namedB nm = true) : begB (nm ++ 58 :: t) = true ∧ begL (nm ++ 58 :: t) = (nm, t) ∧ contB (nm ++ 58 :: t) = false := by
  obtain ⟨h1, h2⟩ := namedB_all h
  have hk : nm.length < (nm ++ 58 :: t).length := by simp
  have h58 : (nm ++ 58 :: t)[nm.length] = 58 := by simp
  have hL : Lib.cut (nm ++ 58 :: t) [58] = (nm, t, true) := by
    rcases cut58 (nm ++ 58 :: t) with ⟨i, hi, i1, i2, i3⟩ | ⟨i1, -⟩
    · have e : i = nm.length := by
        rcases Nat.lt_trichotomy i nm.length with q | q | q
        · exfalso
          rw [List.getElem_append_left q] at i1
          exact (nc_ne (h2 _ (List.getElem_mem q))).1 i1
        · exact q
        · exact absurd h58 (i2 _ hk q)
      subst e
      rw [i3]
      simp
    · exact absurd h58 (i1 _ hk)
  have hB : begL (nm ++ 58 :: t) = (nm, t) := by unfold begL; rw [hL]
  refine ⟨by unfold begB; rw [hB, hL]; simp [h], hB, ?_⟩
  cases nm with
  | nil => exact absurd rfl h1
  | cons c n =>
    rw [List.cons_append, contB_cons]
    have := nc_ne (h2 c (by simp))
    unfold blankB
    simp [this.2.1, this.2.2.1]
theorem fs_cont_all : ∀ (rest : List (List UInt8)) (M : List (List UInt8)) (g : Fd), (∀ r ∈ rest, ∃ t, r = 32 :: t) → fs (some g) (rest ++ M) = fs (some (g.1, g.2 ++ rest.flatten)) M
  | [], M, g, _ => by simp
  | r :: rest, M, g, h => by
    obtain ⟨t, rfl⟩ := h r (by simp)
    have hc : contB (32 :: t) = true := by rw [contB_cons]; rfl
    rw [List.cons_append, fs, if_pos hc, fs_cont_all rest M _ (fun r hr => h r (by simp [hr]))]
    simp
theorem trim_blank (v : List UInt8) : trimL (32 :: v) = trimL v := by
  rw [trimL_is, trimL_is, List.dropWhile_cons, if_pos (by rfl)]
def StopL (M : List (List UInt8)) : Prop := M = [] ∨ ∃ A, M = [] :: A
theorem fs_now {now : Option Fd} {l : List UInt8} {ls : List (List UInt8)} (h1 : contB l = false) (h2 : begB l = true) : fs now (l :: ls) = now.toList.map trimF ++ fs (some (begL l)) ls := by
  cases now with
  | none => simp [fs, h2]
  | some g => simp [fs, h1, h2]
theorem fs_fds : ∀ (l : List Fd) (Ls : List (List (List UInt8))) (M : List (List UInt8)) (now : Option Fd), (∀ f ∈ l, showB f = true) → Ls.length = l.length → (∀ i (h1 : i < l.length) (h2 : i < Ls.length), FdLines l[i] Ls[i]) → StopL M → fs now (Ls.flatten ++ M) = now.toList.map trimF ++ l
  | [], Ls, M, now, _, hl, _, hM => by
    have : Ls = [] := List.eq_nil_of_length_eq_zero hl
    subst this
    rcases hM with rfl | ⟨A, rfl⟩
    · cases now <;> simp [fs]
    · cases now <;> simp [fs, begB_nil, contB_nil]
  | f :: l, Ls, M, now, hs, hl, hL, hM => by
    cases Ls with
    | nil => simp at hl
    | cons L0 Ls =>
      obtain ⟨p, rest, e1, e2, e3⟩ := hL 0 (by simp) (by simp)
      simp only [List.getElem_cons_zero] at e1 e3
      have hf := hs f (by simp)
      obtain ⟨n1, -, n3⟩ := showB_all hf
      obtain ⟨b1, b2, b3⟩ := begL_named (t := 32 :: p) n1
      have ih := fs_fds l Ls M (some (f.1, 32 :: f.2)) (fun g hg => hs g (by simp [hg])) (by simpa using hl) (fun i h1 h2 => by have := hL (i + 1) (by simpa using h1) (by simpa using h2); simpa using this) hM
      rw [List.flatten_cons, e1, List.append_assoc, List.cons_append, fs_now b3 b1, b2, fs_cont_all _ _ _ e2]
      have e4 : (32 :: p) ++ rest.flatten = 32 :: f.2 := by rw [← e3]; rfl
      simp only [e4]
      rw [ih]
      simp [trimF, trim_blank, n3]
/-- the text of these lines -/
def plainJ (l : List Fd) : List UInt8 := joinL (l.map showL)
theorem fields_lines {l : List Fd} {Ls : List (List (List UInt8))} (hs : ∀ f ∈ l, showB f = true) (hl : Ls.length = l.length) (hL : ∀ i (h1 : i < l.length) (h2 : i < Ls.length), FdLines l[i] Ls[i]) :
    fieldsL (joinL Ls.flatten) = l ∧ bodyL (joinL Ls.flatten) = [] ∧ ∀ y, fieldsL (joinL Ls.flatten ++ (crlf ++ y)) = l ∧ bodyL (joinL Ls.flatten ++ (crlf ++ y)) = y := by
  have hall : ∀ x ∈ Ls.flatten, (∀ c ∈ x, c ≠ 13) ∧ x ≠ [] := by
    intro x hx
    obtain ⟨L, hL1, hx⟩ := List.mem_flatten.1 hx
    obtain ⟨i, hi, rfl⟩ := List.mem_iff_getElem.1 hL1
    exact fdLines_cr (hs _ (List.getElem_mem (by omega))) (hL i (by omega) hi) x hx
  have c0 : cutL (joinL Ls.flatten) = (Ls.flatten, []) := by
    have := cutL_lines Ls.flatten [] (fun x hx => (hall x hx).1)
    simpa [cutL] using this
  refine ⟨?_, ?_, fun y => ?_⟩
  · unfold fieldsL
    rw [c0]
    have := fs_fds l Ls [] none hs hl hL (.inl rfl)
    simpa using this
  · exact body_none (by rw [c0]; exact fun x hx => (hall x hx).2)
  · have c1 : cutL (joinL Ls.flatten ++ (crlf ++ y)) = (Ls.flatten ++ [] :: (cutL y).1, (cutL y).2) := by
      rw [cutL_lines _ _ (fun x hx => (hall x hx).1)]
      show (Ls.flatten ++ (cutL (13 :: 10 :: y)).1, (cutL (13 :: 10 :: y)).2) = _
      rw [cutL, if_pos ⟨rfl, rfl⟩]
    constructor
    · unfold fieldsL
      rw [c1]
      have := fs_fds l Ls ([] :: (cutL y).1) none hs hl hL (.inr ⟨_, rfl⟩)
      simpa using this
    · rw [body_at (L := Ls.flatten) (A := (cutL y).1) (by rw [c1]) (fun x hx => (hall x hx).2), c1]
      exact (cutL_join y).1
theorem fields_plain {l : List Fd} (hs : ∀ f ∈ l, showB f = true) : fieldsL (plainJ l) = l ∧ bodyL (plainJ l) = [] ∧ ∀ y, fieldsL (plainJ l ++ (crlf ++ y)) = l ∧ bodyL (plainJ l ++ (crlf ++ y)) = y := by
  have := fields_lines (l := l) (Ls := l.map fun f => [showL f]) hs (by simp) (fun i h1 h2 => by simpa using fdLines_plain (hs _ (List.getElem_mem h1)))
  have e : (l.map fun f => [showL f]).flatten = l.map showL := by
    clear this hs
    induction l with
    | nil => rfl
    | cons a l ih => simp [ih]
  rw [e] at this
  exact this
theorem plainJ_app (a b : List Fd) : plainJ (a ++ b) = plainJ a ++ plainJ b := by unfold plainJ; rw [List.map_append, joinL_app]
theorem plainJ_one (f : Fd) : plainJ [f] = showL f ++ crlf := by simp [plainJ, joinL]

/-! letters -/
theorem nc_lw (c : UInt8) : nc (lw c) = nc c := by
  have : ∀ n : Nat, n < 256 → nc (lw (UInt8.ofNat n)) = nc (UInt8.ofNat n) := by decide +kernel
  have h := this c.toNat (UInt8.toNat_lt c)
  simpa using h
theorem named_small {a b : List UInt8} (h : smallL a = smallL b) : namedB a = namedB b := by
  have e : ∀ s : List UInt8, namedB (smallL s) = namedB s := by
    intro s
    unfold namedB smallL
    rw [List.all_map]
    have h1 : ((nc ∘ lw) : UInt8 → Bool) = nc := by funext c; exact nc_lw c
    rw [h1]
    cases s <;> rfl
  rw [← e a, ← e b, h]
theorem show_small {a b v : List UInt8} (h : smallL a = smallL b) : showB (a, v) = showB (b, v) := by
  unfold showB
  rw [named_small h]
/-- the same fields, but for their names' letters -/
def Alike (l m : List Fd) : Prop := l.map (fun f => (smallL f.1, f.2)) = m.map (fun f => (smallL f.1, f.2))
theorem vals_alike {l m : List Fd} (h : Alike l m) (name : List UInt8) : valsL name l = valsL name m := by
  have e : ∀ l : List Fd, valsL name l = ((l.map (fun f => (smallL f.1, f.2))).filter (fun x => x.1 == smallL name)).map Prod.snd := by
    intro l
    unfold valsL isN
    rw [List.filter_map, List.map_map]
    rfl
  rw [e l, e m, h]
theorem vals_name {a b : List UInt8} (h : smallL a = smallL b) (l : List Fd) : valsL a l = valsL b l := by
  unfold valsL isN; rw [h]
theorem vals_app (name : List UInt8) (a b : List Fd) : valsL name (a ++ b) = valsL name a ++ valsL name b := by simp [valsL]
theorem vals_one (name : List UInt8) (f : Fd) : valsL name [f] = if isN name f = true then [f.2] else [] := by
  unfold valsL
  by_cases h : isN name f = true
  · rw [if_pos h]; simp [h]
  · rw [if_neg h]; simp [h]
theorem oneNo_more {vs : List (List UInt8)} {v : List UInt8} : (oneNo vs && oneNo (vs ++ [v])) = false := by
  match vs with
  | [] => rfl
  | [a] => simp [oneNo]
  | a :: b :: t => rfl
theorem tls_rec : (smallL tlsN == smallL recN) = false := by decide
end Go.Proofs.YtnkcanhkdfckmaaDoor
