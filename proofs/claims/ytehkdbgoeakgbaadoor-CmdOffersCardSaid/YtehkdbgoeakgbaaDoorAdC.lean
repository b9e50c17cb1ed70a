/- addr: quoted; the kinds of local parts. -/
import Derived.Test.YtehkdbgoeakgbaaDoorAdB
import Derived.Test.YtehkdbgoeakgbaaDoorSub
namespace Go.Proofs.YtehkdbgoeakgbaaDoor
set_option linter.all false
open Go.RowKit

theorem has_pre (s : List UInt8) (p : UInt8) : Lib.hasPrefix s [p] = (cutPre p s).2 := by
  cases s with
  | nil => rfl
  | cons c r =>
    simp only [Lib.hasPrefix, cutPre, List.isPrefixOf]
    by_cases h : c = p
    · subst h; simp
    · simp [h, Ne.symm h]
theorem trim_pre (s : List UInt8) (p : UInt8) : Lib.trimPrefix s [p] = (cutPre p s).1 := by
  unfold Lib.trimPrefix
  rw [has_pre]
  cases s with
  | nil => rfl
  | cons c r => by_cases h : c = p <;> simp [cutPre, h]
theorem has_suf (s : List UInt8) (p : UInt8) : Lib.hasSuffix s [p] = (s.getLast? == some p) := by
  have h : Lib.hasSuffix s [p] = ([p].reverse.isPrefixOf s.reverse) := rfl
  rw [h, ← List.head?_reverse]
  cases e : s.reverse with
  | nil => rfl
  | cons c r =>
    simp only [List.reverse_cons, List.reverse_nil, List.nil_append, List.isPrefixOf, List.head?_cons]
    by_cases h : c = p
    · subst h; simp
    · simp [h, Ne.symm h]; exact BEq.comm
theorem cutSuf_snd (s : List UInt8) (p : UInt8) : (cutSuf p s).2 = (s.getLast? == some p) := by
  unfold cutSuf
  by_cases h : s.getLast? = some p
  · rw [if_pos h, h]; simp
  · rw [if_neg h]; simp [h]
theorem trim_suf (s : List UInt8) (p : UInt8) : Lib.trimSuffix s [p] = (cutSuf p s).1 := by
  unfold Lib.trimSuffix cutSuf
  rw [has_suf]
  by_cases h : s.getLast? = some p
  · rw [if_pos h, h]; simp [List.dropLast_eq_take]
  · rw [if_neg h]; simp [h]
theorem lastAt_zero : ∀ {s : List UInt8}, lastAt s = 0 → ∀ j (h : j < s.length), s[j] ≠ 64
  | [], _, j, h => by simp at h
  | c :: r, h, j, hj => by
    unfold lastAt at h
    cases e : Nat.beq (lastAt r) 0
    · rw [e] at h; simp at h
    · rw [e] at h
      simp only [cond_true] at h
      have hr := lastAt_zero (Nat.eq_of_beq_eq_true e)
      cases j with
      | zero => intro hc; rw [List.getElem_cons_zero] at hc; rw [if_pos hc] at h; simp at h
      | succ j => simpa using hr j (by simpa using hj)
theorem lastAt_succ : ∀ {s : List UInt8} {i : Nat}, lastAt s = i + 1 → ∃ h : i < s.length, s[i] = 64 ∧ ∀ j (hj : j < s.length), i < j → s[j] ≠ 64
  | [], i, h => by simp [lastAt] at h
  | c :: r, i, h => by
    unfold lastAt at h
    cases e : Nat.beq (lastAt r) 0
    · rw [e] at h
      simp only [cond_false] at h
      have hi : lastAt r = i := by omega
      have hp : 0 < lastAt r := by
        rcases Nat.eq_zero_or_pos (lastAt r) with h0 | h0
        · rw [h0] at e; simp at e
        · exact h0
      obtain ⟨i', rfl⟩ : ∃ i', i = i' + 1 := ⟨i - 1, by omega⟩
      obtain ⟨h1, h2, h3⟩ := lastAt_succ hi
      refine ⟨by simp; omega, by simpa using h2, fun j hj hlt => ?_⟩
      cases j with
      | zero => omega
      | succ j => simpa using h3 j (by simpa using hj) (by omega)
    · rw [e] at h
      simp only [cond_true] at h
      have hr := lastAt_zero (Nat.eq_of_beq_eq_true e)
      by_cases hc : c = 64
      · rw [if_pos hc] at h
        obtain rfl : i = 0 := by omega
        refine ⟨by simp, by simpa using hc, fun j hj hlt => ?_⟩
        cases j with
        | zero => omega
        | succ j => simpa using hr j (by simpa using hj)
      · rw [if_neg hc] at h; omega
theorem last_at (s : List UInt8) : Lib.lastIndexByte ⟨s.toArray⟩ 64 = (lastAt s : Int) - 1 := by
  have hz : (⟨s.toArray⟩ : ByteArray).size = s.length := by simp [ByteArray.size]
  have hg : ∀ j (h : j < s.length), ((⟨s.toArray⟩ : ByteArray).data[j]!) = s[j] := fun j h => by simp [h]
  unfold Lib.lastIndexByte
  have tn : ∀ c : UInt8, (c.toNat : Int) = 64 → c = 64 := fun c h => by apply UInt8.toNat_inj.1; simpa using (show c.toNat = 64 by omega)
  rcases Lib.lastIdx_spec ⟨s.toArray⟩ 64 (⟨s.toArray⟩ : ByteArray).size with ⟨h1, h2⟩ | ⟨i, h1, h2, h3, h4⟩
  · rw [h1]
    cases e : lastAt s with
    | zero => rfl
    | succ i =>
      obtain ⟨q1, q2, q3⟩ := lastAt_succ e
      exact absurd (by rw [hg i q1, q2]; rfl) (h2 i (by rw [hz]; exact q1))
  · rw [h2]
    rw [hz] at h1 h4
    rw [hg i h1] at h3
    cases e : lastAt s with
    | zero => exact absurd (tn _ h3) (lastAt_zero e i h1)
    | succ k =>
      obtain ⟨q1, q2, q3⟩ := lastAt_succ e
      have : i = k := by
        rcases Nat.lt_trichotomy i k with h | h | h
        · exact absurd (by rw [hg k q1, q2]; rfl) (h4 k h q1)
        · exact h
        · exact absurd (tn _ h3) (q3 i h1 h)
      subst this; omega

theorem cutPre_le (p : UInt8) (s : List UInt8) : (cutPre p s).1.length ≤ s.length := by
  cases s with
  | nil => simp [cutPre]
  | cons c r => by_cases h : c = p <;> simp [cutPre, h]
theorem cutSuf_le (p : UInt8) (s : List UInt8) : (cutSuf p s).1.length ≤ s.length := by
  unfold cutSuf; split <;> simp
theorem cutPre_at (s : List UInt8) (w : World) (p : UInt8) : Calls Tryd.prog 54 #[.string ⟨s.toArray⟩, .string ⟨[p].toArray⟩] w fun e w' => e = .returned (.tuple #[.string ⟨(cutPre p s).1.toArray⟩, .bool (cutPre p s).2]) ∧ w = w' := by
  have h := Tryd.strings_CutPrefix ⟨s.toArray⟩ ⟨[p].toArray⟩ w
  simp only [trim_pre, has_pre] at h
  exact h.mono (fun _ _ ⟨a, b⟩ => ⟨a, b.symm⟩)
theorem cutSuf_at (s : List UInt8) (w : World) (p : UInt8) (hs : s.length ≤ 140737488351232) : Calls Tryd.prog 68 #[.string ⟨s.toArray⟩, .string ⟨[p].toArray⟩] w fun e w' => e = .returned (.tuple #[.string ⟨(cutSuf p s).1.toArray⟩, .bool (cutSuf p s).2]) ∧ w = w' := by
  have h := Tryd.strings_CutSuffix ⟨s.toArray⟩ ⟨[p].toArray⟩ w (by simp [ByteArray.size]; omega)
  simp only [trim_suf, has_suf] at h
  rw [cutSuf_snd]
  exact h.mono (fun _ _ ⟨a, b⟩ => ⟨a, b.symm⟩)
set_option maxHeartbeats 1000000 in
theorem quoted_own {w0 w : World} {L : List Piece} (O : Own w0 w L) (s : List UInt8) (hs : s.length ≤ 140737488351232) :
    Calls Tryd.prog 126 #[.string ⟨s.toArray⟩] w fun e w' => e = .returned (.bool (quotedB s)) ∧ Own w0 w' L := by
  have O1 := O.newBox #[.bool false] 4
  obtain ⟨B, hB⟩ : ∃ B, B = w.heap.size := ⟨_, rfl⟩
  rw [← hB] at O1
  have HA : Hid (quotedB s = ((cutPre 34 s).2 && ((cutSuf 34 (cutPre 34 s).1).2 && ((eachRun stepQ false (cutSuf 34 (cutPre 34 s).1).1).1 && !(eachRun stepQ false (cutSuf 34 (cutPre 34 s).1).1).2)))) := rfl
  generalize quotedB s = res at HA ⊢
  have l1 := cutPre_le 34 s
  have l2 := cutSuf_le 34 (cutPre 34 s).1
  have C1 := cutPre_at s w 34
  have C2 := cutSuf_at (cutPre 34 s).1 w 34 (by omega)
  generalize cutPre 34 s = p1 at HA l1 l2 C1 C2
  obtain ⟨t1, b1⟩ := p1
  generalize cutSuf 34 t1 = p2 at HA l2 C2
  obtain ⟨t2, b2⟩ := p2
  simp only at HA l1 l2 C1 C2
  have hl : t2.length ≤ 140737488351232 := by omega
  clear l1 l2
  go_enter Tryd.func126, Tryd.ntmps126
  go_wp2_with fail
  refine C1.mono ?_
  rintro e w1 ⟨rfl, rfl⟩
  go_wp2_with fail
  refine C2.mono ?_
  rintro e w1 ⟨rfl, rfl⟩
  go_wp2_with fail
  rw [← hB]
  refine (each_own (quoted1_tests B) (enters_of Tryd.func131 (by kernel_rfl) rfl) false t2 hl O1).mono ?_
  clear O O1 C1 C2
  rintro e w1 ⟨rfl, O⟩
  generalize eachRun stepQ false t2 = r at HA O ⊢
  obtain ⟨a, st⟩ := r
  have c0 : w1.cell? ⟨w.heap.size, 0, none⟩ = some (.bool st) := by rw [← hB]; exact Own.cell O 0
  have HA2 : Hid (res = (b1 && (b2 && (a && !st)))) := HA.out
  clear HA
  cases b1
  · go_wp2
    go_ret
    rw [HA2.out]; exact ⟨rfl, O.drop⟩
  cases b2
  · go_wp2
    go_ret
    rw [HA2.out]; exact ⟨rfl, O.drop⟩
  cases a
  · go_wp2
    go_ret
    rw [HA2.out]; exact ⟨rfl, O.drop⟩
  · cases st <;> (go_wp2; go_ret; rw [HA2.out]; exact ⟨rfl, O.drop⟩)

/-- the variable kinds holds what its initialiser lays -/
def Kinds (w : World) : Prop := w.cell? ⟨0, 0, none⟩ = some (.func (.func 125) #[] #[]) ∧ w.cell? ⟨0, 1, none⟩ = some (.func (.func 126) #[] #[])
theorem Kinds.own {w0 w : World} {L : List Piece} (h : Kinds w0) (O : Own w0 w L) : Kinds w := ⟨O.chg.cell h.1 (by simp), O.chg.cell h.2 (by simp)⟩
theorem is_own {w0 w : World} {L : List Piece} {S T : Nat} {s : List UInt8} {a : Nat} (O : Own w0 w (box S #[.string ⟨s.toArray⟩] 9 :: box T #[.int .i64 a] 3 :: L)) (ha : a ≤ s.length) (hs : s.length ≤ 140737488351232) (q : Bool) :
    Calls Tryd.prog 76 #[.func (.func (bif q then 126 else 125)) #[] #[], .pointer (some ⟨S, 0, none⟩), .pointer (some ⟨T, 0, none⟩)] w fun e w' => e = .returned (.bool (bif q then quotedB (s.take a) else atomsB (s.take a))) ∧ Own w0 w' (box S #[.string ⟨s.toArray⟩] 9 :: box T #[.int .i64 a] 3 :: L) := by
  have c0 : w.cell? ⟨S, 0, none⟩ = some (.string ⟨s.toArray⟩) := O.cell 0
  have c1 : w.cell? ⟨T, 0, none⟩ = some (.int .i64 a) := (O.pick 1).cell 0
  have hl : (s.take a).length ≤ 140737488351232 := by simp; omega
  have sub := run_subTo s a ha
  generalize s.take a = u at hl sub ⊢
  cases q
  · dsimp only [cond]
    go_enter Tryd.func76, Tryd.ntmps76
    go_wp2_with fail
    refine (atoms_own O u hl).mono ?_
    clear O
    rintro e w1 ⟨rfl, O⟩
    go_wp2
    go_ret
    exact ⟨rfl, O⟩
  · dsimp only [cond]
    go_enter Tryd.func76, Tryd.ntmps76
    go_wp2_with fail
    refine (quoted_own O u hl).mono ?_
    clear O
    rintro e w1 ⟨rfl, O⟩
    go_wp2
    go_ret
    exact ⟨rfl, O⟩
end Go.Proofs.YtehkdbgoeakgbaaDoor
