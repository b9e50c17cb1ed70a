/- DiskFails: the plain law, and the walk. -/
import Derived.Test.YtobflkddkplpiaaStepsD
namespace Go.Proofs.Ytobflkddkplpiaa
set_option linter.all false
open Go.RowKit Go.Maps

theorem step_n (m : Dk) (s : St) : (m.step s).n = m.n := by
  unfold Dk.step Dk.write Dk.sync Dk.boot
  split
  · split
    · rfl
    split <;> rfl
  split
  · split <;> rfl
  split
  · rfl
  split
  · split
    · exact (bootI_n m _ _).1
    · rfl
  · rfl
/-- behind a Fail of N, c operations ago -/
def Cnt (N ops0 : Nat) (m : Dk) : Prop :=
  ops0 ≤ m.ops ∧ (N = 0 → m.off = false ∧ m.left = 0) ∧ (0 < N → (m.off = false ∧ 0 < m.left ∧ m.ops + m.left = ops0 + N) ∨ (m.off = true ∧ m.ops = ops0 + N))
theorem Cnt.did {N ops0 : Nat} {m : Dk} (h : Cnt N ops0 m) (ho : m.off = false) : Cnt N ops0 m.did := by
  obtain ⟨h1, h2, h3⟩ := h
  refine ⟨by show ops0 ≤ m.ops + 1; omega, fun hN => ?_, fun hN => ?_⟩
  · obtain ⟨a, b⟩ := h2 hN
    simp [Dk.did, a, b]
  · rcases h3 hN with ⟨_, b, c⟩ | ⟨a, _⟩
    · by_cases hl : m.left = 1
      · right
        simp [Dk.did, hl]; omega
      · left
        simp [Dk.did, b, hl]; omega
    · rw [ho] at a; cases a
theorem Cnt.step {N ops0 : Nat} {m : Dk} (h : Cnt N ops0 m) (s : St) (h2 : s.what ≠ 2) (h3 : s.what ≠ 3) : Cnt N ops0 (m.step s) := by
  unfold Dk.step Dk.write Dk.sync
  rw [if_neg h2, if_neg h3]
  split
  · split
    · exact h
    split
    · exact h
    · rename_i ho _
      exact Cnt.did (m := m.put s.at0 s.bytes) h (by simpa [Dk.put] using ho)
  split
  · split
    · exact h
    · rename_i ho
      exact Cnt.did (m := { m with was := fun _ => none }) h (by simpa using ho)
  exact h
theorem Cnt.start {m : Dk} (ho : m.off = false) (N : Nat) : Cnt N m.ops (m.fail N) := by
  refine ⟨Nat.le_refl _, fun h => ⟨ho, by show (N : Int).toNat = 0; omega⟩, fun h => .inl ⟨ho, by show 0 < (N : Int).toNat; omega, by show m.ops + (N : Int).toNat = _; omega⟩⟩
theorem boot_on (m : Dk) (ho : m.off = true) (xs : List Int) : (m.boot xs).1.off = false := by
  unfold Dk.boot; rw [if_pos ho]
theorem mod40 (n : Int) : ∃ N : Nat, N < 40 ∧ wrap64 ((IntKind.u64.wrap n).tmod 40) = (N : Int) := by
  have h0 : 0 ≤ IntKind.u64.wrap n := by rw [IntKind.wrap_u64]; omega
  have h1 : (IntKind.u64.wrap n).tmod 40 = IntKind.u64.wrap n % 40 := Int.tmod_eq_emod_of_nonneg h0
  rw [h1]
  refine ⟨(IntKind.u64.wrap n % 40).toNat, by omega, ?_⟩
  rw [IntWalk.wrap64_in _ (by omega)]
  omega
theorem Cnt.on {N ops0 : Nat} {m : Dk} (h : Cnt N ops0 m) (hN : 0 < N) : (!m.off) = decide ((m.ops : Int) - ops0 < N) ∧ ¬ ((N : Int) < (m.ops : Int) - ops0) := by
  obtain ⟨h1, _, h3⟩ := h
  rcases h3 hN with ⟨a, b, c⟩ | ⟨a, b⟩
  · rw [a]; refine ⟨?_, by omega⟩; simp; omega
  · rw [a]; refine ⟨?_, by omega⟩; simp; omega
theorem Dk.Fit.ops_le {m : Dk} {c : Nat} (h : m.Fit c) : m.ops ≤ c := h.ops

abbrev StepsIn (w : World) (v : Value) : Prop := ∃ (l : List St) (G : List Nat), StepsR w v l G ∧ l.length ≤ maxLen ∧ ∀ s ∈ l, s.Wf

set_option maxRecDepth 100000 in
set_option maxHeartbeats 4000000 in
theorem diskFails_walk {w : World} (v0 : Value) (o0 : StepsIn w v0) (n : Int) (hn : (Lit.int .i64 n).wf = true) (v2 : Value) (o2 : StepsIn w v2) :
    Calls Try.prog 7 #[v0, .int .i64 n, v2] w fun e w' => e = .returned (.bool true) ∧ Below w.heap.size w w' := by
  obtain ⟨l, G, hl, ll, lw⟩ := o0
  obtain ⟨l2, G2, hl2, ll2, lw2⟩ := o2
  obtain ⟨a, cap, rfl, -⟩ := id hl
  obtain ⟨a2, cap2, rfl, -⟩ := id hl2
  have O := Own.start w
  have HL := Lib.hid hl; have HL2 := Lib.hid hl2; have LW := Lib.hid lw; have LW2 := Lib.hid lw2
  clear hl hl2 lw lw2
  obtain ⟨N, hN40, hNw⟩ := mod40 n
  go_enter Try.func7, Try.ntmps7
  go_wp2_with fail
  refine (works_own O).mono ?_
  clear O
  rintro e w1 ⟨rfl, O⟩
  go_wp2_with fail
  refine (long_any _ a cap l G (HL.out.keep O.chg (by simp)) ll LW.out).mono ?_
  rintro e w2 ⟨r, rfl, rfl, hr⟩
  cases r
  rotate_left
  · go_wp2_with fail
    refine (works_own O).mono ?_
    clear O
    rintro e w2 ⟨rfl, O⟩
    go_wp2
    go_ret
    exact ⟨rfl, O.below⟩
  go_wp2_with fail
  refine (long_any _ a2 cap2 l2 G2 (HL2.out.keep O.chg (by simp)) ll2 LW2.out).mono ?_
  rintro e w2 ⟨r, rfl, rfl, hr2⟩
  cases r
  rotate_left
  · go_wp2_with fail
    refine (works_own O).mono ?_
    clear O
    rintro e w2 ⟨rfl, O⟩
    go_wp2
    go_ret
    exact ⟨rfl, O.below⟩
  have hr := hr (by trivial)
  have hr2 := hr2 (by trivial)
  go_wp2_with fail
  refine (new_own O 9 (by omega) (by omega)).mono ?_
  clear O
  rintro e w2 ⟨b, rfl, O⟩
  go_wp2_with fail
  go_loopw [9] (fun iv wr => ∃ (k : Nat) (m : Dk), iv = .int .i64 k ∧ k ≤ l.length ∧ m.Fit k ∧ m.n = 9 ∧ Own w wr [dk (.pointer (some ⟨b, 0, none⟩)) m]) (fun iv _ => l.length - (intOf iv).toNat)
  case atStart => exact ⟨0, Dk.new 9, rfl, by omega, Fit.new (by omega), rfl, O⟩
  case round =>
    clear O
    obtain ⟨k, m, rfl, hk, hf, hn9, O⟩ := hrel
    have HF := Lib.hid hf; have HN := Lib.hid hn9; clear hf hn9
    by_cases hlt : k < l.length
    · have hb1 : (k : Int) < (l.length : Int) := by omega
      obtain ⟨g, off, e1, hc⟩ := (HL.out.keep O.chg (by simp)).at hlt
      subst e1
      obtain ⟨s, hs⟩ : ∃ s, s = l[k] := ⟨_, rfl⟩
      rw [← hs] at hc
      obtain ⟨c0, c1, c2, c3, c4, _⟩ := hc
      obtain ⟨_, _, e2, hc'⟩ := HL.out.at hlt
      clear e2
      rw [← hs] at hc'
      have SL := Lib.hid hc'.sl
      clear hc'
      have sw : Hid s.Wf := Lib.hid (LW.out _ (by rw [hs]; exact List.getElem_mem hlt))
      clear hs
      go_wp2_with fail
      refine (step_own O HF.out (by omega) s sw.out SL.out).mono ?_
      clear O c0 c1 c2 c3 c4
      rintro e w3 ⟨rfl, O⟩
      go_wp2
      go_roundw
      case rel => exact ⟨k + 1, m.step s, by go_num, by omega, HF.out.step sw.out, (step_n m s).trans HN.out, O⟩
      case measure => simp [intOf]; omega
    · have hb1 : ¬ (k : Int) < (l.length : Int) := by omega
      have HK : k ≤ 300 := by omega
      go_wp2_with fail
      refine (on_any O).mono ?_
      rintro e w3 ⟨rfl, rfl⟩
      cases ho : m.off
      focus
        have MF : Hid (m.Fit 301) := Lib.hid (HF.out.mono (by omega))
        have MO := Lib.hid ho
        have MN := HN
        obtain ⟨M, hM⟩ : ∃ M, M = m := ⟨_, rfl⟩
        rw [← hM] at MF MO MN O
        clear ho HF HN hM hb1
        go_wp2_with fail
      rotate_left
      focus
        have MF : Hid ((m.boot []).1.Fit 301) := Lib.hid ((HF.out.boot []).mono (by omega))
        have MO := Lib.hid (boot_on m ho [])
        have MN : Hid ((m.boot []).1.n = 9) := Lib.hid (by
          show (m.boot []).1.n = 9
          unfold Dk.boot; rw [if_pos ho]; exact ((bootI_n m _ _).1).trans HN.out)
        go_wp2_with fail
        refine (boot_fit O HF.out (by omega) none 0 0 [] (fun w' m' O => ⟨[], none, 0, rfl, fun h => by simp at h⟩) (by decide) (m' := (m.boot []).1) (er := (m.boot []).2) rfl).mono ?_
        clear O
        rintro e wr ⟨rfl, O⟩
        obtain ⟨M, hM⟩ : ∃ M, M = (m.boot []).1 := ⟨_, rfl⟩
        rw [← hM] at MF MO MN O
        clear ho HF HN hM hb1
        go_wp2_with fail
      all_goals
        rw [hNw]
        clear hNw
        refine (ops_any O).mono ?_
        rintro e w3 ⟨rfl, rfl⟩
        obtain ⟨ops0, hops⟩ : ∃ ops0, ops0 = M.ops := ⟨_, rfl⟩
        rw [← hops]
        have hol : ops0 ≤ 301 := by rw [hops]; exact MF.out.ops_le
        have CS : Hid (Cnt N ops0 (M.fail N)) := Lib.hid (by rw [hops]; exact Cnt.start MO.out N)
        have F2 : Hid ((M.fail N).Fit 301) := Lib.hid (MF.out.fail (by omega))
        have N2 : Hid ((M.fail N).n = 9) := MN
        clear MF MO MN hops
        go_wp2_with fail
        refine (fail_any N (by omega) O).mono ?_
        clear O
        rintro e w4 ⟨rfl, O⟩
        go_wp2_with fail
        go_loopw [11] (fun iv wr => ∃ (k : Nat) (m : Dk), iv = .int .i64 k ∧ k ≤ l2.length ∧ m.Fit (301 + k) ∧ m.n = 9 ∧ Cnt N ops0 m ∧ Own w wr [dk (.pointer (some ⟨b, 0, none⟩)) m]) (fun iv _ => l2.length - (intOf iv).toNat)
        case atStart => exact ⟨0, _, rfl, by omega, F2.out, N2.out, CS.out, O⟩
        case round =>
          clear O F2 N2 CS
          obtain ⟨k, m, rfl, hk, hf, hn9, hc, O⟩ := hrel
          have HF := Lib.hid hf; have HN := Lib.hid hn9; have HC := Lib.hid hc; clear hf hn9 hc
          have hml : m.ops ≤ 601 := by have := HF.out.ops_le; omega
          by_cases hlt : k < l2.length
          · have hb1 : (k : Int) < (l2.length : Int) := by omega
            obtain ⟨g, off, e1, hc⟩ := (HL2.out.keep O.chg (by simp)).at hlt
            subst e1
            obtain ⟨s, hs⟩ : ∃ s, s = l2[k] := ⟨_, rfl⟩
            rw [← hs] at hc
            obtain ⟨c0, c1, c2, c3, c4, _⟩ := hc
            obtain ⟨_, _, e2, hc'⟩ := HL2.out.at hlt
            clear e2
            rw [← hs] at hc'
            have SL := Lib.hid hc'.sl
            clear hc'
            have sw : Hid s.Wf := Lib.hid (LW2.out _ (by rw [hs]; exact List.getElem_mem hlt))
            clear hs
            by_cases h2 : s.what = 2
            · have i2 : (s.what == 2) = true := by simp [h2]
              clear h2
              go_wp2
              go_roundw
              case rel => exact ⟨k + 1, m, by go_num, by omega, HF.out.mono (by omega), HN.out, HC.out, O⟩
              case measure => simp [intOf]; omega
            have i2 : (s.what == 2) = false := by simp [h2]
            by_cases h3 : s.what = 3
            · have i3 : (s.what == 3) = true := by simp [h3]
              clear h3
              go_wp2
              go_roundw
              case rel => exact ⟨k + 1, m, by go_num, by omega, HF.out.mono (by omega), HN.out, HC.out, O⟩
              case measure => simp [intOf]; omega
            have i3 : (s.what == 3) = false := by simp [h3]
            have FS : Hid ((m.step s).Fit (301 + k + 1)) := Lib.hid (HF.out.step sw.out)
            have NS : Hid ((m.step s).n = 9) := Lib.hid ((step_n m s).trans HN.out)
            have CS : Hid (Cnt N ops0 (m.step s)) := Lib.hid (HC.out.step s h2 h3)
            clear h2 h3
            go_wp2_with fail
            refine (step_own O HF.out (by omega) s sw.out SL.out).mono ?_
            clear O c0 c1 c2 c3 c4 i2 i3 hml
            rintro e w3 ⟨rfl, O⟩
            obtain ⟨M, hM⟩ : ∃ M, M = m.step s := ⟨_, rfl⟩
            rw [← hM] at O FS NS CS
            clear hM HF HN HC
            have hml : M.ops ≤ 602 := by have := FS.out.ops_le; omega
            by_cases hN0 : 0 < N
            · obtain ⟨i4, i5⟩ := CS.out.on hN0
              have i6 : (0 : Int) < (N : Int) := by omega
              have i8 : ((N : Int) == 0) = false := by simp; omega
              have hc1 := CS.out.1
              cases ho : M.off
              all_goals
                first
                  | have i7 : (M.ops : Int) - ops0 < N := by rw [ho] at i4; simpa using i4.symm
                  | have i7 : ¬ (M.ops : Int) - ops0 < N := by rw [ho] at i4; simpa using i4.symm
                clear i4
                go_wp2_with fail
                refine (ops_any O).mono ?_
                rintro e w4 ⟨rfl, rfl⟩
                go_wp2_with fail
                refine (on_any O).mono ?_
                rw [ho]
                rintro e w4 ⟨rfl, rfl⟩
                go_wp2_with fail
                refine (ops_any O).mono ?_
                rintro e w4 ⟨rfl, rfl⟩
                clear ho
                go_wp2
                go_roundw
                case rel => exact ⟨k + 1, M, by go_num, by omega, FS.out, NS.out, CS.out, O⟩
                case measure => simp [intOf]; omega
            · have i6 : ¬ (0 : Int) < (N : Int) := by omega
              have hz : N = 0 := by omega
              have i8 : ((N : Int) == 0) = true := by simp; omega
              have ho := (CS.out.2.1 hz).1
              clear hz
              go_wp2_with fail
              refine (on_any O).mono ?_
              rw [ho]
              rintro e w4 ⟨rfl, rfl⟩
              go_wp2
              go_roundw
              case rel => exact ⟨k + 1, M, by go_num, by omega, FS.out, NS.out, CS.out, O⟩
              case measure => simp [intOf]; omega
          · have hb1 : ¬ (k : Int) < (l2.length : Int) := by omega
            go_wp2_with fail
            refine (sectors_any O).mono ?_
            rw [HN.out]
            rintro e w3 ⟨rfl, rfl⟩
            go_wp2
            go_ret
            exact ⟨rfl, O.below⟩
end Go.Proofs.Ytobflkddkplpiaa
