/- disk: Write, Sync. -/
import Derived.Test.YtnlppcjfpmnahaaGreatDoorDiskB
namespace Go.Proofs.YtnlppcjfpmnahaaGreatDoor
set_option linter.all false
open Go.RowKit Go.Maps

def Dk.put (m : Dk) (k : Int) (s : List UInt8) : Dk :=
  { m with was := if (m.was k).isSome then m.was else upd m.was k (some (m.get k)), cw := if (m.was k).isSome then m.cw else m.cw + 1, now := upd m.now k (some s), cn := m.cn + 1 }
def Dk.write (m : Dk) (k : Int) (s : List UInt8) : Dk × Int :=
  if m.off then (m, 42) else if k < 0 ∨ (m.n : Int) ≤ k ∨ s.length ≠ 128 then (m, 1) else ((m.put k s).did, 0)
def Dk.sync (m : Dk) : Dk × Int := if m.off then (m, 42) else (({ m with was := fun _ => none } : Dk).did, 0)
/-- each text of it is a sector -/
def Dk.Full (m : Dk) : Prop := (∀ k s, m.now k = some s → s.length = 128) ∧ ∀ k s, m.was k = some s → s.length = 128
theorem Dk.Full.get {m : Dk} (h : m.Full) (k : Int) : (m.get k).length = 128 := by
  unfold Dk.get
  cases hn : m.now k with
  | some s => exact h.1 k s hn
  | none => exact zeros_len
theorem Small.put {m : Dk} (S : m.Small) (h1 : m.cn < 100000000) (h2 : m.cw < 100000000) (k : Int) (s : List UInt8) : (m.put k s).Small :=
  ⟨S.n, S.ops, S.left, by show m.cn + 1 ≤ _; omega, by
    show (if (m.was k).isSome = true then m.cw else m.cw + 1) ≤ 100000000
    split <;> omega⟩
set_option maxRecDepth 100000 in
theorem write_own {w0 w : World} {L : List Piece} {p : Value} {m : Dk} (O : Own w0 w (dk p m :: L)) (S : m.Small) (F : m.Full) (h1 : m.cn < 100000000) (h2 : m.cw < 100000000) (k : Int) (hk : I64 k) (s : List UInt8) (hs : s.length ≤ 1000000) :
    Calls Tryz.prog 34 #[p, .int .i64 k, .string ⟨s.toArray⟩] w fun e w' => e = .returned (.int .i64 (m.write k s).2) ∧ Own w0 w' (dk p (m.write k s).1 :: L) := by
  obtain ⟨b, bn, bw, hp, U⟩ := O.dkE
  subst hp
  obtain ⟨c0, c1, c2, c3, c4, c5, fr⟩ := U.dkAt
  have HK := Lib.hid hk; clear hk
  have SS := Lib.hid S; clear S
  have FF := Lib.hid F; clear F
  cases ho : m.off
  rotate_left
  · have E : m.write k s = (m, 42) := by simp [Dk.write, ho]
    have A : m.asked = 42 := by simp [Dk.asked, ho]
    rw [E]
    clear c0 c1 c2 c3 c4 c5 fr ho E U
    go_enter Tryz.func34, Tryz.ntmps34
    go_wp2_with fail
    refine (asked_any O).mono ?_
    rw [A]
    rintro e w1 ⟨rfl, rfl⟩
    go_wp2
    go_ret
    exact ⟨rfl, O⟩
  have A : m.asked = 0 := by simp [Dk.asked, ho]
  by_cases hr : k < 0 ∨ (m.n : Int) ≤ k ∨ s.length ≠ 128
  · have E : m.write k s = (m, 1) := by simp only [Dk.write, ho, hr, if_true]; rfl
    rw [E]
    clear c1 c2 c3 c4 c5 fr ho E U
    have three : k < 0 ∨ (¬ k < 0 ∧ (m.n : Int) ≤ k) ∨ (¬ k < 0 ∧ ¬ (m.n : Int) ≤ k ∧ ((s.length : Int) != 128) = true) := by
      rcases hr with h | h | h
      · exact .inl h
      · by_cases h0 : k < 0
        · exact .inl h0
        · exact .inr (.inl ⟨h0, h⟩)
      · by_cases h0 : k < 0
        · exact .inl h0
        · by_cases h1 : (m.n : Int) ≤ k
          · exact .inr (.inl ⟨h0, h1⟩)
          · exact .inr (.inr ⟨h0, h1, by simp; omega⟩)
    clear hr
    rcases three with h0 | ⟨h0, h3⟩ | ⟨h0, h3, h4⟩
    all_goals
      go_enter Tryz.func34, Tryz.ntmps34
      go_wp2_with fail
      refine (asked_any O).mono ?_
      rw [A]
      rintro e w1 ⟨rfl, rfl⟩
      go_wp2
      go_ret
      exact ⟨rfl, O⟩
  · have E : m.write k s = ((m.put k s).did, 0) := by simp only [Dk.write, ho, hr, if_false]; rfl
    rw [E]
    have r1 : ¬ k < 0 := by omega
    have r2 : ¬ (m.n : Int) ≤ k := by omega
    have r3 : ((s.length : Int) != 128) = false := by
      have : s.length = 128 := by omega
      simp [this]
    have r4 : s.length ≤ 1000000000 := by omega
    have hcn : m.cn ≤ 1000000000 := by omega
    have hcw : m.cw ≤ 1000000000 := by omega
    clear c3 c4 c5 fr ho E hr
    cases hw : (m.was k).isSome
    · have P1 : m.put k s = { m with was := upd m.was k (some (m.get k)), cw := m.cw + 1, now := upd m.now k (some s), cn := m.cn + 1 } := by simp [Dk.put, hw]
      have hg : (m.get k).length ≤ 1000000000 := by rw [FF.out.get]; decide
      have HG := Lib.hid hg; clear hg
      have HW := Lib.hid hw; clear hw
      have PP := Lib.hid P1; clear P1
      have HP := Lib.hid (Small.put SS.out h1 h2 k s)
      clear h1 h2
      go_enter Tryz.func34, Tryz.ntmps34
      go_wp2_with fail
      refine (asked_any O).mono ?_
      rw [A]
      rintro e w1 ⟨rfl, rfl⟩
      go_wp2_with (at_lookup; refine wpList_look_okO rfl _ _ rfl (U.pick 2) rfl k HK.out rfl ?_; rw [HW.out])
      go_region_held3 (fun w' => w'.cell? ⟨b, 2, none⟩ = some (.map (some bw)))
        (first
          | exact c2
          | exact chs.cell c2 (by simp)
          | exact (O6.pick 1).cell 2)
        (first
          | (go_at_call 53; refine (at_any (O.drewN _) k HK.out).mono ?_; rintro e ws ⟨rfl, chs⟩; obtain ⟨w6, hmu, O6⟩ := run_storeO (((U.drewN _).pure chs).pick 2) hcw k HK.out (m.get k) HG.out)
          | (refine step_storeO rfl rfl rfl rfl rfl hmu ?_))
      clear c1 c2 chs hmu
      have c1 : w6.cell? ⟨b, 1, none⟩ = some (.map (some bn)) := (O6.pick 1).cell 1
      go_wp2_with (at_mapUpdate; refine wpList_storeO rfl _ _ _ rfl (O6.pick 2) hcn rfl k HK.out rfl s r4 rfl ?_; intro w2 O2)
      have O3 := Own.dkI (m := m.put k s) (b := b) (bn := bn) (bw := bw) (by rw [PP.out]; exact O2.selK 3 [2, 0, 1])
      refine (did_any O3 HP.out).mono ?_
      clear O3 O2 O U O6
      rintro e w3 ⟨rfl, O⟩
      go_wp2
      go_ret
      exact ⟨rfl, O⟩
    · go_enter Tryz.func34, Tryz.ntmps34
      have P1 : m.put k s = { m with now := upd m.now k (some s), cn := m.cn + 1 } := by simp [Dk.put, hw]
      have HW := Lib.hid hw; clear hw
      have PP := Lib.hid P1; clear P1
      have HP := Lib.hid (Small.put SS.out h1 h2 k s)
      clear h1 h2
      go_wp2_with fail
      refine (asked_any O).mono ?_
      rw [A]
      rintro e w1 ⟨rfl, rfl⟩
      go_wp2_with (first
        | (at_lookup; refine wpList_look_okO rfl _ _ rfl (U.pick 2) rfl k HK.out rfl ?_; rw [HW.out])
        | (at_mapUpdate; refine wpList_storeO rfl _ _ _ rfl (U.pick 1) hcn rfl k HK.out rfl s r4 rfl ?_; intro w2 O2))
      have O3 := Own.dkI (m := m.put k s) (b := b) (bn := bn) (bw := bw) (by rw [PP.out]; exact O2.selK 3 [1, 0, 2])
      refine (did_any O3 HP.out).mono ?_
      clear O3 O2 O U
      rintro e w3 ⟨rfl, O⟩
      go_wp2
      go_ret
      exact ⟨rfl, O⟩
theorem write_nil (k : Int) (s : List UInt8) (w : World) : Calls Tryz.prog 34 #[.pointer none, .int .i64 k, .string ⟨s.toArray⟩] w fun e w' => e = .returned (.int .i64 2) ∧ w = w' := by
  go_enter Tryz.func34, Tryz.ntmps34
  go_wp2_with fail
  refine (asked_nil _).mono ?_
  rintro e w1 ⟨rfl, rfl⟩
  go_wp2
  go_ret
  exact ⟨rfl, rfl⟩

theorem sync_nil (w : World) : Calls Tryz.prog 11 #[.pointer none] w fun e w' => e = .returned (.int .i64 2) ∧ w = w' := by
  go_enter Tryz.func11, Tryz.ntmps11
  go_wp2_with fail
  refine (asked_nil _).mono ?_
  rintro e w1 ⟨rfl, rfl⟩
  go_wp2
  go_ret
  exact ⟨rfl, rfl⟩
theorem sync_own {w0 w : World} {L : List Piece} {p : Value} {m : Dk} (O : Own w0 w (dk p m :: L)) (S : m.Small) :
    Calls Tryz.prog 11 #[p] w fun e w' => e = .returned (.int .i64 m.sync.2) ∧ Own w0 w' (dk p m.sync.1 :: L) := by
  obtain ⟨b, bn, bw, hp, U⟩ := O.dkE
  subst hp
  obtain ⟨c0, c1, c2, c3, c4, c5, fr⟩ := U.dkAt
  cases ho : m.off
  rotate_left
  · have E : m.sync = (m, 42) := by simp [Dk.sync, ho]
    have A : m.asked = 42 := by simp [Dk.asked, ho]
    rw [E]
    clear c0 c1 c2 c3 c4 c5 fr ho E U S
    go_enter Tryz.func11, Tryz.ntmps11
    go_wp2_with fail
    refine (asked_any O).mono ?_
    rw [A]
    rintro e w1 ⟨rfl, rfl⟩
    go_wp2
    go_ret
    exact ⟨rfl, O⟩
  · have E : m.sync = (({ m with was := fun _ => none } : Dk).did, 0) := by simp [Dk.sync, ho]
    have A : m.asked = 0 := by simp [Dk.asked, ho]
    have S2 : ({ m with was := fun _ => none } : Dk).Small := ⟨S.n, S.ops, S.left, S.cn, S.cw⟩
    have SS := Lib.hid S2
    rw [E]
    clear c0 c1 c3 c4 c5 fr ho E S2 S
    go_enter Tryz.func11, Tryz.ntmps11
    go_wp2_with fail
    refine (asked_any O).mono ?_
    rw [A]
    rintro e w1 ⟨rfl, rfl⟩
    obtain ⟨r, hr⟩ : ∃ r, r = w.heap.size := ⟨_, rfl⟩
    go_wp2_with (at_range; refine wpList_rangeO rfl _ rfl (U.pick 2) rfl ?_; rw [← hr]; intro w2 cnt O2)
    go_frame
    clear hr c2 O U
    go_loopw [4] (fun _ wr => ∃ cnt, Own w0 wr (swp bw r m.cw cnt none :: box b (m.cells bn bw) 73 :: mp bn m.cn m.now :: L)) (fun _ wr => wr.rangeLeft bw r)
    case atStart => exact ⟨cnt, O2⟩
    case round =>
      clear O2
      obtain ⟨c, O⟩ := hrel
      have ml := O.swpLeft
      have ML := Lib.hid ml; clear ml
      go_wp2_with (at_next; refine wpList_nextO rfl _ rfl O rfl ?_ ?_)
      · intro O3
        have O4 := Own.dkI (m := { m with was := fun _ => none }) (b := b) (bn := bn) (bw := bw) (O3.selK 3 [1, 2, 0])
        go_wp2_with fail
        refine (did_any O4 SS.out).mono ?_
        clear O4 O3 O
        rintro e w3 ⟨rfl, O⟩
        go_wp2
        go_ret
        exact ⟨rfl, O⟩
      · intro x cc w3 cnt3 hx hlt O3 hen
        have HX := Lib.hid hx
        have c2 : w3.cell? ⟨b, 2, none⟩ = some (.map (some bw)) := (O3.pick 1).cell 2
        go_wp2_with (at_delete; refine wpList_sweepO rfl _ _ rfl O3 rfl HX.out rfl ?_; intro w4 cnt4 hle O4; go_frame)
        go_roundw
        case rel => exact ⟨cnt4, O4⟩
        case measure => rw [O4.swpLeft, ML.out]; omega
end Go.Proofs.YtnlppcjfpmnahaaGreatDoor
