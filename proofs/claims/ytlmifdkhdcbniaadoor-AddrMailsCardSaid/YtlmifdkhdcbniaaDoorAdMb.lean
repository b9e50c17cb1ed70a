/- mailroomref04.Mail. -/
import Derived.Test.YtlmifdkhdcbniaaDoorAdMa
import Derived.Test.YtlmifdkhdcbniaaDoorAdS
import Derived.Deep.RegionHeld3
namespace Go.Proofs.YtlmifdkhdcbniaaDoor
set_option linter.all false
open Go.RowKit

theorem sameB_comm (a b : List UInt8) : sameB a b = sameB b a := by
  unfold sameB
  rw [show (locL a == locL b) = (locL b == locL a) from BEq.comm, show (domL a == domL b) = (domL b == domL a) from BEq.comm]
  cases parseB a <;> cases parseB b <;> simp
set_option maxRecDepth 100000 in
set_option maxHeartbeats 8000000 in
theorem rmail_any {w : World} (m : Ml) {G : List Nat} (hr : RcR w m.ra m.rc G) (hs : m.Small) (rcpts most : Int) :
    Calls Tryd.prog 30 #[m.val, .int .i64 rcpts, .int .i64 most] w fun e w' => e = .returned (.int .i64 (m.err rcpts most)) ∧ Chg [] w w' := by
  obtain ⟨frm, ra, rcap, rc, req, env, txt⟩ := m
  obtain ⟨h1, h2, h3, h4, hcap, h5⟩ := hs
  have ER : Hid (Ml.err ⟨frm, ra, rcap, rc, req, env, txt⟩ rcpts most = if most < (txt.length : Int) ∨ rcpts < (rc.length : Int) then 40 else if ((frm.isEmpty || parseB frm) && (decide (0 < rc.length) && (decide (env.length ≤ 32) && (linesB txt && env.all idc))) && rcOk [] rc) = true then 0 else 4) := rfl
  generalize Ml.err ⟨frm, ra, rcap, rc, req, env, txt⟩ rcpts most = err at ER ⊢
  simp only [Ml.val, Ml.cells] at h1 h2 h3 h4 h5 hcap hr ⊢
  obtain ⟨N, hN⟩ : ∃ n, n = rc.length := ⟨_, rfl⟩
  rw [← hN] at ER ⊢
  have HN := Lib.hid hN
  have O := (Own.start w).newBox #[.string ⟨frm.toArray⟩, .slice ra N rcap, .bool req, .string ⟨env.toArray⟩, .string ⟨txt.toArray⟩] 39
  have H4 := Lib.hid (show N ≤ 100000 by omega)
  have H5 := Lib.hid h5
  have H3 := Lib.hid h3
  have H2 := Lib.hid h2
  have H1 := Lib.hid h1
  clear hN h1 h2 h3 h4 h5 hcap
  by_cases q1 : most < (txt.length : Int)
  · have fin : err = 40 := by rw [ER.out, if_pos (.inl q1)]
    subst fin
    obtain ⟨c0, c1, c2, c3, c4⟩ := box5 O
    go_enter Tryd.func30, Tryd.ntmps30
    go_wp2
    go_ret
    exact ⟨rfl, O.chg⟩
  by_cases q2 : rcpts < (N : Int)
  · have fin : err = 40 := by rw [ER.out, if_pos (.inr q2)]
    subst fin
    obtain ⟨c0, c1, c2, c3, c4⟩ := box5 O
    go_enter Tryd.func30, Tryd.ntmps30
    go_wp2
    go_ret
    exact ⟨rfl, O.chg⟩
  have ER2 : Hid (err = if ((frm.isEmpty || parseB frm) && (decide (0 < N) && (decide (env.length ≤ 32) && (linesB txt && env.all idc))) && rcOk [] rc) = true then 0 else 4) := by
    unfold Hid; rw [ER.out, if_neg (by omega)]
  clear ER
  cases hfe : frm.isEmpty
  focus
    have MY := rmay_own O frm (by have := H1.out; omega)
    rw [hfe] at ER2
    generalize parseB frm = pf at MY ER2
    obtain ⟨c0, c1, c2, c3, c4⟩ := box5 O
    go_enter Tryd.func30, Tryd.ntmps30
    go_wp2_with fail
    refine MY.mono ?_
    clear MY O c0 c1 c2 c3 c4
    rintro e w1 ⟨rfl, O⟩
    obtain ⟨c0, c1, c2, c3, c4⟩ := box5 O
    cases pf
    · have fin : err = 4 := ER2.out
      subst fin
      go_wp2
      go_ret
      exact ⟨rfl, O.chg⟩
    have ER3 : Hid (err = if ((decide (0 < N) && (decide (env.length ≤ 32) && (linesB txt && env.all idc))) && rcOk [] rc) = true then 0 else 4) := ER2.out
    clear ER2
  rotate_left
  focus
    have ER3 : Hid (err = if ((decide (0 < N) && (decide (env.length ≤ 32) && (linesB txt && env.all idc))) && rcOk [] rc) = true then 0 else 4) := by
      rw [hfe] at ER2; exact ER2.out
    clear ER2
    obtain ⟨c0, c1, c2, c3, c4⟩ := box5 O
    go_enter Tryd.func30, Tryd.ntmps30
  all_goals
    by_cases hN0 : N = 0
    · have fin : err = 4 := by rw [ER3.out, hN0]; rfl
      have z : ((N : Int) == 0) = true := by rw [hN0]; rfl
      clear hN0 ER3
      subst fin
      go_wp2
      go_ret
      exact ⟨rfl, O.chg⟩
    · have z : ((N : Int) == 0) = false := by simpa using hN0
      have hpos : 0 < N := by omega
      have EQ : Hid (err = if (((decide (env.length ≤ 32) && env.all idc) && linesB txt) && rcOk [] rc) = true then 0 else 4) := by
        unfold Hid
        rw [ER3.out, decide_eq_true hpos]
        cases decide (env.length ≤ 32) <;> cases linesB txt <;> cases env.all idc <;> rfl
      clear ER3 hN0
      obtain ⟨g, off, rfl, hg, hcw⟩ := hr (by have := HN.out; omega)
      have EV := fun w' => envid_any env (by have := H2.out; omega) w'
      generalize (decide (env.length ≤ 32) && env.all idc) = q at EV EQ
      go_wp2_with fail
      refine (EV _).mono ?_
      clear EV
      rintro e w2 ⟨rfl, rfl⟩
      cases q
      · have fin : err = 4 := EQ.out
        subst fin
        clear EQ
        go_wp2
        go_ret
        exact ⟨rfl, O.chg⟩
      have TV := fun w' => text_any txt (by have := H3.out; omega) w'
      generalize linesB txt = lb at TV EQ
      go_wp2_with fail
      refine (TV _).mono ?_
      clear TV
      rintro e w2 ⟨rfl, rfl⟩
      cases lb
      · have fin : err = 4 := EQ.out
        subst fin
        clear EQ
        go_wp2
        go_ret
        exact ⟨rfl, O.chg⟩
      have ES : Hid (err = if rcOk (rc.take 0) (rc.drop 0) = true then 0 else 4) := EQ.out
      have HCW := Lib.hid hcw
      clear EQ hcw
      go_wp2_with fail
      clear c0 c1 c2 c3 c4
      go_loopw [7] (fun iv wr => ∃ i : Nat, i ≤ N ∧ iv = .int .i64 i ∧ Hid (err = if rcOk (rc.take i) (rc.drop i) = true then 0 else 4) ∧ Own w wr [box w.heap.size #[.string ⟨frm.toArray⟩, .slice (some ⟨g, off, none⟩) N rcap, .bool req, .string ⟨env.toArray⟩, .string ⟨txt.toArray⟩] 39]) (fun iv _ => N - (intOf iv).toNat)
      case atStart => exact ⟨0, by omega, rfl, ES, O⟩
      case round =>
        clear O ES
        obtain ⟨i, hi, rfl, HE, O⟩ := hrel
        obtain ⟨c0, c1, c2, c3, c4⟩ := box5 O
        have hNB := H4.out
        by_cases hlt : i < N
        · have hb1 : (i : Int) < (N : Int) := by omega
          have hil : i < rc.length := by have := HN.out; omega
          have E2 : Hid (w.cell? ⟨g, off + i * 2, none⟩ = some (.string ⟨rc[i].1.toArray⟩)) := (HCW.out i hil).1
          have hly := H5.out _ (List.getElem_mem hil)
          have ST := Lib.hid (rcOk_step hil)
          generalize rc[i].1 = y at E2 hly ST
          have d0 := O.chg.cell E2.out (by simp)
          have MY := rmay_own O y (by omega)
          generalize parseB y = my at MY ST
          go_wp2_with fail
          refine MY.mono ?_
          clear MY O c0 c1 c2 c3 c4 d0
          rintro e w2 ⟨rfl, O⟩
          cases my
          · have fin : err = 4 := by rw [HE.out, ST.out]; rfl
            subst fin
            go_wp2
            go_ret
            exact ⟨rfl, O.chg⟩
          go_wp2_with fail
          go_loopw [8] (fun kv wr => ∃ k : Nat, k ≤ i ∧ kv = .int .i64 k ∧ Hid (((rc.take k).any fun z => sameB z.1 y) = false) ∧ Own w wr [box w.heap.size #[.string ⟨frm.toArray⟩, .slice (some ⟨g, off, none⟩) N rcap, .bool req, .string ⟨env.toArray⟩, .string ⟨txt.toArray⟩] 39]) (fun kv _ => i - (intOf kv).toNat)
          case atStart => exact ⟨0, by omega, rfl, rfl, O⟩
          case round =>
            clear O
            obtain ⟨k, hk, rfl, HA, O⟩ := hrel
            by_cases hlk : k < i
            · have hb2 : (k : Int) < (i : Int) := by omega
              have hb3 : (k : Int) < (N : Int) := by omega
              have hkl : k < rc.length := by have := HN.out; omega
              have E3 : Hid (w.cell? ⟨g, off + k * 2, none⟩ = some (.string ⟨rc[k].1.toArray⟩)) := (HCW.out k hkl).1
              have hlz := H5.out _ (List.getElem_mem hkl)
              have NX : Hid (((rc.take (k + 1)).any fun z => sameB z.1 y) = sameB y rc[k].1) := by
                unfold Hid; rw [List.take_succ_eq_append_getElem hkl, List.any_append, HA.out, sameB_comm]; simp
              have IN : Hid (sameB y rc[k].1 = true → ((rc.take i).any fun z => sameB z.1 y) = true) := by
                unfold Hid; intro h
                rw [List.any_eq_true]
                refine ⟨rc[k], ?_, by rw [sameB_comm]; exact h⟩
                rw [List.mem_take_iff_getElem]
                exact ⟨k, by omega, rfl⟩
              generalize rc[k].1 = z at E3 hlz NX IN
              have HS : Hid (∀ w', Own w w' [box w.heap.size #[.string ⟨frm.toArray⟩, .slice (some ⟨g, off, none⟩) N rcap, .bool req, .string ⟨env.toArray⟩, .string ⟨txt.toArray⟩] 39] → (w'.cell? ⟨w.heap.size, 1, none⟩ = some (.slice (some ⟨g, off, none⟩) N rcap) ∧ w'.cell? ⟨g, off + i * 2, none⟩ = some (.string ⟨y.toArray⟩) ∧ w'.cell? ⟨g, off + k * 2, none⟩ = some (.string ⟨z.toArray⟩))) :=
                fun w' h => ⟨h.cell 1, h.chg.cell E2.out (by simp), h.chg.cell E3.out (by simp)⟩
              have K0 := Lib.hid (HS.out _ O)
              have SB := Lib.hid (fun (w' : World) (h : Own w w' [box w.heap.size #[.string ⟨frm.toArray⟩, .slice (some ⟨g, off, none⟩) N rcap, .bool req, .string ⟨env.toArray⟩, .string ⟨txt.toArray⟩] 39]) => rsame_own h y z (by omega) (by omega))
              generalize sameB y z = sm at NX IN SB
              go_wp2_with fail
              go_region_held3 (fun w' => w'.cell? ⟨w.heap.size, 1, none⟩ = some (.slice (some ⟨g, off, none⟩) N rcap) ∧ w'.cell? ⟨g, off + i * 2, none⟩ = some (.string ⟨y.toArray⟩) ∧ w'.cell? ⟨g, off + k * 2, none⟩ = some (.string ⟨z.toArray⟩))
                (first | with_reducible exact K0.out | exact K0.out | exact HS.out _ O1)
                (first
                  | (go_at_call 21; (with_reducible refine (SB.out _ O.drew).mono ?_); rintro e1 ws ⟨rfl, O1⟩))
              clear K0 SB HS O E3
              cases sm
              · go_wp2
                go_roundw
                case rel => exact ⟨k + 1, by omega, by go_num, NX.out, O1⟩
                case measure => simp [intOf]; omega
              · have fin : err = 4 := by rw [HE.out, ST.out, IN.out rfl]; rfl
                subst fin
                go_wp2
                go_ret
                exact ⟨rfl, O1.chg⟩
            · obtain rfl : k = i := by omega
              have NE : Hid (err = if rcOk (rc.take (k + 1)) (rc.drop (k + 1)) = true then 0 else 4) := by
                unfold Hid; rw [HE.out, ST.out, HA.out]; rfl
              clear HE ST HA
              go_wp2
              go_roundw
              case rel => exact ⟨k + 1, by omega, by go_num, NE, O⟩
              case measure => simp [intOf]; omega
        · obtain rfl : i = N := by omega
          have E1 := HE.out
          rw [List.drop_of_length_le (by have := HN.out; omega)] at E1
          have fin : err = 0 := E1
          subst fin
          clear HE E1
          go_wp2
          go_ret
          exact ⟨rfl, O.chg⟩
end Go.Proofs.YtlmifdkhdcbniaaDoor
