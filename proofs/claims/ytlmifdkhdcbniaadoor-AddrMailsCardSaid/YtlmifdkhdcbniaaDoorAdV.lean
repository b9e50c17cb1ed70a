/- addr.Mail. -/
import Derived.Test.YtlmifdkhdcbniaaDoorAdU
namespace Go.Proofs.YtlmifdkhdcbniaaDoor
set_option linter.all false
open Go.RowKit

set_option maxRecDepth 100000 in
set_option maxHeartbeats 8000000 in
theorem mail_any {w : World} {mx : Int} (K : Kinds w) (hm : w.cell? ⟨1, 0, none⟩ = some (.int .i64 mx)) (m : Ml) {G : List Nat} (hr : RcR w m.ra m.rc G) (hs : m.Small) (rcpts most : Int) :
    Calls Tryd.prog 29 #[m.val, .int .i64 rcpts, .int .i64 most] w fun e w' => e = .returned (.int .i64 (m.err rcpts most)) ∧ Chg [] w w' := by
  obtain ⟨frm, ra, rcap, rc, req, env, txt⟩ := m
  obtain ⟨h1, h2, h3, h4, hcap, h5⟩ := hs
  have ER : Hid (Ml.err ⟨frm, ra, rcap, rc, req, env, txt⟩ rcpts most = if most < (txt.length : Int) ∨ rcpts < (rc.length : Int) then 40 else if ((frm.isEmpty || parseB frm) && (decide (0 < rc.length) && (decide (env.length ≤ 32) && (linesB txt && env.all idc))) && rcOk [] rc) = true then 0 else 4) := rfl
  generalize Ml.err ⟨frm, ra, rcap, rc, req, env, txt⟩ rcpts most = err at ER ⊢
  simp only [Ml.val, Ml.cells] at h1 h2 h3 h4 h5 hcap hr ⊢
  obtain ⟨N, hN⟩ : ∃ n, n = rc.length := ⟨_, rfl⟩
  rw [← hN] at ER ⊢
  have HN := Lib.hid hN
  have O := (Own.start w).newBox #[.string ⟨frm.toArray⟩, .slice ra N rcap, .bool req, .string ⟨env.toArray⟩, .string ⟨txt.toArray⟩] 39
  have H4 := Lib.hid (show N ≤ 100000 by omega)
  have H5 := Lib.hid h5
  have H3 := Lib.hid h3
  have H2 := Lib.hid h2
  have H1 := Lib.hid h1
  have HCAP := Lib.hid (show N ≤ rcap by omega)
  clear hN h1 h2 h3 h4 h5 hcap
  by_cases q1 : most < (txt.length : Int)
  · have fin : err = 40 := by rw [ER.out, if_pos (.inl q1)]
    subst fin
    go_enter Tryd.func29, Tryd.ntmps29
    go_wp2
    go_ret
    exact ⟨rfl, O.chg⟩
  by_cases q2 : rcpts < (N : Int)
  · have fin : err = 40 := by rw [ER.out, if_pos (.inr q2)]
    subst fin
    go_enter Tryd.func29, Tryd.ntmps29
    go_wp2
    go_ret
    exact ⟨rfl, O.chg⟩
  have ER2 : Hid (err = if ((frm.isEmpty || parseB frm) && (decide (0 < N) && (decide (env.length ≤ 32) && (linesB txt && env.all idc))) && rcOk [] rc) = true then 0 else 4) := by
    unfold Hid; rw [ER.out, if_neg (by omega)]
  clear ER
  go_enter Tryd.func29, Tryd.ntmps29
  go_wp2_with fail
  refine (path_own K O frm (by have := H1.out; omega)).mono ?_
  clear O
  rintro e w1 ⟨rfl, O⟩
  obtain ⟨c0, c1, c2, c3, c4⟩ := box5 O
  have E0 := pathL_is frm
  generalize (frm.isEmpty || parseB frm) = fb at ER2 E0
  generalize pathL frm = p at E0 ⊢
  cases fb
  focus
    have e1 : p = [] := by simpa using E0
    subst e1
    have ER3 : Hid (err = if (false && rcOk [] rc) = true then 0 else 4) := ER2.out
    clear ER2 E0
    go_wp2_with fail
  rotate_left
  focus
    have e1 : p.isEmpty = false := by cases p with
      | nil => simp at E0
      | cons _ _ => rfl
    clear E0
    by_cases n0 : 0 < N
    focus
      have n0' : (0 : Int) < (N : Int) := by omega
      rw [decide_eq_true n0] at ER2
      by_cases n1 : env.length ≤ 32
      focus
        rw [decide_eq_true n1] at ER2
        have n1' : (env.length : Int) ≤ 32 := by omega
        have LN := lines_own hm O txt (by have := H3.out; omega)
        generalize linesB txt = lb at ER2 LN
        go_wp2_with fail
        refine LN.mono ?_
        clear LN O c0 c1 c2 c3 c4
        rintro e w2 ⟨rfl, O⟩
        obtain ⟨c0, c1, c2, c3, c4⟩ := box5 O
        cases lb
        focus
          have ER3 : Hid (err = if (false && rcOk [] rc) = true then 0 else 4) := ER2.out
          clear ER2
          go_wp2_with fail
        rotate_left
        focus
          have EA := eachId_own O env (by omega)
          have ER3 : Hid (err = if (env.all idc && rcOk [] rc) = true then 0 else 4) := ER2.out
          generalize env.all idc = ea at EA ER3
          clear ER2
          go_wp2_with fail
          refine EA.mono ?_
          clear EA O c0 c1 c2 c3 c4
          rintro e w3 ⟨rfl, O⟩
          obtain ⟨c0, c1, c2, c3, c4⟩ := box5 O
          cases ea <;> go_wp2_with fail
      rotate_left 3
      focus
        rw [decide_eq_false n1] at ER2
        have n1' : ¬ (env.length : Int) ≤ 32 := by omega
        have ER3 : Hid (err = if (false && rcOk [] rc) = true then 0 else 4) := by unfold Hid; rw [ER2.out]; simp
        clear ER2
        go_wp2_with fail
    rotate_left 4
    focus
      rw [decide_eq_false n0] at ER2
      have n0' : ¬ (0 : Int) < (N : Int) := by omega
      have ER3 : Hid (err = if (false && rcOk [] rc) = true then 0 else 4) := by unfold Hid; rw [ER2.out]; simp
      clear ER2
      go_wp2_with fail
      clear n0 n0'
  all_goals
    clear c0 c1 c2 c3 c4
    go_loopw [7, 51] (fun bv iv wr => ∃ (k : Nat) (b : Bool), k ≤ N ∧ iv = .int .i64 k ∧ bv = .bool b ∧ (err = if (b && rcOk (rc.take k) (rc.drop k)) = true then 0 else 4) ∧ Own w wr [box w.heap.size #[.string ⟨frm.toArray⟩, .slice ra N rcap, .bool req, .string ⟨env.toArray⟩, .string ⟨txt.toArray⟩] 39]) (fun _ iv _ => N - (intOf iv).toNat)
    case atStart => exact ⟨0, _, by omega, rfl, rfl, ER3.out, O⟩
    case round =>
      clear O ER3
      obtain ⟨k, b, hk, rfl, rfl, he, O⟩ := hrel
      have HE := Lib.hid he
      clear he
      obtain ⟨c0, c1, c2, c3, c4⟩ := box5 O
      have hNB := H4.out
      by_cases hlt : k < N
      · have hb1 : (k : Int) < (N : Int) := by omega
        have hkl : k < rc.length := by have := HN.out; omega
        obtain ⟨g, off, rfl, hg, hcell⟩ := (hr.own O) (by omega)
        obtain ⟨d0, d1⟩ := hcell k hkl
        have hly := H5.out _ (List.getElem_mem hkl)
        have ST := rcOk_step hkl
        have htk : ((rc.take k).length : Int) = (k : Int) := by simp; omega
        have HB : Hid (∀ r, r ∈ rc.take k → r.1.length ≤ 100000000) := fun r hr => by have := H5.out r (List.mem_of_mem_take hr); omega
        have RK := (hr.take k)
        generalize hy : rc[k] = y at d0 d1 hly ST
        clear hy hcell
        obtain ⟨y, yb⟩ := y
        simp only at d0 d1 hly ST
        have HST := Lib.hid ST
        clear ST
        have O2 := O.newBox #[.string ⟨y.toArray⟩, .bool yb] 43
        obtain ⟨f0, f1, f2, f3, f4⟩ := box5 (O2.pick 1)
        have e0 : (wr.alloc (.cells #[.string ⟨y.toArray⟩, .bool yb] 43)).cell? ⟨wr.heap.size, 0, none⟩ = some (.string ⟨y.toArray⟩) := O2.cell 0
        cases b
        · have NX : Hid (err = if (false && rcOk (rc.take (k + 1)) (rc.drop (k + 1))) = true then 0 else 4) := HE.out
          clear HE HST
          go_wp2_with fail
          go_roundw
          case rel => exact ⟨k + 1, false, by omega, by go_num, rfl, NX.out, O2.drop⟩
          case measure => simp [intOf]; omega
        have HE2 : Hid (err = if ((parseB y && !((rc.take k).any fun z => sameB z.1 y)) && rcOk (rc.take (k + 1)) (rc.drop (k + 1))) = true then 0 else 4) := by
          unfold Hid; rw [HE.out, HST.out]; rfl
        clear HE HST
        have MY := amay_own K O2 y (by omega)
        generalize parseB y = my at HE2 MY
        go_wp2_with fail
        refine MY.mono ?_
        clear MY O2 c0 c1 c2 c3 c4 f0 f1 f2 f3 f4 e0 d0 d1
        rintro e w2 ⟨rfl, O2⟩
        cases my
        · have NX : Hid (err = if (false && rcOk (rc.take (k + 1)) (rc.drop (k + 1))) = true then 0 else 4) := HE2.out
          clear HE2
          go_wp2_with fail
          go_roundw
          case rel => exact ⟨k + 1, false, by omega, by go_num, rfl, NX.out, O2.drop⟩
          case measure => simp [intOf]; omega
        obtain ⟨f0, f1, f2, f3, f4⟩ := box5 (O2.pick 1)
        have hcapk : k ≤ rcap := by have := HCAP.out; omega
        have CT := containsRc_own K O2 (by omega) rcap RK HB.out (by simp; omega)
        rw [show (rc.take k).length = k by simp; omega] at CT
        generalize ((rc.take k).any fun z => sameB z.1 y) = an at HE2 CT
        go_wp2_with fail
        refine CT.mono ?_
        clear CT O2 f0 f1 f2 f3 f4
        rintro e w3 ⟨rfl, O2⟩
        cases an
        · have NX : Hid (err = if (true && rcOk (rc.take (k + 1)) (rc.drop (k + 1))) = true then 0 else 4) := HE2.out
          clear HE2
          go_wp2_with fail
          go_roundw
          case rel => exact ⟨k + 1, true, by omega, by go_num, rfl, NX.out, O2.drop⟩
          case measure => simp [intOf]; omega
        · have NX : Hid (err = if (false && rcOk (rc.take (k + 1)) (rc.drop (k + 1))) = true then 0 else 4) := HE2.out
          clear HE2
          go_wp2_with fail
          go_roundw
          case rel => exact ⟨k + 1, false, by omega, by go_num, rfl, NX.out, O2.drop⟩
          case measure => simp [intOf]; omega
      · clear hNB
        obtain rfl : k = N := by omega
        have E1 := HE.out
        rw [List.drop_of_length_le (by have := HN.out; omega)] at E1
        simp only [rcOk, Bool.and_true] at E1
        clear HE
        cases b
        · have fin : err = 4 := E1
          clear E1
          subst fin
          go_wp2
          go_ret
          exact ⟨rfl, O.chg⟩
        · have fin : err = 0 := E1
          clear E1
          subst fin
          go_wp2
          go_ret
          exact ⟨rfl, O.chg⟩
end Go.Proofs.YtlmifdkhdcbniaaDoor
