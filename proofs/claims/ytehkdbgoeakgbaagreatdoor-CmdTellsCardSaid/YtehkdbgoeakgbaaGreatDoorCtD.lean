/- mailroomref07.params. -/
import Derived.Test.YtehkdbgoeakgbaaGreatDoorCtC
namespace Go.Proofs.YtehkdbgoeakgbaaGreatDoor
set_option linter.all false
open Go.RowKit Go.Shelf

/-- what params of the document leaves -/
def ParamsPost (w0 : World) (L : List Piece) (s : List UInt8) (e : Ending) (w' : World) : Prop :=
  match parsePs s.length s with
  | some ps => ∃ a cap, e = .returned (.tuple #[.slice a ps.length cap, .bool true]) ∧ Own w0 w' (rowv 57 2 (.slice a ps.length cap) ps.length (flatP ps) :: L)
  | none => e = .returned (.tuple #[.slice none 0 0, .bool false]) ∧ Own w0 w' L
theorem ppost_none {w0 w' : World} {L : List Piece} {s : List UInt8} (h : parsePs s.length s = none) (O : Own w0 w' L) : ParamsPost w0 L s (.returned (.tuple #[.slice none 0 0, .bool false])) w' := by
  unfold ParamsPost; rw [h]; exact ⟨rfl, O⟩
theorem ppost_some {w0 w' : World} {L : List Piece} {s : List UInt8} {ps : List Pm} (h : parsePs s.length s = some ps) {a : Option Addr} {k cap : Nat} (hk : k = ps.length) (O : Own w0 w' (rowv 57 2 (.slice a k cap) k (flatP ps) :: L)) : ParamsPost w0 L s (.returned (.tuple #[.slice a k cap, .bool true])) w' := by
  subst hk; unfold ParamsPost; rw [h]; exact ⟨a, cap, rfl, O⟩
set_option maxRecDepth 100000 in
set_option maxHeartbeats 4000000 in
theorem rparams_own {w0 w : World} {L : List Piece} (O : Own w0 w L) (s0 : List UInt8) (hs : s0.length ≤ 1000000) :
    Calls Tryz.prog 40 #[.string ⟨s0.toArray⟩] w (ParamsPost w0 L s0) := by
  have PN := Lib.hid (fun (h : parsePs s0.length s0 = none) (w' : World) (O : Own w0 w' L) => ppost_none h O)
  have PY := Lib.hid (fun (ps : List Pm) (h : parsePs s0.length s0 = some ps) (w' : World) (a : Option Addr) (k cap : Nat) (hk : k = ps.length) (O : Own w0 w' (rowv 57 2 (.slice a k cap) k (flatP ps) :: L)) => ppost_some h hk O)
  have O1 := O.nilPm 57
  clear O
  go_enter Tryz.func40, Tryz.ntmps40
  go_wp2_with fail
  go_loopw [0, 4] (fun sv ov wr => ∃ (r : List UInt8) (ps : List Pm) (a : Option Addr) (k cap : Nat), sv = .string ⟨r.toArray⟩ ∧ ov = .slice a k cap ∧ Hid (k = ps.length) ∧ r.length + k ≤ 1000000 ∧ Hid (restPs s0 ps r) ∧ Own w0 wr (rowv 57 2 (.slice a k cap) k (flatP ps) :: L)) (fun sv _ _ => match sv with | .string b => b.size | _ => 0)
  case atStart => exact ⟨s0, [], none, 0, 0, rfl, rfl, rfl, by omega, restPs_start s0, O1⟩
  case round =>
    clear O1
    obtain ⟨r, ps, a, k, cap, rfl, rfl, HK, hrk, HR, O⟩ := hrel
    rcases Nat.eq_zero_or_pos r.length with h0 | h0
    · obtain rfl : r = [] := List.length_eq_zero_iff.1 h0
      have FIN := Lib.hid (PY.out ps (restPs_end HR.out) _ a k cap HK.out O)
      clear O HR HK PY PN
      go_wp2
      go_returns
      exact FIN.out
    have hne : (!r.isEmpty) = true := by cases r with
      | nil => simp at h0
      | cons _ _ => rfl
    have hi0 : (0 : Int) < (r.length : Int) := by omega
    have NO := Lib.hid (fun hn => restPs_no' HR.out h0 hn)
    have c32 := b_is (r[0]'h0) 32 32 rfl
    rcases Bool.eq_false_or_eq_true (r[0]'h0 == 32) with q | q
    rotate_left
    · have FIN := Lib.hid (PN.out (NO.out (fun h => by rw [h.1] at q; revert q; decide)) _ O.drop)
      rw [q] at c32
      have c32' : ((r[0].toNat : Int) != 32) = true := by rw [bne, c32]; rfl
      clear q O HR HK PY PN NO
      go_wp2
      go_returns
      exact FIN.out
    rw [q] at c32
    have c32' : ((r[0].toNat : Int) != 32) = false := by rw [bne, c32]; rfl
    go_wp2_with fail
    have Q32 : Hid (r[0] = 32) := by simpa [Hid] using q
    clear q c32 c32'
    go_loopw [5] (fun jv wx => ∃ e : Nat, jv = .int .i64 e ∧ 1 ≤ e ∧ e ≤ r.length ∧ Hid (∀ i (h : i < r.length), 1 ≤ i → i < e → r[i] ≠ 32) ∧ wx = wr) (fun jv _ => r.length - (intOf jv).toNat)
    case atStart => exact ⟨1, rfl, by omega, by omega, (show Hid _ from fun i _ h1 h2 => by omega), rfl⟩
    case round =>
      obtain ⟨e, rfl, he1, he2, HE, rfl⟩ := hrel
      by_cases hlt : e < r.length
      · have hb1 : (e : Int) < (r.length : Int) := by omega
        have ce := b_is (r[e]'hlt) 32 32 rfl
        rcases Bool.eq_false_or_eq_true (r[e]'hlt == 32) with qe | qe
        rotate_left
        · rw [qe] at ce
          have ce' : ((r[e].toNat : Int) != 32) = true := by rw [bne, ce]; rfl
          have NE : Hid (∀ i (h : i < r.length), 1 ≤ i → i < e + 1 → r[i] ≠ 32) := fun i h h1 h2 => by
            rcases Nat.lt_or_ge i e with h3 | h3
            · exact HE.out i h h1 h3
            · obtain rfl : i = e := by omega
              simpa using qe
          clear qe HE
          go_wp2
          go_roundw
          case rel => exact ⟨e + 1, by go_num, by omega, by omega, NE, by trivial⟩
          case measure => simp [intOf]; omega
        · have ce' : ((r[e].toNat : Int) != 32) = false := by rw [bne, ce, qe]; rfl
          have END : Hid (e = r.length ∨ ∃ h : e < r.length, r[e] = 32) := .inr ⟨hlt, by simpa using qe⟩
          clear qe ce
          have HW : Hid (wordOf (r.drop 1) = (r.drop 1).take (e - 1)) := by
            refine wordOf_at (by rw [List.length_drop]; omega) (fun m hm => ?_) ?_
            · rw [List.getElem_drop]; exact HE.out (1 + m) (by omega) (by omega) (by omega)
            · rcases END.out with h | ⟨h, h2⟩
              · exact .inl (by rw [List.length_drop]; omega)
              · refine .inr ⟨by rw [List.length_drop]; omega, ?_⟩
                rw [List.getElem_drop]
                have : 1 + (e - 1) = e := by omega
                simp only [this]; exact h2
          have NX := Lib.hid (fun hy => restPs_next' HR.out h0 Q32.out hy)
          rw [HW.out] at NX NO
          have hWl : ((r.drop 1).take (e - 1)).length = e - 1 := by rw [List.length_take, List.length_drop]; omega
          rw [hWl, show 1 + (e - 1) = e by omega] at NX
          have SB := run_sub r 1 e (by omega) (by omega)
          rw [show ((1 : Nat) : Int) = 1 from rfl] at SB
          clear END HW HE HR
          obtain ⟨W, hWd⟩ : ∃ W, W = (r.drop 1).take (e - 1) := ⟨_, rfl⟩
          have HWI : Hid (∀ i (h : i < W.length) (h2 : i + 1 < r.length), W[i] = r[i + 1]) := fun i h h2 => by subst hWd; simp
          have HS : Hid (∀ i (h1 : 1 ≤ i) (h2 : i < e) (h3 : i < r.length), r[i] = 61 → (r.drop 1).take (i - 1) = W.take (i - 1) ∧ (r.drop (i + 1)).take (e - (i + 1)) = W.drop i ∧ W = W.take (i - 1) ++ 61 :: W.drop i) := fun i h1 h2 h3 h6 => by
            subst hWd
            refine ⟨?_, ?_, ?_⟩
            · rw [List.take_take]; congr 1; omega
            · rw [List.drop_take, List.drop_drop]; congr 1 <;> first | omega | (congr 1; omega)
            · have hk : i - 1 < ((r.drop 1).take (e - 1)).length := by omega
              conv => lhs; rw [← List.take_append_drop (i - 1) ((r.drop 1).take (e - 1))]
              rw [List.drop_eq_getElem_cons hk, List.getElem_take, List.getElem_drop]
              have e1 : 1 + (i - 1) = i := by omega
              have e2 : i - 1 + 1 = i := by omega
              simp only [e1, e2, h6]
          rw [← hWd] at NX NO hWl SB
          clear hWd
          have GW := rGreat_own O W (by omega)
          go_wp2_with fail
          refine GW.mono ?_
          clear GW O SB
          rintro _ w3 ⟨rfl, O⟩
          obtain ⟨PB, hPB⟩ : ∃ b, b = w3.heap.size := ⟨_, rfl⟩
          have O2 := O.newBox #[.string ⟨(upL W).toArray⟩, .string ⟨#[]⟩] 57
          rw [← hPB] at O2
          clear O
          go_upto_region 9 with fail
          rw [← hPB]
          clear hPB
          generalize (w3.alloc (.cells #[.string ⟨(upL W).toArray⟩, .string ⟨#[]⟩] 57)) = W3 at O2 ⊢
          go_wp2_with fail
          go_loopw [7] (fun jv wx => ∃ i : Nat, jv = .int .i64 i ∧ 1 ≤ i ∧ i ≤ e ∧ Hid (∀ m (h : m < W.length), m + 1 < i → W[m] ≠ 61) ∧ wx = W3) (fun jv _ => e - (intOf jv).toNat)
          case atStart => exact ⟨1, rfl, by omega, by omega, (show Hid _ from fun m _ h => by omega), rfl⟩
          case round =>
            obtain ⟨i, rfl, hi1, hi2, HI, rfl⟩ := hrel
            by_cases hie : i < e
            · have hb2 : (i : Int) < (e : Int) := by omega
              have hir : i < r.length := by omega
              have hb3 : (i : Int) < (r.length : Int) := by omega
              have c61 := b_is (r[i]'hir) 61 61 rfl
              rcases Bool.eq_false_or_eq_true (r[i]'hir == 61) with q6 | q6
              rotate_left
              · rw [q6] at c61
                have NI : Hid (∀ m (h : m < W.length), m + 1 < i + 1 → W[m] ≠ 61) := fun m h h1 => by
                  rcases Nat.lt_or_ge (m + 1) i with h3 | h3
                  · exact HI.out m h h3
                  · have h4 : m + 1 = i := by omega
                    rw [HWI.out m h (by omega)]
                    simp only [h4]
                    simpa using q6
                clear q6 HI
                go_wp2
                go_roundw
                case rel => exact ⟨i + 1, by go_num, by omega, by omega, NI, by trivial⟩
                case measure => simp [intOf]; omega
              · rw [q6] at c61
                obtain ⟨t1, t2, t3⟩ := HS.out i hi1 hie hir (by simpa using q6)
                clear q6
                have hnl : (W.take (i - 1)).length ≤ 1000000 := by rw [List.length_take]; omega
                have hvl : (W.drop i).length ≤ 1000000000 := by rw [List.length_drop]; omega
                have hn61 : ∀ c ∈ W.take (i - 1), c ≠ 61 := fun c hc => by
                  obtain ⟨m, hm, rfl⟩ := List.mem_take_iff_getElem.1 hc
                  exact HI.out m (by omega) (by omega)
                have S1 := run_sub r 1 i (by omega) (by omega)
                rw [show ((1 : Nat) : Int) = 1 from rfl] at S1
                have S2 := run_sub r (i + 1) e (by omega) (by omega)
                rw [show ((i + 1 : Nat) : Int) = (i : Int) + 1 by omega] at S2
                rw [t1] at S1
                rw [t2] at S2
                obtain ⟨n, hn⟩ : ∃ n, n = W.take (i - 1) := ⟨_, rfl⟩
                obtain ⟨v, hv⟩ : ∃ v, v = W.drop i := ⟨_, rfl⟩
                rw [← hn] at S1 t3 hn61 hnl
                rw [← hv] at S2 t3 hvl
                clear hn hv t1 t2 HI HS HWI
                obtain ⟨p1, p2⟩ := pmOf_at (v := v) hn61
                rw [← t3] at p1 p2
                have PE := Lib.hid p1
                have PK := Lib.hid p2
                clear p1 p2 t3 hn61
                have i1 : IntKind.i64.wrap ((i : Int) + 1) = (i : Int) + 1 := IntWalk.i64_in _ (by omega)
                go_upto_region 13 with fail
                have OD := O2.drew
                have GN := Lib.hid (rGreat_own OD n (by omega))
                clear O2
                go_wp2_with fail
                go_region_held3? (fun _ => True) (exact trivial)
                  (first
                    | (go_at_call 38; (with_reducible refine GN.out.mono ?_); rintro e1 w7 ⟨rfl, O7⟩; have s0 := O7.cell 0; have s1 := O7.cell 1; have f0 := O7.free; have B1 := O7.set 0 (.string ⟨(upL n).toArray⟩); have f1 := B1.free; have r1 := B1.cell 1; have B2 := B1.set 1 (.string ⟨v.toArray⟩)))
                all_goals
                  clear GN OD O7 s0 s1 f0 B1 f1 r1 S1 S2
                  have z1 := B2.cell 1
                  rcases Nat.eq_zero_or_pos v.length with hv0 | hv0
                  · obtain rfl : v = [] := List.length_eq_zero_iff.1 hv0
                    have FIN := Lib.hid (PN.out (NO.out (fun h => by have := h.2; rw [PK.out] at this; simp at this)) _ B2.drop.drop)
                    clear NO NX PN PY HK PE PK hv0 B2
                    go_wp2
                    go_returns
                    exact FIN.out
                  have hve : v.isEmpty = false := by cases v with
                    | nil => simp at hv0
                    | cons _ _ => rfl
                  have PKO : Hid (pmOk W = pmB (upL n, v)) := by unfold Hid; rw [PK.out, hve]; simp
                  have PKE := PE
                  have OO := B2
                  clear PE PK B2
                  have d0 := OO.cell 0
                  have MP := rparam_own OO (upL n, v) hvl rfl
                  go_wp2_with fail
                  refine MP.mono ?_
                  clear MP OO
                  rintro _ w4 ⟨rfl, OO⟩
                  rcases Bool.eq_false_or_eq_true (pmB (upL n, v)) with hb | hb
                  rotate_left
                  · have FIN := Lib.hid (PN.out (NO.out (fun h => by have := h.2; rw [PKO.out, hb] at this; cases this)) _ OO.drop.drop)
                    rw [hb]
                    clear NO NX PN PY OO HK hb
                    go_wp2
                    go_returns
                    exact FIN.out
                  · have RN := Lib.hid (NX.out (by rw [PKO.out, hb]))
                    rw [hb]
                    have OA := OO.pick 1
                    have PD0 := OO.cell 0
                    have PD1 := OO.cell 1
                    have SF := run_subFrom r e (by omega)
                    clear NO NX PN PY OO hb
                    go_wp2_with (at_builtin; refine wpList_append_pmO pty_ref rfl _ _ rfl _ _ _ (upL n, v) OA rfl rfl (by omega) ?_)
                    intro xx yy w5 O7
                    rw [← flatP_snoc] at O7
                    have HK2 : Hid (k + 1 = (ps ++ [pmOf W]).length) := by unfold Hid; rw [List.length_append, HK.out]; rfl
                    rw [show (upL n, v) = pmOf W from PKE.out.symm] at O7
                    have hdl : (r.drop e).length + (k + 1) ≤ 1000000 := by rw [List.length_drop]; omega
                    have hdm : (r.drop e).length < r.length := by rw [List.length_drop]; omega
                    obtain ⟨r', hr'⟩ : ∃ r', r' = r.drop e := ⟨_, rfl⟩
                    rw [← hr'] at SF hdl hdm RN
                    clear hr' OA
                    go_wp2
                    go_roundw
                    case rel => exact ⟨r', ps ++ [pmOf W], xx, k + 1, yy, rfl, rfl, HK2, hdl, RN, O7.selK 2 [0]⟩
                    case measure => exact hdm
            · obtain rfl : i = e := by omega
              have hb2 : ¬ (i : Int) < (i : Int) := by omega
              obtain ⟨p1, p2⟩ := pmOf_no (w := W) (fun c hc => by
                obtain ⟨m, hm, rfl⟩ := List.mem_iff_getElem.1 hc
                exact HI.out m hm (by omega))
              have PKE := Lib.hid p1
              have PKO := Lib.hid p2
              clear p1 p2 HI HS HWI
              have hvl : ([] : List UInt8).length ≤ 1000000000 := by simp
              have OO := O2
              have d0 := OO.cell 0
              have d1 := OO.cell 1
              clear O2
              have MP := rparam_own OO (upL W, []) hvl rfl
              go_wp2_with fail
              refine MP.mono ?_
              clear MP OO
              rintro _ w4 ⟨rfl, OO⟩
              rcases Bool.eq_false_or_eq_true (pmB (upL W, [])) with hb | hb
              rotate_left
              · have FIN := Lib.hid (PN.out (NO.out (fun h => by have := h.2; rw [PKO.out, hb] at this; cases this)) _ OO.drop.drop)
                rw [hb]
                clear NO NX PN PY OO HK hb
                go_wp2
                go_returns
                exact FIN.out
              · have RN := Lib.hid (NX.out (by rw [PKO.out, hb]))
                rw [hb]
                have OA := OO.pick 1
                have PD0 := OO.cell 0
                have PD1 := OO.cell 1
                have SF := run_subFrom r i (by omega)
                clear NO NX PN PY OO hb
                go_wp2_with (at_builtin; refine wpList_append_pmO pty_ref rfl _ _ rfl _ _ _ (upL W, []) OA rfl rfl (by omega) ?_)
                intro xx yy w5 O7
                rw [← flatP_snoc] at O7
                have HK2 : Hid (k + 1 = (ps ++ [pmOf W]).length) := by unfold Hid; rw [List.length_append, HK.out]; rfl
                rw [show (upL W, []) = pmOf W from PKE.out.symm] at O7
                have hdl : (r.drop i).length + (k + 1) ≤ 1000000 := by rw [List.length_drop]; omega
                have hdm : (r.drop i).length < r.length := by rw [List.length_drop]; omega
                obtain ⟨r', hr'⟩ : ∃ r', r' = r.drop i := ⟨_, rfl⟩
                rw [← hr'] at SF hdl hdm RN
                clear hr' OA
                go_wp2
                go_roundw
                case rel => exact ⟨r', ps ++ [pmOf W], xx, k + 1, yy, rfl, rfl, HK2, hdl, RN, O7.selK 2 [0]⟩
                case measure => exact hdm
      · have hb1 : ¬ (e : Int) < (r.length : Int) := by omega
        have END : Hid (e = r.length ∨ ∃ h : e < r.length, r[e] = 32) := .inl (by omega)
        have HW : Hid (wordOf (r.drop 1) = (r.drop 1).take (e - 1)) := by
          refine wordOf_at (by rw [List.length_drop]; omega) (fun m hm => ?_) ?_
          · rw [List.getElem_drop]; exact HE.out (1 + m) (by omega) (by omega) (by omega)
          · rcases END.out with h | ⟨h, h2⟩
            · exact .inl (by rw [List.length_drop]; omega)
            · refine .inr ⟨by rw [List.length_drop]; omega, ?_⟩
              rw [List.getElem_drop]
              have : 1 + (e - 1) = e := by omega
              simp only [this]; exact h2
        have NX := Lib.hid (fun hy => restPs_next' HR.out h0 Q32.out hy)
        rw [HW.out] at NX NO
        have hWl : ((r.drop 1).take (e - 1)).length = e - 1 := by rw [List.length_take, List.length_drop]; omega
        rw [hWl, show 1 + (e - 1) = e by omega] at NX
        have SB := run_sub r 1 e (by omega) (by omega)
        rw [show ((1 : Nat) : Int) = 1 from rfl] at SB
        clear END HW HE HR
        obtain ⟨W, hWd⟩ : ∃ W, W = (r.drop 1).take (e - 1) := ⟨_, rfl⟩
        have HWI : Hid (∀ i (h : i < W.length) (h2 : i + 1 < r.length), W[i] = r[i + 1]) := fun i h h2 => by subst hWd; simp
        have HS : Hid (∀ i (h1 : 1 ≤ i) (h2 : i < e) (h3 : i < r.length), r[i] = 61 → (r.drop 1).take (i - 1) = W.take (i - 1) ∧ (r.drop (i + 1)).take (e - (i + 1)) = W.drop i ∧ W = W.take (i - 1) ++ 61 :: W.drop i) := fun i h1 h2 h3 h6 => by
          subst hWd
          refine ⟨?_, ?_, ?_⟩
          · rw [List.take_take]; congr 1; omega
          · rw [List.drop_take, List.drop_drop]; congr 1 <;> first | omega | (congr 1; omega)
          · have hk : i - 1 < ((r.drop 1).take (e - 1)).length := by omega
            conv => lhs; rw [← List.take_append_drop (i - 1) ((r.drop 1).take (e - 1))]
            rw [List.drop_eq_getElem_cons hk, List.getElem_take, List.getElem_drop]
            have e1 : 1 + (i - 1) = i := by omega
            have e2 : i - 1 + 1 = i := by omega
            simp only [e1, e2, h6]
        rw [← hWd] at NX NO hWl SB
        clear hWd
        have GW := rGreat_own O W (by omega)
        go_wp2_with fail
        refine GW.mono ?_
        clear GW O SB
        rintro _ w3 ⟨rfl, O⟩
        obtain ⟨PB, hPB⟩ : ∃ b, b = w3.heap.size := ⟨_, rfl⟩
        have O2 := O.newBox #[.string ⟨(upL W).toArray⟩, .string ⟨#[]⟩] 57
        rw [← hPB] at O2
        clear O
        go_upto_region 9 with fail
        rw [← hPB]
        clear hPB
        generalize (w3.alloc (.cells #[.string ⟨(upL W).toArray⟩, .string ⟨#[]⟩] 57)) = W3 at O2 ⊢
        go_wp2_with fail
        go_loopw [7] (fun jv wx => ∃ i : Nat, jv = .int .i64 i ∧ 1 ≤ i ∧ i ≤ e ∧ Hid (∀ m (h : m < W.length), m + 1 < i → W[m] ≠ 61) ∧ wx = W3) (fun jv _ => e - (intOf jv).toNat)
        case atStart => exact ⟨1, rfl, by omega, by omega, (show Hid _ from fun m _ h => by omega), rfl⟩
        case round =>
          obtain ⟨i, rfl, hi1, hi2, HI, rfl⟩ := hrel
          by_cases hie : i < e
          · have hb2 : (i : Int) < (e : Int) := by omega
            have hir : i < r.length := by omega
            have hb3 : (i : Int) < (r.length : Int) := by omega
            have c61 := b_is (r[i]'hir) 61 61 rfl
            rcases Bool.eq_false_or_eq_true (r[i]'hir == 61) with q6 | q6
            rotate_left
            · rw [q6] at c61
              have NI : Hid (∀ m (h : m < W.length), m + 1 < i + 1 → W[m] ≠ 61) := fun m h h1 => by
                rcases Nat.lt_or_ge (m + 1) i with h3 | h3
                · exact HI.out m h h3
                · have h4 : m + 1 = i := by omega
                  rw [HWI.out m h (by omega)]
                  simp only [h4]
                  simpa using q6
              clear q6 HI
              go_wp2
              go_roundw
              case rel => exact ⟨i + 1, by go_num, by omega, by omega, NI, by trivial⟩
              case measure => simp [intOf]; omega
            · rw [q6] at c61
              obtain ⟨t1, t2, t3⟩ := HS.out i hi1 hie hir (by simpa using q6)
              clear q6
              have hnl : (W.take (i - 1)).length ≤ 1000000 := by rw [List.length_take]; omega
              have hvl : (W.drop i).length ≤ 1000000000 := by rw [List.length_drop]; omega
              have hn61 : ∀ c ∈ W.take (i - 1), c ≠ 61 := fun c hc => by
                obtain ⟨m, hm, rfl⟩ := List.mem_take_iff_getElem.1 hc
                exact HI.out m (by omega) (by omega)
              have S1 := run_sub r 1 i (by omega) (by omega)
              rw [show ((1 : Nat) : Int) = 1 from rfl] at S1
              have S2 := run_sub r (i + 1) e (by omega) (by omega)
              rw [show ((i + 1 : Nat) : Int) = (i : Int) + 1 by omega] at S2
              rw [t1] at S1
              rw [t2] at S2
              obtain ⟨n, hn⟩ : ∃ n, n = W.take (i - 1) := ⟨_, rfl⟩
              obtain ⟨v, hv⟩ : ∃ v, v = W.drop i := ⟨_, rfl⟩
              rw [← hn] at S1 t3 hn61 hnl
              rw [← hv] at S2 t3 hvl
              clear hn hv t1 t2 HI HS HWI
              obtain ⟨p1, p2⟩ := pmOf_at (v := v) hn61
              rw [← t3] at p1 p2
              have PE := Lib.hid p1
              have PK := Lib.hid p2
              clear p1 p2 t3 hn61
              have i1 : IntKind.i64.wrap ((i : Int) + 1) = (i : Int) + 1 := IntWalk.i64_in _ (by omega)
              go_upto_region 13 with fail
              have OD := O2.drew
              have GN := Lib.hid (rGreat_own OD n (by omega))
              clear O2
              go_wp2_with fail
              go_region_held3? (fun _ => True) (exact trivial)
                (first
                  | (go_at_call 38; (with_reducible refine GN.out.mono ?_); rintro e1 w7 ⟨rfl, O7⟩; have s0 := O7.cell 0; have s1 := O7.cell 1; have f0 := O7.free; have B1 := O7.set 0 (.string ⟨(upL n).toArray⟩); have f1 := B1.free; have r1 := B1.cell 1; have B2 := B1.set 1 (.string ⟨v.toArray⟩)))
              all_goals
                clear GN OD O7 s0 s1 f0 B1 f1 r1 S1 S2
                have z1 := B2.cell 1
                rcases Nat.eq_zero_or_pos v.length with hv0 | hv0
                · obtain rfl : v = [] := List.length_eq_zero_iff.1 hv0
                  have FIN := Lib.hid (PN.out (NO.out (fun h => by have := h.2; rw [PK.out] at this; simp at this)) _ B2.drop.drop)
                  clear NO NX PN PY HK PE PK hv0 B2
                  go_wp2
                  go_returns
                  exact FIN.out
                have hve : v.isEmpty = false := by cases v with
                  | nil => simp at hv0
                  | cons _ _ => rfl
                have PKO : Hid (pmOk W = pmB (upL n, v)) := by unfold Hid; rw [PK.out, hve]; simp
                have PKE := PE
                have OO := B2
                clear PE PK B2
                have d0 := OO.cell 0
                have MP := rparam_own OO (upL n, v) hvl rfl
                go_wp2_with fail
                refine MP.mono ?_
                clear MP OO
                rintro _ w4 ⟨rfl, OO⟩
                rcases Bool.eq_false_or_eq_true (pmB (upL n, v)) with hb | hb
                rotate_left
                · have FIN := Lib.hid (PN.out (NO.out (fun h => by have := h.2; rw [PKO.out, hb] at this; cases this)) _ OO.drop.drop)
                  rw [hb]
                  clear NO NX PN PY OO HK hb
                  go_wp2
                  go_returns
                  exact FIN.out
                · have RN := Lib.hid (NX.out (by rw [PKO.out, hb]))
                  rw [hb]
                  have OA := OO.pick 1
                  have PD0 := OO.cell 0
                  have PD1 := OO.cell 1
                  have SF := run_subFrom r e (by omega)
                  clear NO NX PN PY OO hb
                  go_wp2_with (at_builtin; refine wpList_append_pmO pty_ref rfl _ _ rfl _ _ _ (upL n, v) OA rfl rfl (by omega) ?_)
                  intro xx yy w5 O7
                  rw [← flatP_snoc] at O7
                  have HK2 : Hid (k + 1 = (ps ++ [pmOf W]).length) := by unfold Hid; rw [List.length_append, HK.out]; rfl
                  rw [show (upL n, v) = pmOf W from PKE.out.symm] at O7
                  have hdl : (r.drop e).length + (k + 1) ≤ 1000000 := by rw [List.length_drop]; omega
                  have hdm : (r.drop e).length < r.length := by rw [List.length_drop]; omega
                  obtain ⟨r', hr'⟩ : ∃ r', r' = r.drop e := ⟨_, rfl⟩
                  rw [← hr'] at SF hdl hdm RN
                  clear hr' OA
                  go_wp2
                  go_roundw
                  case rel => exact ⟨r', ps ++ [pmOf W], xx, k + 1, yy, rfl, rfl, HK2, hdl, RN, O7.selK 2 [0]⟩
                  case measure => exact hdm
          · obtain rfl : i = e := by omega
            have hb2 : ¬ (i : Int) < (i : Int) := by omega
            obtain ⟨p1, p2⟩ := pmOf_no (w := W) (fun c hc => by
              obtain ⟨m, hm, rfl⟩ := List.mem_iff_getElem.1 hc
              exact HI.out m hm (by omega))
            have PKE := Lib.hid p1
            have PKO := Lib.hid p2
            clear p1 p2 HI HS HWI
            have hvl : ([] : List UInt8).length ≤ 1000000000 := by simp
            have OO := O2
            have d0 := OO.cell 0
            have d1 := OO.cell 1
            clear O2
            have MP := rparam_own OO (upL W, []) hvl rfl
            go_wp2_with fail
            refine MP.mono ?_
            clear MP OO
            rintro _ w4 ⟨rfl, OO⟩
            rcases Bool.eq_false_or_eq_true (pmB (upL W, [])) with hb | hb
            rotate_left
            · have FIN := Lib.hid (PN.out (NO.out (fun h => by have := h.2; rw [PKO.out, hb] at this; cases this)) _ OO.drop.drop)
              rw [hb]
              clear NO NX PN PY OO HK hb
              go_wp2
              go_returns
              exact FIN.out
            · have RN := Lib.hid (NX.out (by rw [PKO.out, hb]))
              rw [hb]
              have OA := OO.pick 1
              have PD0 := OO.cell 0
              have PD1 := OO.cell 1
              have SF := run_subFrom r i (by omega)
              clear NO NX PN PY OO hb
              go_wp2_with (at_builtin; refine wpList_append_pmO pty_ref rfl _ _ rfl _ _ _ (upL W, []) OA rfl rfl (by omega) ?_)
              intro xx yy w5 O7
              rw [← flatP_snoc] at O7
              have HK2 : Hid (k + 1 = (ps ++ [pmOf W]).length) := by unfold Hid; rw [List.length_append, HK.out]; rfl
              rw [show (upL W, []) = pmOf W from PKE.out.symm] at O7
              have hdl : (r.drop i).length + (k + 1) ≤ 1000000 := by rw [List.length_drop]; omega
              have hdm : (r.drop i).length < r.length := by rw [List.length_drop]; omega
              obtain ⟨r', hr'⟩ : ∃ r', r' = r.drop i := ⟨_, rfl⟩
              rw [← hr'] at SF hdl hdm RN
              clear hr' OA
              go_wp2
              go_roundw
              case rel => exact ⟨r', ps ++ [pmOf W], xx, k + 1, yy, rfl, rfl, HK2, hdl, RN, O7.selK 2 [0]⟩
              case measure => exact hdm
end Go.Proofs.YtehkdbgoeakgbaaGreatDoor
