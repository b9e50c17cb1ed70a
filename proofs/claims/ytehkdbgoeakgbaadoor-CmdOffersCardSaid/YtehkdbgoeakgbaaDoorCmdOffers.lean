/- CmdOffers: the walk. -/
import Derived.Test.YtehkdbgoeakgbaaDoorCmOf
import Derived.Test.YtehkdbgoeakgbaaDoorCmKK
import Derived.Test.YtehkdbgoeakgbaaDoorFrameCm
namespace Go.Proofs.YtehkdbgoeakgbaaDoor
set_option linter.all false
open Go.RowKit Go.Shelf

theorem get_is {w0 w : World} {L : List Piece} (O : Own w0 w L) (v : Nat) (x : List UInt8) {a : Option Addr} {n cap : Nat} {ps : List Pm} (hn : n = ps.length) (hl : n ≤ 1000000000)
    (RD : ∀ w', Own w0 w' L → PmR w' (.slice a n cap) ps) (name : List UInt8) {t : List UInt8} {b : Bool} (ht : (getCm ps name).getD [] = t) (hb : (getCm ps name).isSome = b) :
    Calls Tryd.prog 15 #[.agg #[.int .u8 v, .string ⟨x.toArray⟩, .slice a n cap], .string ⟨name.toArray⟩] w fun e w' => e = .returned (.tuple #[.string ⟨t.toArray⟩, .bool b]) ∧ Own w0 w' L := by
  have G := get_own O v x hn hl RD name (o := getCm ps name) rfl
  rw [getV_is, ht, hb] at G
  exact G
theorem cnt_take (l : List Bool) (k : Nat) (h : k < l.length) : cntB (l.take (k + 1)) = cntB (l.take k) + (if l[k] = true then 1 else 0) := by
  unfold cntB
  rw [List.take_succ_eq_append_getElem h, List.filter_append, List.length_append]
  cases l[k] <;> rfl
theorem cnt_le (l : List Bool) : cntB l ≤ l.length := List.length_filter_le _ _
set_option maxRecDepth 100000 in
set_option maxHeartbeats 8000000 in
theorem cmdOffers_walk {w : World} (KK : KT w) (fr : List UInt8) (hf : fr.length ≤ 140737488351232) (vc : Value) (o : ∃ (b0 b1 b2 b3 b4 b5 : Bool) (m : Int), vc = capsV b0 b1 b2 b3 b4 b5 m) (n : Int) (hn : (Lit.int .i64 n).wf = true) (rq : Bool) (env : List UInt8) (he : env.length ≤ 140737488351232) (nv : Bool) :
    Calls Tryd.prog 4 #[.string ⟨fr.toArray⟩, vc, .int .i64 n, .bool rq, .string ⟨env.toArray⟩, .bool nv] w fun e w' => e = .returned (.bool true) ∧ Below w.heap.size w w' := by
  obtain ⟨b0, b1, b2, b3, b4, b5, mst, rfl⟩ := o
  obtain ⟨K, T⟩ := KK
  show Calls _ _ #[.string ⟨fr.toArray⟩, .agg #[.bool b0, .bool b1, .bool b2, .bool b3, .bool b4, .bool b5, .int .i64 mst], .int .i64 n, .bool rq, .string ⟨env.toArray⟩, .bool nv] w _
  have O := (Own.start w).newBox #[.bool b0, .bool b1, .bool b2, .bool b3, .bool b4, .bool b5, .int .i64 mst] 23
  by_cases h5 : 5000 < fr.length + env.length
  · have h5' : (5000 : Int) < (fr.length : Int) + (env.length : Int) := by omega
    clear h5
    go_enter Tryd.func4, Tryd.ntmps4
    go_wp2_with fail
    refine (awake7_own K T O).mono ?_
    clear O
    rintro e w1 ⟨rfl, O⟩
    go_wp2
    go_ret
    exact ⟨rfl, O.below⟩
  have h5' : ¬ (5000 : Int) < (fr.length : Int) + (env.length : Int) := by omega
  have z1 : fr.length ≤ 1000000 := by omega
  have z2 : env.length ≤ 1000000 := by omega
  have hw : -9223372036854775808 ≤ n ∧ n ≤ 9223372036854775807 := by
    have := hn
    simp [Lit.wf, IntKind.min, IntKind.max, IntKind.signed, IntKind.bits] at this
    omega
  have ML := Lib.hid (fun (c : Cm) h => mail_line (fr := fr) (sz := b5) (rq := b2) (dsn := b3) (require := rq) (env := env) (c := c) hw h)
  have MH := Lib.hid (mail_has (Lib.itoa n) b5 b2 b3 rq env)
  have MP := Lib.hid (fun (w' : World) (L' : List Piece) (h : Own w w' L') => mail7_own K T h fr z1 b0 b1 b2 b3 b4 b5 mst n hn rq env z2)
  generalize mailCm fr n b5 b2 b3 rq env = R at ML MP
  generalize mailPs (Lib.itoa n) b5 b2 b3 rq env = ps at ML MH
  unfold capsV at MP
  obtain ⟨CB, hCB⟩ : ∃ b, b = w.heap.size := ⟨_, rfl⟩
  rw [← hCB] at O
  clear h5 hw
  go_enter Tryd.func4, Tryd.ntmps4
  go_wp2_with fail
  rw [← hCB]
  clear hCB
  refine (awake7_own K T O).mono ?_
  clear O
  rintro e w1 ⟨rfl, O⟩
  have c0 := O.cell 0
  have c1 := O.cell 1
  have c2 := O.cell 2
  have c3 := O.cell 3
  have c4 := O.cell 4
  have c5 := O.cell 5
  have c6 := O.cell 6
  go_wp2_with fail
  refine (MP.out _ _ O).mono ?_
  clear c0 c1 c2 c3 c4 c5 c6 O MP
  rintro e w2 h
  obtain ⟨c, e0, a, cap, rfl, O, HE⟩ := made_one h
  clear h
  have HE := Lib.hid HE
  obtain ⟨v, x, qs⟩ := c
  simp only at O ⊢
  obtain ⟨N, hN⟩ : ∃ N, N = qs.length := ⟨_, rfl⟩
  rw [← hN] at O ⊢
  have HN := Lib.hid hN
  clear hN
  obtain ⟨MB, hMB⟩ : ∃ b, b = w2.heap.size := ⟨_, rfl⟩
  replace O := O.newBox #[.int .u8 v, .string ⟨x.toArray⟩, .slice a N cap] 27
  rw [← hMB] at O
  go_upto_if 49 with fail
  rw [← hMB]
  clear hMB
  generalize (w2.alloc (.cells #[.int .u8 v, .string ⟨x.toArray⟩, .slice a N cap] 27)) = W2 at O ⊢
  go_cut [] (fun wx => Own w wx [box CB #[.bool b0, .bool b1, .bool b2, .bool b3, .bool b4, .bool b5, .int .i64 mst] 23])
  case first =>
    rcases HE.out with ⟨rfl, hR⟩ | ⟨rfl, hR, hc⟩
    · obtain ⟨hc, hmay, hlen⟩ := ML.out _ hR
      simp only [Cm.mk.injEq] at hc
      obtain ⟨rfl, rfl, rfl⟩ := hc
      have HSH := Lib.hid (shown_line hmay hlen)
      have HLW := Lib.hid (line_word hmay)
      have HLL : Hid ((qs.flatMap ptL).length ≤ 10000000) := by
        have : (lineCm ⟨3, x, qs⟩).length = _ := rfl
        unfold Hid
        unfold lineCm at hlen
        simp only [List.length_append] at hlen
        omega
      clear hR hmay hlen HE ML
      obtain ⟨m1, m2, m3, m4, m5⟩ := MH.out
      have HM4 := Lib.hid m4
      have HM5 := Lib.hid m5
      have RD : ∀ w', Own w w' [box MB #[.int .u8 3, .string ⟨x.toArray⟩, .slice a N cap] 27, rowv 58 2 (.slice a N cap) N (flatP qs), box CB #[.bool b0, .bool b1, .bool b2, .bool b3, .bool b4, .bool b5, .int .i64 mst] 23] → PmR w' (.slice a N cap) qs := fun w' h => (h.pick 1).pmR
      have RDH := Lib.hid RD
      have hN9 : N ≤ 3 := by
        rw [HN.out, HM5.out]; exact cnt_le _
      have G1 := Lib.hid (fun w' h => get_is (w := w') h 3 x HN.out (by omega) (RDH.out) [83, 73, 90, 69] rfl m1)
      have G2 := Lib.hid (fun w' h => get_is (w := w') h 3 x HN.out (by omega) (RDH.out) [82, 69, 81, 85, 73, 82, 69, 84, 76, 83] rfl m2)
      have G3 := Lib.hid (fun w' h => get_is (w := w') h 3 x HN.out (by omega) (RDH.out) [69, 78, 86, 73, 68] rfl m3)
      have SHW := Lib.hid (fun w' h => shown7_own (w := w') K h ⟨3, x, qs⟩ (a := a) (cap := cap) HN.out (by simp) (by simp only; omega) (by omega) HLL.out (RDH.out) 0 (.inl rfl) HSH.out)
      have FIN : Hid (∀ w', Own w w' [box MB #[.int .u8 3, .string ⟨x.toArray⟩, .slice a N cap] 27, rowv 58 2 (.slice a N cap) N (flatP qs), box CB #[.bool b0, .bool b1, .bool b2, .bool b3, .bool b4, .bool b5, .int .i64 mst] 23] → Own w w' [box CB #[.bool b0, .bool b1, .bool b2, .bool b3, .bool b4, .bool b5, .int .i64 mst] 23]) := fun w' h => h.drop.drop
      have CL : Hid (∀ w', Own w w' [box MB #[.int .u8 3, .string ⟨x.toArray⟩, .slice a N cap] 27, rowv 58 2 (.slice a N cap) N (flatP qs), box CB #[.bool b0, .bool b1, .bool b2, .bool b3, .bool b4, .bool b5, .int .i64 mst] 23] →
        (w'.cell? ⟨MB, 0, none⟩ = some (.int .u8 3) ∧ w'.cell? ⟨MB, 1, none⟩ = some (.string ⟨x.toArray⟩) ∧ w'.cell? ⟨MB, 2, none⟩ = some (.slice a N cap) ∧ w'.cell? ⟨CB, 2, none⟩ = some (.bool b2) ∧ w'.cell? ⟨CB, 3, none⟩ = some (.bool b3) ∧ w'.cell? ⟨CB, 5, none⟩ = some (.bool b5))) := fun w' h => ⟨h.cell 0, h.cell 1, h.cell 2, (h.pick 2).cell 2, (h.pick 2).cell 3, (h.pick 2).cell 5⟩
      generalize hid0 : (getCm qs [83, 73, 90, 69]).getD [] = t1 at G1
      generalize hid1 : (getCm qs [82, 69, 81, 85, 73, 82, 69, 84, 76, 83]).getD [] = t2 at G2
      generalize hid2 : (getCm qs [69, 78, 86, 73, 68]).getD [] = t3 at G3
      have HT3 : Hid ((b3 && !env.isEmpty) = true → t3 = env) := fun h => by rw [← hid2, HM4.out h]; rfl
      generalize hb1 : (b2 && rq) = r at G2 HM5
      generalize hb2 : (b3 && !env.isEmpty) = d at G3 HM5 HT3
      have HB1 := Lib.hid hb1
      have HB2 := Lib.hid hb2
      clear hid0 hid1 hid2 m1 m2 m3 m4 m5 hb1 hb2 HM4 MH RD
      obtain ⟨x0, x1, x2, d2, d3, d5⟩ := CL.out _ O
      clear d2 d3 d5
      go_wp2_with fail
      refine (G1.out _ O).mono ?_
      clear O x0 x1 x2 G1
      rintro e w3 ⟨rfl, O⟩
      obtain ⟨x0, x1, x2, d2, d3, d5⟩ := CL.out _ O
      clear d2 d3 d5
      go_wp2_with fail
      refine (G2.out _ O).mono ?_
      clear O x0 x1 x2 G2
      rintro e w3 ⟨rfl, O⟩
      obtain ⟨x0, x1, x2, d2, d3, d5⟩ := CL.out _ O
      clear d2 d3 d5
      go_wp2_with fail
      refine (G3.out _ O).mono ?_
      clear O x0 x1 x2 G3
      rintro e w3 ⟨rfl, O⟩
      obtain ⟨LB, hLB⟩ : ∃ b, b = w3.heap.size := ⟨_, rfl⟩
      have O1 := O.newBox #[.bool b5, .bool r, .bool d] 4
      rw [← hLB] at O1
      go_wp2_with fail
      rw [← hLB]
      clear hLB
      generalize (w3.alloc (.cells #[.bool b5, .bool r, .bool d] 4)) = W3 at O1 ⊢
      go_loopw [21, 70] (fun nv iv wr => ∃ k : Nat, k ≤ 3 ∧ nv = .int .i64 (cntB ([b5, r, d].take k) : Int) ∧ iv = .int .i64 k ∧ Own w wr [box LB #[.bool b5, .bool r, .bool d] 4, box MB #[.int .u8 3, .string ⟨x.toArray⟩, .slice a N cap] 27, rowv 58 2 (.slice a N cap) N (flatP qs), box CB #[.bool b0, .bool b1, .bool b2, .bool b3, .bool b4, .bool b5, .int .i64 mst] 23]) (fun _ iv _ => 3 - (intOf iv).toNat)
      case atStart => exact ⟨0, by omega, rfl, rfl, O1⟩
      case round =>
        clear O O1
        obtain ⟨k, hk, rfl, rfl, O⟩ := hrel
        by_cases hlt : k < 3
        · have hb1 : (k : Int) < 3 := by omega
          have hkl : k < [b5, r, d].length := by simpa using hlt
          have cc : wr.cell? ⟨LB, k, none⟩ = some (.bool [b5, r, d][k]) := by
            rw [O.cell k]
            match k, hlt with
            | 0, _ | 1, _ | 2, _ => rfl
          have CT := Lib.hid (cnt_take [b5, r, d] k hkl)
          have hc9 : cntB ([b5, r, d].take k) ≤ 3 := Nat.le_trans (cnt_le _) (by simp; omega)
          generalize [b5, r, d][k] = q at cc CT
          generalize hc0 : cntB ([b5, r, d].take k) = c0 at CT hc9
          clear hkl
          cases q
          · have CT2 : Hid (cntB ([b5, r, d].take (k + 1)) = c0) := CT.out
            clear CT hc0
            go_wp2_with fail
            go_roundw
            case rel => exact ⟨k + 1, by omega, by rw [CT2.out], by go_num, O⟩
            case measure => simp [intOf]; omega
          · have CT2 : Hid (cntB ([b5, r, d].take (k + 1)) = c0 + 1) := CT.out
            clear CT hc0
            go_wp2_with fail
            go_roundw
            case rel => exact ⟨k + 1, by omega, by rw [CT2.out]; go_num, by go_num, O⟩
            case measure => simp [intOf]; omega
        · obtain rfl : k = 3 := by omega
          have CN : Hid (cntB ([b5, r, d].take 3) = N) := by unfold Hid; rw [HN.out, HM5.out]; rfl
          rw [CN.out]
          replace O := O.drop
          obtain ⟨x0, x1, x2, d2, d3, d5⟩ := CL.out _ O
          have NN : ((N : Int) != (N : Int)) = false := by simp
          clear CN HM5
          have SH2 := SHW.out _ O
          have HLW2 := HLW.out
          generalize lineCm ⟨3, x, qs⟩ = ln at SH2 HLW2
          have FO := FIN.out
          clear SHW HSH HLW HLL CL FIN RDH HN
          have EC : Hid ((b3 = false ∧ d = false) ∨ (b3 = true ∧ env.isEmpty = true ∧ d = false) ∨ (b3 = true ∧ env.isEmpty = false ∧ d = true ∧ t3 = env)) := by
            have h := HB2.out
            have h3 := HT3.out
            revert h h3
            cases b3 <;> cases env.isEmpty <;> cases d <;> simp [Hid]
          have RC : Hid ((b2 = false ∧ r = false) ∨ (b2 = true ∧ r = rq)) := by
            have h := HB1.out
            revert h
            cases b2 <;> simp [Hid]
            intro h; exact h.symm
          clear HB1 HB2 HT3
          rcases RC.out with ⟨rfl, rfl⟩ | ⟨rfl, rfl⟩ <;> rcases EC.out with ⟨rfl, rfl⟩ | ⟨rfl, he, rfl⟩ | ⟨rfl, he, rfl, rfl⟩
          all_goals
            clear EC RC
            go_wp2_with fail
            refine SH2.mono ?_
            clear SH2 O x0 x1 x2 d2 d3 d5
            rintro e w5 ⟨rfl, O⟩
            go_wp2_with fail
            go_meet
            exact FO _ O
    · simp only [Cm.mk.injEq] at hc
      obtain ⟨rfl, rfl, rfl⟩ := hc
      have e0 := O.cell 0
      go_wp2_with fail
      go_meet
      exact O.drop.drop
  case rest =>
  clear O HE ML MH HN
  have O := hcut
  clear hcut
  have RL := Lib.hid (fun (c : Cm) h => rcpt_line (fr := fr) (dsn := b3) (nv := nv) (c := c) h)
  have RH := Lib.hid (rcpt_has b3 nv)
  have c0 := O.cell 0
  have c1 := O.cell 1
  have c2 := O.cell 2
  have c3 := O.cell 3
  have c4 := O.cell 4
  have c5 := O.cell 5
  have c6 := O.cell 6
  have RP := rcpt7_own K O fr z1 b0 b1 b2 b3 b4 b5 mst nv
  unfold capsV at RP
  generalize rcptCm fr b3 nv = R2 at RL RP
  generalize rcptPs b3 nv = ps2 at RL RH
  go_wp2_with fail
  refine RP.mono ?_
  clear c0 c1 c2 c3 c4 c5 c6 O RP
  rintro e w3 h
  obtain ⟨c, e1, a1, cap1, rfl, O, HE⟩ := made_one h
  clear h
  have HE := Lib.hid HE
  obtain ⟨v1, x1, qs1⟩ := c
  simp only at O ⊢
  obtain ⟨N1, hN1⟩ : ∃ N, N = qs1.length := ⟨_, rfl⟩
  rw [← hN1] at O ⊢
  have HN1 := Lib.hid hN1
  clear hN1
  obtain ⟨XB, hXB⟩ : ∃ b, b = w3.heap.size := ⟨_, rfl⟩
  replace O := O.newBox #[.int .u8 v1, .string ⟨x1.toArray⟩, .slice a1 N1 cap1] 27
  rw [← hXB] at O
  rcases HE.out with ⟨rfl, hR⟩ | ⟨rfl, hR, hc⟩
  rotate_left
  · simp only [Cm.mk.injEq] at hc
    obtain ⟨rfl, rfl, rfl⟩ := hc
    have x0 := O.cell 0
    clear HE
    go_wp2
    go_ret
    exact ⟨rfl, O.below⟩
  · obtain ⟨hc, hmay, hlen⟩ := RL.out _ hR
    simp only [Cm.mk.injEq] at hc
    obtain ⟨rfl, rfl, rfl⟩ := hc
    have HSH := shown_line hmay hlen
    have HLW := line_word hmay
    have HLL : (qs1.flatMap ptL).length ≤ 10000000 := by
      unfold lineCm at hlen
      simp only [List.length_append] at hlen
      omega
    obtain ⟨m1, m2, m3⟩ := RH.out
    have HM2 := Lib.hid m2
    have HM3 := Lib.hid m3
    have RD : ∀ w', Own w w' [box XB #[.int .u8 4, .string ⟨x1.toArray⟩, .slice a1 N1 cap1] 27, rowv 58 2 (.slice a1 N1 cap1) N1 (flatP qs1), box CB #[.bool b0, .bool b1, .bool b2, .bool b3, .bool b4, .bool b5, .int .i64 mst] 23] → PmR w' (.slice a1 N1 cap1) qs1 := fun w' h => (h.pick 1).pmR
    have RDH := Lib.hid RD
    have hN9 : N1 ≤ 1 := by
      rw [HN1.out, HM3.out]; cases (b3 && nv) <;> decide
    have G1 := get_is O 4 x1 HN1.out (by omega) RDH.out [78, 79, 84, 73, 70, 89] rfl m1
    have SHW := Lib.hid (fun w' h => shown7_own (w := w') K h ⟨4, x1, qs1⟩ (a := a1) (cap := cap1) HN1.out (by simp) (by simp only; omega) (by omega) HLL (RDH.out) 0 (.inl rfl) HSH)
    generalize hid0 : (getCm qs1 [78, 79, 84, 73, 70, 89]).getD [] = t1 at G1
    have HT : Hid ((b3 && nv) = true → t1 = [78, 69, 86, 69, 82]) := fun h => by rw [← hid0, HM2.out h]; rfl
    have HN2 : Hid (N1 = bif b3 && nv then 1 else 0) := HN1.out.trans HM3.out
    generalize lineCm ⟨4, x1, qs1⟩ = ln at SHW HLW
    have CL : Hid (∀ w', Own w w' [box XB #[.int .u8 4, .string ⟨x1.toArray⟩, .slice a1 N1 cap1] 27, rowv 58 2 (.slice a1 N1 cap1) N1 (flatP qs1), box CB #[.bool b0, .bool b1, .bool b2, .bool b3, .bool b4, .bool b5, .int .i64 mst] 23] →
        (w'.cell? ⟨XB, 0, none⟩ = some (.int .u8 4) ∧ w'.cell? ⟨XB, 1, none⟩ = some (.string ⟨x1.toArray⟩) ∧ w'.cell? ⟨XB, 2, none⟩ = some (.slice a1 N1 cap1) ∧ w'.cell? ⟨CB, 3, none⟩ = some (.bool b3))) := fun w' h => ⟨h.cell 0, h.cell 1, h.cell 2, (h.pick 2).cell 3⟩
    clear hR hmay hlen HE RL RH m1 m2 m3 hid0 HM2 HM3 HSH HLL RD
    have x0 := O.cell 0
    have x1' := O.cell 1
    have x2 := O.cell 2
    go_wp2_with fail
    rw [← hXB]
    clear hXB
    refine G1.mono ?_
    clear O x0 x1' x2 G1
    rintro e w4 ⟨rfl, O⟩
    obtain ⟨x0, x1', x2, d3⟩ := CL.out _ O
    have SH2 := SHW.out _ O
    clear SHW CL RDH HN1
    cases b3
    · obtain rfl : N1 = 0 := HN2.out
      clear HN2 HT
      go_wp2_with fail
      refine SH2.mono ?_
      clear SH2 O x0 x1' x2 d3
      rintro e w5 ⟨rfl, O⟩
      go_wp2
      go_ret
      exact ⟨rfl, O.below⟩
    · cases nv
      · obtain rfl : N1 = 0 := HN2.out
        clear HN2 HT
        go_wp2_with fail
        refine SH2.mono ?_
        clear SH2 O x0 x1' x2 d3
        rintro e w5 ⟨rfl, O⟩
        go_wp2
        go_ret
        exact ⟨rfl, O.below⟩
      · obtain rfl : N1 = 1 := HN2.out
        obtain rfl := HT.out rfl
        clear HN2 HT
        go_wp2_with fail
        refine SH2.mono ?_
        clear SH2 O x0 x1' x2 d3
        rintro e w5 ⟨rfl, O⟩
        go_wp2
        go_ret
        exact ⟨rfl, O.below⟩
end Go.Proofs.YtehkdbgoeakgbaaDoor
