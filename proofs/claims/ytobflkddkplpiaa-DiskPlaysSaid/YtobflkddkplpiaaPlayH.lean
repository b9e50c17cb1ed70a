/- mailroomlaw10.does. -/
import Derived.Test.YtobflkddkplpiaaPlayG
namespace Go.Proofs.Ytobflkddkplpiaa
set_option linter.all false
open Go.RowKit Go.Maps

theorem run_append_zero {w : World} {base : Nat} {t ty e : TypeId} {size : Nat} (i : TypeInfo) (ht : Try.prog.underlying t = some (.slice e)) (hi : Try.prog.info? e = some i) (v : Value) (n : Nat) (xs : List Value) (hown : w.ownsRow base e size v n xs) (a : Option Addr) (c : Nat) :
    (Builtin.append_ #[t, t] ty #[v, .slice a 0 c]).run Try.prog w = .ok v w := by
  rcases hown.2 with ⟨rfl, rfl⟩ | ⟨g, cap, cur, rfl, _, _, hnc, _⟩
  · cases a <;> simp [Builtin.append_, run_underlying ht, sizeOf, typeInfo, hi, Builtin.lenOf, Builtin.firstCells, loadCells, loadCellsFrom]
  · cases a <;> simp [Builtin.append_, run_underlying ht, sizeOf, typeInfo, hi, Builtin.lenOf, Builtin.firstCells, loadCells, loadCellsFrom, hnc, storeCells]
theorem Own.emptyNums {w0 w : World} {L : List Piece} (h : Own w0 w L) : Own w0 (w.alloc (.cells #[] 3)) (nums (.slice (some ⟨w.heap.size, 0, none⟩) 0 0) [] :: L) :=
  h.new ((Chg.refl [] w).alloc _) (nums _ []) (F := [w.heap.size]) ⟨World.ownsRow_made w #[] 0 h.size (by unfold maxLen; omega) (by simp), rfl⟩ (by simp)
theorem wpList_append_keepO {w0 w : World} {L : List Piece} {ops : Array Oper} {rest : List Oper} {o : Oper} {a : Act} {Q : Exit → Act → World → Prop} (hgd : o.guard = none) (s x : Operand)
    (ho : o.op = .call { callee := .builtin .append, args := #[s, x], argTypes := #[23, 23] })
    {v : Value} (O : Own w0 w (nums v [] :: L)) (hs : a.eval s = v) {ka : Option Addr} {kc : Nat} (zs : List Int) (G : List Nat) (hx : a.eval x = .slice ka zs.length kc) (hm : SlR w (.slice ka zs.length kc) (zs.map (Value.int .i64)) G) (hlen : zs.length ≤ 100000000)
    (h : ∀ v' w', Own w0 w' (nums v' zs :: L) → wpList Try.prog ops Q rest (a.put o.dst v') w') : wpList Try.prog ops Q (o :: rest) a w := by
  obtain ⟨i0, hi0, hz0, hz1, hzb⟩ := info_parts info_int
  by_cases h0 : zs.length = 0
  · have hz : zs = [] := List.eq_nil_of_length_eq_zero h0
    subst hz
    refine wpList_plain hgd fun K hK => ?_
    have hr := run_append_zero (ty := o.type) i0 Try.underlying23 hi0 v 0 [] O.numsRow ka kc
    unfold Oper.wp
    simp [execOp, ho, resolve, invoke, builtin, hs, hx, hr, Result.andThen]
    exact hK _ _ (h v w O)
  · obtain ⟨g, off, e1, _⟩ := hm.read (k := 0) (by simp; omega)
    subst e1
    have O' : Own w0 w (rowv 3 1 v 0 [] :: L) := O
    refine wpList_append_rowO hgd s x ho i0 _ 8 Try.underlying23 hi0 hz0 hz1 hzb rfl (by omega) O' hs ⟨g, off, none⟩ zs.length kc (zs.map (Value.int .i64)) hx (by simp) (fun j u hu => ?_) (fun u hu => ?_) (by omega) (by omega) ?_
    · have hj : j < (zs.map (Value.int .i64)).length := by
        rcases Nat.lt_or_ge j (zs.map (Value.int .i64)).length with h' | h'
        · exact h'
        · rw [List.getElem?_eq_none h'] at hu; cases hu
      obtain ⟨g', o', e', c'⟩ := hm.read (k := j) hj
      simp only [Option.some.injEq, Addr.mk.injEq, and_true] at e'
      obtain ⟨rfl, rfl⟩ := e'
      rw [show (⟨g, off, none⟩ : Addr).add j = ⟨g, off + j, none⟩ from by unfold Addr.add; split <;> simp_all, c']
      rw [List.getElem?_eq_getElem hj] at hu
      exact hu
    · obtain ⟨z, _, rfl⟩ := List.mem_map.1 hu; rfl
    · intro v' w' O2
      rw [Nat.zero_add, List.nil_append] at O2
      exact h v' w' O2
set_option maxRecDepth 100000 in
set_option maxHeartbeats 4000000 in
theorem does_own {w0 w : World} {L : List Piece} {p y : Value} {m : Dk} {c : Nat} (O : Own w0 w (dk p m :: xk y m :: L)) (h : m.Fit c) (hc : c ≤ 8000) (s : St) (sw : s.Wf) {G : List Nat}
    (hs : SlR w0 (.slice s.ka s.keep.length s.kc) (s.keep.map (Value.int .i64)) G) (hkl : s.keep.length ≤ 100000000) :
    Calls Try.prog 29 #[p, y, .agg #[.int .u8 s.what, .int .i64 s.at0, .int .u8 (s.by_.toNat : Int), .int .i64 s.odd, .slice s.ka s.keep.length s.kc]] w fun e w' => e = .returned (.bool true) ∧ Own w0 w' (dk p (m.step s) :: xk y (m.step s) :: L) := by
  have O2 := O.newBox #[.int .u8 s.what, .int .i64 s.at0, .int .u8 (s.by_.toNat : Int), .int .i64 s.odd, .slice s.ka s.keep.length s.kc] 33
  have c0 := O2.cell 0
  have c1 := O2.cell 1
  have c2 := O2.cell 2
  have c3 := O2.cell 3
  have c4 := O2.cell 4
  have O3 := (O2.selK 3 [1, 2, 0])
  clear O O2
  obtain ⟨M, hM⟩ : ∃ M, M = m.step s := ⟨_, rfl⟩
  rw [← hM]
  unfold Dk.step at hM
  have ha : Hid (I64 s.at0) := Lib.hid sw.at0
  have hbl : Hid (s.bytes.length ≤ 1000000) := Lib.hid s.bytes_len
  have hk : Hid (s.keep.length ≤ maxLen) := Lib.hid sw.keep.1
  have hkl := Lib.hid hkl
  have HF := Lib.hid h; clear h
  have h5 := sw.what
  have hle := St.i64le sw
  have HS := Lib.hid hs; clear hs
  have hq : Hid (s.bytes = stepBytes s.by_ s.odd) := Lib.hid rfl
  clear sw
  by_cases h0 : s.what = 0
  · rw [if_pos h0] at hM
    obtain ⟨er, he⟩ : ∃ er, er = (m.write s.at0 s.bytes).2 := ⟨_, rfl⟩
    have HM : Hid (m.write s.at0 s.bytes = (M, er)) := Lib.hid (by rw [hM, he])
    clear hM he
    have i0 : (s.what == 0) = true := by simp [h0]
    clear h0
    go_enter Try.func29, Try.ntmps29
    generalize hz : w.heap.size = z at O3 c0 c1 c2 c3 c4 ⊢
    go_wp2_with fail
    have kc0 : Hid ((w.alloc (.cells #[.int .u8 s.what, .int .i64 s.at0, .int .u8 (s.by_.toNat : Int), .int .i64 s.odd, .slice s.ka s.keep.length s.kc] 33)).drew.cell? ⟨z, 0, none⟩ = some (.int .u8 s.what) ∧ (w.alloc (.cells #[.int .u8 s.what, .int .i64 s.at0, .int .u8 (s.by_.toNat : Int), .int .i64 s.odd, .slice s.ka s.keep.length s.kc] 33)).drew.cell? ⟨z, 1, none⟩ = some (.int .i64 s.at0) ∧ (w.alloc (.cells #[.int .u8 s.what, .int .i64 s.at0, .int .u8 (s.by_.toNat : Int), .int .i64 s.odd, .slice s.ka s.keep.length s.kc] 33)).drew.cell? ⟨z, 2, none⟩ = some (.int .u8 (s.by_.toNat : Int)) ∧ (w.alloc (.cells #[.int .u8 s.what, .int .i64 s.at0, .int .u8 (s.by_.toNat : Int), .int .i64 s.odd, .slice s.ka s.keep.length s.kc] 33)).drew.cell? ⟨z, 3, none⟩ = some (.int .i64 s.odd) ∧ (w.alloc (.cells #[.int .u8 s.what, .int .i64 s.at0, .int .u8 (s.by_.toNat : Int), .int .i64 s.odd, .slice s.ka s.keep.length s.kc] 33)).drew.cell? ⟨z, 4, none⟩ = some (.slice s.ka s.keep.length s.kc)) := Lib.hid ⟨c0, c1, c2, c3, c4⟩
    clear hz
    go_region_held3 (fun w' => w'.cell? ⟨z, 0, none⟩ = some (.int .u8 s.what) ∧ w'.cell? ⟨z, 1, none⟩ = some (.int .i64 s.at0) ∧ w'.cell? ⟨z, 2, none⟩ = some (.int .u8 (s.by_.toNat : Int)) ∧ w'.cell? ⟨z, 3, none⟩ = some (.int .i64 s.odd) ∧ w'.cell? ⟨z, 4, none⟩ = some (.slice s.ka s.keep.length s.kc))
      (first
        | with_reducible exact kc0.out
        | with_reducible exact kc1.out
        | with_reducible exact kc2.out
        | with_reducible exact kc3.out
        | with_reducible exact kc4.out)
      (first
        | (go_at_call 14; (with_reducible refine (bytes_any (w.alloc _).drew s.what s.at0 s.by_ s.odd s.ka s.keep.length s.kc).mono ?_); rw [← hq.out]; rintro e w1 ⟨rfl, ch1⟩; (have P1 := O3.drew.pure ch1); (have kc1 : Hid (w1.cell? ⟨z, 0, none⟩ = some (.int .u8 s.what) ∧ w1.cell? ⟨z, 1, none⟩ = some (.int .i64 s.at0) ∧ w1.cell? ⟨z, 2, none⟩ = some (.int .u8 (s.by_.toNat : Int)) ∧ w1.cell? ⟨z, 3, none⟩ = some (.int .i64 s.odd) ∧ w1.cell? ⟨z, 4, none⟩ = some (.slice s.ka s.keep.length s.kc)) := Lib.hid ⟨(P1.pick 2).cell 0, (P1.pick 2).cell 1, (P1.pick 2).cell 2, (P1.pick 2).cell 3, (P1.pick 2).cell 4⟩))
        | (go_at_call 13; (with_reducible refine (write_fit P1 HF.out (by omega) s.at0 ha.out s.bytes hbl.out HM.out).mono ?_); rintro e w2 ⟨rfl, P2⟩; (have kc2 : Hid (w2.cell? ⟨z, 0, none⟩ = some (.int .u8 s.what) ∧ w2.cell? ⟨z, 1, none⟩ = some (.int .i64 s.at0) ∧ w2.cell? ⟨z, 2, none⟩ = some (.int .u8 (s.by_.toNat : Int)) ∧ w2.cell? ⟨z, 3, none⟩ = some (.int .i64 s.odd) ∧ w2.cell? ⟨z, 4, none⟩ = some (.slice s.ka s.keep.length s.kc)) := Lib.hid ⟨(P2.pick 2).cell 0, (P2.pick 2).cell 1, (P2.pick 2).cell 2, (P2.pick 2).cell 3, (P2.pick 2).cell 4⟩); (have P2' := P2.selK 3 [1, 0, 2]))
        | (go_at_call 14; (with_reducible refine (bytes_any w2 s.what s.at0 s.by_ s.odd s.ka s.keep.length s.kc).mono ?_); rw [← hq.out]; rintro e w3 ⟨rfl, ch3⟩; (have P3 : Own w0 w3 (xk y m :: dk p M :: _) := P2'.pure ch3); (have kc3 : Hid (w3.cell? ⟨z, 0, none⟩ = some (.int .u8 s.what) ∧ w3.cell? ⟨z, 1, none⟩ = some (.int .i64 s.at0) ∧ w3.cell? ⟨z, 2, none⟩ = some (.int .u8 (s.by_.toNat : Int)) ∧ w3.cell? ⟨z, 3, none⟩ = some (.int .i64 s.odd) ∧ w3.cell? ⟨z, 4, none⟩ = some (.slice s.ka s.keep.length s.kc)) := Lib.hid ⟨(P3.pick 2).cell 0, (P3.pick 2).cell 1, (P3.pick 2).cell 2, (P3.pick 2).cell 3, (P3.pick 2).cell 4⟩))
        | (go_at_call 38; (with_reducible refine (xwrite_own P3 HF.out (by omega) s.at0 ha.out s.bytes hbl.out HM.out).mono ?_); rintro e w4 ⟨rfl, P4⟩; (have kc4 : Hid (w4.cell? ⟨z, 0, none⟩ = some (.int .u8 s.what) ∧ w4.cell? ⟨z, 1, none⟩ = some (.int .i64 s.at0) ∧ w4.cell? ⟨z, 2, none⟩ = some (.int .u8 (s.by_.toNat : Int)) ∧ w4.cell? ⟨z, 3, none⟩ = some (.int .i64 s.odd) ∧ w4.cell? ⟨z, 4, none⟩ = some (.slice s.ka s.keep.length s.kc)) := Lib.hid ⟨(P4.pick 2).cell 0, (P4.pick 2).cell 1, (P4.pick 2).cell 2, (P4.pick 2).cell 3, (P4.pick 2).cell 4⟩)))
    have FIN := P4.selK 3 [1, 0]
    clear P1 P2 P2' P3 P4 O3 ch1 ch3 kc0 kc1 kc2 kc3 kc4 c0 c1 c2 c3 c4
    go_wp2
    go_ret
    exact ⟨rfl, FIN⟩
  rw [if_neg h0] at hM
  have i0 : (s.what == 0) = false := by simp [h0]
  clear h0
  by_cases h1 : s.what = 1
  · rw [if_pos h1] at hM
    obtain ⟨er, he⟩ : ∃ er, er = m.sync.2 := ⟨_, rfl⟩
    have HM : Hid (m.sync = (M, er)) := Lib.hid (by rw [hM, he])
    clear hM he
    have i1 : (s.what == 1) = true := by simp [h1]
    clear h1
    go_enter Try.func29, Try.ntmps29
    go_wp2_with fail
    refine (sync_fit O3 HF.out (by omega) HM.out).mono ?_
    clear O3 c0 c1 c2 c3 c4
    rintro e w1 ⟨rfl, O⟩
    go_wp2_with fail
    refine (xsync_own (O.selK 3 [1, 0, 2]) HF.out (by omega) HM.out).mono ?_
    clear O
    rintro e w2 ⟨rfl, O⟩
    have FIN := O.selK 3 [1, 0]
    clear O
    go_wp2
    go_ret
    exact ⟨rfl, FIN⟩
  rw [if_neg h1] at hM
  have i1 : (s.what == 1) = false := by simp [h1]
  clear h1
  by_cases h2 : s.what = 2
  · rw [if_pos h2] at hM
    have i2 : (s.what == 2) = true := by simp [h2]
    clear h2
    go_enter Try.func29, Try.ntmps29
    generalize hz : w.heap.size = z at O3 c0 c1 c2 c3 c4 ⊢
    go_wp2_with fail
    refine (fail_any s.at0 hle O3).mono ?_
    clear O3 c0 c1 c2 c3 c4
    rintro e w1 ⟨rfl, O⟩
    rw [← hM] at O
    have c1 : w1.cell? ⟨z, 1, none⟩ = some (.int .i64 s.at0) := (O.pick 2).cell 1
    go_wp2_with fail
    refine (xfail_own (O.selK 3 [1, 0, 2]) s.at0).mono ?_
    clear O c1
    rintro e w2 ⟨rfl, O⟩
    rw [← hM] at O
    have FIN := O.selK 3 [1, 0]
    clear O
    go_wp2
    go_ret
    exact ⟨rfl, FIN⟩
  rw [if_neg h2] at hM
  have i2 : (s.what == 2) = false := by simp [h2]
  clear h2
  by_cases h3 : s.what = 3
  · rw [if_pos h3] at hM
    obtain ⟨er, he⟩ : ∃ er, er = (m.boot s.keep).2 := ⟨_, rfl⟩
    have HM : Hid (m.boot s.keep = (M, er)) := Lib.hid (by rw [hM, he])
    clear hM he
    have i3 : (s.what == 3) = true := by simp [h3]
    clear h3
    go_enter Try.func29, Try.ntmps29
    generalize hz : w.heap.size = z at O3 c0 c1 c2 c3 c4 ⊢
    go_upto_region 13 with fail
    generalize hW : w.alloc (.cells #[.int .u8 s.what, .int .i64 s.at0, .int .u8 (s.by_.toNat : Int), .int .i64 s.odd, .slice s.ka s.keep.length s.kc] 33) = W at O3 ⊢
    clear hW hz c0 c1 c2 c3 c4
    have d4 : W.cell? ⟨z, 4, none⟩ = some (.slice s.ka s.keep.length s.kc) := (O3.pick 2).cell 4
    have blt := (O3.pick 2).boxlt
    have E3 := O3.emptyNums
    have SL : Hid (SlR (W.alloc (.cells #[] 3)) (.slice s.ka s.keep.length s.kc) (s.keep.map (Value.int .i64)) G) := Lib.hid (E3.cameSl HS.out)
    go_wp2_with (at_builtin; refine wpList_append_keepO rfl _ _ rfl E3 rfl s.keep G rfl SL.out hkl.out ?_)
    intro v' w5 O5
    obtain ⟨ak', ck', hv'⟩ := O5.numsShape
    subst hv'
    clear O3 E3 SL d4 blt
    have P0 : Own w0 w5.drew (dk p m :: xk y m :: nums (.slice ak' s.keep.length ck') s.keep :: box z #[.int .u8 s.what, .int .i64 s.at0, .int .u8 (s.by_.toNat : Int), .int .i64 s.odd, .slice s.ka s.keep.length s.kc] 33 :: L) := (O5.selK 4 [1, 2, 0, 3]).drew
    have kc0 : w5.drew.cell? ⟨z, 4, none⟩ = some (.slice s.ka s.keep.length s.kc) := (P0.pick 3).cell 4
    have hcame : Hid (∀ w' m', Own w0 w' (dk p m' :: xk y m :: nums (.slice ak' s.keep.length ck') s.keep :: box z #[.int .u8 s.what, .int .i64 s.at0, .int .u8 (s.by_.toNat : Int), .int .i64 s.odd, .slice s.ka s.keep.length s.kc] 33 :: L) → ∃ G, SlR w' (.slice ak' s.keep.length ck') (s.keep.map (Value.int .i64)) G) := Lib.hid (fun w' m' O' => (O'.pick 2).numsSl)
    go_wp2_with fail
    go_region_held3 (fun w' => w'.cell? ⟨z, 4, none⟩ = some (.slice s.ka s.keep.length s.kc))
      (first
        | with_reducible exact kc0
        | with_reducible exact kc1
        | with_reducible exact kc2
        | with_reducible exact kc3)
      (first
        | (go_at_call 18; (with_reducible refine (boot_fit P0 HF.out (by omega) ak' s.keep.length ck' s.keep hcame.out hk.out HM.out).mono ?_); rintro e w6 ⟨rfl, P1⟩; (have kc1 : w6.cell? ⟨z, 4, none⟩ = some (.slice s.ka s.keep.length s.kc) := (P1.pick 3).cell 4); (have P1' := P1.selK 4 [1, 0, 2, 3]))
        | (go_at_call 41; (refine (xboot_own P1' HF.out (by omega) s.ka s.kc s.keep G HS.out hk.out HM.out).mono ?_); rintro e w7 ⟨rfl, P2⟩; (have kc2 : w7.cell? ⟨z, 4, none⟩ = some (.slice s.ka s.keep.length s.kc) := (P2.pick 3).cell 4); (have P2' := P2.selK 4 [2, 1, 0, 3]))
        | (go_at_call 25; (refine (ints_own P2' _ _ _ s.keep ⟨G, P2'.cameSl HS.out⟩ hk.out hk.out true (decide_eq_true rfl)).mono ?_); rintro e w8 ⟨rfl, P3⟩; (have kc3 : w8.cell? ⟨z, 4, none⟩ = some (.slice s.ka s.keep.length s.kc) := (P3.pick 3).cell 4)))
    have FIN := P3.selK 4 [1, 2]
    clear P0 P1 P1' P2 P2' P3 O5 kc0 kc1 kc2 kc3
    go_wp2
    go_ret
    exact ⟨rfl, FIN⟩
  · rw [if_neg h3] at hM
    subst hM
    have i3 : (s.what == 3) = false := by simp [h3]
    clear h3
    obtain ⟨x, hx⟩ : ∃ x, x = (M.read s.at0).1 := ⟨_, rfl⟩
    obtain ⟨er, her⟩ : ∃ er, er = (M.read s.at0).2 := ⟨_, rfl⟩
    have HX := Lib.hid hx; have HE := Lib.hid her
    clear hx her
    go_enter Try.func29, Try.ntmps29
    generalize hz : w.heap.size = z at O3 c0 c1 c2 c3 c4 ⊢
    go_wp2_with fail
    refine (read_own O3 s.at0 ha.out).mono ?_
    rw [← HX.out, ← HE.out]
    clear O3 c0 c1 c2 c3 c4
    rintro e w1 ⟨rfl, O⟩
    have c1 : w1.cell? ⟨z, 1, none⟩ = some (.int .i64 s.at0) := (O.pick 2).cell 1
    go_wp2_with fail
    refine (xread_own (O.selK 3 [1, 0, 2]) s.at0 ha.out).mono ?_
    rw [← HX.out, ← HE.out]
    rintro e w2 ⟨rfl, rfl⟩
    have FIN := O.selK 3 [0, 1]
    clear O
    go_wp2
    go_ret
    exact ⟨rfl, FIN⟩
end Go.Proofs.Ytobflkddkplpiaa
