/- mailroomref10.Disk: Copy. -/
import Derived.Test.YtobflkddkplpiaaPlayD
namespace Go.Proofs.Ytobflkddkplpiaa
set_option linter.all false
open Go.RowKit Go.Maps

theorem run_append_rowO {w0 w : World} {L : List Piece} {e : TypeId} {size n : Nat} {v : Value} {xs : List Value} {t : TypeId} (i : TypeInfo) (z : Value) (bytes : Nat) (ht : Try.prog.underlying t = some (.slice e)) (hi : Try.prog.info? e = some i) (hz : i.zero = some z)
    (hsize : i.size = size) (hby : i.bytes = bytes) (hzs : z.cells.size = size) (hsz : 0 < size)
    (O : Own w0 w (rowv e size v n xs :: L))
    (ad : Addr) (m c : Nat) (news : List Value) (hl : news.length = m * size) (hnews : ∀ j u, news[j]? = some u → w.cell? (ad.add j) = some u) (h1 : ∀ u ∈ news, u.oneCell' = true)
    (h63 : n + m ≤ 100000000) (hb1 : bytes ≤ 1000000) (ty : TypeId) :
    ∃ v' w', (Builtin.append_ #[t, t] ty #[v, .slice (some ad) m c]).run Try.prog w = .ok v' w' ∧ Own w0 w' (rowv e size v' (n + m) (xs ++ news) :: L) := by
  obtain ⟨F, ⟨row, rfl⟩, q⟩ := O.open
  obtain ⟨v', w', hr, h1, h2, _, h3⟩ := run_append_new (P := Try.prog) w w0.heap.size t ty e i z size bytes ht hi hz hsize hby hzs hsz v n xs row ad m c news hl hnews h1 (by unfold maxLen; omega) (Nat.le_trans (Nat.mul_le_mul h63 hb1) (by omega)) O.size
  refine ⟨v', w', hr, q w' (rowv e size v' (n + m) (xs ++ news)) _ ⟨h1, rfl⟩ ((Chg.refl _ w).grown h2 (fun k hk _ => by simp [hk])) (fun i hi => ?_)⟩
  rcases h3 i (by simpa using hi) with h4 | h4
  · exact .inl (by simp [h4])
  · exact .inr h4
structure Elem (e t : TypeId) (bytes : Nat) : Prop where
  ex : ∃ (i : TypeInfo) (z : Value), Try.prog.underlying t = some (.slice e) ∧ Try.prog.info? e = some i ∧ i.zero = some z ∧ i.size = 1 ∧ i.bytes = bytes ∧ z.cells.size = 1 ∧ bytes ≤ 1000000
theorem run_copyG {w0 w : World} {L : List Piece} {e t : TypeId} {bytes : Nat} (E : Elem e t bytes) {src : Option Addr} {n cap : Nat} {xs : List Value} (hn : 0 < n) (h63 : n ≤ 100000000)
    (O : Own w0 w (rowv e 1 (.slice src n cap) n xs :: L)) (d : Addr) (ty : TypeId) :
    ∃ x y w', (Builtin.append_ #[t, t] ty #[.slice (some d) 0 0, .slice src n cap]).run Try.prog w = .ok (.slice (some ⟨x, 0, none⟩) n y) w' ∧ Own w0 w' (rowv e 1 (.slice (some ⟨x, 0, none⟩) n y) n xs :: rowv e 1 (.slice src n cap) n xs :: L) := by
  obtain ⟨i, z, ht, hi, hz, hsize, hby, hzs, hb1⟩ := E.ex
  have hl := O.rowvLen
  obtain ⟨-, g, e1, _, _⟩ := O.rowvAt 0 (by omega)
  subst e1
  have hbytes : (0 + n) * i.bytes ≤ 140737488355328 := by rw [hby]; exact Nat.le_trans (Nat.mul_le_mul (by omega : 0 + n ≤ 100000000) hb1) (by omega)
  have hr := run_append_grow (P := Try.prog) w t ty e i z ht hi hz d 0 0 [] (by simp) (by simp) ⟨g, 0, none⟩ n cap xs (by rw [hsize]; exact hl) (fun j u hu => by
    have hj : j < xs.length := by
      rcases Nat.lt_or_ge j xs.length with h' | h'
      · exact h'
      · rw [List.getElem?_eq_none h'] at hu; cases hu
    obtain ⟨-, g', e', c', -⟩ := O.rowvAt j hj
    simp only [Option.some.injEq, Addr.mk.injEq, and_true] at e'
    subst e'
    rw [show (⟨g, 0, none⟩ : Addr).add j = ⟨g, j, none⟩ from by unfold Addr.add; split <;> simp_all, c']
    rw [List.getElem?_eq_getElem hj] at hu
    exact hu) (by omega) (by omega) (growslice_fits (by omega) hbytes)
  rw [Nat.zero_add] at hr
  have hge := grownCap_ge w n 0 e
  have hcm : grownCap w n 0 e ≤ maxLen := grownCap_le_maxLen w n 0 e (by unfold maxLen; omega)
  refine ⟨_, _, _, hr, O.new (((Chg.refl [] w).drew).alloc _) (rowv e 1 _ n xs) (F := [w.heap.size]) ⟨⟨hl, .inr ⟨w.heap.size, _, _, rfl, O.size, heap_alloc_new w.drew _, hge, hcm, ?_, ?_⟩⟩, rfl⟩ (by simp)⟩
  · simp only [Array.size_append, List.size_toArray, size_zeroCells, hzs, hl, List.length_nil]
    omega
  · simp only [Array.toList_append, List.append_assoc, List.nil_append]
    rw [← hl]
    exact List.take_left
theorem wp_if {c : Bool} {A B : Prop} (hc : c = true) (h : A) : if c = true then A else B := by rw [if_pos hc]; exact h
theorem wp_copyO {w0 w : World} {L : List Piece} {e t : TypeId} {bytes : Nat} (E : Elem e t bytes) {src : Option Addr} {n cap : Nat} {xs : List Value} (hn : 0 < n) (h63 : n ≤ 100000000)
    (O : Own w0 w (rowv e 1 (.slice src n cap) n xs :: L)) {o : Oper} {a : Act} {K : Act → World → Prop} {Q : Exit → Act → World → Prop} {d s : Operand} {dT : TypeId}
    (hop : o.op = Op.call { callee := Callee.builtin Builtin.append, args := #[d, s], argTypes := #[dT, dT] }) (hdT : dT = t) (hd : ∃ ad, a.eval d = .slice (some ad) 0 0) (hs : a.eval s = .slice src n cap)
    (hK : ∀ x y w', Own w0 w' (rowv e 1 (.slice (some ⟨x, 0, none⟩) n y) n xs :: rowv e 1 (.slice src n cap) n xs :: L) → K (a.put o.dst (.slice (some ⟨x, 0, none⟩) n y)) w') : Oper.wp Try.prog o a w K Q := by
  subst hdT
  obtain ⟨ad, hd⟩ := hd
  obtain ⟨x, y, w', hr, O'⟩ := run_copyG E hn h63 O ad o.type
  unfold Oper.wp
  simp [execOp, hop, resolve, invoke, builtin, hd, hs, hr, Result.andThen]
  exact hK x y w' O'
theorem sc_alloc {w : World} {o : Obj} {p q r : Addr} {x y z : Value} (h : w.cell? p = some x ∧ w.cell? q = some y ∧ w.cell? r = some z) : (w.alloc o).cell? p = some x ∧ (w.alloc o).cell? q = some y ∧ (w.alloc o).cell? r = some z := by
  have k : ∀ (a : Addr) (v : Value), w.cell? a = some v → (w.alloc o).cell? a = some v := fun a v h => by rw [World.cell?_alloc_lt _ _ _ (World.block_lt_of_cell? w a h)]; exact h
  exact ⟨k _ _ h.1, k _ _ h.2.1, k _ _ h.2.2⟩
theorem sc_drew {w : World} {p q r : Addr} {x y z : Value} (h : w.cell? p = some x ∧ w.cell? q = some y ∧ w.cell? r = some z) : w.drew.cell? p = some x ∧ w.drew.cell? q = some y ∧ w.drew.cell? r = some z := h
theorem elem_str : Elem 9 30 16 := by
  obtain ⟨i, h1, h2, h3, h4⟩ := info_parts info_str
  exact ⟨i, _, Try.underlying30, h1, h2, h3, h4, rfl, by omega⟩
theorem elem_bool : Elem 4 71 1 := by
  obtain ⟨i, h1, h2, h3, h4⟩ := info_parts info_bool
  exact ⟨i, _, Try.underlying71, h1, h2, h3, h4, rfl, by omega⟩
theorem Own.strsRow {w0 w : World} {L : List Piece} {v : Value} {ss : List (List UInt8)} {n : Nat} (h : Own w0 w (strs v ss :: L)) (hn : ss.length = n) : Own w0 w (rowv 9 1 v n (ss.map str) :: L) := by
  subst hn; exact h
theorem Own.rowStrs {w0 w : World} {L : List Piece} {v : Value} {ss : List (List UInt8)} {n : Nat} (h : Own w0 w (rowv 9 1 v n (ss.map str) :: L)) (hn : ss.length = n) : Own w0 w (strs v ss :: L) := by
  subst hn; exact h
theorem Own.xk2 {w0 w : World} {L : List Piece} {m : Dk} {b z : Nat} {aw an at0 a1 a2 a3 : Option Addr} {cw cn ct c1 c2 c3 : Nat} {f : Bool} {lf : Int} (hr : Rel m f lf)
    (O : Own w0 w (box z (xcells m a1 c1 a2 c2 a3 c3 f lf) 74 :: box b (xcells m aw cw an cn at0 ct f lf) 74 :: rowv 9 1 (.slice aw m.n cw) m.n (m.wasL.map str) :: rowv 9 1 (.slice an m.n cn) m.n (m.nowL.map str) :: rowv 4 1 (.slice at0 m.n ct) m.n (Bv (wetB m)) ::
      rowv 9 1 (.slice a1 m.n c1) m.n (m.wasL.map str) :: rowv 9 1 (.slice a2 m.n c2) m.n (m.nowL.map str) :: rowv 4 1 (.slice a3 m.n c3) m.n (Bv (wetB m)) :: L)) :
    Own w0 w (xk (.pointer (some ⟨z, 0, none⟩)) m :: xk (.pointer (some ⟨b, 0, none⟩)) m :: L) := by
  have P1 : Own w0 w (rowv 9 1 (.slice aw m.n cw) m.n (m.wasL.map str) :: rowv 9 1 (.slice an m.n cn) m.n (m.nowL.map str) :: box b (xcells m aw cw an cn at0 ct f lf) 74 :: rowv 4 1 (.slice at0 m.n ct) m.n (Bv (wetB m)) :: box z (xcells m a1 c1 a2 c2 a3 c3 f lf) 74 ::
      rowv 9 1 (.slice a1 m.n c1) m.n (m.wasL.map str) :: rowv 9 1 (.slice a2 m.n c2) m.n (m.nowL.map str) :: rowv 4 1 (.slice a3 m.n c3) m.n (Bv (wetB m)) :: L) := O.selK 8 [2, 3, 1, 4, 0, 5, 6, 7]
  have P2 := (P1.rowStrs (wasL_len m)).pick 1
  have P3 := P2.rowStrs (nowL_len m)
  have P4 : Own w0 w (xk (.pointer (some ⟨b, 0, none⟩)) m :: box z (xcells m a1 c1 a2 c2 a3 c3 f lf) 74 ::
      rowv 9 1 (.slice a1 m.n c1) m.n (m.wasL.map str) :: rowv 9 1 (.slice a2 m.n c2) m.n (m.nowL.map str) :: rowv 4 1 (.slice a3 m.n c3) m.n (Bv (wetB m)) :: L) := Own.xkI hr (P3.selK 8 [2, 1, 0, 3, 4, 5, 6, 7])
  have Q1 := ((P4.pick 2).rowStrs (wasL_len m)).pick 3
  have Q2 := Q1.rowStrs (nowL_len m)
  exact Own.xkI hr (Q2.selK 5 [3, 1, 0, 4, 2])
set_option maxRecDepth 100000 in
set_option maxHeartbeats 8000000 in
theorem xcopy_own {w0 w : World} {L : List Piece} {p : Value} {m : Dk} (O : Own w0 w (xk p m :: L)) (hn1 : 0 < m.n) (hn : m.n ≤ 1024) :
    Calls Try.prog 28 #[p] w fun e w' => ∃ z : Nat, e = .returned (.pointer (some ⟨z, 0, none⟩)) ∧ Own w0 w' (xk (.pointer (some ⟨z, 0, none⟩)) m :: xk p m :: L) := by
  obtain ⟨b, aw, cw, an, cn, at0, ct, f, lf, hp, hrel, U⟩ := O.xkE
  subst hp
  obtain ⟨c0, c1, c2, c3, c4, c5, c6, fr⟩ := U.xAt
  have O1 := U.newBox (xcells m aw cw an cn at0 ct f lf) 74
  have blt := U.boxlt
  have hn8 : m.n ≤ 100000000 := by omega
  obtain ⟨z, hz⟩ : ∃ z, z = w.heap.size := ⟨_, rfl⟩
  rw [← hz] at O1
  obtain ⟨W, hW⟩ : ∃ W, W = w.alloc (.cells (xcells m aw cw an cn at0 ct f lf) 74) := ⟨_, rfl⟩
  rw [← hW] at O1
  have A1 : Own w0 W (rowv 9 1 (.slice aw m.n cw) m.n (m.wasL.map str) :: box z (xcells m aw cw an cn at0 ct f lf) 74 :: box b (xcells m aw cw an cn at0 ct f lf) 74 :: rowv 9 1 (.slice an m.n cn) m.n (m.nowL.map str) :: rowv 4 1 (.slice at0 m.n ct) m.n (Bv (wetB m)) :: L) := ((((O1.pick 2).strsRow (wasL_len m)).pick 3).strsRow (nowL_len m)).selK 5 [1, 2, 3, 0, 4]
  have kc1 : W.cell? ⟨b, 0, none⟩ = some (.slice aw m.n cw) ∧ W.cell? ⟨b, 1, none⟩ = some (.slice an m.n cn) ∧ W.cell? ⟨b, 2, none⟩ = some (.slice at0 m.n ct) := ⟨(A1.pick 2).xAt.c0, (A1.pick 2).xAt.c1, (A1.pick 2).xAt.c2⟩
  have HR := Lib.hid hrel
  clear O O1 U hrel
  go_enter Try.func28, Try.ntmps28
  go_wp2_with fail
  rw [← hz]
  change Code.wp _ _ _ _ (w.alloc (.cells (xcells m aw cw an cn at0 ct f lf) 74))
  rw [← hW]
  clear hW hz c0 c1 c2 c3 c4 c5 c6 fr blt
  have KC1 := Lib.hid kc1
  clear kc1
  go_region_held3 (fun w' => w'.cell? ⟨b, 0, none⟩ = some (.slice aw m.n cw) ∧ w'.cell? ⟨b, 1, none⟩ = some (.slice an m.n cn) ∧ w'.cell? ⟨b, 2, none⟩ = some (.slice at0 m.n ct))
    (first
      | with_reducible exact sc_drew KC1.out
      | with_reducible exact sc_drew (sc_alloc KC1.out)
      | with_reducible exact sc_drew (sc_alloc (sc_alloc KC1.out))
      | with_reducible exact sc_drew (sc_alloc (sc_alloc (sc_alloc KC1.out)))
      | with_reducible exact KC2.out
      | with_reducible exact sc_alloc KC2.out
      | with_reducible exact sc_alloc (sc_alloc KC2.out)
      | with_reducible exact KC3.out
      | with_reducible exact sc_alloc KC3.out
      | with_reducible exact KC4.out
      | with_reducible exact KC5.out
      | with_reducible exact KC6.out
      | with_reducible exact KC7.out)
    (first
      | ((with_reducible refine wp_if ?_ (wp_copyO elem_str hn1 hn8 ((A1.alloc _).drew) rfl ?_ ?_ ?_ ?_)); (iterate 2 rfl); exact ⟨_, rfl⟩; rfl; intro x1 y1 w2 O2; (have A2 : Own w0 w2 (rowv 9 1 (.slice an m.n cn) m.n (m.nowL.map str) :: box z (xcells m aw cw an cn at0 ct f lf) 74 :: box b (xcells m aw cw an cn at0 ct f lf) 74 :: rowv 9 1 (.slice aw m.n cw) m.n (m.wasL.map str) :: rowv 4 1 (.slice at0 m.n ct) m.n (Bv (wetB m)) :: rowv 9 1 (.slice (some ⟨x1, 0, none⟩) m.n y1) m.n (m.wasL.map str) :: L) := O2.selK 6 [4, 2, 3, 1, 5, 0]); (have KC2 : Hid (w2.cell? ⟨b, 0, none⟩ = some (.slice aw m.n cw) ∧ w2.cell? ⟨b, 1, none⟩ = some (.slice an m.n cn) ∧ w2.cell? ⟨b, 2, none⟩ = some (.slice at0 m.n ct)) := Lib.hid ⟨(A2.pick 2).xAt.c0, (A2.pick 2).xAt.c1, (A2.pick 2).xAt.c2⟩))
      | ((with_reducible refine wp_if ?_ (wp_copyO elem_str hn1 hn8 (((A1.alloc _).alloc _).drew) rfl ?_ ?_ ?_ ?_)); (iterate 2 rfl); exact ⟨_, rfl⟩; rfl; intro x1 y1 w2 O2; (have A2 : Own w0 w2 (rowv 9 1 (.slice an m.n cn) m.n (m.nowL.map str) :: box z (xcells m aw cw an cn at0 ct f lf) 74 :: box b (xcells m aw cw an cn at0 ct f lf) 74 :: rowv 9 1 (.slice aw m.n cw) m.n (m.wasL.map str) :: rowv 4 1 (.slice at0 m.n ct) m.n (Bv (wetB m)) :: rowv 9 1 (.slice (some ⟨x1, 0, none⟩) m.n y1) m.n (m.wasL.map str) :: L) := O2.selK 6 [4, 2, 3, 1, 5, 0]); (have KC2 : Hid (w2.cell? ⟨b, 0, none⟩ = some (.slice aw m.n cw) ∧ w2.cell? ⟨b, 1, none⟩ = some (.slice an m.n cn) ∧ w2.cell? ⟨b, 2, none⟩ = some (.slice at0 m.n ct)) := Lib.hid ⟨(A2.pick 2).xAt.c0, (A2.pick 2).xAt.c1, (A2.pick 2).xAt.c2⟩))
      | ((with_reducible refine wp_if ?_ (wp_copyO elem_str hn1 hn8 ((((A1.alloc _).alloc _).alloc _).drew) rfl ?_ ?_ ?_ ?_)); (iterate 2 rfl); exact ⟨_, rfl⟩; rfl; intro x1 y1 w2 O2; (have A2 : Own w0 w2 (rowv 9 1 (.slice an m.n cn) m.n (m.nowL.map str) :: box z (xcells m aw cw an cn at0 ct f lf) 74 :: box b (xcells m aw cw an cn at0 ct f lf) 74 :: rowv 9 1 (.slice aw m.n cw) m.n (m.wasL.map str) :: rowv 4 1 (.slice at0 m.n ct) m.n (Bv (wetB m)) :: rowv 9 1 (.slice (some ⟨x1, 0, none⟩) m.n y1) m.n (m.wasL.map str) :: L) := O2.selK 6 [4, 2, 3, 1, 5, 0]); (have KC2 : Hid (w2.cell? ⟨b, 0, none⟩ = some (.slice aw m.n cw) ∧ w2.cell? ⟨b, 1, none⟩ = some (.slice an m.n cn) ∧ w2.cell? ⟨b, 2, none⟩ = some (.slice at0 m.n ct)) := Lib.hid ⟨(A2.pick 2).xAt.c0, (A2.pick 2).xAt.c1, (A2.pick 2).xAt.c2⟩))
      | ((with_reducible refine wp_if ?_ (wp_copyO elem_str hn1 hn8 A2 rfl ?_ ?_ ?_ ?_)); (iterate 2 rfl); exact ⟨_, rfl⟩; rfl; intro x2 y2 w3 O3; (have A3 : Own w0 w3 (rowv 4 1 (.slice at0 m.n ct) m.n (Bv (wetB m)) :: box z (xcells m aw cw an cn at0 ct f lf) 74 :: box b (xcells m aw cw an cn at0 ct f lf) 74 :: rowv 9 1 (.slice aw m.n cw) m.n (m.wasL.map str) :: rowv 9 1 (.slice an m.n cn) m.n (m.nowL.map str) :: rowv 9 1 (.slice (some ⟨x1, 0, none⟩) m.n y1) m.n (m.wasL.map str) :: rowv 9 1 (.slice (some ⟨x2, 0, none⟩) m.n y2) m.n (m.nowL.map str) :: L) := O3.selK 7 [5, 2, 3, 4, 1, 6, 0]); (have KC3 : Hid (w3.cell? ⟨b, 0, none⟩ = some (.slice aw m.n cw) ∧ w3.cell? ⟨b, 1, none⟩ = some (.slice an m.n cn) ∧ w3.cell? ⟨b, 2, none⟩ = some (.slice at0 m.n ct)) := Lib.hid ⟨(A3.pick 2).xAt.c0, (A3.pick 2).xAt.c1, (A3.pick 2).xAt.c2⟩))
      | ((with_reducible refine wp_if ?_ (wp_copyO elem_str hn1 hn8 (A2.alloc _) rfl ?_ ?_ ?_ ?_)); (iterate 2 rfl); exact ⟨_, rfl⟩; rfl; intro x2 y2 w3 O3; (have A3 : Own w0 w3 (rowv 4 1 (.slice at0 m.n ct) m.n (Bv (wetB m)) :: box z (xcells m aw cw an cn at0 ct f lf) 74 :: box b (xcells m aw cw an cn at0 ct f lf) 74 :: rowv 9 1 (.slice aw m.n cw) m.n (m.wasL.map str) :: rowv 9 1 (.slice an m.n cn) m.n (m.nowL.map str) :: rowv 9 1 (.slice (some ⟨x1, 0, none⟩) m.n y1) m.n (m.wasL.map str) :: rowv 9 1 (.slice (some ⟨x2, 0, none⟩) m.n y2) m.n (m.nowL.map str) :: L) := O3.selK 7 [5, 2, 3, 4, 1, 6, 0]); (have KC3 : Hid (w3.cell? ⟨b, 0, none⟩ = some (.slice aw m.n cw) ∧ w3.cell? ⟨b, 1, none⟩ = some (.slice an m.n cn) ∧ w3.cell? ⟨b, 2, none⟩ = some (.slice at0 m.n ct)) := Lib.hid ⟨(A3.pick 2).xAt.c0, (A3.pick 2).xAt.c1, (A3.pick 2).xAt.c2⟩))
      | ((with_reducible refine wp_if ?_ (wp_copyO elem_str hn1 hn8 ((A2.alloc _).alloc _) rfl ?_ ?_ ?_ ?_)); (iterate 2 rfl); exact ⟨_, rfl⟩; rfl; intro x2 y2 w3 O3; (have A3 : Own w0 w3 (rowv 4 1 (.slice at0 m.n ct) m.n (Bv (wetB m)) :: box z (xcells m aw cw an cn at0 ct f lf) 74 :: box b (xcells m aw cw an cn at0 ct f lf) 74 :: rowv 9 1 (.slice aw m.n cw) m.n (m.wasL.map str) :: rowv 9 1 (.slice an m.n cn) m.n (m.nowL.map str) :: rowv 9 1 (.slice (some ⟨x1, 0, none⟩) m.n y1) m.n (m.wasL.map str) :: rowv 9 1 (.slice (some ⟨x2, 0, none⟩) m.n y2) m.n (m.nowL.map str) :: L) := O3.selK 7 [5, 2, 3, 4, 1, 6, 0]); (have KC3 : Hid (w3.cell? ⟨b, 0, none⟩ = some (.slice aw m.n cw) ∧ w3.cell? ⟨b, 1, none⟩ = some (.slice an m.n cn) ∧ w3.cell? ⟨b, 2, none⟩ = some (.slice at0 m.n ct)) := Lib.hid ⟨(A3.pick 2).xAt.c0, (A3.pick 2).xAt.c1, (A3.pick 2).xAt.c2⟩))
      | ((with_reducible refine wp_if ?_ (wp_copyO elem_bool hn1 hn8 A3 rfl ?_ ?_ ?_ ?_)); (iterate 2 rfl); exact ⟨_, rfl⟩; rfl; intro x3 y3 w4 O4; (have A4 : Own w0 w4 (box z (xcells m aw cw an cn at0 ct f lf) 74 :: box b (xcells m aw cw an cn at0 ct f lf) 74 :: rowv 9 1 (.slice aw m.n cw) m.n (m.wasL.map str) :: rowv 9 1 (.slice an m.n cn) m.n (m.nowL.map str) :: rowv 4 1 (.slice at0 m.n ct) m.n (Bv (wetB m)) :: rowv 9 1 (.slice (some ⟨x1, 0, none⟩) m.n y1) m.n (m.wasL.map str) :: rowv 9 1 (.slice (some ⟨x2, 0, none⟩) m.n y2) m.n (m.nowL.map str) :: rowv 4 1 (.slice (some ⟨x3, 0, none⟩) m.n y3) m.n (Bv (wetB m)) :: L) := O4.selK 8 [2, 3, 4, 5, 1, 6, 7, 0]); (have KC4 : Hid (w4.cell? ⟨b, 0, none⟩ = some (.slice aw m.n cw) ∧ w4.cell? ⟨b, 1, none⟩ = some (.slice an m.n cn) ∧ w4.cell? ⟨b, 2, none⟩ = some (.slice at0 m.n ct)) := Lib.hid ⟨(A4.pick 1).xAt.c0, (A4.pick 1).xAt.c1, (A4.pick 1).xAt.c2⟩);
          (have z0 := A4.xAt.c0); (have z1 := A4.xAt.c1); (have z2 := A4.xAt.c2); (have zf := A4.xAt.fr);
          (have B1 := A4.set 0 (.slice (some ⟨x1, 0, none⟩) m.n y1)); (have B2 := B1.set 1 (.slice (some ⟨x2, 0, none⟩) m.n y2)); (have B3 := B2.set 2 (.slice (some ⟨x3, 0, none⟩) m.n y3));
          (have KC5 : Hid ((w4.setCell ⟨z, 0, none⟩ (.slice (some ⟨x1, 0, none⟩) m.n y1)).cell? ⟨b, 0, none⟩ = some (.slice aw m.n cw) ∧ (w4.setCell ⟨z, 0, none⟩ (.slice (some ⟨x1, 0, none⟩) m.n y1)).cell? ⟨b, 1, none⟩ = some (.slice an m.n cn) ∧ (w4.setCell ⟨z, 0, none⟩ (.slice (some ⟨x1, 0, none⟩) m.n y1)).cell? ⟨b, 2, none⟩ = some (.slice at0 m.n ct)) := Lib.hid ⟨(B1.pick 1).xAt.c0, (B1.pick 1).xAt.c1, (B1.pick 1).xAt.c2⟩);
          (have KC6 : Hid (((w4.setCell ⟨z, 0, none⟩ (.slice (some ⟨x1, 0, none⟩) m.n y1)).setCell ⟨z, 1, none⟩ (.slice (some ⟨x2, 0, none⟩) m.n y2)).cell? ⟨b, 0, none⟩ = some (.slice aw m.n cw) ∧ ((w4.setCell ⟨z, 0, none⟩ (.slice (some ⟨x1, 0, none⟩) m.n y1)).setCell ⟨z, 1, none⟩ (.slice (some ⟨x2, 0, none⟩) m.n y2)).cell? ⟨b, 1, none⟩ = some (.slice an m.n cn) ∧ ((w4.setCell ⟨z, 0, none⟩ (.slice (some ⟨x1, 0, none⟩) m.n y1)).setCell ⟨z, 1, none⟩ (.slice (some ⟨x2, 0, none⟩) m.n y2)).cell? ⟨b, 2, none⟩ = some (.slice at0 m.n ct)) := Lib.hid ⟨(B2.pick 1).xAt.c0, (B2.pick 1).xAt.c1, (B2.pick 1).xAt.c2⟩);
          (have KC7 : Hid ((((w4.setCell ⟨z, 0, none⟩ (.slice (some ⟨x1, 0, none⟩) m.n y1)).setCell ⟨z, 1, none⟩ (.slice (some ⟨x2, 0, none⟩) m.n y2)).setCell ⟨z, 2, none⟩ (.slice (some ⟨x3, 0, none⟩) m.n y3)).cell? ⟨b, 0, none⟩ = some (.slice aw m.n cw) ∧ (((w4.setCell ⟨z, 0, none⟩ (.slice (some ⟨x1, 0, none⟩) m.n y1)).setCell ⟨z, 1, none⟩ (.slice (some ⟨x2, 0, none⟩) m.n y2)).setCell ⟨z, 2, none⟩ (.slice (some ⟨x3, 0, none⟩) m.n y3)).cell? ⟨b, 1, none⟩ = some (.slice an m.n cn) ∧ (((w4.setCell ⟨z, 0, none⟩ (.slice (some ⟨x1, 0, none⟩) m.n y1)).setCell ⟨z, 1, none⟩ (.slice (some ⟨x2, 0, none⟩) m.n y2)).setCell ⟨z, 2, none⟩ (.slice (some ⟨x3, 0, none⟩) m.n y3)).cell? ⟨b, 2, none⟩ = some (.slice at0 m.n ct)) := Lib.hid ⟨(B3.pick 1).xAt.c0, (B3.pick 1).xAt.c1, (B3.pick 1).xAt.c2⟩))
      | ((with_reducible refine wp_if ?_ (wp_copyO elem_bool hn1 hn8 (A3.alloc _) rfl ?_ ?_ ?_ ?_)); (iterate 2 rfl); exact ⟨_, rfl⟩; rfl; intro x3 y3 w4 O4; (have A4 : Own w0 w4 (box z (xcells m aw cw an cn at0 ct f lf) 74 :: box b (xcells m aw cw an cn at0 ct f lf) 74 :: rowv 9 1 (.slice aw m.n cw) m.n (m.wasL.map str) :: rowv 9 1 (.slice an m.n cn) m.n (m.nowL.map str) :: rowv 4 1 (.slice at0 m.n ct) m.n (Bv (wetB m)) :: rowv 9 1 (.slice (some ⟨x1, 0, none⟩) m.n y1) m.n (m.wasL.map str) :: rowv 9 1 (.slice (some ⟨x2, 0, none⟩) m.n y2) m.n (m.nowL.map str) :: rowv 4 1 (.slice (some ⟨x3, 0, none⟩) m.n y3) m.n (Bv (wetB m)) :: L) := O4.selK 8 [2, 3, 4, 5, 1, 6, 7, 0]); (have KC4 : Hid (w4.cell? ⟨b, 0, none⟩ = some (.slice aw m.n cw) ∧ w4.cell? ⟨b, 1, none⟩ = some (.slice an m.n cn) ∧ w4.cell? ⟨b, 2, none⟩ = some (.slice at0 m.n ct)) := Lib.hid ⟨(A4.pick 1).xAt.c0, (A4.pick 1).xAt.c1, (A4.pick 1).xAt.c2⟩);
          (have z0 := A4.xAt.c0); (have z1 := A4.xAt.c1); (have z2 := A4.xAt.c2); (have zf := A4.xAt.fr);
          (have B1 := A4.set 0 (.slice (some ⟨x1, 0, none⟩) m.n y1)); (have B2 := B1.set 1 (.slice (some ⟨x2, 0, none⟩) m.n y2)); (have B3 := B2.set 2 (.slice (some ⟨x3, 0, none⟩) m.n y3));
          (have KC5 : Hid ((w4.setCell ⟨z, 0, none⟩ (.slice (some ⟨x1, 0, none⟩) m.n y1)).cell? ⟨b, 0, none⟩ = some (.slice aw m.n cw) ∧ (w4.setCell ⟨z, 0, none⟩ (.slice (some ⟨x1, 0, none⟩) m.n y1)).cell? ⟨b, 1, none⟩ = some (.slice an m.n cn) ∧ (w4.setCell ⟨z, 0, none⟩ (.slice (some ⟨x1, 0, none⟩) m.n y1)).cell? ⟨b, 2, none⟩ = some (.slice at0 m.n ct)) := Lib.hid ⟨(B1.pick 1).xAt.c0, (B1.pick 1).xAt.c1, (B1.pick 1).xAt.c2⟩);
          (have KC6 : Hid (((w4.setCell ⟨z, 0, none⟩ (.slice (some ⟨x1, 0, none⟩) m.n y1)).setCell ⟨z, 1, none⟩ (.slice (some ⟨x2, 0, none⟩) m.n y2)).cell? ⟨b, 0, none⟩ = some (.slice aw m.n cw) ∧ ((w4.setCell ⟨z, 0, none⟩ (.slice (some ⟨x1, 0, none⟩) m.n y1)).setCell ⟨z, 1, none⟩ (.slice (some ⟨x2, 0, none⟩) m.n y2)).cell? ⟨b, 1, none⟩ = some (.slice an m.n cn) ∧ ((w4.setCell ⟨z, 0, none⟩ (.slice (some ⟨x1, 0, none⟩) m.n y1)).setCell ⟨z, 1, none⟩ (.slice (some ⟨x2, 0, none⟩) m.n y2)).cell? ⟨b, 2, none⟩ = some (.slice at0 m.n ct)) := Lib.hid ⟨(B2.pick 1).xAt.c0, (B2.pick 1).xAt.c1, (B2.pick 1).xAt.c2⟩);
          (have KC7 : Hid ((((w4.setCell ⟨z, 0, none⟩ (.slice (some ⟨x1, 0, none⟩) m.n y1)).setCell ⟨z, 1, none⟩ (.slice (some ⟨x2, 0, none⟩) m.n y2)).setCell ⟨z, 2, none⟩ (.slice (some ⟨x3, 0, none⟩) m.n y3)).cell? ⟨b, 0, none⟩ = some (.slice aw m.n cw) ∧ (((w4.setCell ⟨z, 0, none⟩ (.slice (some ⟨x1, 0, none⟩) m.n y1)).setCell ⟨z, 1, none⟩ (.slice (some ⟨x2, 0, none⟩) m.n y2)).setCell ⟨z, 2, none⟩ (.slice (some ⟨x3, 0, none⟩) m.n y3)).cell? ⟨b, 1, none⟩ = some (.slice an m.n cn) ∧ (((w4.setCell ⟨z, 0, none⟩ (.slice (some ⟨x1, 0, none⟩) m.n y1)).setCell ⟨z, 1, none⟩ (.slice (some ⟨x2, 0, none⟩) m.n y2)).setCell ⟨z, 2, none⟩ (.slice (some ⟨x3, 0, none⟩) m.n y3)).cell? ⟨b, 2, none⟩ = some (.slice at0 m.n ct)) := Lib.hid ⟨(B3.pick 1).xAt.c0, (B3.pick 1).xAt.c1, (B3.pick 1).xAt.c2⟩)))
  all_goals
    have FIN := Own.xk2 (a1 := some ⟨x1, 0, none⟩) (c1 := y1) (a2 := some ⟨x2, 0, none⟩) (c2 := y2) (a3 := some ⟨x3, 0, none⟩) (c3 := y3) HR.out B3
    clear A1 A2 A3 A4 B1 B2 B3 O2 O3 O4 z0 z1 z2 zf
    go_wp2
    go_ret
    exact ⟨z, rfl, FIN⟩
end Go.Proofs.Ytobflkddkplpiaa
