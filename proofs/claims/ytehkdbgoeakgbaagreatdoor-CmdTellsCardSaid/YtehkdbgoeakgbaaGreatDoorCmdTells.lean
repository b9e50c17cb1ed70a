/- CmdTells: the walk. -/
import Derived.Test.YtehkdbgoeakgbaaGreatDoorCtG
import Derived.Test.YtehkdbgoeakgbaaGreatDoorCmKK
import Derived.Test.YtehkdbgoeakgbaaGreatDoorCmO
import Derived.BigQuiet
namespace Go.Proofs.YtehkdbgoeakgbaaGreatDoor
set_option linter.all false
open Go.RowKit Go.Shelf

def cmdR (A B : Nat) (c d : Cm) (a b : Option Addr) (ca cb : Nat) : List Piece :=
  [box A #[.int .u8 c.verb, .string ⟨c.arg.toArray⟩, .slice a c.ps.length ca] 24, box B #[.int .u8 d.verb, .string ⟨d.arg.toArray⟩, .slice b d.ps.length cb] 24]
def tellsR (A B C X Y : Nat) (c d : Cm) (a b a1 a2 a3 : Option Addr) (ca cb c1 c2 c3 : Nat) : List Piece :=
  box C #[.int .u8 c.verb, .string ⟨c.arg.toArray⟩, .slice a1 c.ps.length c1] 24 :: box X #[.int .u8 c.verb, .string ⟨c.arg.toArray⟩, .slice a2 c.ps.length c2] 30 :: box Y #[.int .u8 d.verb, .string ⟨d.arg.toArray⟩, .slice a3 d.ps.length c3] 30 ::
    rowv 48 2 (.slice a1 c.ps.length c1) c.ps.length (flatP c.ps) :: rowv 57 2 (.slice a2 c.ps.length c2) c.ps.length (flatP c.ps) :: rowv 57 2 (.slice a3 d.ps.length c3) d.ps.length (flatP d.ps) :: cmdR A B c d a b ca cb
/-- the three cells of a command's box -/
def Three (w : World) (B : Nat) (c : Cm) (a : Option Addr) (n cap : Nat) : Prop :=
  w.cell? ⟨B, 0, none⟩ = some (.int .u8 c.verb) ∧ w.cell? ⟨B, 1, none⟩ = some (.string ⟨c.arg.toArray⟩) ∧ w.cell? ⟨B, 2, none⟩ = some (.slice a n cap)
theorem Own.dropN {w0 w : World} : ∀ {L M : List Piece}, Own w0 w (L ++ M) → Own w0 w M
  | [], _, h => h
  | _ :: L, _, h => Own.dropN (L := L) (Own.drop h)
theorem Own.boxObj {w0 w : World} {L : List Piece} (h : Own w0 w L) {b : Nat} {vals : Array Value} {ty : TypeId} (hm : box b vals ty ∈ L) : w.heap[b]? = some (.cells vals ty (0, 0)) := by
  obtain ⟨i, hi, e⟩ := List.mem_iff_getElem.1 hm
  have h2 := h.pick i (by rw [Nat.blt_eq]; exact hi)
  exact Own.obj (L := L.eraseIdx i) (by rw [← e]; exact h2)
theorem sizeAlloc (w : World) (o : Obj) : (w.alloc o).heap.size = w.heap.size + 1 := by simp
theorem two_stores {w0 W : World} {X Y : Nat} {t : TypeId} {L : List Piece} {z0 z1 z2 u0 u1 u2 : Value} (O : Own w0 W (box X #[z0, z1, z2] t :: box Y #[u0, u1, u2] t :: L)) (x0 x1 x2 y0 y1 y2 : Value) :
    W.cell? ⟨X, 0, none⟩ = some z0 ∧ W.frozen? ⟨X, 0, none⟩ = false ∧ (W.setCell ⟨X, 0, none⟩ x0).cell? ⟨X, 1, none⟩ = some z1 ∧ (W.setCell ⟨X, 0, none⟩ x0).frozen? ⟨X, 1, none⟩ = false ∧
    ((W.setCell ⟨X, 0, none⟩ x0).setCell ⟨X, 1, none⟩ x1).cell? ⟨X, 2, none⟩ = some z2 ∧ ((W.setCell ⟨X, 0, none⟩ x0).setCell ⟨X, 1, none⟩ x1).frozen? ⟨X, 2, none⟩ = false ∧
    (((W.setCell ⟨X, 0, none⟩ x0).setCell ⟨X, 1, none⟩ x1).setCell ⟨X, 2, none⟩ x2).cell? ⟨Y, 0, none⟩ = some u0 ∧ (((W.setCell ⟨X, 0, none⟩ x0).setCell ⟨X, 1, none⟩ x1).setCell ⟨X, 2, none⟩ x2).frozen? ⟨Y, 0, none⟩ = false ∧
    ((((W.setCell ⟨X, 0, none⟩ x0).setCell ⟨X, 1, none⟩ x1).setCell ⟨X, 2, none⟩ x2).setCell ⟨Y, 0, none⟩ y0).cell? ⟨Y, 1, none⟩ = some u1 ∧ ((((W.setCell ⟨X, 0, none⟩ x0).setCell ⟨X, 1, none⟩ x1).setCell ⟨X, 2, none⟩ x2).setCell ⟨Y, 0, none⟩ y0).frozen? ⟨Y, 1, none⟩ = false ∧
    (((((W.setCell ⟨X, 0, none⟩ x0).setCell ⟨X, 1, none⟩ x1).setCell ⟨X, 2, none⟩ x2).setCell ⟨Y, 0, none⟩ y0).setCell ⟨Y, 1, none⟩ y1).cell? ⟨Y, 2, none⟩ = some u2 ∧ (((((W.setCell ⟨X, 0, none⟩ x0).setCell ⟨X, 1, none⟩ x1).setCell ⟨X, 2, none⟩ x2).setCell ⟨Y, 0, none⟩ y0).setCell ⟨Y, 1, none⟩ y1).frozen? ⟨Y, 2, none⟩ = false ∧
    Own w0 (((W.setCell ⟨X, 0, none⟩ x0).setCell ⟨X, 1, none⟩ x1).setCell ⟨X, 2, none⟩ x2) (box X #[x0, x1, x2] t :: box Y #[u0, u1, u2] t :: L) ∧
    Own w0 ((((((W.setCell ⟨X, 0, none⟩ x0).setCell ⟨X, 1, none⟩ x1).setCell ⟨X, 2, none⟩ x2).setCell ⟨Y, 0, none⟩ y0).setCell ⟨Y, 1, none⟩ y1).setCell ⟨Y, 2, none⟩ y2) (box X #[x0, x1, x2] t :: box Y #[y0, y1, y2] t :: L) := by
  have P1 := O.set 0 x0
  have P2 := P1.set 1 x1
  have P3 := P2.set 2 x2
  have P4 := P3.pick 1
  have P5 := P4.set 0 y0
  have P6 := P5.set 1 y1
  have P7 := P6.set 2 y2
  exact ⟨O.cell 0, O.free 0, P1.cell 1, P1.free 1, P2.cell 2, P2.free 2, P4.cell 0, P4.free 0, P5.cell 1, P5.free 1, P6.cell 2, P6.free 2, P3, P7.pick 1⟩
theorem one_store {w0 W : World} {X : Nat} {t : TypeId} {L : List Piece} {z0 z1 z2 : Value} (O : Own w0 W (box X #[z0, z1, z2] t :: L)) (x0 x1 x2 : Value) :
    W.cell? ⟨X, 0, none⟩ = some z0 ∧ W.frozen? ⟨X, 0, none⟩ = false ∧ (W.setCell ⟨X, 0, none⟩ x0).cell? ⟨X, 1, none⟩ = some z1 ∧ (W.setCell ⟨X, 0, none⟩ x0).frozen? ⟨X, 1, none⟩ = false ∧
    ((W.setCell ⟨X, 0, none⟩ x0).setCell ⟨X, 1, none⟩ x1).cell? ⟨X, 2, none⟩ = some z2 ∧ ((W.setCell ⟨X, 0, none⟩ x0).setCell ⟨X, 1, none⟩ x1).frozen? ⟨X, 2, none⟩ = false ∧
    Own w0 (((W.setCell ⟨X, 0, none⟩ x0).setCell ⟨X, 1, none⟩ x1).setCell ⟨X, 2, none⟩ x2) (box X #[x0, x1, x2] t :: L) := by
  have P1 := O.set 0 x0
  have P2 := P1.set 1 x1
  have P3 := P2.set 2 x2
  exact ⟨O.cell 0, O.free 0, P1.cell 1, P1.free 1, P2.cell 2, P2.free 2, P3⟩
abbrev zCm : Array Value := #[.int .u8 0, .string ⟨#[]⟩, .slice none 0 0]
set_option maxRecDepth 100000 in
set_option maxHeartbeats 8000000 in
theorem cmdTells_walk {w : World} (KK : KT w) (v0 : Value) (o0 : ∃ (c : Cm) (a : Option Addr) (cap : Nat), CmdIn w v0 c a cap) (v1 : Value) (o1 : ∃ (c : Cm) (a : Option Addr) (cap : Nat), CmdIn w v1 c a cap) (line : List UInt8) (hline : line.length ≤ 140737488351232) (name : List UInt8) (hname : name.length ≤ 140737488351232) :
    Calls Tryz.prog 3 #[v0, v1, .string ⟨line.toArray⟩, .string ⟨name.toArray⟩] w fun e w' => e = .returned (.bool true) ∧ Below w.heap.size w w' := by
  obtain ⟨K, T⟩ := KK
  obtain ⟨c, a, ca, C⟩ := o0
  obtain ⟨d, b, cb, D⟩ := o1
  obtain rfl := C.val
  obtain rfl := D.val
  have CLO := Lib.hid (fun (w' : World) (L : List Piece) (O : Own w w' L) => C.long O)
  have DLO := Lib.hid (fun (w' : World) (L : List Piece) (O : Own w w' L) => D.long O)
  have AW := Lib.hid (fun (w' : World) (L' : List Piece) (h : Own w w' L') => awake7_own K T h)
  have O := ((Own.start w).newBox #[.int .u8 c.verb, .string ⟨c.arg.toArray⟩, .slice a c.ps.length ca] 24).newBox #[.int .u8 d.verb, .string ⟨d.arg.toArray⟩, .slice b d.ps.length cb] 24
  obtain ⟨A, hA⟩ : ∃ b, b = w.heap.size := ⟨_, rfl⟩
  obtain ⟨B, hB⟩ : ∃ b, b = w.heap.size + 1 := ⟨_, rfl⟩
  rw [show (w.alloc (.cells #[.int .u8 c.verb, .string ⟨c.arg.toArray⟩, .slice a c.ps.length ca] 24)).heap.size = B by rw [hB]; simp, ← hA] at O
  replace O := O.pick 1
  have O5 : Own w _ (cmdR A B c d a b ca cb) := O
  clear O C D
  have WH : Hid (w.heap.size = A ∧ w.heap.size + 1 = B) := by unfold Hid; omega
  clear hA hB
  have CE : Hid (∀ w', Own w w' (cmdR A B c d a b ca cb) → (w'.cell? ⟨A, 0, none⟩ = some (.int .u8 c.verb) ∧ w'.cell? ⟨A, 1, none⟩ = some (.string ⟨c.arg.toArray⟩) ∧ w'.cell? ⟨A, 2, none⟩ = some (.slice a c.ps.length ca)) ∧ (w'.cell? ⟨B, 0, none⟩ = some (.int .u8 d.verb) ∧ w'.cell? ⟨B, 1, none⟩ = some (.string ⟨d.arg.toArray⟩) ∧ w'.cell? ⟨B, 2, none⟩ = some (.slice b d.ps.length cb))) :=
    fun w' h => ⟨⟨h.cell 0, h.cell 1, h.cell 2⟩, ⟨(h.pick 1).cell 0, (h.pick 1).cell 1, (h.pick 1).cell 2⟩⟩
  unfold cmV at CLO DLO ⊢
  go_enter Tryz.func3, Tryz.ntmps3
  go_upto_region 1 with fail
  rw [WH.out.2, WH.out.1]
  clear WH
  obtain ⟨⟨p0, p1, p2⟩, -⟩ := CE.out _ O5
  generalize ((w.alloc (.cells #[.int .u8 c.verb, .string ⟨c.arg.toArray⟩, .slice a c.ps.length ca] 24)).alloc (.cells #[.int .u8 d.verb, .string ⟨d.arg.toArray⟩, .slice b d.ps.length cb] 24)) = W at O5 p0 p1 p2 ⊢
  have WS : IntKind.i64.wrap ((line.length : Int) + (name.length : Int)) = (line.length : Int) + (name.length : Int) := IntWalk.i64_in _ (by omega)
  go_wp2_with fail
  refine (CLO.out _ _ O5).mono ?_
  clear O5 p0 p1 p2 CLO
  rintro e w1 ⟨r1, rfl, O5, S1⟩
  cases r1
  rotate_left
  · clear S1 CE DLO
    go_wp2_with fail
    refine (AW.out _ _ O5).mono ?_
    clear O5 AW
    rintro e w2 ⟨rfl, O5⟩
    go_wp2
    go_ret
    exact ⟨rfl, O5.below⟩
  have H1 := Lib.hid (S1 rfl)
  clear S1
  obtain ⟨-, ⟨p0, p1, p2⟩⟩ := CE.out _ O5
  go_wp2_with fail
  refine (DLO.out _ _ O5).mono ?_
  clear O5 p0 p1 p2 DLO
  rintro e w2 ⟨r2, rfl, O5, S2⟩
  cases r2
  rotate_left
  · clear H1 S2 CE
    go_wp2_with fail
    refine (AW.out _ _ O5).mono ?_
    clear O5 AW
    rintro e w3 ⟨rfl, O5⟩
    go_wp2
    go_ret
    exact ⟨rfl, O5.below⟩
  have H2 := Lib.hid (S2 rfl)
  clear S2
  by_cases hsz : (5000 : Int) < (line.length : Int) + (name.length : Int)
  · clear H1 H2 CE
    go_wp2_with fail
    refine (AW.out _ _ O5).mono ?_
    clear O5 AW
    rintro e w3 ⟨rfl, O5⟩
    go_wp2
    go_ret
    exact ⟨rfl, O5.below⟩
  have hll : line.length ≤ 5000 := by omega
  clear hline hname
  obtain ⟨⟨p0, p1, p2⟩, -⟩ := CE.out _ O5
  have OW := own7_own O5 c (a := a) (N := c.ps.length) (cap := ca) rfl (by have := H1.out.len; omega) (fun w' h => H1.out.rd w' _ h)
  unfold cmV at OW
  go_wp2_with fail
  refine OW.mono ?_
  clear OW O5 p0 p1 p2
  rintro e w3 ⟨a1, c1, rfl, O6⟩
  unfold cmV
  obtain ⟨CB, hCB⟩ : ∃ b, b = w3.heap.size := ⟨_, rfl⟩
  have O7 := O6.newBox #[.int .u8 c.verb, .string ⟨c.arg.toArray⟩, .slice a1 c.ps.length c1] 24
  rw [← hCB] at O7
  go_upto_region 4 with fail
  rw [← hCB]
  clear hCB O6
  generalize (w3.alloc (.cells #[.int .u8 c.verb, .string ⟨c.arg.toArray⟩, .slice a1 c.ps.length c1] 24)) = W4 at O7 ⊢
  have TA := Lib.hid (fun (ws : World) (L : List Piece) (h : Own w ws L) => toldc7_own h c (a := a) (N := c.ps.length) (cap := ca) rfl (by have := H1.out.len; omega) (fun w' h => H1.out.rd w' _ h))
  have TB := Lib.hid (fun (ws : World) (L : List Piece) (h : Own w ws L) => toldc7_own h d (a := b) (N := d.ps.length) (cap := cb) rfl (by have := H2.out.len; omega) (fun w' h => H2.out.rd w' _ h))
  unfold cmV at TA TB
  have KS : Hid (∀ (ws : World) (L : List Piece), Own w ws L → box A #[.int .u8 c.verb, .string ⟨c.arg.toArray⟩, .slice a c.ps.length ca] 24 ∈ L → box B #[.int .u8 d.verb, .string ⟨d.arg.toArray⟩, .slice b d.ps.length cb] 24 ∈ L → Hid (ws.cell? ⟨A, 0, none⟩ = some (.int .u8 c.verb) ∧ ws.cell? ⟨A, 1, none⟩ = some (.string ⟨c.arg.toArray⟩) ∧ ws.cell? ⟨A, 2, none⟩ = some (.slice a c.ps.length ca) ∧ ws.cell? ⟨B, 0, none⟩ = some (.int .u8 d.verb) ∧ ws.cell? ⟨B, 1, none⟩ = some (.string ⟨d.arg.toArray⟩) ∧ ws.cell? ⟨B, 2, none⟩ = some (.slice b d.ps.length cb))) := fun ws L h ha hb =>
    ⟨cell_at (h.boxObj ha) 0, cell_at (h.boxObj ha) 1, cell_at (h.boxObj ha) 2, cell_at (h.boxObj hb) 0, cell_at (h.boxObj hb) 1, cell_at (h.boxObj hb) 2⟩
  obtain ⟨LC, hLC⟩ : ∃ L, L = box CB #[.int .u8 c.verb, .string ⟨c.arg.toArray⟩, .slice a1 c.ps.length c1] 24 :: rowv 48 2 (.slice a1 c.ps.length c1) c.ps.length (flatP c.ps) :: cmdR A B c d a b ca cb := ⟨_, rfl⟩
  have MA : box A #[.int .u8 c.verb, .string ⟨c.arg.toArray⟩, .slice a c.ps.length ca] 24 ∈ LC := by rw [hLC]; simp [cmdR]
  have MB : box B #[.int .u8 d.verb, .string ⟨d.arg.toArray⟩, .slice b d.ps.length cb] 24 ∈ LC := by rw [hLC]; simp [cmdR]
  rw [← hLC] at O7
  have HLC := Lib.hid hLC
  clear hLC
  have KS2 : Hid (∀ (ws : World) (L : List Piece), Own w ws L → LC ⊆ L → Hid (ws.cell? ⟨A, 0, none⟩ = some (.int .u8 c.verb) ∧ ws.cell? ⟨A, 1, none⟩ = some (.string ⟨c.arg.toArray⟩) ∧ ws.cell? ⟨A, 2, none⟩ = some (.slice a c.ps.length ca) ∧ ws.cell? ⟨B, 0, none⟩ = some (.int .u8 d.verb) ∧ ws.cell? ⟨B, 1, none⟩ = some (.string ⟨d.arg.toArray⟩) ∧ ws.cell? ⟨B, 2, none⟩ = some (.slice b d.ps.length cb))) := fun ws L h hs => KS.out ws L h (hs MA) (hs MB)
  have OA0 := O7.drew
  have OA1 : Own w (W4.alloc (.cells zCm 30)).drew _ := (O7.newBox zCm 30).drew
  have OA2 : Own w ((W4.alloc (.cells zCm 30)).alloc (.cells zCm 30)).drew _ := ((O7.newBox zCm 30).newBox zCm 30).drew
  have e0 := KS2.out _ _ O7 (by simp)
  have e1 := KS2.out _ _ (O7.newBox zCm 30) (by simp)
  have e2 := KS2.out _ _ ((O7.newBox zCm 30).newBox zCm 30) (by simp)
  have e3 := KS2.out _ _ OA0 (by simp)
  have e4 := KS2.out _ _ OA1 (by simp)
  have e5 := KS2.out _ _ OA2 (by simp)
  clear KS MA MB
  unfold zCm at OA1 OA2 e1 e2 e4 e5
  have FIN : Hid (∀ wx X Y a2 c2 a3 c3, Own w wx (box X #[.int .u8 c.verb, .string ⟨c.arg.toArray⟩, .slice a2 c.ps.length c2] 30 :: box Y #[.int .u8 d.verb, .string ⟨d.arg.toArray⟩, .slice a3 d.ps.length c3] 30 :: rowv 57 2 (.slice a3 d.ps.length c3) d.ps.length (flatP d.ps) :: rowv 57 2 (.slice a2 c.ps.length c2) c.ps.length (flatP c.ps) :: LC) → Own w wx (tellsR A B CB X Y c d a b a1 a2 a3 ca cb c1 c2 c3)) := fun wx X Y a2 c2 a3 c3 h => by
    rw [HLC.out] at h
    exact h.selK 6 [4, 0, 1, 5, 3, 2]
  go_cut [10, 11] (fun xv yv wx => ∃ X Y a2 a3 c2 c3, xv = .pointer (some ⟨X, 0, none⟩) ∧ yv = .pointer (some ⟨Y, 0, none⟩) ∧ Own w wx (tellsR A B CB X Y c d a b a1 a2 a3 ca cb c1 c2 c3))
  case first =>
   go_wp2_with fail
   go_region_held3 (fun w' => w'.cell? ⟨A, 0, none⟩ = some (.int .u8 c.verb) ∧ w'.cell? ⟨A, 1, none⟩ = some (.string ⟨c.arg.toArray⟩) ∧ w'.cell? ⟨A, 2, none⟩ = some (.slice a c.ps.length ca) ∧ w'.cell? ⟨B, 0, none⟩ = some (.int .u8 d.verb) ∧ w'.cell? ⟨B, 1, none⟩ = some (.string ⟨d.arg.toArray⟩) ∧ w'.cell? ⟨B, 2, none⟩ = some (.slice b d.ps.length cb))
    (first | with_reducible exact e0.out | with_reducible exact e1.out | with_reducible exact e2.out | with_reducible exact e3.out | with_reducible exact e4.out | with_reducible exact e5.out | with_reducible exact f0.out | with_reducible exact f1.out | with_reducible exact f2.out | with_reducible exact g0.out | with_reducible exact g1.out | with_reducible exact g2.out | with_reducible exact h1.out | with_reducible exact h2.out | with_reducible exact h3.out | with_reducible exact h4.out | with_reducible exact (g3 _ _).out)
    (first
      | (go_at_call 7; (with_reducible refine (TA.out _ _ OA0).mono ?_); rintro e6 w6 ⟨a2, c2, rfl, O60⟩; unfold cmV; have f0 := KS2.out _ _ O60 (by intro x hx; simp [hx]); have f1 := KS2.out _ _ (O60.newBox #[.int .u8 0, .string ⟨#[]⟩, .slice none 0 0] 30) (by intro x hx; simp [hx]); have f2 := KS2.out _ _ ((O60.newBox #[.int .u8 0, .string ⟨#[]⟩, .slice none 0 0] 30).newBox #[.int .u8 0, .string ⟨#[]⟩, .slice none 0 0] 30) (by intro x hx; simp [hx]))
      | (go_at_call 7; (with_reducible refine (TA.out _ _ OA1).mono ?_); rintro e6 w6 ⟨a2, c2, rfl, O61⟩; unfold cmV; have f0 := KS2.out _ _ O61 (by intro x hx; simp [hx]); have f1 := KS2.out _ _ (O61.newBox #[.int .u8 0, .string ⟨#[]⟩, .slice none 0 0] 30) (by intro x hx; simp [hx]); have f2 := KS2.out _ _ ((O61.newBox #[.int .u8 0, .string ⟨#[]⟩, .slice none 0 0] 30).newBox #[.int .u8 0, .string ⟨#[]⟩, .slice none 0 0] 30) (by intro x hx; simp [hx]))
      | (go_at_call 7; (with_reducible refine (TA.out _ _ OA2).mono ?_); rintro e6 w6 ⟨a2, c2, rfl, O62⟩; unfold cmV; have f0 := KS2.out _ _ O62 (by intro x hx; simp [hx]); have f1 := KS2.out _ _ (O62.newBox #[.int .u8 0, .string ⟨#[]⟩, .slice none 0 0] 30) (by intro x hx; simp [hx]); have f2 := KS2.out _ _ ((O62.newBox #[.int .u8 0, .string ⟨#[]⟩, .slice none 0 0] 30).newBox #[.int .u8 0, .string ⟨#[]⟩, .slice none 0 0] 30) (by intro x hx; simp [hx]))
      | (go_at_call 7; (with_reducible refine (TB.out _ _ O60).mono ?_); rintro e7 w7 ⟨a3, c3, rfl, O8⟩; unfold cmV; have g0 := KS2.out _ _ O8 (by intro x hx; simp [hx]); have g1 := KS2.out _ _ (O8.newBox #[.int .u8 0, .string ⟨#[]⟩, .slice none 0 0] 30) (by intro x hx; simp [hx]); have g2 := KS2.out _ _ ((O8.newBox #[.int .u8 0, .string ⟨#[]⟩, .slice none 0 0] 30).newBox #[.int .u8 0, .string ⟨#[]⟩, .slice none 0 0] 30) (by intro x hx; simp [hx]); have PE := ((O8.newBox #[.int .u8 c.verb, .string ⟨c.arg.toArray⟩, .slice a2 c.ps.length c2] 30).newBox #[.int .u8 d.verb, .string ⟨d.arg.toArray⟩, .slice a3 d.ps.length c3] 30).selK 4 [1, 0, 2, 3]; try simp only [List.map_cons, List.map_nil, List.getD_cons_zero, List.getD_cons_succ, List.eraseIdx_cons_zero, List.eraseIdx_cons_succ, List.getElem_cons_zero, List.getElem_cons_succ, List.take_succ_cons, List.take_zero, List.drop_succ_cons, List.drop_zero, List.cons_append, List.nil_append, List.append_eq] at PE; (try simp only [sizeAlloc] at PE); have QE := ((O8.newBox #[.int .u8 d.verb, .string ⟨d.arg.toArray⟩, .slice a3 d.ps.length c3] 30).newBox #[.int .u8 c.verb, .string ⟨c.arg.toArray⟩, .slice a2 c.ps.length c2] 30); (try simp only [sizeAlloc] at QE); have g3 : ∀ o1 o2, _ := fun o1 o2 => KS2.out _ _ ((O8.alloc o1).alloc o2) (by intro x hx; simp [hx]))
      | (go_at_call 7; (with_reducible refine (TB.out _ _ (O60.newBox #[.int .u8 0, .string ⟨#[]⟩, .slice none 0 0] 30)).mono ?_); rintro e7 w7 ⟨a3, c3, rfl, O8⟩; unfold cmV; have g0 := KS2.out _ _ O8 (by intro x hx; simp [hx]); have g1 := KS2.out _ _ (O8.newBox #[.int .u8 0, .string ⟨#[]⟩, .slice none 0 0] 30) (by intro x hx; simp [hx]); have g2 := KS2.out _ _ ((O8.newBox #[.int .u8 0, .string ⟨#[]⟩, .slice none 0 0] 30).newBox #[.int .u8 0, .string ⟨#[]⟩, .slice none 0 0] 30) (by intro x hx; simp [hx]); have OB := (O8.newBox #[.int .u8 0, .string ⟨#[]⟩, .slice none 0 0] 30).selK 4 [2, 0, 1, 3]; try simp only [List.map_cons, List.map_nil, List.getD_cons_zero, List.getD_cons_succ, List.eraseIdx_cons_zero, List.eraseIdx_cons_succ, List.getElem_cons_zero, List.getElem_cons_succ, List.take_succ_cons, List.take_zero, List.drop_succ_cons, List.drop_zero, List.cons_append, List.nil_append, List.append_eq] at OB; (try simp only [sizeAlloc] at OB); obtain ⟨p0, p1, p2, p3, p4, p5, p6, p7, p8, p9, p10, p11, PM, PE⟩ := two_stores OB (.int .u8 c.verb) (.string ⟨c.arg.toArray⟩) (.slice a2 c.ps.length c2) (.int .u8 d.verb) (.string ⟨d.arg.toArray⟩) (.slice a3 d.ps.length c3); have OC := (O8.newBox #[.int .u8 c.verb, .string ⟨c.arg.toArray⟩, .slice a2 c.ps.length c2] 30).selK 4 [2, 0, 1, 3]; try simp only [List.map_cons, List.map_nil, List.getD_cons_zero, List.getD_cons_succ, List.eraseIdx_cons_zero, List.eraseIdx_cons_succ, List.getElem_cons_zero, List.getElem_cons_succ, List.take_succ_cons, List.take_zero, List.drop_succ_cons, List.drop_zero, List.cons_append, List.nil_append, List.append_eq] at OC; (try simp only [sizeAlloc] at OC); obtain ⟨q0, q1, q2, q3, q4, q5, QE⟩ := one_store OC (.int .u8 d.verb) (.string ⟨d.arg.toArray⟩) (.slice a3 d.ps.length c3); have QE := QE.selK 4 [1, 0, 2, 3]; try simp only [List.map_cons, List.map_nil, List.getD_cons_zero, List.getD_cons_succ, List.eraseIdx_cons_zero, List.eraseIdx_cons_succ, List.getElem_cons_zero, List.getElem_cons_succ, List.take_succ_cons, List.take_zero, List.drop_succ_cons, List.drop_zero, List.cons_append, List.nil_append, List.append_eq] at QE; have h1 := KS2.out _ _ PM (by intro x hx; simp [hx]); have h2 := KS2.out _ _ PE (by intro x hx; simp [hx]); have h3 := KS2.out _ _ QE (by intro x hx; simp [hx]); have h4 := KS2.out _ _ (O8.alloc (.cells #[.int .u8 c.verb, .string ⟨c.arg.toArray⟩, .slice a2 c.ps.length c2] 30)) (by intro x hx; simp [hx]); clear OB OC PM)
      | (go_at_call 7; (with_reducible refine (TB.out _ _ ((O60.newBox #[.int .u8 0, .string ⟨#[]⟩, .slice none 0 0] 30).newBox #[.int .u8 0, .string ⟨#[]⟩, .slice none 0 0] 30)).mono ?_); rintro e7 w7 ⟨a3, c3, rfl, O8⟩; unfold cmV; have g0 := KS2.out _ _ O8 (by intro x hx; simp [hx]); have g1 := KS2.out _ _ (O8.newBox #[.int .u8 0, .string ⟨#[]⟩, .slice none 0 0] 30) (by intro x hx; simp [hx]); have g2 := KS2.out _ _ ((O8.newBox #[.int .u8 0, .string ⟨#[]⟩, .slice none 0 0] 30).newBox #[.int .u8 0, .string ⟨#[]⟩, .slice none 0 0] 30) (by intro x hx; simp [hx]); have OB := O8.selK 4 [1, 2, 0, 3]; try simp only [List.map_cons, List.map_nil, List.getD_cons_zero, List.getD_cons_succ, List.eraseIdx_cons_zero, List.eraseIdx_cons_succ, List.getElem_cons_zero, List.getElem_cons_succ, List.take_succ_cons, List.take_zero, List.drop_succ_cons, List.drop_zero, List.cons_append, List.nil_append, List.append_eq] at OB; have OC := OB.pick 1; try simp only [List.map_cons, List.map_nil, List.getD_cons_zero, List.getD_cons_succ, List.eraseIdx_cons_zero, List.eraseIdx_cons_succ, List.getElem_cons_zero, List.getElem_cons_succ, List.take_succ_cons, List.take_zero, List.drop_succ_cons, List.drop_zero, List.cons_append, List.nil_append, List.append_eq] at OC; (try simp only [sizeAlloc] at OB OC); obtain ⟨p0, p1, p2, p3, p4, p5, p6, p7, p8, p9, p10, p11, PM, PE⟩ := two_stores OB (.int .u8 c.verb) (.string ⟨c.arg.toArray⟩) (.slice a2 c.ps.length c2) (.int .u8 d.verb) (.string ⟨d.arg.toArray⟩) (.slice a3 d.ps.length c3); obtain ⟨q0, q1, q2, q3, q4, q5, q6, q7, q8, q9, q10, q11, QM, QE⟩ := two_stores OC (.int .u8 c.verb) (.string ⟨c.arg.toArray⟩) (.slice a2 c.ps.length c2) (.int .u8 d.verb) (.string ⟨d.arg.toArray⟩) (.slice a3 d.ps.length c3); have h1 := KS2.out _ _ PM (by intro x hx; simp [hx]); have h2 := KS2.out _ _ PE (by intro x hx; simp [hx]); have h3 := KS2.out _ _ QM (by intro x hx; simp [hx]); have h4 := KS2.out _ _ QE (by intro x hx; simp [hx]); clear OB OC PM QM)
      | (go_at_call 7; (with_reducible refine (TB.out _ _ O61).mono ?_); rintro e7 w7 ⟨a3, c3, rfl, O8⟩; unfold cmV; have g0 := KS2.out _ _ O8 (by intro x hx; simp [hx]); have g1 := KS2.out _ _ (O8.newBox #[.int .u8 0, .string ⟨#[]⟩, .slice none 0 0] 30) (by intro x hx; simp [hx]); have g2 := KS2.out _ _ ((O8.newBox #[.int .u8 0, .string ⟨#[]⟩, .slice none 0 0] 30).newBox #[.int .u8 0, .string ⟨#[]⟩, .slice none 0 0] 30) (by intro x hx; simp [hx]); have OB := (O8.newBox #[.int .u8 0, .string ⟨#[]⟩, .slice none 0 0] 30).selK 4 [3, 0, 1, 2]; try simp only [List.map_cons, List.map_nil, List.getD_cons_zero, List.getD_cons_succ, List.eraseIdx_cons_zero, List.eraseIdx_cons_succ, List.getElem_cons_zero, List.getElem_cons_succ, List.take_succ_cons, List.take_zero, List.drop_succ_cons, List.drop_zero, List.cons_append, List.nil_append, List.append_eq] at OB; (try simp only [sizeAlloc] at OB); obtain ⟨p0, p1, p2, p3, p4, p5, p6, p7, p8, p9, p10, p11, PM, PE⟩ := two_stores OB (.int .u8 c.verb) (.string ⟨c.arg.toArray⟩) (.slice a2 c.ps.length c2) (.int .u8 d.verb) (.string ⟨d.arg.toArray⟩) (.slice a3 d.ps.length c3); have OC := (O8.newBox #[.int .u8 c.verb, .string ⟨c.arg.toArray⟩, .slice a2 c.ps.length c2] 30).selK 4 [3, 0, 1, 2]; try simp only [List.map_cons, List.map_nil, List.getD_cons_zero, List.getD_cons_succ, List.eraseIdx_cons_zero, List.eraseIdx_cons_succ, List.getElem_cons_zero, List.getElem_cons_succ, List.take_succ_cons, List.take_zero, List.drop_succ_cons, List.drop_zero, List.cons_append, List.nil_append, List.append_eq] at OC; (try simp only [sizeAlloc] at OC); obtain ⟨q0, q1, q2, q3, q4, q5, QE⟩ := one_store OC (.int .u8 d.verb) (.string ⟨d.arg.toArray⟩) (.slice a3 d.ps.length c3); have QE := QE.selK 4 [1, 0, 2, 3]; try simp only [List.map_cons, List.map_nil, List.getD_cons_zero, List.getD_cons_succ, List.eraseIdx_cons_zero, List.eraseIdx_cons_succ, List.getElem_cons_zero, List.getElem_cons_succ, List.take_succ_cons, List.take_zero, List.drop_succ_cons, List.drop_zero, List.cons_append, List.nil_append, List.append_eq] at QE; have h1 := KS2.out _ _ PM (by intro x hx; simp [hx]); have h2 := KS2.out _ _ PE (by intro x hx; simp [hx]); have h3 := KS2.out _ _ QE (by intro x hx; simp [hx]); have h4 := KS2.out _ _ (O8.alloc (.cells #[.int .u8 c.verb, .string ⟨c.arg.toArray⟩, .slice a2 c.ps.length c2] 30)) (by intro x hx; simp [hx]); clear OB OC PM)
      | (go_at_call 7; (with_reducible refine (TB.out _ _ (O61.newBox #[.int .u8 0, .string ⟨#[]⟩, .slice none 0 0] 30)).mono ?_); rintro e7 w7 ⟨a3, c3, rfl, O8⟩; unfold cmV; have g0 := KS2.out _ _ O8 (by intro x hx; simp [hx]); have g1 := KS2.out _ _ (O8.newBox #[.int .u8 0, .string ⟨#[]⟩, .slice none 0 0] 30) (by intro x hx; simp [hx]); have g2 := KS2.out _ _ ((O8.newBox #[.int .u8 0, .string ⟨#[]⟩, .slice none 0 0] 30).newBox #[.int .u8 0, .string ⟨#[]⟩, .slice none 0 0] 30) (by intro x hx; simp [hx]); have OB := O8.selK 4 [1, 3, 0, 2]; try simp only [List.map_cons, List.map_nil, List.getD_cons_zero, List.getD_cons_succ, List.eraseIdx_cons_zero, List.eraseIdx_cons_succ, List.getElem_cons_zero, List.getElem_cons_succ, List.take_succ_cons, List.take_zero, List.drop_succ_cons, List.drop_zero, List.cons_append, List.nil_append, List.append_eq] at OB; have OC := OB.pick 1; try simp only [List.map_cons, List.map_nil, List.getD_cons_zero, List.getD_cons_succ, List.eraseIdx_cons_zero, List.eraseIdx_cons_succ, List.getElem_cons_zero, List.getElem_cons_succ, List.take_succ_cons, List.take_zero, List.drop_succ_cons, List.drop_zero, List.cons_append, List.nil_append, List.append_eq] at OC; (try simp only [sizeAlloc] at OB OC); obtain ⟨p0, p1, p2, p3, p4, p5, p6, p7, p8, p9, p10, p11, PM, PE⟩ := two_stores OB (.int .u8 c.verb) (.string ⟨c.arg.toArray⟩) (.slice a2 c.ps.length c2) (.int .u8 d.verb) (.string ⟨d.arg.toArray⟩) (.slice a3 d.ps.length c3); obtain ⟨q0, q1, q2, q3, q4, q5, q6, q7, q8, q9, q10, q11, QM, QE⟩ := two_stores OC (.int .u8 c.verb) (.string ⟨c.arg.toArray⟩) (.slice a2 c.ps.length c2) (.int .u8 d.verb) (.string ⟨d.arg.toArray⟩) (.slice a3 d.ps.length c3); have h1 := KS2.out _ _ PM (by intro x hx; simp [hx]); have h2 := KS2.out _ _ PE (by intro x hx; simp [hx]); have h3 := KS2.out _ _ QM (by intro x hx; simp [hx]); have h4 := KS2.out _ _ QE (by intro x hx; simp [hx]); clear OB OC PM QM)
      | (go_at_call 7; (with_reducible refine (TB.out _ _ O62).mono ?_); rintro e7 w7 ⟨a3, c3, rfl, O8⟩; unfold cmV; have g0 := KS2.out _ _ O8 (by intro x hx; simp [hx]); have g1 := KS2.out _ _ (O8.newBox #[.int .u8 0, .string ⟨#[]⟩, .slice none 0 0] 30) (by intro x hx; simp [hx]); have g2 := KS2.out _ _ ((O8.newBox #[.int .u8 0, .string ⟨#[]⟩, .slice none 0 0] 30).newBox #[.int .u8 0, .string ⟨#[]⟩, .slice none 0 0] 30) (by intro x hx; simp [hx]); have OB := O8.selK 4 [2, 3, 0, 1]; try simp only [List.map_cons, List.map_nil, List.getD_cons_zero, List.getD_cons_succ, List.eraseIdx_cons_zero, List.eraseIdx_cons_succ, List.getElem_cons_zero, List.getElem_cons_succ, List.take_succ_cons, List.take_zero, List.drop_succ_cons, List.drop_zero, List.cons_append, List.nil_append, List.append_eq] at OB; have OC := OB.pick 1; try simp only [List.map_cons, List.map_nil, List.getD_cons_zero, List.getD_cons_succ, List.eraseIdx_cons_zero, List.eraseIdx_cons_succ, List.getElem_cons_zero, List.getElem_cons_succ, List.take_succ_cons, List.take_zero, List.drop_succ_cons, List.drop_zero, List.cons_append, List.nil_append, List.append_eq] at OC; (try simp only [sizeAlloc] at OB OC); obtain ⟨p0, p1, p2, p3, p4, p5, p6, p7, p8, p9, p10, p11, PM, PE⟩ := two_stores OB (.int .u8 c.verb) (.string ⟨c.arg.toArray⟩) (.slice a2 c.ps.length c2) (.int .u8 d.verb) (.string ⟨d.arg.toArray⟩) (.slice a3 d.ps.length c3); obtain ⟨q0, q1, q2, q3, q4, q5, q6, q7, q8, q9, q10, q11, QM, QE⟩ := two_stores OC (.int .u8 c.verb) (.string ⟨c.arg.toArray⟩) (.slice a2 c.ps.length c2) (.int .u8 d.verb) (.string ⟨d.arg.toArray⟩) (.slice a3 d.ps.length c3); have h1 := KS2.out _ _ PM (by intro x hx; simp [hx]); have h2 := KS2.out _ _ PE (by intro x hx; simp [hx]); have h3 := KS2.out _ _ QM (by intro x hx; simp [hx]); have h4 := KS2.out _ _ QE (by intro x hx; simp [hx]); clear OB OC PM QM)
    )
   all_goals
    go_wp2_with fail
    go_meet
    first
      | with_reducible exact ⟨_, _, _, _, _, _, rfl, rfl, FIN.out _ _ _ _ _ _ _ PE⟩
      | with_reducible exact ⟨_, _, _, _, _, _, rfl, rfl, FIN.out _ _ _ _ _ _ _ QE⟩
  case rest =>
  clear FIN OA0 OA1 OA2 e0 e1 e2 e3 e4 e5 TA TB O7 KS2 HLC
  obtain ⟨X, Y, a2, a3, c2, c3, rfl, rfl, O⟩ := hcut
  obtain ⟨sv, ev, hsv, hsl⟩ := showV7_form c
  obtain ⟨gv, gb, hgv⟩ := getV_form (getCm c.ps name)
  obtain ⟨m, hm⟩ : ∃ m, mayCm c = m := ⟨_, rfl⟩
  obtain ⟨sm, hsm⟩ : ∃ b, sameCm c d = b := ⟨_, rfl⟩
  have lc := H1.out.len
  have ld := H2.out.len
  have lp := H1.out.pts
  have lar := H1.out.arg
  have vb := H1.out.vb
  have lv : ∀ p ∈ c.ps, p.2.length ≤ 1000000000 := fun p hp => by have := (H1.out.each p hp).2; omega
  have RC : Hid (∀ w', Own w w' (tellsR A B CB X Y c d a b a1 a2 a3 ca cb c1 c2 c3) → PmR w' (.slice a1 c.ps.length c1) c.ps) := fun w' h => (h.pick 3).pmR
  have RX : Hid (∀ w', Own w w' (tellsR A B CB X Y c d a b a1 a2 a3 ca cb c1 c2 c3) → PmR w' (.slice a2 c.ps.length c2) c.ps) := fun w' h => (h.pick 4).pmR
  have RY : Hid (∀ w', Own w w' (tellsR A B CB X Y c d a b a1 a2 a3 ca cb c1 c2 c3) → PmR w' (.slice a3 d.ps.length c3) d.ps) := fun w' h => (h.pick 5).pmR
  have SH : Hid (∀ w', Own w w' (tellsR A B CB X Y c d a b a1 a2 a3 ca cb c1 c2 c3) → Calls Tryz.prog 8 #[.agg #[.int .u8 c.verb, .string ⟨c.arg.toArray⟩, .slice a1 c.ps.length c1]] w' fun e w'' => e = .returned (.tuple #[.string ⟨sv.toArray⟩, .int .i64 ev]) ∧ Own w w'' (tellsR A B CB X Y c d a b a1 a2 a3 ca cb c1 c2 c3)) := fun w' h => by rw [← hsv]; exact show7_own K h c rfl vb (by omega) (by omega) (by omega) RC.out
  have RS : Hid (∀ w', Own w w' (tellsR A B CB X Y c d a b a1 a2 a3 ca cb c1 c2 c3) → Calls Tryz.prog 9 #[.agg #[.int .u8 c.verb, .string ⟨c.arg.toArray⟩, .slice a2 c.ps.length c2]] w' fun e w'' => e = .returned (.tuple #[.string ⟨sv.toArray⟩, .int .i64 ev]) ∧ Own w w'' (tellsR A B CB X Y c d a b a1 a2 a3 ca cb c1 c2 c3)) := fun w' h => by rw [← hsv]; exact rshow7_own h c rfl vb (by omega) (by omega) (by omega) RX.out
  have GE : Hid (∀ w', Own w w' (tellsR A B CB X Y c d a b a1 a2 a3 ca cb c1 c2 c3) → Calls Tryz.prog 10 #[.agg #[.int .u8 c.verb, .string ⟨c.arg.toArray⟩, .slice a1 c.ps.length c1], .string ⟨name.toArray⟩] w' fun e w'' => e = .returned (.tuple #[.string ⟨gv.toArray⟩, .bool gb]) ∧ Own w w'' (tellsR A B CB X Y c d a b a1 a2 a3 ca cb c1 c2 c3)) := fun w' h => by rw [← hgv]; exact get_own h _ _ rfl (by omega) RC.out name rfl
  have RG : Hid (∀ w', Own w w' (tellsR A B CB X Y c d a b a1 a2 a3 ca cb c1 c2 c3) → Calls Tryz.prog 11 #[.agg #[.int .u8 c.verb, .string ⟨c.arg.toArray⟩, .slice a2 c.ps.length c2], .string ⟨name.toArray⟩] w' fun e w'' => e = .returned (.tuple #[.string ⟨gv.toArray⟩, .bool gb]) ∧ Own w w'' (tellsR A B CB X Y c d a b a1 a2 a3 ca cb c1 c2 c3)) := fun w' h => by rw [← hgv]; exact rget_own h _ _ rfl (by omega) RX.out name rfl
  have MY : Hid (∀ w', Own w w' (tellsR A B CB X Y c d a b a1 a2 a3 ca cb c1 c2 c3) → Calls Tryz.prog 12 #[.agg #[.int .u8 c.verb, .string ⟨c.arg.toArray⟩, .slice a1 c.ps.length c1]] w' fun e w'' => e = .returned (.bool m) ∧ Own w w'' (tellsR A B CB X Y c d a b a1 a2 a3 ca cb c1 c2 c3)) := fun w' h => may7_own K h c rfl vb (by omega) (by omega) lv RC.out hm
  have RM : Hid (∀ w', Own w w' (tellsR A B CB X Y c d a b a1 a2 a3 ca cb c1 c2 c3) → Calls Tryz.prog 13 #[.agg #[.int .u8 c.verb, .string ⟨c.arg.toArray⟩, .slice a2 c.ps.length c2]] w' fun e w'' => e = .returned (.bool m) ∧ Own w w'' (tellsR A B CB X Y c d a b a1 a2 a3 ca cb c1 c2 c3)) := fun w' h => rmay7_own h c rfl vb (by omega) (by omega) lv RX.out hm
  have SA : Hid (∀ w', Own w w' (tellsR A B CB X Y c d a b a1 a2 a3 ca cb c1 c2 c3) → Calls Tryz.prog 14 #[.agg #[.int .u8 c.verb, .string ⟨c.arg.toArray⟩, .slice a c.ps.length ca], .agg #[.int .u8 d.verb, .string ⟨d.arg.toArray⟩, .slice b d.ps.length cb]] w' fun e w'' => e = .returned (.bool sm) ∧ Own w w'' (tellsR A B CB X Y c d a b a1 a2 a3 ca cb c1 c2 c3)) := fun w' h => same7_own h c d (by omega) (fun w2 h2 => H1.out.rd w2 _ h2) (fun w2 h2 => H2.out.rd w2 _ h2) hsm
  have RSA : Hid (∀ w', Own w w' (tellsR A B CB X Y c d a b a1 a2 a3 ca cb c1 c2 c3) → Calls Tryz.prog 15 #[.agg #[.int .u8 c.verb, .string ⟨c.arg.toArray⟩, .slice a2 c.ps.length c2], .agg #[.int .u8 d.verb, .string ⟨d.arg.toArray⟩, .slice a3 d.ps.length c3]] w' fun e w'' => e = .returned (.bool sm) ∧ Own w w'' (tellsR A B CB X Y c d a b a1 a2 a3 ca cb c1 c2 c3)) := fun w' h => rsame7_own h c d (by omega) RX.out RY.out hsm
  have TC : Hid (∀ w', Own w w' (tellsR A B CB X Y c d a b a1 a2 a3 ca cb c1 c2 c3) → Calls Tryz.prog 7 #[.agg #[.int .u8 c.verb, .string ⟨c.arg.toArray⟩, .slice a1 c.ps.length c1]] w' (ToldPost w (tellsR A B CB X Y c d a b a1 a2 a3 ca cb c1 c2 c3) c)) := fun w' h => toldc7_own h c rfl (by omega) RC.out
  have SX : Hid (∀ w' ta tc, Own w w' (rowv 57 2 (.slice ta c.ps.length tc) c.ps.length (flatP c.ps) :: tellsR A B CB X Y c d a b a1 a2 a3 ca cb c1 c2 c3) → Calls Tryz.prog 15 #[.agg #[.int .u8 c.verb, .string ⟨c.arg.toArray⟩, .slice ta c.ps.length tc], .agg #[.int .u8 c.verb, .string ⟨c.arg.toArray⟩, .slice a2 c.ps.length c2]] w' fun e w'' => e = .returned (.bool true) ∧ Own w w'' (rowv 57 2 (.slice ta c.ps.length tc) c.ps.length (flatP c.ps) :: tellsR A B CB X Y c d a b a1 a2 a3 ca cb c1 c2 c3)) := fun w' ta tc h => rsame7_own h c c (by omega) (fun w2 h2 => h2.pmR) (fun w2 h2 => RX.out w2 h2.drop) (sameCm_refl c)
  have CE2 : Hid (∀ w' L, Own w w' (L ++ tellsR A B CB X Y c d a b a1 a2 a3 ca cb c1 c2 c3) → Hid (w'.cell? ⟨CB, 0, none⟩ = some (.int .u8 c.verb) ∧ w'.cell? ⟨CB, 1, none⟩ = some (.string ⟨c.arg.toArray⟩) ∧ w'.cell? ⟨CB, 2, none⟩ = some (.slice a1 c.ps.length c1) ∧ w'.cell? ⟨X, 0, none⟩ = some (.int .u8 c.verb) ∧ w'.cell? ⟨X, 1, none⟩ = some (.string ⟨c.arg.toArray⟩) ∧ w'.cell? ⟨X, 2, none⟩ = some (.slice a2 c.ps.length c2) ∧ w'.cell? ⟨Y, 0, none⟩ = some (.int .u8 d.verb) ∧ w'.cell? ⟨Y, 1, none⟩ = some (.string ⟨d.arg.toArray⟩) ∧ w'.cell? ⟨Y, 2, none⟩ = some (.slice a3 d.ps.length c3) ∧ w'.cell? ⟨A, 0, none⟩ = some (.int .u8 c.verb) ∧ w'.cell? ⟨A, 1, none⟩ = some (.string ⟨c.arg.toArray⟩) ∧ w'.cell? ⟨A, 2, none⟩ = some (.slice a c.ps.length ca) ∧ w'.cell? ⟨B, 0, none⟩ = some (.int .u8 d.verb) ∧ w'.cell? ⟨B, 1, none⟩ = some (.string ⟨d.arg.toArray⟩) ∧ w'.cell? ⟨B, 2, none⟩ = some (.slice b d.ps.length cb))) := fun w' L h0 => by
    have h : Own w w' (tellsR A B CB X Y c d a b a1 a2 a3 ca cb c1 c2 c3) := h0.dropN
    exact ⟨h.cell 0, h.cell 1, h.cell 2, (h.pick 1).cell 0, (h.pick 1).cell 1, (h.pick 1).cell 2, (h.pick 2).cell 0, (h.pick 2).cell 1, (h.pick 2).cell 2, (h.pick 6).cell 0, (h.pick 6).cell 1, (h.pick 6).cell 2, (h.pick 7).cell 0, (h.pick 7).cell 1, (h.pick 7).cell 2⟩
  clear hsv hgv hm hsm lc ld lp lar vb lv RC RX RY CE H1 H2
  generalize tellsR A B CB X Y c d a b a1 a2 a3 ca cb c1 c2 c3 = LR at O SH RS GE RG MY RM SA RSA TC SX CE2
  have k0 := CE2.out _ [] O
  obtain ⟨x0, x1, x2, -⟩ := k0.out
  go_wp2_with fail
  refine (SH.out _ O).mono ?_
  clear O x0 x1 x2 SH k0
  rintro e w4 ⟨rfl, O⟩
  have k0 := CE2.out _ [] O
  obtain ⟨-, -, -, x0, x1, x2, -⟩ := k0.out
  go_wp2_with fail
  refine (RS.out _ O).mono ?_
  clear O x0 x1 x2 RS k0
  rintro e w5 ⟨rfl, O⟩
  have k0 := CE2.out _ [] O
  obtain ⟨x0, x1, x2, -⟩ := k0.out
  go_wp2_with fail
  refine (GE.out _ O).mono ?_
  clear O x0 x1 x2 GE k0
  rintro e w6 ⟨rfl, O⟩
  have k0 := CE2.out _ [] O
  obtain ⟨-, -, -, x0, x1, x2, -⟩ := k0.out
  go_wp2_with fail
  refine (RG.out _ O).mono ?_
  clear O x0 x1 x2 RG k0
  rintro e w7 ⟨rfl, O⟩
  go_upto_region 9 with fail
  have OD := O.drew
  have k0 := CE2.out _ [] O
  have k1 := CE2.out _ [] OD
  clear O
  go_wp2_with fail
  go_region_held3 (fun w' => w'.cell? ⟨CB, 0, none⟩ = some (.int .u8 c.verb) ∧ w'.cell? ⟨CB, 1, none⟩ = some (.string ⟨c.arg.toArray⟩) ∧ w'.cell? ⟨CB, 2, none⟩ = some (.slice a1 c.ps.length c1) ∧ w'.cell? ⟨X, 0, none⟩ = some (.int .u8 c.verb) ∧ w'.cell? ⟨X, 1, none⟩ = some (.string ⟨c.arg.toArray⟩) ∧ w'.cell? ⟨X, 2, none⟩ = some (.slice a2 c.ps.length c2) ∧ w'.cell? ⟨Y, 0, none⟩ = some (.int .u8 d.verb) ∧ w'.cell? ⟨Y, 1, none⟩ = some (.string ⟨d.arg.toArray⟩) ∧ w'.cell? ⟨Y, 2, none⟩ = some (.slice a3 d.ps.length c3) ∧ w'.cell? ⟨A, 0, none⟩ = some (.int .u8 c.verb) ∧ w'.cell? ⟨A, 1, none⟩ = some (.string ⟨c.arg.toArray⟩) ∧ w'.cell? ⟨A, 2, none⟩ = some (.slice a c.ps.length ca) ∧ w'.cell? ⟨B, 0, none⟩ = some (.int .u8 d.verb) ∧ w'.cell? ⟨B, 1, none⟩ = some (.string ⟨d.arg.toArray⟩) ∧ w'.cell? ⟨B, 2, none⟩ = some (.slice b d.ps.length cb))
    (first | with_reducible exact k0.out | with_reducible exact k1.out | with_reducible exact k2.out | with_reducible exact k3.out | with_reducible exact k4.out | with_reducible exact k5.out)
    (first
      | (go_at_call 12; (with_reducible refine (MY.out _ OD).mono ?_); rintro e1 w8 ⟨rfl, O1⟩; have k2 := CE2.out _ [] O1)
      | (go_at_call 13; (with_reducible refine (RM.out _ O1).mono ?_); rintro e1 w9 ⟨rfl, O2⟩; have k3 := CE2.out _ [] O2)
      | (go_at_call 14; (with_reducible refine (SA.out _ O2).mono ?_); rintro e1 w10 ⟨rfl, O3⟩; have k4 := CE2.out _ [] O3)
      | (go_at_call 15; (with_reducible refine (RSA.out _ O3).mono ?_); rintro e1 w11 ⟨rfl, O4⟩; have k5 := CE2.out _ [] O4))
  clear OD k0 k1 k2 k3 k4 k5 O1 O2 O3 MY RM SA RSA
  have PA := Lib.hid (fun (w' : World) (L : List Piece) (h : Own w w' L) (l : List UInt8) (hl : l.length ≤ 5000) (p : Cm) (er : Int) (hr : resP l = (p, er)) => parse7_uni K h l (by omega) hr)
  have RP := Lib.hid (fun (w' : World) (L : List Piece) (h : Own w w' L) (l : List UInt8) (hl : l.length ≤ 5000) (p : Cm) (er : Int) (hr : resP l = (p, er)) => rparse7_uni h l (by omega) hr)
  unfold cmV at PA RP
  have O := O4
  clear O4
  go_wp2_with fail
  go_loopw [20] (fun rv wr => ∃ k : Nat, k ≤ 2 ∧ rv = .int .i64 k ∧ Own w wr LR) (fun rv _ => 2 - (intOf rv).toNat)
  case atStart => exact ⟨0, by omega, rfl, O⟩
  case round =>
    clear O
    obtain ⟨k, hk, rfl, O⟩ := hrel
    by_cases hk2 : k < 2
    · have hb1 : (k : Int) < 2 := by omega
      have O1 := O.newBox #[.string ⟨line.toArray⟩, .string ⟨sv.toArray⟩] 9
      obtain ⟨G, hG⟩ : ∃ b, b = wr.heap.size := ⟨_, rfl⟩
      rw [← hG] at O1
      clear O
      go_upto_region 14 with fail
      go_wp2_with fail
      rw [← hG]
      clear hG
      generalize (wr.alloc (.cells #[.string ⟨line.toArray⟩, .string ⟨sv.toArray⟩] 9)) = W5 at O1 ⊢
      go_loopw [113] (fun iv wx => ∃ i : Nat, i ≤ 2 ∧ iv = .int .i64 i ∧ Own w wx (box G #[.string ⟨line.toArray⟩, .string ⟨sv.toArray⟩] 9 :: LR)) (fun iv _ => 2 - (intOf iv).toNat)
      case atStart => exact ⟨0, by omega, rfl, O1⟩
      case round =>
        clear O1
        obtain ⟨i, hi, rfl, O⟩ := hrel
        by_cases hi2 : i < 2
        · obtain ⟨l, hl, hcl⟩ : ∃ l : List UInt8, l.length ≤ 5000 ∧ (#[.string ⟨line.toArray⟩, .string ⟨sv.toArray⟩] : Array Value)[i]? = some (.string ⟨l.toArray⟩) := by
            match i, hi2 with
            | 0, _ => exact ⟨line, hll, rfl⟩
            | 1, _ => exact ⟨sv, by omega, rfl⟩
          have hc := (O.cell i).trans hcl
          have hb2 : (i : Int) < 2 := by omega
          obtain ⟨p, er, hr⟩ : ∃ p er, resP l = (p, er) := ⟨_, _, rfl⟩
          have hpl : p.ps.length ≤ 510 := by have := resP_len l; rw [hr] at this; exact this
          have P1 := PA.out _ _ O l hl p er hr
          have R1 := Lib.hid (fun w' L h => RP.out w' L h l hl p er hr)
          clear hcl hr hl
          go_wp2_with fail
          refine P1.mono ?_
          clear P1 O hc
          rintro e w5 ⟨a4, c4, rfl, O⟩
          obtain ⟨PB, hPB⟩ : ∃ b, b = w5.heap.size := ⟨_, rfl⟩
          have O1 := O.newBox #[.int .u8 p.verb, .string ⟨p.arg.toArray⟩, .slice a4 p.ps.length c4] 24
          rw [← hPB] at O1
          clear O
          go_upto_region 18 with fail
          rw [← hPB]
          clear hPB
          generalize (w5.alloc (.cells #[.int .u8 p.verb, .string ⟨p.arg.toArray⟩, .slice a4 p.ps.length c4] 24)) = W6 at O1 ⊢
          go_wp2_with fail
          refine (R1.out _ _ O1).mono ?_
          clear R1 O1
          rintro e w6 ⟨a5, c5, rfl, O⟩
          obtain ⟨QB, hQB⟩ : ∃ b, b = w6.heap.size := ⟨_, rfl⟩
          have O1 := O.newBox #[.int .u8 p.verb, .string ⟨p.arg.toArray⟩, .slice a5 p.ps.length c5] 30
          rw [← hQB] at O1
          clear O
          go_upto_region 19 with fail
          rw [← hQB]
          clear hQB
          generalize (w6.alloc (.cells #[.int .u8 p.verb, .string ⟨p.arg.toArray⟩, .slice a5 p.ps.length c5] 30)) = W7 at O1 ⊢
          have OD := O1.drew
          have TP := Lib.hid (fun (w' : World) (h : Own w w' (box QB #[.int .u8 p.verb, .string ⟨p.arg.toArray⟩, .slice a5 p.ps.length c5] 30 :: rowv 57 2 (.slice a5 p.ps.length c5) p.ps.length (flatP p.ps) :: box PB #[.int .u8 p.verb, .string ⟨p.arg.toArray⟩, .slice a4 p.ps.length c4] 24 :: rowv 48 2 (.slice a4 p.ps.length c4) p.ps.length (flatP p.ps) :: box G #[.string ⟨line.toArray⟩, .string ⟨sv.toArray⟩] 9 :: LR)) => toldc7_own h p (a := a4) (N := p.ps.length) (cap := c4) rfl (by omega) (fun w2 h2 => (h2.pick 3).pmR))
          have SP := Lib.hid (fun (w' : World) (ta : Option Addr) (tc : Nat) (h : Own w w' (rowv 57 2 (.slice ta p.ps.length tc) p.ps.length (flatP p.ps) :: box QB #[.int .u8 p.verb, .string ⟨p.arg.toArray⟩, .slice a5 p.ps.length c5] 30 :: rowv 57 2 (.slice a5 p.ps.length c5) p.ps.length (flatP p.ps) :: box PB #[.int .u8 p.verb, .string ⟨p.arg.toArray⟩, .slice a4 p.ps.length c4] 24 :: rowv 48 2 (.slice a4 p.ps.length c4) p.ps.length (flatP p.ps) :: box G #[.string ⟨line.toArray⟩, .string ⟨sv.toArray⟩] 9 :: LR)) => rsame7_own h p p (ac := ta) (ad := a5) (n := p.ps.length) (m := p.ps.length) (cc := tc) (cd := c5) (by omega) (fun w2 h2 => h2.pmR) (fun w2 h2 => (h2.pick 2).pmR) (sameCm_refl p))
          unfold cmV at TP SP
          have CP : Hid (∀ w', Own w w' (box QB #[.int .u8 p.verb, .string ⟨p.arg.toArray⟩, .slice a5 p.ps.length c5] 30 :: rowv 57 2 (.slice a5 p.ps.length c5) p.ps.length (flatP p.ps) :: box PB #[.int .u8 p.verb, .string ⟨p.arg.toArray⟩, .slice a4 p.ps.length c4] 24 :: rowv 48 2 (.slice a4 p.ps.length c4) p.ps.length (flatP p.ps) :: box G #[.string ⟨line.toArray⟩, .string ⟨sv.toArray⟩] 9 :: LR) → Hid (w'.cell? ⟨PB, 0, none⟩ = some (.int .u8 p.verb) ∧ w'.cell? ⟨PB, 1, none⟩ = some (.string ⟨p.arg.toArray⟩) ∧ w'.cell? ⟨PB, 2, none⟩ = some (.slice a4 p.ps.length c4) ∧ w'.cell? ⟨QB, 0, none⟩ = some (.int .u8 p.verb) ∧ w'.cell? ⟨QB, 1, none⟩ = some (.string ⟨p.arg.toArray⟩) ∧ w'.cell? ⟨QB, 2, none⟩ = some (.slice a5 p.ps.length c5))) := fun w' h => ⟨(h.pick 2).cell 0, (h.pick 2).cell 1, (h.pick 2).cell 2, h.cell 0, h.cell 1, h.cell 2⟩
          have k0 := CP.out _ O1
          have k1 := CP.out _ OD
          clear O1
          go_wp2_with fail
          go_region_held3 (fun w' => w'.cell? ⟨PB, 0, none⟩ = some (.int .u8 p.verb) ∧ w'.cell? ⟨PB, 1, none⟩ = some (.string ⟨p.arg.toArray⟩) ∧ w'.cell? ⟨PB, 2, none⟩ = some (.slice a4 p.ps.length c4) ∧ w'.cell? ⟨QB, 0, none⟩ = some (.int .u8 p.verb) ∧ w'.cell? ⟨QB, 1, none⟩ = some (.string ⟨p.arg.toArray⟩) ∧ w'.cell? ⟨QB, 2, none⟩ = some (.slice a5 p.ps.length c5))
            (first | with_reducible exact k0.out | with_reducible exact k1.out | with_reducible exact k2.out | with_reducible exact k3.out)
            (first
              | (go_at_call 7; (with_reducible refine (TP.out _ OD).mono ?_); rintro e1 w8 ⟨ta, tc, rfl, O2⟩; unfold cmV; have k2 := CP.out _ O2.drop)
              | (go_at_call 15; (with_reducible refine (SP.out _ _ _ O2).mono ?_); rintro e1 w9 ⟨rfl, O3⟩; have k3 := CP.out _ O3.drop))
          clear OD k0 k1 k2 k3 O2 CP TP SP
          have O4 := O3.selK 6 [4, 3, 5]
          try simp only [List.map_cons, List.map_nil, List.getD_cons_zero, List.getD_cons_succ, List.eraseIdx_cons_zero, List.eraseIdx_cons_succ, List.getElem_cons_zero, List.getElem_cons_succ, List.take_succ_cons, List.take_zero, List.drop_succ_cons, List.drop_zero, List.cons_append, List.nil_append, List.append_eq] at O4
          clear O3
          obtain ⟨M, hM⟩ : ∃ M, M = p.ps.length := ⟨_, rfl⟩
          have HQ0 : Hid (p.ps.length = M) := hM.symm
          rw [← hM] at O4 hpl
          clear hM
          go_wp2_with fail
          go_loopw [27] (fun jv wy => ∃ (j : Nat) (qs : List Pm), j ≤ M ∧ jv = .int .i64 j ∧ Hid (qs.length = M) ∧ Own w wy (rowv 48 2 (.slice a4 M c4) M (flatP qs) :: box PB #[.int .u8 p.verb, .string ⟨p.arg.toArray⟩, .slice a4 M c4] 24 :: box G #[.string ⟨line.toArray⟩, .string ⟨sv.toArray⟩] 9 :: LR)) (fun jv _ => M - (intOf jv).toNat)
          case atStart => exact ⟨0, p.ps, by omega, rfl, HQ0, O4⟩
          case round =>
            clear O4 HQ0
            obtain ⟨j, qs, hj, rfl, HQ, O⟩ := hrel
            have n2 := (O.pick 1).cell 2
            by_cases hjM : j < M
            · have hb3 : (j : Int) < (M : Int) := by omega
              have hq : j < qs.length := by rw [HQ.out]; exact hjM
              obtain ⟨-, g, e4, d0, f0⟩ := O.rowvAt (j * 2) (by rw [flatP_len]; omega)
              subst e4
              have ST := O.rowvStore (j * 2) (.string ⟨([83, 80, 79, 73, 76, 84] : List UInt8).toArray⟩)
              rw [flatP_set hq] at ST
              have HQ2 : Hid ((qs.set j ([83, 80, 79, 73, 76, 84], qs[j].2)).length = M) := by unfold Hid; rw [List.length_set]; exact HQ.out
              generalize (qs.set j ([83, 80, 79, 73, 76, 84], qs[j].2)) = qs2 at ST HQ2
              generalize (flatP qs)[j * 2]'_ = old at d0
              clear O HQ hq
              go_wp2
              go_roundw
              case rel => exact ⟨j + 1, qs2, by omega, by go_num, HQ2, ST⟩
              case measure => simp [intOf]; omega
            · have hb3 : ¬ (j : Int) < (M : Int) := by omega
              have O6 := O.drop.drop
              clear O HQ
              go_wp2
              go_roundw
              case rel => exact ⟨i + 1, by omega, by go_num, O6⟩
              case measure => simp [intOf]; omega
        · have hb2 : ¬ (i : Int) < 2 := by omega
          have O6 := O.drop
          clear O
          go_wp2
          go_roundw
          case rel => exact ⟨k + 1, by omega, by go_num, O6⟩
          case measure => simp [intOf]; omega
    · have hb1 : ¬ (k : Int) < 2 := by omega
      have OD := O.drew
      have k0 := CE2.out _ [] O
      have k1 := CE2.out _ [] OD
      clear O
      go_wp2_with fail
      go_region_held3 (fun w' => w'.cell? ⟨CB, 0, none⟩ = some (.int .u8 c.verb) ∧ w'.cell? ⟨CB, 1, none⟩ = some (.string ⟨c.arg.toArray⟩) ∧ w'.cell? ⟨CB, 2, none⟩ = some (.slice a1 c.ps.length c1) ∧ w'.cell? ⟨X, 0, none⟩ = some (.int .u8 c.verb) ∧ w'.cell? ⟨X, 1, none⟩ = some (.string ⟨c.arg.toArray⟩) ∧ w'.cell? ⟨X, 2, none⟩ = some (.slice a2 c.ps.length c2) ∧ w'.cell? ⟨Y, 0, none⟩ = some (.int .u8 d.verb) ∧ w'.cell? ⟨Y, 1, none⟩ = some (.string ⟨d.arg.toArray⟩) ∧ w'.cell? ⟨Y, 2, none⟩ = some (.slice a3 d.ps.length c3) ∧ w'.cell? ⟨A, 0, none⟩ = some (.int .u8 c.verb) ∧ w'.cell? ⟨A, 1, none⟩ = some (.string ⟨c.arg.toArray⟩) ∧ w'.cell? ⟨A, 2, none⟩ = some (.slice a c.ps.length ca) ∧ w'.cell? ⟨B, 0, none⟩ = some (.int .u8 d.verb) ∧ w'.cell? ⟨B, 1, none⟩ = some (.string ⟨d.arg.toArray⟩) ∧ w'.cell? ⟨B, 2, none⟩ = some (.slice b d.ps.length cb))
        (first | with_reducible exact k0.out | with_reducible exact k1.out | with_reducible exact k2.out | with_reducible exact k3.out | with_reducible exact k4.out)
        (first
          | (go_at_call 7; (with_reducible refine (TC.out _ OD).mono ?_); rintro e1 w8 ⟨ta, tc, rfl, O2⟩; unfold cmV; have k2 := CE2.out _ [_] O2)
          | (go_at_call 15; (with_reducible refine (SX.out _ _ _ O2).mono ?_); rintro e1 w9 ⟨rfl, O3⟩; have k3 := CE2.out _ [_] O3)
          | (go_at_call 5; (with_reducible refine (AW.out _ _ O3).mono ?_); rintro e1 w10 ⟨rfl, O5⟩; have k4 := CE2.out _ [_] O5))
      clear OD k0 k1 k2 k3 k4 O2 O3 TC SX
      go_wp2
      go_ret
      exact ⟨rfl, O5.below⟩
end Go.Proofs.YtehkdbgoeakgbaaGreatDoor
