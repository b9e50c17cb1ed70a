/- CmdBack: the walk. -/
import Derived.Test.YtehkdbgoeakgbaaDoorCmZb
import Derived.Test.YtehkdbgoeakgbaaDoorCmKK
namespace Go.Proofs.YtehkdbgoeakgbaaDoor
set_option linter.all false
open Go.RowKit Go.Shelf

theorem parse_two {w0 w' : World} {L : List Piece} {s : List UInt8} {e : Ending} (h : ParsePost w0 L s e w') :
    (∃ (c : Cm) (a : Option Addr) (cap : Nat), parseCm s = some c ∧ s.length ≤ 510 ∧ e = .returned (.tuple #[.agg #[.int .u8 c.verb, .string ⟨c.arg.toArray⟩, .slice a c.ps.length cap], .int .i64 0]) ∧ Own w0 w' (rowv 58 2 (.slice a c.ps.length cap) c.ps.length (flatP c.ps) :: L)) ∨
    ∃ e0 : Int, (e0 = 4 ∨ e0 = 40) ∧ e = .returned (.tuple #[.agg #[.int .u8 0, .string ⟨#[]⟩, .slice none 0 0], .int .i64 e0]) ∧ Own w0 w' L := by
  unfold ParsePost at h
  cases hp : parseCm s with
  | some c =>
    rw [hp] at h
    simp only at h
    split at h
    · rename_i h5
      obtain ⟨a, cap, h1, h2⟩ := h
      exact .inl ⟨c, a, cap, rfl, h5, h1, h2⟩
    · exact .inr ⟨40, .inr rfl, h.1, h.2⟩
  | none =>
    rw [hp] at h
    simp only at h
    refine .inr ⟨if s.length ≤ 510 then 4 else 40, ?_, h.1, h.2⟩
    split
    · exact .inl rfl
    · exact .inr rfl
theorem line_fit {c : Cm} (h : (lineCm c).length ≤ 510) : c.arg.length ≤ 510 ∧ (c.ps.flatMap ptL).length ≤ 510 ∧ c.ps.length ≤ 510 ∧ ∀ p ∈ c.ps, p.2.length ≤ 510 := by
  have h1 : (lineCm c).length = _ := rfl
  unfold lineCm at h
  simp only [List.length_append] at h
  have hx : c.arg.length ≤ (if c.verb = 3 ∨ c.verb = 4 then 60 :: (c.arg ++ [62]) else c.arg).length := by split <;> simp <;> omega
  have hn : ∀ l : List Pm, l.length ≤ (l.flatMap ptL).length := by
    intro l
    induction l with
    | nil => simp
    | cons p l ih => simp only [List.flatMap_cons, List.length_append, List.length_cons]; have : 1 ≤ (ptL p).length := by simp [ptL]
                     omega
  have := hn c.ps
  refine ⟨by omega, by omega, by omega, fun p hp => ?_⟩
  have h2 := pt_mem hp
  have h3 : p.2.length ≤ (ptL p).length := by unfold ptL; split <;> simp_all; omega
  omega
theorem show_two (c : Cm) : ∃ (s : List UInt8) (e : Int), showV7 c = .tuple #[.string ⟨s.toArray⟩, .int .i64 e] ∧ ((mayCm c = true ∧ s.length ≤ 510 ∧ s = lineCm c ∧ e = 0) ∨ (e = 4 ∨ e = 40)) := by
  rcases show_three c with ⟨h1, h2, h3⟩ | ⟨e, h1, h2⟩
  · exact ⟨_, _, h3, .inl ⟨h1, h2, rfl, rfl⟩⟩
  · exact ⟨[], e, h2, .inr h1⟩
abbrev lensV : Array Value := #[.int .i64 0, .int .i64 5, .int .i64 8, .int .i64 10, .int .i64 8, .int .i64 4, .int .i64 4]
theorem lens_at : ∀ v : Nat, v ≤ 6 → lensV[v]? = some (.int .i64 ((wordL v).length : Int)) := by
  intro v h
  match v, h with
  | 0, _ | 1, _ | 2, _ | 3, _ | 4, _ | 5, _ | 6, _ => rfl
abbrev cBox (A : Nat) (c : Cm) (a : Option Addr) (n ca : Nat) : Piece := box A #[.int .u8 c.verb, .string ⟨c.arg.toArray⟩, .slice a n ca] 27
abbrev cRow (c : Cm) (a : Option Addr) (n ca : Nat) : Piece := rowv 58 2 (.slice a n ca) n (flatP c.ps)
theorem box_cells {w0 w' : World} {A : Nat} {c : Cm} {a : Option Addr} {n ca : Nat} {L : List Piece} (h : Own w0 w' (cBox A c a n ca :: L)) : w'.cell? ⟨A, 0, none⟩ = some (.int .u8 c.verb) ∧ w'.cell? ⟨A, 1, none⟩ = some (.string ⟨c.arg.toArray⟩) ∧ w'.cell? ⟨A, 2, none⟩ = some (.slice a n ca) := ⟨h.cell 0, h.cell 1, h.cell 2⟩
set_option maxRecDepth 100000 in
set_option maxHeartbeats 8000000 in
theorem cmdBack_walk {w : World} (KK : KT w) (v0 : Value) (o0 : ∃ (c : Cm) (a : Option Addr) (cap : Nat), CmdIn w v0 c a cap) (line : List UInt8) (hline : line.length ≤ 140737488351232) (wh : Int) (hwh : (Lit.int .u64 wh).wf = true) :
    Calls Tryd.prog 5 #[v0, .string ⟨line.toArray⟩, .int .u64 wh] w fun e w' => e = .returned (.bool true) ∧ Below w.heap.size w w' := by
  clear hwh
  obtain ⟨K, T⟩ := KK
  obtain ⟨c, a, ca, C⟩ := o0
  obtain rfl := C.val
  have CLO := Lib.hid (fun (w' : World) (L : List Piece) (O : Own w w' L) => C.long O)
  have AW := Lib.hid (fun (w' : World) (L' : List Piece) (h : Own w w' L') => awake7_own K T h)
  have O := (Own.start w).newBox #[.int .u8 c.verb, .string ⟨c.arg.toArray⟩, .slice a c.ps.length ca] 27
  obtain ⟨A, hA⟩ : ∃ b, b = w.heap.size := ⟨_, rfl⟩
  rw [← hA] at O
  clear C
  unfold cmV at CLO ⊢
  go_enter Tryd.func5, Tryd.ntmps5
  go_upto_region 1 with fail
  rw [← hA]
  clear hA
  generalize (w.alloc (.cells #[.int .u8 c.verb, .string ⟨c.arg.toArray⟩, .slice a c.ps.length ca] 27)) = W at O ⊢
  obtain ⟨N, hN⟩ : ∃ n, n = c.ps.length := ⟨_, rfl⟩
  have HN := Lib.hid hN
  rw [← hN] at O CLO ⊢
  clear hN
  obtain ⟨p0, p1, p2⟩ := box_cells O
  go_wp2_with fail
  refine (CLO.out _ _ O).mono ?_
  clear O p0 p1 p2 CLO
  rintro e w1 ⟨r1, rfl, O, S1⟩
  cases r1
  rotate_left
  · clear S1
    go_wp2_with fail
    refine (AW.out _ _ O).mono ?_
    clear O AW
    rintro e w2 ⟨rfl, O⟩
    go_wp2
    go_ret
    exact ⟨rfl, O.below⟩
  have H1 := Lib.hid (S1 rfl)
  clear S1
  by_cases h5 : 5000 < line.length
  · have h5' : (5000 : Int) < (line.length : Int) := by omega
    clear H1 h5
    go_wp2_with fail
    refine (AW.out _ _ O).mono ?_
    clear O AW
    rintro e w2 ⟨rfl, O⟩
    go_wp2
    go_ret
    exact ⟨rfl, O.below⟩
  have h5' : ¬ (5000 : Int) < (line.length : Int) := by omega
  have HL5 : Hid (line.length ≤ 5000) := by unfold Hid; omega
  clear hline
  go_wp2_with fail
  refine (AW.out _ _ O).mono ?_
  clear O AW
  rintro e w3 ⟨rfl, O⟩
  have SH := show7_own K O c HN.out H1.out.vb (by have := H1.out.arg; omega) (by have := H1.out.len; have := HN.out; omega) (by have := H1.out.pts; omega) (fun w2 h2 => by rw [HN.out]; exact H1.out.rd w2 _ h2)
  unfold cmV at SH
  obtain ⟨s, e1, q1, HS⟩ := show_two c
  rw [q1] at SH
  clear q1
  have HS := Lib.hid HS
  obtain ⟨p0, p1, p2⟩ := box_cells O
  go_wp2_with fail
  refine SH.mono ?_
  clear SH O p0 p1 p2
  rintro e w4 ⟨rfl, O⟩
  go_upto_if 38 with fail
  go_cut [] (fun wx => Own w wx [])
  case first =>
    rcases HS.out with ⟨m1, l1, hs, rfl⟩ | he1
    rotate_left
    · have n1 : (e1 == 0) = false := by rcases he1 with rfl | rfl <;> rfl
      clear HS he1
      go_wp2_with fail
      go_meet
      exact O.drop
    · clear HS h5 h5'
      have HPS := Lib.hid (parse_line m1)
      have HTP := Lib.hid (fun t h => turned_parse (t := t) m1 h)
      rw [← hs] at HPS HTP
      have hv := (may_verb m1).2
      have hv7 : (c.verb : Int) < 7 := by omega
      have HL := Lib.hid l1
      have HSM := Lib.hid (fun (w' : World) (L : List Piece) (h : Own w w' L) (b : Option Addr) (cb : Nat) (RC : ∀ w2, Own w w2 L → PmR w2 (.slice b N cb) c.ps) => same7_own h c c (ac := b) (cc := cb) (ad := a) (cd := ca) (n := N) (m := N) (by have := H1.out.len; have := HN.out; omega) RC (fun w2 h2 => by rw [HN.out]; exact H1.out.rd w2 _ h2) (sameCm_refl c))
      unfold cmV at HSM
      clear m1 H1 hs
      obtain ⟨LB, hLB⟩ : ∃ b, b = w4.heap.size := ⟨_, rfl⟩
      replace O := O.newBox lensV 3
      rw [← hLB] at O
      go_upto_region 6 with fail
      rw [← hLB]
      clear hLB
      have O2 : Own w _ [box LB lensV 3, cBox A c a N ca] := O
      clear O
      generalize (w4.alloc (.cells #[.int .i64 0, .int .i64 5, .int .i64 8, .int .i64 10, .int .i64 8, .int .i64 4, .int .i64 4] 3)) = W4 at O2 ⊢
      go_wp2_with fail
      refine (parse_some K O2 s HL.out (v := c.verb) (x := c.arg) (ps := c.ps) HPS.out HN.out).mono ?_
      clear O2
      rintro e w5 ⟨a1, c1, rfl, O⟩
      obtain ⟨X, hX⟩ : ∃ b, b = w5.heap.size := ⟨_, rfl⟩
      replace O := O.newBox #[.int .u8 c.verb, .string ⟨c.arg.toArray⟩, .slice a1 N c1] 27
      rw [← hX] at O
      go_upto_region 7 with fail
      rw [← hX]
      clear hX
      have O2 : Own w _ [cBox X c a1 N c1, cRow c a1 N c1, box LB lensV 3, cBox A c a N ca] := O
      clear O
      generalize (w5.alloc (.cells #[.int .u8 c.verb, .string ⟨c.arg.toArray⟩, .slice a1 N c1] 27)) = W5 at O2 ⊢
      obtain ⟨p0, -, -⟩ := box_cells (O2.pick 3)
      have cw : W5.cell? ⟨LB, c.verb, none⟩ = some (.int .i64 ((wordL c.verb).length : Int)) := by
        rw [(O2.pick 2).cell c.verb]; exact lens_at _ hv
      go_wp2_with fail
      refine (other7_own O2 s (by omega) wh (wordL c.verb).length).mono ?_
      clear O2 cw p0
      rintro e w6 ⟨t, rfl, O2, HT⟩
      have hp := HTP.out t HT
      have ht := HT.len
      clear HT HTP
      go_wp2_with fail
      refine (parse_some K O2 t (by omega) (v := c.verb) (x := c.arg) (ps := c.ps) hp HN.out).mono ?_
      clear O2 hp ht
      rintro e w7 ⟨a2, c2, rfl, O⟩
      obtain ⟨Y, hY⟩ : ∃ b, b = w7.heap.size := ⟨_, rfl⟩
      replace O := O.newBox #[.int .u8 c.verb, .string ⟨c.arg.toArray⟩, .slice a2 N c2] 27
      rw [← hY] at O
      go_upto_region 8 with fail
      rw [← hY]
      clear hY
      have O2 : Own w _ [cBox Y c a2 N c2, cRow c a2 N c2, cBox X c a1 N c1, cRow c a1 N c1, box LB lensV 3, cBox A c a N ca] := O
      clear O
      generalize (w7.alloc (.cells #[.int .u8 c.verb, .string ⟨c.arg.toArray⟩, .slice a2 N c2] 27)) = W7 at O2 ⊢
      obtain ⟨p0, p1, p2⟩ := box_cells (O2.pick 5)
      obtain ⟨x0, x1, x2⟩ := box_cells (O2.pick 2)
      go_wp2_with fail
      refine (HSM.out _ _ O2 _ _ (fun w2 h2 => (h2.pick 3).pmR)).mono ?_
      clear O2 p0 p1 p2 x0 x1 x2
      rintro e w8 ⟨rfl, O2⟩
      obtain ⟨p0, p1, p2⟩ := box_cells (O2.pick 5)
      obtain ⟨x0, x1, x2⟩ := box_cells O2
      go_wp2_with fail
      refine (HSM.out _ _ O2 _ _ (fun w2 h2 => (h2.pick 1).pmR)).mono ?_
      clear O2 p0 p1 p2 x0 x1 x2 HSM
      rintro e w9 ⟨rfl, O2⟩
      go_wp2_with fail
      go_meet
      exact O2.drop.drop.drop.drop.drop.drop
  case rest =>
  clear O HS
  have O := hcut
  clear hcut
  go_wp2_with fail
  refine (parse7_own K O line (by have := HL5.out; omega)).mono ?_
  clear O
  rintro e w5 hp
  rcases parse_two hp with ⟨d, ad, cd, hd, hl, rfl, O⟩ | ⟨e0, he0, rfl, O⟩
  rotate_left
  · have n0 : (e0 == 0) = false := by rcases he0 with rfl | rfl <;> rfl
    have n1 : (e0 != 0) = true := by rcases he0 with rfl | rfl <;> rfl
    have O2 := O.newBox #[.int .u8 0, .string ⟨#[]⟩, .slice none 0 0] 27
    clear hp he0 O
    go_wp2
    go_ret
    exact ⟨rfl, O2.below⟩
  clear hp
  obtain ⟨md, ud, ld⟩ := parse_back hd
  have hl2 : (lineCm d).length ≤ 510 := by omega
  obtain ⟨f1, f2, f3, f4⟩ := line_fit hl2
  have hv := (may_verb md).2
  obtain ⟨M, hM⟩ : ∃ n, n = d.ps.length := ⟨_, rfl⟩
  have HM := Lib.hid hM
  rw [← hM] at O f3 ⊢
  clear hM
  have HSH := Lib.hid (fun (w' : World) (L : List Piece) (h : Own w w' L) (b : Option Addr) (cb : Nat) (RC : ∀ w2, Own w w2 L → PmR w2 (.slice b M cb) d.ps) => show7_own K h d (a := b) (cap := cb) (n := M) HM.out (by omega) (by omega) (by omega) (by omega) RC)
  have HMY := Lib.hid (fun (w' : World) (L : List Piece) (h : Own w w' L) (b : Option Addr) (cb : Nat) (RC : ∀ w2, Own w w2 L → PmR w2 (.slice b M cb) d.ps) => may7_own K h d (a := b) (cap := cb) (n := M) HM.out (by omega) (by omega) (by omega) (fun p hp => by have := f4 p hp; omega) RC md)
  have HSA := Lib.hid (fun (w' : World) (L : List Piece) (h : Own w w' L) (b b2 : Option Addr) (cb cb2 : Nat) (RC : ∀ w2, Own w w2 L → PmR w2 (.slice b M cb) d.ps) (RC2 : ∀ w2, Own w w2 L → PmR w2 (.slice b2 M cb2) d.ps) => same7_own h d d (ac := b) (ad := b2) (cc := cb) (cd := cb2) (n := M) (m := M) (by omega) RC RC2 (sameCm_refl d))
  have HGR := Lib.hid (fun (w' : World) (L : List Piece) (h : Own w w' L) (x : List UInt8) (hx : x.length ≤ 1000) => rGreat_own h x (by omega))
  rw [show7_yes md hl2] at HSH
  unfold cmV at HSH HMY HSA
  have HPD := Lib.hid (parse_line md)
  have HLD := Lib.hid hl2
  have HLL := Lib.hid hl
  have HUD := Lib.hid ud
  clear hd md ud ld hl2 f1 f2 f3 f4 hv hl
  generalize lineCm d = t at HSH HPD HLD HUD
  obtain ⟨X, hX⟩ : ∃ b, b = w5.heap.size := ⟨_, rfl⟩
  replace O := O.newBox #[.int .u8 d.verb, .string ⟨d.arg.toArray⟩, .slice ad M cd] 27
  rw [← hX] at O
  go_upto_region 13 with fail
  rw [← hX]
  clear hX
  have O2 : Own w _ [cBox X d ad M cd, cRow d ad M cd] := O
  clear O
  generalize (w5.alloc (.cells #[.int .u8 d.verb, .string ⟨d.arg.toArray⟩, .slice ad M cd] 27)) = W5 at O2 ⊢
  obtain ⟨p0, p1, p2⟩ := box_cells O2
  go_wp2_with fail
  refine (HSH.out _ _ O2 _ _ (fun w2 h2 => (h2.pick 1).pmR)).mono ?_
  clear O2 p0 p1 p2 HSH
  rintro e w6 ⟨rfl, O2⟩
  go_wp2_with fail
  refine (parse_some K O2 t HLD.out (v := d.verb) (x := d.arg) (ps := d.ps) HPD.out HM.out).mono ?_
  clear O2 HPD
  rintro e w7 ⟨ae, ce, rfl, O⟩
  obtain ⟨Y, hY⟩ : ∃ b, b = w7.heap.size := ⟨_, rfl⟩
  replace O := O.newBox #[.int .u8 d.verb, .string ⟨d.arg.toArray⟩, .slice ae M ce] 27
  rw [← hY] at O
  go_upto_region 15 with fail
  rw [← hY]
  clear hY
  have O2 : Own w _ [cBox Y d ae M ce, cRow d ae M ce, cBox X d ad M cd, cRow d ad M cd] := O
  clear O
  generalize (w7.alloc (.cells #[.int .u8 d.verb, .string ⟨d.arg.toArray⟩, .slice ae M ce] 27)) = W7 at O2 ⊢
  obtain ⟨p0, p1, p2⟩ := box_cells (O2.pick 2)
  go_wp2_with fail
  refine (HMY.out _ _ O2 _ _ (fun w2 h2 => (h2.pick 3).pmR)).mono ?_
  clear O2 p0 p1 p2 HMY
  rintro e w8 ⟨rfl, O2⟩
  obtain ⟨p0, p1, p2⟩ := box_cells (O2.pick 2)
  obtain ⟨x0, x1, x2⟩ := box_cells O2
  go_wp2_with fail
  refine (HSA.out _ _ O2 _ _ _ _ (fun w2 h2 => (h2.pick 3).pmR) (fun w2 h2 => (h2.pick 1).pmR)).mono ?_
  clear O2 p0 p1 p2 x0 x1 x2 HSA
  rintro e w9 ⟨rfl, O2⟩
  have G1 := HGR.out _ _ O2 t (by have := HLD.out; omega)
  rw [HUD.out] at G1
  go_wp2_with fail
  refine G1.mono ?_
  clear G1 O2
  rintro e w10 ⟨rfl, O2⟩
  have G2 := HGR.out _ _ O2 line (by have := HLL.out; omega)
  go_wp2_with fail
  refine G2.mono ?_
  clear G2 O2
  rintro e w11 ⟨rfl, O2⟩
  go_wp2
  go_ret
  exact ⟨rfl, O2.below⟩
end Go.Proofs.YtehkdbgoeakgbaaDoor
