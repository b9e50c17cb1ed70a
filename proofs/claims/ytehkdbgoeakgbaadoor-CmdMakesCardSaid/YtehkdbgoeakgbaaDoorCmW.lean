/- mailroomref07: Mail, Rcpt; printed by wip/cmw.py. -/
import Derived.Test.YtehkdbgoeakgbaaDoorCmU
import Derived.Test.YtehkdbgoeakgbaaDoorCmV
namespace Go.Proofs.YtehkdbgoeakgbaaDoor
set_option linter.all false
open Go.RowKit Go.Shelf

theorem wp_if {c : Bool} {A B : Prop} (hc : c = true) (h : A) : if c = true then A else B := by rw [if_pos hc]; exact h
theorem wp_pmO {t e : TypeId} (T : PTy t e) {w0 w : World} {L : List Piece} {v : Value} {k : Nat} {xs : List Value} (O : Own w0 w (rowv e 2 v k xs :: L)) (p : Pm) (hlen : k ≤ 20000000)
    {o : Oper} {a : Act} {K : Act → World → Prop} {Q : Exit → Act → World → Prop} {d s : Operand} {dT : TypeId}
    (hop : o.op = Op.call { callee := Callee.builtin Builtin.append, args := #[d, s], argTypes := #[dT, dT] }) (hdT : dT = t) (hd : a.eval d = v) (hs : a.eval s = .slice (some ⟨w.heap.size, 0, none⟩) 1 1)
    (hK : ∀ x y w', Own w0 w' (rowv e 2 (.slice x (k + 1) y) (k + 1) (xs ++ flatP [p]) :: L) → K (a.put o.dst (.slice x (k + 1) y)) w') : Oper.wp Tryd.prog o a (w.alloc (.cells #[.string ⟨p.1.toArray⟩, .string ⟨p.2.toArray⟩] e)) K Q := by
  subst hdT
  obtain ⟨x, y, w', hru, O'⟩ := run_append_pm T O p hlen o.type
  unfold Oper.wp
  simp [execOp, hop, resolve, invoke, builtin, hd, hs, hru, Result.andThen]
  exact hK x y w' O'
/-- what Mail of the document holds -/
abbrev mailR (XB CB RB : Nat) (cs : Array Value) (fr : List UInt8) (ps : List Pm) (a : Option Addr) (N cap : Nat) (L : List Piece) : List Piece :=
  box XB #[.int .u8 3, .string ⟨fr.toArray⟩, .slice a N cap] 33 :: rowv 72 2 (.slice a N cap) N (flatP ps) :: box CB cs 36 :: box RB #[.int .u8 0, .string ⟨#[]⟩, .slice none 0 0] 33 :: L
/-- what a maker of the document leaves -/
def RMade (w0 : World) (L : List Piece) (o : Option Cm) (e : Ending) (w' : World) : Prop :=
  match o with
  | some c => ∃ a cap, e = .returned (.tuple #[cmV c a c.ps.length cap, .int .i64 0]) ∧ Own w0 w' (rowv 72 2 (.slice a c.ps.length cap) c.ps.length (flatP c.ps) :: L)
  | none => e = .returned (.tuple #[cmV ⟨0, [], []⟩ none 0 0, .int .i64 4]) ∧ Own w0 w' L
theorem rmade_none {w0 w' : World} {L : List Piece} {o : Option Cm} (h : o = none) (O : Own w0 w' L) : RMade w0 L o (.returned (.tuple #[.agg #[.int .u8 0, .string ⟨#[]⟩, .slice none 0 0], .int .i64 4])) w' := by
  subst h; exact ⟨rfl, O⟩
theorem rmade_some {w0 w' : World} {L : List Piece} {o : Option Cm} {c : Cm} (h : o = some c) {a : Option Addr} {n cap : Nat} (hn : n = c.ps.length) (O : Own w0 w' (rowv 72 2 (.slice a n cap) n (flatP c.ps) :: L)) :
    RMade w0 L o (.returned (.tuple #[.agg #[.int .u8 c.verb, .string ⟨c.arg.toArray⟩, .slice a n cap], .int .i64 0])) w' := by
  subst h hn; exact ⟨a, cap, rfl, O⟩
theorem may_nops {v : Nat} {x : List UInt8} {ps : List Pm} (hv : v = 3 ∨ v = 4) (h : pmsB ps = true) : mayCm ⟨v, x, ps⟩ = mayCm ⟨v, x, []⟩ := by
  rcases hv with rfl | rfl <;> simp [mayCm, h, show pmsB [] = true from rfl]
theorem mail_alt {fr : List UInt8} {n : Int} {sz rq dsn require : Bool} {env : List UInt8} :
    mailCm fr n sz rq dsn require env = if n < 0 ∨ envB env = false ∨ mayCm ⟨3, fr, []⟩ = false then none else some ⟨3, fr, mailPs (Lib.itoa n) sz rq dsn require env⟩ := by
  unfold mailCm
  by_cases h1 : n < 0
  · rw [if_pos (.inl h1), if_pos (.inl h1)]
  · cases h2 : envB env with
    | false => rw [if_pos (.inr (.inl rfl)), if_pos (.inr (.inl rfl))]
    | true => rw [may_nops (.inl rfl) (mailPs_ok (by omega) sz rq dsn require h2)]
theorem rcpt_alt {fr : List UInt8} {dsn nv : Bool} : rcptCm fr dsn nv = if mayCm ⟨4, fr, []⟩ = true then some ⟨4, fr, rcptPs dsn nv⟩ else none := by
  unfold rcptCm
  rw [may_nops (.inr rfl) (by unfold rcptPs; cases (dsn && nv) <;> decide)]

set_option maxRecDepth 100000 in
set_option maxHeartbeats 8000000 in
theorem rmail7_own {w0 w : World} {L : List Piece} (O : Own w0 w L) (fr : List UInt8) (hf : fr.length ≤ 1000000) (b0 b1 b2 b3 b4 b5 : Bool) (mst : Int) (n : Int) (hn : (Lit.int .i64 n).wf = true) (rq : Bool) (env : List UInt8) (he : env.length ≤ 1000000) :
    Calls Tryd.prog 10 #[.string ⟨fr.toArray⟩, capsV b0 b1 b2 b3 b4 b5 mst, .int .i64 n, .bool rq, .string ⟨env.toArray⟩] w (RMade w0 L (mailCm fr n b5 b2 b3 rq env)) := by
  unfold capsV
  have O1 := O.newBox #[.bool b0, .bool b1, .bool b2, .bool b3, .bool b4, .bool b5, .int .i64 mst] 36
  have O2 := O1.newBox #[.int .u8 0, .string ⟨#[]⟩, .slice none 0 0] 33
  have O3 := O2.newBox #[.int .u8 3, .string ⟨fr.toArray⟩, .slice none 0 0] 33
  obtain ⟨CB, hCB⟩ : ∃ b, b = w.heap.size := ⟨_, rfl⟩
  obtain ⟨RB, hRB⟩ : ∃ b, b = w.heap.size + 1 := ⟨_, rfl⟩
  obtain ⟨XB, hXB⟩ : ∃ b, b = w.heap.size + 2 := ⟨_, rfl⟩
  rw [show (((w.alloc (.cells #[.bool b0, .bool b1, .bool b2, .bool b3, .bool b4, .bool b5, .int .i64 mst] 36)).alloc (.cells #[.int .u8 0, .string ⟨#[]⟩, .slice none 0 0] 33))).heap.size = XB by rw [hXB]; simp, show (w.alloc (.cells #[.bool b0, .bool b1, .bool b2, .bool b3, .bool b4, .bool b5, .int .i64 mst] 36)).heap.size = RB by rw [hRB]; simp, ← hCB] at O3
  have O4 := (O3.nilPm 72).selK 4 [1, 0, 3, 2]
  have O5 : Own w0 _ (mailR XB CB RB #[.bool b0, .bool b1, .bool b2, .bool b3, .bool b4, .bool b5, .int .i64 mst] fr [] none 0 0 L) := O4
  clear O O1 O2 O3 O4
  obtain ⟨R, hR⟩ : ∃ r, r = mailCm fr n b5 b2 b3 rq env := ⟨_, rfl⟩
  rw [← hR]
  have hw : -9223372036854775808 ≤ n ∧ n ≤ 9223372036854775807 := by
    have := hn
    simp [Lit.wf, IntKind.min, IntKind.max, IntKind.signed, IntKind.bits] at this
    omega
  have SNO : Hid ((n < 0 ∨ envB env = false ∨ mayCm ⟨3, fr, []⟩ = false) → R = none) := fun h => by rw [hR, mail_alt, if_pos h]
  have SYES : Hid (¬ n < 0 → envB env = true → mayCm ⟨3, fr, []⟩ = true → R = some ⟨3, fr, mailPs (Lib.itoa n) b5 b2 b3 rq env⟩) := fun h1 h2 h3 => by
    rw [hR, mail_alt, if_neg]; rintro (h | h | h)
    · exact h1 h
    · rw [h2] at h; cases h
    · rw [h3] at h; cases h
  clear hn hR
  have WH : Hid (w.heap.size = CB ∧ w.heap.size + 1 = RB ∧ w.heap.size + 1 + 1 = XB) := by unfold Hid; omega
  clear hCB hRB hXB
  go_enter Tryd.func10, Tryd.ntmps10
  go_upto_region 2 with fail
  rw [WH.out.2.2, WH.out.2.1, WH.out.1]
  generalize (((w.alloc (.cells #[.bool b0, .bool b1, .bool b2, .bool b3, .bool b4, .bool b5, .int .i64 mst] 36)).alloc (.cells #[.int .u8 0, .string ⟨#[]⟩, .slice none 0 0] 33)).alloc (.cells #[.int .u8 3, .string ⟨fr.toArray⟩, .slice none 0 0] 33)) = W at O5 ⊢
  clear WH
  by_cases h0 : n < 0
  · have RN := Lib.hid (SNO.out (.inl h0))
    clear SNO SYES
    have OY := O5.pick 3
    have s0 := OY.cell 0
    have f0 := OY.free
    have P1 := OY.set 0 (.int .u8 0)
    have s1 := P1.cell 1
    have f1 := P1.free
    have P2 := P1.set 1 (.string ⟨#[]⟩)
    have s2 := P2.cell 2
    have f2 := P2.free
    have P3 := P2.set 2 (.slice none 0 0)
    have t0 := P3.cell 0
    have t1 := P3.cell 1
    have t2 := P3.cell 2
    go_wp2
    refine bodyPost_ret (v := .tuple #[.agg #[.int .u8 0, .string ⟨#[]⟩, .slice none 0 0], .int .i64 4]) (by simp [results, Tryd.results10, go_sem, t0, t1, t2]; try rfl) rfl ?_
    exact rmade_none RN.out P3.drop.drop.drop.drop

  obtain ⟨eb, heb⟩ : ∃ q, envB env = q := ⟨_, rfl⟩
  obtain ⟨mb, hmb⟩ : ∃ q, mayCm ⟨3, fr, []⟩ = q := ⟨_, rfl⟩
  have EN := renvid_own O5 env (by omega) heb
  rw [heb, hmb] at SNO SYES
  have MY := Lib.hid (fun w' (h : Own w0 w' (mailR XB CB RB #[.bool b0, .bool b1, .bool b2, .bool b3, .bool b4, .bool b5, .int .i64 mst] fr [] none 0 0 L)) => rmay7_own (w := w') h ⟨3, fr, []⟩ (a := none) (cap := 0) (n := 0) rfl (by simp) (by simp only; omega) (by omega) (fun p hp => by cases hp) (fun w' h => PmR.nil _ _ _) hmb (L := mailR XB CB RB #[.bool b0, .bool b1, .bool b2, .bool b3, .bool b4, .bool b5, .int .i64 mst] fr [] none 0 0 L))
  unfold cmV at MY
  clear heb hmb
  go_wp2_with fail
  refine EN.mono ?_
  clear EN O5
  rintro e w2 ⟨rfl, O5⟩
  cases eb
  · have RN := Lib.hid (SNO.out (.inr (.inl rfl)))
    clear SNO SYES MY
    have OY := O5.pick 3
    have s0 := OY.cell 0
    have f0 := OY.free
    have P1 := OY.set 0 (.int .u8 0)
    have s1 := P1.cell 1
    have f1 := P1.free
    have P2 := P1.set 1 (.string ⟨#[]⟩)
    have s2 := P2.cell 2
    have f2 := P2.free
    have P3 := P2.set 2 (.slice none 0 0)
    have t0 := P3.cell 0
    have t1 := P3.cell 1
    have t2 := P3.cell 2
    go_wp2
    refine bodyPost_ret (v := .tuple #[.agg #[.int .u8 0, .string ⟨#[]⟩, .slice none 0 0], .int .i64 4]) (by simp [results, Tryd.results10, go_sem, t0, t1, t2]; try rfl) rfl ?_
    exact rmade_none RN.out P3.drop.drop.drop.drop

  have x0 := O5.cell 0
  have x1 := O5.cell 1
  have x2 := O5.cell 2
  go_wp2_with fail
  refine (MY.out _ O5).mono ?_
  clear MY O5 x0 x1 x2
  rintro e w3 ⟨rfl, O5⟩
  cases mb
  · have RN := Lib.hid (SNO.out (.inr (.inr rfl)))
    clear SNO SYES
    have OY := O5.pick 3
    have s0 := OY.cell 0
    have f0 := OY.free
    have P1 := OY.set 0 (.int .u8 0)
    have s1 := P1.cell 1
    have f1 := P1.free
    have P2 := P1.set 1 (.string ⟨#[]⟩)
    have s2 := P2.cell 2
    have f2 := P2.free
    have P3 := P2.set 2 (.slice none 0 0)
    have t0 := P3.cell 0
    have t1 := P3.cell 1
    have t2 := P3.cell 2
    go_wp2
    refine bodyPost_ret (v := .tuple #[.agg #[.int .u8 0, .string ⟨#[]⟩, .slice none 0 0], .int .i64 4]) (by simp [results, Tryd.results10, go_sem, t0, t1, t2]; try rfl) rfl ?_
    exact rmade_none RN.out P3.drop.drop.drop.drop

  have SY : Hid (R = some ⟨3, fr, mailPs (Lib.itoa n) b5 b2 b3 rq env⟩) := SYES.out h0 (by trivial) (by trivial)
  clear SNO SYES
  have SHW := Lib.hid (fun (w' : World) (h : Own w0 w' (mailR XB CB RB #[.bool b0, .bool b1, .bool b2, .bool b3, .bool b4, .bool b5, .int .i64 mst] fr [] none 0 0 L)) => rshow2_own h n.toNat (by omega))
  obtain ⟨u, hu⟩ : ∃ u : Nat, u = n.toNat := ⟨_, rfl⟩
  obtain rfl : n = (u : Int) := by omega
  rw [show (u : Int).toNat = u by omega] at SHW
  have HIT : Hid (Lib.itoa (u : Int) = Lib.decDigits u) := Lib.itoa_nonneg u
  rw [HIT.out] at SY
  generalize Lib.decDigits u = it at SY SHW
  clear HIT hu h0 hw
  have d5 : w3.cell? ⟨CB, 5, none⟩ = some (.bool b5) := (O5.pick 2).cell 5
  go_upto_if 29 with fail
  go_cut [] (fun wx => ∃ a cap N, Hid (N = (addP b5 true (([83, 73, 90, 69], it) : Pm) []).length) ∧ Own w0 wx (mailR XB CB RB #[.bool b0, .bool b1, .bool b2, .bool b3, .bool b4, .bool b5, .int .i64 mst] fr (addP b5 true (([83, 73, 90, 69], it) : Pm) []) a N cap L))
  case first =>
    cases b5
    · go_wp2_with fail
      go_meet
      exact ⟨none, 0, 0, rfl, O5⟩
    · clear d5
      have OD := O5.drew
      go_wp2_with fail
      have x2 : w3.drew.cell? ⟨XB, 2, none⟩ = some (.slice none 0 0) := OD.cell 2
      go_region_law
        (first
          | ((with_reducible refine wp_if ?_ (wp_pmO pty_ref OA (([83, 73, 90, 69], it) : Pm) (by decide) rfl ?_ ?_ ?_ ?_)); (iterate 4 rfl); intro xx yy w5 O7; have s2 : w5.cell? ⟨XB, 2, none⟩ = some (.slice none 0 0) := (O7.pick 1).cell 2; have sf : w5.frozen? ⟨XB, 2, none⟩ = false := (O7.pick 1).free 2)
          | (go_simp; go_at_call 33; (with_reducible refine (SHW.out _ OD).mono ?_); rintro e1 ws ⟨rfl, O6⟩; have y2 : ws.cell? ⟨XB, 2, none⟩ = some (.slice none 0 0) := O6.cell 2; have OA : Own w0 ws (rowv 72 2 (.slice none 0 0) 0 (flatP []) :: box XB #[.int .u8 3, .string ⟨fr.toArray⟩, .slice none 0 0] 33 :: box CB #[.bool b0, .bool b1, .bool b2, .bool b3, .bool b4, .bool true, .int .i64 mst] 36 :: box RB #[.int .u8 0, .string ⟨#[]⟩, .slice none 0 0] 33 :: L) := O6.pick 1; have z2 : (ws.alloc (.cells #[.string ⟨#[83, 73, 90, 69]⟩, .string ⟨it.toArray⟩] 72)).cell? ⟨XB, 2, none⟩ = some (.slice none 0 0) := (O6.alloc _).cell 2))
      all_goals
        have O8 : Own w0 (w5.setCell ⟨XB, 2, none⟩ (.slice xx 1 yy)) (mailR XB CB RB #[.bool b0, .bool b1, .bool b2, .bool b3, .bool b4, .bool true, .int .i64 mst] fr [([83, 73, 90, 69], it)] xx 1 yy L) := (O7.pick 1).set 2 _
        clear O5 OD OA O6 O7 x2
        go_wp2_with fail
        go_meet
        exact ⟨xx, yy, 1, rfl, O8⟩
  case rest =>
  obtain ⟨a1, c1, N1, HN1, O6⟩ := hcut
  clear O5 d5 SHW
  obtain ⟨p1, hp1⟩ : ∃ p, p = addP b5 true (([83, 73, 90, 69], it) : Pm) [] := ⟨_, rfl⟩
  have SY2 : Hid (R = some ⟨3, fr, addP b3 (!env.isEmpty) (([69, 78, 86, 73, 68], env) : Pm) (addP b2 rq (([82, 69, 81, 85, 73, 82, 69, 84, 76, 83], []) : Pm) p1)⟩) := by unfold Hid; rw [SY.out, hp1]; rfl
  rw [← hp1] at O6 HN1
  have hl1 : N1 ≤ 1 := by rw [HN1.out, hp1]; exact addP_len _ _ _ _
  clear hp1 SY
  cases b2
  · have d2 : wc.cell? ⟨CB, 2, none⟩ = some (.bool false) := (O6.pick 2).cell 2
    go_upto_if 42 with fail
    go_cut [] (fun wx => ∃ a cap N, Hid (N = (addP false rq (([82, 69, 81, 85, 73, 82, 69, 84, 76, 83], []) : Pm) p1).length) ∧ Own w0 wx (mailR XB CB RB #[.bool b0, .bool b1, .bool false, .bool b3, .bool b4, .bool b5, .int .i64 mst] fr (addP false rq (([82, 69, 81, 85, 73, 82, 69, 84, 76, 83], []) : Pm) p1) a N cap L))
    case first =>
      go_wp2_with fail
      go_meet
      exact ⟨a1, c1, N1, HN1, O6⟩
    case rest =>
    clear O6 d2
    obtain ⟨a2, c2, N2, HN2, O6⟩ := hcut
    obtain ⟨p2, hp2⟩ : ∃ p, p = addP false rq (([82, 69, 81, 85, 73, 82, 69, 84, 76, 83], []) : Pm) p1 := ⟨_, rfl⟩
    rw [← hp2] at O6 HN2 SY2
    have hl2 : N2 ≤ 2 := by rw [HN2.out, hp2]; have := addP_len false rq (([82, 69, 81, 85, 73, 82, 69, 84, 76, 83], []) : Pm) p1; have := HN1.out; omega
    clear hp2 HN1 hl1
    cases b3
    · have d3 : wc.cell? ⟨CB, 3, none⟩ = some (.bool false) := (O6.pick 2).cell 3
      obtain ⟨ee, hee⟩ : ∃ q, (!env.isEmpty) = q := ⟨_, rfl⟩
      rw [hee] at SY2
      go_upto_if 54 with fail
      go_cut [] (fun wx => ∃ a cap N, Hid (N = (addP false ee (([69, 78, 86, 73, 68], env) : Pm) p2).length) ∧ Own w0 wx (mailR XB CB RB #[.bool b0, .bool b1, .bool false, .bool false, .bool b4, .bool b5, .int .i64 mst] fr (addP false ee (([69, 78, 86, 73, 68], env) : Pm) p2) a N cap L))
      case first =>
        go_wp2_with fail
        go_meet
        exact ⟨a2, c2, N2, HN2, O6⟩
      case rest =>
      clear O6 d3 hee
      obtain ⟨a3, c3, N3, HN3, O6⟩ := hcut
      generalize addP false ee (([69, 78, 86, 73, 68], env) : Pm) p2 = p3 at O6 HN3 SY2
      have x0 := O6.cell 0
      have x1 := O6.cell 1
      have x2 := O6.cell 2
      have OY := O6.pick 3
      have s0 := OY.cell 0
      have f0 := OY.free
      have P1 := OY.set 0 (.int .u8 3)
      have s1 := P1.cell 1
      have f1 := P1.free
      have P2 := P1.set 1 (.string ⟨fr.toArray⟩)
      have s2 := P2.cell 2
      have f2 := P2.free
      have P3 := P2.set 2 (.slice a3 N3 c3)
      have t0 := P3.cell 0
      have t1 := P3.cell 1
      have t2 := P3.cell 2
      go_wp2
      refine bodyPost_ret (v := .tuple #[.agg #[.int .u8 3, .string ⟨fr.toArray⟩, .slice a3 N3 c3], .int .i64 0]) (by simp [results, Tryd.results10, go_sem, t0, t1, t2]; try rfl) rfl ?_
      exact rmade_some SY2.out HN3.out (P3.selK 4 [2])
    · have d3 : wc.cell? ⟨CB, 3, none⟩ = some (.bool true) := (O6.pick 2).cell 3
      obtain ⟨ee, hee⟩ : ∃ q, (!env.isEmpty) = q := ⟨_, rfl⟩
      rw [hee] at SY2
      go_upto_if 54 with fail
      go_cut [] (fun wx => ∃ a cap N, Hid (N = (addP true ee (([69, 78, 86, 73, 68], env) : Pm) p2).length) ∧ Own w0 wx (mailR XB CB RB #[.bool b0, .bool b1, .bool false, .bool true, .bool b4, .bool b5, .int .i64 mst] fr (addP true ee (([69, 78, 86, 73, 68], env) : Pm) p2) a N cap L))
      case first =>
        cases ee
        · go_wp2_with fail
          go_meet
          exact ⟨a2, c2, N2, HN2, O6⟩
        · have x2 : wc.cell? ⟨XB, 2, none⟩ = some (.slice a2 N2 c2) := O6.cell 2
          have OA := O6.pick 1
          go_wp2_with (at_builtin; refine wpList_append_pmO pty_ref rfl _ _ rfl _ _ _ (([69, 78, 86, 73, 68], env) : Pm) OA rfl rfl (by omega) ?_)
          intro xx yy w5 O7
          rw [← flatP_snoc] at O7
          have s2 : w5.cell? ⟨XB, 2, none⟩ = some (.slice a2 N2 c2) := (O7.pick 1).cell 2
          have sf : w5.frozen? ⟨XB, 2, none⟩ = false := (O7.pick 1).free 2
          have O8 : Own w0 (w5.setCell ⟨XB, 2, none⟩ (.slice xx (N2 + 1) yy)) (mailR XB CB RB #[.bool b0, .bool b1, .bool false, .bool true, .bool b4, .bool b5, .int .i64 mst] fr (p2 ++ [([69, 78, 86, 73, 68], env)]) xx (N2 + 1) yy L) := (O7.pick 1).set 2 _
          have HN3 : Hid (N2 + 1 = (p2 ++ [(([69, 78, 86, 73, 68], env) : Pm)]).length) := by unfold Hid; rw [List.length_append, HN2.out]; rfl
          clear O6 OA O7 x2
          go_wp2_with fail
          go_meet
          exact ⟨xx, yy, N2 + 1, HN3, O8⟩
      case rest =>
      clear O6 d3 hee
      obtain ⟨a3, c3, N3, HN3, O6⟩ := hcut
      generalize addP true ee (([69, 78, 86, 73, 68], env) : Pm) p2 = p3 at O6 HN3 SY2
      have x0 := O6.cell 0
      have x1 := O6.cell 1
      have x2 := O6.cell 2
      have OY := O6.pick 3
      have s0 := OY.cell 0
      have f0 := OY.free
      have P1 := OY.set 0 (.int .u8 3)
      have s1 := P1.cell 1
      have f1 := P1.free
      have P2 := P1.set 1 (.string ⟨fr.toArray⟩)
      have s2 := P2.cell 2
      have f2 := P2.free
      have P3 := P2.set 2 (.slice a3 N3 c3)
      have t0 := P3.cell 0
      have t1 := P3.cell 1
      have t2 := P3.cell 2
      go_wp2
      refine bodyPost_ret (v := .tuple #[.agg #[.int .u8 3, .string ⟨fr.toArray⟩, .slice a3 N3 c3], .int .i64 0]) (by simp [results, Tryd.results10, go_sem, t0, t1, t2]; try rfl) rfl ?_
      exact rmade_some SY2.out HN3.out (P3.selK 4 [2])
  · have d2 : wc.cell? ⟨CB, 2, none⟩ = some (.bool true) := (O6.pick 2).cell 2
    go_upto_if 42 with fail
    go_cut [] (fun wx => ∃ a cap N, Hid (N = (addP true rq (([82, 69, 81, 85, 73, 82, 69, 84, 76, 83], []) : Pm) p1).length) ∧ Own w0 wx (mailR XB CB RB #[.bool b0, .bool b1, .bool true, .bool b3, .bool b4, .bool b5, .int .i64 mst] fr (addP true rq (([82, 69, 81, 85, 73, 82, 69, 84, 76, 83], []) : Pm) p1) a N cap L))
    case first =>
      cases rq
      · go_wp2_with fail
        go_meet
        exact ⟨a1, c1, N1, HN1, O6⟩
      · have x2 : wc.cell? ⟨XB, 2, none⟩ = some (.slice a1 N1 c1) := O6.cell 2
        have OA := O6.pick 1
        go_wp2_with (at_builtin; refine wpList_append_pmO pty_ref rfl _ _ rfl _ _ _ (([82, 69, 81, 85, 73, 82, 69, 84, 76, 83], []) : Pm) OA rfl rfl (by omega) ?_)
        intro xx yy w5 O7
        rw [← flatP_snoc] at O7
        have s2 : w5.cell? ⟨XB, 2, none⟩ = some (.slice a1 N1 c1) := (O7.pick 1).cell 2
        have sf : w5.frozen? ⟨XB, 2, none⟩ = false := (O7.pick 1).free 2
        have O8 : Own w0 (w5.setCell ⟨XB, 2, none⟩ (.slice xx (N1 + 1) yy)) (mailR XB CB RB #[.bool b0, .bool b1, .bool true, .bool b3, .bool b4, .bool b5, .int .i64 mst] fr (p1 ++ [([82, 69, 81, 85, 73, 82, 69, 84, 76, 83], [])]) xx (N1 + 1) yy L) := (O7.pick 1).set 2 _
        have HN2 : Hid (N1 + 1 = (p1 ++ [(([82, 69, 81, 85, 73, 82, 69, 84, 76, 83], []) : Pm)]).length) := by unfold Hid; rw [List.length_append, HN1.out]; rfl
        clear O6 OA O7 x2
        go_wp2_with fail
        go_meet
        exact ⟨xx, yy, N1 + 1, HN2, O8⟩
    case rest =>
    clear O6 d2
    obtain ⟨a2, c2, N2, HN2, O6⟩ := hcut
    obtain ⟨p2, hp2⟩ : ∃ p, p = addP true rq (([82, 69, 81, 85, 73, 82, 69, 84, 76, 83], []) : Pm) p1 := ⟨_, rfl⟩
    rw [← hp2] at O6 HN2 SY2
    have hl2 : N2 ≤ 2 := by rw [HN2.out, hp2]; have := addP_len true rq (([82, 69, 81, 85, 73, 82, 69, 84, 76, 83], []) : Pm) p1; have := HN1.out; omega
    clear hp2 HN1 hl1
    cases b3
    · have d3 : wc.cell? ⟨CB, 3, none⟩ = some (.bool false) := (O6.pick 2).cell 3
      obtain ⟨ee, hee⟩ : ∃ q, (!env.isEmpty) = q := ⟨_, rfl⟩
      rw [hee] at SY2
      go_upto_if 54 with fail
      go_cut [] (fun wx => ∃ a cap N, Hid (N = (addP false ee (([69, 78, 86, 73, 68], env) : Pm) p2).length) ∧ Own w0 wx (mailR XB CB RB #[.bool b0, .bool b1, .bool true, .bool false, .bool b4, .bool b5, .int .i64 mst] fr (addP false ee (([69, 78, 86, 73, 68], env) : Pm) p2) a N cap L))
      case first =>
        go_wp2_with fail
        go_meet
        exact ⟨a2, c2, N2, HN2, O6⟩
      case rest =>
      clear O6 d3 hee
      obtain ⟨a3, c3, N3, HN3, O6⟩ := hcut
      generalize addP false ee (([69, 78, 86, 73, 68], env) : Pm) p2 = p3 at O6 HN3 SY2
      have x0 := O6.cell 0
      have x1 := O6.cell 1
      have x2 := O6.cell 2
      have OY := O6.pick 3
      have s0 := OY.cell 0
      have f0 := OY.free
      have P1 := OY.set 0 (.int .u8 3)
      have s1 := P1.cell 1
      have f1 := P1.free
      have P2 := P1.set 1 (.string ⟨fr.toArray⟩)
      have s2 := P2.cell 2
      have f2 := P2.free
      have P3 := P2.set 2 (.slice a3 N3 c3)
      have t0 := P3.cell 0
      have t1 := P3.cell 1
      have t2 := P3.cell 2
      go_wp2
      refine bodyPost_ret (v := .tuple #[.agg #[.int .u8 3, .string ⟨fr.toArray⟩, .slice a3 N3 c3], .int .i64 0]) (by simp [results, Tryd.results10, go_sem, t0, t1, t2]; try rfl) rfl ?_
      exact rmade_some SY2.out HN3.out (P3.selK 4 [2])
    · have d3 : wc.cell? ⟨CB, 3, none⟩ = some (.bool true) := (O6.pick 2).cell 3
      obtain ⟨ee, hee⟩ : ∃ q, (!env.isEmpty) = q := ⟨_, rfl⟩
      rw [hee] at SY2
      go_upto_if 54 with fail
      go_cut [] (fun wx => ∃ a cap N, Hid (N = (addP true ee (([69, 78, 86, 73, 68], env) : Pm) p2).length) ∧ Own w0 wx (mailR XB CB RB #[.bool b0, .bool b1, .bool true, .bool true, .bool b4, .bool b5, .int .i64 mst] fr (addP true ee (([69, 78, 86, 73, 68], env) : Pm) p2) a N cap L))
      case first =>
        cases ee
        · go_wp2_with fail
          go_meet
          exact ⟨a2, c2, N2, HN2, O6⟩
        · have x2 : wc.cell? ⟨XB, 2, none⟩ = some (.slice a2 N2 c2) := O6.cell 2
          have OA := O6.pick 1
          go_wp2_with (at_builtin; refine wpList_append_pmO pty_ref rfl _ _ rfl _ _ _ (([69, 78, 86, 73, 68], env) : Pm) OA rfl rfl (by omega) ?_)
          intro xx yy w5 O7
          rw [← flatP_snoc] at O7
          have s2 : w5.cell? ⟨XB, 2, none⟩ = some (.slice a2 N2 c2) := (O7.pick 1).cell 2
          have sf : w5.frozen? ⟨XB, 2, none⟩ = false := (O7.pick 1).free 2
          have O8 : Own w0 (w5.setCell ⟨XB, 2, none⟩ (.slice xx (N2 + 1) yy)) (mailR XB CB RB #[.bool b0, .bool b1, .bool true, .bool true, .bool b4, .bool b5, .int .i64 mst] fr (p2 ++ [([69, 78, 86, 73, 68], env)]) xx (N2 + 1) yy L) := (O7.pick 1).set 2 _
          have HN3 : Hid (N2 + 1 = (p2 ++ [(([69, 78, 86, 73, 68], env) : Pm)]).length) := by unfold Hid; rw [List.length_append, HN2.out]; rfl
          clear O6 OA O7 x2
          go_wp2_with fail
          go_meet
          exact ⟨xx, yy, N2 + 1, HN3, O8⟩
      case rest =>
      clear O6 d3 hee
      obtain ⟨a3, c3, N3, HN3, O6⟩ := hcut
      generalize addP true ee (([69, 78, 86, 73, 68], env) : Pm) p2 = p3 at O6 HN3 SY2
      have x0 := O6.cell 0
      have x1 := O6.cell 1
      have x2 := O6.cell 2
      have OY := O6.pick 3
      have s0 := OY.cell 0
      have f0 := OY.free
      have P1 := OY.set 0 (.int .u8 3)
      have s1 := P1.cell 1
      have f1 := P1.free
      have P2 := P1.set 1 (.string ⟨fr.toArray⟩)
      have s2 := P2.cell 2
      have f2 := P2.free
      have P3 := P2.set 2 (.slice a3 N3 c3)
      have t0 := P3.cell 0
      have t1 := P3.cell 1
      have t2 := P3.cell 2
      go_wp2
      refine bodyPost_ret (v := .tuple #[.agg #[.int .u8 3, .string ⟨fr.toArray⟩, .slice a3 N3 c3], .int .i64 0]) (by simp [results, Tryd.results10, go_sem, t0, t1, t2]; try rfl) rfl ?_
      exact rmade_some SY2.out HN3.out (P3.selK 4 [2])

end Go.Proofs.YtehkdbgoeakgbaaDoor
