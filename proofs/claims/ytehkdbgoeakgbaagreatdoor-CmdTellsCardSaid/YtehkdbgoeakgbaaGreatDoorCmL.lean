/- cmd: Mail, Rcpt; printed by wip/cml.py. -/
import Derived.Test.YtehkdbgoeakgbaaGreatDoorCmK
namespace Go.Proofs.YtehkdbgoeakgbaaGreatDoor
set_option linter.all false
open Go.RowKit Go.Shelf

def nSIZE : List UInt8 := [83, 73, 90, 69]
def nREQ : List UInt8 := [82, 69, 81, 85, 73, 82, 69, 84, 76, 83]
def nENV : List UInt8 := [69, 78, 86, 73, 68]
def mailPs (size : List UInt8) (sz req dsn require : Bool) (envid : List UInt8) : List Pm :=
  addP dsn (!envid.isEmpty) ([69, 78, 86, 73, 68], envid) (addP req require ([82, 69, 81, 85, 73, 82, 69, 84, 76, 83], []) (addP sz true ([83, 73, 90, 69], size) []))
def envB (envid : List UInt8) : Bool := envid.all envC && decide (envid.length ≤ 32)
/-- the MAIL to a peer -/
def mailCm (from_ : List UInt8) (n : Int) (sz req dsn require : Bool) (envid : List UInt8) : Option Cm :=
  if n < 0 ∨ envB envid = false ∨ mayCm ⟨3, from_, mailPs (Lib.itoa n) sz req dsn require envid⟩ = false then none else some ⟨3, from_, mailPs (Lib.itoa n) sz req dsn require envid⟩
theorem addP_len (o k : Bool) (p : Pm) (ps : List Pm) : (addP o k p ps).length ≤ ps.length + 1 := by
  unfold addP; cases (o && k) <;> simp
theorem addP_mem {o k : Bool} {p : Pm} {ps : List Pm} {q : Pm} (h : q ∈ addP o k p ps) : q = p ∨ q ∈ ps := by
  unfold addP at h
  cases hb : (o && k)
  · rw [hb] at h; exact .inr h
  · rw [hb] at h
    simp only [cond_true, List.mem_append, List.mem_singleton] at h
    rcases h with h | h
    · exact .inr h
    · exact .inl h
def capsV (b0 b1 b2 b3 b4 b5 : Bool) (m : Int) : Value := .agg #[.bool b0, .bool b1, .bool b2, .bool b3, .bool b4, .bool b5, .int .i64 m]
/-- what a maker of commands leaves -/
def MadePost (w0 : World) (L : List Piece) (o : Option Cm) (e : Ending) (w' : World) : Prop :=
  match o with
  | some c => ∃ a cap, e = .returned (.tuple #[cmV c a c.ps.length cap, .int .i64 0]) ∧ Own w0 w' (rowv 48 2 (.slice a c.ps.length cap) c.ps.length (flatP c.ps) :: L)
  | none => e = .returned (.tuple #[cmV ⟨0, [], []⟩ none 0 0, .int .i64 4]) ∧ Own w0 w' L
theorem made_none {w0 w' : World} {L : List Piece} {o : Option Cm} (h : o = none) (O : Own w0 w' L) : MadePost w0 L o (.returned (.tuple #[.agg #[.int .u8 0, .string ⟨#[]⟩, .slice none 0 0], .int .i64 4])) w' := by
  subst h; exact ⟨rfl, O⟩
theorem made_some {w0 w' : World} {L : List Piece} {o : Option Cm} {c : Cm} (h : o = some c) {a : Option Addr} {n cap : Nat} (hn : n = c.ps.length) (O : Own w0 w' (rowv 48 2 (.slice a n cap) n (flatP c.ps) :: L)) :
    MadePost w0 L o (.returned (.tuple #[.agg #[.int .u8 c.verb, .string ⟨c.arg.toArray⟩, .slice a n cap], .int .i64 0])) w' := by
  subst h hn; exact ⟨a, cap, rfl, O⟩
/-- what Mail holds -/
abbrev mailM (XB CB RB : Nat) (cs : Array Value) (fr : List UInt8) (ps : List Pm) (a : Option Addr) (cap : Nat) (L : List Piece) : List Piece :=
  box XB #[.int .u8 3, .string ⟨fr.toArray⟩, .slice a ps.length cap] 24 :: rowv 48 2 (.slice a ps.length cap) ps.length (flatP ps) :: box CB cs 53 :: box RB #[.int .u8 0, .string ⟨#[]⟩, .slice none 0 0] 24 :: L

set_option maxRecDepth 100000 in
set_option maxHeartbeats 4000000 in
theorem mail7_own {w0 w : World} {L : List Piece} (K : Kinds w0) (T : Tab w0) (O : Own w0 w L) (fr : List UInt8) (hf : fr.length ≤ 1000000) (b0 b1 b2 b3 b4 b5 : Bool) (mst : Int) (n : Int) (hn : (Lit.int .i64 n).wf = true) (rq : Bool) (env : List UInt8) (he : env.length ≤ 1000000) :
    Calls Tryz.prog 19 #[.string ⟨fr.toArray⟩, capsV b0 b1 b2 b3 b4 b5 mst, .int .i64 n, .bool rq, .string ⟨env.toArray⟩] w (MadePost w0 L (mailCm fr n b5 b2 b3 rq env)) := by
  unfold capsV
  have O1 := O.newBox #[.bool b0, .bool b1, .bool b2, .bool b3, .bool b4, .bool b5, .int .i64 mst] 53
  have O2 := O1.newBox #[.int .u8 0, .string ⟨#[]⟩, .slice none 0 0] 24
  have O3 := O2.newBox #[.int .u8 3, .string ⟨fr.toArray⟩, .slice none 0 0] 24
  obtain ⟨CB, hCB⟩ : ∃ b, b = w.heap.size := ⟨_, rfl⟩
  obtain ⟨RB, hRB⟩ : ∃ b, b = w.heap.size + 1 := ⟨_, rfl⟩
  obtain ⟨XB, hXB⟩ : ∃ b, b = w.heap.size + 2 := ⟨_, rfl⟩
  rw [show (((w.alloc (.cells #[.bool b0, .bool b1, .bool b2, .bool b3, .bool b4, .bool b5, .int .i64 mst] 53)).alloc (.cells #[.int .u8 0, .string ⟨#[]⟩, .slice none 0 0] 24))).heap.size = XB by rw [hXB]; simp, show (w.alloc (.cells #[.bool b0, .bool b1, .bool b2, .bool b3, .bool b4, .bool b5, .int .i64 mst] 53)).heap.size = RB by rw [hRB]; simp, ← hCB] at O3
  have O4 := (O3.nilPm 48).selK 4 [1, 0, 3, 2]
  have O5 : Own w0 _ (mailM XB CB RB #[.bool b0, .bool b1, .bool b2, .bool b3, .bool b4, .bool b5, .int .i64 mst] fr [] none 0 L) := O4
  clear O O1 O2 O3 O4
  have RES : Hid (∀ r, r = mailCm fr n b5 b2 b3 rq env → r = mailCm fr n b5 b2 b3 rq env) := fun _ h => h
  obtain ⟨R, hR⟩ : ∃ r, r = mailCm fr n b5 b2 b3 rq env := ⟨_, rfl⟩
  rw [← hR]
  have HR := Lib.hid hR
  clear hR RES
  have hw : -9223372036854775808 ≤ n ∧ n ≤ 9223372036854775807 := by
    have := hn
    simp [Lit.wf, IntKind.min, IntKind.max, IntKind.signed, IntKind.bits] at this
    omega
  have hil := Lib.itoa_length_le n hw.1 hw.2
  have HML : Hid (mailPs (Lib.itoa n) b5 b2 b3 rq env = addP b3 (!env.isEmpty) ([69, 78, 86, 73, 68], env) (addP b2 rq ([82, 69, 81, 85, 73, 82, 69, 84, 76, 83], []) (addP b5 true ([83, 73, 90, 69], Lib.itoa n) []))) := rfl
  have IT := Lib.hid (fun (w' : World) (L' : List Piece) (h : Own w0 w' L') => itoa7_own T h n hn)
  have SNO : Hid ((n < 0 ∨ envB env = false ∨ mayCm ⟨3, fr, mailPs (Lib.itoa n) b5 b2 b3 rq env⟩ = false) → R = none) := fun h => by rw [HR.out]; unfold mailCm; rw [if_pos h]
  have SYES : Hid (¬ n < 0 → envB env = true → mayCm ⟨3, fr, mailPs (Lib.itoa n) b5 b2 b3 rq env⟩ = true → R = some ⟨3, fr, mailPs (Lib.itoa n) b5 b2 b3 rq env⟩) := fun h1 h2 h3 => by
    rw [HR.out]; unfold mailCm; rw [if_neg]; rintro (h | h | h)
    · exact h1 h
    · rw [h2] at h; cases h
    · rw [h3] at h; cases h
  generalize mailPs (Lib.itoa n) b5 b2 b3 rq env = all at HML SNO SYES
  generalize Lib.itoa n = it at IT HML hil
  clear hn HR
  have HS : Hid (∀ w' ps a cap, Own w0 w' (mailM XB CB RB #[.bool b0, .bool b1, .bool b2, .bool b3, .bool b4, .bool b5, .int .i64 mst] fr ps a cap L) → w'.cell? ⟨CB, 5, none⟩ = some (.bool b5)) := fun w' ps a cap h => (h.pick 2).cell 5
  have HC : Hid (∀ w' ps a cap, Own w0 w' (mailM XB CB RB #[.bool b0, .bool b1, .bool b2, .bool b3, .bool b4, .bool b5, .int .i64 mst] fr ps a cap L) → w'.cell? ⟨CB, 2, none⟩ = some (.bool b2) ∧ w'.cell? ⟨CB, 3, none⟩ = some (.bool b3)) := fun w' ps a cap h => ⟨(h.pick 2).cell 2, (h.pick 2).cell 3⟩
  have HA : Hid (∀ w' ps a cap o k p, ps.length ≤ 1000 → Own w0 w' (mailM XB CB RB #[.bool b0, .bool b1, .bool b2, .bool b3, .bool b4, .bool b5, .int .i64 mst] fr ps a cap L) →
      Calls Tryz.prog 41 #[.bool o, .bool k, .string ⟨p.1.toArray⟩, .string ⟨p.2.toArray⟩, .pointer (some ⟨XB, 0, none⟩)] w' fun e w'' => ∃ u a' cap', e = .returned u ∧ Own w0 w'' (mailM XB CB RB #[.bool b0, .bool b1, .bool b2, .bool b3, .bool b4, .bool b5, .int .i64 mst] fr (addP o k p ps) a' cap' L)) :=
    fun w' ps a cap o k p hl h => add7_own h hl o k p
  generalize hcs : (#[.bool b0, .bool b1, .bool b2, .bool b3, .bool b4, .bool b5, .int .i64 mst] : Array Value) = cs at O5 HA HS HC
  go_enter Tryz.func19, Tryz.ntmps19
  go_upto_region 3 with fail
  rw [show w.heap.size + 1 + 1 = XB by omega, ← hRB, ← hCB]
  rw [hcs] at *
  generalize (((w.alloc (.cells cs 53)).alloc (.cells #[.int .u8 0, .string ⟨#[]⟩, .slice none 0 0] 24)).alloc (.cells #[.int .u8 3, .string ⟨fr.toArray⟩, .slice none 0 0] 24)) = W at O5 ⊢
  clear hCB hRB hXB
  have K0 := Lib.hid (HS.out _ _ _ _ O5)
  go_region_held3? (fun w' => w'.cell? ⟨CB, 5, none⟩ = some (.bool b5))
    (first | with_reducible exact K0.out | exact K0.out | exact (HS.out _ _ _ _ O6) | exact (HS.out _ _ _ _ O7))
    (first
      | (go_at_call 42; (with_reducible refine (IT.out _ _ O5.drew).mono ?_); rintro e1 ws1 ⟨rfl, O6⟩)
      | (go_at_call 41; (with_reducible refine (HA.out _ _ _ _ b5 true (([83, 73, 90, 69], it) : Pm) (by simp) O6).mono ?_); rintro e1 ws2 ⟨u1, a1, c1, rfl, O7⟩))
  clear K0 HS IT O5 O6
  generalize hp1 : addP b5 true (([83, 73, 90, 69], it) : Pm) [] = p1 at O7 HML
  have hl1 : p1.length ≤ 1 := by rw [← hp1]; exact addP_len _ _ _ _
  have hm1 : ∀ q ∈ p1, q.2.length ≤ 1000000 := fun q hq => by
    rw [← hp1] at hq
    rcases addP_mem hq with h | h
    · subst h; simp only; omega
    · cases h
  have HM1 := Lib.hid hm1
  clear hp1 hm1
  obtain ⟨d2, d3⟩ := HC.out _ _ _ _ O7
  clear d3
  go_wp2_with fail
  refine (HA.out _ _ _ _ b2 rq (([82, 69, 81, 85, 73, 82, 69, 84, 76, 83], []) : Pm) (by omega) O7).mono ?_
  clear O7 d2
  rintro e ws3 ⟨u2, a2, c2, rfl, O8⟩
  generalize hp2 : addP b2 rq (([82, 69, 81, 85, 73, 82, 69, 84, 76, 83], []) : Pm) p1 = p2 at O8 HML
  have hl2 : p2.length ≤ 2 := by rw [← hp2]; have := addP_len b2 rq (([82, 69, 81, 85, 73, 82, 69, 84, 76, 83], []) : Pm) p1; omega
  have hm2 : ∀ q ∈ p2, q.2.length ≤ 1000000 := fun q hq => by
    rw [← hp2] at hq
    rcases addP_mem hq with h | h
    · subst h; simp
    · exact HM1.out q h
  have HM2 := Lib.hid hm2
  clear hp2 hm2 HM1 hl1
  obtain ⟨d2, d3⟩ := HC.out _ _ _ _ O8
  clear d2
  go_wp2_with fail
  refine (HA.out _ _ _ _ b3 (!env.isEmpty) (([69, 78, 86, 73, 68], env) : Pm) (by omega) O8).mono ?_
  clear O8 d3
  rintro e ws4 ⟨u3, a3, c3, rfl, O9⟩
  have hl3 : all.length ≤ 3 := by rw [HML.out]; have := addP_len b3 (!env.isEmpty) (([69, 78, 86, 73, 68], env) : Pm) p2; omega
  have hm3 : ∀ q ∈ all, q.2.length ≤ 1000000 := fun q hq => by
    rw [HML.out] at hq
    rcases addP_mem hq with h | h
    · subst h; simp only; omega
    · exact HM2.out q h
  have HM3 := Lib.hid hm3
  rw [← HML.out] at O9
  clear hm3 HM2 hl2 HML
  obtain ⟨EV, hev⟩ : ∃ q, q = env.all envC := ⟨_, rfl⟩
  have hany : env.any (fun c => !envC c) = !EV := by rw [any_not, hev]
  obtain ⟨g, cap, W5, hcv, OA⟩ := O9.toBytes env
  have CF := hasB_own (cf := 44) env_any (enters_of Tryz.func44 (by kernel_rfl) rfl) OA cap (by omega) hany
  have HEV : Hid (envB env = (EV && decide (env.length ≤ 32))) := by unfold Hid envB; rw [hev]
  clear hany hev O9
  go_wp2_with fail
  refine CF.mono ?_
  clear CF hcv
  rintro e w6 ⟨rfl, rfl⟩
  replace OA := OA.drop
  by_cases h0 : n < 0
  · have RN := Lib.hid (SNO.out (.inl h0))
    clear SNO SYES HEV
    have OY := OA.pick 3
    have s0 := OY.cell 0
    have f0 := OY.free
    have P1 := OY.set 0 (.int .u8 0)
    have s1 := P1.cell 1
    have f1 := P1.free
    have P2 := P1.set 1 (.string ⟨#[]⟩)
    have s2 := P2.cell 2
    have f2 := P2.free
    have P3 := P2.set 2 (.slice none 0 0)
    have t0 := P3.cell 0
    have t1 := P3.cell 1
    have t2 := P3.cell 2
    go_wp2
    refine bodyPost_ret (v := .tuple #[.agg #[.int .u8 0, .string ⟨#[]⟩, .slice none 0 0], .int .i64 4]) (by simp [results, Tryz.results19, go_sem, t0, t1, t2]; try rfl) rfl ?_
    exact made_none RN.out P3.drop.drop.drop.drop
  cases EV
  · have RN := Lib.hid (SNO.out (.inr (.inl HEV.out)))
    clear SNO SYES HEV
    have OY := OA.pick 3
    have s0 := OY.cell 0
    have f0 := OY.free
    have P1 := OY.set 0 (.int .u8 0)
    have s1 := P1.cell 1
    have f1 := P1.free
    have P2 := P1.set 1 (.string ⟨#[]⟩)
    have s2 := P2.cell 2
    have f2 := P2.free
    have P3 := P2.set 2 (.slice none 0 0)
    have t0 := P3.cell 0
    have t1 := P3.cell 1
    have t2 := P3.cell 2
    go_wp2
    refine bodyPost_ret (v := .tuple #[.agg #[.int .u8 0, .string ⟨#[]⟩, .slice none 0 0], .int .i64 4]) (by simp [results, Tryz.results19, go_sem, t0, t1, t2]; try rfl) rfl ?_
    exact made_none RN.out P3.drop.drop.drop.drop
  by_cases h32 : 32 < env.length
  · have h32' : (32 : Int) < (env.length : Int) := by omega
    have RN := Lib.hid (SNO.out (.inr (.inl (HEV.out.trans (by rw [decide_eq_false (by omega)]; rfl)))))
    clear SNO SYES HEV
    have OY := OA.pick 3
    have s0 := OY.cell 0
    have f0 := OY.free
    have P1 := OY.set 0 (.int .u8 0)
    have s1 := P1.cell 1
    have f1 := P1.free
    have P2 := P1.set 1 (.string ⟨#[]⟩)
    have s2 := P2.cell 2
    have f2 := P2.free
    have P3 := P2.set 2 (.slice none 0 0)
    have t0 := P3.cell 0
    have t1 := P3.cell 1
    have t2 := P3.cell 2
    go_wp2
    refine bodyPost_ret (v := .tuple #[.agg #[.int .u8 0, .string ⟨#[]⟩, .slice none 0 0], .int .i64 4]) (by simp [results, Tryz.results19, go_sem, t0, t1, t2]; try rfl) rfl ?_
    exact made_none RN.out P3.drop.drop.drop.drop
  have h32' : ¬ (32 : Int) < (env.length : Int) := by omega
  have HE2 : Hid (envB env = true) := HEV.out.trans (by rw [decide_eq_true (by omega)]; rfl)
  obtain ⟨m, hm⟩ : ∃ m, mayCm ⟨3, fr, all⟩ = m := ⟨_, rfl⟩
  have MY := may7_own K OA ⟨3, fr, all⟩ (a := a3) (cap := c3) (n := all.length) rfl (by simp) (by simp only; omega) (by omega) (fun p hp => by have := HM3.out p hp; omega) (fun w' h => by
    have h2 : Own w0 w' (rowv 48 2 (.slice a3 all.length c3) all.length (flatP all) :: box CB cs 53 :: box RB #[.int .u8 0, .string ⟨#[]⟩, .slice none 0 0] 24 :: L) := h.drop
    exact h2.pmR) hm
  unfold cmV at MY
  have SN := Lib.hid (fun h => SNO.out (.inr (.inr (hm.trans h))))
  have SY := Lib.hid (fun h => SYES.out (by omega) HE2.out (hm.trans h))
  clear hm SNO SYES HEV HE2 h32
  have x0 := OA.cell 0
  have x1 := OA.cell 1
  have x2 := OA.cell 2
  generalize hN : all.length = N at OA MY x2 hl3
  go_wp2_with fail
  refine MY.mono ?_
  clear MY OA x0 x1 x2
  rintro e w7 ⟨rfl, OA⟩
  cases m
  · have RN := Lib.hid (SN.out rfl)
    clear SN SY
    have OY := OA.pick 3
    have s0 := OY.cell 0
    have f0 := OY.free
    have P1 := OY.set 0 (.int .u8 0)
    have s1 := P1.cell 1
    have f1 := P1.free
    have P2 := P1.set 1 (.string ⟨#[]⟩)
    have s2 := P2.cell 2
    have f2 := P2.free
    have P3 := P2.set 2 (.slice none 0 0)
    have t0 := P3.cell 0
    have t1 := P3.cell 1
    have t2 := P3.cell 2
    go_wp2
    refine bodyPost_ret (v := .tuple #[.agg #[.int .u8 0, .string ⟨#[]⟩, .slice none 0 0], .int .i64 4]) (by simp [results, Tryz.results19, go_sem, t0, t1, t2]; try rfl) rfl ?_
    exact made_none RN.out P3.drop.drop.drop.drop
  · have RY := Lib.hid (SY.out rfl)
    clear SN SY
    have x0 := OA.cell 0
    have x1 := OA.cell 1
    have x2 := OA.cell 2
    have OY := OA.pick 3
    have s0 := OY.cell 0
    have f0 := OY.free
    have P1 := OY.set 0 (.int .u8 3)
    have s1 := P1.cell 1
    have f1 := P1.free
    have P2 := P1.set 1 (.string ⟨fr.toArray⟩)
    have s2 := P2.cell 2
    have f2 := P2.free
    have P3 := P2.set 2 (.slice a3 N c3)
    have t0 := P3.cell 0
    have t1 := P3.cell 1
    have t2 := P3.cell 2
    go_wp2
    refine bodyPost_ret (v := .tuple #[.agg #[.int .u8 3, .string ⟨fr.toArray⟩, .slice a3 N c3], .int .i64 0]) (by simp [results, Tryz.results19, go_sem, t0, t1, t2]; try rfl) rfl ?_
    subst hN
    exact made_some RY.out rfl (P3.selK 4 [2])
def rcptPs (dsn never : Bool) : List Pm := bif dsn && never then [([78, 79, 84, 73, 70, 89], [78, 69, 86, 69, 82])] else []
/-- the RCPT to a peer -/
def rcptCm (to_ : List UInt8) (dsn never : Bool) : Option Cm := if mayCm ⟨4, to_, rcptPs dsn never⟩ = true then some ⟨4, to_, rcptPs dsn never⟩ else none
theorem Own.onePm {w0 w : World} {L : List Piece} (h : Own w0 w L) (p : Pm) (e : TypeId) : Own w0 (w.alloc (.cells #[.string ⟨p.1.toArray⟩, .string ⟨p.2.toArray⟩] e)) (rowv e 2 (.slice (some ⟨w.heap.size, 0, none⟩) 1 1) 1 (flatP [p]) :: L) :=
  h.new ((Chg.refl [] w).alloc _) (rowv e 2 _ 1 (flatP [p])) (F := [w.heap.size]) ⟨⟨by simp [flatP], .inr ⟨w.heap.size, 1, #[.string ⟨p.1.toArray⟩, .string ⟨p.2.toArray⟩], rfl, h.size, heap_alloc_new _ _, by omega, by unfold maxLen; omega, by simp, by simp [flatP]⟩⟩, rfl⟩ (by simp)
set_option maxRecDepth 100000 in
set_option maxHeartbeats 4000000 in
theorem rcpt7_own {w0 w : World} {L : List Piece} (K : Kinds w0) (O : Own w0 w L) (fr : List UInt8) (hf : fr.length ≤ 1000000) (b0 b1 b2 b3 b4 b5 : Bool) (mst : Int) (nv : Bool) :
    Calls Tryz.prog 21 #[.string ⟨fr.toArray⟩, capsV b0 b1 b2 b3 b4 b5 mst, .bool nv] w (MadePost w0 L (rcptCm fr b3 nv)) := by
  unfold capsV
  have O1 := O.newBox #[.bool b0, .bool b1, .bool b2, .bool b3, .bool b4, .bool b5, .int .i64 mst] 53
  have O2 := O1.newBox #[.int .u8 0, .string ⟨#[]⟩, .slice none 0 0] 24
  have O3 := O2.newBox #[.int .u8 4, .string ⟨fr.toArray⟩, .slice none 0 0] 24
  obtain ⟨CB, hCB⟩ : ∃ b, b = w.heap.size := ⟨_, rfl⟩
  obtain ⟨RB, hRB⟩ : ∃ b, b = w.heap.size + 1 := ⟨_, rfl⟩
  obtain ⟨XB, hXB⟩ : ∃ b, b = w.heap.size + 2 := ⟨_, rfl⟩
  rw [show (((w.alloc (.cells #[.bool b0, .bool b1, .bool b2, .bool b3, .bool b4, .bool b5, .int .i64 mst] 53)).alloc (.cells #[.int .u8 0, .string ⟨#[]⟩, .slice none 0 0] 24))).heap.size = XB by rw [hXB]; simp, show (w.alloc (.cells #[.bool b0, .bool b1, .bool b2, .bool b3, .bool b4, .bool b5, .int .i64 mst] 53)).heap.size = RB by rw [hRB]; simp, ← hCB] at O3
  clear O O1 O2
  obtain ⟨R, hR⟩ : ∃ r, r = rcptCm fr b3 nv := ⟨_, rfl⟩
  rw [← hR]
  have SN : Hid (mayCm ⟨4, fr, rcptPs b3 nv⟩ = false → R = none) := fun h => by rw [hR]; unfold rcptCm; rw [h]; rfl
  have SY : Hid (mayCm ⟨4, fr, rcptPs b3 nv⟩ = true → R = some ⟨4, fr, rcptPs b3 nv⟩) := fun h => by rw [hR]; unfold rcptCm; rw [if_pos h]
  clear hR
  have WH : Hid (w.heap.size = CB ∧ w.heap.size + 1 = RB ∧ w.heap.size + 1 + 1 = XB) := by unfold Hid; omega
  have HDN : Hid (((b3 && nv) = false ∧ rcptPs b3 nv = []) ∨ (b3 = true ∧ nv = true ∧ rcptPs b3 nv = [([78, 79, 84, 73, 70, 89], [78, 69, 86, 69, 82])])) := by
    cases b3 <;> cases nv <;> simp [rcptPs, Hid]
  clear hCB hRB hXB
  generalize rcptPs b3 nv = ps at SN SY HDN
  have HM3 : Hid (∀ q ∈ ps, q.2.length ≤ 1000) := by
    rcases HDN.out with ⟨-, h⟩ | ⟨-, -, h⟩
    · rw [h]; intro q hq; cases hq
    · rw [h]; intro q hq; simp at hq; subst hq; simp
  go_enter Tryz.func21, Tryz.ntmps21
  go_upto_region 2 with fail
  rw [WH.out.2.2, WH.out.2.1, WH.out.1]
  generalize (((w.alloc (.cells #[.bool b0, .bool b1, .bool b2, .bool b3, .bool b4, .bool b5, .int .i64 mst] 53)).alloc (.cells #[.int .u8 0, .string ⟨#[]⟩, .slice none 0 0] 24)).alloc (.cells #[.int .u8 4, .string ⟨fr.toArray⟩, .slice none 0 0] 24)) = W at O3 ⊢
  clear WH
  have d3 : W.cell? ⟨CB, 3, none⟩ = some (.bool b3) := (O3.pick 2).cell 3
  have x0 := O3.cell 0
  have x1 := O3.cell 1
  have x2 := O3.cell 2
  have xf := O3.free
  have OC : Own w0 W (box XB #[.int .u8 4, .string ⟨fr.toArray⟩, .slice none 0 0] 24 :: box RB #[.int .u8 0, .string ⟨#[]⟩, .slice none 0 0] 24 :: L) := O3.selK 3 [0, 1]
  clear O3
  obtain ⟨N, hN⟩ : ∃ n, n = ps.length := ⟨_, rfl⟩
  have TAIL : Hid (∀ (w' : World) (a : Option Addr) (cap : Nat), Own w0 w' (box XB #[.int .u8 4, .string ⟨fr.toArray⟩, .slice a N cap] 24 :: rowv 48 2 (.slice a N cap) N (flatP ps) :: box RB #[.int .u8 0, .string ⟨#[]⟩, .slice none 0 0] 24 :: L) →
      Calls Tryz.prog 12 #[.agg #[.int .u8 4, .string ⟨fr.toArray⟩, .slice a N cap]] w' fun e w'' => e = .returned (.bool (mayCm ⟨4, fr, ps⟩)) ∧ Own w0 w'' (box XB #[.int .u8 4, .string ⟨fr.toArray⟩, .slice a N cap] 24 :: rowv 48 2 (.slice a N cap) N (flatP ps) :: box RB #[.int .u8 0, .string ⟨#[]⟩, .slice none 0 0] 24 :: L)) := fun w' a cap OA =>
    may7_own K OA ⟨4, fr, ps⟩ (a := a) (cap := cap) (n := N) hN (by simp) (by simp only; omega) (by
      rcases HDN.out with ⟨-, h⟩ | ⟨-, -, h⟩ <;> (rw [h] at hN; simp at hN; omega)) (fun p hp => by have := HM3.out p hp; omega) (fun w' h => by
      have h2 : Own w0 w' (rowv 48 2 (.slice a N cap) N (flatP ps) :: box RB #[.int .u8 0, .string ⟨#[]⟩, .slice none 0 0] 24 :: L) := h.drop
      exact h2.pmR) rfl
  have HNN := Lib.hid hN
  clear hN
  generalize mayCm ⟨4, fr, ps⟩ = m at SN SY TAIL
  rcases HDN.out with ⟨hno, hps⟩ | ⟨hb3, hnv, hps⟩
  rotate_left
  · have hN1 : N = 1 := by rw [HNN.out, hps]; rfl
    subst hb3 hnv hN1
    have OA := (OC.onePm (([78, 79, 84, 73, 70, 89], [78, 69, 86, 69, 82]) : Pm) 48).pick 1
    rw [← hps] at OA
    have x2' := OA.cell 2
    have xf' := OA.free
    have OB := OA.set 2 (.slice (some ⟨W.heap.size, 0, none⟩) 1 1)
    have OX : Own w0 _ (box XB #[.int .u8 4, .string ⟨fr.toArray⟩, .slice (some ⟨W.heap.size, 0, none⟩) 1 1] 24 :: rowv 48 2 (.slice (some ⟨W.heap.size, 0, none⟩) 1 1) 1 (flatP ps) :: box RB #[.int .u8 0, .string ⟨#[]⟩, .slice none 0 0] 24 :: L) := OB
    clear OA OB HDN OC
    have y0 := OX.cell 0
    have y1 := OX.cell 1
    have y2 := OX.cell 2
    clear hps
    go_wp2_with fail
    refine (TAIL.out _ _ _ OX).mono ?_
    clear TAIL OX y0 y1 y2
    rintro e w7 ⟨rfl, OX⟩
    cases m
    · have RN := Lib.hid (SN.out rfl)
      clear SN SY
      have OY := OX.pick 2
      have s0 := OY.cell 0
      have f0 := OY.free
      have P1 := OY.set 0 (.int .u8 0)
      have s1 := P1.cell 1
      have f1 := P1.free
      have P2 := P1.set 1 (.string ⟨#[]⟩)
      have s2 := P2.cell 2
      have f2 := P2.free
      have P3 := P2.set 2 (.slice none 0 0)
      have t0 := P3.cell 0
      have t1 := P3.cell 1
      have t2 := P3.cell 2
      go_wp2
      refine bodyPost_ret (v := .tuple #[.agg #[.int .u8 0, .string ⟨#[]⟩, .slice none 0 0], .int .i64 4]) (by simp [results, Tryz.results21, go_sem, t0, t1, t2]; try rfl) rfl ?_
      exact made_none RN.out P3.drop.drop.drop
    · have RY := Lib.hid (SY.out rfl)
      clear SN SY
      have x0 := OX.cell 0
      have x1 := OX.cell 1
      have x2 := OX.cell 2
      have OY := OX.pick 2
      have s0 := OY.cell 0
      have f0 := OY.free
      have P1 := OY.set 0 (.int .u8 4)
      have s1 := P1.cell 1
      have f1 := P1.free
      have P2 := P1.set 1 (.string ⟨fr.toArray⟩)
      have s2 := P2.cell 2
      have f2 := P2.free
      have P3 := P2.set 2 (.slice (some ⟨W.heap.size, 0, none⟩) 1 1)
      have t0 := P3.cell 0
      have t1 := P3.cell 1
      have t2 := P3.cell 2
      go_wp2
      refine bodyPost_ret (v := .tuple #[.agg #[.int .u8 4, .string ⟨fr.toArray⟩, .slice (some ⟨W.heap.size, 0, none⟩) 1 1], .int .i64 0]) (by simp [results, Tryz.results21, go_sem, t0, t1, t2]; try rfl) rfl ?_
      exact made_some RY.out HNN.out (P3.selK 3 [2])
  · have hN0 : N = 0 := by rw [HNN.out, hps]; rfl
    subst hN0
    have OX : Own w0 W (box XB #[.int .u8 4, .string ⟨fr.toArray⟩, .slice none 0 0] 24 :: rowv 48 2 (.slice none 0 0) 0 (flatP ps) :: box RB #[.int .u8 0, .string ⟨#[]⟩, .slice none 0 0] 24 :: L) := by rw [hps]; exact (OC.nilPm 48).pick 1
    clear HDN OC hps
    have y0 := OX.cell 0
    have y1 := OX.cell 1
    have y2 := OX.cell 2
    cases b3
    · go_wp2_with fail
      refine (TAIL.out _ _ _ OX).mono ?_
      clear TAIL OX y0 y1 y2
      rintro e w7 ⟨rfl, OX⟩
      cases m
      · have RN := Lib.hid (SN.out rfl)
        clear SN SY
        have OY := OX.pick 2
        have s0 := OY.cell 0
        have f0 := OY.free
        have P1 := OY.set 0 (.int .u8 0)
        have s1 := P1.cell 1
        have f1 := P1.free
        have P2 := P1.set 1 (.string ⟨#[]⟩)
        have s2 := P2.cell 2
        have f2 := P2.free
        have P3 := P2.set 2 (.slice none 0 0)
        have t0 := P3.cell 0
        have t1 := P3.cell 1
        have t2 := P3.cell 2
        go_wp2
        refine bodyPost_ret (v := .tuple #[.agg #[.int .u8 0, .string ⟨#[]⟩, .slice none 0 0], .int .i64 4]) (by simp [results, Tryz.results21, go_sem, t0, t1, t2]; try rfl) rfl ?_
        exact made_none RN.out P3.drop.drop.drop
      · have RY := Lib.hid (SY.out rfl)
        clear SN SY
        have x0 := OX.cell 0
        have x1 := OX.cell 1
        have x2 := OX.cell 2
        have OY := OX.pick 2
        have s0 := OY.cell 0
        have f0 := OY.free
        have P1 := OY.set 0 (.int .u8 4)
        have s1 := P1.cell 1
        have f1 := P1.free
        have P2 := P1.set 1 (.string ⟨fr.toArray⟩)
        have s2 := P2.cell 2
        have f2 := P2.free
        have P3 := P2.set 2 (.slice none 0 0)
        have t0 := P3.cell 0
        have t1 := P3.cell 1
        have t2 := P3.cell 2
        go_wp2
        refine bodyPost_ret (v := .tuple #[.agg #[.int .u8 4, .string ⟨fr.toArray⟩, .slice none 0 0], .int .i64 0]) (by simp [results, Tryz.results21, go_sem, t0, t1, t2]; try rfl) rfl ?_
        exact made_some RY.out HNN.out (P3.selK 3 [2])
    · cases nv
      rotate_left
      · cases hno
      · go_wp2_with fail
        refine (TAIL.out _ _ _ OX).mono ?_
        clear TAIL OX y0 y1 y2
        rintro e w7 ⟨rfl, OX⟩
        cases m
        · have RN := Lib.hid (SN.out rfl)
          clear SN SY
          have OY := OX.pick 2
          have s0 := OY.cell 0
          have f0 := OY.free
          have P1 := OY.set 0 (.int .u8 0)
          have s1 := P1.cell 1
          have f1 := P1.free
          have P2 := P1.set 1 (.string ⟨#[]⟩)
          have s2 := P2.cell 2
          have f2 := P2.free
          have P3 := P2.set 2 (.slice none 0 0)
          have t0 := P3.cell 0
          have t1 := P3.cell 1
          have t2 := P3.cell 2
          go_wp2
          refine bodyPost_ret (v := .tuple #[.agg #[.int .u8 0, .string ⟨#[]⟩, .slice none 0 0], .int .i64 4]) (by simp [results, Tryz.results21, go_sem, t0, t1, t2]; try rfl) rfl ?_
          exact made_none RN.out P3.drop.drop.drop
        · have RY := Lib.hid (SY.out rfl)
          clear SN SY
          have x0 := OX.cell 0
          have x1 := OX.cell 1
          have x2 := OX.cell 2
          have OY := OX.pick 2
          have s0 := OY.cell 0
          have f0 := OY.free
          have P1 := OY.set 0 (.int .u8 4)
          have s1 := P1.cell 1
          have f1 := P1.free
          have P2 := P1.set 1 (.string ⟨fr.toArray⟩)
          have s2 := P2.cell 2
          have f2 := P2.free
          have P3 := P2.set 2 (.slice none 0 0)
          have t0 := P3.cell 0
          have t1 := P3.cell 1
          have t2 := P3.cell 2
          go_wp2
          refine bodyPost_ret (v := .tuple #[.agg #[.int .u8 4, .string ⟨fr.toArray⟩, .slice none 0 0], .int .i64 0]) (by simp [results, Tryz.results21, go_sem, t0, t1, t2]; try rfl) rfl ?_
          exact made_some RY.out HNN.out (P3.selK 3 [2])
end Go.Proofs.YtehkdbgoeakgbaaGreatDoor
