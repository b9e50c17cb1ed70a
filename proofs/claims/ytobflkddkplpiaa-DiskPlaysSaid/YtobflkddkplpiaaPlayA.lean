/- mailroomref10.Disk: the object, and what is small of it. -/
import Derived.Test.YtobflkddkplpiaaKeptC
import Derived.Test.YtobflkddkplpiaaStep
namespace Go.Proofs.Ytobflkddkplpiaa
set_option linter.all false
open Go.RowKit Go.Maps

def wetB (m : Dk) : List Bool := (List.range m.n).map fun k : Nat => (m.was k).isSome
structure Rel (m : Dk) (f : Bool) (lf : Int) : Prop where
  on : f = true → lf = (m.left : Int) ∧ (m.off = false → 0 < m.left)
  none : f = false → m.left = 0
def xcells (m : Dk) (aw : Option Addr) (cw : Nat) (an : Option Addr) (cn : Nat) (at0 : Option Addr) (ct : Nat) (f : Bool) (lf : Int) : Array Value :=
  #[.slice aw m.n cw, .slice an m.n cn, .slice at0 m.n ct, .int .i64 m.ops, .int .i64 lf, .bool f, .bool m.off]
structure XS where
  b : Nat
  aw : Option Addr
  cw : Nat
  an : Option Addr
  cn : Nat
  at0 : Option Addr
  ct : Nat
  f : Bool
  lf : Int
def xk (p : Value) (m : Dk) : Piece :=
  ex fun x : XS => both (fact (p = .pointer (some ⟨x.b, 0, none⟩) ∧ Rel m x.f x.lf)) (both (box x.b (xcells m x.aw x.cw x.an x.cn x.at0 x.ct x.f x.lf) 74) (both (strs (.slice x.aw m.n x.cw) m.wasL) (both (strs (.slice x.an m.n x.cn) m.nowL) (rowv 4 1 (.slice x.at0 m.n x.ct) m.n (Bv (wetB m))))))
theorem Own.xkE {w0 w : World} {L : List Piece} {p : Value} {m : Dk} (O : Own w0 w (xk p m :: L)) : ∃ b aw cw an cn at0 ct f lf, p = .pointer (some ⟨b, 0, none⟩) ∧ Rel m f lf ∧
    Own w0 w (box b (xcells m aw cw an cn at0 ct f lf) 74 :: strs (.slice aw m.n cw) m.wasL :: strs (.slice an m.n cn) m.nowL :: rowv 4 1 (.slice at0 m.n ct) m.n (Bv (wetB m)) :: L) := by
  obtain ⟨⟨b, aw, cw, an, cn, at0, ct, f, lf⟩, O⟩ := O.exE
  obtain ⟨⟨hp, hr⟩, O⟩ := O.unpack.factE
  have O1 := O.unpack
  have O2 := (O1.pick 1).unpack
  have O3 := (O2.pick 1).unpack
  exact ⟨b, aw, cw, an, cn, at0, ct, f, lf, hp, hr, O3.selK 4 [3, 2, 0, 1]⟩
theorem Own.xkI {w0 w : World} {L : List Piece} {m : Dk} {b : Nat} {aw an at0 : Option Addr} {cw cn ct : Nat} {f : Bool} {lf : Int} (hr : Rel m f lf)
    (O : Own w0 w (box b (xcells m aw cw an cn at0 ct f lf) 74 :: strs (.slice aw m.n cw) m.wasL :: strs (.slice an m.n cn) m.nowL :: rowv 4 1 (.slice at0 m.n ct) m.n (Bv (wetB m)) :: L)) :
    Own w0 w (xk (.pointer (some ⟨b, 0, none⟩)) m :: L) := by
  have O1 := (O.selK 4 [2, 3, 1, 0]).pack
  have O2 := (O1.selK 3 [1, 0, 2]).pack
  have O3 := (O2.selK 2 [1, 0]).pack
  exact Own.exI (⟨b, aw, cw, an, cn, at0, ct, f, lf⟩ : XS) (Own.pack (Own.factI ⟨rfl, hr⟩ O3))
structure XAt (w : World) (b : Nat) (m : Dk) (aw : Option Addr) (cw : Nat) (an : Option Addr) (cn : Nat) (at0 : Option Addr) (ct : Nat) (f : Bool) (lf : Int) : Prop where
  c0 : w.cell? ⟨b, 0, none⟩ = some (.slice aw m.n cw)
  c1 : w.cell? ⟨b, 1, none⟩ = some (.slice an m.n cn)
  c2 : w.cell? ⟨b, 2, none⟩ = some (.slice at0 m.n ct)
  c3 : w.cell? ⟨b, 3, none⟩ = some (.int .i64 m.ops)
  c4 : w.cell? ⟨b, 4, none⟩ = some (.int .i64 lf)
  c5 : w.cell? ⟨b, 5, none⟩ = some (.bool f)
  c6 : w.cell? ⟨b, 6, none⟩ = some (.bool m.off)
  fr : ∀ o, w.frozen? ⟨b, o, none⟩ = false
theorem Own.xAt {w0 w : World} {L : List Piece} {m : Dk} {b : Nat} {aw an at0 : Option Addr} {cw cn ct : Nat} {f : Bool} {lf : Int} (O : Own w0 w (box b (xcells m aw cw an cn at0 ct f lf) 74 :: L)) : XAt w b m aw cw an cn at0 ct f lf :=
  ⟨O.cell 0, O.cell 1, O.cell 2, O.cell 3, O.cell 4, O.cell 5, O.cell 6, fun o => O.free o⟩

set_option maxRecDepth 100000 in
theorem xread_own {w0 w : World} {L : List Piece} {p : Value} {m : Dk} (O : Own w0 w (xk p m :: L)) (k : Int) (hk : I64 k) :
    Calls Try.prog 42 #[p, .int .i64 k] w fun e w' => e = .returned (.tuple #[.string ⟨(m.read k).1.toArray⟩, .int .i64 (m.read k).2]) ∧ w = w' := by
  obtain ⟨b, aw, cw, an, cn, at0, ct, f, lf, hp, hr, U⟩ := O.xkE
  subst hp
  obtain ⟨c0, c1, c2, c3, c4, c5, c6, fr⟩ := U.xAt
  rcases Bool.eq_false_or_eq_true m.off with ho | ho
  · have hrd : m.read k = ([], 42) := by unfold Dk.read; rw [if_pos ho]
    rw [ho] at c6
    have HR := Lib.hid hrd
    clear hrd ho U O hr
    rw [HR.out]
    go_enter Try.func42, Try.ntmps42
    go_wp2
    go_returns
    exact ⟨rfl, rfl⟩
  rw [ho] at c6
  by_cases h1 : k < 0
  · have hrd : m.read k = ([], 1) := by unfold Dk.read; rw [if_neg (by simp [ho]), if_pos (.inl h1)]
    have HR := Lib.hid hrd
    clear hrd ho U O hr
    rw [HR.out]
    go_enter Try.func42, Try.ntmps42
    go_wp2
    go_returns
    exact ⟨rfl, rfl⟩
  by_cases h2 : (m.n : Int) ≤ k
  · have hrd : m.read k = ([], 1) := by unfold Dk.read; rw [if_neg (by simp [ho]), if_pos (.inr h2)]
    have HR := Lib.hid hrd
    clear hrd ho U O hr
    rw [HR.out]
    go_enter Try.func42, Try.ntmps42
    go_wp2
    go_returns
    exact ⟨rfl, rfl⟩
  obtain ⟨j, rfl⟩ : ∃ j : Nat, k = (j : Int) := ⟨k.toNat, by omega⟩
  have hj : j < m.n := by omega
  have hjb : (j : Int) < (m.n : Int) := by omega
  obtain ⟨-, gn, e1, cj, -⟩ := (U.pick 2).strsAt j (by rw [nowL_len]; exact hj)
  subst e1
  rw [show m.nowL[j]'(by rw [nowL_len]; exact hj) = m.get j from by
    have := nowL_at hj; rw [List.getElem?_eq_getElem (by rw [nowL_len]; exact hj)] at this; exact Option.some.inj this] at cj
  have HR := Lib.hid (read_in ho hj)
  rw [HR.out]
  clear ho U O hr h1 h2 hj
  go_enter Try.func42, Try.ntmps42
  go_wp2
  go_returns
  exact ⟨rfl, rfl⟩
theorem Rel.did {m : Dk} {f : Bool} {lf : Int} (h : Rel m f lf) (ho : m.off = false) : Rel m.did f (if f = true then lf - 1 else lf) ∧ m.did.off = if f = true then decide (lf - 1 = 0) else false := by
  cases f
  · have := h.none rfl
    refine ⟨⟨fun e => (by cases e), fun _ => ?_⟩, ?_⟩
    · show m.left - 1 = 0; omega
    · simp [Dk.did, this, ho]
  · obtain ⟨e, hp⟩ := h.on rfl
    have hp := hp ho
    refine ⟨⟨fun _ => ⟨?_, fun ho' => ?_⟩, fun e => (by cases e)⟩, ?_⟩
    · show (if true = true then lf - 1 else lf) = ((m.left - 1 : Nat) : Int); simp; omega
    · show 0 < m.left - 1
      have : (if 0 < m.left then decide (m.left = 1) else m.off) = false := ho'
      rw [if_pos hp] at this
      simp at this
      omega
    · show (if 0 < m.left then decide (m.left = 1) else m.off) = if true = true then decide (lf - 1 = 0) else false
      rw [if_pos hp, if_pos rfl]
      congr 1
      apply propext
      omega
set_option maxRecDepth 100000 in
theorem xdid_own {w0 w : World} {L : List Piece} {p : Value} {m : Dk} (O : Own w0 w (xk p m :: L)) (ho : m.off = false) (h1 : m.ops ≤ 100000) (h2 : m.left ≤ 9223372036854775807) :
    Calls Try.prog 48 #[p] w fun e w' => e = .returned (.tuple #[]) ∧ Own w0 w' (xk p m.did :: L) := by
  obtain ⟨b, aw, cw, an, cn, at0, ct, f, lf, hp, hr, U⟩ := O.xkE
  subst hp
  obtain ⟨r1, r2⟩ := hr.did ho
  obtain ⟨c0, c1, c2, c3, c4, c5, c6, fr⟩ := U.xAt
  cases f
  · have O2 : Own w0 (w.setCell ⟨b, 3, none⟩ (.int .i64 ((m.ops : Int) + 1))) (xk (.pointer (some ⟨b, 0, none⟩)) m.did :: L) := by
      refine Own.xkI (aw := aw) (cw := cw) (an := an) (cn := cn) (at0 := at0) (ct := ct) r1 ?_
      have := U.set 3 (.int .i64 ((m.ops : Int) + 1))
      have e : xcells m.did aw cw an cn at0 ct false lf = (xcells m aw cw an cn at0 ct false lf).setIfInBounds 3 (.int .i64 ((m.ops : Int) + 1)) := by
        simp only [if_neg (show ¬ (false = true) from by simp)] at r2
        unfold xcells
        rw [r2, ho]
        rfl
      rw [if_neg (by simp), e]
      exact this
    clear O U hr r1 r2 ho
    go_enter Try.func48, Try.ntmps48
    go_wp2
    go_end0
    exact ⟨rfl, O2⟩
  · obtain ⟨hlf, hp⟩ := hr.on rfl
    have hp := hp ho
    have hl1 : 1 ≤ lf := by omega
    have hl2 : lf ≤ 9223372036854775807 := by omega
    have O2 : Own w0 (((w.setCell ⟨b, 3, none⟩ (.int .i64 ((m.ops : Int) + 1))).setCell ⟨b, 4, none⟩ (.int .i64 (lf - 1))).setCell ⟨b, 6, none⟩ (.bool (lf - 1 == 0))) (xk (.pointer (some ⟨b, 0, none⟩)) m.did :: L) := by
      refine Own.xkI (aw := aw) (cw := cw) (an := an) (cn := cn) (at0 := at0) (ct := ct) r1 ?_
      have := ((U.set 3 (.int .i64 ((m.ops : Int) + 1))).set 4 (.int .i64 (lf - 1))).set 6 (.bool (lf - 1 == 0))
      have e : xcells m.did aw cw an cn at0 ct true (lf - 1) = (((xcells m aw cw an cn at0 ct true lf).setIfInBounds 3 (.int .i64 ((m.ops : Int) + 1))).setIfInBounds 4 (.int .i64 (lf - 1))).setIfInBounds 6 (.bool (lf - 1 == 0)) := by
        simp only [if_pos] at r2
        unfold xcells
        rw [r2]
        rfl
      rw [if_pos rfl, e]
      exact this
    clear O U hr r1 r2 ho hp hlf
    go_enter Try.func48, Try.ntmps48
    go_wp2
    go_end0
    exact ⟨rfl, O2⟩
end Go.Proofs.Ytobflkddkplpiaa
