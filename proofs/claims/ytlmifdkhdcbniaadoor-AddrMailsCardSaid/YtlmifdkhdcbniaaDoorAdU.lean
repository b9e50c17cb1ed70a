/- addr: what a mail is in memory; Mail. -/
import Derived.Test.YtlmifdkhdcbniaaDoorAdT
namespace Go.Proofs.YtlmifdkhdcbniaaDoor
set_option linter.all false
open Go.RowKit

/-- a mail: what it says, and where its recipients lie -/
structure Ml where
  frm : List UInt8
  ra : Option Addr
  rcap : Nat
  rc : List (List UInt8 × Bool)
  req : Bool
  env : List UInt8
  txt : List UInt8
def Ml.cells (m : Ml) : Array Value := #[.string ⟨m.frm.toArray⟩, .slice m.ra m.rc.length m.rcap, .bool m.req, .string ⟨m.env.toArray⟩, .string ⟨m.txt.toArray⟩]
def Ml.val (m : Ml) : Value := .agg m.cells
/-- recipients that can be read -/
def RcR (w : World) (ra : Option Addr) (rc : List (List UInt8 × Bool)) (G : List Nat) : Prop :=
  0 < rc.length → ∃ g off, ra = some ⟨g, off, none⟩ ∧ g ∈ G ∧ ∀ i (h : i < rc.length), w.cell? ⟨g, off + i * 2, none⟩ = some (.string ⟨rc[i].1.toArray⟩) ∧ w.cell? ⟨g, off + i * 2 + 1, none⟩ = some (.bool rc[i].2)
theorem RcR.keep {w w' : World} {ra : Option Addr} {rc : List (List UInt8 × Bool)} {G S : List Nat} (h : RcR w ra rc G) (hc : Chg S w w') (hS : ∀ k, k ∈ G → k ∉ S) : RcR w' ra rc G := by
  intro hp
  obtain ⟨g, off, e, hg, hcell⟩ := h hp
  exact ⟨g, off, e, hg, fun i hi => ⟨hc.cell (hcell i hi).1 (hS g hg), hc.cell (hcell i hi).2 (hS g hg)⟩⟩
theorem RcR.own {w0 w : World} {L : List Piece} {ra : Option Addr} {rc : List (List UInt8 × Bool)} {G : List Nat} (h : RcR w0 ra rc G) (O : Own w0 w L) : RcR w ra rc G := h.keep O.chg (by simp)
/-- whether the recipients behind those seen may be -/
def rcOk : List (List UInt8 × Bool) → List (List UInt8 × Bool) → Bool
  | _, [] => true
  | seen, r :: rest => (parseB r.1 && !(seen.any fun y => sameB y.1 r.1)) && rcOk (seen ++ [r]) rest
def Ml.head (m : Ml) : Bool := (m.frm.isEmpty || parseB m.frm) && (decide (0 < m.rc.length) && (decide (m.env.length ≤ 32) && (linesB m.txt && m.env.all idc)))
def Ml.err (m : Ml) (rcpts most : Int) : Int := if most < (m.txt.length : Int) ∨ rcpts < (m.rc.length : Int) then 40 else if (m.head && rcOk [] m.rc) = true then 0 else 4

theorem mail2_own {w0 w : World} {L : List Piece} {R : Nat} {x : List UInt8} {xb : Bool} (K : Kinds w0) (O : Own w0 w (box R #[.string ⟨x.toArray⟩, .bool xb] 43 :: L)) (hx : x.length ≤ 100000000) (y : List UInt8) (yb : Bool) (hy : y.length ≤ 100000000) :
    Calls Tryd.prog 52 #[.agg #[.string ⟨y.toArray⟩, .bool yb], .pointer (some ⟨R, 0, none⟩)] w fun e w' => e = .returned (.bool (sameB y x)) ∧ Own w0 w' (box R #[.string ⟨x.toArray⟩, .bool xb] 43 :: L) := by
  have O2 := O.newBox #[.string ⟨y.toArray⟩, .bool yb] 43
  have c0 : (w.alloc (.cells #[.string ⟨y.toArray⟩, .bool yb] 43)).cell? ⟨R, 0, none⟩ = some (.string ⟨x.toArray⟩) := (O2.pick 1).cell 0
  go_enter Tryd.func52, Tryd.ntmps52
  go_wp2_with fail
  refine (same4_own K O2.drop y x hy hx).mono ?_
  clear O O2 c0
  rintro e w1 ⟨rfl, O⟩
  go_wp2
  go_ret
  exact ⟨rfl, O⟩
def IxPost (w0 : World) (L : List Piece) (b : Bool) (e : Ending) (w' : World) : Prop := ∃ n : Int, e = .returned (.int .i64 n) ∧ decide (0 ≤ n) = b ∧ Own w0 w' L
set_option maxHeartbeats 1000000 in
theorem indexRc_own {w0 w : World} {L : List Piece} {R : Nat} {x : List UInt8} {xb : Bool} (K : Kinds w0) (O : Own w0 w (box R #[.string ⟨x.toArray⟩, .bool xb] 43 :: L)) (hx : x.length ≤ 100000000)
    {ra : Option Addr} {rc : List (List UInt8 × Bool)} {G : List Nat} (cap : Nat) (hr : RcR w0 ra rc G) (hl : ∀ r, r ∈ rc → r.1.length ≤ 100000000) (hn : rc.length ≤ 100000000) :
    Calls Tryd.prog 69 #[.slice ra rc.length cap, .func (.func 52) #[] #[.pointer (some ⟨R, 0, none⟩)]] w
      (IxPost w0 (box R #[.string ⟨x.toArray⟩, .bool xb] 43 :: L) (rc.any fun y => sameB y.1 x)) := by
  obtain ⟨N, hN⟩ : ∃ n, n = rc.length := ⟨_, rfl⟩
  rw [← hN]
  have HNN := Lib.hid hN
  have HNB := Lib.hid (show N ≤ 100000000 by omega)
  clear hN hn
  go_enter Tryd.func69, Tryd.ntmps69
  go_wp2
  go_loopw [8] (fun i wr => ∃ k : Nat, k ≤ N ∧ i = .int .i64 k ∧ (rc.take k).any (fun y => sameB y.1 x) = false ∧ Own w0 wr (box R #[.string ⟨x.toArray⟩, .bool xb] 43 :: L)) (fun i _ => N - (intOf i).toNat)
  case atStart => exact ⟨0, by omega, rfl, rfl, O⟩
  case round =>
    clear O
    obtain ⟨k, hk, rfl, ha, O⟩ := hrel
    have HA := Lib.hid ha
    clear ha
    have hNB := HNB.out
    by_cases hlt : k < N
    · have hb1 : (k : Int) < (N : Int) := by omega
      have hkl : k < rc.length := by have := HNN.out; omega
      obtain ⟨g, off, rfl, hg, hcell⟩ := (hr.own O) (by omega)
      obtain ⟨c0, c1⟩ := hcell k hkl
      have hly := hl _ (List.getElem_mem hkl)
      have NX : Hid ((rc.take (k + 1)).any (fun y => sameB y.1 x) = sameB rc[k].1 x) := by
        unfold Hid; rw [List.take_succ_eq_append_getElem hkl, List.any_append, HA.out]; simp
      have YES : Hid (sameB rc[k].1 x = true → rc.any (fun y => sameB y.1 x) = true) := by
        unfold Hid; intro h; exact List.any_eq_true.2 ⟨rc[k], List.getElem_mem hkl, h⟩
      generalize rc[k] = y at c0 c1 hly NX YES
      obtain ⟨y, yb⟩ := y
      simp only at c0 c1 hly NX YES
      clear hcell hkl
      go_wp2_with fail
      refine (mail2_own K O hx y yb hly).mono ?_
      clear O c0 c1
      rintro e w1 ⟨rfl, O⟩
      generalize sameB y x = q at NX YES ⊢
      cases q
      · go_wp2
        go_roundw
        case rel => exact ⟨k + 1, by omega, by go_num, NX.out, O⟩
        case measure => simp [intOf]; omega
      · have fin := Lib.hid (YES.out rfl)
        go_wp2
        go_ret
        exact ⟨(k : Int), rfl, by rw [fin.out, decide_eq_true (by omega)], O⟩
    · obtain rfl : k = N := by omega
      have h1 := HA.out
      rw [HNN.out, List.take_length] at h1
      have fin := Lib.hid h1
      clear h1
      go_wp2
      go_ret
      exact ⟨-1, rfl, by rw [fin.out]; rfl, O⟩

theorem containsRc_own {w0 w : World} {L : List Piece} {R : Nat} {x : List UInt8} {xb : Bool} (K : Kinds w0) (O : Own w0 w (box R #[.string ⟨x.toArray⟩, .bool xb] 43 :: L)) (hx : x.length ≤ 100000000)
    {ra : Option Addr} {rc : List (List UInt8 × Bool)} {G : List Nat} (cap : Nat) (hr : RcR w0 ra rc G) (hl : ∀ r, r ∈ rc → r.1.length ≤ 100000000) (hn : rc.length ≤ 100000000) :
    Calls Tryd.prog 51 #[.slice ra rc.length cap, .func (.func 52) #[] #[.pointer (some ⟨R, 0, none⟩)]] w
      fun e w' => e = .returned (.bool (rc.any fun y => sameB y.1 x)) ∧ Own w0 w' (box R #[.string ⟨x.toArray⟩, .bool xb] 43 :: L) := by
  have IX := indexRc_own K O hx cap hr hl hn
  generalize (rc.any fun y => sameB y.1 x) = b at IX ⊢
  generalize rc.length = N at IX ⊢
  go_enter Tryd.func51, Tryd.ntmps51
  go_wp2_with fail
  refine IX.mono ?_
  clear O IX
  rintro e w1 ⟨n, rfl, hb, O⟩
  by_cases h : 0 ≤ n
  · rw [decide_eq_true h] at hb
    subst hb
    go_wp2
    go_ret
    exact ⟨rfl, O⟩
  · have hd : decide (0 ≤ n) = false := decide_eq_false h
    rw [hd] at hb
    subst hb
    go_wp2
    go_ret
    exact ⟨rfl, O⟩
theorem RcR.take {w : World} {ra : Option Addr} {rc : List (List UInt8 × Bool)} {G : List Nat} (h : RcR w ra rc G) (k : Nat) : RcR w ra (rc.take k) G := by
  intro hp
  obtain ⟨g, off, e, hg, hc⟩ := h (by simp at hp; omega)
  refine ⟨g, off, e, hg, fun i hi => ?_⟩
  have hi' : i < rc.length := by simp at hi; omega
  have := hc i hi'
  simpa using this
theorem rcOk_step {rc : List (List UInt8 × Bool)} {k : Nat} (h : k < rc.length) : rcOk (rc.take k) (rc.drop k) = ((parseB rc[k].1 && !((rc.take k).any fun y => sameB y.1 rc[k].1)) && rcOk (rc.take (k + 1)) (rc.drop (k + 1))) := by
  rw [List.drop_eq_getElem_cons h, rcOk, List.take_succ_eq_append_getElem h]
theorem box5 {w0 w : World} {L : List Piece} {B : Nat} {a b c d e : Value} {ty : TypeId} (O : Own w0 w (box B #[a, b, c, d, e] ty :: L)) :
    w.cell? ⟨B, 0, none⟩ = some a ∧ w.cell? ⟨B, 1, none⟩ = some b ∧ w.cell? ⟨B, 2, none⟩ = some c ∧ w.cell? ⟨B, 3, none⟩ = some d ∧ w.cell? ⟨B, 4, none⟩ = some e :=
  ⟨O.cell 0, O.cell 1, O.cell 2, O.cell 3, O.cell 4⟩
structure Ml.Small (m : Ml) : Prop where
  frm : m.frm.length ≤ 100000
  env : m.env.length ≤ 100000
  txt : m.txt.length ≤ 100000
  many : m.rc.length ≤ 100000
  cap : m.rc.length ≤ m.rcap
  to : ∀ r, r ∈ m.rc → r.1.length ≤ 100000
end Go.Proofs.YtlmifdkhdcbniaaDoor
