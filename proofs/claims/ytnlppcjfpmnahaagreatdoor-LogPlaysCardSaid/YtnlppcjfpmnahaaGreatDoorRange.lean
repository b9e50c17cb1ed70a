/- A range over a function, over what a call holds: the iterator may keep its state in a block of its own. -/
import Derived.Test.YtnlppcjfpmnahaaGreatDoorHold
import Derived.RangeFuncNested
import Derived.RangeFuncBound
import Derived.RangeFuncCalls
import Derived.RangeFuncLeaves
import Derived.Shelf.Abstract
import Derived.Shelf.RegionOpen
import Derived.OwnWalkIn
import Derived.TacticsInMore
import Derived.LoopNIn
import Derived.LoopIn
namespace Go.Proofs.YtnlppcjfpmnahaaGreatDoor
set_option linter.all false
open Go.RowKit Go.Shelf

/-- a block, whatever it holds -/
def blk (b : Nat) (o : Obj) : Piece where
  holds B w F := w.heap[b]? = some o ∧ B ≤ b ∧ F = [b]
  keep := by
    rintro B w w' F S ⟨h1, h2, rfl⟩ hc hS
    exact ⟨hc.obj h1 (hS b (by simp)), h2, rfl⟩
  lt := by
    rintro B w F ⟨h1, h2, rfl⟩ k hk
    simp at hk; subst hk
    exact ⟨h2, lt_of_block h1⟩
theorem Own.newBlk {w0 w : World} {L : List Piece} (h : Own w0 w L) (o : Obj) : Own w0 (w.alloc o) (blk w.heap.size o :: L) :=
  h.new ((Chg.refl [] w).alloc _) (blk w.heap.size o) ⟨heap_alloc_new _ _, h.size, rfl⟩ (by simp)
theorem Own.at {w0 w : World} {L : List Piece} {b : Nat} {o : Obj} (h : Own w0 w (blk b o :: L)) : w.heap[b]? = some o := by
  obtain ⟨F, h, _⟩ := h.head; exact h
theorem Chg.putObj {S : List Nat} {a w : World} {b : Nat} (h : Chg S a w) (hb : b ∈ S) (o : Obj) : Chg S a (w.putObj b o) :=
  ⟨h.os, h.tape, h.output, by simpa using h.size, fun i hi hS => (World.putObj_heap_other (fun e => hS (by rw [e]; exact hb))).trans (h.block i hi hS)⟩
theorem Own.put {w0 w : World} {L : List Piece} {b : Nat} {o : Obj} (h : Own w0 w (blk b o :: L)) (o' : Obj) : Own w0 (w.putObj b o') (blk b o' :: L) := by
  obtain ⟨F, ⟨h1, h2, rfl⟩, q⟩ := h.open
  exact q _ (blk b o') [b] ⟨World.putObj_heap_same (lt_of_block h1), h2, rfl⟩ ((Chg.refl _ _).putObj (by simp) _) (fun i hi => .inl hi)

/-- what an iterator does: it hands out the list xs, with its state as 'it k' before the k-th; what else the caller holds it leaves as it is -/
def IterO {α : Type} (P : Program) (gf : Nat) (lb : Array Value) (encs : α → Array Value) (xs : List α) (it : Nat → Piece) : Prop :=
  ∀ (n : Nat) (w0 : World) (l : Nat) (R : Nat → List Piece → Prop) (Rx : List Piece → Prop),
    (∀ k (hk : k < xs.length) L W1, Own w0 W1 (it k :: L) → R k L → YieldAt Fence.wide (n - 1) P l (encs xs[k]) W1 fun e W' =>
      (e = .returned (.bool true) ∧ ∃ L', Own w0 W' (it k :: L') ∧ R (k + 1) L') ∨ (e = .returned (.bool false) ∧ ∃ L', Own w0 W' (it k :: L') ∧ Rx L')) →
    ∀ L W, Own w0 W (it 0 :: L) → R 0 L →
    CallsIn Fence.wide n P gf (#[.func (.yield l) #[] #[]] ++ lb) W fun e W' => (∃ v, e = .returned v) ∧ ((∃ L', Own w0 W' L' ∧ R xs.length L') ∨ (∃ L', Own w0 W' L' ∧ Rx L'))

/-- the same, at one world alone -/
def IterW {α : Type} (w0 : World) (P : Program) (gf : Nat) (lb : Array Value) (encs : α → Array Value) (xs : List α) (it : Nat → Piece) : Prop :=
  ∀ (n : Nat) (l : Nat) (R : Nat → List Piece → Prop) (Rx : List Piece → Prop),
    (∀ k (hk : k < xs.length) L W1, Own w0 W1 (it k :: L) → R k L → YieldAt Fence.wide (n - 1) P l (encs xs[k]) W1 fun e W' =>
      (e = .returned (.bool true) ∧ ∃ L', Own w0 W' (it k :: L') ∧ R (k + 1) L') ∨ (e = .returned (.bool false) ∧ ∃ L', Own w0 W' (it k :: L') ∧ Rx L')) →
    ∀ L W, Own w0 W (it 0 :: L) → R 0 L →
    CallsIn Fence.wide n P gf (#[.func (.yield l) #[] #[]] ++ lb) W fun e W' => (∃ v, e = .returned v) ∧ ((∃ L', Own w0 W' L' ∧ R xs.length L') ∨ (∃ L', Own w0 W' L' ∧ Rx L'))

/-- how a round's body may be left -/
def roundO {α : Type} (xs : List α) (w0 : World) (it : Nat → Piece) (k l D : Nat) (o1 o2 : Obj) (R : Nat → List Piece → Prop) (Rx : Code → List Piece → Prop) : Exit → Act → World → Prop
  | .normal, _, W' => ∃ L', Own w0 W' (it k :: blk l o1 :: blk D o2 :: L') ∧ R (k + 1) L'
  | .ret, _, W' => ∃ L', Own w0 W' (it k :: blk l o1 :: blk D o2 :: L') ∧ Rx .ret L'
  | .exit id, _, W' => ∃ L', Own w0 W' (it k :: blk l o1 :: blk D o2 :: L') ∧ Rx (.exit id) L'
  | .goto t, _, W' => ∃ L', Own w0 W' (it k :: blk l o1 :: blk D o2 :: L') ∧ Rx (.goto t) L'
  | .panic _, _, _ => False
  | .outgrown, _, _ => False

theorem Own.pick1 {w0 w : World} {L : List Piece} {a b : Piece} (h : Own w0 w (a :: b :: L)) : Own w0 w (b :: a :: L) := h.pick 1
theorem Own.pick2 {w0 w : World} {L : List Piece} {a b c : Piece} (h : Own w0 w (a :: b :: c :: L)) : Own w0 w (c :: a :: b :: L) := h.pick 2

theorem range_ownW {α : Type} {P : Program} {n : Nat} {g : Operand} {ps : Array Tmp} {assign body : Code} {Q : Exit → Act → World → Prop} {a : Act} {w w0 : World}
    {gf : Nat} {lb : Array Value} (hg : a.eval g = .func (.func gf) #[] lb) (eg : ∀ args w, (callFunc gf args).run P w = .ok (.enter gf args) w)
    {encs : α → Array Value} {xs : List α} {it : Nat → Piece} (hit : IterW w0 P gf lb encs xs it) (hps : ∀ x, (encs x).size = ps.size)
    (R : Nat → List Piece → Prop) (Rx : Code → List Piece → Prop) {L0 : List Piece} (O : Own w0 w (it 0 :: L0)) (h0 : R 0 L0) (a₁ : α → Act)
    (hassign : ∀ (m l : Nat) (x : α) (W : World) (K : Act → World → Prop), K (a₁ x) W →
      assign.wpIn (Fence.wide.inRound l) m P (Exit.then K (fun _ _ _ => False)) { tmps := (ps.zip (encs x)).foldl (fun t (p, v) => t.setIfInBounds p v) a.tmps, defers := [] } W)
    (hbody : ∀ (m l D : Nat) (o1 o2 : Obj) (k : Nat) (hk : k < xs.length) (L : List Piece) (W : World), Own w0 W (it k :: blk l o1 :: blk D o2 :: L) → R k L →
      body.wpIn (Fence.wide.inRound l) m P (roundO xs w0 it k l D o1 o2 R Rx) (a₁ xs[k]) W)
    (hdone : ∀ (D : Nat) (L : List Piece) (W : World), Own w0 W (blk D (.deferred (some [])) :: L) → R xs.length L → Q .normal { a with defers := { target := .collected D, args := #[] } :: a.defers } W)
    (hstop : ∀ (D : Nat) (c : Code) (L : List Piece) (W : World), Own w0 W (blk D (.deferred (some [])) :: L) → Rx c L → c.wpIn Fence.wide n P Q { a with defers := { target := .collected D, args := #[] } :: a.defers } W) :
    (Code.rangeFunc g ps assign body).wpIn Fence.wide n P Q a w := by
  refine wpIn_rangeFunc ?_
  intro fn hfn
  rw [show Fence.wide.round = none from rfl]
  obtain ⟨rec, hrec⟩ : ∃ rec : LoopState → Option Code → Loop, rec = fun st pe => { state := st, pending := pe, fn, tmps := a.tmps, params := ps, assign, body, defers := w.heap.size } := ⟨_, rfl⟩
  have O1 := (O.newBlk (.deferred (some []))).newBlk (.loop (rec .ready none))
  rw [show (w.alloc (.deferred (some []))).heap.size = w.heap.size + 1 from by simp] at O1
  obtain ⟨l, hl⟩ : ∃ l, l = w.heap.size + 1 := ⟨_, rfl⟩
  obtain ⟨D, hD⟩ : ∃ D, D = w.heap.size := ⟨_, rfl⟩
  have O1 := O1.pick2
  rw [← hl, ← hD] at O1
  refine ⟨w.heap.size + 1, [{ target := .collected w.heap.size, args := #[] }], (w.alloc (.deferred (some []))).alloc (.loop (rec .ready none)), { target := .fn (.func gf) lb, args := #[.func (.yield (w.heap.size + 1)) #[] #[]] }, (w.alloc (.deferred (some []))).alloc (.loop (rec .ready none)), gf,
    #[.func (.yield (w.heap.size + 1)) #[] #[]] ++ lb, (w.alloc (.deferred (some []))).alloc (.loop (rec .ready none)), ?_, ?_, fun _ _ => trivial, ?_, fun h => (by cases h), ?_⟩
  · rw [hrec]; exact run_enterLoop_outer _ _ _ _ _
  · simp only [resolve, hg]
    simp [go_sem]
  · simp [invoke, go_sem, eg]
  · rw [← hl, ← hD]
    refine (hit (n - 1) l
      (fun k L => ∃ L1, L = blk l (.loop (rec .ready none)) :: blk D (.deferred (some [])) :: L1 ∧ R k L1)
      (fun L => ∃ c L1, L = blk l (.loop (rec .done (some c))) :: blk D (.deferred (some [])) :: L1 ∧ Rx c L1) ?_ _ _ O1 ⟨_, rfl, h0⟩).mono ?_
    · rintro k hk L W OW ⟨L1, rfl, hR⟩
      have hy := run_yield (P := P) (args := encs xs[k]) OW.pick1.at (by rw [hrec]; exact hps _)
      rw [hrec] at hy
      refine ⟨fn, _, assign, body, hy, roundIn_of_wpIn hfn (hassign _ l xs[k] W _ ⟨_, run_beginRound OW.pick1.at (by rw [hrec]), ?_⟩)⟩
      refine wpIn_mono (hbody _ l D (.loop { rec .ready none with state := .busy }) (.deferred (some [])) k hk L1 _ (OW.pick1.put _).pick1 hR) ?_
      have fin : ∀ (jump : Option Code) (W3 : World) (L' : List Piece), Own w0 W3 (it k :: blk l (.loop { rec .ready none with state := .busy }) :: blk D (.deferred (some [])) :: L') →
          ∃ W4, (Instr.endRound l jump).run P W3 = .ok (.bool jump.isNone) W4 ∧ Own w0 W4 (it k :: blk l (.loop (rec (if jump.isNone then .ready else .done) jump)) :: blk D (.deferred (some [])) :: L') := by
        intro jump W3 L' h3
        have hr := run_endRound (P := P) jump h3.pick1.at
        refine ⟨_, hr, ?_⟩
        have h4 := (h3.pick1.put (.loop (rec (if jump.isNone then .ready else .done) jump))).pick1
        rw [hrec] at h4 ⊢
        exact h4
      rintro e a3 W3 hp
      cases e with
      | normal =>
        obtain ⟨L', h3, hR'⟩ := hp
        obtain ⟨W4, hr, h4⟩ := fin none W3 L' h3
        exact ⟨_, _, hr, .inl ⟨rfl, _, h4, _, rfl, hR'⟩⟩
      | ret =>
        obtain ⟨L', h3, hR'⟩ := hp
        obtain ⟨W4, hr, h4⟩ := fin (some .ret) W3 L' h3
        exact ⟨_, _, hr, .inr ⟨rfl, _, h4, .ret, L', rfl, hR'⟩⟩
      | exit id =>
        obtain ⟨L', h3, hR'⟩ := hp
        obtain ⟨W4, hr, h4⟩ := fin (some (.exit id)) W3 L' h3
        exact ⟨_, _, hr, .inr ⟨rfl, _, h4, _, L', rfl, hR'⟩⟩
      | goto t =>
        obtain ⟨L', h3, hR'⟩ := hp
        obtain ⟨W4, hr, h4⟩ := fin (some (.goto t)) W3 L' h3
        exact ⟨_, _, hr, .inr ⟨rfl, _, h4, _, L', rfl, hR'⟩⟩
      | panic ch => exact hp.elim
      | outgrown => exact hp.elim
    · rintro e W2 ⟨⟨v, rfl⟩, (⟨L, h2, L1, rfl, hR⟩ | ⟨L, h2, c, L1, rfl, hR⟩)⟩
      · refine ⟨none, _, by have := run_endLoop (P := P) h2.at (by rw [hrec]; simp); rw [hrec] at this; exact this, ?_⟩
        have h4 := (h2.put (.loop { rec .ready none with state := .exhausted })).drop
        rw [hrec] at h4
        exact hdone D L1 _ h4 hR
      · refine ⟨some c, _, by have := run_endLoop (P := P) h2.at (by rw [hrec]; simp); rw [hrec] at this; exact this, ?_⟩
        have h4 := (h2.put (.loop { rec .done (some c) with state := .exhausted })).drop
        rw [hrec] at h4
        exact hstop D c L1 _ h4 hR
theorem range_own {α : Type} {P : Program} {n : Nat} {g : Operand} {ps : Array Tmp} {assign body : Code} {Q : Exit → Act → World → Prop} {a : Act} {w w0 : World}
    {gf : Nat} {lb : Array Value} (hg : a.eval g = .func (.func gf) #[] lb) (eg : ∀ args w, (callFunc gf args).run P w = .ok (.enter gf args) w)
    {encs : α → Array Value} {xs : List α} {it : Nat → Piece} (hit : IterO P gf lb encs xs it) (hps : ∀ x, (encs x).size = ps.size)
    (R : Nat → List Piece → Prop) (Rx : Code → List Piece → Prop) {L0 : List Piece} (O : Own w0 w (it 0 :: L0)) (h0 : R 0 L0) (a₁ : α → Act)
    (hassign : ∀ (m l : Nat) (x : α) (W : World) (K : Act → World → Prop), K (a₁ x) W →
      assign.wpIn (Fence.wide.inRound l) m P (Exit.then K (fun _ _ _ => False)) { tmps := (ps.zip (encs x)).foldl (fun t (p, v) => t.setIfInBounds p v) a.tmps, defers := [] } W)
    (hbody : ∀ (m l D : Nat) (o1 o2 : Obj) (k : Nat) (hk : k < xs.length) (L : List Piece) (W : World), Own w0 W (it k :: blk l o1 :: blk D o2 :: L) → R k L →
      body.wpIn (Fence.wide.inRound l) m P (roundO xs w0 it k l D o1 o2 R Rx) (a₁ xs[k]) W)
    (hdone : ∀ (D : Nat) (L : List Piece) (W : World), Own w0 W (blk D (.deferred (some [])) :: L) → R xs.length L → Q .normal { a with defers := { target := .collected D, args := #[] } :: a.defers } W)
    (hstop : ∀ (D : Nat) (c : Code) (L : List Piece) (W : World), Own w0 W (blk D (.deferred (some [])) :: L) → Rx c L → c.wpIn Fence.wide n P Q { a with defers := { target := .collected D, args := #[] } :: a.defers } W) :
    (Code.rangeFunc g ps assign body).wpIn Fence.wide n P Q a w :=
  range_ownW hg eg (fun n l R Rx => hit n w0 l R Rx) hps R Rx O h0 a₁ hassign hbody hdone hstop
end Go.Proofs.YtnlppcjfpmnahaaGreatDoor
