/- A range over a function whose round's variables are laid in memory (the assignment makes blocks). -/
import Derived.Test.YtehkdbgoeakgbaaDoorRangeP
namespace Go.Proofs.YtehkdbgoeakgbaaDoor
set_option linter.all false
open Go.RowKit Go.Shelf

theorem range_ownA {α : Type} {P : Program} {n : Nat} {g : Operand} {ps : Array Tmp} {assign body : Code} {Q : Exit → Act → World → Prop} {a : Act} {w w0 : World}
    {gf : Nat} {lb : Array Value} (hg : a.eval g = .func (.func gf) #[] lb) (eg : ∀ args w, (callFunc gf args).run P w = .ok (.enter gf args) w)
    {encs : α → Array Value} {xs : List α} {it : Piece} (hit : IterP w0 P gf lb encs xs it) (hps : ∀ x, (encs x).size = ps.size)
    (R : Nat → List Piece → Prop) (Rx : Code → List Piece → Prop) {L0 : List Piece} (O : Own w0 w (it :: L0)) (h0 : R 0 L0) (R' : Nat → Act → List Piece → Prop)
    (hassign : ∀ (m l D : Nat) (o1 o2 : Obj) (c : Piece) (k : Nat) (hk : k < xs.length) (L : List Piece) (W : World) (K : Act → World → Prop), Own w0 W (c :: blk l o1 :: blk D o2 :: L) → R k L →
      (∀ a' W' L', Own w0 W' (c :: blk l o1 :: blk D o2 :: L') → R' k a' L' → K a' W') →
      assign.wpIn (Fence.wide.inRound l) m P (Exit.then K (fun _ _ _ => False)) { tmps := (ps.zip (encs xs[k])).foldl (fun t (p, v) => t.setIfInBounds p v) a.tmps, defers := [] } W)
    (hbody : ∀ (m l D : Nat) (o1 o2 : Obj) (c : Piece) (k : Nat) (hk : k < xs.length) (a' : Act) (L : List Piece) (W : World), Own w0 W (c :: blk l o1 :: blk D o2 :: L) → R' k a' L →
      body.wpIn (Fence.wide.inRound l) m P (roundO xs w0 (fun _ => c) k l D o1 o2 R Rx) a' W)
    (hdone : ∀ (D : Nat) (L : List Piece) (W : World), Own w0 W (blk D (.deferred (some [])) :: L) → R xs.length L → Q .normal { a with defers := { target := .collected D, args := #[] } :: a.defers } W)
    (hstop : ∀ (D : Nat) (c : Code) (L : List Piece) (W : World), Own w0 W (blk D (.deferred (some [])) :: L) → Rx c L → c.wpIn Fence.wide n P Q { a with defers := { target := .collected D, args := #[] } :: a.defers } W) :
    (Code.rangeFunc g ps assign body).wpIn Fence.wide n P Q a w := by
  refine wpIn_rangeFunc ?_
  intro fn hfn
  rw [show Fence.wide.round = none from rfl]
  obtain ⟨rec, hrec⟩ : ∃ rec : LoopState → Option Code → Loop, rec = fun st pe => { state := st, pending := pe, fn, tmps := a.tmps, params := ps, assign, body, defers := w.heap.size } := ⟨_, rfl⟩
  have O1 := (O.newBlk (.deferred (some []))).newBlk (.loop (rec .ready none))
  rw [show (w.alloc (.deferred (some []))).heap.size = w.heap.size + 1 from by simp] at O1
  obtain ⟨l, hl⟩ : ∃ l, l = w.heap.size + 1 := ⟨_, rfl⟩
  obtain ⟨D, hD⟩ : ∃ D, D = w.heap.size := ⟨_, rfl⟩
  have O1 := O1.pick2
  rw [← hl, ← hD] at O1
  refine ⟨w.heap.size + 1, [{ target := .collected w.heap.size, args := #[] }], (w.alloc (.deferred (some []))).alloc (.loop (rec .ready none)), { target := .fn (.func gf) lb, args := #[.func (.yield (w.heap.size + 1)) #[] #[]] }, (w.alloc (.deferred (some []))).alloc (.loop (rec .ready none)), gf,
    #[.func (.yield (w.heap.size + 1)) #[] #[]] ++ lb, (w.alloc (.deferred (some []))).alloc (.loop (rec .ready none)), ?_, ?_, fun _ _ => trivial, ?_, fun h => (by cases h), ?_⟩
  · rw [hrec]; exact run_enterLoop_outer _ _ _ _ _
  · simp only [resolve, hg]
    simp [go_sem]
  · simp [invoke, go_sem, eg]
  · rw [← hl, ← hD]
    refine (hit (n - 1) l
      (fun k L => ∃ L1, L = blk l (.loop (rec .ready none)) :: blk D (.deferred (some [])) :: L1 ∧ R k L1)
      (fun L => ∃ c L1, L = blk l (.loop (rec .done (some c))) :: blk D (.deferred (some [])) :: L1 ∧ Rx c L1) ?_ _ _ O1 ⟨_, rfl, h0⟩).mono ?_
    · rintro c k hk L W OW ⟨L1, rfl, hR⟩
      have hy := run_yield (P := P) (args := encs xs[k]) OW.pick1.at (by rw [hrec]; exact hps _)
      rw [hrec] at hy
      refine ⟨fn, _, assign, body, hy, roundIn_of_wpIn hfn (hassign _ l D _ _ c k hk L1 W _ OW hR (fun a' W' L' OW' hR' => ⟨_, run_beginRound OW'.pick1.at (by rw [hrec]), ?_⟩))⟩
      refine wpIn_mono (hbody _ l D (.loop { rec .ready none with state := .busy }) (.deferred (some [])) c k hk a' L' _ (OW'.pick1.put _).pick1 hR') ?_
      have fin : ∀ (jump : Option Code) (W3 : World) (L' : List Piece), Own w0 W3 (c :: blk l (.loop { rec .ready none with state := .busy }) :: blk D (.deferred (some [])) :: L') →
          ∃ W4, (Instr.endRound l jump).run P W3 = .ok (.bool jump.isNone) W4 ∧ Own w0 W4 (c :: blk l (.loop (rec (if jump.isNone then .ready else .done) jump)) :: blk D (.deferred (some [])) :: L') := by
        intro jump W3 L' h3
        have hr := run_endRound (P := P) jump h3.pick1.at
        refine ⟨_, hr, ?_⟩
        have h4 := (h3.pick1.put (.loop (rec (if jump.isNone then .ready else .done) jump))).pick1
        rw [hrec] at h4 ⊢
        exact h4
      rintro e a3 W3 hp
      cases e with
      | normal =>
        obtain ⟨L', h3, hR'⟩ := hp
        obtain ⟨W4, hr, h4⟩ := fin none W3 L' h3
        exact ⟨_, _, hr, .inl ⟨rfl, _, h4, _, rfl, hR'⟩⟩
      | ret =>
        obtain ⟨L', h3, hR'⟩ := hp
        obtain ⟨W4, hr, h4⟩ := fin (some .ret) W3 L' h3
        exact ⟨_, _, hr, .inr ⟨rfl, _, h4, .ret, L', rfl, hR'⟩⟩
      | exit id =>
        obtain ⟨L', h3, hR'⟩ := hp
        obtain ⟨W4, hr, h4⟩ := fin (some (.exit id)) W3 L' h3
        exact ⟨_, _, hr, .inr ⟨rfl, _, h4, _, L', rfl, hR'⟩⟩
      | goto t =>
        obtain ⟨L', h3, hR'⟩ := hp
        obtain ⟨W4, hr, h4⟩ := fin (some (.goto t)) W3 L' h3
        exact ⟨_, _, hr, .inr ⟨rfl, _, h4, _, L', rfl, hR'⟩⟩
      | panic ch => exact hp.elim
      | outgrown => exact hp.elim
    · rintro e W2 ⟨⟨v, rfl⟩, (⟨L, h2, L1, rfl, hR⟩ | ⟨L, h2, c, L1, rfl, hR⟩)⟩
      · refine ⟨none, _, by have := run_endLoop (P := P) h2.at (by rw [hrec]; simp); rw [hrec] at this; exact this, ?_⟩
        have h4 := (h2.put (.loop { rec .ready none with state := .exhausted })).drop
        rw [hrec] at h4
        exact hdone D L1 _ h4 hR
      · refine ⟨some c, _, by have := run_endLoop (P := P) h2.at (by rw [hrec]; simp); rw [hrec] at this; exact this, ?_⟩
        have h4 := (h2.put (.loop { rec .done (some c) with state := .exhausted })).drop
        rw [hrec] at h4
        exact hstop D c L1 _ h4 hR
end Go.Proofs.YtehkdbgoeakgbaaDoor
