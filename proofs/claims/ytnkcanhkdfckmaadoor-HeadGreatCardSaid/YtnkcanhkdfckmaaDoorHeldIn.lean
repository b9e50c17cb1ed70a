/- Inside the wide fence, in a region that draws its order: a load of what nobody in the region turns may come first. -/
import Derived.RegionIn
import Derived.Deep.RegionHeld3
namespace Go.Proofs.YtnkcanhkdfckmaaDoor
set_option linter.all false
open Go

section
variable {n : Nat} {P : Program} {ops : Array Oper} {Q : Exit → Act → World → Prop} {md : Region.Mode} {S : World → Prop}

/-- whatever order is drawn, and S holds behind each operation -/
def AnyS (n : Nat) (P : Program) (md : Region.Mode) (ops : Array Oper) (Q : Exit → Act → World → Prop) (S : World → Prop) : Nat → Array Bool → Act → World → Prop
  | 0, l, a, w => Region.ready md ops l = [] ∧ Q .normal a w
  | f + 1, l, a, w => (Region.ready md ops l = [] → Q .normal a w) ∧ ∀ i, i ∈ Region.ready md ops l → wpOpIn Fence.wide n P ops Q i (fun b u => S u ∧ AnyS n P md ops Q S f (l.setIfInBounds i true) b u) a w
theorem AnyS.any : ∀ {f : Nat} {l : Array Bool} {a : Act} {w : World}, AnyS n P md ops Q S f l a w → wpAnyIn Fence.wide n P md ops Q f l a w
  | 0, _, _, _, h => h
  | _ + 1, _, _, _, h => ⟨h.1, fun i hi => wpOpIn_mono (fun _ _ k => k.2.any) (h.2 i hi)⟩

/-- an operation whose value is known in each world that S meets -/
structure Known (P : Program) (ops : Array Oper) (S : World → Prop) (o : Oper) (v : Value) (a : Act) : Prop where
  on : Region.wanted o (yielded ops a.tmps) = true → ∀ w, S w → (execOp a.eval o).run P w = .ok (.value v) w
  off : Region.wanted o (yielded ops a.tmps) = false → v = undef
  mute : ∀ w, o.about P w a.eval = none
theorem Known.step {i : Nat} {o : Oper} {v : Value} {a : Act} {K : Act → World → Prop} {w : World} (k : Known P ops S o v a) (hi : ops[i]? = some o) (hS : S w) (h : K (a.put o.dst v) w) : wpOpIn Fence.wide n P ops Q i K a w := by
  unfold wpOpIn
  rw [hi]
  have hm : ∀ f, o.about P w a.eval = some f → Fence.wide.fn f := fun f hf => by rw [k.mute w] at hf; cases hf
  cases hw : Region.wanted o (yielded ops a.tmps) with
  | true =>
    simp only [hw, if_true, Oper.wpIn, show Fence.wide.round = none from rfl, Oper.semAt_none, k.on hw w hS, Oper.uponIn]
    exact ⟨hm, h⟩
  | false =>
    have := k.off hw
    subst this
    simp only [hw, Bool.false_eq_true, if_false]
    exact ⟨hm, h⟩
theorem Known.past {o o' : Oper} {v : Value} {a : Act} (k : Known P ops S o v a) (hs : ∀ cs b, o.op ≠ .select cs b) (u : Value) (h : ∀ d, o'.dst = some d → d ∉ o.looksAt ops) : Known P ops S o v (a.put o'.dst u) :=
  ⟨by rw [wanted_put o a o'.dst u h, execOp_put o hs a o'.dst u h]; exact k.on, by rw [wanted_put o a o'.dst u h]; exact k.off, fun w => by rw [about_put o w a o'.dst u h]; exact k.mute w⟩
/-- a step of another operation, with the known value laid ahead, or behind -/
theorem Known.swap {j : Nat} {o o' : Oper} {v : Value} {a : Act} {K : Act → World → Prop} {w : World} (k : Known P ops S o v a) (hj : ops[j]? = some o') (hap : o.apart ops o' = true)
    (hs : ∀ cs b, o.op ≠ .select cs b) (hs' : ∀ cs b, o'.op ≠ .select cs b) (hQ : ∀ c b u, Q (.panic c) (b.put o.dst v) u → Q (.panic c) b u)
    (h : wpOpIn Fence.wide n P ops Q j K (a.put o.dst v) w) : wpOpIn Fence.wide n P ops Q j (fun b u => Known P ops S o v b ∧ K (b.put o.dst v) u) a w := by
  obtain ⟨p1, p2, p3⟩ := Oper.apart_spec hap
  have go : ∀ u x, K ((a.put o.dst v).put o'.dst u) x → Known P ops S o v (a.put o'.dst u) ∧ K ((a.put o'.dst u).put o.dst v) x := fun u x hk => ⟨k.past hs u p3, by rw [← Act.put_comm a v u p2]; exact hk⟩
  unfold wpOpIn at h ⊢
  rw [hj] at h ⊢
  simp only [wanted_put o' a o.dst v p1, about_put o' w a o.dst v p1] at h
  simp only
  cases hw : Region.wanted o' (yielded ops a.tmps) with
  | false =>
    simp only [hw, Bool.false_eq_true, if_false] at h ⊢
    exact ⟨h.1, go _ _ h.2⟩
  | true =>
    simp only [hw, if_true, Oper.wpIn, show Fence.wide.round = none from rfl, Oper.semAt_none, about_put o' w a o.dst v p1, execOp_put o' hs' a o.dst v p1] at h ⊢
    refine ⟨h.1, ?_⟩
    have hb := h.2
    cases hr : (execOp a.eval o').run P w with
    | halt x u =>
      rw [hr] at hb
      cases x <;> simp only [Oper.uponIn] at hb ⊢
      exact hQ _ _ _ hb
    | ok x u =>
      rw [hr] at hb
      cases x <;> simp only [Oper.uponIn] at hb ⊢
      case value y => exact go _ _ hb
      case skip => exact go _ _ hb
      case defer d =>
        have kd : Known P ops S o v { a with defers := d :: a.defers } := ⟨k.on, k.off, k.mute⟩
        refine ⟨kd.past hs _ p3, ?_⟩
        rw [← Act.put_comm _ v undef p2, ← Act.put_defers]
        exact hb
      case enter f args =>
        refine ⟨hb.1, hb.2.mono fun e x he => ?_⟩
        cases e <;> first | exact go _ _ he | exact hQ _ _ _ he | exact he
      case row row args => exact ⟨hb.1, hb.2.mono fun y x he => go _ _ he⟩
      case round l f tmps assign body =>
        refine ⟨hb.1, hb.2.mono fun e x he => ?_⟩
        cases e <;> first | exact go _ _ he | exact hQ _ _ _ he | exact he
theorem Known.first {i : Nat} {o : Oper} {v : Value} (hi : ops[i]? = some o) (hsel : ∀ (j : Nat) (o : Oper) cs b, ops[j]? = some o → o.op ≠ .select cs b) (hQ : ∀ c b u, Q (.panic c) (b.put o.dst v) u → Q (.panic c) b u) :
    ∀ (f : Nat) (l : Array Bool) (a : Act) (w : World), (∀ j o', ops[j]? = some o' → j ≠ i → l.getD j true = false → (∀ e ∈ o'.after, Region.binds md e = true → e.on ≠ i) → o.apart ops o' = true) →
      i ∈ Region.ready md ops l → Known P ops S o v a → S w → AnyS n P md ops Q S f (l.setIfInBounds i true) (a.put o.dst v) w → AnyS n P md ops Q S (f + 1) l a w
  | f, l, a, w, hfree, hr, k, hS, H => by
    refine ⟨fun h => (by rw [h] at hr; cases hr), fun j hj => ?_⟩
    rcases Nat.decEq j i with hji | hji
    · have hj2 := ready_mono hj hji
      cases f with
      | zero => rw [H.1] at hj2; cases hj2
      | succ f =>
        obtain ⟨hun, o', ho', hall⟩ := mem_ready.1 hj
        have hno : ∀ e ∈ o'.after, Region.binds md e = true → e.on ≠ i := fun e he hb heq => by
          have q1 := hall e he hb
          have q0 := (mem_ready.1 hr).1
          rw [heq] at q1
          rcases Nat.lt_or_ge i l.size with h' | h'
          · simp [h'] at q0 q1; rw [q0] at q1; cases q1
          · simp [Array.getElem?_eq_none h'] at q1
        refine wpOpIn_mono (fun b u ⟨kb, hSu, Hb⟩ => ⟨hSu, Known.first hi hsel hQ f (l.setIfInBounds j true) b u (fun m om hm hmi hmu hmn => hfree m om hm hmi ?_ hmn) (ready_mono hr (Ne.symm hji)) kb hSu ?_⟩) (k.swap ho' (hfree j o' ho' hji hun hno) (fun cs b => hsel i o cs b hi) (fun cs b => hsel j o' cs b ho') hQ (H.2 j hj2))
        · by_cases e : j = m
          · subst e; exact hun
          · rw [getD_set_ne true e] at hmu; exact hmu
        · rw [Array.setIfInBounds_comm _ _ hji]; exact Hb
    · subst hji
      exact k.step hi hS ⟨hS, H⟩
theorem AnyS.take {i : Nat} {o : Oper} (v : Value) {f : Nat} {l : Array Bool} {a : Act} {w : World} (hi : ops[i]? = some o) (hs : Region.noSelect ops = true) (hf : Region.free md ops l i = true) (hr : (Region.ready md ops l).contains i = true)
    (hQ : ∀ c b u, Q (.panic c) (b.put o.dst v) u → Q (.panic c) b u) (k : Known P ops S o v a) (hS : S w) (h : AnyS n P md ops Q S f (l.setIfInBounds i true) (a.put o.dst v) w) : AnyS n P md ops Q S (f + 1) l a w :=
  Known.first hi (Region.noSelect_spec hs) hQ f l a w (Region.free_spec hi hf) (by simpa using hr) k hS h
/-- one alone may come up -/
theorem AnyS.one {i : Nat} {f : Nat} {l : Array Bool} {a : Act} {w : World} (hr : Region.ready md ops l = [i]) (h : wpOpIn Fence.wide n P ops Q i (fun b u => S u ∧ AnyS n P md ops Q S f (l.setIfInBounds i true) b u) a w) : AnyS n P md ops Q S (f + 1) l a w :=
  ⟨fun h0 => (by rw [hr] at h0; cases h0), fun j hj => (by rw [hr] at hj; cases List.mem_singleton.1 hj; exact h)⟩
theorem AnyS.done {l : Array Bool} {a : Act} {w : World} (hr : Region.ready md ops l = []) (h : Q .normal a w) : ∀ f, AnyS n P md ops Q S f l a w
  | 0 => ⟨hr, h⟩
  | _ + 1 => ⟨fun _ => h, by rw [hr]; simp⟩
end
end Go.Proofs.YtnkcanhkdfckmaaDoor
