/- merged: HeldIn HeldInB LgReg KeptA KeptB KeptC PlayA PlayB PlayC PlayD PlayE PlayF (wip/merge.py) -/
import Derived.RegionIn
import Derived.Deep.RegionHeld3
import Derived.Test.YtnlppcjfpmnahaaGreatDoorStep
import Derived.Test.YtnlppcjfpmnahaaGreatDoorRowv
import Derived.Test.YtnlppcjfpmnahaaGreatDoorMgDi
import Derived.Test.YtnlppcjfpmnahaaGreatDoorLgB
import Derived.Deep.DeepCutAuto
import Derived.Test.YtnlppcjfpmnahaaGreatDoorMgFm
import Derived.StillTailTactics
import Derived.Deep.RegionLaw
/- Inside the wide fence, in a region that draws its order: a load of what nobody in the region turns may come first. -/
namespace Go.Proofs.YtnlppcjfpmnahaaGreatDoor
set_option linter.all false
open Go

section
variable {n : Nat} {P : Program} {ops : Array Oper} {Q : Exit → Act → World → Prop} {md : Region.Mode} {S : World → Prop}

/-- whatever order is drawn, and S holds behind each operation -/
def AnyS (n : Nat) (P : Program) (md : Region.Mode) (ops : Array Oper) (Q : Exit → Act → World → Prop) (S : World → Prop) : Nat → Array Bool → Act → World → Prop
  | 0, l, a, w => Region.ready md ops l = [] ∧ Q .normal a w
  | f + 1, l, a, w => (Region.ready md ops l = [] → Q .normal a w) ∧ ∀ i, i ∈ Region.ready md ops l → wpOpIn Fence.wide n P ops Q i (fun b u => S u ∧ AnyS n P md ops Q S f (l.setIfInBounds i true) b u) a w
theorem AnyS.any : ∀ {f : Nat} {l : Array Bool} {a : Act} {w : World}, AnyS n P md ops Q S f l a w → wpAnyIn Fence.wide n P md ops Q f l a w
  | 0, _, _, _, h => h
  | _ + 1, _, _, _, h => ⟨h.1, fun i hi => wpOpIn_mono (fun _ _ k => k.2.any) (h.2 i hi)⟩

/-- an operation whose value is known in each world that S meets -/
structure Known (P : Program) (ops : Array Oper) (S : World → Prop) (o : Oper) (v : Value) (a : Act) : Prop where
  on : Region.wanted o (yielded ops a.tmps) = true → ∀ w, S w → (execOp a.eval o).run P w = .ok (.value v) w
  off : Region.wanted o (yielded ops a.tmps) = false → v = undef
  mute : ∀ w, o.about P w a.eval = none
theorem Known.step {i : Nat} {o : Oper} {v : Value} {a : Act} {K : Act → World → Prop} {w : World} (k : Known P ops S o v a) (hi : ops[i]? = some o) (hS : S w) (h : K (a.put o.dst v) w) : wpOpIn Fence.wide n P ops Q i K a w := by
  unfold wpOpIn
  rw [hi]
  have hm : ∀ f, o.about P w a.eval = some f → Fence.wide.fn f := fun f hf => by rw [k.mute w] at hf; cases hf
  cases hw : Region.wanted o (yielded ops a.tmps) with
  | true =>
    simp only [hw, if_true, Oper.wpIn, show Fence.wide.round = none from rfl, Oper.semAt_none, k.on hw w hS, Oper.uponIn]
    exact ⟨hm, h⟩
  | false =>
    have := k.off hw
    subst this
    simp only [hw, Bool.false_eq_true, if_false]
    exact ⟨hm, h⟩
theorem Known.past {o o' : Oper} {v : Value} {a : Act} (k : Known P ops S o v a) (hs : ∀ cs b, o.op ≠ .select cs b) (u : Value) (h : ∀ d, o'.dst = some d → d ∉ o.looksAt ops) : Known P ops S o v (a.put o'.dst u) :=
  ⟨by rw [wanted_put o a o'.dst u h, execOp_put o hs a o'.dst u h]; exact k.on, by rw [wanted_put o a o'.dst u h]; exact k.off, fun w => by rw [about_put o w a o'.dst u h]; exact k.mute w⟩
/-- a step of another operation, with the known value laid ahead, or behind -/
theorem Known.swap {j : Nat} {o o' : Oper} {v : Value} {a : Act} {K : Act → World → Prop} {w : World} (k : Known P ops S o v a) (hj : ops[j]? = some o') (hap : o.apart ops o' = true)
    (hs : ∀ cs b, o.op ≠ .select cs b) (hs' : ∀ cs b, o'.op ≠ .select cs b) (hQ : ∀ c b u, Q (.panic c) (b.put o.dst v) u → Q (.panic c) b u)
    (h : wpOpIn Fence.wide n P ops Q j K (a.put o.dst v) w) : wpOpIn Fence.wide n P ops Q j (fun b u => Known P ops S o v b ∧ K (b.put o.dst v) u) a w := by
  obtain ⟨p1, p2, p3⟩ := Oper.apart_spec hap
  have go : ∀ u x, K ((a.put o.dst v).put o'.dst u) x → Known P ops S o v (a.put o'.dst u) ∧ K ((a.put o'.dst u).put o.dst v) x := fun u x hk => ⟨k.past hs u p3, by rw [← Act.put_comm a v u p2]; exact hk⟩
  unfold wpOpIn at h ⊢
  rw [hj] at h ⊢
  simp only [wanted_put o' a o.dst v p1, about_put o' w a o.dst v p1] at h
  simp only
  cases hw : Region.wanted o' (yielded ops a.tmps) with
  | false =>
    simp only [hw, Bool.false_eq_true, if_false] at h ⊢
    exact ⟨h.1, go _ _ h.2⟩
  | true =>
    simp only [hw, if_true, Oper.wpIn, show Fence.wide.round = none from rfl, Oper.semAt_none, about_put o' w a o.dst v p1, execOp_put o' hs' a o.dst v p1] at h ⊢
    refine ⟨h.1, ?_⟩
    have hb := h.2
    cases hr : (execOp a.eval o').run P w with
    | halt x u =>
      rw [hr] at hb
      cases x <;> simp only [Oper.uponIn] at hb ⊢
      exact hQ _ _ _ hb
    | ok x u =>
      rw [hr] at hb
      cases x <;> simp only [Oper.uponIn] at hb ⊢
      case value y => exact go _ _ hb
      case skip => exact go _ _ hb
      case defer d =>
        have kd : Known P ops S o v { a with defers := d :: a.defers } := ⟨k.on, k.off, k.mute⟩
        refine ⟨kd.past hs _ p3, ?_⟩
        rw [← Act.put_comm _ v undef p2, ← Act.put_defers]
        exact hb
      case enter f args =>
        refine ⟨hb.1, hb.2.mono fun e x he => ?_⟩
        cases e <;> first | exact go _ _ he | exact hQ _ _ _ he | exact he
      case row row args => exact ⟨hb.1, hb.2.mono fun y x he => go _ _ he⟩
      case round l f tmps assign body =>
        refine ⟨hb.1, hb.2.mono fun e x he => ?_⟩
        cases e <;> first | exact go _ _ he | exact hQ _ _ _ he | exact he
theorem Known.first {i : Nat} {o : Oper} {v : Value} (hi : ops[i]? = some o) (hsel : ∀ (j : Nat) (o : Oper) cs b, ops[j]? = some o → o.op ≠ .select cs b) (hQ : ∀ c b u, Q (.panic c) (b.put o.dst v) u → Q (.panic c) b u) :
    ∀ (f : Nat) (l : Array Bool) (a : Act) (w : World), (∀ j o', ops[j]? = some o' → j ≠ i → l.getD j true = false → (∀ e ∈ o'.after, Region.binds md e = true → e.on ≠ i) → o.apart ops o' = true) →
      i ∈ Region.ready md ops l → Known P ops S o v a → S w → AnyS n P md ops Q S f (l.setIfInBounds i true) (a.put o.dst v) w → AnyS n P md ops Q S (f + 1) l a w
  | f, l, a, w, hfree, hr, k, hS, H => by
    refine ⟨fun h => (by rw [h] at hr; cases hr), fun j hj => ?_⟩
    rcases Nat.decEq j i with hji | hji
    · have hj2 := ready_mono hj hji
      cases f with
      | zero => rw [H.1] at hj2; cases hj2
      | succ f =>
        obtain ⟨hun, o', ho', hall⟩ := mem_ready.1 hj
        have hno : ∀ e ∈ o'.after, Region.binds md e = true → e.on ≠ i := fun e he hb heq => by
          have q1 := hall e he hb
          have q0 := (mem_ready.1 hr).1
          rw [heq] at q1
          rcases Nat.lt_or_ge i l.size with h' | h'
          · simp [h'] at q0 q1; rw [q0] at q1; cases q1
          · simp [Array.getElem?_eq_none h'] at q1
        refine wpOpIn_mono (fun b u ⟨kb, hSu, Hb⟩ => ⟨hSu, Known.first hi hsel hQ f (l.setIfInBounds j true) b u (fun m om hm hmi hmu hmn => hfree m om hm hmi ?_ hmn) (ready_mono hr (Ne.symm hji)) kb hSu ?_⟩) (k.swap ho' (hfree j o' ho' hji hun hno) (fun cs b => hsel i o cs b hi) (fun cs b => hsel j o' cs b ho') hQ (H.2 j hj2))
        · by_cases e : j = m
          · subst e; exact hun
          · rw [getD_set_ne true e] at hmu; exact hmu
        · rw [Array.setIfInBounds_comm _ _ hji]; exact Hb
    · subst hji
      exact k.step hi hS ⟨hS, H⟩
theorem AnyS.take {i : Nat} {o : Oper} (v : Value) {f : Nat} {l : Array Bool} {a : Act} {w : World} (hi : ops[i]? = some o) (hs : Region.noSelect ops = true) (hf : Region.free md ops l i = true) (hr : (Region.ready md ops l).contains i = true)
    (hQ : ∀ c b u, Q (.panic c) (b.put o.dst v) u → Q (.panic c) b u) (k : Known P ops S o v a) (hS : S w) (h : AnyS n P md ops Q S f (l.setIfInBounds i true) (a.put o.dst v) w) : AnyS n P md ops Q S (f + 1) l a w :=
  Known.first hi (Region.noSelect_spec hs) hQ f l a w (Region.free_spec hi hf) (by simpa using hr) k hS h
/-- one alone may come up -/
theorem AnyS.one {i : Nat} {f : Nat} {l : Array Bool} {a : Act} {w : World} (hr : Region.ready md ops l = [i]) (h : wpOpIn Fence.wide n P ops Q i (fun b u => S u ∧ AnyS n P md ops Q S f (l.setIfInBounds i true) b u) a w) : AnyS n P md ops Q S (f + 1) l a w :=
  ⟨fun h0 => (by rw [hr] at h0; cases h0), fun j hj => (by rw [hr] at hj; cases List.mem_singleton.1 hj; exact h)⟩
theorem AnyS.done {l : Array Bool} {a : Act} {w : World} (hr : Region.ready md ops l = []) (h : Q .normal a w) : ∀ f, AnyS n P md ops Q S f l a w
  | 0 => ⟨hr, h⟩
  | _ + 1 => ⟨fun _ => h, by rw [hr]; simp⟩
end
end Go.Proofs.YtnlppcjfpmnahaaGreatDoor
/- Inside the wide fence, a region that draws: calls, and operations that the guards leave out. -/
namespace Go.Proofs.YtnlppcjfpmnahaaGreatDoor
set_option linter.all false
open Go

section
variable {n : Nat} {P : Program} {ops : Array Oper} {Q : Exit → Act → World → Prop} {md : Region.Mode} {S : World → Prop}
/-- an operation that the guards leave out; no other may come up -/
theorem AnyS.skip {i : Nat} {o : Oper} {f : Nat} {l : Array Bool} {a : Act} {w : World} (hr : Region.ready md ops l = [i]) (hi : ops[i]? = some o) (hw : Region.wanted o (yielded ops a.tmps) = false) (hS : S w)
    (h : AnyS n P md ops Q S f (l.setIfInBounds i true) (a.put o.dst undef) w) : AnyS n P md ops Q S (f + 1) l a w := by
  refine AnyS.one hr ?_
  unfold wpOpIn
  rw [hi]
  simp only [hw, Bool.false_eq_true, if_false]
  exact ⟨fun _ _ => trivial, hS, h⟩
/-- a call whose contract is known; no other operation may come up -/
theorem AnyS.call {i : Nat} {o : Oper} {f : Nat} {l : Array Bool} {a : Act} {w : World} {F : FuncId} {args : Array Value} {v : Value} {T : World → Prop} (hr : Region.ready md ops l = [i]) (hi : ops[i]? = some o) (hw : Region.wanted o (yielded ops a.tmps) = true)
    (hrun : (execOp a.eval o).run P w = .ok (.enter F args) w) (hc : Calls P F args w fun e w' => e = .returned v ∧ T w')
    (k : ∀ w', T w' → S w' ∧ AnyS n P md ops Q S f (l.setIfInBounds i true) (a.put o.dst v) w') : AnyS n P md ops Q S (f + 1) l a w := by
  refine AnyS.one hr ?_
  unfold wpOpIn
  rw [hi]
  simp only [hw, if_true, Oper.wpIn, show Fence.wide.round = none from rfl, Oper.semAt_none, hrun, Oper.uponIn]
  refine ⟨fun _ _ => trivial, (fun h => by cases h), ((callsIn_wide (n := n - 1)).2 hc).mono ?_⟩
  rintro e w' ⟨rfl, hT⟩
  exact k w' hT
theorem AnyS.off {i : Nat} {o : Oper} {f : Nat} {l : Array Bool} {a : Act} {w : World} (hi : ops[i]? = some o) (hs : Region.noSelect ops = true) (hf : Region.free md ops l i = true) (hr : (Region.ready md ops l).contains i = true)
    (hQ : ∀ c b u, Q (.panic c) (b.put o.dst undef) u → Q (.panic c) b u) (hw : Region.wanted o (yielded ops a.tmps) = false) (hm : ∀ w, o.about P w a.eval = none) (hS : S w) (h : AnyS n P md ops Q S f (l.setIfInBounds i true) (a.put o.dst undef) w) : AnyS n P md ops Q S (f + 1) l a w :=
  AnyS.take undef hi hs hf hr hQ ⟨fun h => (by rw [hw] at h; cases h), fun _ => rfl, hm⟩ hS h
theorem AnyS.on {i : Nat} {o : Oper} (v : Value) {f : Nat} {l : Array Bool} {a : Act} {w : World} (hi : ops[i]? = some o) (hs : Region.noSelect ops = true) (hf : Region.free md ops l i = true) (hr : (Region.ready md ops l).contains i = true)
    (hQ : ∀ c b u, Q (.panic c) (b.put o.dst v) u → Q (.panic c) b u) (hw : Region.wanted o (yielded ops a.tmps) = true) (hv : ∀ w, S w → (execOp a.eval o).run P w = .ok (.value v) w) (hm : ∀ w, o.about P w a.eval = none) (hS : S w)
    (h : AnyS n P md ops Q S f (l.setIfInBounds i true) (a.put o.dst v) w) : AnyS n P md ops Q S (f + 1) l a w :=
  AnyS.take v hi hs hf hr hQ ⟨fun _ => hv, fun h => (by rw [hw] at h; cases h), hm⟩ hS h
end
end Go.Proofs.YtnlppcjfpmnahaaGreatDoor
/- append of strings as a run; steps of a region that draws. -/
namespace Go.Proofs.YtnlppcjfpmnahaaGreatDoor
set_option linter.all false
open Go.RowKit

theorem Own.emptyStrs {w0 w : World} {L : List Piece} (h : Own w0 w L) : Own w0 (w.alloc (.cells #[] 9)) (strs (.slice (some ⟨w.heap.size, 0, none⟩) 0 0) [] :: L) := h.emptyRowv 9 1
theorem run_append_strsO {w0 w : World} {L : List Piece} {v : Value} {ss : List (List UInt8)} (O : Own w0 w (strs v ss :: L)) {ad : Addr} {m c : Nat} {ms : List (List UInt8)} {G : List Nat} (hm : StrsR w (.slice (some ad) m c) ms G) (hlen : ss.length + ms.length ≤ 1000000000) (ty : TypeId) :
    ∃ v' w', (Builtin.append_ #[23, 23] ty #[v, .slice (some ad) m c]).run Tryz.prog w = .ok v' w' ∧ Own w0 w' (strs v' (ss ++ ms) :: L) := by
  obtain ⟨U, ⟨row, rfl⟩, q⟩ := O.open
  obtain ⟨i0, hi, hz0, hz1, hz2⟩ := info_parts info_str
  obtain ⟨a', cap', he, hr⟩ := hm
  simp only [Value.slice.injEq] at he
  obtain ⟨rfl, rfl, rfl⟩ := he
  have cells : ∀ j u, (ms.map str)[j]? = some u → w.cell? (ad.add j) = some u := by
    intro j u hj
    have hj' : j < ms.length := by
      rcases Nat.lt_or_ge j ms.length with h' | h'
      · exact h'
      · rw [List.getElem?_eq_none (by simpa using h')] at hj; cases hj
    obtain ⟨g, off, e, -, h3⟩ := hr (by omega)
    simp only [Option.some.injEq] at e
    subst e
    rw [show (⟨g, off, none⟩ : Addr).add j = ⟨g, off + j, none⟩ from by unfold Addr.add; split <;> simp_all, h3 j hj']
    simp [hj'] at hj
    rw [← hj]; rfl
  obtain ⟨v', w', hr, r1, r2, _, r3⟩ := run_append_new (P := Tryz.prog) w w0.heap.size 23 ty 9 i0 (.string .empty) 1 16 Tryz.underlying23 hi hz0 hz1 hz2 rfl (by decide) v ss.length _ row ad ms.length c (ms.map str) (by simp) cells
    (by intro u hu; obtain ⟨x, _, rfl⟩ := List.mem_map.1 hu; rfl) (by unfold maxLen; omega) (by omega) O.size
  refine ⟨v', w', hr, q w' (strs v' (ss ++ ms)) _ ⟨by simpa using r1, rfl⟩ ((Chg.refl _ w).grown r2 (fun k hk _ => by simp [hk])) (fun i hi => ?_)⟩
  rcases r3 i (by simpa using hi) with h4 | h4
  · exact .inl (by simp [h4])
  · exact .inr h4
theorem exec_append {P : Program} {o : Oper} {a : Act} {w w' : World} {d s : Operand} {dT sT : TypeId} {dv sv v' : Value} (hop : o.op = Op.call { callee := Callee.builtin Builtin.append, args := #[d, s], argTypes := #[dT, sT] }) (hd : a.eval d = dv) (hs : a.eval s = sv)
    (hr : (Builtin.append_ #[dT, sT] o.type #[dv, sv]).run P w = .ok v' w') : (execOp a.eval o).run P w = .ok (.value v') w' := by
  simp [execOp, hop, resolve, invoke, builtin, hd, hs, hr, Result.andThen]
section
variable {n : Nat} {P : Program} {ops : Array Oper} {Q : Exit → Act → World → Prop} {md : Region.Mode} {S : World → Prop}
theorem AnyS.stepTo {i : Nat} {o : Oper} {v : Value} {w' : World} {f : Nat} {l : Array Bool} {a : Act} {w : World} (hi : ops[i]? = some o) (hw : Region.wanted o (yielded ops a.tmps) = true)
    (hrun : (execOp a.eval o).run P w = .ok (.value v) w') (hS : S w') (h : AnyS n P md ops Q S f (l.setIfInBounds i true) (a.put o.dst v) w') :
    wpOpIn Fence.wide n P ops Q i (fun b u => S u ∧ AnyS n P md ops Q S f (l.setIfInBounds i true) b u) a w := by
  unfold wpOpIn
  rw [hi]
  simp only [hw, if_true, Oper.wpIn, show Fence.wide.round = none from rfl, Oper.semAt_none, hrun, Oper.uponIn]
  exact ⟨fun _ _ => trivial, hS, h⟩
/-- two may come up -/
theorem AnyS.two {i j : Nat} {f : Nat} {l : Array Bool} {a : Act} {w : World} (hr : Region.ready md ops l = [i, j]) (h1 : wpOpIn Fence.wide n P ops Q i (fun b u => S u ∧ AnyS n P md ops Q S f (l.setIfInBounds i true) b u) a w)
    (h2 : wpOpIn Fence.wide n P ops Q j (fun b u => S u ∧ AnyS n P md ops Q S f (l.setIfInBounds j true) b u) a w) : AnyS n P md ops Q S (f + 1) l a w :=
  ⟨fun h0 => (by rw [hr] at h0; cases h0), fun k hk => (by
    rw [hr] at hk
    rcases List.mem_cons.1 hk with rfl | hk
    · exact h1
    · cases List.mem_singleton.1 hk; exact h2)⟩
end
end Go.Proofs.YtnlppcjfpmnahaaGreatDoor
/- mailroomlaw10.kept. -/
namespace Go.Proofs.YtnlppcjfpmnahaaGreatDoor
set_option linter.all false
open Go.RowKit Go.Maps

/-- what the sectors are, as a list; what they were at the last Sync -/
def Dk.nowL (m : Dk) : List (List UInt8) := (List.range m.n).map fun k : Nat => m.get k
def Dk.wasL (m : Dk) : List (List UInt8) := (List.range m.n).map fun k : Nat => (m.was k).getD (m.get k)
theorem info_bool : (Tryz.prog.info? 4).map (fun i => (i.zero, i.size, i.bytes)) = some (some (.bool false), 1, 1) := by kernel_rfl
def wetL (n : Nat) (ds : List Int) (j : Nat) : List Bool := (List.range n).map fun k : Nat => decide ((k : Int) ∈ ds.take j)
def Bv (l : List Bool) : List Value := l.map Value.bool
theorem wetL_zero (n : Nat) (ds : List Int) : Bv (wetL n ds 0) = List.replicate n (.bool false) := by
  apply List.ext_getElem <;> simp [Bv, wetL]
theorem wetL_set {n : Nat} {ds : List Int} {j : Nat} (hj : j < ds.length) {k : Nat} (hk : ds[j] = (k : Int)) : (Bv (wetL n ds j)).set k (.bool true) = Bv (wetL n ds (j + 1)) := by
  apply List.ext_getElem
  · simp [Bv, wetL]
  · intro i h1 h2
    have hi : i < n := by simpa [Bv, wetL] using h2
    rw [List.getElem_set]
    simp only [Bv, wetL, List.getElem_map, List.getElem_range, List.take_succ_eq_append_getElem hj, hk]
    by_cases h : k = i
    · subst h; simp
    · rw [if_neg h]
      have : (i : Int) ≠ (k : Int) := by omega
      simp [this]
/-- is each byte as it was, or, where the sector is wet, as it is now? -/
def KeptOk (m : Dk) (ds : List Int) (was now : List (List UInt8)) : Prop :=
  ∀ k, (hk : k < m.n) → (m.get k).length = 128 ∧ ∃ a b, was[k]? = some a ∧ now[k]? = some b ∧ a.length = 128 ∧ b.length = 128 ∧
    ∀ i, i < 128 → (m.get k)[i]? = a[i]? ∨ ((k : Int) ∈ ds ∧ (m.get k)[i]? = b[i]?)
theorem made_false (n : Nat) : (madeCells #[Value.bool false] n).toList = List.replicate n (.bool false) := by
  apply List.ext_getElem
  · simp [madeCells]
  · intro i h1 h2
    simp [madeCells, Nat.mod_one]
theorem Own.strsAt {w0 w : World} {L : List Piece} {a : Option Addr} {n cap : Nat} {ss : List (List UInt8)} (h : Own w0 w (strs (.slice a n cap) ss :: L)) (k : Nat) (hk : k < ss.length) : n = ss.length ∧ ∃ g, a = some ⟨g, 0, none⟩ ∧ w.cell? ⟨g, k, none⟩ = some (.string ⟨ss[k].toArray⟩) ∧ w.frozen? ⟨g, k, none⟩ = false := by
  rcases row_shape' h.row with e | ⟨g, cap', e⟩
  · obtain ⟨a', c', e'⟩ := h.shape
    simp only [Value.slice.injEq] at e e'
    omega
  · simp only [Value.slice.injEq] at e
    obtain ⟨rfl, -, -⟩ := e
    obtain ⟨h1, h2, h3⟩ := h.readRow k hk
    exact ⟨h1, g, rfl, h2, h3⟩
theorem read_in {m : Dk} (ho : m.off = false) {k : Nat} (hk : k < m.n) : m.read (k : Int) = (m.get k, 0) := by
  unfold Dk.read; rw [if_neg (by simp [ho]), if_neg (by omega)]
end Go.Proofs.YtnlppcjfpmnahaaGreatDoor
/- DiskKept: the plain laws. -/
namespace Go.Proofs.YtnlppcjfpmnahaaGreatDoor
set_option linter.all false
open Go.RowKit Go.Maps

theorem nowL_at {m : Dk} {k : Nat} (h : k < m.n) : m.nowL[k]? = some (m.get k) := by simp [Dk.nowL, h]
theorem wasL_at {m : Dk} {k : Nat} (h : k < m.n) : m.wasL[k]? = some ((m.was k).getD (m.get k)) := by simp [Dk.wasL, h]
theorem nowL_len (m : Dk) : m.nowL.length = m.n := by simp [Dk.nowL]
theorem wasL_len (m : Dk) : m.wasL.length = m.n := by simp [Dk.wasL]
theorem list_by {m : Nat} {a b : List (List UInt8)} (ha : a.length = m) (hb : b.length = m) (h : ∀ k, k < m → a[k]? = b[k]?) : a = b := by
  apply List.ext_getElem?
  intro k
  by_cases hk : k < m
  · exact h k hk
  · rw [List.getElem?_eq_none (by omega), List.getElem?_eq_none (by omega)]
theorem new_nowL (n : Nat) : (Dk.new n).nowL = List.replicate n zeros := by
  refine list_by (nowL_len _) (by simp; rfl) (fun k hk => ?_)
  rw [nowL_at hk]
  have : k < n := hk
  simp [this]; rfl
theorem new_wasL (n : Nat) : (Dk.new n).wasL = List.replicate n zeros := by
  refine list_by (wasL_len _) (by simp; rfl) (fun k hk => ?_)
  rw [wasL_at hk]
  have : k < n := hk
  simp [this]; rfl
theorem put_nowL {m : Dk} {k : Nat} (hk : k < m.n) (s : List UInt8) : (m.put k s).did.nowL = m.nowL.set k s := by
  refine list_by (m := m.n) (nowL_len _) (by simp [nowL_len]) (fun j hj => ?_)
  rw [nowL_at (m := (m.put k s).did) hj, List.getElem?_set]
  have e : (m.put k s).did.get (j : Int) = ((upd m.now k (some s)) (j : Int)).getD zeros := rfl
  rw [e]
  by_cases h : k = j
  · subst h
    rw [upd_same, if_pos rfl, if_pos (by rw [nowL_len]; exact hk)]
    rfl
  · rw [if_neg h, upd_other _ _ (by omega), nowL_at hj]; rfl
theorem put_wasL {m : Dk} {k : Nat} (hk : k < m.n) (s : List UInt8) : (m.put k s).did.wasL = m.wasL := by
  refine list_by (m := m.n) (wasL_len _) (wasL_len _) (fun j hj => ?_)
  rw [wasL_at (m := (m.put k s).did) hj, wasL_at hj]
  have e : (m.put k s).did.get (j : Int) = ((upd m.now k (some s)) (j : Int)).getD zeros := rfl
  have e2 : (m.put k s).did.was = if (m.was k).isSome then m.was else upd m.was k (some (m.get k)) := rfl
  rw [e, e2]
  by_cases h : k = j
  · subst h
    cases hw : m.was (k : Int) with
    | some t => simp [hw]
    | none => simp [hw, upd_same]
  · rw [upd_other m.now _ (show (j : Int) ≠ (k : Int) by omega)]
    cases hw : m.was (k : Int) with
    | some t => simp; rfl
    | none => simp only [Option.isSome_none]; rw [if_neg (by simp), upd_other _ _ (show (j : Int) ≠ (k : Int) by omega)]; rfl
theorem sync_nowL (m : Dk) : ({ m with was := fun _ => none } : Dk).did.nowL = m.nowL := rfl
theorem sync_wasL (m : Dk) : ({ m with was := fun _ => none } : Dk).did.wasL = m.nowL := by
  refine list_by (m := m.n) (wasL_len _) (nowL_len _) (fun j hj => ?_)
  rw [wasL_at (m := ({ m with was := fun _ => none } : Dk).did) hj, nowL_at hj]; rfl
theorem boot_wasL {m : Dk} (h : m.Ok) (ho : m.off = true) (keep : List Int) : (m.boot keep).1.wasL = (m.boot keep).1.nowL := by
  refine list_by (wasL_len _) (nowL_len _) (fun k hk => ?_)
  rw [wasL_at hk, nowL_at hk, boot_was h ho]; rfl
theorem kept_boot {m : Dk} (h : m.Ok) (ho : m.off = true) (keep : List Int) : KeptOk (m.boot keep).1 m.dirty m.wasL m.nowL := by
  intro k hk
  rw [boot_n] at hk
  rw [boot_get ho]
  obtain ⟨p1, p2⟩ := bootI_now h keep m.dirty.length (Nat.le_refl _) (k : Int)
  rw [List.take_length] at p1 p2
  have hg : (m.get (k : Int)).length = 128 := Dk.Full.get h.full _
  have hw : ((m.was (k : Int)).getD (m.get k)).length = 128 := by
    cases hw : m.was (k : Int) with
    | none => exact hg
    | some t => exact h.full.2 _ _ hw
  refine ⟨?_, _, _, wasL_at hk, nowL_at hk, hw, hg, fun i hi => ?_⟩
  · by_cases hd : (k : Int) ∈ m.dirty
    · obtain ⟨n, s, t, hs, ht, e⟩ := p2 hd
      rw [e]
      have h1 := h.full.1 _ _ hs
      have h2 := h.full.2 _ _ ht
      simp [h1, h2]; omega
    · rw [p1 hd]; exact hg
  · by_cases hd : (k : Int) ∈ m.dirty
    · obtain ⟨n, s, t, hs, ht, e⟩ := p2 hd
      have h1 := h.full.1 _ _ hs
      have h2 := h.full.2 _ _ ht
      have eg : m.get (k : Int) = s := by unfold Dk.get; rw [hs]; rfl
      rw [e, ht, eg]
      simp only [Option.getD_some]
      by_cases hin : i < n
      · right
        refine ⟨hd, ?_⟩
        rw [List.getElem?_append_left (by simp; omega), List.getElem?_take_of_lt hin]
      · left
        rw [List.getElem?_append_right (by simp; omega), List.getElem?_drop]
        congr 1
        simp; omega
    · left
      rw [p1 hd]
      have hw0 : m.was (k : Int) = none := by
        cases hw0 : m.was (k : Int) with
        | none => rfl
        | some t => exact absurd ((mem_dirty h.dom _).2 (by rw [hw0]; rfl)) hd
      rw [hw0]; rfl
theorem mix_set {A B : List (List UInt8)} {q : Nat} (ha : q < A.length) (hb : q < B.length) {x : List UInt8} (hx : A[q]? = some x) : (A.take q ++ B.drop q).set q x = A.take (q + 1) ++ B.drop (q + 1) := by
  apply List.ext_getElem?
  intro i
  rw [List.getElem?_set]
  by_cases h : q = i
  · subst h
    rw [if_pos rfl, if_pos (by simp; omega), List.getElem?_append_left (by simp; omega), List.getElem?_take_of_lt (by omega), hx]
  · rw [if_neg h]
    by_cases hi : i < q
    · rw [List.getElem?_append_left (by simp; omega), List.getElem?_append_left (by simp; omega), List.getElem?_take_of_lt hi, List.getElem?_take_of_lt (by omega)]
    · rw [List.getElem?_append_right (by simp; omega), List.getElem?_append_right (by simp; omega), List.getElem?_drop, List.getElem?_drop]
      congr 1
      simp
      omega
theorem mix_zero (A B : List (List UInt8)) : A.take 0 ++ B.drop 0 = B := by simp
theorem mix_end {A B : List (List UInt8)} (h : B.length = A.length) : A.take A.length ++ B.drop A.length = A := by simp [h]
theorem dirty_in (m : Dk) : ∀ d ∈ m.dirty, 0 ≤ d ∧ d < m.n := by
  intro d hd
  simp [Dk.dirty] at hd
  obtain ⟨a, ⟨h1, _⟩, rfl⟩ := hd
  omega
end Go.Proofs.YtnlppcjfpmnahaaGreatDoor

/- DiskKept: the steps in memory. -/
namespace Go.Proofs.YtnlppcjfpmnahaaGreatDoor
set_option linter.all false
open Go.RowKit Go.Maps
open Go.ChangeShapes Go.WideShapes Go.ChangeAt

theorem Own.free0 {w0 w : World} {L : List Piece} {g n cap : Nat} {ss : List (List UInt8)} (h : Own w0 w (strs (.slice (some ⟨g, 0, none⟩) n cap) ss :: L)) (k : Nat) (hk : k < ss.length) : w.frozen? ⟨g, k, none⟩ = false := (h.readRow k hk).2.2
theorem Own.strsKind {w0 w : World} {L : List Piece} {v : Value} {ss : List (List UInt8)} (h : Own w0 w (strs v ss :: L)) : v = .slice none 0 0 ∨ ∃ ad m c, v = .slice (some ad) m c := by
  rcases row_shape' h.row with e | ⟨g, cap, e⟩
  · exact .inl e
  · exact .inr ⟨_, _, _, e⟩
/-- the steps that are done -/
theorem write_cases (m : Dk) (k : Int) (s : List UInt8) : (∃ er, m.write k s = (m, er) ∧ er ≠ 0) ∨ ∃ j : Nat, k = (j : Int) ∧ j < m.n ∧ m.write k s = ((m.put j s).did, 0) := by
  unfold Dk.write
  split
  · exact .inl ⟨_, rfl, by omega⟩
  split
  · exact .inl ⟨_, rfl, by omega⟩
  · right
    refine ⟨k.toNat, by omega, by omega, ?_⟩
    rw [show ((k.toNat : Nat) : Int) = k from by omega]
end Go.Proofs.YtnlppcjfpmnahaaGreatDoor
/- mailroomref10.Disk: the object, and what is small of it. -/
namespace Go.Proofs.YtnlppcjfpmnahaaGreatDoor
set_option linter.all false
open Go.RowKit Go.Maps

def wetB (m : Dk) : List Bool := (List.range m.n).map fun k : Nat => (m.was k).isSome
structure Rel (m : Dk) (f : Bool) (lf : Int) : Prop where
  on : f = true → lf = (m.left : Int) ∧ (m.off = false → 0 < m.left)
  none : f = false → m.left = 0
def xcells (m : Dk) (aw : Option Addr) (cw : Nat) (an : Option Addr) (cn : Nat) (at0 : Option Addr) (ct : Nat) (f : Bool) (lf : Int) : Array Value :=
  #[.slice aw m.n cw, .slice an m.n cn, .slice at0 m.n ct, .int .i64 m.ops, .int .i64 lf, .bool f, .bool m.off]
structure XS where
  b : Nat
  aw : Option Addr
  cw : Nat
  an : Option Addr
  cn : Nat
  at0 : Option Addr
  ct : Nat
  f : Bool
  lf : Int
def xk (p : Value) (m : Dk) : Piece :=
  ex fun x : XS => both (fact (p = .pointer (some ⟨x.b, 0, none⟩) ∧ Rel m x.f x.lf)) (both (box x.b (xcells m x.aw x.cw x.an x.cn x.at0 x.ct x.f x.lf) 88) (both (strs (.slice x.aw m.n x.cw) m.wasL) (both (strs (.slice x.an m.n x.cn) m.nowL) (rowv 4 1 (.slice x.at0 m.n x.ct) m.n (Bv (wetB m))))))
theorem Own.xkE {w0 w : World} {L : List Piece} {p : Value} {m : Dk} (O : Own w0 w (xk p m :: L)) : ∃ b aw cw an cn at0 ct f lf, p = .pointer (some ⟨b, 0, none⟩) ∧ Rel m f lf ∧
    Own w0 w (box b (xcells m aw cw an cn at0 ct f lf) 88 :: strs (.slice aw m.n cw) m.wasL :: strs (.slice an m.n cn) m.nowL :: rowv 4 1 (.slice at0 m.n ct) m.n (Bv (wetB m)) :: L) := by
  obtain ⟨⟨b, aw, cw, an, cn, at0, ct, f, lf⟩, O⟩ := O.exE
  obtain ⟨⟨hp, hr⟩, O⟩ := O.unpack.factE
  have O1 := O.unpack
  have O2 := (O1.pick 1).unpack
  have O3 := (O2.pick 1).unpack
  exact ⟨b, aw, cw, an, cn, at0, ct, f, lf, hp, hr, O3.selK 4 [3, 2, 0, 1]⟩
theorem Own.xkI {w0 w : World} {L : List Piece} {m : Dk} {b : Nat} {aw an at0 : Option Addr} {cw cn ct : Nat} {f : Bool} {lf : Int} (hr : Rel m f lf)
    (O : Own w0 w (box b (xcells m aw cw an cn at0 ct f lf) 88 :: strs (.slice aw m.n cw) m.wasL :: strs (.slice an m.n cn) m.nowL :: rowv 4 1 (.slice at0 m.n ct) m.n (Bv (wetB m)) :: L)) :
    Own w0 w (xk (.pointer (some ⟨b, 0, none⟩)) m :: L) := by
  have O1 := (O.selK 4 [2, 3, 1, 0]).pack
  have O2 := (O1.selK 3 [1, 0, 2]).pack
  have O3 := (O2.selK 2 [1, 0]).pack
  exact Own.exI (⟨b, aw, cw, an, cn, at0, ct, f, lf⟩ : XS) (Own.pack (Own.factI ⟨rfl, hr⟩ O3))
structure XAt (w : World) (b : Nat) (m : Dk) (aw : Option Addr) (cw : Nat) (an : Option Addr) (cn : Nat) (at0 : Option Addr) (ct : Nat) (f : Bool) (lf : Int) : Prop where
  c0 : w.cell? ⟨b, 0, none⟩ = some (.slice aw m.n cw)
  c1 : w.cell? ⟨b, 1, none⟩ = some (.slice an m.n cn)
  c2 : w.cell? ⟨b, 2, none⟩ = some (.slice at0 m.n ct)
  c3 : w.cell? ⟨b, 3, none⟩ = some (.int .i64 m.ops)
  c4 : w.cell? ⟨b, 4, none⟩ = some (.int .i64 lf)
  c5 : w.cell? ⟨b, 5, none⟩ = some (.bool f)
  c6 : w.cell? ⟨b, 6, none⟩ = some (.bool m.off)
  fr : ∀ o, w.frozen? ⟨b, o, none⟩ = false
theorem Own.xAt {w0 w : World} {L : List Piece} {m : Dk} {b : Nat} {aw an at0 : Option Addr} {cw cn ct : Nat} {f : Bool} {lf : Int} (O : Own w0 w (box b (xcells m aw cw an cn at0 ct f lf) 88 :: L)) : XAt w b m aw cw an cn at0 ct f lf :=
  ⟨O.cell 0, O.cell 1, O.cell 2, O.cell 3, O.cell 4, O.cell 5, O.cell 6, fun o => O.free o⟩

set_option maxRecDepth 100000 in
theorem xread_own {w0 w : World} {L : List Piece} {p : Value} {m : Dk} (O : Own w0 w (xk p m :: L)) (k : Int) (hk : I64 k) :
    Calls Tryz.prog 81 #[p, .int .i64 k] w fun e w' => e = .returned (.tuple #[.string ⟨(m.read k).1.toArray⟩, .int .i64 (m.read k).2]) ∧ w = w' := by
  obtain ⟨b, aw, cw, an, cn, at0, ct, f, lf, hp, hr, U⟩ := O.xkE
  subst hp
  obtain ⟨c0, c1, c2, c3, c4, c5, c6, fr⟩ := U.xAt
  rcases Bool.eq_false_or_eq_true m.off with ho | ho
  · have hrd : m.read k = ([], 42) := by unfold Dk.read; rw [if_pos ho]
    rw [ho] at c6
    have HR := Lib.hid hrd
    clear hrd ho U O hr
    rw [HR.out]
    go_enter Tryz.func81, Tryz.ntmps81
    go_wp2
    go_returns
    exact ⟨rfl, rfl⟩
  rw [ho] at c6
  by_cases h1 : k < 0
  · have hrd : m.read k = ([], 1) := by unfold Dk.read; rw [if_neg (by simp [ho]), if_pos (.inl h1)]
    have HR := Lib.hid hrd
    clear hrd ho U O hr
    rw [HR.out]
    go_enter Tryz.func81, Tryz.ntmps81
    go_wp2
    go_returns
    exact ⟨rfl, rfl⟩
  by_cases h2 : (m.n : Int) ≤ k
  · have hrd : m.read k = ([], 1) := by unfold Dk.read; rw [if_neg (by simp [ho]), if_pos (.inr h2)]
    have HR := Lib.hid hrd
    clear hrd ho U O hr
    rw [HR.out]
    go_enter Tryz.func81, Tryz.ntmps81
    go_wp2
    go_returns
    exact ⟨rfl, rfl⟩
  obtain ⟨j, rfl⟩ : ∃ j : Nat, k = (j : Int) := ⟨k.toNat, by omega⟩
  have hj : j < m.n := by omega
  have hjb : (j : Int) < (m.n : Int) := by omega
  obtain ⟨-, gn, e1, cj, -⟩ := (U.pick 2).strsAt j (by rw [nowL_len]; exact hj)
  subst e1
  rw [show m.nowL[j]'(by rw [nowL_len]; exact hj) = m.get j from by
    have := nowL_at hj; rw [List.getElem?_eq_getElem (by rw [nowL_len]; exact hj)] at this; exact Option.some.inj this] at cj
  have HR := Lib.hid (read_in ho hj)
  rw [HR.out]
  clear ho U O hr h1 h2 hj
  go_enter Tryz.func81, Tryz.ntmps81
  go_wp2
  go_returns
  exact ⟨rfl, rfl⟩
theorem Rel.did {m : Dk} {f : Bool} {lf : Int} (h : Rel m f lf) (ho : m.off = false) : Rel m.did f (if f = true then lf - 1 else lf) ∧ m.did.off = if f = true then decide (lf - 1 = 0) else false := by
  cases f
  · have := h.none rfl
    refine ⟨⟨fun e => (by cases e), fun _ => ?_⟩, ?_⟩
    · show m.left - 1 = 0; omega
    · simp [Dk.did, this, ho]
  · obtain ⟨e, hp⟩ := h.on rfl
    have hp := hp ho
    refine ⟨⟨fun _ => ⟨?_, fun ho' => ?_⟩, fun e => (by cases e)⟩, ?_⟩
    · show (if true = true then lf - 1 else lf) = ((m.left - 1 : Nat) : Int); simp; omega
    · show 0 < m.left - 1
      have : (if 0 < m.left then decide (m.left = 1) else m.off) = false := ho'
      rw [if_pos hp] at this
      simp at this
      omega
    · show (if 0 < m.left then decide (m.left = 1) else m.off) = if true = true then decide (lf - 1 = 0) else false
      rw [if_pos hp, if_pos rfl]
      congr 1
      apply propext
      omega
set_option maxRecDepth 100000 in
theorem xdid_own {w0 w : World} {L : List Piece} {p : Value} {m : Dk} (O : Own w0 w (xk p m :: L)) (ho : m.off = false) (h1 : m.ops ≤ 100000) (h2 : m.left ≤ 9223372036854775807) :
    Calls Tryz.prog 64 #[p] w fun e w' => e = .returned (.tuple #[]) ∧ Own w0 w' (xk p m.did :: L) := by
  obtain ⟨b, aw, cw, an, cn, at0, ct, f, lf, hp, hr, U⟩ := O.xkE
  subst hp
  obtain ⟨r1, r2⟩ := hr.did ho
  obtain ⟨c0, c1, c2, c3, c4, c5, c6, fr⟩ := U.xAt
  cases f
  · have O2 : Own w0 (w.setCell ⟨b, 3, none⟩ (.int .i64 ((m.ops : Int) + 1))) (xk (.pointer (some ⟨b, 0, none⟩)) m.did :: L) := by
      refine Own.xkI (aw := aw) (cw := cw) (an := an) (cn := cn) (at0 := at0) (ct := ct) r1 ?_
      have := U.set 3 (.int .i64 ((m.ops : Int) + 1))
      have e : xcells m.did aw cw an cn at0 ct false lf = (xcells m aw cw an cn at0 ct false lf).setIfInBounds 3 (.int .i64 ((m.ops : Int) + 1)) := by
        simp only [if_neg (show ¬ (false = true) from by simp)] at r2
        unfold xcells
        rw [r2, ho]
        rfl
      rw [if_neg (by simp), e]
      exact this
    clear O U hr r1 r2 ho
    go_enter Tryz.func64, Tryz.ntmps64
    go_wp2
    go_end0
    exact ⟨rfl, O2⟩
  · obtain ⟨hlf, hp⟩ := hr.on rfl
    have hp := hp ho
    have hl1 : 1 ≤ lf := by omega
    have hl2 : lf ≤ 9223372036854775807 := by omega
    have O2 : Own w0 (((w.setCell ⟨b, 3, none⟩ (.int .i64 ((m.ops : Int) + 1))).setCell ⟨b, 4, none⟩ (.int .i64 (lf - 1))).setCell ⟨b, 6, none⟩ (.bool (lf - 1 == 0))) (xk (.pointer (some ⟨b, 0, none⟩)) m.did :: L) := by
      refine Own.xkI (aw := aw) (cw := cw) (an := an) (cn := cn) (at0 := at0) (ct := ct) r1 ?_
      have := ((U.set 3 (.int .i64 ((m.ops : Int) + 1))).set 4 (.int .i64 (lf - 1))).set 6 (.bool (lf - 1 == 0))
      have e : xcells m.did aw cw an cn at0 ct true (lf - 1) = (((xcells m aw cw an cn at0 ct true lf).setIfInBounds 3 (.int .i64 ((m.ops : Int) + 1))).setIfInBounds 4 (.int .i64 (lf - 1))).setIfInBounds 6 (.bool (lf - 1 == 0)) := by
        simp only [if_pos] at r2
        unfold xcells
        rw [r2]
        rfl
      rw [if_pos rfl, e]
      exact this
    clear O U hr r1 r2 ho hp hlf
    go_enter Tryz.func64, Tryz.ntmps64
    go_wp2
    go_end0
    exact ⟨rfl, O2⟩
end Go.Proofs.YtnlppcjfpmnahaaGreatDoor
/- mailroomref10.Disk: Write, Fail, Dirty. -/
namespace Go.Proofs.YtnlppcjfpmnahaaGreatDoor
set_option linter.all false
open Go.RowKit Go.Maps

theorem wetB_at {m : Dk} {k : Nat} (h : k < m.n) : (wetB m)[k]? = some (m.was (k : Int)).isSome := by simp [wetB, h]
theorem wetB_len (m : Dk) : (wetB m).length = m.n := by simp [wetB]
theorem put_wetB {m : Dk} {k : Nat} (hk : k < m.n) (s : List UInt8) : Bv (wetB (m.put k s)) = (Bv (wetB m)).set k (.bool true) := by
  apply List.ext_getElem?
  intro j
  rw [List.getElem?_set]
  have e2 : (m.put k s).was = if (m.was k).isSome then m.was else upd m.was k (some (m.get k)) := rfl
  by_cases hj : j < m.n
  · by_cases h : k = j
    · subst h
      rw [if_pos rfl, if_pos (by simp [Bv, wetB_len]; exact hk)]
      simp only [Bv, List.getElem?_map, wetB_at (m := m.put k s) hj, e2]
      cases hw : m.was (k : Int) with
      | some t => simp [hw]
      | none => simp [upd_same]
    · rw [if_neg h]
      simp only [Bv, List.getElem?_map, wetB_at (m := m.put k s) hj, wetB_at hj, e2]
      cases hw : m.was (k : Int) with
      | some t => simp
      | none => simp only [Option.isSome_none]; rw [if_neg (by simp), upd_other _ _ (show (j : Int) ≠ (k : Int) by omega)]
  · have h1 : (wetB (m.put k s)).length = m.n := wetB_len _
    have h2 := wetB_len m
    rw [if_neg (by omega), List.getElem?_eq_none (by simp [Bv, h1]; omega), List.getElem?_eq_none (by simp [Bv, h2]; omega)]
theorem Rel.put {m : Dk} {f : Bool} {lf : Int} (h : Rel m f lf) (k : Int) (s : List UInt8) : Rel (m.put k s) f lf := ⟨h.on, h.none⟩
theorem write_is {m : Dk} {k : Int} {s : List UInt8} (ho : m.off = false) (h1 : 0 ≤ k) (h2 : k < m.n) (h3 : s.length = 128) : m.write k s = ((m.put k s).did, 0) := by
  unfold Dk.write; rw [if_neg (by simp [ho]), if_neg (by omega)]

set_option maxRecDepth 100000 in
theorem xwrite_own {w0 w : World} {L : List Piece} {p : Value} {m : Dk} {c : Nat} (O : Own w0 w (xk p m :: L)) (h : m.Fit c) (hc : c ≤ 9000) (k : Int) (hk : I64 k) (s : List UInt8) (hs : s.length ≤ 1000000) {m' : Dk} {er : Int} (hr : m.write k s = (m', er)) :
    Calls Tryz.prog 80 #[p, .int .i64 k, .string ⟨s.toArray⟩] w fun e w' => e = .returned (.int .i64 er) ∧ Own w0 w' (xk p m' :: L) := by
  obtain ⟨b, aw, cw, an, cn, at0, ct, f, lf, hp, hrel, U⟩ := O.xkE
  subst hp
  obtain ⟨c0, c1, c2, c3, c4, c5, c6, fr⟩ := U.xAt
  rcases Bool.eq_false_or_eq_true m.off with ho | ho
  · have hrd : m.write k s = (m, 42) := by unfold Dk.write; rw [if_pos ho]
    rw [hrd] at hr
    simp only [Prod.mk.injEq] at hr
    obtain ⟨rfl, rfl⟩ := hr
    rw [ho] at c6
    clear hrd ho U hrel
    go_enter Tryz.func80, Tryz.ntmps80
    go_wp2
    go_ret
    exact ⟨rfl, O⟩
  rw [ho] at c6
  by_cases h1 : k < 0
  · have hrd : m.write k s = (m, 1) := by unfold Dk.write; rw [if_neg (by simp [ho]), if_pos (.inl h1)]
    rw [hrd] at hr
    simp only [Prod.mk.injEq] at hr
    obtain ⟨rfl, rfl⟩ := hr
    clear hrd ho U hrel
    go_enter Tryz.func80, Tryz.ntmps80
    go_wp2
    go_ret
    exact ⟨rfl, O⟩
  by_cases h2 : (m.n : Int) ≤ k
  · have hrd : m.write k s = (m, 1) := by unfold Dk.write; rw [if_neg (by simp [ho]), if_pos (.inr (.inl h2))]
    rw [hrd] at hr
    simp only [Prod.mk.injEq] at hr
    obtain ⟨rfl, rfl⟩ := hr
    clear hrd ho U hrel
    go_enter Tryz.func80, Tryz.ntmps80
    go_wp2
    go_ret
    exact ⟨rfl, O⟩
  by_cases h3 : s.length = 128
  rotate_left
  · have hrd : m.write k s = (m, 1) := by unfold Dk.write; rw [if_neg (by simp [ho]), if_pos (.inr (.inr h3))]
    rw [hrd] at hr
    simp only [Prod.mk.injEq] at hr
    obtain ⟨rfl, rfl⟩ := hr
    have i3 : ((s.length : Int) != 128) = true := by simp; omega
    clear hrd ho U hrel
    go_enter Tryz.func80, Tryz.ntmps80
    go_wp2
    go_ret
    exact ⟨rfl, O⟩
  have i3 : ((s.length : Int) != 128) = false := by simp; omega
  obtain ⟨j, rfl⟩ : ∃ j : Nat, k = (j : Int) := ⟨k.toNat, by omega⟩
  have hj : j < m.n := by omega
  have hjb : (j : Int) < (m.n : Int) := by omega
  have hrd := write_is ho (by omega) hjb h3
  rw [hrd] at hr
  simp only [Prod.mk.injEq] at hr
  obtain ⟨rfl, rfl⟩ := hr
  obtain ⟨-, gn, e1, cj, fj⟩ := (U.pick 2).strsAt j (by rw [nowL_len]; exact hj)
  subst e1
  obtain ⟨old, hold⟩ : ∃ old, old = m.nowL[j]'(by rw [nowL_len]; exact hj) := ⟨_, rfl⟩
  rw [← hold] at cj
  have O2 := (U.pick 2).store j s
  obtain ⟨-, gt, e2, tj, gj⟩ := (O2.pick 3).rowvAt j (by simp [Bv, wetB_len]; exact hj)
  subst e2
  obtain ⟨oldb, holdb⟩ : ∃ q, q = (Bv (wetB m))[j]'(by simp [Bv, wetB_len]; exact hj) := ⟨_, rfl⟩
  rw [← holdb] at tj
  have O3 := (O2.pick 3).rowvStore j (.bool true)
  rw [← put_wetB hj s, ← (show (m.put j s).nowL = m.nowL.set j s from put_nowL hj s), ← (show (m.put j s).wasL = m.wasL from put_wasL hj s)] at O3
  have O4 : Own w0 _ (xk (.pointer (some ⟨b, 0, none⟩)) (m.put j s) :: L) := Own.xkI (hrel.put j s) (O3.selK 4 [2, 3, 1, 0])
  have d := (O2.pick 1).xAt
  have d2 := d.c2
  have HO := Lib.hid ho
  have hop : (m.put j s).ops ≤ 100000 := by have := h.ops; show m.ops ≤ _; omega
  have hle : (m.put j s).left ≤ 9223372036854775807 := h.left
  clear hrd ho U hrel hold holdb O O2 O3 d h1 h2 h3
  go_enter Tryz.func80, Tryz.ntmps80
  go_upto_region 6 with fail
  go_wp2_with fail
  refine (xdid_own O4 HO.out hop hle).mono ?_
  clear O4
  rintro e w5 ⟨rfl, O⟩
  go_wp2
  go_ret
  exact ⟨rfl, O⟩
theorem Rel.fail (m : Dk) (k : Int) : Rel (m.fail k) (decide (0 < k)) k := by
  refine ⟨fun e => ?_, fun e => ?_⟩
  · have : 0 < k := by simpa using e
    refine ⟨?_, fun _ => ?_⟩
    · show k = ((k.toNat : Nat) : Int); omega
    · show 0 < k.toNat; omega
  · have : ¬ 0 < k := by simpa using e
    show k.toNat = 0; omega
set_option maxRecDepth 100000 in
theorem xfail_own {w0 w : World} {L : List Piece} {p : Value} {m : Dk} (O : Own w0 w (xk p m :: L)) (k : Int) :
    Calls Tryz.prog 49 #[p, .int .i64 k] w fun e w' => e = .returned (.tuple #[]) ∧ Own w0 w' (xk p (m.fail k) :: L) := by
  obtain ⟨b, aw, cw, an, cn, at0, ct, f, lf, hp, hr, U⟩ := O.xkE
  subst hp
  obtain ⟨c0, c1, c2, c3, c4, c5, c6, fr⟩ := U.xAt
  have O2 : Own w0 ((w.setCell ⟨b, 5, none⟩ (.bool (decide (0 < k)))).setCell ⟨b, 4, none⟩ (.int .i64 k)) (xk (.pointer (some ⟨b, 0, none⟩)) (m.fail k) :: L) := Own.xkI (Rel.fail m k) ((U.set 5 (.bool (decide (0 < k)))).set 4 (.int .i64 k))
  clear O U hr
  go_enter Tryz.func49, Tryz.ntmps49
  go_wp2
  go_end0
  exact ⟨rfl, O2⟩
/-- the first j dirty ones -/
def dirtyTo (m : Dk) (j : Nat) : List Int := ((List.range j).filter fun k : Nat => (m.was (k : Int)).isSome).map fun k : Nat => (k : Int)
theorem dirtyTo_succ (m : Dk) (j : Nat) : dirtyTo m (j + 1) = dirtyTo m j ++ (if (m.was (j : Int)).isSome then [(j : Int)] else []) := by
  unfold dirtyTo
  rw [List.range_succ, List.filter_append, List.map_append]
  congr 1
  by_cases h : (m.was (j : Int)).isSome = true
  · rw [if_pos h]; simp [h]
  · rw [if_neg h]; simp [h]
theorem dirtyTo_len (m : Dk) (j : Nat) : (dirtyTo m j).length ≤ j := by
  unfold dirtyTo
  have := List.length_filter_le (fun k : Nat => (m.was (k : Int)).isSome) (List.range j)
  simp at this ⊢
  exact this
theorem wpList_append_numO {w0 w : World} {L : List Piece} {ops : Array Oper} {rest : List Oper} {o : Oper} {a : Act} {Q : Exit → Act → World → Prop} (hgd : o.guard = none) (s x : Operand)
    (ho : o.op = .call { callee := .builtin .append, args := #[s, x], argTypes := #[24, 24] })
    {v : Value} {zs : List Int} (z : Int) (O : Own w0 w (nums v zs :: L)) (hs : a.eval s = v) (hx : a.eval x = .slice (some ⟨w.heap.size, 0, none⟩) 1 1) (hlen : zs.length + 1 ≤ 100000000)
    (h : ∀ v' w', Own w0 w' (nums v' (zs ++ [z]) :: L) → wpList Tryz.prog ops Q rest (a.put o.dst v') w') : wpList Tryz.prog ops Q (o :: rest) a (w.alloc (.cells #[.int .i64 z] 3)) := by
  obtain ⟨i0, hi0, hz0, hz1, hzb⟩ := info_parts info_int
  have O' : Own w0 w (rowv 3 1 v zs.length (zs.map (Value.int .i64)) :: L) := O
  refine wpList_append_rowO hgd s x ho i0 _ 8 Tryz.underlying24 hi0 hz0 hz1 hzb rfl (by omega) (O'.alloc _) hs ⟨w.heap.size, 0, none⟩ 1 1 [.int .i64 z] hx rfl (fun j u hu => ?_) (fun u hu => ?_) hlen (by omega) ?_
  · rw [show (⟨w.heap.size, 0, none⟩ : Addr).add j = ⟨w.heap.size, j, none⟩ from by unfold Addr.add; split <;> simp_all, cell_at (heap_alloc_new _ _)]
    simpa using hu
  · simp at hu; subst hu; rfl
  · intro v' w' O2
    refine h v' w' ?_
    have e : zs.map (Value.int .i64) ++ [Value.int .i64 z] = (zs ++ [z]).map (Value.int .i64) := by simp
    rw [e, show zs.length + 1 = (zs ++ [z]).length from by simp] at O2
    exact O2
set_option maxRecDepth 100000 in
set_option maxHeartbeats 1000000 in
theorem xdirty_own {w0 w : World} {L : List Piece} {p : Value} {m : Dk} (O : Own w0 w (xk p m :: L)) (hn : m.n ≤ 1024) :
    Calls Tryz.prog 65 #[p] w fun e w' => ∃ a cap, e = .returned (.slice a m.dirty.length cap) ∧ Own w0 w' (nums (.slice a m.dirty.length cap) m.dirty :: xk p m :: L) := by
  obtain ⟨b, aw, cw, an, cn, at0, ct, f, lf, hp, hr, U⟩ := O.xkE
  subst hp
  have HR := Lib.hid hr
  clear hr O
  have hdd : m.dirty = dirtyTo m m.n := rfl
  have HD := Lib.hid hdd
  clear hdd
  go_enter Tryz.func65, Tryz.ntmps65
  go_wp2_with fail
  go_loopw [3, 4] (fun ov iv wr => ∃ (j : Nat) (a : Option Addr) (cap : Nat), ov = .slice a (dirtyTo m j).length cap ∧ iv = .int .i64 j ∧ j ≤ m.n ∧
      Own w0 wr (nums (.slice a (dirtyTo m j).length cap) (dirtyTo m j) :: box b (xcells m aw cw an cn at0 ct f lf) 88 :: strs (.slice aw m.n cw) m.wasL :: strs (.slice an m.n cn) m.nowL :: rowv 4 1 (.slice at0 m.n ct) m.n (Bv (wetB m)) :: L)) (fun _ iv _ => m.n - (intOf iv).toNat)
  case atStart => exact ⟨0, none, 0, rfl, rfl, by omega, U.nilNums⟩
  case round =>
    clear U
    obtain ⟨j, a, cap, rfl, rfl, hj, O⟩ := hrel
    have c2 := (O.pick 1).xAt.c2
    by_cases hlt : j < m.n
    · have hb1 : (j : Int) < (m.n : Int) := by omega
      obtain ⟨-, gt, e2, tj, -⟩ := (O.pick 4).rowvAt j (by simp [Bv, wetB_len]; exact hlt)
      subst e2
      have hv : (Bv (wetB m))[j]'(by simp [Bv, wetB_len]; exact hlt) = .bool (m.was (j : Int)).isSome := by simp [Bv, wetB]
      rw [hv] at tj
      clear hv
      have hs := dirtyTo_succ m j
      have hdl : (dirtyTo m j).length + 1 ≤ 100000000 := by have := dirtyTo_len m j; omega
      have HDL := Lib.hid hdl
      clear hdl
      rcases Bool.eq_false_or_eq_true (m.was (j : Int)).isSome with hw | hw
      · rw [hw] at tj hs
        rw [if_pos rfl] at hs
        have HS := Lib.hid hs
        clear hs hw
        go_wp2_with (at_builtin; refine wpList_append_numO rfl _ _ rfl (j : Int) O rfl rfl HDL.out ?_)
        intro v' w6 O6
        rw [← HS.out] at O6
        obtain ⟨a', cap', rfl⟩ := O6.numsShape
        clear O c2 tj
        go_wp2
        go_roundw
        case rel => exact ⟨j + 1, a', cap', rfl, by go_num, by omega, O6⟩
        case measure => simp [intOf]; omega
      · rw [hw] at tj hs
        rw [if_neg (by simp), List.append_nil] at hs
        have HS := Lib.hid hs
        clear hs hw
        rw [← HS.out] at O
        go_wp2
        go_roundw
        case rel => exact ⟨j + 1, a, cap, by rw [HS.out], by go_num, by omega, O⟩
        case measure => simp [intOf]; omega
    · have hb1 : ¬ (j : Int) < (m.n : Int) := by omega
      obtain rfl : j = m.n := by omega
      rw [← HD.out] at O ⊢
      go_wp2
      go_ret
      exact ⟨_, _, rfl, (Own.xkI HR.out (O.selK 5 [1, 2, 3, 4, 0])).selK 2 [1, 0]⟩
end Go.Proofs.YtnlppcjfpmnahaaGreatDoor
/- mailroomref10.Disk: Sync. -/
namespace Go.Proofs.YtnlppcjfpmnahaaGreatDoor
set_option linter.all false
open Go.RowKit Go.Maps

def Dk.dry (m : Dk) : Dk := { m with was := fun _ => none }
theorem wet_none {m : Dk} (h : ∀ k, m.was k = none) : Bv (wetB m) = List.replicate m.n (.bool false) := by
  apply List.ext_getElem
  · simp [Bv, wetB_len]
  · intro i h1 h2
    simp [Bv, wetB, h]
theorem Own.copyStrs {w0 w : World} {L : List Piece} {v : Value} {ss : List (List UInt8)} (O : Own w0 w (strs v ss :: L)) :
    (v = .slice none 0 0 ∨ ∃ ad m c, v = .slice (some ad) m c) ∧ ∃ G, StrsR (w.alloc (.cells #[] 9)) v ss G :=
  ⟨O.strsKind, _, O.strsR.keep ((Chg.refl [] w).alloc _) (by simp)⟩
set_option maxRecDepth 100000 in
set_option maxHeartbeats 1000000 in
theorem xsync_own {w0 w : World} {L : List Piece} {p : Value} {m : Dk} {c : Nat} (O : Own w0 w (xk p m :: L)) (h : m.Fit c) (hc : c ≤ 9000) {m' : Dk} {er : Int} (hr : m.sync = (m', er)) :
    Calls Tryz.prog 48 #[p] w fun e w' => e = .returned (.int .i64 er) ∧ Own w0 w' (xk p m' :: L) := by
  obtain ⟨b, aw, cw, an, cn, at0, ct, f, lf, hp, hrel, U⟩ := O.xkE
  subst hp
  obtain ⟨c0, c1, c2, c3, c4, c5, c6, fr⟩ := U.xAt
  rcases Bool.eq_false_or_eq_true m.off with ho | ho
  · have hrd : m.sync = (m, 42) := by unfold Dk.sync; rw [if_pos ho]
    rw [hrd] at hr
    simp only [Prod.mk.injEq] at hr
    obtain ⟨rfl, rfl⟩ := hr
    rw [ho] at c6
    clear hrd ho U hrel
    go_enter Tryz.func48, Tryz.ntmps48
    go_wp2
    go_ret
    exact ⟨rfl, O⟩
  rw [ho] at c6
  have hrd : m.sync = (m.dry.did, 0) := by unfold Dk.sync; rw [if_neg (by simp [ho])]; rfl
  rw [hrd] at hr
  simp only [Prod.mk.injEq] at hr
  obtain ⟨rfl, rfl⟩ := hr
  obtain ⟨KD, GS, SR⟩ := (U.pick 2).copyStrs
  have KD' := Lib.hid KD; have SR' := Lib.hid SR
  have hl1 : Hid (([] : List (List UInt8)).length + m.nowL.length ≤ 1000000000) := Lib.hid (by rw [nowL_len]; have := h.n; simp; omega)
  have hnn : m.n ≤ 1024 := h.n
  have hop : m.dry.ops ≤ 100000 := by have := h.ops; show m.ops ≤ _; omega
  have hle : m.dry.left ≤ 9223372036854775807 := h.left
  have hrel2 : Rel m.dry f lf := ⟨hrel.on, hrel.none⟩
  have HO : Hid (m.dry.off = false) := Lib.hid ho
  have HR := Lib.hid hrel2; have HOP := Lib.hid hop; have HLE := Lib.hid hle
  clear hrd KD SR O ho hrel hrel2 hop hle
  obtain ⟨i0, hi0, hz0, hz1, hz2⟩ := info_parts info_bool
  have blt := U.boxlt
  have HI := Lib.hid hi0; have HZ := Lib.hid hz0; have HZ1 := Lib.hid hz1; have HZ2 := Lib.hid hz2
  clear hi0 hz0 hz1 hz2
  go_enter Tryz.func48, Tryz.ntmps48
  go_wp2_with (at_builtin; refine wpList_append_strsO rfl _ _ rfl _ [] _ m.nowL GS U.emptyStrs rfl rfl SR'.out KD'.out hl1.out ?_)
  intro v' w6 O6
  obtain ⟨a', c', rfl⟩ := O6.shape
  rw [nowL_len] at O6 ⊢
  clear c0 c1 c2 c3 c4 c5 c6 fr U blt KD' SR' hl1
  obtain ⟨c0, c1, c2, c3, c4, c5, c6, fr⟩ := (O6.pick 1).xAt
  have O7 := (O6.pick 1).set 0 (.slice a' m.n c')
  go_wp2_with (at_make; refine wpList_make_rowO (e := 4) (size := 1) rfl _ rfl i0 (.bool false) Tryz.underlying86 HI.out HZ.out HZ1.out (by rw [HZ2.out]; omega) m.n rfl (by omega) O7 ?_)
  intro g w8 O8
  clear c0 c1 c2 c3 c4 c5 c6 fr O6 O7
  have c2 : w8.cell? ⟨b, 2, none⟩ = some (.slice at0 m.n ct) := (O8.pick 1).cell 2
  have fr := (O8.pick 1).free
  have O9 := (O8.pick 1).set 2 (.slice (some ⟨g, 0, none⟩) m.n m.n)
  have e1 : Bv (wetB m.dry) = (madeCells #[Value.bool false] m.n).toList := by
    rw [wet_none (fun _ => rfl)]
    exact (made_false m.n).symm
  have e2 : m.dry.wasL = m.nowL := sync_wasL m
  have e3 : m.dry.nowL = m.nowL := rfl
  have O10 : Own w0 (w8.setCell ⟨b, 2, none⟩ (.slice (some ⟨g, 0, none⟩) m.n m.n)) (xk (.pointer (some ⟨b, 0, none⟩)) m.dry :: L) := Own.xkI (aw := a') (cw := c') (an := an) (cn := cn) (at0 := some ⟨g, 0, none⟩) (ct := m.n) HR.out (by
    rw [e1, e2, e3]
    exact O9.selK 6 [0, 2, 4, 1])
  clear hnn O8 O9 e1 e2 e3
  go_wp2_with fail
  refine (xdid_own O10 HO.out HOP.out HLE.out).mono ?_
  clear O10 c2 fr
  rintro e w5 ⟨rfl, O⟩
  go_wp2
  go_ret
  exact ⟨rfl, O⟩
end Go.Proofs.YtnlppcjfpmnahaaGreatDoor
/- mailroomref10.Disk: Boot. -/
namespace Go.Proofs.YtnlppcjfpmnahaaGreatDoor
set_option linter.all false
open Go.RowKit Go.Maps

theorem bootI_wasL_set {m : Dk} (h : m.Ok) (keep : List Int) {i j : Nat} (hi : i < m.dirty.length) (hj : m.dirty[i] = (j : Int)) (hjn : j < m.n) :
    ∃ t, (m.bootI keep i).wasL[j]? = some t ∧ t.length = 128 ∧ (m.bootI keep (i + 1)).wasL = (m.bootI keep i).wasL.set j ((m.get j).take (keepAt keep i) ++ t.drop (keepAt keep i)) := by
  obtain ⟨s, t, hs, ht, hsl, htl⟩ := bootI_at h keep hi
  have hn : (m.bootI keep i).n = m.n := (bootI_n m keep i).1
  have e : m.dirty.getD i 0 = m.dirty[i] := by simp [hi]
  rw [hj] at hs ht
  have hg : m.get (j : Int) = s := by
    have nb := not_before m hi
    have := (bootI_now h keep i (by omega) (j : Int)).1 (by rw [← hj]; exact nb)
    unfold Dk.get
    rw [← this, hs]; rfl
  refine ⟨t, ?_, htl, ?_⟩
  · rw [wasL_at (by rw [hn]; exact hjn), ht]; rfl
  · have eb : m.bootI keep (i + 1) = (m.bootI keep i).boot1 (j : Int) (keepAt keep i) := by
      show (m.bootI keep i).boot1 (m.dirty.getD i 0) (keepAt keep i) = _
      rw [e, hj]
    rw [eb, boot1_is hs ht, hg]
    refine list_by (m := m.n) (by rw [wasL_len]; exact hn) (by rw [List.length_set, wasL_len]; exact hn) (fun k hk => ?_)
    have hk' : k < (m.bootI keep i).n := by rw [hn]; exact hk
    rw [List.getElem?_set, wasL_at hk']
    rw [wasL_at (m := { m.bootI keep i with now := upd (m.bootI keep i).now (j : Int) (some (s.take (keepAt keep i) ++ t.drop (keepAt keep i))), was := upd (m.bootI keep i).was (j : Int) none, cn := (m.bootI keep i).cn + 1 }) hk']
    unfold Dk.get
    dsimp only
    by_cases hkj : j = k
    · subst hkj
      rw [if_pos rfl, if_pos (by rw [wasL_len]; exact hk'), upd_same, upd_same]
      rfl
    · rw [if_neg hkj, upd_other _ _ (show (k : Int) ≠ (j : Int) by omega), upd_other _ _ (show (k : Int) ≠ (j : Int) by omega)]
theorem bootI_zero_wasL (m : Dk) (keep : List Int) : (m.bootI keep 0).wasL = m.wasL := rfl
theorem boot_wetB {m : Dk} (h : m.Ok) (ho : m.off = true) (keep : List Int) : Bv (wetB (m.boot keep).1) = (madeCells #[Value.bool false] m.n).toList := by
  rw [wet_none (boot_was h ho keep), boot_n]
  exact (made_false m.n).symm
theorem boot_end {m : Dk} (ho : m.off = true) (keep : List Int) : (m.boot keep).1.wasL = (m.bootI keep m.dirty.length).wasL := by
  unfold Dk.boot; rw [if_pos ho]; rfl
theorem boot_cells {m : Dk} (ho : m.off = true) (keep : List Int) : (m.boot keep).1.ops = m.ops ∧ (m.boot keep).1.left = 0 ∧ (m.boot keep).1.off = false := by
  unfold Dk.boot; rw [if_pos ho]
  exact ⟨(bootI_n m keep _).2.1, rfl, rfl⟩

set_option maxRecDepth 100000 in
set_option maxHeartbeats 4000000 in
theorem xboot_own {w0 w : World} {L : List Piece} {p : Value} {m : Dk} {c : Nat} (O : Own w0 w (xk p m :: L)) (h : m.Fit c) (hc : c ≤ 9000) (ak : Option Addr) (ck : Nat) (xs : List Int) (G : List Nat)
    (hs : SlR w0 (.slice ak xs.length ck) (xs.map (Value.int .i64)) G) (hx : xs.length ≤ maxLen) {m' : Dk} {er : Int} (hr : m.boot xs = (m', er)) :
    Calls Tryz.prog 50 #[p, .slice ak xs.length ck] w fun e w' => e = .returned (.int .i64 er) ∧ Own w0 w' (xk p m' :: L) := by
  have hx2 : xs.length ≤ 9223372036854775807 := hx
  obtain ⟨b, aw, cw, an, cn, at0, ct, f, lf, hp, hrel, U⟩ := O.xkE
  subst hp
  obtain ⟨c0, c1, c2, c3, c4, c5, c6, fr⟩ := U.xAt
  rcases Bool.eq_false_or_eq_true m.off with ho | ho
  rotate_left
  · have hrd : m.boot xs = (m, 7) := by unfold Dk.boot; rw [if_neg (by simp [ho])]
    rw [hrd] at hr
    simp only [Prod.mk.injEq] at hr
    obtain ⟨rfl, rfl⟩ := hr
    rw [ho] at c6
    clear hrd ho U hrel hs hx
    go_enter Tryz.func50, Tryz.ntmps50
    go_wp2
    go_ret
    exact ⟨rfl, O⟩
  rw [ho] at c6
  have hnn : m.n ≤ 1024 := h.n
  have HS := Lib.hid hs; have HF := Lib.hid h; have HO := Lib.hid ho; have HRR := Lib.hid hr; have HX := Lib.hid hx
  clear hs h ho hr hrel U hx
  have hdl := dirty_len (HF.out.small hc)
  have HI := Lib.hid (dirty_in m)
  go_enter Tryz.func50, Tryz.ntmps50
  go_wp2_with fail
  refine (xdirty_own O hnn).mono ?_
  clear O c0 c1 c2 c3 c4 c5 c6 fr
  rintro e w1 ⟨al, cl, rfl, O⟩
  obtain ⟨b', aw, cw, an, cn, at0, ct, f, lf, hp, hrel, U⟩ := (O.pick 1).xkE
  simp only [Value.pointer.injEq, Option.some.injEq, Addr.mk.injEq, and_true] at hp
  subst hp
  clear O hrel
  go_wp2_with fail
  go_loopw [6] (fun iv wr => ∃ (i : Nat), iv = .int .i64 i ∧ i ≤ m.dirty.length ∧
      Own w0 wr (box b (xcells m aw cw an cn at0 ct f lf) 88 :: strs (.slice aw m.n cw) (m.bootI xs i).wasL :: strs (.slice an m.n cn) m.nowL :: rowv 4 1 (.slice at0 m.n ct) m.n (Bv (wetB m)) :: nums (.slice al m.dirty.length cl) m.dirty :: L)) (fun iv _ => m.dirty.length - (intOf iv).toNat)
  case atStart => exact ⟨0, rfl, by omega, U⟩
  case round =>
    clear U
    obtain ⟨i, rfl, hi, O⟩ := hrel
    by_cases hlt : i < m.dirty.length
    · have hb1 : (i : Int) < (m.dirty.length : Int) := by omega
      obtain ⟨gl, e1, l0, -⟩ := (O.pick 4).numsAt i hlt
      subst e1
      have hdi := HI.out _ (List.getElem_mem hlt)
      obtain ⟨j, hj⟩ : ∃ j : Nat, m.dirty[i] = (j : Int) := ⟨m.dirty[i].toNat, by omega⟩
      have hjn : j < m.n := by omega
      have hjb : (j : Int) < (m.n : Int) := by omega
      rw [hj] at l0
      obtain ⟨t, ht, htl, hset⟩ := bootI_wasL_set HF.out.ok xs hlt hj hjn
      have hwl : (m.bootI xs i).wasL.length = m.n := by rw [wasL_len]; exact (bootI_n m xs i).1
      obtain ⟨-, gw, e2, w0c, fw⟩ := (O.pick 1).strsAt j (by rw [hwl]; exact hjn)
      obtain ⟨-, gn, e3, n0, -⟩ := (O.pick 2).strsAt j (by rw [nowL_len]; exact hjn)
      subst e2 e3
      rw [show (m.bootI xs i).wasL[j]'(by rw [hwl]; exact hjn) = t from by rw [List.getElem?_eq_getElem (by rw [hwl]; exact hjn)] at ht; exact Option.some.inj ht] at w0c
      rw [show m.nowL[j]'(by rw [nowL_len]; exact hjn) = m.get j from by
        have := nowL_at hjn; rw [List.getElem?_eq_getElem (by rw [nowL_len]; exact hjn)] at this; exact Option.some.inj this] at n0
      have hgl : (m.get (j : Int)).length = 128 := HF.out.ok.full.get _
      obtain ⟨s, hsg⟩ : ∃ s, s = m.get (j : Int) := ⟨_, rfl⟩
      rw [← hsg] at n0 hgl hset
      obtain ⟨K, hK⟩ : ∃ K, K = keepAt xs i := ⟨_, rfl⟩
      have hK8 : K ≤ 128 := by rw [hK]; exact keepAt_le xs i
      rw [← hK] at hset
      obtain ⟨A1, hA1⟩ : ∃ A1, A1 = s.take K := ⟨_, rfl⟩
      obtain ⟨A2, hA2⟩ : ∃ A2, A2 = t.drop K := ⟨_, rfl⟩
      rw [← hA1, ← hA2] at hset
      have lA1 : A1.length = K := by rw [hA1]; simp; omega
      have lA2 : A2.length = 128 - K := by rw [hA2]; simp; omega
      have E1 : (⟨s.toArray⟩ : ByteArray).extract 0 K = ⟨A1.toArray⟩ := by rw [mk_extract]; exact congrArg (fun l : List UInt8 => (⟨l.toArray⟩ : ByteArray)) (by rw [hA1]; simp)
      have E2 : (⟨t.toArray⟩ : ByteArray).extract K 128 = ⟨A2.toArray⟩ := by rw [mk_extract]; exact congrArg (fun l : List UInt8 => (⟨l.toArray⟩ : ByteArray)) (by rw [hA2, ← htl]; simp)
      have O2 := (O.pick 1).store j (A1 ++ A2)
      rw [← hset] at O2
      have c0 : wr.cell? ⟨b, 0, none⟩ = some (.slice (some ⟨gw, 0, none⟩) m.n cw) := O.xAt.c0
      have c1 : wr.cell? ⟨b, 1, none⟩ = some (.slice (some ⟨gn, 0, none⟩) m.n cn) := O.xAt.c1
      have SL := HS.out.keep O.chg (by simp)
      have hj' := hj
      have hn' : m.nowL[j]'(by rw [nowL_len]; exact hjn) = s := by
        have := nowL_at hjn; rw [List.getElem?_eq_getElem (by rw [nowL_len]; exact hjn)] at this; rw [hsg]; exact Option.some.inj this
      have hKe := hK
      have O3 := O2.drew.selK 5 [1, 0, 2, 3, 4]
      have hKi : (K : Int) ≤ 128 := by omega
      clear hj hj' hn' hdi ht hset hsg hA1 hA2 hK O O2
      by_cases hik : i < xs.length
      · have hik2 : (i : Int) < (xs.length : Int) := by omega
        obtain ⟨gk, ok, ek, dk0⟩ := SL.read (k := i) (by simpa using hik)
        subst ek
        rw [List.getElem_map] at dk0
        unfold keepAt at hKe
        rw [if_pos hik] at hKe
        rw [show xs.getD i 0 = xs[i] from by simp [hik]] at hKe
        by_cases hp0 : 0 < xs[i]
        · by_cases hp8 : 128 < xs[i]
          · obtain rfl : K = 128 := by omega
            obtain rfl : A2 = [] := List.eq_nil_of_length_eq_zero (by rw [lA2])
            rw [List.append_nil] at O3
            · clear SL hKe
              go_upto_region 12 with fail
              go_still_tail 34, (by kernel_rfl)
              go_wp2
              go_roundw
              case rel => exact ⟨i + 1, by go_num, by omega, O3⟩
              case measure => simp [intOf]; omega
          · obtain hKx : xs[i] = (K : Int) := by omega
            rw [hKx] at dk0 hp0 hp8
            clear hKx
            · clear SL hKe
              go_upto_region 12 with fail
              go_still_tail 34, (by kernel_rfl)
              go_wp2
              go_roundw
              case rel => exact ⟨i + 1, by go_num, by omega, O3⟩
              case measure => simp [intOf]; omega
        · obtain rfl : K = 0 := by omega
          have hp1 : xs[i] ≤ 0 := by omega
          obtain rfl : A1 = [] := List.eq_nil_of_length_eq_zero (by rw [lA1])
          rw [List.nil_append] at O3
          · · clear SL hKe
              go_upto_region 12 with fail
              go_still_tail 34, (by kernel_rfl)
              go_wp2
              go_roundw
              case rel => exact ⟨i + 1, by go_num, by omega, O3⟩
              case measure => simp [intOf]; omega
      · unfold keepAt at hKe
        rw [if_neg hik] at hKe
        subst hKe
        obtain rfl : A1 = [] := List.eq_nil_of_length_eq_zero (by rw [lA1])
        rw [List.nil_append] at O3
        have hik2 : ¬ (i : Int) < (xs.length : Int) := by omega
        · · · clear SL
              go_upto_region 12 with fail
              go_still_tail 34, (by kernel_rfl)
              go_wp2
              go_roundw
              case rel => exact ⟨i + 1, by go_num, by omega, O3⟩
              case measure => simp [intOf]; omega
    · have hb1 : ¬ (i : Int) < (m.dirty.length : Int) := by omega
      obtain rfl : i = m.dirty.length := by omega
      have ho := HO.out
      obtain ⟨M, hM⟩ : ∃ M, M = (m.boot xs).1 := ⟨_, rfl⟩
      have hrd : m.boot xs = (M, 0) := by rw [hM]; unfold Dk.boot; rw [if_pos ho]
      have hrr := HRR.out
      rw [hrd] at hrr
      simp only [Prod.mk.injEq] at hrr
      obtain ⟨rfl, rfl⟩ := hrr
      have ew : M.wasL = (m.bootI xs m.dirty.length).wasL := by rw [hM]; exact boot_end ho xs
      have en : M.nowL = M.wasL := by rw [hM]; exact (boot_wasL HF.out.ok ho xs).symm
      have et : Bv (wetB M) = (madeCells #[Value.bool false] m.n).toList := by rw [hM]; exact boot_wetB HF.out.ok ho xs
      have enn : M.n = m.n := by rw [hM]; exact boot_n m xs
      obtain ⟨eo, el, ef⟩ := boot_cells ho xs
      rw [← hM] at eo el ef
      rw [← ew] at O
      have hrel : Rel M false lf := ⟨fun e => (by cases e), fun _ => el⟩
      obtain ⟨KD, GS, SR⟩ := (O.pick 1).copyStrs
      have KD' := Lib.hid KD; have SR' := Lib.hid SR
      have hwl : M.wasL.length = m.n := by rw [wasL_len, enn]
      have hl1 : Hid (([] : List (List UInt8)).length + M.wasL.length ≤ 1000000000) := Lib.hid (by rw [hwl]; simp; omega)
      obtain ⟨i0, hi0, hz0, hz1, hz2⟩ := info_parts info_bool
      have HI0 := Lib.hid hi0; have HZ := Lib.hid hz0; have HZ1 := Lib.hid hz1; have HZ2 := Lib.hid hz2
      have HW := Lib.hid hwl; have HEN := Lib.hid en; have HET := Lib.hid et; have HNN := Lib.hid enn; have HEO := Lib.hid eo; have HEF := Lib.hid ef; have HRL := Lib.hid hrel
      have c0 := O.xAt.c0
      have blt := O.boxlt
      clear KD SR hi0 hz0 hz1 hz2 hwl en et enn eo ef hrel ho hM hrd ew el HS HX HRR
      go_wp2_with (at_builtin; refine wpList_append_strsO rfl _ _ rfl _ [] _ M.wasL GS O.emptyStrs rfl rfl SR'.out KD'.out hl1.out ?_)
      intro v' w6 O6
      obtain ⟨a', c', rfl⟩ := O6.shape
      rw [HW.out] at O6 ⊢
      clear c0 blt O KD' SR' hl1
      have c1 := (O6.pick 1).xAt.c1
      have fr := (O6.pick 1).free
      have O7 := (O6.pick 1).set 1 (.slice a' m.n c')
      go_wp2_with (at_make; refine wpList_make_rowO (e := 4) (size := 1) rfl _ rfl i0 (.bool false) Tryz.underlying86 HI0.out HZ.out HZ1.out (by rw [HZ2.out]; omega) m.n rfl (by omega) O7 ?_)
      intro g w8 O8
      clear c1 fr O6 O7
      have c2 : w8.cell? ⟨b, 2, none⟩ = some (.slice at0 m.n ct) := (O8.pick 1).cell 2
      have c5 : w8.cell? ⟨b, 5, none⟩ = some (.bool f) := (O8.pick 1).cell 5
      have c6 : w8.cell? ⟨b, 6, none⟩ = some (.bool m.off) := (O8.pick 1).cell 6
      have fr := (O8.pick 1).free
      have O9 := (((O8.pick 1).set 2 (.slice (some ⟨g, 0, none⟩) m.n m.n)).set 6 (.bool false)).set 5 (.bool false)
      have O10 : Own w0 (((w8.setCell ⟨b, 2, none⟩ (.slice (some ⟨g, 0, none⟩) m.n m.n)).setCell ⟨b, 6, none⟩ (.bool false)).setCell ⟨b, 5, none⟩ (.bool false)) (xk (.pointer (some ⟨b, 0, none⟩)) M :: L) := Own.xkI (aw := aw) (cw := cw) (an := a') (cn := c') (at0 := some ⟨g, 0, none⟩) (ct := m.n) HRL.out (by
        have ex : xcells M aw cw a' c' (some ⟨g, 0, none⟩) m.n false lf = ((((xcells m aw cw an cn at0 ct f lf).setIfInBounds 1 (.slice a' m.n c')).setIfInBounds 2 (.slice (some ⟨g, 0, none⟩) m.n m.n)).setIfInBounds 6 (.bool false)).setIfInBounds 5 (.bool false) := by
          unfold xcells
          rw [HNN.out, HEO.out, HEF.out]
          rfl
        rw [ex, HET.out, HEN.out, HNN.out]
        exact O9.selK 7 [0, 3, 2, 1])
      clear O8 O9
      go_wp2
      go_ret
      exact ⟨rfl, O10⟩
end Go.Proofs.YtnlppcjfpmnahaaGreatDoor
/- mailroomref10.Disk: Copy. -/
namespace Go.Proofs.YtnlppcjfpmnahaaGreatDoor
set_option linter.all false
open Go.RowKit Go.Maps

theorem run_append_rowO {w0 w : World} {L : List Piece} {e : TypeId} {size n : Nat} {v : Value} {xs : List Value} {t : TypeId} (i : TypeInfo) (z : Value) (bytes : Nat) (ht : Tryz.prog.underlying t = some (.slice e)) (hi : Tryz.prog.info? e = some i) (hz : i.zero = some z)
    (hsize : i.size = size) (hby : i.bytes = bytes) (hzs : z.cells.size = size) (hsz : 0 < size)
    (O : Own w0 w (rowv e size v n xs :: L))
    (ad : Addr) (m c : Nat) (news : List Value) (hl : news.length = m * size) (hnews : ∀ j u, news[j]? = some u → w.cell? (ad.add j) = some u) (h1 : ∀ u ∈ news, u.oneCell' = true)
    (h63 : n + m ≤ 100000000) (hb1 : bytes ≤ 1000000) (ty : TypeId) :
    ∃ v' w', (Builtin.append_ #[t, t] ty #[v, .slice (some ad) m c]).run Tryz.prog w = .ok v' w' ∧ Own w0 w' (rowv e size v' (n + m) (xs ++ news) :: L) := by
  obtain ⟨F, ⟨row, rfl⟩, q⟩ := O.open
  obtain ⟨v', w', hr, h1, h2, _, h3⟩ := run_append_new (P := Tryz.prog) w w0.heap.size t ty e i z size bytes ht hi hz hsize hby hzs hsz v n xs row ad m c news hl hnews h1 (by unfold maxLen; omega) (Nat.le_trans (Nat.mul_le_mul h63 hb1) (by omega)) O.size
  refine ⟨v', w', hr, q w' (rowv e size v' (n + m) (xs ++ news)) _ ⟨h1, rfl⟩ ((Chg.refl _ w).grown h2 (fun k hk _ => by simp [hk])) (fun i hi => ?_)⟩
  rcases h3 i (by simpa using hi) with h4 | h4
  · exact .inl (by simp [h4])
  · exact .inr h4
structure Elem (e t : TypeId) (bytes : Nat) : Prop where
  ex : ∃ (i : TypeInfo) (z : Value), Tryz.prog.underlying t = some (.slice e) ∧ Tryz.prog.info? e = some i ∧ i.zero = some z ∧ i.size = 1 ∧ i.bytes = bytes ∧ z.cells.size = 1 ∧ bytes ≤ 1000000
theorem run_copyG {w0 w : World} {L : List Piece} {e t : TypeId} {bytes : Nat} (E : Elem e t bytes) {src : Option Addr} {n cap : Nat} {xs : List Value} (hn : 0 < n) (h63 : n ≤ 100000000)
    (O : Own w0 w (rowv e 1 (.slice src n cap) n xs :: L)) (d : Addr) (ty : TypeId) :
    ∃ x y w', (Builtin.append_ #[t, t] ty #[.slice (some d) 0 0, .slice src n cap]).run Tryz.prog w = .ok (.slice (some ⟨x, 0, none⟩) n y) w' ∧ Own w0 w' (rowv e 1 (.slice (some ⟨x, 0, none⟩) n y) n xs :: rowv e 1 (.slice src n cap) n xs :: L) := by
  obtain ⟨i, z, ht, hi, hz, hsize, hby, hzs, hb1⟩ := E.ex
  have hl := O.rowvLen
  obtain ⟨-, g, e1, _, _⟩ := O.rowvAt 0 (by omega)
  subst e1
  have hbytes : (0 + n) * i.bytes ≤ 140737488355328 := by rw [hby]; exact Nat.le_trans (Nat.mul_le_mul (by omega : 0 + n ≤ 100000000) hb1) (by omega)
  have hr := run_append_grow (P := Tryz.prog) w t ty e i z ht hi hz d 0 0 [] (by simp) (by simp) ⟨g, 0, none⟩ n cap xs (by rw [hsize]; exact hl) (fun j u hu => by
    have hj : j < xs.length := by
      rcases Nat.lt_or_ge j xs.length with h' | h'
      · exact h'
      · rw [List.getElem?_eq_none h'] at hu; cases hu
    obtain ⟨-, g', e', c', -⟩ := O.rowvAt j hj
    simp only [Option.some.injEq, Addr.mk.injEq, and_true] at e'
    subst e'
    rw [show (⟨g, 0, none⟩ : Addr).add j = ⟨g, j, none⟩ from by unfold Addr.add; split <;> simp_all, c']
    rw [List.getElem?_eq_getElem hj] at hu
    exact hu) (by omega) (by omega) (growslice_fits (by omega) hbytes)
  rw [Nat.zero_add] at hr
  have hge := grownCap_ge w n 0 e
  have hcm : grownCap w n 0 e ≤ maxLen := grownCap_le_maxLen w n 0 e (by unfold maxLen; omega)
  refine ⟨_, _, _, hr, O.new (((Chg.refl [] w).drew).alloc _) (rowv e 1 _ n xs) (F := [w.heap.size]) ⟨⟨hl, .inr ⟨w.heap.size, _, _, rfl, O.size, heap_alloc_new w.drew _, hge, hcm, ?_, ?_⟩⟩, rfl⟩ (by simp)⟩
  · simp only [Array.size_append, List.size_toArray, size_zeroCells, hzs, hl, List.length_nil]
    omega
  · simp only [Array.toList_append, List.append_assoc, List.nil_append]
    rw [← hl]
    exact List.take_left
theorem wp_if {c : Bool} {A B : Prop} (hc : c = true) (h : A) : if c = true then A else B := by rw [if_pos hc]; exact h
theorem wp_copyO {w0 w : World} {L : List Piece} {e t : TypeId} {bytes : Nat} (E : Elem e t bytes) {src : Option Addr} {n cap : Nat} {xs : List Value} (hn : 0 < n) (h63 : n ≤ 100000000)
    (O : Own w0 w (rowv e 1 (.slice src n cap) n xs :: L)) {o : Oper} {a : Act} {K : Act → World → Prop} {Q : Exit → Act → World → Prop} {d s : Operand} {dT : TypeId}
    (hop : o.op = Op.call { callee := Callee.builtin Builtin.append, args := #[d, s], argTypes := #[dT, dT] }) (hdT : dT = t) (hd : ∃ ad, a.eval d = .slice (some ad) 0 0) (hs : a.eval s = .slice src n cap)
    (hK : ∀ x y w', Own w0 w' (rowv e 1 (.slice (some ⟨x, 0, none⟩) n y) n xs :: rowv e 1 (.slice src n cap) n xs :: L) → K (a.put o.dst (.slice (some ⟨x, 0, none⟩) n y)) w') : Oper.wp Tryz.prog o a w K Q := by
  subst hdT
  obtain ⟨ad, hd⟩ := hd
  obtain ⟨x, y, w', hr, O'⟩ := run_copyG E hn h63 O ad o.type
  unfold Oper.wp
  simp [execOp, hop, resolve, invoke, builtin, hd, hs, hr, Result.andThen]
  exact hK x y w' O'
theorem sc_alloc {w : World} {o : Obj} {p q r : Addr} {x y z : Value} (h : w.cell? p = some x ∧ w.cell? q = some y ∧ w.cell? r = some z) : (w.alloc o).cell? p = some x ∧ (w.alloc o).cell? q = some y ∧ (w.alloc o).cell? r = some z := by
  have k : ∀ (a : Addr) (v : Value), w.cell? a = some v → (w.alloc o).cell? a = some v := fun a v h => by rw [World.cell?_alloc_lt _ _ _ (World.block_lt_of_cell? w a h)]; exact h
  exact ⟨k _ _ h.1, k _ _ h.2.1, k _ _ h.2.2⟩
theorem sc_drew {w : World} {p q r : Addr} {x y z : Value} (h : w.cell? p = some x ∧ w.cell? q = some y ∧ w.cell? r = some z) : w.drew.cell? p = some x ∧ w.drew.cell? q = some y ∧ w.drew.cell? r = some z := h
theorem elem_str : Elem 9 23 16 := by
  obtain ⟨i, h1, h2, h3, h4⟩ := info_parts info_str
  exact ⟨i, _, Tryz.underlying23, h1, h2, h3, h4, rfl, by omega⟩
theorem elem_bool : Elem 4 86 1 := by
  obtain ⟨i, h1, h2, h3, h4⟩ := info_parts info_bool
  exact ⟨i, _, Tryz.underlying86, h1, h2, h3, h4, rfl, by omega⟩
theorem Own.strsRow {w0 w : World} {L : List Piece} {v : Value} {ss : List (List UInt8)} {n : Nat} (h : Own w0 w (strs v ss :: L)) (hn : ss.length = n) : Own w0 w (rowv 9 1 v n (ss.map str) :: L) := by
  subst hn; exact h
theorem Own.rowStrs {w0 w : World} {L : List Piece} {v : Value} {ss : List (List UInt8)} {n : Nat} (h : Own w0 w (rowv 9 1 v n (ss.map str) :: L)) (hn : ss.length = n) : Own w0 w (strs v ss :: L) := by
  subst hn; exact h
theorem Own.xk2 {w0 w : World} {L : List Piece} {m : Dk} {b z : Nat} {aw an at0 a1 a2 a3 : Option Addr} {cw cn ct c1 c2 c3 : Nat} {f : Bool} {lf : Int} (hr : Rel m f lf)
    (O : Own w0 w (box z (xcells m a1 c1 a2 c2 a3 c3 f lf) 88 :: box b (xcells m aw cw an cn at0 ct f lf) 88 :: rowv 9 1 (.slice aw m.n cw) m.n (m.wasL.map str) :: rowv 9 1 (.slice an m.n cn) m.n (m.nowL.map str) :: rowv 4 1 (.slice at0 m.n ct) m.n (Bv (wetB m)) ::
      rowv 9 1 (.slice a1 m.n c1) m.n (m.wasL.map str) :: rowv 9 1 (.slice a2 m.n c2) m.n (m.nowL.map str) :: rowv 4 1 (.slice a3 m.n c3) m.n (Bv (wetB m)) :: L)) :
    Own w0 w (xk (.pointer (some ⟨z, 0, none⟩)) m :: xk (.pointer (some ⟨b, 0, none⟩)) m :: L) := by
  have P1 : Own w0 w (rowv 9 1 (.slice aw m.n cw) m.n (m.wasL.map str) :: rowv 9 1 (.slice an m.n cn) m.n (m.nowL.map str) :: box b (xcells m aw cw an cn at0 ct f lf) 88 :: rowv 4 1 (.slice at0 m.n ct) m.n (Bv (wetB m)) :: box z (xcells m a1 c1 a2 c2 a3 c3 f lf) 88 ::
      rowv 9 1 (.slice a1 m.n c1) m.n (m.wasL.map str) :: rowv 9 1 (.slice a2 m.n c2) m.n (m.nowL.map str) :: rowv 4 1 (.slice a3 m.n c3) m.n (Bv (wetB m)) :: L) := O.selK 8 [2, 3, 1, 4, 0, 5, 6, 7]
  have P2 := (P1.rowStrs (wasL_len m)).pick 1
  have P3 := P2.rowStrs (nowL_len m)
  have P4 : Own w0 w (xk (.pointer (some ⟨b, 0, none⟩)) m :: box z (xcells m a1 c1 a2 c2 a3 c3 f lf) 88 ::
      rowv 9 1 (.slice a1 m.n c1) m.n (m.wasL.map str) :: rowv 9 1 (.slice a2 m.n c2) m.n (m.nowL.map str) :: rowv 4 1 (.slice a3 m.n c3) m.n (Bv (wetB m)) :: L) := Own.xkI hr (P3.selK 8 [2, 1, 0, 3, 4, 5, 6, 7])
  have Q1 := ((P4.pick 2).rowStrs (wasL_len m)).pick 3
  have Q2 := Q1.rowStrs (nowL_len m)
  exact Own.xkI hr (Q2.selK 5 [3, 1, 0, 4, 2])
set_option maxRecDepth 100000 in
set_option maxHeartbeats 8000000 in
theorem xcopy_own {w0 w : World} {L : List Piece} {p : Value} {m : Dk} (O : Own w0 w (xk p m :: L)) (hn1 : 0 < m.n) (hn : m.n ≤ 1024) :
    Calls Tryz.prog 51 #[p] w fun e w' => ∃ z : Nat, e = .returned (.pointer (some ⟨z, 0, none⟩)) ∧ Own w0 w' (xk (.pointer (some ⟨z, 0, none⟩)) m :: xk p m :: L) := by
  obtain ⟨b, aw, cw, an, cn, at0, ct, f, lf, hp, hrel, U⟩ := O.xkE
  subst hp
  obtain ⟨c0, c1, c2, c3, c4, c5, c6, fr⟩ := U.xAt
  have O1 := U.newBox (xcells m aw cw an cn at0 ct f lf) 88
  have blt := U.boxlt
  have hn8 : m.n ≤ 100000000 := by omega
  obtain ⟨z, hz⟩ : ∃ z, z = w.heap.size := ⟨_, rfl⟩
  rw [← hz] at O1
  obtain ⟨W, hW⟩ : ∃ W, W = w.alloc (.cells (xcells m aw cw an cn at0 ct f lf) 88) := ⟨_, rfl⟩
  rw [← hW] at O1
  have A1 : Own w0 W (rowv 9 1 (.slice aw m.n cw) m.n (m.wasL.map str) :: box z (xcells m aw cw an cn at0 ct f lf) 88 :: box b (xcells m aw cw an cn at0 ct f lf) 88 :: rowv 9 1 (.slice an m.n cn) m.n (m.nowL.map str) :: rowv 4 1 (.slice at0 m.n ct) m.n (Bv (wetB m)) :: L) := ((((O1.pick 2).strsRow (wasL_len m)).pick 3).strsRow (nowL_len m)).selK 5 [1, 2, 3, 0, 4]
  have kc1 : W.cell? ⟨b, 0, none⟩ = some (.slice aw m.n cw) ∧ W.cell? ⟨b, 1, none⟩ = some (.slice an m.n cn) ∧ W.cell? ⟨b, 2, none⟩ = some (.slice at0 m.n ct) := ⟨(A1.pick 2).xAt.c0, (A1.pick 2).xAt.c1, (A1.pick 2).xAt.c2⟩
  have HR := Lib.hid hrel
  clear O O1 U hrel
  go_enter Tryz.func51, Tryz.ntmps51
  go_wp2_with fail
  rw [← hz]
  change Code.wp _ _ _ _ (w.alloc (.cells (xcells m aw cw an cn at0 ct f lf) 88))
  rw [← hW]
  clear hW hz c0 c1 c2 c3 c4 c5 c6 fr blt
  have KC1 := Lib.hid kc1
  clear kc1
  go_region_held3 (fun w' => w'.cell? ⟨b, 0, none⟩ = some (.slice aw m.n cw) ∧ w'.cell? ⟨b, 1, none⟩ = some (.slice an m.n cn) ∧ w'.cell? ⟨b, 2, none⟩ = some (.slice at0 m.n ct))
    (first
      | with_reducible exact sc_drew KC1.out
      | with_reducible exact sc_drew (sc_alloc KC1.out)
      | with_reducible exact sc_drew (sc_alloc (sc_alloc KC1.out))
      | with_reducible exact sc_drew (sc_alloc (sc_alloc (sc_alloc KC1.out)))
      | with_reducible exact KC2.out
      | with_reducible exact sc_alloc KC2.out
      | with_reducible exact sc_alloc (sc_alloc KC2.out)
      | with_reducible exact KC3.out
      | with_reducible exact sc_alloc KC3.out
      | with_reducible exact KC4.out
      | with_reducible exact KC5.out
      | with_reducible exact KC6.out
      | with_reducible exact KC7.out)
    (first
      | ((with_reducible refine wp_if ?_ (wp_copyO elem_str hn1 hn8 ((A1.alloc _).drew) rfl ?_ ?_ ?_ ?_)); (iterate 2 rfl); exact ⟨_, rfl⟩; rfl; intro x1 y1 w2 O2; (have A2 : Own w0 w2 (rowv 9 1 (.slice an m.n cn) m.n (m.nowL.map str) :: box z (xcells m aw cw an cn at0 ct f lf) 88 :: box b (xcells m aw cw an cn at0 ct f lf) 88 :: rowv 9 1 (.slice aw m.n cw) m.n (m.wasL.map str) :: rowv 4 1 (.slice at0 m.n ct) m.n (Bv (wetB m)) :: rowv 9 1 (.slice (some ⟨x1, 0, none⟩) m.n y1) m.n (m.wasL.map str) :: L) := O2.selK 6 [4, 2, 3, 1, 5, 0]); (have KC2 : Hid (w2.cell? ⟨b, 0, none⟩ = some (.slice aw m.n cw) ∧ w2.cell? ⟨b, 1, none⟩ = some (.slice an m.n cn) ∧ w2.cell? ⟨b, 2, none⟩ = some (.slice at0 m.n ct)) := Lib.hid ⟨(A2.pick 2).xAt.c0, (A2.pick 2).xAt.c1, (A2.pick 2).xAt.c2⟩))
      | ((with_reducible refine wp_if ?_ (wp_copyO elem_str hn1 hn8 (((A1.alloc _).alloc _).drew) rfl ?_ ?_ ?_ ?_)); (iterate 2 rfl); exact ⟨_, rfl⟩; rfl; intro x1 y1 w2 O2; (have A2 : Own w0 w2 (rowv 9 1 (.slice an m.n cn) m.n (m.nowL.map str) :: box z (xcells m aw cw an cn at0 ct f lf) 88 :: box b (xcells m aw cw an cn at0 ct f lf) 88 :: rowv 9 1 (.slice aw m.n cw) m.n (m.wasL.map str) :: rowv 4 1 (.slice at0 m.n ct) m.n (Bv (wetB m)) :: rowv 9 1 (.slice (some ⟨x1, 0, none⟩) m.n y1) m.n (m.wasL.map str) :: L) := O2.selK 6 [4, 2, 3, 1, 5, 0]); (have KC2 : Hid (w2.cell? ⟨b, 0, none⟩ = some (.slice aw m.n cw) ∧ w2.cell? ⟨b, 1, none⟩ = some (.slice an m.n cn) ∧ w2.cell? ⟨b, 2, none⟩ = some (.slice at0 m.n ct)) := Lib.hid ⟨(A2.pick 2).xAt.c0, (A2.pick 2).xAt.c1, (A2.pick 2).xAt.c2⟩))
      | ((with_reducible refine wp_if ?_ (wp_copyO elem_str hn1 hn8 ((((A1.alloc _).alloc _).alloc _).drew) rfl ?_ ?_ ?_ ?_)); (iterate 2 rfl); exact ⟨_, rfl⟩; rfl; intro x1 y1 w2 O2; (have A2 : Own w0 w2 (rowv 9 1 (.slice an m.n cn) m.n (m.nowL.map str) :: box z (xcells m aw cw an cn at0 ct f lf) 88 :: box b (xcells m aw cw an cn at0 ct f lf) 88 :: rowv 9 1 (.slice aw m.n cw) m.n (m.wasL.map str) :: rowv 4 1 (.slice at0 m.n ct) m.n (Bv (wetB m)) :: rowv 9 1 (.slice (some ⟨x1, 0, none⟩) m.n y1) m.n (m.wasL.map str) :: L) := O2.selK 6 [4, 2, 3, 1, 5, 0]); (have KC2 : Hid (w2.cell? ⟨b, 0, none⟩ = some (.slice aw m.n cw) ∧ w2.cell? ⟨b, 1, none⟩ = some (.slice an m.n cn) ∧ w2.cell? ⟨b, 2, none⟩ = some (.slice at0 m.n ct)) := Lib.hid ⟨(A2.pick 2).xAt.c0, (A2.pick 2).xAt.c1, (A2.pick 2).xAt.c2⟩))
      | ((with_reducible refine wp_if ?_ (wp_copyO elem_str hn1 hn8 A2 rfl ?_ ?_ ?_ ?_)); (iterate 2 rfl); exact ⟨_, rfl⟩; rfl; intro x2 y2 w3 O3; (have A3 : Own w0 w3 (rowv 4 1 (.slice at0 m.n ct) m.n (Bv (wetB m)) :: box z (xcells m aw cw an cn at0 ct f lf) 88 :: box b (xcells m aw cw an cn at0 ct f lf) 88 :: rowv 9 1 (.slice aw m.n cw) m.n (m.wasL.map str) :: rowv 9 1 (.slice an m.n cn) m.n (m.nowL.map str) :: rowv 9 1 (.slice (some ⟨x1, 0, none⟩) m.n y1) m.n (m.wasL.map str) :: rowv 9 1 (.slice (some ⟨x2, 0, none⟩) m.n y2) m.n (m.nowL.map str) :: L) := O3.selK 7 [5, 2, 3, 4, 1, 6, 0]); (have KC3 : Hid (w3.cell? ⟨b, 0, none⟩ = some (.slice aw m.n cw) ∧ w3.cell? ⟨b, 1, none⟩ = some (.slice an m.n cn) ∧ w3.cell? ⟨b, 2, none⟩ = some (.slice at0 m.n ct)) := Lib.hid ⟨(A3.pick 2).xAt.c0, (A3.pick 2).xAt.c1, (A3.pick 2).xAt.c2⟩))
      | ((with_reducible refine wp_if ?_ (wp_copyO elem_str hn1 hn8 (A2.alloc _) rfl ?_ ?_ ?_ ?_)); (iterate 2 rfl); exact ⟨_, rfl⟩; rfl; intro x2 y2 w3 O3; (have A3 : Own w0 w3 (rowv 4 1 (.slice at0 m.n ct) m.n (Bv (wetB m)) :: box z (xcells m aw cw an cn at0 ct f lf) 88 :: box b (xcells m aw cw an cn at0 ct f lf) 88 :: rowv 9 1 (.slice aw m.n cw) m.n (m.wasL.map str) :: rowv 9 1 (.slice an m.n cn) m.n (m.nowL.map str) :: rowv 9 1 (.slice (some ⟨x1, 0, none⟩) m.n y1) m.n (m.wasL.map str) :: rowv 9 1 (.slice (some ⟨x2, 0, none⟩) m.n y2) m.n (m.nowL.map str) :: L) := O3.selK 7 [5, 2, 3, 4, 1, 6, 0]); (have KC3 : Hid (w3.cell? ⟨b, 0, none⟩ = some (.slice aw m.n cw) ∧ w3.cell? ⟨b, 1, none⟩ = some (.slice an m.n cn) ∧ w3.cell? ⟨b, 2, none⟩ = some (.slice at0 m.n ct)) := Lib.hid ⟨(A3.pick 2).xAt.c0, (A3.pick 2).xAt.c1, (A3.pick 2).xAt.c2⟩))
      | ((with_reducible refine wp_if ?_ (wp_copyO elem_str hn1 hn8 ((A2.alloc _).alloc _) rfl ?_ ?_ ?_ ?_)); (iterate 2 rfl); exact ⟨_, rfl⟩; rfl; intro x2 y2 w3 O3; (have A3 : Own w0 w3 (rowv 4 1 (.slice at0 m.n ct) m.n (Bv (wetB m)) :: box z (xcells m aw cw an cn at0 ct f lf) 88 :: box b (xcells m aw cw an cn at0 ct f lf) 88 :: rowv 9 1 (.slice aw m.n cw) m.n (m.wasL.map str) :: rowv 9 1 (.slice an m.n cn) m.n (m.nowL.map str) :: rowv 9 1 (.slice (some ⟨x1, 0, none⟩) m.n y1) m.n (m.wasL.map str) :: rowv 9 1 (.slice (some ⟨x2, 0, none⟩) m.n y2) m.n (m.nowL.map str) :: L) := O3.selK 7 [5, 2, 3, 4, 1, 6, 0]); (have KC3 : Hid (w3.cell? ⟨b, 0, none⟩ = some (.slice aw m.n cw) ∧ w3.cell? ⟨b, 1, none⟩ = some (.slice an m.n cn) ∧ w3.cell? ⟨b, 2, none⟩ = some (.slice at0 m.n ct)) := Lib.hid ⟨(A3.pick 2).xAt.c0, (A3.pick 2).xAt.c1, (A3.pick 2).xAt.c2⟩))
      | ((with_reducible refine wp_if ?_ (wp_copyO elem_bool hn1 hn8 A3 rfl ?_ ?_ ?_ ?_)); (iterate 2 rfl); exact ⟨_, rfl⟩; rfl; intro x3 y3 w4 O4; (have A4 : Own w0 w4 (box z (xcells m aw cw an cn at0 ct f lf) 88 :: box b (xcells m aw cw an cn at0 ct f lf) 88 :: rowv 9 1 (.slice aw m.n cw) m.n (m.wasL.map str) :: rowv 9 1 (.slice an m.n cn) m.n (m.nowL.map str) :: rowv 4 1 (.slice at0 m.n ct) m.n (Bv (wetB m)) :: rowv 9 1 (.slice (some ⟨x1, 0, none⟩) m.n y1) m.n (m.wasL.map str) :: rowv 9 1 (.slice (some ⟨x2, 0, none⟩) m.n y2) m.n (m.nowL.map str) :: rowv 4 1 (.slice (some ⟨x3, 0, none⟩) m.n y3) m.n (Bv (wetB m)) :: L) := O4.selK 8 [2, 3, 4, 5, 1, 6, 7, 0]); (have KC4 : Hid (w4.cell? ⟨b, 0, none⟩ = some (.slice aw m.n cw) ∧ w4.cell? ⟨b, 1, none⟩ = some (.slice an m.n cn) ∧ w4.cell? ⟨b, 2, none⟩ = some (.slice at0 m.n ct)) := Lib.hid ⟨(A4.pick 1).xAt.c0, (A4.pick 1).xAt.c1, (A4.pick 1).xAt.c2⟩);
          (have z0 := A4.xAt.c0); (have z1 := A4.xAt.c1); (have z2 := A4.xAt.c2); (have zf := A4.xAt.fr);
          (have B1 := A4.set 0 (.slice (some ⟨x1, 0, none⟩) m.n y1)); (have B2 := B1.set 1 (.slice (some ⟨x2, 0, none⟩) m.n y2)); (have B3 := B2.set 2 (.slice (some ⟨x3, 0, none⟩) m.n y3));
          (have KC5 : Hid ((w4.setCell ⟨z, 0, none⟩ (.slice (some ⟨x1, 0, none⟩) m.n y1)).cell? ⟨b, 0, none⟩ = some (.slice aw m.n cw) ∧ (w4.setCell ⟨z, 0, none⟩ (.slice (some ⟨x1, 0, none⟩) m.n y1)).cell? ⟨b, 1, none⟩ = some (.slice an m.n cn) ∧ (w4.setCell ⟨z, 0, none⟩ (.slice (some ⟨x1, 0, none⟩) m.n y1)).cell? ⟨b, 2, none⟩ = some (.slice at0 m.n ct)) := Lib.hid ⟨(B1.pick 1).xAt.c0, (B1.pick 1).xAt.c1, (B1.pick 1).xAt.c2⟩);
          (have KC6 : Hid (((w4.setCell ⟨z, 0, none⟩ (.slice (some ⟨x1, 0, none⟩) m.n y1)).setCell ⟨z, 1, none⟩ (.slice (some ⟨x2, 0, none⟩) m.n y2)).cell? ⟨b, 0, none⟩ = some (.slice aw m.n cw) ∧ ((w4.setCell ⟨z, 0, none⟩ (.slice (some ⟨x1, 0, none⟩) m.n y1)).setCell ⟨z, 1, none⟩ (.slice (some ⟨x2, 0, none⟩) m.n y2)).cell? ⟨b, 1, none⟩ = some (.slice an m.n cn) ∧ ((w4.setCell ⟨z, 0, none⟩ (.slice (some ⟨x1, 0, none⟩) m.n y1)).setCell ⟨z, 1, none⟩ (.slice (some ⟨x2, 0, none⟩) m.n y2)).cell? ⟨b, 2, none⟩ = some (.slice at0 m.n ct)) := Lib.hid ⟨(B2.pick 1).xAt.c0, (B2.pick 1).xAt.c1, (B2.pick 1).xAt.c2⟩);
          (have KC7 : Hid ((((w4.setCell ⟨z, 0, none⟩ (.slice (some ⟨x1, 0, none⟩) m.n y1)).setCell ⟨z, 1, none⟩ (.slice (some ⟨x2, 0, none⟩) m.n y2)).setCell ⟨z, 2, none⟩ (.slice (some ⟨x3, 0, none⟩) m.n y3)).cell? ⟨b, 0, none⟩ = some (.slice aw m.n cw) ∧ (((w4.setCell ⟨z, 0, none⟩ (.slice (some ⟨x1, 0, none⟩) m.n y1)).setCell ⟨z, 1, none⟩ (.slice (some ⟨x2, 0, none⟩) m.n y2)).setCell ⟨z, 2, none⟩ (.slice (some ⟨x3, 0, none⟩) m.n y3)).cell? ⟨b, 1, none⟩ = some (.slice an m.n cn) ∧ (((w4.setCell ⟨z, 0, none⟩ (.slice (some ⟨x1, 0, none⟩) m.n y1)).setCell ⟨z, 1, none⟩ (.slice (some ⟨x2, 0, none⟩) m.n y2)).setCell ⟨z, 2, none⟩ (.slice (some ⟨x3, 0, none⟩) m.n y3)).cell? ⟨b, 2, none⟩ = some (.slice at0 m.n ct)) := Lib.hid ⟨(B3.pick 1).xAt.c0, (B3.pick 1).xAt.c1, (B3.pick 1).xAt.c2⟩))
      | ((with_reducible refine wp_if ?_ (wp_copyO elem_bool hn1 hn8 (A3.alloc _) rfl ?_ ?_ ?_ ?_)); (iterate 2 rfl); exact ⟨_, rfl⟩; rfl; intro x3 y3 w4 O4; (have A4 : Own w0 w4 (box z (xcells m aw cw an cn at0 ct f lf) 88 :: box b (xcells m aw cw an cn at0 ct f lf) 88 :: rowv 9 1 (.slice aw m.n cw) m.n (m.wasL.map str) :: rowv 9 1 (.slice an m.n cn) m.n (m.nowL.map str) :: rowv 4 1 (.slice at0 m.n ct) m.n (Bv (wetB m)) :: rowv 9 1 (.slice (some ⟨x1, 0, none⟩) m.n y1) m.n (m.wasL.map str) :: rowv 9 1 (.slice (some ⟨x2, 0, none⟩) m.n y2) m.n (m.nowL.map str) :: rowv 4 1 (.slice (some ⟨x3, 0, none⟩) m.n y3) m.n (Bv (wetB m)) :: L) := O4.selK 8 [2, 3, 4, 5, 1, 6, 7, 0]); (have KC4 : Hid (w4.cell? ⟨b, 0, none⟩ = some (.slice aw m.n cw) ∧ w4.cell? ⟨b, 1, none⟩ = some (.slice an m.n cn) ∧ w4.cell? ⟨b, 2, none⟩ = some (.slice at0 m.n ct)) := Lib.hid ⟨(A4.pick 1).xAt.c0, (A4.pick 1).xAt.c1, (A4.pick 1).xAt.c2⟩);
          (have z0 := A4.xAt.c0); (have z1 := A4.xAt.c1); (have z2 := A4.xAt.c2); (have zf := A4.xAt.fr);
          (have B1 := A4.set 0 (.slice (some ⟨x1, 0, none⟩) m.n y1)); (have B2 := B1.set 1 (.slice (some ⟨x2, 0, none⟩) m.n y2)); (have B3 := B2.set 2 (.slice (some ⟨x3, 0, none⟩) m.n y3));
          (have KC5 : Hid ((w4.setCell ⟨z, 0, none⟩ (.slice (some ⟨x1, 0, none⟩) m.n y1)).cell? ⟨b, 0, none⟩ = some (.slice aw m.n cw) ∧ (w4.setCell ⟨z, 0, none⟩ (.slice (some ⟨x1, 0, none⟩) m.n y1)).cell? ⟨b, 1, none⟩ = some (.slice an m.n cn) ∧ (w4.setCell ⟨z, 0, none⟩ (.slice (some ⟨x1, 0, none⟩) m.n y1)).cell? ⟨b, 2, none⟩ = some (.slice at0 m.n ct)) := Lib.hid ⟨(B1.pick 1).xAt.c0, (B1.pick 1).xAt.c1, (B1.pick 1).xAt.c2⟩);
          (have KC6 : Hid (((w4.setCell ⟨z, 0, none⟩ (.slice (some ⟨x1, 0, none⟩) m.n y1)).setCell ⟨z, 1, none⟩ (.slice (some ⟨x2, 0, none⟩) m.n y2)).cell? ⟨b, 0, none⟩ = some (.slice aw m.n cw) ∧ ((w4.setCell ⟨z, 0, none⟩ (.slice (some ⟨x1, 0, none⟩) m.n y1)).setCell ⟨z, 1, none⟩ (.slice (some ⟨x2, 0, none⟩) m.n y2)).cell? ⟨b, 1, none⟩ = some (.slice an m.n cn) ∧ ((w4.setCell ⟨z, 0, none⟩ (.slice (some ⟨x1, 0, none⟩) m.n y1)).setCell ⟨z, 1, none⟩ (.slice (some ⟨x2, 0, none⟩) m.n y2)).cell? ⟨b, 2, none⟩ = some (.slice at0 m.n ct)) := Lib.hid ⟨(B2.pick 1).xAt.c0, (B2.pick 1).xAt.c1, (B2.pick 1).xAt.c2⟩);
          (have KC7 : Hid ((((w4.setCell ⟨z, 0, none⟩ (.slice (some ⟨x1, 0, none⟩) m.n y1)).setCell ⟨z, 1, none⟩ (.slice (some ⟨x2, 0, none⟩) m.n y2)).setCell ⟨z, 2, none⟩ (.slice (some ⟨x3, 0, none⟩) m.n y3)).cell? ⟨b, 0, none⟩ = some (.slice aw m.n cw) ∧ (((w4.setCell ⟨z, 0, none⟩ (.slice (some ⟨x1, 0, none⟩) m.n y1)).setCell ⟨z, 1, none⟩ (.slice (some ⟨x2, 0, none⟩) m.n y2)).setCell ⟨z, 2, none⟩ (.slice (some ⟨x3, 0, none⟩) m.n y3)).cell? ⟨b, 1, none⟩ = some (.slice an m.n cn) ∧ (((w4.setCell ⟨z, 0, none⟩ (.slice (some ⟨x1, 0, none⟩) m.n y1)).setCell ⟨z, 1, none⟩ (.slice (some ⟨x2, 0, none⟩) m.n y2)).setCell ⟨z, 2, none⟩ (.slice (some ⟨x3, 0, none⟩) m.n y3)).cell? ⟨b, 2, none⟩ = some (.slice at0 m.n ct)) := Lib.hid ⟨(B3.pick 1).xAt.c0, (B3.pick 1).xAt.c1, (B3.pick 1).xAt.c2⟩)))
  all_goals
    have FIN := Own.xk2 (a1 := some ⟨x1, 0, none⟩) (c1 := y1) (a2 := some ⟨x2, 0, none⟩) (c2 := y2) (a3 := some ⟨x3, 0, none⟩) (c3 := y3) HR.out B3
    clear A1 A2 A3 A4 B1 B2 B3 O2 O3 O4 z0 z1 z2 zf
    go_wp2
    go_ret
    exact ⟨z, rfl, FIN⟩
end Go.Proofs.YtnlppcjfpmnahaaGreatDoor
/- mailroomref10.New. -/
namespace Go.Proofs.YtnlppcjfpmnahaaGreatDoor
set_option linter.all false
open Go.RowKit Go.Maps

set_option maxRecDepth 100000 in
theorem xnew_bad (k : Int) (h : k < 1 ∨ 1024 < k) (w : World) : Calls Tryz.prog 29 #[.int .i64 k] w fun e w' => e = .returned (.tuple #[.pointer none, .int .i64 1]) ∧ w = w' := by
  by_cases h1 : k < 1
  · clear h
    go_enter Tryz.func29, Tryz.ntmps29
    go_wp2
    go_returns
    exact ⟨rfl, rfl⟩
  · have h2 : 1024 < k := by omega
    clear h
    go_enter Tryz.func29, Tryz.ntmps29
    go_wp2
    go_returns
    exact ⟨rfl, rfl⟩
def ncells (aw : Option Addr) (k cw : Nat) (g n : Nat) : Array Value := #[.slice aw k cw, .slice none 0 0, .slice (some ⟨g, 0, none⟩) n n, .int .i64 0, .int .i64 0, .bool false, .bool false]
set_option maxRecDepth 100000 in
set_option maxHeartbeats 4000000 in
theorem xnew_own {w0 w : World} {L : List Piece} (O : Own w0 w L) (n : Nat) (h1 : 1 ≤ n) (h2 : n ≤ 1024) :
    Calls Tryz.prog 29 #[.int .i64 n] w fun e w' => ∃ b : Nat, e = .returned (.tuple #[.pointer (some ⟨b, 0, none⟩), .int .i64 0]) ∧ Own w0 w' (xk (.pointer (some ⟨b, 0, none⟩)) (Dk.new n) :: L) := by
  obtain ⟨i0, hi0, hz0, hz1, hz2⟩ := info_parts info_bool
  have HI := Lib.hid hi0; have HZ := Lib.hid hz0; have HZ1 := Lib.hid hz1; have HZ2 := Lib.hid hz2
  clear hi0 hz0 hz1 hz2
  have b1 : ¬ (n : Int) < 1 := by omega
  have b2 : ¬ 1024 < (n : Int) := by omega
  go_enter Tryz.func29, Tryz.ntmps29
  go_wp2_with (at_make; refine wpList_make_rowO (e := 4) (size := 1) rfl _ rfl i0 (.bool false) Tryz.underlying86 HI.out HZ.out HZ1.out (by rw [HZ2.out]; omega) n rfl (by omega) O ?_)
  intro g w1 O1
  clear O
  have O2 := O1.newBox (ncells none 0 0 g n) 88
  obtain ⟨b, hb⟩ : ∃ b, b = w1.heap.size := ⟨_, rfl⟩
  rw [← hb] at O2
  go_wp2_with fail
  rw [← hb]
  clear O1 hb
  go_loopw [5] (fun iv wr => ∃ (k : Nat) (aw : Option Addr) (cw : Nat), iv = .int .i64 k ∧ k ≤ n ∧
      Own w0 wr (box b (ncells aw k cw g n) 88 :: strs (.slice aw k cw) (List.replicate k zeros) :: rowv 4 1 (.slice (some ⟨g, 0, none⟩) n n) n (madeCells #[.bool false] n).toList :: L)) (fun iv _ => n - (intOf iv).toNat)
  case atStart => exact ⟨0, none, 0, rfl, by omega, (O2.nilStrs).selK 3 [1, 0, 2]⟩
  case round =>
    clear O2
    obtain ⟨k, aw, cw, rfl, hk, O⟩ := hrel
    by_cases hlt : k < n
    · have hb1 : (k : Int) < (n : Int) := by omega
      have c0 : wr.cell? ⟨b, 0, none⟩ = some (.slice aw k cw) := O.cell 0
      obtain ⟨gz, w2, hmk, O2⟩ := run_makeO O.drew 128 (by omega)
      replace hmk : (Instr.makeSlice 57 (.int .i64 128) (.int .i64 128)).run Tryz.prog wr.drew = .ok (.slice (some ⟨gz, 0, none⟩) 128 128) w2 := hmk
      obtain ⟨z, hz⟩ : ∃ z : List UInt8, z = List.replicate 128 0 := ⟨_, rfl⟩
      have hzl : z.length = 128 := by rw [hz]; simp
      rw [← hz] at O2
      have hcv := O2.fromBytes 128
      rw [hzl] at hcv
      have hol : (List.replicate k zeros).length ≤ 1000000000 := by simp; omega
      obtain ⟨v2, w3, hap, O3⟩ := run_append_strO (O2.pick 2) z hol 23
      rw [show List.replicate k zeros ++ [z] = List.replicate (k + 1) zeros from by rw [hz]; exact (List.replicate_succ').symm] at O3
      obtain ⟨a2, cap2, hv2⟩ := O3.shape
      rw [List.length_replicate] at hv2
      subst hv2
      have d0 : w2.cell? ⟨b, 0, none⟩ = some (.slice aw k cw) := (O2.pick 1).cell 0
      have e0 : w3.cell? ⟨b, 0, none⟩ = some (.slice aw k cw) := (O3.pick 2).cell 0
      have ef : ∀ o, w3.frozen? ⟨b, o, none⟩ = false := (O3.pick 2).free
      have O4 := (O3.pick 2).set 0 (.slice a2 (k + 1) cap2)
      have d1 : (w2.alloc (.cells #[.string ⟨z.toArray⟩] 9)).cell? ⟨b, 0, none⟩ = some (.slice aw k cw) := ((O2.pick 1).alloc _).cell 0
      clear O O2 O3 hz
      go_wp2_with fail
      go_region_law (refine step_appendO rfl rfl rfl rfl hap ?_)
      all_goals
        go_wp2
        go_roundw
        case rel => exact ⟨k + 1, a2, cap2, by go_num, by omega, O4.selK 4 [0, 1, 3]⟩
        case measure => simp [intOf]; omega
    · have hb1 : ¬ (k : Int) < (n : Int) := by omega
      obtain rfl : n = k := by omega
      obtain ⟨KD, GS, SR⟩ := (O.pick 1).copyStrs
      have KD' := Lib.hid KD; have SR' := Lib.hid SR
      have hl1 : Hid (([] : List (List UInt8)).length + (List.replicate n zeros).length ≤ 1000000000) := Lib.hid (by simp; omega)
      have c0 : wr.cell? ⟨b, 0, none⟩ = some (.slice aw n cw) := O.cell 0
      have blt := O.boxlt
      clear KD SR
      go_wp2_with (at_builtin; refine wpList_append_strsO rfl _ _ rfl _ [] _ (List.replicate n zeros) GS O.emptyStrs rfl rfl SR'.out KD'.out hl1.out ?_)
      intro v' w6 O6
      obtain ⟨a', c', hv'⟩ := O6.shape
      rw [List.length_replicate] at hv'
      subst hv'
      clear c0 blt O KD' SR' hl1
      have c1 : w6.cell? ⟨b, 1, none⟩ = some (.slice none 0 0) := (O6.pick 1).cell 1
      have fr : ∀ o, w6.frozen? ⟨b, o, none⟩ = false := (O6.pick 1).free
      have O7 := (O6.pick 1).set 1 (.slice a' n c')
      have e1 : (Dk.new n).nowL = List.replicate n zeros := new_nowL n
      have e2 : (Dk.new n).wasL = List.replicate n zeros := new_wasL n
      have e3 : Bv (wetB (Dk.new n)) = (madeCells #[Value.bool false] n).toList := (wet_none (m := Dk.new n) (fun _ => rfl)).trans (made_false n).symm
      have O8 : Own w0 (w6.setCell ⟨b, 1, none⟩ (.slice a' n c')) (xk (.pointer (some ⟨b, 0, none⟩)) (Dk.new n) :: L) := Own.xkI (aw := aw) (cw := cw) (an := a') (cn := c') (at0 := some ⟨g, 0, none⟩) (ct := n) (f := false) (lf := 0) ⟨fun e => (by cases e), fun _ => rfl⟩ (by
        rw [e1, e2, e3]
        exact O7.selK 4 [0, 2, 1, 3])
      clear O6 O7 e1 e2 e3
      go_wp2
      go_returns
      exact ⟨b, rfl, O8⟩
end Go.Proofs.YtnlppcjfpmnahaaGreatDoor
