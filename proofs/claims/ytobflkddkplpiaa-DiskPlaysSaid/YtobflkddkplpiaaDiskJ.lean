/- disk: what fits stays fit; the contracts over it; mailroomlaw10.two. -/
import Derived.Test.YtobflkddkplpiaaDiskI
namespace Go.Proofs.Ytobflkddkplpiaa
set_option linter.all false
open Go.RowKit Go.Maps

structure Dk.Fit (m : Dk) (c : Nat) : Prop where
  n : m.n ≤ 1024
  ops : m.ops ≤ c
  cw : m.cw ≤ c
  cn : m.cn ≤ 1025 * c
  left : m.left ≤ 9223372036854775807
  ok : m.Ok
theorem Dk.Fit.small {m : Dk} {c : Nat} (h : m.Fit c) (hc : c ≤ 9000) : m.Small := ⟨h.n, by have := h.ops; omega, h.left, by have := h.cn; omega, by have := h.cw; omega⟩
theorem Dk.Fit.mono {m : Dk} {c d : Nat} (h : m.Fit c) (hd : c ≤ d) : m.Fit d := ⟨h.n, by have := h.ops; omega, by have := h.cw; omega, by have := h.cn; omega, h.left, h.ok⟩
theorem Fit.new {n : Nat} (hn : n ≤ 1024) : (Dk.new n).Fit 0 :=
  ⟨hn, Nat.zero_le _, Nat.zero_le _, Nat.zero_le _, Nat.zero_le _, ⟨⟨(fun _ _ h => by cases h), (fun _ _ h => by cases h)⟩, (fun _ h => by cases h), (fun _ h => by cases h)⟩⟩
theorem Dk.Fit.did {m : Dk} {c : Nat} (h : m.Fit c) : m.did.Fit (c + 1) :=
  ⟨h.n, by show m.ops + 1 ≤ _; have := h.ops; omega, by show m.cw ≤ _; have := h.cw; omega, by show m.cn ≤ _; have := h.cn; omega, by show m.left - 1 ≤ _; have := h.left; omega, ⟨h.ok.full, h.ok.dom, h.ok.has⟩⟩
theorem Ok.put {m : Dk} (h : m.Ok) {k : Int} (hk : 0 ≤ k ∧ k < m.n) {s : List UInt8} (hs : s.length = 128) : (m.put k s).Ok := by
  have hw : ∀ j, (m.put k s).was j = if j = k ∧ (m.was k).isSome = false then some (m.get k) else m.was j := by
    intro j
    show (if (m.was k).isSome = true then m.was else upd m.was k (some (m.get k))) j = _
    cases hb : (m.was k).isSome
    · by_cases e : j = k
      · subst e; simp [upd]
      · simp [upd, e]
    · simp
  have hn : ∀ j, (m.put k s).now j = if j = k then some s else m.now j := fun j => rfl
  refine ⟨⟨fun j u hu => ?_, fun j u hu => ?_⟩, fun j hj => ?_, fun j hj => ?_⟩
  · rw [hn] at hu
    split at hu
    · simp only [Option.some.injEq] at hu; rw [← hu]; exact hs
    · exact h.full.1 j u hu
  · rw [hw] at hu
    split at hu
    · simp only [Option.some.injEq] at hu; rw [← hu]; exact h.full.get k
    · exact h.full.2 j u hu
  · rw [hw] at hj
    split at hj
    · rename_i e; rw [e.1]; exact hk
    · exact h.dom j hj
  · rw [hn]
    split
    · rfl
    · rename_i e
      rw [hw, if_neg (fun x => e x.1)] at hj
      exact h.has j hj
theorem Dk.Fit.write {m : Dk} {c : Nat} (h : m.Fit c) (k : Int) (s : List UInt8) : (m.write k s).1.Fit (c + 1) := by
  unfold Dk.write
  split
  · exact h.mono (by omega)
  · split
    · exact h.mono (by omega)
    · rename_i h2
      have h3 : 0 ≤ k ∧ k < m.n ∧ s.length = 128 := by omega
      have hp := Ok.put h.ok ⟨h3.1, h3.2.1⟩ h3.2.2
      have o : m.ops + 1 ≤ c + 1 := by have := h.ops; omega
      have cw : (m.put k s).cw ≤ c + 1 := by
        have := h.cw
        show (if (m.was k).isSome = true then m.cw else m.cw + 1) ≤ _
        split <;> omega
      have cn : m.cn + 1 ≤ 1025 * (c + 1) := by have := h.cn; omega
      exact ⟨h.n, o, cw, cn, by show m.left - 1 ≤ _; have := h.left; omega, ⟨hp.full, hp.dom, hp.has⟩⟩
theorem Dk.Fit.sync {m : Dk} {c : Nat} (h : m.Fit c) : m.sync.1.Fit (c + 1) := by
  unfold Dk.sync
  split
  · exact h.mono (by omega)
  · exact Dk.Fit.did (m := { m with was := fun _ => none }) ⟨h.n, h.ops, h.cw, h.cn, h.left, ⟨⟨h.ok.full.1, (fun _ _ e => by cases e)⟩, (fun _ e => by cases e), (fun _ e => by cases e)⟩⟩
theorem Dk.Fit.fail {m : Dk} {c : Nat} (h : m.Fit c) {k : Int} (hk : k ≤ 9223372036854775807) : (m.fail k).Fit c :=
  ⟨h.n, h.ops, h.cw, h.cn, by show k.toNat ≤ _; omega, ⟨h.ok.full, h.ok.dom, h.ok.has⟩⟩
theorem Dk.Fit.boot {m : Dk} {c : Nat} (h : m.Fit c) (keep : List Int) : (m.boot keep).1.Fit (c + 1) := by
  unfold Dk.boot
  split
  · have hb := bootI_n m keep m.dirty.length
    have ho := bootI_ok h.ok keep m.dirty.length (Nat.le_refl _)
    have hd : m.dirty.length ≤ 1024 := by
      have := h.n
      have h2 := List.length_filter_le (fun k : Nat => (m.was (k : Int)).isSome) (List.range m.n)
      simp [Dk.dirty] at h2 ⊢
      omega
    refine ⟨by show (m.bootI keep m.dirty.length).n ≤ _; rw [hb.1]; exact h.n, by show (m.bootI keep m.dirty.length).ops ≤ _; rw [hb.2.1]; have := h.ops; omega, by show (m.bootI keep m.dirty.length).cw ≤ _; rw [hb.2.2.1]; have := h.cw; omega, ?_, Nat.zero_le _, ⟨ho.full, ho.dom, ho.has⟩⟩
    show (m.bootI keep m.dirty.length).cn ≤ _
    rw [hb.2.2.2]
    have := h.cn
    omega
  · exact h.mono (by omega)
section
variable {w0 w : World} {L : List Piece} {p : Value} {m : Dk} {c : Nat}
theorem write_fit (O : Own w0 w (dk p m :: L)) (h : m.Fit c) (hc : c ≤ 9000) (k : Int) (hk : I64 k) (s : List UInt8) (hs : s.length ≤ 1000000) {m' : Dk} {er : Int} (hr : m.write k s = (m', er)) :
    Calls Try.prog 13 #[p, .int .i64 k, .string ⟨s.toArray⟩] w fun e w' => e = .returned (.int .i64 er) ∧ Own w0 w' (dk p m' :: L) := by
  have := write_own O (h.small hc) h.ok.full (by have := h.cn; omega) (by have := h.cw; omega) k hk s hs
  rw [hr] at this
  exact this
theorem sync_fit (O : Own w0 w (dk p m :: L)) (h : m.Fit c) (hc : c ≤ 9000) {m' : Dk} {er : Int} (hr : m.sync = (m', er)) :
    Calls Try.prog 15 #[p] w fun e w' => e = .returned (.int .i64 er) ∧ Own w0 w' (dk p m' :: L) := by
  have := sync_own O (h.small hc)
  rw [hr] at this
  exact this
theorem boot_fit (O : Own w0 w (dk p m :: L)) (h : m.Fit c) (hc : c ≤ 9000) (ak : Option Addr) (nk ck : Nat) (xs : List Int)
    (hs : ∀ w' m', Own w0 w' (dk p m' :: L) → ∃ G, SlR w' (.slice ak nk ck) (xs.map (Value.int .i64)) G) (hx : xs.length ≤ maxLen) {m' : Dk} {er : Int} (hr : m.boot xs = (m', er)) :
    Calls Try.prog 18 #[p, .slice ak nk ck] w fun e w' => e = .returned (.int .i64 er) ∧ Own w0 w' (dk p m' :: L) := by
  have := boot_own O (h.small hc) (by have := h.cn; omega) h.ok ak nk ck xs hs hx
  rw [hr] at this
  exact this
end
/-- the disk of the examples, step by step -/
def t1 : Dk := Dk.new 2
def t2 : Dk := (t1.write 0 (fullS 97)).1
def t3 : Dk := t2.sync.1
def t4 : Dk := (t3.write 0 (fullS 98)).1
def t5 : Dk := (t4.write 1 (fullS 98)).1
theorem t1_fit : t1.Fit 0 := Fit.new (by omega)
theorem t2_fit : t2.Fit 1 := t1_fit.write _ _
theorem t3_fit : t3.Fit 2 := t2_fit.sync
theorem t4_fit : t4.Fit 3 := t3_fit.write _ _
theorem t5_fit : t5.Fit 4 := t4_fit.write _ _
theorem fullS_len (c : UInt8) : (fullS c).length ≤ 1000000 := by simp [fullS]
theorem two_own {w0 w : World} {L : List Piece} (O : Own w0 w L) :
    Calls Try.prog 31 #[] w fun e w' => ∃ b : Nat, e = .returned (.pointer (some ⟨b, 0, none⟩)) ∧ Own w0 w' (dk (.pointer (some ⟨b, 0, none⟩)) t5 :: L) := by
  go_enter Try.func31, Try.ntmps31
  go_wp2_with fail
  refine (new_own O 2 (by omega) (by omega)).mono ?_
  clear O
  rintro e w1 ⟨b, rfl, O⟩
  go_wp2_with fail
  refine (full_own O 97 _ rfl).mono ?_
  clear O
  rintro e w2 ⟨rfl, O⟩
  go_wp2_with fail
  refine (write_fit (m' := t2) (er := 0) O t1_fit (by omega) 0 (I64.nat (k := 0) (by omega)) _ (fullS_len _) (by kernel_rfl)).mono ?_
  clear O
  rintro e w3 ⟨rfl, O⟩
  go_wp2_with fail
  refine (sync_fit (m' := t3) (er := 0) O t2_fit (by omega) (by kernel_rfl)).mono ?_
  clear O
  rintro e w3 ⟨rfl, O⟩
  go_wp2_with fail
  refine (full_own O 98 _ rfl).mono ?_
  clear O
  rintro e w2 ⟨rfl, O⟩
  go_wp2_with fail
  refine (write_fit (m' := t4) (er := 0) O t3_fit (by omega) 0 (I64.nat (k := 0) (by omega)) _ (fullS_len _) (by kernel_rfl)).mono ?_
  clear O
  rintro e w3 ⟨rfl, O⟩
  go_wp2_with fail
  refine (full_own O 98 _ rfl).mono ?_
  clear O
  rintro e w2 ⟨rfl, O⟩
  go_wp2_with fail
  refine (write_fit (m' := t5) (er := 0) O t4_fit (by omega) 1 (I64.nat (k := 1) (by omega)) _ (fullS_len _) (by kernel_rfl)).mono ?_
  clear O
  rintro e w3 ⟨rfl, O⟩
  go_wp2
  go_ret
  exact ⟨b, rfl, O⟩
end Go.Proofs.Ytobflkddkplpiaa
