/- head: Fields. -/
import Derived.Test.YtnkcanhkdfckmaaDoorHdC
import Derived.Test.YtnkcanhkdfckmaaDoorRowv
import Derived.Test.YtnkcanhkdfckmaaDoorRangeA
namespace Go.Proofs.YtnkcanhkdfckmaaDoor
set_option linter.all false
open Go.RowKit Go.Shelf
attribute [local go_sem] Oper.semAt_some

theorem info_fd : (Tryd.prog.info? 29).map (fun i => (i.zero, i.size, i.bytes)) = some (some (.agg #[.string .empty, .string .empty]), 2, 32) := by kernel_rfl
def flatF (l : List Fd) : List Value := l.flatMap fun f => [.string ⟨f.1.toArray⟩, .string ⟨f.2.toArray⟩]
theorem fields_own {w0 w : World} {L : List Piece} (O : Own w0 w L) (s : List UInt8) :
    Calls Tryd.prog 39 #[.string ⟨s.toArray⟩] w fun e w' => ∃ B, e = .returned (.func (.func 59) #[] #[.pointer (some ⟨B, 0, none⟩)]) ∧ Own w0 w' (boxS B s :: L) := by
  go_enter Tryd.func39, Tryd.ntmps39
  go_wp2
  go_ret
  exact ⟨w.heap.size, rfl, O.newBox _ _⟩
theorem fs_len : ∀ (ls : List (List UInt8)) (now : Option Fd), (fs now ls).length ≤ ls.length + 1
  | [], none => by simp [fs]
  | [], some f => by simp [fs]
  | l :: ls, none => by
    rw [fs]
    split
    · have := fs_len ls (some (begL l)); simp; omega
    · simp
  | l :: ls, some f => by
    rw [fs]
    split
    · have := fs_len ls (some (f.1, f.2 ++ l)); simp; omega
    · split
      · have := fs_len ls (some (begL l)); simp; omega
      · simp
theorem fieldsL_len (s : List UInt8) : (fieldsL s).length ≤ s.length + 1 := by
  have h1 := fs_len (cutL s).1 none
  have h2 := cutL_len s
  unfold fieldsL; omega
theorem flatF_snoc (l : List Fd) (f : Fd) : flatF (l ++ [f]) = flatF l ++ flatF [f] := by simp [flatF]
theorem Own.nilRowv {w0 w : World} {L : List Piece} (h : Own w0 w L) (e : TypeId) (size : Nat) : Own w0 w (rowv e size (.slice none 0 0) 0 [] :: L) :=
  h.new (Chg.refl _ _) (rowv e size (.slice none 0 0) 0 []) (F := []) ⟨World.ownsRow_nil _ _ _ _, rfl⟩ (by simp)
theorem wpListIn_append_fdO {F : Fence} {n : Nat} {w0 w : World} {L : List Piece} {ops : Array Oper} {rest : List Oper} {o : Oper} {a : Act} {Q : Exit → Act → World → Prop} (hgd : o.guard = none) (s x : Operand)
    (ho : o.op = .call { callee := .builtin .append, args := #[s, x], argTypes := #[30, 30] })
    (v : Value) (k : Nat) (xs : List Value) (f : Fd) (O : Own w0 w (rowv 29 2 v k xs :: L)) (hs : a.eval s = v)
    (hx : a.eval x = .slice (some ⟨w.heap.size, 0, none⟩) 1 1) (hlen : k ≤ 20000000)
    (h : ∀ a' cap w', Own w0 w' (rowv 29 2 (.slice a' (k + 1) cap) (k + 1) (xs ++ flatF [f]) :: L) → wpListIn F n Tryd.prog ops Q rest (a.put o.dst (.slice a' (k + 1) cap)) w') : wpListIn F n Tryd.prog ops Q (o :: rest) a (w.alloc (.cells #[.string ⟨f.1.toArray⟩, .string ⟨f.2.toArray⟩] 29)) := by
  obtain ⟨U, ⟨row, rfl⟩, q⟩ := O.open
  obtain ⟨i0, hi, hz0, hz1, hz2⟩ := info_parts info_fd
  have hb : (w.alloc (.cells #[.string ⟨f.1.toArray⟩, .string ⟨f.2.toArray⟩] 29)).heap[w.heap.size]? = some (.cells #[.string ⟨f.1.toArray⟩, .string ⟨f.2.toArray⟩] 29 (0, 0)) := heap_alloc_new _ _
  obtain ⟨v', w', hr, r1, r2, _, r3⟩ := run_append_new (P := Tryd.prog) (w.alloc (.cells #[.string ⟨f.1.toArray⟩, .string ⟨f.2.toArray⟩] 29)) w0.heap.size 30 o.type 29 i0 _ 2 32 Tryd.underlying30 hi hz0 hz1 hz2 rfl (by decide) v k _ (row.alloc _) ⟨w.heap.size, 0, none⟩ 1 1 (flatF [f]) rfl
    (by intro j u hu
        match j, hu with
        | 0, hu => simp [flatF] at hu; subst hu; simp [Addr.add, cell_at hb]
        | 1, hu => simp [flatF] at hu; subst hu; simp [Addr.add, cell_at hb]) (by intro u hu; simp [flatF] at hu; rcases hu with rfl | rfl <;> rfl) (by unfold maxLen; omega) (by omega) (Nat.le_trans O.size (by simp))
  obtain ⟨a', cap, rfl⟩ : ∃ a' cap, v' = .slice a' (k + 1) cap := by
    rcases r1.2 with ⟨rfl, h0⟩ | ⟨g, cap, cur, rfl, _⟩
    · omega
    · exact ⟨_, _, rfl⟩
  refine wpListIn_plain hgd fun K hK' => ?_
  unfold Oper.wpIn
  refine ⟨?_, ?_⟩
  · simp [Oper.about, ho, resolve, Target.leads, Sem.run_pure]
  · rw [Oper.semAt_plain F _ _ (by rw [ho]; intro c hc'; cases hc')]
    simp [execOp, ho, resolve, invoke, builtin, hs, hx, hr, Result.andThen]
    refine hK' _ _ (h a' cap w' (q w' (rowv 29 2 (.slice a' (k + 1) cap) (k + 1) (xs ++ flatF [f])) _ ⟨r1, rfl⟩ (((Chg.refl _ w).alloc _).grown r2 (fun k hk _ => by simp [hk])) (fun i hi => ?_)))
    rcases r3 i (by simpa using hi) with h4 | h4
    · exact .inl (by simp [h4])
    · exact .inr (by simp at h4; omega)
set_option maxHeartbeats 2000000 in
theorem appendSeq_own {w0 w : World} {L : List Piece} {B : Nat} {s : List UInt8} (O : Own w0 w (boxS B s :: L)) (m : Int) (hm : w0.cell? ⟨0, 0, none⟩ = some (.int .i64 m)) (hs : s.length ≤ 10000000) :
    Calls Tryd.prog 58 #[.slice none 0 0, .func (.func 59) #[] #[.pointer (some ⟨B, 0, none⟩)]] w fun e w' => ∃ v, e = .returned v ∧ Own w0 w' (rowv 29 2 v (fieldsL s).length (flatF (fieldsL s)) :: L) := by
  refine (callsIn_wide (n := 3)).1 ?_
  refine callsIn_of_wp_marks Tryd.func58 rfl trivial ?_
  simp only [Tryd.ntmps58, List.size_toArray, List.length_cons, List.length_nil, Nat.reduceAdd, Nat.reduceSub, Array.replicate_succ, Array.replicate_zero, List.push_toArray, List.append_toArray, List.nil_append, List.cons_append]
  have O1 := ((O.newBox #[.slice none 0 0] 30).pick 1).nilRowv 29 2
  gi_wp2_with fail
  obtain ⟨sb, hsb⟩ : ∃ b, b = w.heap.size := ⟨_, rfl⟩
  rw [← hsb] at O1 ⊢
  clear O hsb
  have HL := Lib.hid (fieldsL_len s)
  have O2 : Own w0 (w.alloc (.cells #[.slice none 0 0] 30)) (boxS B s :: box sb #[.slice none 0 0] 30 :: rowv 29 2 (.slice none 0 0) 0 [] :: L) := O1.selK 3 [1, 2, 0]
  clear O1
  refine range_ownA (w0 := w0) rfl (enters_of Tryd.func59 (by kernel_rfl) rfl) (fields_iter s hs B w0 m hm) (fun _ => rfl)
    (fun k L' => ∃ v, L' = box sb #[v] 30 :: rowv 29 2 v k (flatF ((fieldsL s).take k)) :: L)
    (fun _ _ => False)
    O2 ⟨.slice none 0 0, rfl⟩
    (fun k a' L' => ∃ v vb f, (fieldsL s)[k]? = some f ∧ a' = { tmps := #[.slice none 0 0, .func (.func 59) #[] #[.pointer (some ⟨B, 0, none⟩)], .pointer (some ⟨sb, 0, none⟩), undef, .slice none 0 0, .pointer (some ⟨vb, 0, none⟩), .func (.func 59) #[] #[.pointer (some ⟨B, 0, none⟩)], fdV f, undef, undef, undef, undef, undef], defers := [] } ∧
      L' = box vb #[.string ⟨f.1.toArray⟩, .string ⟨f.2.toArray⟩] 29 :: box sb #[v] 30 :: rowv 29 2 v k (flatF ((fieldsL s).take k)) :: L) ?assign ?body ?done ?stop
  case assign =>
    clear O2
    rintro mm lp D o1 o2 c k hk L' W K O ⟨v, rfl⟩ hK
    have hf : (fieldsL s)[k]? = some (fieldsL s)[k] := List.getElem?_eq_getElem hk
    generalize (fieldsL s)[k] = f at hf ⊢
    have ON := (O.newBox #[.string ⟨f.1.toArray⟩, .string ⟨f.2.toArray⟩] 29)
    have HK := Lib.hid hK
    clear hK
    dsimp only [encF, fdV]
    gi_wp2
    exact HK.out _ _ _ (ON.selK 6 [1, 2, 3, 0, 4, 5]) ⟨v, W.heap.size, f, hf, rfl, rfl⟩
  case body =>
    clear O2
    rintro mm lp D o1 o2 c k hk a' L' W O ⟨v, vb, f, hf, rfl, rfl⟩
    have e0 := (O.pick 3).cell 0
    have e1 := (O.pick 3).cell 1
    have s0 := (O.pick 4).cell 0
    have hk2 : k ≤ 20000000 := by have := HL.out; omega
    have O3 := O.pick 5
    dsimp only [fdV]
    gi_wp2_with (gi_at_builtin; refine wpListIn_append_fdO rfl _ _ rfl _ _ _ f O3 rfl rfl hk2 ?_)
    intro a2 cap w3 O4
    have s1 := (O4.pick 5).cell 0
    have s2 := (O4.pick 5).free 0
    have O5 := (O4.pick 5).set 0 (.slice a2 (k + 1) cap)
    have hsn : flatF ((fieldsL s).take k) ++ flatF [f] = flatF ((fieldsL s).take (k + 1)) := by
      rw [← flatF_snoc, List.take_succ, hf]; rfl
    rw [hsn] at O5
    gi_wp2
    exact ⟨_, O5.selK 6 [2, 3, 4, 0, 1], ⟨_, rfl⟩⟩
  case done =>
    clear O2
    rintro D L' W O ⟨v, rfl⟩
    rw [List.take_length] at O
    have s0 := (O.pick 1).cell 0
    simp only [Exit.inBlock, Exit.then]
    gi_wp2_with fail
    refine ⟨by simp, .inl ⟨_, _, rfl, run_takeDeferred O.at, ?_⟩⟩
    have O3 := O.put (.deferred none)
    refine ⟨v, by simp [results, Tryd.results58, go_sem], ?_⟩
    exact ⟨v, rfl, O3.selK 3 [2]⟩
  case stop =>
    rintro D c L' W O h
    exact h.elim
end Go.Proofs.YtnkcanhkdfckmaaDoor
