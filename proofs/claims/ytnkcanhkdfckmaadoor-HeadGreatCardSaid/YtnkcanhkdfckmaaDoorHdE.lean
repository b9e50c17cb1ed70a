/- head: Fields, Get, Hops, Plain. -/
import Derived.Test.YtnkcanhkdfckmaaDoorHdD
namespace Go.Proofs.YtnkcanhkdfckmaaDoor
set_option linter.all false
open Go.RowKit Go.Shelf
attribute [local go_sem] Oper.semAt_some

def FieldsPost (w0 : World) (L : List Piece) (xs : List Fd) (e : Ending) (w' : World) : Prop := ∃ a cap, e = .returned (.slice a xs.length cap) ∧ Own w0 w' (rowv 29 2 (.slice a xs.length cap) xs.length (flatF xs) :: L)
theorem fieldsC_own {w0 w : World} {L : List Piece} (O : Own w0 w L) {m : Int} (hm : w0.cell? ⟨0, 0, none⟩ = some (.int .i64 m)) (s : List UInt8) (hs : s.length ≤ 10000000) :
    Calls Tryd.prog 16 #[.string ⟨s.toArray⟩] w (FieldsPost w0 L (fieldsL s)) := by
  go_enter Tryd.func16, Tryd.ntmps16
  go_wp2_with fail
  refine (fields_own O s).mono ?_
  clear O
  rintro e w1 ⟨B, rfl, O⟩
  have HC : Calls Tryd.prog 38 #[.func (.func 59) #[] #[.pointer (some ⟨B, 0, none⟩)]] w1 (FieldsPost w0 L (fieldsL s)) := by
    go_enter Tryd.func38, Tryd.ntmps38
    go_wp2_with fail
    refine (appendSeq_own O m hm hs).mono ?_
    clear O
    rintro e w2 ⟨v, rfl, O⟩
    obtain ⟨a, cap, rfl⟩ := O.rowvShape
    go_wp2
    go_ret
    exact ⟨a, cap, rfl, O⟩
  go_wp2_with fail
  refine HC.mono ?_
  clear O HC
  rintro e w2 ⟨a, cap, rfl, O⟩
  go_wp2
  go_ret
  exact ⟨a, cap, rfl, O⟩
theorem trimL_len (s : List UInt8) : (trimL s).length ≤ s.length := by
  have h : ∀ (p : UInt8 → Bool) (l : List UInt8), (l.dropWhile p).length ≤ l.length := fun p l => (List.dropWhile_suffix p).length_le
  unfold trimL Lib.trimS Lib.trimLeftS Lib.trimRightS
  refine Nat.le_trans (h _ _) ?_
  rw [List.length_reverse]
  refine Nat.le_trans (h _ _) ?_
  rw [List.length_reverse]
  exact Nat.le_refl _
def sumL (ls : List (List UInt8)) : Nat := (ls.map List.length).sum
theorem fs_bound : ∀ (ls : List (List UInt8)) (now : Option Fd) (V : Nat), (∀ g, now = some g → g.1.length ≤ V ∧ g.2.length ≤ V) → ∀ f, f ∈ fs now ls → f.1.length ≤ V + sumL ls ∧ f.2.length ≤ V + sumL ls
  | [], none, V, _, f, hf => by simp [fs] at hf
  | [], some g, V, h, f, hf => by
    simp [fs] at hf; subst hf
    have := h g rfl
    have := trimL_len g.2
    simp [trimF]; omega
  | l :: ls, now, V, h, f, hf => by
    have hb := begL_len l
    have hs : sumL (l :: ls) = l.length + sumL ls := by simp [sumL]
    have go : f ∈ fs (some (begL l)) ls → f.1.length ≤ V + sumL (l :: ls) ∧ f.2.length ≤ V + sumL (l :: ls) := fun q => by
      have := fs_bound ls (some (begL l)) l.length (fun g hg => by cases hg; exact hb) f q
      omega
    cases now with
    | none =>
      rw [fs] at hf
      split at hf
      · exact go hf
      · cases hf
    | some g =>
      have hg := h g rfl
      rw [fs] at hf
      split at hf
      · have := fs_bound ls (some (g.1, g.2 ++ l)) (V + l.length) (fun k hk => by cases hk; simp; omega) f hf
        omega
      · rcases List.mem_cons.1 hf with rfl | hf
        · have := trimL_len g.2
          simp [trimF]; omega
        · split at hf
          · exact go hf
          · cases hf
theorem sumL_join (ls : List (List UInt8)) : sumL ls ≤ (joinL ls).length := by
  induction ls with
  | nil => simp [sumL]
  | cons a ls ih => simp [sumL, joinL, crlf] at ih ⊢; omega
theorem fieldsL_bound {s : List UInt8} {f : Fd} (hf : f ∈ fieldsL s) : f.1.length ≤ s.length ∧ f.2.length ≤ s.length := by
  have h1 := fs_bound (cutL s).1 none 0 (fun g hg => by cases hg) f hf
  have h2 := sumL_join (cutL s).1
  have h3 := congrArg List.length (cutL_join s).1
  rw [List.length_append] at h3
  omega
def isN (name : List UInt8) (f : Fd) : Bool := smallL f.1 == smallL name
def valsL (name : List UInt8) (l : List Fd) : List (List UInt8) := (l.filter (isN name)).map Prod.snd
def getL (s name : List UInt8) : List (List UInt8) := valsL name (fieldsL s)
theorem valsL_snoc (name : List UInt8) (l : List Fd) (f : Fd) : valsL name (l ++ [f]) = if isN name f = true then valsL name l ++ [f.2] else valsL name l := by
  unfold valsL
  rw [List.filter_append, List.map_append]
  by_cases h : isN name f = true
  · rw [if_pos h]; simp [h]
  · rw [if_neg h]; simp [h]
theorem valsL_len (name : List UInt8) (l : List Fd) : (valsL name l).length ≤ l.length := by
  unfold valsL; rw [List.length_map]; exact List.length_filter_le _ _
theorem get1_own {w0 w : World} {L : List Piece} {q : Nat} {name : List UInt8} (O : Own w0 w (box q #[.string ⟨name.toArray⟩] 9 :: L)) (hn : name.length ≤ 1000000000) (f : Fd) (hf : f.1.length ≤ 1000000000) :
    Calls Tryd.prog 41 #[fdV f, .pointer (some ⟨q, 0, none⟩)] w fun e w' => e = .returned (.bool (isN name f)) ∧ Own w0 w' (box q #[.string ⟨name.toArray⟩] 9 :: L) := by
  have O2 := O.newBox #[.string ⟨f.1.toArray⟩, .string ⟨f.2.toArray⟩] 29
  have c0 := (O2.pick 1).cell 0
  show Calls Tryd.prog 41 #[.agg #[.string ⟨f.1.toArray⟩, .string ⟨f.2.toArray⟩], .pointer (some ⟨q, 0, none⟩)] w _
  go_enter Tryd.func41, Tryd.ntmps41
  go_wp2_with fail
  refine (like_own O2.drop f.1 name hf hn).mono ?_
  clear O O2 c0
  rintro e w1 ⟨rfl, O⟩
  go_wp2
  go_ret
  exact ⟨rfl, O⟩
set_option maxRecDepth 100000 in
set_option maxHeartbeats 4000000 in
theorem those_own {w0 w : World} {L : List Piece} {q : Nat} {name : List UInt8} (O : Own w0 w (box q #[.string ⟨name.toArray⟩] 9 :: L)) (hn : name.length ≤ 1000000000) {m : Int} (hm : w0.cell? ⟨0, 0, none⟩ = some (.int .i64 m)) (s : List UInt8) (hs : s.length ≤ 10000000) :
    Calls Tryd.prog 40 #[.string ⟨s.toArray⟩, .func (.func 41) #[] #[.pointer (some ⟨q, 0, none⟩)]] w fun e w' => ∃ v, e = .returned v ∧ Own w0 w' (strs v (getL s name) :: L) := by
  obtain ⟨res, hres⟩ : ∃ r, r = getL s name := ⟨_, rfl⟩
  rw [← hres]
  have GL : Hid (res = valsL name (fieldsL s)) := hres
  clear hres
  refine (callsIn_wide (n := 3)).1 ?_
  refine callsIn_of_wp_marks Tryd.func40 rfl trivial ?_
  simp only [Tryd.ntmps40, List.size_toArray, List.length_cons, List.length_nil, Nat.reduceAdd, Nat.reduceSub, Array.replicate_succ, Array.replicate_zero, List.push_toArray, List.append_toArray, List.nil_append, List.cons_append]
  have O1 := (O.newBox #[.func (.func 41) #[] #[.pointer (some ⟨q, 0, none⟩)]] 65).newBox #[.slice none 0 0] 24
  rw [show (w.alloc (.cells #[.func (.func 41) #[] #[.pointer (some ⟨q, 0, none⟩)]] 65)).heap.size = w.heap.size + 1 by simp] at O1
  gi_wp2_with fail
  refine ⟨trivial, ?_⟩
  refine (callsIn_wide.2 (fields_own O1 s)).mono ?_
  clear O O1
  rintro e w1 ⟨B, rfl, O⟩
  gi_wp2_with fail
  obtain ⟨fb, hfb⟩ : ∃ b, b = w.heap.size := ⟨_, rfl⟩
  obtain ⟨ob, hob⟩ : ∃ b, b = w.heap.size + 1 := ⟨_, rfl⟩
  rw [← hob, ← hfb] at O ⊢
  clear hfb hob
  have HB := Lib.hid (fun (f : Fd) (h : f ∈ fieldsL s) => fieldsL_bound h)
  have HL := Lib.hid (fieldsL_len s)
  have IT := fields_iter s hs B w0 m hm
  generalize fieldsL s = xs at HB HL IT GL
  have O2 : Own w0 w1 (boxS B s :: box ob #[.slice none 0 0] 24 :: strs (.slice none 0 0) [] :: box fb #[.func (.func 41) #[] #[.pointer (some ⟨q, 0, none⟩)]] 65 :: box q #[.string ⟨name.toArray⟩] 9 :: L) := (O.nilStrs).selK 5 [1, 2, 0, 3, 4]
  clear O
  refine range_ownA (w0 := w0) rfl (enters_of Tryd.func59 (by kernel_rfl) rfl) IT (fun _ => rfl)
    (fun k L' => ∃ v, L' = box ob #[v] 24 :: strs v (valsL name (xs.take k)) :: box fb #[.func (.func 41) #[] #[.pointer (some ⟨q, 0, none⟩)]] 65 :: box q #[.string ⟨name.toArray⟩] 9 :: L)
    (fun _ _ => False)
    O2 ⟨.slice none 0 0, rfl⟩
    (fun k a' L' => ∃ v vb f, xs[k]? = some f ∧ a' = { tmps := #[.string ⟨s.toArray⟩, .func (.func 41) #[] #[.pointer (some ⟨q, 0, none⟩)], undef, .pointer (some ⟨fb, 0, none⟩), .slice none 0 0, .pointer (some ⟨ob, 0, none⟩), .pointer (some ⟨vb, 0, none⟩), .string ⟨s.toArray⟩, .func (.func 59) #[] #[.pointer (some ⟨B, 0, none⟩)], fdV f, undef, undef, undef, undef, undef, undef, undef, undef, undef], defers := [] } ∧
      L' = box vb #[.string ⟨f.1.toArray⟩, .string ⟨f.2.toArray⟩] 29 :: box ob #[v] 24 :: strs v (valsL name (xs.take k)) :: box fb #[.func (.func 41) #[] #[.pointer (some ⟨q, 0, none⟩)]] 65 :: box q #[.string ⟨name.toArray⟩] 9 :: L) ?assign ?body ?done ?stop
  case assign =>
    clear O2 IT
    rintro mm lp D o1 o2 c k hk L' W K O ⟨v, rfl⟩ hK
    have hf : xs[k]? = some xs[k] := List.getElem?_eq_getElem hk
    generalize xs[k] = f at hf ⊢
    have ON := (O.newBox #[.string ⟨f.1.toArray⟩, .string ⟨f.2.toArray⟩] 29)
    have HK := Lib.hid hK
    clear hK
    dsimp only [encF, fdV]
    gi_wp2
    exact HK.out _ _ _ (ON.selK 8 [1, 2, 3, 0, 4, 5, 6, 7]) ⟨v, W.heap.size, f, hf, rfl, rfl⟩
  case body =>
    clear O2 IT
    rintro mm lp D o1 o2 c k hk a' L' W O ⟨v, vb, f, hf, rfl, rfl⟩
    have hmem : f ∈ xs := List.mem_of_getElem? hf
    have hfl := (HB.out f hmem).1
    have e0 := (O.pick 3).cell 0
    have e1 := (O.pick 3).cell 1
    have b0 := (O.pick 6).cell 0
    have hsn : valsL name (xs.take (k + 1)) = if isN name f = true then valsL name (xs.take k) ++ [f.2] else valsL name (xs.take k) := by
      rw [List.take_succ, hf]; exact valsL_snoc _ _ _
    have HSN := Lib.hid hsn
    have hlen : (valsL name (xs.take k)).length ≤ 1000000000 := by
      have h1 := valsL_len name (xs.take k)
      have h2 := HL.out
      simp at h1; omega
    clear hsn hmem
    have GO := get1_own (O.pick 7) hn f (by omega)
    simp only [fdV] at GO ⊢
    gi_wp2_with fail
    refine ⟨trivial, (fun h => by cases h), ?_⟩
    refine (CallsIn.inRound lp (callsIn_wide.2 GO)).mono ?_
    clear GO O e0 e1 b0
    rintro e w2 ⟨rfl, O⟩
    have O : Own w0 w2 (c :: blk lp o1 :: blk D o2 :: box vb #[.string ⟨f.1.toArray⟩, .string ⟨f.2.toArray⟩] 29 :: box ob #[v] 24 :: strs v (valsL name (xs.take k)) :: box fb #[.func (.func 41) #[] #[.pointer (some ⟨q, 0, none⟩)]] 65 :: box q #[.string ⟨name.toArray⟩] 9 :: L) := O.selK 8 [1, 2, 3, 4, 5, 6, 7, 0]
    cases hi : isN name f
    · have SN : Hid (valsL name (xs.take (k + 1)) = valsL name (xs.take k)) := by unfold Hid; rw [HSN.out, if_neg (by rw [hi]; simp)]
      clear HSN hi
      gi_wp2
      exact ⟨_, O.selK 8 [0, 1, 2, 4, 5, 6, 7], ⟨v, by rw [SN.out]; rfl⟩⟩
    · have SN : Hid (valsL name (xs.take (k + 1)) = valsL name (xs.take k) ++ [f.2]) := by unfold Hid; rw [HSN.out, if_pos hi]
      clear HSN hi
      have e1 := (O.pick 3).cell 1
      have s0 := (O.pick 4).cell 0
      have O3 := O.pick 5
      gi_wp2_with (gi_at_builtin; refine wpListIn_append_strO rfl _ _ rfl _ _ f.2 O3 rfl rfl hlen ?_)
      intro v' w3 O4
      have s1 := (O4.pick 5).cell 0
      have s2 := (O4.pick 5).free 0
      obtain ⟨a3, cap3, rfl⟩ := O4.shape
      have O5 := (O4.pick 5).set 0 (.slice a3 (valsL name (xs.take k) ++ [f.2]).length cap3)
      gi_wp2
      have O6 : Own w0 _ (c :: blk lp o1 :: blk D o2 :: box ob #[.slice a3 (valsL name (xs.take k) ++ [f.2]).length cap3] 24 :: strs (.slice a3 (valsL name (xs.take k) ++ [f.2]).length cap3) (valsL name (xs.take k) ++ [f.2]) :: box fb #[.func (.func 41) #[] #[.pointer (some ⟨q, 0, none⟩)]] 65 :: box q #[.string ⟨name.toArray⟩] 9 :: L) := O5.selK 8 [2, 3, 4, 0, 1, 6, 7]
      refine ⟨_, ?_, ⟨.slice a3 (valsL name (xs.take k) ++ [f.2]).length cap3, rfl⟩⟩
      rw [SN.out]
      simpa using O6
  case done =>
    clear O2 IT
    rintro D L' W O ⟨v, rfl⟩
    rw [List.take_length] at O
    have s0 := (O.pick 1).cell 0
    simp only [Exit.inBlock, Exit.then]
    gi_wp2_with fail
    refine ⟨by simp, .inl ⟨_, _, rfl, run_takeDeferred O.at, ?_⟩⟩
    have O3 := O.put (.deferred none)
    refine ⟨v, by simp [results, Tryd.results40, go_sem], ?_⟩
    exact ⟨v, rfl, by rw [GL.out]; exact O3.selK 5 [2]⟩
  case stop =>
    rintro D c L' W O h
    exact h.elim
end Go.Proofs.YtnkcanhkdfckmaaDoor
