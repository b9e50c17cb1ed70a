/- mailroomref04.Domains: what is put in, and appends of what is read. -/
import Derived.Test.YtlmifdkhdcbniaaDoorAdX
import Derived.Test.YtlmifdkhdcbniaaDoorAdS
import Derived.Test.YtlmifdkhdcbniaaDoorStep
import Derived.Deep.RegionHeld3
namespace Go.Proofs.YtlmifdkhdcbniaaDoor
set_option linter.all false
open Go.RowKit

theorem bl_tri {a b : BL} (h1 : ¬ a < b) (h2 : a ≠ b) : b < a := bl_lt_of (List.not_lt.1 h1) (fun e => h2 e.symm)
/-- a rising row that has just the members of xs -/
def RisOf (ss xs : List BL) : Prop := ss.Pairwise (· < ·) ∧ ∀ x, x ∈ ss ↔ x ∈ xs
theorem risOf_nil : RisOf [] [] := ⟨List.Pairwise.nil, fun _ => Iff.rfl⟩
theorem risOf_in {ss xs : List BL} {d : BL} {k : Nat} (h : RisOf ss xs) (hk : k ≤ ss.length) (hlt : ∀ j (hj : j < ss.length), j < k → ss[j] < d) (hnx : ∀ hk : k < ss.length, ¬ ss[k] < d ∧ ss[k] ≠ d) :
    RisOf (ss.take k ++ [d] ++ ss.drop k) (xs ++ [d]) := by
  obtain ⟨h1, h2⟩ := h
  have hT : ∀ x, x ∈ ss.take k → x < d := by
    intro x hx
    rw [List.mem_take_iff_getElem] at hx
    obtain ⟨j, hj, rfl⟩ := hx
    exact hlt j (by omega) (by omega)
  have hD : ∀ x, x ∈ ss.drop k → d < x := by
    intro x hx
    rw [List.mem_drop_iff_getElem] at hx
    obtain ⟨j, hj, rfl⟩ := hx
    obtain ⟨q1, q2⟩ := hnx (by omega)
    have hd := bl_tri q1 q2
    by_cases e : j = 0
    · subst e; simpa using hd
    · exact bl_trans hd (List.pairwise_iff_getElem.1 h1 k (k + j) (by omega) (by omega) (by omega))
  refine ⟨?_, fun x => ?_⟩
  · rw [List.append_assoc, List.pairwise_append]
    refine ⟨h1.sublist (List.take_sublist _ _), ?_, ?_⟩
    · rw [List.singleton_append, List.pairwise_cons]
      exact ⟨fun x hx => hD x hx, h1.sublist (List.drop_sublist _ _)⟩
    · intro a ha b hb
      rw [List.singleton_append, List.mem_cons] at hb
      rcases hb with rfl | hb
      · exact hT a ha
      · exact bl_trans (hT a ha) (hD b hb)
  · have hs : x ∈ ss ↔ x ∈ ss.take k ∨ x ∈ ss.drop k := by
      rw [← List.mem_append, List.take_append_drop]
    simp only [List.mem_append, List.mem_singleton]
    rw [← h2, hs]
    constructor
    · rintro ((h | h) | h)
      · exact .inl (.inl h)
      · exact .inr h
      · exact .inl (.inr h)
    · rintro ((h | h) | h)
      · exact .inl (.inl h)
      · exact .inr h
      · exact .inl (.inr h)
theorem risOf_has {ss xs : List BL} {d : BL} (h : RisOf ss xs) (hd : d ∈ ss) : RisOf ss (xs ++ [d]) := by
  refine ⟨h.1, fun x => ?_⟩
  rw [List.mem_append, List.mem_singleton, ← h.2]
  constructor
  · exact .inl
  · rintro (q | rfl)
    · exact q
    · exact hd
theorem risOf_doms {ss : List BL} {rc : List (List UInt8 × Bool)} (h : RisOf ss (doms rc)) : ss = domsS rc :=
  rising_uniq h.1 (domsS_rising rc) (fun x => by rw [h.2, domsS_mem])

/-- what is read of a slice that is cut -/
theorem strsR_take {w : World} {g off n cap : Nat} {ss : List (List UInt8)} {G : List Nat} (h : StrsR w (.slice (some ⟨g, off, none⟩) n cap) ss G) (k : Nat) (hk : k ≤ ss.length) (c : Nat) : StrsR w (.slice (some ⟨g, off, none⟩) k c) (ss.take k) G := by
  obtain ⟨a, c', e, hr⟩ := h
  simp only [Value.slice.injEq] at e
  obtain ⟨rfl, rfl, rfl⟩ := e
  refine ⟨_, c, by rw [List.length_take, Nat.min_eq_left hk], fun hp => ?_⟩
  have hk0 : 0 < k := by simp at hp; omega
  obtain ⟨g', off', e, hg, hc⟩ := hr (by omega)
  simp only [Option.some.injEq, Addr.mk.injEq, and_true] at e
  obtain ⟨rfl, rfl⟩ := e
  exact ⟨g, off, rfl, hg, fun i hi => by rw [hc i (by simp at hi; omega)]; simp⟩
theorem strsR_drop {w : World} {g off n cap : Nat} {ss : List (List UInt8)} {G : List Nat} (h : StrsR w (.slice (some ⟨g, off, none⟩) n cap) ss G) (k : Nat) (hk : k ≤ ss.length) (c : Nat) : StrsR w (.slice (some ⟨g, off + k, none⟩) (n - k) c) (ss.drop k) G := by
  obtain ⟨a, c', e, hr⟩ := h
  simp only [Value.slice.injEq] at e
  obtain ⟨rfl, rfl, rfl⟩ := e
  refine ⟨_, c, by rw [List.length_drop], fun hp => ?_⟩
  have hk0 : k < ss.length := by simp at hp; omega
  obtain ⟨g', off', e, hg, hc⟩ := hr (by omega)
  simp only [Option.some.injEq, Addr.mk.injEq, and_true] at e
  obtain ⟨rfl, rfl⟩ := e
  refine ⟨g, off + k, rfl, hg, fun i hi => ?_⟩
  rw [Nat.add_assoc, hc (k + i) (by simp at hi; omega)]
  simp
section
variable {w0 w : World} {L : List Piece}
theorem cells_of {sa : Option Addr} {n cap : Nat} {ms : List (List UInt8)} {G : List Nat} (hm : StrsR w (.slice sa n cap) ms G) (hp : 0 < n) : n = ms.length ∧ ∃ ad, sa = some ad ∧ ∀ j u, (ms.map str)[j]? = some u → w.cell? (ad.add j) = some u := by
  obtain ⟨a', c', e, hr⟩ := hm
  simp only [Value.slice.injEq] at e
  obtain ⟨rfl, rfl, rfl⟩ := e
  obtain ⟨g, off, rfl, _, hc⟩ := hr hp
  refine ⟨rfl, _, rfl, fun j u hu => ?_⟩
  have hj : j < ms.length := by
    rcases Nat.lt_or_ge j ms.length with h' | h'
    · exact h'
    · rw [List.getElem?_eq_none (by simpa using h')] at hu; cases hu
  rw [show (⟨g, off, none⟩ : Addr).add j = ⟨g, off + j, none⟩ from by unfold Addr.add; split <;> simp_all, hc j hj]
  simp [hj] at hu
  rw [← hu]; rfl
/-- an append to an empty slice, whatever block that is, of what is read -/
theorem run_copyS (O : Own w0 w L) {sa : Option Addr} {n cap : Nat} {ms : List (List UInt8)} {G : List Nat} (hm : StrsR w (.slice sa n cap) ms G) (hp : 0 < n) (h63 : n ≤ 1000000) (d : Addr) (ty : TypeId) :
    ∃ x y w', (Builtin.append_ #[25, 25] ty #[.slice (some d) 0 0, .slice sa n cap]).run Tryd.prog w = .ok (.slice (some ⟨x, 0, none⟩) n y) w' ∧ Own w0 w' (strs (.slice (some ⟨x, 0, none⟩) n y) ms :: L) := by
  obtain ⟨i, hi, hz, hsize, hby⟩ := info_parts info_str
  obtain ⟨hn, ad, rfl, hcell⟩ := cells_of hm hp
  subst hn
  have hbytes : (0 + ms.length) * i.bytes ≤ 140737488355328 := by rw [hby]; omega
  have hr := run_append_grow (P := Tryd.prog) w 25 ty 9 i (.string .empty) Tryd.underlying25 hi hz d 0 0 [] (by simp) (by simp) ad ms.length cap (ms.map str) (by rw [hsize]; simp) hcell (by omega) (by omega) (growslice_fits (by omega) hbytes)
  rw [Nat.zero_add] at hr
  have hge := grownCap_ge w ms.length 0 9
  have hcm : grownCap w ms.length 0 9 ≤ maxLen := grownCap_le_maxLen w ms.length 0 9 (by unfold maxLen; omega)
  refine ⟨_, _, _, hr, O.new (((Chg.refl [] w).drew).alloc _) (strs _ ms) (F := [w.heap.size]) ⟨⟨by simp, .inr ⟨w.heap.size, _, _, rfl, O.size, heap_alloc_new w.drew _, hge, hcm, ?_, ?_⟩⟩, rfl⟩ (by simp)⟩
  · simp only [Array.size_append, List.size_toArray, size_zeroCells, List.length_nil, List.length_map, hsize]
    rw [show (Value.string ByteArray.empty).cells.size = 1 from rfl]
    omega
  · simp only [Array.toList_append, List.append_assoc, List.nil_append]
    rw [Nat.mul_one]
    exact List.take_left' (by simp)
theorem run_zeroS (w : World) (d : Addr) (a : Option Addr) (c : Nat) (ty : TypeId) :
    (Builtin.append_ #[25, 25] ty #[.slice (some d) 0 0, .slice a 0 c]).run Tryd.prog w = .ok (.slice (some d) 0 0) w := by
  obtain ⟨i, hi, hz, hsize, hby⟩ := info_parts info_str
  cases a <;> simp [Builtin.append_, run_underlying Tryd.underlying25, sizeOf, typeInfo, hi, Builtin.lenOf, Builtin.firstCells, loadCells, loadCellsFrom, storeCells]
theorem run_appS {v : Value} {ss : List (List UInt8)} (O : Own w0 w (strs v ss :: L)) {sa : Option Addr} {n cap : Nat} {ms : List (List UInt8)} {G : List Nat} (hm : StrsR w (.slice sa n cap) ms G) (h63 : n ≤ 1000000) (hs : ss.length ≤ 1000000) (ty : TypeId) :
    ∃ v' w', (Builtin.append_ #[25, 25] ty #[v, .slice sa n cap]).run Tryd.prog w = .ok v' w' ∧ Own w0 w' (strs v' (ss ++ ms) :: L) := by
  obtain ⟨i, hi, hz, hsize, hby⟩ := info_parts info_str
  obtain ⟨U, ⟨row, rfl⟩, q⟩ := O.open
  by_cases h0 : n = 0
  · subst h0
    have hms : ms = [] := by
      obtain ⟨a', c', e, hr⟩ := hm
      simp only [Value.slice.injEq] at e
      exact List.eq_nil_of_length_eq_zero e.2.1.symm
    subst hms
    refine ⟨v, w, ?_, by rw [List.append_nil]; exact O⟩
    rcases row.2 with ⟨rfl, _⟩ | ⟨g, cap', cur, rfl, _, _, hnc, _⟩
    · cases sa <;> simp [Builtin.append_, run_underlying Tryd.underlying25, sizeOf, typeInfo, hi, Builtin.lenOf, Builtin.firstCells, loadCells, loadCellsFrom]
    · cases sa <;> simp [Builtin.append_, run_underlying Tryd.underlying25, sizeOf, typeInfo, hi, Builtin.lenOf, Builtin.firstCells, loadCells, loadCellsFrom, hnc, storeCells]
  · obtain ⟨hn, ad, rfl, hcell⟩ := cells_of hm (by omega)
    subst hn
    obtain ⟨v', w', hr, r1, r2, _, r3⟩ := run_append_new (P := Tryd.prog) w w0.heap.size 25 ty 9 i (.string .empty) 1 16 Tryd.underlying25 hi hz hsize hby rfl (by decide) v ss.length _ row ad ms.length cap (ms.map str) (by simp) hcell (by simp [str, Value.oneCell']) (by unfold maxLen; omega) (by omega) O.size
    refine ⟨v', w', hr, q w' (strs v' (ss ++ ms)) _ ⟨by simpa using r1, rfl⟩ ((Chg.refl _ w).grown r2 (fun k hk _ => by simp [hk])) (fun i hi => ?_)⟩
    rcases r3 i (by simpa using hi) with h4 | h4
    · exact .inl (by simp [h4])
    · exact .inr h4
variable {o : Oper} {a : Act} {K : Act → World → Prop} {Q : Exit → Act → World → Prop} {d s : Operand} {dT : TypeId}
theorem wp_copyS (O : Own w0 w L) {sa : Option Addr} {n cap : Nat} {ms : List (List UInt8)} {G : List Nat} (hm : StrsR w (.slice sa n cap) ms G) (hp : 0 < n) (h63 : n ≤ 1000000)
    (hop : o.op = Op.call { callee := Callee.builtin Builtin.append, args := #[d, s], argTypes := #[dT, dT] }) (hdT : dT = 25) (hd : ∃ ad, a.eval d = .slice (some ad) 0 0) (hs : a.eval s = .slice sa n cap)
    (hK : ∀ x y w', Own w0 w' (strs (.slice (some ⟨x, 0, none⟩) n y) ms :: L) → K (a.put o.dst (.slice (some ⟨x, 0, none⟩) n y)) w') : Oper.wp Tryd.prog o a w K Q := by
  subst hdT
  obtain ⟨ad, hd⟩ := hd
  obtain ⟨x, y, w', hr, O'⟩ := run_copyS O hm hp h63 ad o.type
  unfold Oper.wp
  simp [execOp, hop, resolve, invoke, builtin, hd, hs, hr, Result.andThen]
  exact hK x y w' O'
theorem wp_zeroS (w : World)
    (hop : o.op = Op.call { callee := Callee.builtin Builtin.append, args := #[d, s], argTypes := #[dT, dT] }) (hdT : dT = 25) (hd : ∃ ad sa cap, a.eval d = .slice (some ad) 0 0 ∧ a.eval s = .slice sa 0 cap ∧ K (a.put o.dst (.slice (some ad) 0 0)) w) : Oper.wp Tryd.prog o a w K Q := by
  subst hdT
  obtain ⟨ad, sa, cap, hd, hs, hK⟩ := hd
  have hr := run_zeroS w ad sa cap o.type
  unfold Oper.wp
  simp [execOp, hop, resolve, invoke, builtin, hd, hs, hr, Result.andThen]
  exact hK
theorem wp_appS {v : Value} {ss : List (List UInt8)} (O : Own w0 w (strs v ss :: L)) {sa : Option Addr} {n cap : Nat} {ms : List (List UInt8)} {G : List Nat} (hm : StrsR w (.slice sa n cap) ms G) (h63 : n ≤ 1000000) (hl : ss.length ≤ 1000000)
    (hop : o.op = Op.call { callee := Callee.builtin Builtin.append, args := #[d, s], argTypes := #[dT, dT] }) (hdT : dT = 25) (hd : a.eval d = v) (hs : a.eval s = .slice sa n cap)
    (hK : ∀ x m y w', Own w0 w' (strs (.slice x m y) (ss ++ ms) :: L) → K (a.put o.dst (.slice x m y)) w') : Oper.wp Tryd.prog o a w K Q := by
  subst hdT
  obtain ⟨v', w', hr, O'⟩ := run_appS O hm h63 hl o.type
  obtain ⟨x, y, rfl⟩ := O'.shape
  unfold Oper.wp
  simp [execOp, hop, resolve, invoke, builtin, hd, hs, hr, Result.andThen]
  exact hK x _ y w' (by rw [← List.length_append]; exact O')
theorem wp_appV {v : Value} {ss : List (List UInt8)} (O : Own w0 w (strs v ss :: L)) (ms : List (List UInt8)) (hl : ss.length ≤ 1000000)
    (hop : o.op = Op.call { callee := Callee.builtin Builtin.append, args := #[d, s], argTypes := #[dT, dT] }) (hdT : dT = 25) (hd : a.eval d = v) (hs : ∃ sa n cap G, a.eval s = .slice sa n cap ∧ StrsR w (.slice sa n cap) ms G ∧ n ≤ 1000000)
    (hK : ∀ x m y w', Own w0 w' (strs (.slice x m y) (ss ++ ms) :: L) → K (a.put o.dst (.slice x m y)) w') : Oper.wp Tryd.prog o a w K Q := by
  obtain ⟨sa, n, cap, G, h1, h2, h3⟩ := hs
  exact wp_appS O h2 h3 hl hop hdT hd h1 hK
end
theorem box1R {w0 w : World} {L : List Piece} {b : Nat} {x : List UInt8} (O : Own w0 w (box b #[.string ⟨x.toArray⟩] 9 :: L)) : StrsR w (.slice (some ⟨b, 0, none⟩) 1 1) [x] [b] :=
  strsR_at [x] O.obj rfl 1 rfl
end Go.Proofs.YtlmifdkhdcbniaaDoor
