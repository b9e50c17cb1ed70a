/- HeadGreat: the walk. -/
import Derived.Test.YtnkcanhkdfckmaaDoorHdI
import Derived.Test.YtnkcanhkdfckmaaDoorHdTB
import Derived.Test.YtnkcanhkdfckmaaDoorHeadBack
import Derived.Test.YtnkcanhkdfckmaaDoorSame
import Derived.Test.YtnkcanhkdfckmaaDoorHeldInB
namespace Go.Proofs.YtnkcanhkdfckmaaDoor
set_option linter.all false
open Go.RowKit

theorem same_len {a b : List UInt8} (h : smallL a = smallL b) : a.length = b.length := by
  have := congrArg List.length h
  simpa [smallL] using this
/-- the lines so far, of the fields, and of those with other letters -/
structure GreatAt (l : List Fd) (k : Nat) (a b : List UInt8) (l2 : List Fd) : Prop where
  shown : ∀ f ∈ l.take k, showB f = true
  shown2 : ∀ f ∈ l2, showB f = true
  like : Alike (l.take k) l2
  ea : a = plainJ (l.take k)
  eb : b = plainJ l2
  amax : a.length ≤ sumF (l.take k)
  bmax : b.length ≤ sumF (l.take k)
theorem GreatAt.start (l : List Fd) : GreatAt l 0 [] [] [] := ⟨by simp, by simp, rfl, rfl, rfl, by simp, by simp⟩
theorem GreatAt.next {l : List Fd} {k : Nat} {a b : List UInt8} {l2 : List Fd} (h : GreatAt l k a b l2) (hk : k < l.length) (hs : showB l[k] = true) {t : List UInt8} (ht : smallL t = smallL l[k].1) :
    GreatAt l (k + 1) (a ++ (showL l[k] ++ [13, 10])) (b ++ (showL (t, l[k].2) ++ [13, 10])) (l2 ++ [(t, l[k].2)]) := by
  have e := List.take_succ_eq_append_getElem hk
  have hs2 : showB (t, l[k].2) = true := by rw [show_small ht]; exact hs
  have h1 := showL_len l[k]
  have h2 := showL_len (t, l[k].2)
  have h3 := same_len ht
  have h4 := h.amax
  have h5 := h.bmax
  simp only at h2
  refine ⟨?_, ?_, ?_, ?_, ?_, ?_, ?_⟩
  · intro f hf
    rw [e] at hf
    rcases List.mem_append.1 hf with hf | hf
    · exact h.shown f hf
    · simp at hf; subst hf; exact hs
  · intro f hf
    rcases List.mem_append.1 hf with hf | hf
    · exact h.shown2 f hf
    · simp at hf; subst hf; exact hs2
  · unfold Alike
    have := h.like
    unfold Alike at this
    rw [e, List.map_append, List.map_append, this]
    simp [ht]
  · rw [e, plainJ_app, plainJ_one, h.ea]; simp [crlf]
  · rw [plainJ_app, plainJ_one, h.eb]; simp [crlf]
  · rw [e, sumF_snoc]; simp; omega
  · rw [e, sumF_snoc]; simp; omega
/-- what the law asks, in plain -/
structure GreatEnd (l : List Fd) (a b : List UInt8) : Prop where
  fa : fieldsL a = l
  get : ∀ name, getL a name = getL b name
theorem GreatAt.fin {l : List Fd} {k : Nat} {a b : List UInt8} {l2 : List Fd} (h : GreatAt l k a b l2) (hk : k = l.length) : GreatEnd l a b ∧ (∀ f ∈ l, showB f = true) ∧ a = plainJ l := by
  have h1 := h.shown
  have h2 := h.like
  have h3 := h.ea
  rw [List.take_of_length_le (by omega)] at h1 h2 h3
  have f1 := (fields_plain h1).1
  have f2 := (fields_plain h.shown2).1
  rw [← h3] at f1
  rw [← h.eb] at f2
  exact ⟨⟨f1, fun name => by unfold getL; rw [f1, f2]; exact vals_alike h2 name⟩, h1, h3⟩
theorem plain_of_get {a b : List UInt8} (h : ∀ name, getL a name = getL b name) : plainB a = plainB b ∧ hopsN a = hopsN b := by
  unfold plainB hopsN; rw [h, h]; exact ⟨rfl, rfl⟩
theorem more_fields {l : List Fd} {f : Fd} {a : List UInt8} (hl : ∀ f ∈ l, showB f = true) (ha : a = plainJ l) (hf : showB f = true) :
    fieldsL (a ++ (showL f ++ [13, 10])) = l ++ [f] ∧ fieldsL (showL f ++ [13, 10]) = [f] ∧ fieldsL (showL f ++ 13 :: 10 :: a) = f :: l := by
  have e1 : a ++ (showL f ++ [13, 10]) = plainJ (l ++ [f]) := by rw [plainJ_app, plainJ_one, ha]; rfl
  have e2 : showL f ++ [13, 10] = plainJ [f] := by rw [plainJ_one]; rfl
  have e3 : showL f ++ 13 :: 10 :: a = plainJ ([f] ++ l) := by rw [plainJ_app, plainJ_one, ha]; simp [crlf]
  rw [e1, e2, e3]
  refine ⟨(fields_plain ?_).1, (fields_plain ?_).1, (fields_plain ?_).1⟩
  · intro g hg
    rcases List.mem_append.1 hg with hg | hg
    · exact hl g hg
    · simp at hg; subst hg; exact hf
  · intro g hg; simp at hg; subst hg; exact hf
  · intro g hg
    rcases List.mem_cons.1 hg with rfl | hg
    · exact hf
    · exact hl g hg
theorem great_law {l : List Fd} {q : Fd} {x ml : List UInt8} (fa : fieldsL x = l) (M : fieldsL (x ++ (ml ++ [13, 10])) = l ++ [q] ∧ fieldsL (ml ++ [13, 10]) = [q] ∧ fieldsL (ml ++ 13 :: 10 :: x) = q :: l) :
    (isN tlsN q = true → (plainB x && plainB (x ++ (ml ++ [13, 10]))) = false ∧ hopsN (x ++ (ml ++ [13, 10])) = hopsN x ∧ plainB (ml ++ [13, 10]) = (smallL q.2 == smallL noN)) ∧
    (isN tlsN q = false → plainB (x ++ (ml ++ [13, 10])) = plainB x ∧ plainB (ml ++ 13 :: 10 :: x) = plainB x) := by
  obtain ⟨m1, m2, m3⟩ := M
  unfold plainB hopsN getL
  rw [m1, m2, m3, fa, vals_app, vals_app, vals_one, vals_one]
  have e : q :: l = [q] ++ l := rfl
  rw [e, vals_app, vals_one]
  constructor
  · intro h
    have hr : isN recN q = false := by
      unfold isN at h ⊢
      have := eq_of_beq h
      rw [this]; exact tls_rec
    rw [if_pos h, hr, if_neg (by simp)]
    exact ⟨oneNo_more, by simp, rfl⟩
  · intro h
    rw [h, if_neg (by simp)]
    exact ⟨by simp, by simp⟩
theorem showA_own {w0 w : World} {L : List Piece} (O : Own w0 w L) (nm vl : List UInt8) (h1 : nm.length ≤ 10000000) (h2 : vl.length ≤ 10000000) {v : Value} (hv : showV (nm, vl) = v) :
    Calls Tryd.prog 13 #[.agg #[.string ⟨nm.toArray⟩, .string ⟨vl.toArray⟩]] w fun e w' => e = .returned v ∧ Own w0 w' L := show_own O (nm, vl) h1 h2 hv
theorem showV_err (f : Fd) {b : Bool} (h : showB f = b) : showV f = .tuple #[.string ⟨(showL f).toArray⟩, .int .i64 (if b = true then 0 else 4)] := by subst h; rfl
set_option maxRecDepth 100000 in
set_option maxHeartbeats 40000000 in
theorem headGreat_walk {w : World} (m : Int) (hm : w.cell? ⟨0, 0, none⟩ = some (.int .i64 m)) (v : Value) (o : ∃ l, FieldsIn w v l) (wh : Int) (hwh : (Lit.int .u64 wh).wf = true) (fv : Value) (of : ∃ f, FieldIn fv f) :
    Calls Tryd.prog 8 #[v, .int .u64 wh, fv] w fun e w' => e = .returned (.bool true) ∧ Below w.heap.size w w' := by
  obtain ⟨l, rd, hmax, heach⟩ := o
  obtain ⟨q, rfl, n1, n2⟩ := of
  obtain ⟨qn, qv⟩ := q
  simp only at n1 n2
  have RD := rd
  obtain ⟨a, cap, rfl, -⟩ := rd
  clear hwh
  obtain ⟨B, hB⟩ : ∃ b, b = w.heap.size := ⟨_, rfl⟩
  have O := (Own.start w).newBox #[.string ⟨qn.toArray⟩, .string ⟨qv.toArray⟩] 29
  have W1 : ∃ W, W = w.alloc (.cells #[.string ⟨qn.toArray⟩, .string ⟨qv.toArray⟩] 29) := ⟨_, rfl⟩
  obtain ⟨N, hN⟩ : ∃ n, n = l.length := ⟨_, rfl⟩
  rw [← hN] at RD hmax ⊢
  have LG := long9_any _ (RD.chg O.chg) hN hmax heach
  have HN := Lib.hid hN
  clear hN W1
  show Calls Tryd.prog 8 #[.slice a N cap, .int .u64 wh, .agg #[.string ⟨qn.toArray⟩, .string ⟨qv.toArray⟩]] w _
  go_enter Tryd.func8, Tryd.ntmps8
  go_wp2_with fail
  refine LG.mono ?_
  clear LG
  rintro e w1 ⟨lb, j, rfl, rfl, hlong⟩
  replace O := O.drewN j
  rw [← hB] at O ⊢
  generalize (w.alloc (.cells #[.string ⟨qn.toArray⟩, .string ⟨qv.toArray⟩] 29)).drewN j = W at O ⊢
  clear hB
  have c0 := O.cell 0
  have c1 := O.cell 1
  cases lb
  rotate_left
  · clear hlong
    go_wp2_with fail
    refine (awake9_own O hm).mono ?_
    clear O c0 c1
    rintro e w2 ⟨rfl, O⟩
    go_wp2
    go_ret
    exact ⟨rfl, O.below⟩
  have hsum := hlong rfl
  clear hlong
  by_cases h2 : 5000 < qn.length + qv.length
  · have h2' : (5000 : Int) < (qn.length : Int) + (qv.length : Int) := by omega
    clear hsum
    go_wp2_with fail
    refine (awake9_own O hm).mono ?_
    clear O c0 c1
    rintro e w2 ⟨rfl, O⟩
    go_wp2
    go_ret
    exact ⟨rfl, O.below⟩
  have h2' : ¬ (5000 : Int) < (qn.length : Int) + (qv.length : Int) := by omega
  have HSUM := Lib.hid hsum
  have hNl : N ≤ 10000000 := by have := sumF_len l; have := HN.out; omega
  have zn : qn.length ≤ 1000000 := by omega
  have zv : qv.length ≤ 1000000 := by omega
  clear hsum h2 hmax heach
  go_wp2_with fail
  refine (awake9_own O hm).mono ?_
  clear O c0 c1
  rintro e w2 ⟨rfl, O⟩
  have c0 := O.cell 0
  have c1 := O.cell 1
  obtain ⟨qb, hqb⟩ : ∃ b, showB (qn, qv) = b := ⟨_, rfl⟩
  obtain ⟨qe, hqe⟩ : ∃ x : Int, x = if qb = true then 0 else 4 := ⟨_, rfl⟩
  have SV := showV_err (qn, qv) hqb
  rw [← hqe] at SV
  have HQE := Lib.hid hqe
  have HQB := Lib.hid hqb
  obtain ⟨ml, hml⟩ : ∃ x, x = showL (qn, qv) := ⟨_, rfl⟩
  rw [← hml] at SV
  have HML := Lib.hid hml
  have zm : ml.length ≤ 3000000 := by have := showL_len (qn, qv); rw [hml]; simp only at this; omega
  clear hqe hqb hml
  go_wp2_with fail
  refine (showA_own O qn qv (by omega) (by omega) SV).mono ?_
  clear O c0 c1 SV
  rintro e w3 ⟨rfl, O⟩
  go_wp2_with fail
  go_loopw [9, 10, 11] (fun pv gv iv wr => ∃ (k : Nat) (x y : List UInt8) (l2 : List Fd), pv = .string ⟨x.toArray⟩ ∧ gv = .string ⟨y.toArray⟩ ∧ iv = .int .i64 k ∧ k ≤ N ∧ Hid (GreatAt l k x y l2) ∧ Own w wr [box B #[.string ⟨qn.toArray⟩, .string ⟨qv.toArray⟩] 29]) (fun _ _ iv _ => N - (intOf iv).toNat)
  case atStart => exact ⟨0, [], [], [], rfl, rfl, rfl, by omega, GreatAt.start l, O⟩
  case round =>
    clear O
    obtain ⟨k, x, y, l2, rfl, rfl, rfl, hk, GA, O⟩ := hrel
    have hx9 : x.length ≤ 1000000 := by have := GA.out.amax; have := sumF_take l k; have := HSUM.out; omega
    have hy9 : y.length ≤ 1000000 := by have := GA.out.bmax; have := sumF_take l k; have := HSUM.out; omega
    by_cases hlt : k < N
    · have hb1 : (k : Int) < (N : Int) := by omega
      have hx : k < l.length := by rw [← HN.out]; exact hlt
      have HSS := Lib.hid (fun (w' : World) (h : Own w w' [box B #[.string ⟨qn.toArray⟩, .string ⟨qv.toArray⟩] 29]) => (RD.chg h.chg).at k hx)
      obtain ⟨g, off, rfl, -, -⟩ := HSS.out _ O
      have HS2 : Hid (∀ w', Own w w' [box B #[.string ⟨qn.toArray⟩, .string ⟨qv.toArray⟩] 29] → w'.cell? ⟨g, off + k * 2, none⟩ = some (.string ⟨l[k].1.toArray⟩) ∧ w'.cell? ⟨g, off + k * 2 + 1, none⟩ = some (.string ⟨l[k].2.toArray⟩)) := by
        intro w' h
        obtain ⟨g', off', e, d0, d1⟩ := HSS.out w' h
        simp only [Option.some.injEq, Addr.mk.injEq, and_true] at e
        obtain ⟨rfl, rfl⟩ := e
        exact ⟨d0, d1⟩
      have hsz := sumF_mem (List.getElem_mem hx)
      have NX := Lib.hid (fun hs t ht => GA.out.next hx hs (t := t) ht)
      have hs0 := HSUM.out
      have z1 : l[k].1.length ≤ 1000000 := by omega
      have z2 : l[k].2.length ≤ 1000000 := by omega
      obtain ⟨fn, fvl, hf⟩ : ∃ p r, l[k] = (p, r) := ⟨_, _, rfl⟩
      rw [hf] at HS2 NX z1 z2
      simp only at HS2 NX z1 z2
      obtain ⟨sb, hsb⟩ : ∃ b, showB (fn, fvl) = b := ⟨_, rfl⟩
      have SVk := showV_err (fn, fvl) hsb
      have SVt := fun t (ht : smallL t = smallL fn) => showV_err (t, fvl) (b := sb) (by rw [show_small ht]; exact hsb)
      rw [hsb] at NX
      have zs1 : (showL (fn, fvl)).length ≤ 3000000 := by have := showL_len (fn, fvl); simp only at this; omega
      have ZT := Lib.hid (fun t (ht : smallL t = smallL fn) => (by have := showL_len (t, fvl); have := same_len ht; simp only at *; omega : (showL (t, fvl)).length ≤ 3000000))
      have OT := Lib.hid (fun (W' : World) (h : Own w W' [box B #[.string ⟨qn.toArray⟩, .string ⟨qv.toArray⟩] 29]) => other_own h fn (by omega) wh)
      clear hf hsb hx hsz hs0 HSS GA
      cases sb
      all_goals
        simp only [Bool.false_eq_true, if_false, if_true] at SVk SVt
        have ST := Lib.hid (fun (W' : World) (t : List UInt8) (h : Own w W' [box B #[.string ⟨qn.toArray⟩, .string ⟨qv.toArray⟩] 29]) (ht : smallL t = smallL fn) => showA_own h t fvl (by have := same_len ht; omega) (by omega) (SVt t ht))
        have SK := showA_own O fn fvl (by omega) (by omega) SVk
        obtain ⟨d0, d1⟩ := HS2.out _ O
        clear SVk SVt
        go_wp2_with fail
        refine SK.mono ?_
        clear SK O d0 d1
        rintro e w4 ⟨rfl, O⟩
        go_upto_region 9 with fail
        have O := O.drew
        have K0 := Lib.hid (HS2.out _ O)
        go_region_held3 (fun w' => w'.cell? ⟨g, off + k * 2, none⟩ = some (.string ⟨fn.toArray⟩) ∧ w'.cell? ⟨g, off + k * 2 + 1, none⟩ = some (.string ⟨fvl.toArray⟩))
          (first | with_reducible exact K0.out | exact K0.out | exact (HS2.out _ O4) | exact (HS2.out _ O5))
          (first
            | (go_at_call 30; (with_reducible refine (OT.out _ O).mono ?_); rintro e1 ws ⟨t, rfl, O4, ht⟩)
            | (go_at_call 13; (with_reducible refine (ST.out _ t O4 ht).mono ?_); rintro e1 ws2 ⟨rfl, O5⟩))
      focus
        go_wp2
        go_ret
        exact ⟨rfl, O5.below⟩
      focus
        have NX2 := Lib.hid (NX.out (by trivial) t ht)
        have zs2 := ZT.out t ht
        generalize showL (fn, fvl) = s1 at NX2 zs1 ⊢
        generalize showL (t, fvl) = s2 at NX2 zs2 ⊢
        clear NX ZT OT ST
        go_wp2_with fail
        go_roundw
        case rel => exact ⟨k + 1, _, _, _, rfl, rfl, by go_num, by omega, NX2, O5⟩
        case measure => simp [intOf]; omega
    · obtain rfl : k = N := by omega
      have hb1 : ¬ (k : Int) < (k : Int) := by omega
      obtain ⟨GE, hsh, hxp⟩ := GA.out.fin HN.out
      have GG := Lib.hid GE.get
      obtain ⟨g1, g2⟩ := plain_of_get GE.get
      have GL : Hid (qb = true → (isN tlsN (qn, qv) = true → (plainB x && plainB (x ++ (ml ++ [13, 10]))) = false ∧ hopsN (x ++ (ml ++ [13, 10])) = hopsN x ∧ plainB (ml ++ [13, 10]) = (smallL qv == smallL noN)) ∧
          (isN tlsN (qn, qv) = false → plainB (x ++ (ml ++ [13, 10])) = plainB x ∧ plainB (ml ++ 13 :: 10 :: x) = plainB x)) := by
        intro h
        have := great_law (q := (qn, qv)) (ml := ml) GE.fa (by rw [HML.out]; exact more_fields hsh hxp (by rw [HQB.out, h]))
        exact this
      have GN : Hid (k = 0 → plainB x = false) := by
        intro h
        have : l = [] := List.eq_nil_of_length_eq_zero (by rw [← HN.out]; exact h)
        unfold plainB getL
        rw [GE.fa, this]; rfl
      obtain ⟨pa, hpa⟩ : ∃ b, plainB x = b := ⟨_, rfl⟩
      obtain ⟨ho, hho⟩ : ∃ b, hopsN x = b := ⟨_, rfl⟩
      rw [hpa] at g1 GL GN
      rw [hho] at g2 GL
      have PX := Lib.hid (fun (W' : World) (h : Own w W' [box B #[.string ⟨qn.toArray⟩, .string ⟨qv.toArray⟩] 29]) => plain_own h hm x (by omega) hpa)
      have PY := Lib.hid (fun (W' : World) (h : Own w W' [box B #[.string ⟨qn.toArray⟩, .string ⟨qv.toArray⟩] 29]) => plain_own h hm y (by omega) g1.symm)
      have HX := Lib.hid (fun (W' : World) (h : Own w W' [box B #[.string ⟨qn.toArray⟩, .string ⟨qv.toArray⟩] 29]) => hops_own h hm x (by omega) hho)
      have HY := Lib.hid (fun (W' : World) (h : Own w W' [box B #[.string ⟨qn.toArray⟩, .string ⟨qv.toArray⟩] 29]) => hops_own h hm y (by omega) g2.symm)
      clear GE hsh hxp g1 g2 hpa hho GA
      go_wp2_with fail
      go_loopw [16] (fun iv wr => ∃ i : Nat, iv = .int .i64 i ∧ i ≤ k ∧ Own w wr [box B #[.string ⟨qn.toArray⟩, .string ⟨qv.toArray⟩] 29]) (fun iv _ => k - (intOf iv).toNat)
      case atStart => exact ⟨0, rfl, by omega, O⟩
      case round =>
        clear O
        obtain ⟨i, rfl, hi, O⟩ := hrel
        by_cases hin : i < k
        · have hb2 : (i : Int) < (k : Int) := by omega
          have hx : i < l.length := by rw [← HN.out]; exact hin
          have HSS := Lib.hid (fun (w' : World) (L' : List Piece) (h : Own w w' L') => (RD.chg h.chg).at i hx)
          obtain ⟨g, off, rfl, -, -⟩ := HSS.out _ _ O
          have HS2 : Hid (∀ w' L', Own w w' L' → w'.cell? ⟨g, off + i * 2, none⟩ = some (.string ⟨l[i].1.toArray⟩) ∧ w'.cell? ⟨g, off + i * 2 + 1, none⟩ = some (.string ⟨l[i].2.toArray⟩)) := by
            intro w' L' h
            obtain ⟨g', off', e, d0, d1⟩ := HSS.out w' L' h
            simp only [Option.some.injEq, Addr.mk.injEq, and_true] at e
            obtain ⟨rfl, rfl⟩ := e
            exact ⟨d0, d1⟩
          have hsz := sumF_mem (List.getElem_mem hx)
          have hs0 := HSUM.out
          have z1 : l[i].1.length ≤ 1000000 := by omega
          obtain ⟨fn, fvl, hf⟩ : ∃ p r, l[i] = (p, r) := ⟨_, _, rfl⟩
          rw [hf] at HS2 z1
          simp only at HS2 z1
          clear hf hsz hs0 HSS hx
          obtain ⟨r, hr⟩ : ∃ r, getL x fn = r := ⟨_, rfl⟩
          have hr2 : getL y fn = r := by rw [← GG.out]; exact hr
          have hr3 := fun t (ht : smallL t = smallL fn) => (show getL x t = getL x fn from vals_name ht _).trans hr
          obtain ⟨n, hn⟩ : ∃ n, n = r.length := ⟨_, rfl⟩
          have hnl : r.length ≤ 1000000000 := by
            have h1 := valsL_len fn (fieldsL x)
            rw [show valsL fn (fieldsL x) = r from hr] at h1
            have := fieldsL_len x
            omega
          have G1 : Hid (∀ W' L', Own w W' L' → Calls Tryd.prog 17 #[.string ⟨x.toArray⟩, .string ⟨fn.toArray⟩] W' fun e w' => ∃ a c, e = .returned (.slice a n c) ∧ Own w w' (strs (.slice a n c) r :: L')) := fun W' L' h => by
            rw [hn]; exact getC_own h hm x fn (by omega) (by omega) hr
          have G2 : Hid (∀ W' L', Own w W' L' → Calls Tryd.prog 17 #[.string ⟨y.toArray⟩, .string ⟨fn.toArray⟩] W' fun e w' => ∃ a c, e = .returned (.slice a n c) ∧ Own w w' (strs (.slice a n c) r :: L')) := fun W' L' h => by
            rw [hn]; exact getC_own h hm y fn (by omega) (by omega) hr2
          have G3 : Hid (∀ W' L' t, Own w W' L' → smallL t = smallL fn → Calls Tryd.prog 17 #[.string ⟨x.toArray⟩, .string ⟨t.toArray⟩] W' fun e w' => ∃ a c, e = .returned (.slice a n c) ∧ Own w w' (strs (.slice a n c) r :: L')) := fun W' L' t h ht => by
            rw [hn]; exact getC_own h hm x t (by omega) (by have := same_len ht; omega) (hr3 t ht)
          have SM : Hid (∀ W' L' a1 c1 a2 c2, Own w W' (strs (.slice a2 n c2) r :: strs (.slice a1 n c1) r :: L') → Calls Tryd.prog 21 #[.slice a1 n c1, .slice a2 n c2] W' fun e w' => e = .returned (.bool true) ∧ Own w w' L') := fun W' L' a1 c1 a2 c2 h => by
            refine (same_any _ _ _ r r _ _ (h.pick 1).strsR h.strsR hnl true (by simp)).mono ?_
            rintro e w' ⟨rfl, j, rfl⟩
            exact ⟨rfl, (h.drewN j).drop.drop⟩
          have OT := Lib.hid (fun (W' : World) (L' : List Piece) (h : Own w W' L') => other_own h fn (by omega) wh)
          clear hr hr2 hr3 hn hnl GG
          go_upto_region 17 with fail
          have O := O.drew
          have K0 := Lib.hid (HS2.out _ _ O)
          go_region_held3 (fun w' => w'.cell? ⟨g, off + i * 2, none⟩ = some (.string ⟨fn.toArray⟩) ∧ w'.cell? ⟨g, off + i * 2 + 1, none⟩ = some (.string ⟨fvl.toArray⟩))
            (first | with_reducible exact K0.out | exact K0.out | exact (HS2.out _ _ O1) | exact (HS2.out _ _ O2) | exact (HS2.out _ _ O3) | exact (HS2.out _ _ O4) | exact (HS2.out _ _ O5) | exact (HS2.out _ _ O6) | exact (HS2.out _ _ O7))
            (first
              | (go_at_call 17; (with_reducible refine (G1.out _ _ O).mono ?_); rintro e1 ws ⟨a1, cp1, rfl, O1⟩)
              | (go_at_call 17; (with_reducible refine (G2.out _ _ O1).mono ?_); rintro e1 ws ⟨a2, cp2, rfl, O2⟩)
              | (go_at_call 21; (with_reducible refine (SM.out _ _ _ _ _ _ O2).mono ?_); rintro e1 ws ⟨rfl, O3⟩)
              | (go_at_call 30; (with_reducible refine (OT.out _ _ O3).mono ?_); rintro e1 ws ⟨t, rfl, O4, ht⟩)
              | (go_at_call 17; (with_reducible refine (G3.out _ _ t O4 ht).mono ?_); rintro e1 ws ⟨a5, cp5, rfl, O5⟩)
              | (go_at_call 17; (with_reducible refine (G1.out _ _ O5).mono ?_); rintro e1 ws ⟨a6, cp6, rfl, O6⟩)
              | (go_at_call 21; (with_reducible refine (SM.out _ _ _ _ _ _ O6).mono ?_); rintro e1 ws ⟨rfl, O7⟩))
          go_wp2_with fail
          go_roundw
          case rel => exact ⟨i + 1, by go_num, by omega, O7⟩
          case measure => simp [intOf]; omega
        · obtain rfl : i = k := by omega
          have hb2 : ¬ (i : Int) < (i : Int) := by omega
          go_wp2_with fail
          refine (PX.out _ O).mono ?_
          clear O
          rintro e w4 ⟨rfl, O⟩
          go_wp2_with fail
          refine (PY.out _ O).mono ?_
          clear O
          rintro e w5 ⟨rfl, O⟩
          go_wp2_with fail
          refine (HX.out _ O).mono ?_
          clear O
          rintro e w6 ⟨rfl, O⟩
          go_wp2_with fail
          refine (HY.out _ O).mono ?_
          clear O
          rintro e w7 ⟨rfl, O⟩
          cases qb
          · have hq4 : qe = 4 := HQE.out
            subst hq4
            clear GL GN HQE HQB HML
            go_wp2_with fail
            refine (PX.out _ O).mono ?_
            clear O
            rintro e w8 ⟨rfl, O⟩
            go_wp2_with fail
            refine (PY.out _ O).mono ?_
            clear O
            rintro e w9 ⟨rfl, O⟩
            go_wp2
            go_ret
            exact ⟨rfl, O.below⟩
          have hq0 : qe = 0 := HQE.out
          subst hq0
          obtain ⟨T1, T2⟩ := GL.out rfl
          obtain ⟨lk, hlk⟩ : ∃ b, isN tlsN (qn, qv) = b := ⟨_, rfl⟩
          rw [hlk] at T1 T2
          have TT1 := Lib.hid T1
          have TT2 := Lib.hid T2
          have LK := like_own O qn tlsN (by omega) (by decide)
          rw [show (smallL qn == smallL tlsN) = isN tlsN (qn, qv) from rfl, hlk] at LK
          have c0 := O.cell 0
          clear GL HQE HQB HML T1 T2 hlk
          go_wp2_with fail
          refine LK.mono ?_
          clear O LK c0
          rintro e w8 ⟨rfl, O⟩
          cases lk
          · obtain ⟨t1, t2⟩ := TT2.out rfl
            have QA := Lib.hid (fun (W' : World) (h : Own w W' [box B #[.string ⟨qn.toArray⟩, .string ⟨qv.toArray⟩] 29]) => plain_own h hm (x ++ (ml ++ [13, 10])) (by simp; omega) t1)
            have QB := Lib.hid (fun (W' : World) (h : Own w W' [box B #[.string ⟨qn.toArray⟩, .string ⟨qv.toArray⟩] 29]) => plain_own h hm (ml ++ 13 :: 10 :: x) (by simp; omega) t2)
            clear t1 t2 TT1 TT2
            go_wp2_with fail
            refine (QA.out _ O).mono ?_
            clear O
            rintro e w9 ⟨rfl, O⟩
            go_wp2_with fail
            refine (PX.out _ O).mono ?_
            clear O
            rintro e w10 ⟨rfl, O⟩
            go_wp2_with fail
            refine (QB.out _ O).mono ?_
            clear O
            rintro e w11 ⟨rfl, O⟩
            go_wp2_with fail
            refine (PX.out _ O).mono ?_
            clear O
            rintro e w12 ⟨rfl, O⟩
            go_wp2
            go_ret
            exact ⟨rfl, O.below⟩
          · obtain ⟨t1, t2, t3⟩ := TT1.out rfl
            obtain ⟨px, hpx⟩ : ∃ b, plainB (x ++ (ml ++ [13, 10])) = b := ⟨_, rfl⟩
            rw [hpx] at t1
            obtain ⟨no, hno⟩ : ∃ b, (smallL qv == smallL noN) = b := ⟨_, rfl⟩
            rw [hno] at t3
            have QA := Lib.hid (fun (W' : World) (h : Own w W' [box B #[.string ⟨qn.toArray⟩, .string ⟨qv.toArray⟩] 29]) => plain_own h hm (x ++ (ml ++ [13, 10])) (by simp; omega) hpx)
            have QH := Lib.hid (fun (W' : World) (h : Own w W' [box B #[.string ⟨qn.toArray⟩, .string ⟨qv.toArray⟩] 29]) => hops_own h hm (x ++ (ml ++ [13, 10])) (by simp; omega) t2)
            have QM := Lib.hid (fun (W' : World) (h : Own w W' [box B #[.string ⟨qn.toArray⟩, .string ⟨qv.toArray⟩] 29]) => plain_own h hm (ml ++ [13, 10]) (by simp; omega) t3)
            have QL : Hid (∀ W' : World, Own w W' [box B #[.string ⟨qn.toArray⟩, .string ⟨qv.toArray⟩] 29] → Calls Tryd.prog 15 #[.string ⟨qv.toArray⟩, .string ⟨#[78, 111]⟩] W' fun e w' => e = .returned (.bool no) ∧ Own w w' [box B #[.string ⟨qn.toArray⟩, .string ⟨qv.toArray⟩] 29]) := fun W' h => by
              have := like_own h qv noN (by omega) (by decide)
              rw [hno] at this
              exact this
            have HSS : Hid (∀ w', Own w w' [box B #[.string ⟨qn.toArray⟩, .string ⟨qv.toArray⟩] 29] → w'.cell? ⟨B, 0, none⟩ = some (.string ⟨qn.toArray⟩) ∧ w'.cell? ⟨B, 1, none⟩ = some (.string ⟨qv.toArray⟩)) := fun w' h => ⟨h.cell 0, h.cell 1⟩
            have hpp : pa = false ∨ pa = true ∧ px = false := by cases pa <;> simp_all
            clear t1 t2 t3 hpx hno TT1 TT2
            have q1 : ¬ 9223372036854775807 < x.length + ml.length := by omega
            have q2 : ¬ 9223372036854775807 < x.length + ml.length + 2 := by omega
            have q3 : ¬ 9223372036854775807 < ml.length + 2 := by omega
            -- R22
            by_cases hz : i = 0
            · have hpa : pa = false := GN.out hz
              subst hpa
              have hi0 : ¬ (0 : Int) < (i : Int) := by omega
              have hd1 : decide ((0 : Int) < (i : Int)) = false := decide_eq_false (by omega)
              have hd2 : decide (0 < i) = false := decide_eq_false (by omega)
              clear hz hpp GN
              go_upto_region 22 with fail
              have O := O.drew
              have HT := HSS.out _ O
              refine (wpIn_wide (n := 3)).1 ?_
              refine wpIn_region_any (by kernel_rfl) ?_
              change wpAnyIn _ _ _ _ _ _ _ _ _ (World.drew _)
              (try clear RD); (try clear HN); (try clear HSUM); (try clear hNl); (try clear n1); (try clear n2); (try clear zn); (try clear zv); (try clear zm); (try clear hx9); (try clear hy9); (try clear PY); (try clear HY); (try clear hk); (try clear hlt); (try clear hb1); (try clear hi); (try clear hin); (try clear hb2); (try clear GG)
              refine AnyS.any (S := fun w' => w'.cell? ⟨B, 0, none⟩ = some (.string ⟨qn.toArray⟩) ∧ w'.cell? ⟨B, 1, none⟩ = some (.string ⟨qv.toArray⟩)) ?_
              refine AnyS.on (i := 0) (.string ⟨(x).toArray⟩) rfl (by kernel_rfl) (by kernel_rfl) (by kernel_rfl) (fun _ _ _ h => h) (by kernel_rfl) (fun x hx => by obtain ⟨g0, g1⟩ := hx; go_simp; done) (fun _ => rfl) HT ?_
              try simp only [Act.put, List.setIfInBounds_toArray, List.set_cons_succ, List.set_cons_zero]
              refine AnyS.call (i := 1) (by kernel_rfl) rfl (by kernel_rfl) (by go_simp; done) (PX.out _ O) ?_
              clear O HT
              intro ws O
              have HT := HSS.out _ O
              refine And.intro HT ?_
              try simp only [Act.put, List.setIfInBounds_toArray, List.set_cons_succ, List.set_cons_zero]
              refine AnyS.on (i := 2) (.bool false) rfl (by kernel_rfl) (by kernel_rfl) (by kernel_rfl) (fun _ _ _ h => h) (by kernel_rfl) (fun x hx => by obtain ⟨g0, g1⟩ := hx; go_simp; done) (fun _ => rfl) HT ?_
              try simp only [Act.put, List.setIfInBounds_toArray, List.set_cons_succ, List.set_cons_zero]
              refine AnyS.off (i := 3) rfl (by kernel_rfl) (by kernel_rfl) (by kernel_rfl) (fun _ _ _ h => h) (by kernel_rfl) (fun _ => rfl) HT ?_
              try simp only [Act.put, List.setIfInBounds_toArray, List.set_cons_succ, List.set_cons_zero]
              refine AnyS.off (i := 4) rfl (by kernel_rfl) (by kernel_rfl) (by kernel_rfl) (fun _ _ _ h => h) (by kernel_rfl) (fun _ => rfl) HT ?_
              try simp only [Act.put, List.setIfInBounds_toArray, List.set_cons_succ, List.set_cons_zero]
              refine AnyS.off (i := 5) rfl (by kernel_rfl) (by kernel_rfl) (by kernel_rfl) (fun _ _ _ h => h) (by kernel_rfl) (fun _ => rfl) HT ?_
              try simp only [Act.put, List.setIfInBounds_toArray, List.set_cons_succ, List.set_cons_zero]
              refine AnyS.off (i := 6) rfl (by kernel_rfl) (by kernel_rfl) (by kernel_rfl) (fun _ _ _ h => h) (by kernel_rfl) (fun _ => rfl) HT ?_
              try simp only [Act.put, List.setIfInBounds_toArray, List.set_cons_succ, List.set_cons_zero]
              refine AnyS.skip (i := 7) (by kernel_rfl) rfl (by kernel_rfl) HT ?_
              try simp only [Act.put, List.setIfInBounds_toArray, List.set_cons_succ, List.set_cons_zero]
              refine AnyS.on (i := 8) (.bool false) rfl (by kernel_rfl) (by kernel_rfl) (by kernel_rfl) (fun _ _ _ h => h) (by kernel_rfl) (fun x hx => by obtain ⟨g0, g1⟩ := hx; go_simp; done) (fun _ => rfl) HT ?_
              try simp only [Act.put, List.setIfInBounds_toArray, List.set_cons_succ, List.set_cons_zero]
              refine AnyS.on (i := 9) (.bool true) rfl (by kernel_rfl) (by kernel_rfl) (by kernel_rfl) (fun _ _ _ h => h) (by kernel_rfl) (fun x hx => by obtain ⟨g0, g1⟩ := hx; go_simp; done) (fun _ => rfl) HT ?_
              try simp only [Act.put, List.setIfInBounds_toArray, List.set_cons_succ, List.set_cons_zero]
              refine AnyS.on (i := 10) (.bool true) rfl (by kernel_rfl) (by kernel_rfl) (by kernel_rfl) (fun _ _ _ h => h) (by kernel_rfl) (fun x hx => by obtain ⟨g0, g1⟩ := hx; go_simp; done) (fun _ => rfl) HT ?_
              try simp only [Act.put, List.setIfInBounds_toArray, List.set_cons_succ, List.set_cons_zero]
              refine AnyS.on (i := 11) (.string ⟨(x).toArray⟩) rfl (by kernel_rfl) (by kernel_rfl) (by kernel_rfl) (fun _ _ _ h => h) (by kernel_rfl) (fun x hx => by obtain ⟨g0, g1⟩ := hx; go_simp; done) (fun _ => rfl) HT ?_
              try simp only [Act.put, List.setIfInBounds_toArray, List.set_cons_succ, List.set_cons_zero]
              refine AnyS.on (i := 12) (.string ⟨(ml).toArray⟩) rfl (by kernel_rfl) (by kernel_rfl) (by kernel_rfl) (fun _ _ _ h => h) (by kernel_rfl) (fun x hx => by obtain ⟨g0, g1⟩ := hx; go_simp; done) (fun _ => rfl) HT ?_
              try simp only [Act.put, List.setIfInBounds_toArray, List.set_cons_succ, List.set_cons_zero]
              refine AnyS.on (i := 13) (.string ⟨(x ++ ml).toArray⟩) rfl (by kernel_rfl) (by kernel_rfl) (by kernel_rfl) (fun _ _ _ h => h) (by kernel_rfl) (fun x hx => by obtain ⟨g0, g1⟩ := hx; go_simp; done) (fun _ => rfl) HT ?_
              try simp only [Act.put, List.setIfInBounds_toArray, List.set_cons_succ, List.set_cons_zero]
              refine AnyS.on (i := 14) (.string ⟨(x ++ (ml ++ [13, 10])).toArray⟩) rfl (by kernel_rfl) (by kernel_rfl) (by kernel_rfl) (fun _ _ _ h => h) (by kernel_rfl) (fun x hx => by obtain ⟨g0, g1⟩ := hx; go_simp; done) (fun _ => rfl) HT ?_
              try simp only [Act.put, List.setIfInBounds_toArray, List.set_cons_succ, List.set_cons_zero]
              refine AnyS.on (i := 16) (.string ⟨(x).toArray⟩) rfl (by kernel_rfl) (by kernel_rfl) (by kernel_rfl) (fun _ _ _ h => h) (by kernel_rfl) (fun x hx => by obtain ⟨g0, g1⟩ := hx; go_simp; done) (fun _ => rfl) HT ?_
              try simp only [Act.put, List.setIfInBounds_toArray, List.set_cons_succ, List.set_cons_zero]
              refine AnyS.call (i := 15) (by kernel_rfl) rfl (by kernel_rfl) (by go_simp; done) (QH.out _ O) ?_
              clear O HT
              intro ws O
              have HT := HSS.out _ O
              refine And.intro HT ?_
              try simp only [Act.put, List.setIfInBounds_toArray, List.set_cons_succ, List.set_cons_zero]
              refine AnyS.call (i := 17) (by kernel_rfl) rfl (by kernel_rfl) (by go_simp; done) (HX.out _ O) ?_
              clear O HT
              intro ws O
              have HT := HSS.out _ O
              refine And.intro HT ?_
              try simp only [Act.put, List.setIfInBounds_toArray, List.set_cons_succ, List.set_cons_zero]
              refine AnyS.on (i := 18) (.bool true) rfl (by kernel_rfl) (by kernel_rfl) (by kernel_rfl) (fun _ _ _ h => h) (by kernel_rfl) (fun x hx => by obtain ⟨g0, g1⟩ := hx; go_simp; done) (fun _ => rfl) HT ?_
              try simp only [Act.put, List.setIfInBounds_toArray, List.set_cons_succ, List.set_cons_zero]
              refine AnyS.on (i := 19) (.bool true) rfl (by kernel_rfl) (by kernel_rfl) (by kernel_rfl) (fun _ _ _ h => h) (by kernel_rfl) (fun x hx => by obtain ⟨g0, g1⟩ := hx; go_simp; done) (fun _ => rfl) HT ?_
              try simp only [Act.put, List.setIfInBounds_toArray, List.set_cons_succ, List.set_cons_zero]
              refine AnyS.on (i := 20) (.bool true) rfl (by kernel_rfl) (by kernel_rfl) (by kernel_rfl) (fun _ _ _ h => h) (by kernel_rfl) (fun x hx => by obtain ⟨g0, g1⟩ := hx; go_simp; done) (fun _ => rfl) HT ?_
              try simp only [Act.put, List.setIfInBounds_toArray, List.set_cons_succ, List.set_cons_zero]
              refine AnyS.on (i := 21) (.slice a i cap) rfl (by kernel_rfl) (by kernel_rfl) (by kernel_rfl) (fun _ _ _ h => h) (by kernel_rfl) (fun x hx => by obtain ⟨g0, g1⟩ := hx; go_simp; done) (fun _ => rfl) HT ?_
              try simp only [Act.put, List.setIfInBounds_toArray, List.set_cons_succ, List.set_cons_zero]
              refine AnyS.on (i := 22) (.int .i64 (i : Int)) rfl (by kernel_rfl) (by kernel_rfl) (by kernel_rfl) (fun _ _ _ h => h) (by kernel_rfl) (fun x hx => by obtain ⟨g0, g1⟩ := hx; go_simp; done) (fun _ => rfl) HT ?_
              try simp only [Act.put, List.setIfInBounds_toArray, List.set_cons_succ, List.set_cons_zero]
              refine AnyS.on (i := 23) (.bool false) rfl (by kernel_rfl) (by kernel_rfl) (by kernel_rfl) (fun _ _ _ h => h) (by kernel_rfl) (fun x hx => by obtain ⟨g0, g1⟩ := hx; go_simp; done) (fun _ => rfl) HT ?_
              try simp only [Act.put, List.setIfInBounds_toArray, List.set_cons_succ, List.set_cons_zero]
              refine AnyS.on (i := 24) (.bool false) rfl (by kernel_rfl) (by kernel_rfl) (by kernel_rfl) (fun _ _ _ h => h) (by kernel_rfl) (fun x hx => by obtain ⟨g0, g1⟩ := hx; go_simp; done) (fun _ => rfl) HT ?_
              try simp only [Act.put, List.setIfInBounds_toArray, List.set_cons_succ, List.set_cons_zero]
              refine AnyS.on (i := 25) (.string ⟨(ml).toArray⟩) rfl (by kernel_rfl) (by kernel_rfl) (by kernel_rfl) (fun _ _ _ h => h) (by kernel_rfl) (fun x hx => by obtain ⟨g0, g1⟩ := hx; go_simp; done) (fun _ => rfl) HT ?_
              try simp only [Act.put, List.setIfInBounds_toArray, List.set_cons_succ, List.set_cons_zero]
              refine AnyS.on (i := 26) (.string ⟨(ml ++ [13, 10]).toArray⟩) rfl (by kernel_rfl) (by kernel_rfl) (by kernel_rfl) (fun _ _ _ h => h) (by kernel_rfl) (fun x hx => by obtain ⟨g0, g1⟩ := hx; go_simp; done) (fun _ => rfl) HT ?_
              try simp only [Act.put, List.setIfInBounds_toArray, List.set_cons_succ, List.set_cons_zero]
              refine AnyS.on (i := 28) (.pointer (some ⟨B, 1, none⟩)) rfl (by kernel_rfl) (by kernel_rfl) (by kernel_rfl) (fun _ _ _ h => h) (by kernel_rfl) (fun x hx => by obtain ⟨g0, g1⟩ := hx; go_simp; done) (fun _ => rfl) HT ?_
              try simp only [Act.put, List.setIfInBounds_toArray, List.set_cons_succ, List.set_cons_zero]
              refine AnyS.on (i := 29) (.string ⟨(qv).toArray⟩) rfl (by kernel_rfl) (by kernel_rfl) (by kernel_rfl) (fun _ _ _ h => h) (by kernel_rfl) (fun x hx => by obtain ⟨g0, g1⟩ := hx; go_simp; done) (fun _ => rfl) HT ?_
              try simp only [Act.put, List.setIfInBounds_toArray, List.set_cons_succ, List.set_cons_zero]
              refine AnyS.call (i := 27) (by kernel_rfl) rfl (by kernel_rfl) (by go_simp; done) (QM.out _ O) ?_
              clear O HT
              intro ws O
              have HT := HSS.out _ O
              refine And.intro HT ?_
              try simp only [Act.put, List.setIfInBounds_toArray, List.set_cons_succ, List.set_cons_zero]
              refine AnyS.call (i := 30) (by kernel_rfl) rfl (by kernel_rfl) (by go_simp; done) (QL.out _ O) ?_
              clear O HT
              intro ws O
              have HT := HSS.out _ O
              refine And.intro HT ?_
              try simp only [Act.put, List.setIfInBounds_toArray, List.set_cons_succ, List.set_cons_zero]
              refine AnyS.on (i := 31) (.bool true) rfl (by kernel_rfl) (by kernel_rfl) (by kernel_rfl) (fun _ _ _ h => h) (by kernel_rfl) (fun x hx => by obtain ⟨g0, g1⟩ := hx; go_simp; done) (fun _ => rfl) HT ?_
              try simp only [Act.put, List.setIfInBounds_toArray, List.set_cons_succ, List.set_cons_zero]
              refine AnyS.on (i := 32) (.bool true) rfl (by kernel_rfl) (by kernel_rfl) (by kernel_rfl) (fun _ _ _ h => h) (by kernel_rfl) (fun x hx => by obtain ⟨g0, g1⟩ := hx; go_simp; done) (fun _ => rfl) HT ?_
              try simp only [Act.put, List.setIfInBounds_toArray, List.set_cons_succ, List.set_cons_zero]
              refine AnyS.on (i := 33) (.bool true) rfl (by kernel_rfl) (by kernel_rfl) (by kernel_rfl) (fun _ _ _ h => h) (by kernel_rfl) (fun x hx => by obtain ⟨g0, g1⟩ := hx; go_simp; done) (fun _ => rfl) HT ?_
              simp only [Act.put, List.getElem_toArray, List.getElem_cons_succ, List.getElem_cons_zero, List.setIfInBounds_toArray, List.set_cons_succ, List.set_cons_zero]
              refine AnyS.on (i := 34) (.bool true) rfl (by kernel_rfl) (by kernel_rfl) (by kernel_rfl) (fun _ _ _ h => h) (by kernel_rfl) (fun x hx => by obtain ⟨g0, g1⟩ := hx; go_simp; done) (fun _ => rfl) HT ?_
              simp only [Act.put, List.getElem_toArray, List.getElem_cons_succ, List.getElem_cons_zero, List.setIfInBounds_toArray, List.set_cons_succ, List.set_cons_zero]
              refine AnyS.done (by kernel_rfl) ?_ _
              go_wp2
              go_ret
              exact ⟨rfl, O.below⟩
            have hi0 : (0 : Int) < (i : Int) := by omega
            have hd1 : decide ((0 : Int) < (i : Int)) = true := decide_eq_true (by omega)
            have hd2 : decide (0 < i) = true := decide_eq_true (by omega)
            clear hz GN
            rcases hpp with rfl | ⟨rfl, rfl⟩
            · go_upto_region 22 with fail
              have O := O.drew
              have HT := HSS.out _ O
              refine (wpIn_wide (n := 3)).1 ?_
              refine wpIn_region_any (by kernel_rfl) ?_
              change wpAnyIn _ _ _ _ _ _ _ _ _ (World.drew _)
              (try clear RD); (try clear HN); (try clear HSUM); (try clear hNl); (try clear n1); (try clear n2); (try clear zn); (try clear zv); (try clear zm); (try clear hx9); (try clear hy9); (try clear PY); (try clear HY); (try clear hk); (try clear hlt); (try clear hb1); (try clear hi); (try clear hin); (try clear hb2); (try clear GG)
              refine AnyS.any (S := fun w' => w'.cell? ⟨B, 0, none⟩ = some (.string ⟨qn.toArray⟩) ∧ w'.cell? ⟨B, 1, none⟩ = some (.string ⟨qv.toArray⟩)) ?_
              refine AnyS.on (i := 0) (.string ⟨(x).toArray⟩) rfl (by kernel_rfl) (by kernel_rfl) (by kernel_rfl) (fun _ _ _ h => h) (by kernel_rfl) (fun x hx => by obtain ⟨g0, g1⟩ := hx; go_simp; done) (fun _ => rfl) HT ?_
              try simp only [Act.put, List.setIfInBounds_toArray, List.set_cons_succ, List.set_cons_zero]
              refine AnyS.call (i := 1) (by kernel_rfl) rfl (by kernel_rfl) (by go_simp; done) (PX.out _ O) ?_
              clear O HT
              intro ws O
              have HT := HSS.out _ O
              refine And.intro HT ?_
              try simp only [Act.put, List.setIfInBounds_toArray, List.set_cons_succ, List.set_cons_zero]
              refine AnyS.on (i := 2) (.bool false) rfl (by kernel_rfl) (by kernel_rfl) (by kernel_rfl) (fun _ _ _ h => h) (by kernel_rfl) (fun x hx => by obtain ⟨g0, g1⟩ := hx; go_simp; done) (fun _ => rfl) HT ?_
              try simp only [Act.put, List.setIfInBounds_toArray, List.set_cons_succ, List.set_cons_zero]
              refine AnyS.off (i := 3) rfl (by kernel_rfl) (by kernel_rfl) (by kernel_rfl) (fun _ _ _ h => h) (by kernel_rfl) (fun _ => rfl) HT ?_
              try simp only [Act.put, List.setIfInBounds_toArray, List.set_cons_succ, List.set_cons_zero]
              refine AnyS.off (i := 4) rfl (by kernel_rfl) (by kernel_rfl) (by kernel_rfl) (fun _ _ _ h => h) (by kernel_rfl) (fun _ => rfl) HT ?_
              try simp only [Act.put, List.setIfInBounds_toArray, List.set_cons_succ, List.set_cons_zero]
              refine AnyS.off (i := 5) rfl (by kernel_rfl) (by kernel_rfl) (by kernel_rfl) (fun _ _ _ h => h) (by kernel_rfl) (fun _ => rfl) HT ?_
              try simp only [Act.put, List.setIfInBounds_toArray, List.set_cons_succ, List.set_cons_zero]
              refine AnyS.off (i := 6) rfl (by kernel_rfl) (by kernel_rfl) (by kernel_rfl) (fun _ _ _ h => h) (by kernel_rfl) (fun _ => rfl) HT ?_
              try simp only [Act.put, List.setIfInBounds_toArray, List.set_cons_succ, List.set_cons_zero]
              refine AnyS.skip (i := 7) (by kernel_rfl) rfl (by kernel_rfl) HT ?_
              try simp only [Act.put, List.setIfInBounds_toArray, List.set_cons_succ, List.set_cons_zero]
              refine AnyS.on (i := 8) (.bool false) rfl (by kernel_rfl) (by kernel_rfl) (by kernel_rfl) (fun _ _ _ h => h) (by kernel_rfl) (fun x hx => by obtain ⟨g0, g1⟩ := hx; go_simp; done) (fun _ => rfl) HT ?_
              try simp only [Act.put, List.setIfInBounds_toArray, List.set_cons_succ, List.set_cons_zero]
              refine AnyS.on (i := 9) (.bool true) rfl (by kernel_rfl) (by kernel_rfl) (by kernel_rfl) (fun _ _ _ h => h) (by kernel_rfl) (fun x hx => by obtain ⟨g0, g1⟩ := hx; go_simp; done) (fun _ => rfl) HT ?_
              try simp only [Act.put, List.setIfInBounds_toArray, List.set_cons_succ, List.set_cons_zero]
              refine AnyS.on (i := 10) (.bool true) rfl (by kernel_rfl) (by kernel_rfl) (by kernel_rfl) (fun _ _ _ h => h) (by kernel_rfl) (fun x hx => by obtain ⟨g0, g1⟩ := hx; go_simp; done) (fun _ => rfl) HT ?_
              try simp only [Act.put, List.setIfInBounds_toArray, List.set_cons_succ, List.set_cons_zero]
              refine AnyS.on (i := 11) (.string ⟨(x).toArray⟩) rfl (by kernel_rfl) (by kernel_rfl) (by kernel_rfl) (fun _ _ _ h => h) (by kernel_rfl) (fun x hx => by obtain ⟨g0, g1⟩ := hx; go_simp; done) (fun _ => rfl) HT ?_
              try simp only [Act.put, List.setIfInBounds_toArray, List.set_cons_succ, List.set_cons_zero]
              refine AnyS.on (i := 12) (.string ⟨(ml).toArray⟩) rfl (by kernel_rfl) (by kernel_rfl) (by kernel_rfl) (fun _ _ _ h => h) (by kernel_rfl) (fun x hx => by obtain ⟨g0, g1⟩ := hx; go_simp; done) (fun _ => rfl) HT ?_
              try simp only [Act.put, List.setIfInBounds_toArray, List.set_cons_succ, List.set_cons_zero]
              refine AnyS.on (i := 13) (.string ⟨(x ++ ml).toArray⟩) rfl (by kernel_rfl) (by kernel_rfl) (by kernel_rfl) (fun _ _ _ h => h) (by kernel_rfl) (fun x hx => by obtain ⟨g0, g1⟩ := hx; go_simp; done) (fun _ => rfl) HT ?_
              try simp only [Act.put, List.setIfInBounds_toArray, List.set_cons_succ, List.set_cons_zero]
              refine AnyS.on (i := 14) (.string ⟨(x ++ (ml ++ [13, 10])).toArray⟩) rfl (by kernel_rfl) (by kernel_rfl) (by kernel_rfl) (fun _ _ _ h => h) (by kernel_rfl) (fun x hx => by obtain ⟨g0, g1⟩ := hx; go_simp; done) (fun _ => rfl) HT ?_
              try simp only [Act.put, List.setIfInBounds_toArray, List.set_cons_succ, List.set_cons_zero]
              refine AnyS.on (i := 16) (.string ⟨(x).toArray⟩) rfl (by kernel_rfl) (by kernel_rfl) (by kernel_rfl) (fun _ _ _ h => h) (by kernel_rfl) (fun x hx => by obtain ⟨g0, g1⟩ := hx; go_simp; done) (fun _ => rfl) HT ?_
              try simp only [Act.put, List.setIfInBounds_toArray, List.set_cons_succ, List.set_cons_zero]
              refine AnyS.call (i := 15) (by kernel_rfl) rfl (by kernel_rfl) (by go_simp; done) (QH.out _ O) ?_
              clear O HT
              intro ws O
              have HT := HSS.out _ O
              refine And.intro HT ?_
              try simp only [Act.put, List.setIfInBounds_toArray, List.set_cons_succ, List.set_cons_zero]
              refine AnyS.call (i := 17) (by kernel_rfl) rfl (by kernel_rfl) (by go_simp; done) (HX.out _ O) ?_
              clear O HT
              intro ws O
              have HT := HSS.out _ O
              refine And.intro HT ?_
              try simp only [Act.put, List.setIfInBounds_toArray, List.set_cons_succ, List.set_cons_zero]
              refine AnyS.on (i := 18) (.bool true) rfl (by kernel_rfl) (by kernel_rfl) (by kernel_rfl) (fun _ _ _ h => h) (by kernel_rfl) (fun x hx => by obtain ⟨g0, g1⟩ := hx; go_simp; done) (fun _ => rfl) HT ?_
              try simp only [Act.put, List.setIfInBounds_toArray, List.set_cons_succ, List.set_cons_zero]
              refine AnyS.on (i := 19) (.bool true) rfl (by kernel_rfl) (by kernel_rfl) (by kernel_rfl) (fun _ _ _ h => h) (by kernel_rfl) (fun x hx => by obtain ⟨g0, g1⟩ := hx; go_simp; done) (fun _ => rfl) HT ?_
              try simp only [Act.put, List.setIfInBounds_toArray, List.set_cons_succ, List.set_cons_zero]
              refine AnyS.on (i := 20) (.bool true) rfl (by kernel_rfl) (by kernel_rfl) (by kernel_rfl) (fun _ _ _ h => h) (by kernel_rfl) (fun x hx => by obtain ⟨g0, g1⟩ := hx; go_simp; done) (fun _ => rfl) HT ?_
              try simp only [Act.put, List.setIfInBounds_toArray, List.set_cons_succ, List.set_cons_zero]
              refine AnyS.on (i := 21) (.slice a i cap) rfl (by kernel_rfl) (by kernel_rfl) (by kernel_rfl) (fun _ _ _ h => h) (by kernel_rfl) (fun x hx => by obtain ⟨g0, g1⟩ := hx; go_simp; done) (fun _ => rfl) HT ?_
              try simp only [Act.put, List.setIfInBounds_toArray, List.set_cons_succ, List.set_cons_zero]
              refine AnyS.on (i := 22) (.int .i64 (i : Int)) rfl (by kernel_rfl) (by kernel_rfl) (by kernel_rfl) (fun _ _ _ h => h) (by kernel_rfl) (fun x hx => by obtain ⟨g0, g1⟩ := hx; go_simp; done) (fun _ => rfl) HT ?_
              try simp only [Act.put, List.setIfInBounds_toArray, List.set_cons_succ, List.set_cons_zero]
              refine AnyS.on (i := 23) (.bool true) rfl (by kernel_rfl) (by kernel_rfl) (by kernel_rfl) (fun _ _ _ h => h) (by kernel_rfl) (fun x hx => by obtain ⟨g0, g1⟩ := hx; go_simp; done) (fun _ => rfl) HT ?_
              try simp only [Act.put, List.setIfInBounds_toArray, List.set_cons_succ, List.set_cons_zero]
              refine AnyS.on (i := 24) (.bool true) rfl (by kernel_rfl) (by kernel_rfl) (by kernel_rfl) (fun _ _ _ h => h) (by kernel_rfl) (fun x hx => by obtain ⟨g0, g1⟩ := hx; go_simp; done) (fun _ => rfl) HT ?_
              try simp only [Act.put, List.setIfInBounds_toArray, List.set_cons_succ, List.set_cons_zero]
              refine AnyS.off (i := 25) rfl (by kernel_rfl) (by kernel_rfl) (by kernel_rfl) (fun _ _ _ h => h) (by kernel_rfl) (fun _ => rfl) HT ?_
              try simp only [Act.put, List.setIfInBounds_toArray, List.set_cons_succ, List.set_cons_zero]
              refine AnyS.off (i := 26) rfl (by kernel_rfl) (by kernel_rfl) (by kernel_rfl) (fun _ _ _ h => h) (by kernel_rfl) (fun _ => rfl) HT ?_
              try simp only [Act.put, List.setIfInBounds_toArray, List.set_cons_succ, List.set_cons_zero]
              refine AnyS.off (i := 28) rfl (by kernel_rfl) (by kernel_rfl) (by kernel_rfl) (fun _ _ _ h => h) (by kernel_rfl) (fun _ => rfl) HT ?_
              try simp only [Act.put, List.setIfInBounds_toArray, List.set_cons_succ, List.set_cons_zero]
              refine AnyS.off (i := 29) rfl (by kernel_rfl) (by kernel_rfl) (by kernel_rfl) (fun _ _ _ h => h) (by kernel_rfl) (fun _ => rfl) HT ?_
              try simp only [Act.put, List.setIfInBounds_toArray, List.set_cons_succ, List.set_cons_zero]
              refine AnyS.skip (i := 27) (by kernel_rfl) rfl (by kernel_rfl) HT ?_
              try simp only [Act.put, List.setIfInBounds_toArray, List.set_cons_succ, List.set_cons_zero]
              refine AnyS.skip (i := 30) (by kernel_rfl) rfl (by kernel_rfl) HT ?_
              try simp only [Act.put, List.setIfInBounds_toArray, List.set_cons_succ, List.set_cons_zero]
              refine AnyS.off (i := 31) rfl (by kernel_rfl) (by kernel_rfl) (by kernel_rfl) (fun _ _ _ h => h) (by kernel_rfl) (fun _ => rfl) HT ?_
              try simp only [Act.put, List.setIfInBounds_toArray, List.set_cons_succ, List.set_cons_zero]
              refine AnyS.on (i := 32) (.bool true) rfl (by kernel_rfl) (by kernel_rfl) (by kernel_rfl) (fun _ _ _ h => h) (by kernel_rfl) (fun x hx => by obtain ⟨g0, g1⟩ := hx; go_simp; done) (fun _ => rfl) HT ?_
              try simp only [Act.put, List.setIfInBounds_toArray, List.set_cons_succ, List.set_cons_zero]
              refine AnyS.on (i := 33) (.bool true) rfl (by kernel_rfl) (by kernel_rfl) (by kernel_rfl) (fun _ _ _ h => h) (by kernel_rfl) (fun x hx => by obtain ⟨g0, g1⟩ := hx; go_simp; done) (fun _ => rfl) HT ?_
              simp only [Act.put, List.getElem_toArray, List.getElem_cons_succ, List.getElem_cons_zero, List.setIfInBounds_toArray, List.set_cons_succ, List.set_cons_zero]
              refine AnyS.on (i := 34) (.bool true) rfl (by kernel_rfl) (by kernel_rfl) (by kernel_rfl) (fun _ _ _ h => h) (by kernel_rfl) (fun x hx => by obtain ⟨g0, g1⟩ := hx; go_simp; done) (fun _ => rfl) HT ?_
              simp only [Act.put, List.getElem_toArray, List.getElem_cons_succ, List.getElem_cons_zero, List.setIfInBounds_toArray, List.set_cons_succ, List.set_cons_zero]
              refine AnyS.done (by kernel_rfl) ?_ _
              go_wp2
              go_ret
              exact ⟨rfl, O.below⟩
            · go_upto_region 22 with fail
              have O := O.drew
              have HT := HSS.out _ O
              refine (wpIn_wide (n := 3)).1 ?_
              refine wpIn_region_any (by kernel_rfl) ?_
              change wpAnyIn _ _ _ _ _ _ _ _ _ (World.drew _)
              (try clear RD); (try clear HN); (try clear HSUM); (try clear hNl); (try clear n1); (try clear n2); (try clear zn); (try clear zv); (try clear zm); (try clear hx9); (try clear hy9); (try clear PY); (try clear HY); (try clear hk); (try clear hlt); (try clear hb1); (try clear hi); (try clear hin); (try clear hb2); (try clear GG)
              refine AnyS.any (S := fun w' => w'.cell? ⟨B, 0, none⟩ = some (.string ⟨qn.toArray⟩) ∧ w'.cell? ⟨B, 1, none⟩ = some (.string ⟨qv.toArray⟩)) ?_
              refine AnyS.on (i := 0) (.string ⟨(x).toArray⟩) rfl (by kernel_rfl) (by kernel_rfl) (by kernel_rfl) (fun _ _ _ h => h) (by kernel_rfl) (fun x hx => by obtain ⟨g0, g1⟩ := hx; go_simp; done) (fun _ => rfl) HT ?_
              try simp only [Act.put, List.setIfInBounds_toArray, List.set_cons_succ, List.set_cons_zero]
              refine AnyS.call (i := 1) (by kernel_rfl) rfl (by kernel_rfl) (by go_simp; done) (PX.out _ O) ?_
              clear O HT
              intro ws O
              have HT := HSS.out _ O
              refine And.intro HT ?_
              try simp only [Act.put, List.setIfInBounds_toArray, List.set_cons_succ, List.set_cons_zero]
              refine AnyS.on (i := 2) (.bool true) rfl (by kernel_rfl) (by kernel_rfl) (by kernel_rfl) (fun _ _ _ h => h) (by kernel_rfl) (fun x hx => by obtain ⟨g0, g1⟩ := hx; go_simp; done) (fun _ => rfl) HT ?_
              try simp only [Act.put, List.setIfInBounds_toArray, List.set_cons_succ, List.set_cons_zero]
              refine AnyS.on (i := 3) (.string ⟨(x).toArray⟩) rfl (by kernel_rfl) (by kernel_rfl) (by kernel_rfl) (fun _ _ _ h => h) (by kernel_rfl) (fun x hx => by obtain ⟨g0, g1⟩ := hx; go_simp; done) (fun _ => rfl) HT ?_
              try simp only [Act.put, List.setIfInBounds_toArray, List.set_cons_succ, List.set_cons_zero]
              refine AnyS.on (i := 4) (.string ⟨(ml).toArray⟩) rfl (by kernel_rfl) (by kernel_rfl) (by kernel_rfl) (fun _ _ _ h => h) (by kernel_rfl) (fun x hx => by obtain ⟨g0, g1⟩ := hx; go_simp; done) (fun _ => rfl) HT ?_
              try simp only [Act.put, List.setIfInBounds_toArray, List.set_cons_succ, List.set_cons_zero]
              refine AnyS.on (i := 5) (.string ⟨(x ++ ml).toArray⟩) rfl (by kernel_rfl) (by kernel_rfl) (by kernel_rfl) (fun _ _ _ h => h) (by kernel_rfl) (fun x hx => by obtain ⟨g0, g1⟩ := hx; go_simp; done) (fun _ => rfl) HT ?_
              try simp only [Act.put, List.setIfInBounds_toArray, List.set_cons_succ, List.set_cons_zero]
              refine AnyS.on (i := 6) (.string ⟨(x ++ (ml ++ [13, 10])).toArray⟩) rfl (by kernel_rfl) (by kernel_rfl) (by kernel_rfl) (fun _ _ _ h => h) (by kernel_rfl) (fun x hx => by obtain ⟨g0, g1⟩ := hx; go_simp; done) (fun _ => rfl) HT ?_
              try simp only [Act.put, List.setIfInBounds_toArray, List.set_cons_succ, List.set_cons_zero]
              refine AnyS.call (i := 7) (by kernel_rfl) rfl (by kernel_rfl) (by go_simp; done) (QA.out _ O) ?_
              clear O HT
              intro ws O
              have HT := HSS.out _ O
              refine And.intro HT ?_
              try simp only [Act.put, List.setIfInBounds_toArray, List.set_cons_succ, List.set_cons_zero]
              refine AnyS.on (i := 8) (.bool false) rfl (by kernel_rfl) (by kernel_rfl) (by kernel_rfl) (fun _ _ _ h => h) (by kernel_rfl) (fun x hx => by obtain ⟨g0, g1⟩ := hx; go_simp; done) (fun _ => rfl) HT ?_
              try simp only [Act.put, List.setIfInBounds_toArray, List.set_cons_succ, List.set_cons_zero]
              refine AnyS.on (i := 9) (.bool true) rfl (by kernel_rfl) (by kernel_rfl) (by kernel_rfl) (fun _ _ _ h => h) (by kernel_rfl) (fun x hx => by obtain ⟨g0, g1⟩ := hx; go_simp; done) (fun _ => rfl) HT ?_
              try simp only [Act.put, List.setIfInBounds_toArray, List.set_cons_succ, List.set_cons_zero]
              refine AnyS.on (i := 10) (.bool true) rfl (by kernel_rfl) (by kernel_rfl) (by kernel_rfl) (fun _ _ _ h => h) (by kernel_rfl) (fun x hx => by obtain ⟨g0, g1⟩ := hx; go_simp; done) (fun _ => rfl) HT ?_
              try simp only [Act.put, List.setIfInBounds_toArray, List.set_cons_succ, List.set_cons_zero]
              refine AnyS.on (i := 11) (.string ⟨(x).toArray⟩) rfl (by kernel_rfl) (by kernel_rfl) (by kernel_rfl) (fun _ _ _ h => h) (by kernel_rfl) (fun x hx => by obtain ⟨g0, g1⟩ := hx; go_simp; done) (fun _ => rfl) HT ?_
              try simp only [Act.put, List.setIfInBounds_toArray, List.set_cons_succ, List.set_cons_zero]
              refine AnyS.on (i := 12) (.string ⟨(ml).toArray⟩) rfl (by kernel_rfl) (by kernel_rfl) (by kernel_rfl) (fun _ _ _ h => h) (by kernel_rfl) (fun x hx => by obtain ⟨g0, g1⟩ := hx; go_simp; done) (fun _ => rfl) HT ?_
              try simp only [Act.put, List.setIfInBounds_toArray, List.set_cons_succ, List.set_cons_zero]
              refine AnyS.on (i := 13) (.string ⟨(x ++ ml).toArray⟩) rfl (by kernel_rfl) (by kernel_rfl) (by kernel_rfl) (fun _ _ _ h => h) (by kernel_rfl) (fun x hx => by obtain ⟨g0, g1⟩ := hx; go_simp; done) (fun _ => rfl) HT ?_
              try simp only [Act.put, List.setIfInBounds_toArray, List.set_cons_succ, List.set_cons_zero]
              refine AnyS.on (i := 14) (.string ⟨(x ++ (ml ++ [13, 10])).toArray⟩) rfl (by kernel_rfl) (by kernel_rfl) (by kernel_rfl) (fun _ _ _ h => h) (by kernel_rfl) (fun x hx => by obtain ⟨g0, g1⟩ := hx; go_simp; done) (fun _ => rfl) HT ?_
              try simp only [Act.put, List.setIfInBounds_toArray, List.set_cons_succ, List.set_cons_zero]
              refine AnyS.on (i := 16) (.string ⟨(x).toArray⟩) rfl (by kernel_rfl) (by kernel_rfl) (by kernel_rfl) (fun _ _ _ h => h) (by kernel_rfl) (fun x hx => by obtain ⟨g0, g1⟩ := hx; go_simp; done) (fun _ => rfl) HT ?_
              try simp only [Act.put, List.setIfInBounds_toArray, List.set_cons_succ, List.set_cons_zero]
              refine AnyS.call (i := 15) (by kernel_rfl) rfl (by kernel_rfl) (by go_simp; done) (QH.out _ O) ?_
              clear O HT
              intro ws O
              have HT := HSS.out _ O
              refine And.intro HT ?_
              try simp only [Act.put, List.setIfInBounds_toArray, List.set_cons_succ, List.set_cons_zero]
              refine AnyS.call (i := 17) (by kernel_rfl) rfl (by kernel_rfl) (by go_simp; done) (HX.out _ O) ?_
              clear O HT
              intro ws O
              have HT := HSS.out _ O
              refine And.intro HT ?_
              try simp only [Act.put, List.setIfInBounds_toArray, List.set_cons_succ, List.set_cons_zero]
              refine AnyS.on (i := 18) (.bool true) rfl (by kernel_rfl) (by kernel_rfl) (by kernel_rfl) (fun _ _ _ h => h) (by kernel_rfl) (fun x hx => by obtain ⟨g0, g1⟩ := hx; go_simp; done) (fun _ => rfl) HT ?_
              try simp only [Act.put, List.setIfInBounds_toArray, List.set_cons_succ, List.set_cons_zero]
              refine AnyS.on (i := 19) (.bool true) rfl (by kernel_rfl) (by kernel_rfl) (by kernel_rfl) (fun _ _ _ h => h) (by kernel_rfl) (fun x hx => by obtain ⟨g0, g1⟩ := hx; go_simp; done) (fun _ => rfl) HT ?_
              try simp only [Act.put, List.setIfInBounds_toArray, List.set_cons_succ, List.set_cons_zero]
              refine AnyS.on (i := 20) (.bool true) rfl (by kernel_rfl) (by kernel_rfl) (by kernel_rfl) (fun _ _ _ h => h) (by kernel_rfl) (fun x hx => by obtain ⟨g0, g1⟩ := hx; go_simp; done) (fun _ => rfl) HT ?_
              try simp only [Act.put, List.setIfInBounds_toArray, List.set_cons_succ, List.set_cons_zero]
              refine AnyS.on (i := 21) (.slice a i cap) rfl (by kernel_rfl) (by kernel_rfl) (by kernel_rfl) (fun _ _ _ h => h) (by kernel_rfl) (fun x hx => by obtain ⟨g0, g1⟩ := hx; go_simp; done) (fun _ => rfl) HT ?_
              try simp only [Act.put, List.setIfInBounds_toArray, List.set_cons_succ, List.set_cons_zero]
              refine AnyS.on (i := 22) (.int .i64 (i : Int)) rfl (by kernel_rfl) (by kernel_rfl) (by kernel_rfl) (fun _ _ _ h => h) (by kernel_rfl) (fun x hx => by obtain ⟨g0, g1⟩ := hx; go_simp; done) (fun _ => rfl) HT ?_
              try simp only [Act.put, List.setIfInBounds_toArray, List.set_cons_succ, List.set_cons_zero]
              refine AnyS.on (i := 23) (.bool true) rfl (by kernel_rfl) (by kernel_rfl) (by kernel_rfl) (fun _ _ _ h => h) (by kernel_rfl) (fun x hx => by obtain ⟨g0, g1⟩ := hx; go_simp; done) (fun _ => rfl) HT ?_
              try simp only [Act.put, List.setIfInBounds_toArray, List.set_cons_succ, List.set_cons_zero]
              refine AnyS.on (i := 24) (.bool true) rfl (by kernel_rfl) (by kernel_rfl) (by kernel_rfl) (fun _ _ _ h => h) (by kernel_rfl) (fun x hx => by obtain ⟨g0, g1⟩ := hx; go_simp; done) (fun _ => rfl) HT ?_
              try simp only [Act.put, List.setIfInBounds_toArray, List.set_cons_succ, List.set_cons_zero]
              refine AnyS.off (i := 25) rfl (by kernel_rfl) (by kernel_rfl) (by kernel_rfl) (fun _ _ _ h => h) (by kernel_rfl) (fun _ => rfl) HT ?_
              try simp only [Act.put, List.setIfInBounds_toArray, List.set_cons_succ, List.set_cons_zero]
              refine AnyS.off (i := 26) rfl (by kernel_rfl) (by kernel_rfl) (by kernel_rfl) (fun _ _ _ h => h) (by kernel_rfl) (fun _ => rfl) HT ?_
              try simp only [Act.put, List.setIfInBounds_toArray, List.set_cons_succ, List.set_cons_zero]
              refine AnyS.off (i := 28) rfl (by kernel_rfl) (by kernel_rfl) (by kernel_rfl) (fun _ _ _ h => h) (by kernel_rfl) (fun _ => rfl) HT ?_
              try simp only [Act.put, List.setIfInBounds_toArray, List.set_cons_succ, List.set_cons_zero]
              refine AnyS.off (i := 29) rfl (by kernel_rfl) (by kernel_rfl) (by kernel_rfl) (fun _ _ _ h => h) (by kernel_rfl) (fun _ => rfl) HT ?_
              try simp only [Act.put, List.setIfInBounds_toArray, List.set_cons_succ, List.set_cons_zero]
              refine AnyS.skip (i := 27) (by kernel_rfl) rfl (by kernel_rfl) HT ?_
              try simp only [Act.put, List.setIfInBounds_toArray, List.set_cons_succ, List.set_cons_zero]
              refine AnyS.skip (i := 30) (by kernel_rfl) rfl (by kernel_rfl) HT ?_
              try simp only [Act.put, List.setIfInBounds_toArray, List.set_cons_succ, List.set_cons_zero]
              refine AnyS.off (i := 31) rfl (by kernel_rfl) (by kernel_rfl) (by kernel_rfl) (fun _ _ _ h => h) (by kernel_rfl) (fun _ => rfl) HT ?_
              try simp only [Act.put, List.setIfInBounds_toArray, List.set_cons_succ, List.set_cons_zero]
              refine AnyS.on (i := 32) (.bool true) rfl (by kernel_rfl) (by kernel_rfl) (by kernel_rfl) (fun _ _ _ h => h) (by kernel_rfl) (fun x hx => by obtain ⟨g0, g1⟩ := hx; go_simp; done) (fun _ => rfl) HT ?_
              try simp only [Act.put, List.setIfInBounds_toArray, List.set_cons_succ, List.set_cons_zero]
              refine AnyS.on (i := 33) (.bool true) rfl (by kernel_rfl) (by kernel_rfl) (by kernel_rfl) (fun _ _ _ h => h) (by kernel_rfl) (fun x hx => by obtain ⟨g0, g1⟩ := hx; go_simp; done) (fun _ => rfl) HT ?_
              simp only [Act.put, List.getElem_toArray, List.getElem_cons_succ, List.getElem_cons_zero, List.setIfInBounds_toArray, List.set_cons_succ, List.set_cons_zero]
              refine AnyS.on (i := 34) (.bool true) rfl (by kernel_rfl) (by kernel_rfl) (by kernel_rfl) (fun _ _ _ h => h) (by kernel_rfl) (fun x hx => by obtain ⟨g0, g1⟩ := hx; go_simp; done) (fun _ => rfl) HT ?_
              simp only [Act.put, List.getElem_toArray, List.getElem_cons_succ, List.getElem_cons_zero, List.setIfInBounds_toArray, List.set_cons_succ, List.set_cons_zero]
              refine AnyS.done (by kernel_rfl) ?_ _
              go_wp2
              go_ret
              exact ⟨rfl, O.below⟩
            -- END22
end Go.Proofs.YtnkcanhkdfckmaaDoor
