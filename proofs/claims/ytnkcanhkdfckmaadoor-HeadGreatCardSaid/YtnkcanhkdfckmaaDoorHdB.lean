/- head: tell. -/
import Derived.Test.YtnkcanhkdfckmaaDoorHdA
import Derived.Test.YtnkcanhkdfckmaaDoorRangeP
import Derived.Test.YtnkcanhkdfckmaaDoorPack
import Derived.Shelf.Strings.SlTrimAscii
import Derived.Test.YtnkcanhkdfckmaaDoorHeldIn
namespace Go.Proofs.YtnkcanhkdfckmaaDoor
set_option linter.all false
open Go.RowKit Go.Shelf
attribute [local go_sem] Oper.semAt_some

theorem roundIn_any {n m : Nat} {P : Program} {l : Nat} {f : FuncId} {tmps : Array Value} {assign body : Code} {w : World} {R : Ending → World → Prop} (h : RoundIn Fence.wide n P l f tmps assign body w R) : RoundIn Fence.wide m P l f tmps assign body w R :=
  ⟨h.1, fun c cs _ => h.2 c cs (room_wide _)⟩
def trimL (s : List UInt8) : List UInt8 := Lib.trimS s [32, 9]
theorem trim_own {w0 w : World} {L : List Piece} (O : Own w0 w L) (s : List UInt8) (hs : s.length ≤ 1000000000) :
    Calls Tryd.prog 36 #[.string ⟨s.toArray⟩, .string ⟨#[32, 9]⟩] w fun e w' => e = .returned (.string ⟨(trimL s).toArray⟩) ∧ Own w0 w' L := by
  refine (Any.strings_Trim_laid Tryd.lays160 (by kernel_rfl) ⟨s.toArray⟩ ⟨#[32, 9]⟩ w (by simp [ByteArray.size]; omega) (by decide) (ascii_of_all (by decide))).mono ?_
  rintro e w' ⟨rfl, hb⟩
  exact ⟨rfl, O.pure ⟨hb.os, hb.tape, hb.output, hb.size, fun k hk _ => hb.block k hk⟩⟩
theorem trim_chg {w : World} (s : List UInt8) (hs : s.length ≤ 1000000000) :
    Calls Tryd.prog 36 #[.string ⟨s.toArray⟩, .string ⟨#[32, 9]⟩] w fun e w' => e = .returned (.string ⟨(trimL s).toArray⟩) ∧ Chg [] w w' := by
  refine (trim_own (Own.start w) s hs).mono ?_
  rintro e w' ⟨h, O⟩
  exact ⟨h, O.chg⟩
def encF (f : Fd) : Array Value := #[fdV f]
theorem tell_none {W : World} {nb yb : Nat} (h0 : W.cell? ⟨nb, 0, none⟩ = some (.pointer none)) :
    Calls Tryd.prog 60 #[.pointer (some ⟨nb, 0, none⟩), .pointer (some ⟨yb, 0, none⟩)] W fun e W' => e = .returned (.bool true) ∧ Chg [] W W' := by
  go_enter Tryd.func60, Tryd.ntmps60
  go_wp2_with fail
  go_quiet (fail)
  go_wp2
  go_ret
  exact ⟨rfl, (Chg.refl [] W).drewN _⟩
def TellS (nb yb fb l : Nat) (nm vl : List UInt8) (W : World) : Prop :=
  W.cell? ⟨nb, 0, none⟩ = some (.pointer (some ⟨fb, 0, none⟩)) ∧ W.cell? ⟨yb, 0, none⟩ = some (.func (.yield l) #[] #[]) ∧ W.cell? ⟨fb, 0, none⟩ = some (.string ⟨nm.toArray⟩) ∧ W.cell? ⟨fb, 1, none⟩ = some (.string ⟨vl.toArray⟩)
theorem TellS.chg {nb yb fb l : Nat} {nm vl : List UInt8} {W W2 : World} (h : TellS nb yb fb l nm vl W) (c : Chg [] W W2) : TellS nb yb fb l nm vl W2 :=
  ⟨c.cell h.1 (by simp), c.cell h.2.1 (by simp), c.cell h.2.2.1 (by simp), c.cell h.2.2.2 (by simp)⟩
set_option maxRecDepth 100000 in
set_option maxHeartbeats 4000000 in
theorem tell_some {W : World} {nb yb fb l n : Nat} {nm vl : List UInt8} {R : Bool → World → Prop} (hT : TellS nb yb fb l nm vl W) (hv : vl.length ≤ 1000000000)
    (hY : ∀ W2, Chg [] W W2 → YieldAt Fence.wide n Tryd.prog l (encF (nm, trimL vl)) W2 fun e W' => ∃ b, e = .returned (.bool b) ∧ R b W') (hR : ∀ b W', R b W' → TellS nb yb fb l nm vl W') :
    Calls Tryd.prog 60 #[.pointer (some ⟨nb, 0, none⟩), .pointer (some ⟨yb, 0, none⟩)] W fun e W' => ∃ b, e = .returned (.bool b) ∧ R b W' := by
  refine (callsIn_wide (n := n + 1)).1 ?_
  refine callsIn_of_wp Tryd.func60 rfl trivial ?_
  simp only [Tryd.ntmps60, List.size_toArray, List.length_cons, List.length_nil, Nat.reduceAdd, Nat.reduceSub, Array.replicate_succ, Array.replicate_zero, List.push_toArray, List.append_toArray, List.nil_append, List.cons_append]
  simp only [encF, fdV] at hY
  have HY := Lib.hid hY
  have HRR := Lib.hid hR
  have TR := Lib.hid (fun w => trim_chg (w := w) vl hv)
  have HT : TellS nb yb fb l nm vl W.drew := hT
  clear hY hv hR hT
  gi_wp2_with fail
  refine wpIn_region_any (by kernel_rfl) ?_
  change wpAnyIn _ _ _ _ _ _ _ _ _ (World.drew _)
  refine AnyS.any (S := TellS nb yb fb l nm vl) ?_
  refine AnyS.take (i := 0) (.pointer (some ⟨fb, 0, none⟩)) rfl (by kernel_rfl) (by kernel_rfl) (by kernel_rfl) (fun _ _ _ h => h) ⟨fun _ x hx => (by obtain ⟨g0, g1, g2, g3⟩ := hx; go_simp; done), fun h => (nomatch (show true = false from h)), fun _ => rfl⟩ HT ?_
  change AnyS _ _ _ _ _ _ _ _ { tmps := #[.pointer (some ⟨nb, 0, none⟩), .pointer (some ⟨yb, 0, none⟩), .bool false, .pointer (some ⟨fb, 0, none⟩), undef, undef, undef, undef, undef, undef, undef, undef, undef, undef, undef, undef, undef, undef, undef], defers := [] } _
  refine AnyS.take (i := 1) (.bool false) rfl (by kernel_rfl) (by kernel_rfl) (by kernel_rfl) (fun _ _ _ h => h) ⟨fun _ x hx => (by obtain ⟨g0, g1, g2, g3⟩ := hx; go_simp; done), fun h => (nomatch (show true = false from h)), fun _ => rfl⟩ HT ?_
  change AnyS _ _ _ _ _ _ _ _ { tmps := #[.pointer (some ⟨nb, 0, none⟩), .pointer (some ⟨yb, 0, none⟩), .bool false, .pointer (some ⟨fb, 0, none⟩), .bool false, undef, undef, undef, undef, undef, undef, undef, undef, undef, undef, undef, undef, undef, undef], defers := [] } _
  refine AnyS.take (i := 2) (.bool false) rfl (by kernel_rfl) (by kernel_rfl) (by kernel_rfl) (fun _ _ _ h => h) ⟨fun _ x hx => (by obtain ⟨g0, g1, g2, g3⟩ := hx; go_simp; done), fun h => (nomatch (show true = false from h)), fun _ => rfl⟩ HT ?_
  change AnyS _ _ _ _ _ _ _ _ { tmps := #[.pointer (some ⟨nb, 0, none⟩), .pointer (some ⟨yb, 0, none⟩), .bool false, .pointer (some ⟨fb, 0, none⟩), .bool false, .bool false, undef, undef, undef, undef, undef, undef, undef, undef, undef, undef, undef, undef, undef], defers := [] } _
  refine AnyS.take (i := 3) (.func (.yield l) #[] #[]) rfl (by kernel_rfl) (by kernel_rfl) (by kernel_rfl) (fun _ _ _ h => h) ⟨fun _ x hx => (by obtain ⟨g0, g1, g2, g3⟩ := hx; go_simp; done), fun h => (nomatch (show true = false from h)), fun _ => rfl⟩ HT ?_
  change AnyS _ _ _ _ _ _ _ _ { tmps := #[.pointer (some ⟨nb, 0, none⟩), .pointer (some ⟨yb, 0, none⟩), .bool false, .pointer (some ⟨fb, 0, none⟩), .bool false, .bool false, .func (.yield l) #[] #[], undef, undef, undef, undef, undef, undef, undef, undef, undef, undef, undef, undef], defers := [] } _
  refine AnyS.take (i := 4) (.pointer (some ⟨fb, 0, none⟩)) rfl (by kernel_rfl) (by kernel_rfl) (by kernel_rfl) (fun _ _ _ h => h) ⟨fun _ x hx => (by obtain ⟨g0, g1, g2, g3⟩ := hx; go_simp; done), fun h => (nomatch (show true = false from h)), fun _ => rfl⟩ HT ?_
  change AnyS _ _ _ _ _ _ _ _ { tmps := #[.pointer (some ⟨nb, 0, none⟩), .pointer (some ⟨yb, 0, none⟩), .bool false, .pointer (some ⟨fb, 0, none⟩), .bool false, .bool false, .func (.yield l) #[] #[], .pointer (some ⟨fb, 0, none⟩), undef, undef, undef, undef, undef, undef, undef, undef, undef, undef, undef], defers := [] } _
  refine AnyS.take (i := 5) (.pointer (some ⟨fb, 0, none⟩)) rfl (by kernel_rfl) (by kernel_rfl) (by kernel_rfl) (fun _ _ _ h => h) ⟨fun _ x hx => (by obtain ⟨g0, g1, g2, g3⟩ := hx; go_simp; done), fun h => (nomatch (show true = false from h)), fun _ => rfl⟩ HT ?_
  change AnyS _ _ _ _ _ _ _ _ { tmps := #[.pointer (some ⟨nb, 0, none⟩), .pointer (some ⟨yb, 0, none⟩), .bool false, .pointer (some ⟨fb, 0, none⟩), .bool false, .bool false, .func (.yield l) #[] #[], .pointer (some ⟨fb, 0, none⟩), .pointer (some ⟨fb, 0, none⟩), undef, undef, undef, undef, undef, undef, undef, undef, undef, undef], defers := [] } _
  refine AnyS.take (i := 6) (.pointer (some ⟨fb, 0, none⟩)) rfl (by kernel_rfl) (by kernel_rfl) (by kernel_rfl) (fun _ _ _ h => h) ⟨fun _ x hx => (by obtain ⟨g0, g1, g2, g3⟩ := hx; go_simp; done), fun h => (nomatch (show true = false from h)), fun _ => rfl⟩ HT ?_
  change AnyS _ _ _ _ _ _ _ _ { tmps := #[.pointer (some ⟨nb, 0, none⟩), .pointer (some ⟨yb, 0, none⟩), .bool false, .pointer (some ⟨fb, 0, none⟩), .bool false, .bool false, .func (.yield l) #[] #[], .pointer (some ⟨fb, 0, none⟩), .pointer (some ⟨fb, 0, none⟩), .pointer (some ⟨fb, 0, none⟩), undef, undef, undef, undef, undef, undef, undef, undef, undef], defers := [] } _
  refine AnyS.take (i := 7) (.string ⟨nm.toArray⟩) rfl (by kernel_rfl) (by kernel_rfl) (by kernel_rfl) (fun _ _ _ h => h) ⟨fun _ x hx => (by obtain ⟨g0, g1, g2, g3⟩ := hx; go_simp; done), fun h => (nomatch (show true = false from h)), fun _ => rfl⟩ HT ?_
  change AnyS _ _ _ _ _ _ _ _ { tmps := #[.pointer (some ⟨nb, 0, none⟩), .pointer (some ⟨yb, 0, none⟩), .bool false, .pointer (some ⟨fb, 0, none⟩), .bool false, .bool false, .func (.yield l) #[] #[], .pointer (some ⟨fb, 0, none⟩), .pointer (some ⟨fb, 0, none⟩), .pointer (some ⟨fb, 0, none⟩), .string ⟨nm.toArray⟩, undef, undef, undef, undef, undef, undef, undef, undef], defers := [] } _
  refine AnyS.take (i := 8) (.pointer (some ⟨fb, 0, none⟩)) rfl (by kernel_rfl) (by kernel_rfl) (by kernel_rfl) (fun _ _ _ h => h) ⟨fun _ x hx => (by obtain ⟨g0, g1, g2, g3⟩ := hx; go_simp; done), fun h => (nomatch (show true = false from h)), fun _ => rfl⟩ HT ?_
  change AnyS _ _ _ _ _ _ _ _ { tmps := #[.pointer (some ⟨nb, 0, none⟩), .pointer (some ⟨yb, 0, none⟩), .bool false, .pointer (some ⟨fb, 0, none⟩), .bool false, .bool false, .func (.yield l) #[] #[], .pointer (some ⟨fb, 0, none⟩), .pointer (some ⟨fb, 0, none⟩), .pointer (some ⟨fb, 0, none⟩), .string ⟨nm.toArray⟩, .pointer (some ⟨fb, 0, none⟩), undef, undef, undef, undef, undef, undef, undef], defers := [] } _
  refine AnyS.take (i := 9) (.pointer (some ⟨fb, 0, none⟩)) rfl (by kernel_rfl) (by kernel_rfl) (by kernel_rfl) (fun _ _ _ h => h) ⟨fun _ x hx => (by obtain ⟨g0, g1, g2, g3⟩ := hx; go_simp; done), fun h => (nomatch (show true = false from h)), fun _ => rfl⟩ HT ?_
  change AnyS _ _ _ _ _ _ _ _ { tmps := #[.pointer (some ⟨nb, 0, none⟩), .pointer (some ⟨yb, 0, none⟩), .bool false, .pointer (some ⟨fb, 0, none⟩), .bool false, .bool false, .func (.yield l) #[] #[], .pointer (some ⟨fb, 0, none⟩), .pointer (some ⟨fb, 0, none⟩), .pointer (some ⟨fb, 0, none⟩), .string ⟨nm.toArray⟩, .pointer (some ⟨fb, 0, none⟩), .pointer (some ⟨fb, 0, none⟩), undef, undef, undef, undef, undef, undef], defers := [] } _
  refine AnyS.take (i := 10) (.pointer (some ⟨fb, 1, none⟩)) rfl (by kernel_rfl) (by kernel_rfl) (by kernel_rfl) (fun _ _ _ h => h) ⟨fun _ x hx => (by obtain ⟨g0, g1, g2, g3⟩ := hx; go_simp; done), fun h => (nomatch (show true = false from h)), fun _ => rfl⟩ HT ?_
  change AnyS _ _ _ _ _ _ _ _ { tmps := #[.pointer (some ⟨nb, 0, none⟩), .pointer (some ⟨yb, 0, none⟩), .bool false, .pointer (some ⟨fb, 0, none⟩), .bool false, .bool false, .func (.yield l) #[] #[], .pointer (some ⟨fb, 0, none⟩), .pointer (some ⟨fb, 0, none⟩), .pointer (some ⟨fb, 0, none⟩), .string ⟨nm.toArray⟩, .pointer (some ⟨fb, 0, none⟩), .pointer (some ⟨fb, 0, none⟩), .pointer (some ⟨fb, 1, none⟩), undef, undef, undef, undef, undef], defers := [] } _
  refine AnyS.take (i := 11) (.string ⟨vl.toArray⟩) rfl (by kernel_rfl) (by kernel_rfl) (by kernel_rfl) (fun _ _ _ h => h) ⟨fun _ x hx => (by obtain ⟨g0, g1, g2, g3⟩ := hx; go_simp; done), fun h => (nomatch (show true = false from h)), fun _ => rfl⟩ HT ?_
  change AnyS _ _ _ _ _ _ _ _ { tmps := #[.pointer (some ⟨nb, 0, none⟩), .pointer (some ⟨yb, 0, none⟩), .bool false, .pointer (some ⟨fb, 0, none⟩), .bool false, .bool false, .func (.yield l) #[] #[], .pointer (some ⟨fb, 0, none⟩), .pointer (some ⟨fb, 0, none⟩), .pointer (some ⟨fb, 0, none⟩), .string ⟨nm.toArray⟩, .pointer (some ⟨fb, 0, none⟩), .pointer (some ⟨fb, 0, none⟩), .pointer (some ⟨fb, 1, none⟩), .string ⟨vl.toArray⟩, undef, undef, undef, undef], defers := [] } _
  refine AnyS.one (i := 12) (by kernel_rfl) ?_
  refine wpOpIn_step rfl (fun K hK => ?_)
  go_simp
  refine ⟨trivial, ?_⟩
  refine (callsIn_wide.2 (TR.out _)).mono ?_
  rintro e w2 ⟨rfl, ch⟩
  have HT2 := HT.chg ch
  refine hK _ _ ⟨HT2, ?_⟩
  clear hK K
  change AnyS _ _ _ _ _ _ _ _ { tmps := #[.pointer (some ⟨nb, 0, none⟩), .pointer (some ⟨yb, 0, none⟩), .bool false, .pointer (some ⟨fb, 0, none⟩), .bool false, .bool false, .func (.yield l) #[] #[], .pointer (some ⟨fb, 0, none⟩), .pointer (some ⟨fb, 0, none⟩), .pointer (some ⟨fb, 0, none⟩), .string ⟨nm.toArray⟩, .pointer (some ⟨fb, 0, none⟩), .pointer (some ⟨fb, 0, none⟩), .pointer (some ⟨fb, 1, none⟩), .string ⟨vl.toArray⟩, .string ⟨(trimL vl).toArray⟩, undef, undef, undef], defers := [] } _
  refine AnyS.take (i := 13) (.agg #[.string ⟨nm.toArray⟩, .string ⟨(trimL vl).toArray⟩]) rfl (by kernel_rfl) (by kernel_rfl) (by kernel_rfl) (fun _ _ _ h => h) ⟨fun _ x hx => (by obtain ⟨g0, g1, g2, g3⟩ := hx; go_simp; done), fun h => (nomatch (show true = false from h)), fun _ => rfl⟩ HT2 ?_
  change AnyS _ _ _ _ _ _ _ _ { tmps := #[.pointer (some ⟨nb, 0, none⟩), .pointer (some ⟨yb, 0, none⟩), .bool false, .pointer (some ⟨fb, 0, none⟩), .bool false, .bool false, .func (.yield l) #[] #[], .pointer (some ⟨fb, 0, none⟩), .pointer (some ⟨fb, 0, none⟩), .pointer (some ⟨fb, 0, none⟩), .string ⟨nm.toArray⟩, .pointer (some ⟨fb, 0, none⟩), .pointer (some ⟨fb, 0, none⟩), .pointer (some ⟨fb, 1, none⟩), .string ⟨vl.toArray⟩, .string ⟨(trimL vl).toArray⟩, .agg #[.string ⟨nm.toArray⟩, .string ⟨(trimL vl).toArray⟩], undef, undef], defers := [] } _
  refine AnyS.one (i := 14) (by kernel_rfl) ?_
  refine wpOpIn_step rfl (fun K hK => ?_)
  obtain ⟨fn, tm, asg, bd, hy, hRn⟩ := HY.out w2 (((Chg.refl [] W).drew).pure ch)
  go_simp
  refine (roundIn_any hRn).mono ?_
  rintro e w3 ⟨b, rfl, hb⟩
  have HT3 := HRR.out _ _ hb
  refine hK _ _ ⟨HT3, ?_⟩
  clear hK K hRn hy
  change AnyS _ _ _ _ _ _ _ _ { tmps := #[.pointer (some ⟨nb, 0, none⟩), .pointer (some ⟨yb, 0, none⟩), .bool false, .pointer (some ⟨fb, 0, none⟩), .bool false, .bool false, .func (.yield l) #[] #[], .pointer (some ⟨fb, 0, none⟩), .pointer (some ⟨fb, 0, none⟩), .pointer (some ⟨fb, 0, none⟩), .string ⟨nm.toArray⟩, .pointer (some ⟨fb, 0, none⟩), .pointer (some ⟨fb, 0, none⟩), .pointer (some ⟨fb, 1, none⟩), .string ⟨vl.toArray⟩, .string ⟨(trimL vl).toArray⟩, .agg #[.string ⟨nm.toArray⟩, .string ⟨(trimL vl).toArray⟩], .bool b, undef], defers := [] } _
  refine AnyS.take (i := 15) (.bool b) rfl (by kernel_rfl) (by kernel_rfl) (by kernel_rfl) (fun _ _ _ h => h) ⟨fun _ x hx => (by obtain ⟨g0, g1, g2, g3⟩ := hx; go_simp; done), fun h => (nomatch (show true = false from h)), fun _ => rfl⟩ HT3 ?_
  change AnyS _ _ _ _ _ _ _ _ { tmps := #[.pointer (some ⟨nb, 0, none⟩), .pointer (some ⟨yb, 0, none⟩), .bool false, .pointer (some ⟨fb, 0, none⟩), .bool false, .bool false, .func (.yield l) #[] #[], .pointer (some ⟨fb, 0, none⟩), .pointer (some ⟨fb, 0, none⟩), .pointer (some ⟨fb, 0, none⟩), .string ⟨nm.toArray⟩, .pointer (some ⟨fb, 0, none⟩), .pointer (some ⟨fb, 0, none⟩), .pointer (some ⟨fb, 1, none⟩), .string ⟨vl.toArray⟩, .string ⟨(trimL vl).toArray⟩, .agg #[.string ⟨nm.toArray⟩, .string ⟨(trimL vl).toArray⟩], .bool b, .bool b], defers := [] } _
  refine AnyS.take (i := 16) (.bool b) rfl (by kernel_rfl) (by kernel_rfl) (by kernel_rfl) (fun _ _ _ h => h) ⟨fun _ x hx => (by obtain ⟨g0, g1, g2, g3⟩ := hx; go_simp; done), fun h => (nomatch (show true = false from h)), fun _ => rfl⟩ HT3 ?_
  change AnyS _ _ _ _ _ _ _ _ { tmps := #[.pointer (some ⟨nb, 0, none⟩), .pointer (some ⟨yb, 0, none⟩), .bool b, .pointer (some ⟨fb, 0, none⟩), .bool false, .bool false, .func (.yield l) #[] #[], .pointer (some ⟨fb, 0, none⟩), .pointer (some ⟨fb, 0, none⟩), .pointer (some ⟨fb, 0, none⟩), .string ⟨nm.toArray⟩, .pointer (some ⟨fb, 0, none⟩), .pointer (some ⟨fb, 0, none⟩), .pointer (some ⟨fb, 1, none⟩), .string ⟨vl.toArray⟩, .string ⟨(trimL vl).toArray⟩, .agg #[.string ⟨nm.toArray⟩, .string ⟨(trimL vl).toArray⟩], .bool b, .bool b], defers := [] } _
  refine AnyS.done (by kernel_rfl) ?_ _
  gi_wp2
  refine bodyPost_ret (v := .bool b) (by simp [results, Tryd.results60, go_sem]; try rfl) rfl ?_
  exact ⟨b, rfl, hb⟩
end Go.Proofs.YtnkcanhkdfckmaaDoor
