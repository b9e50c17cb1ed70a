/- mailroomlaw10.works. -/
import Derived.Test.YtobflkddkplpiaaDiskJ
namespace Go.Proofs.Ytobflkddkplpiaa
set_option linter.all false
open Go.RowKit Go.Maps

def u1 : Dk := t5.fail 1
def v1 : Dk := u1.sync.1
def x1 : Dk := (u1.write 0 (fullS 99)).1
def x2 : Dk := (x1.boot [5]).1
def v2 : Dk := (v1.boot []).1
def mixA : List UInt8 := List.replicate 5 99
def mixB : List UInt8 := List.replicate 123 97
def mixS : List UInt8 := mixA ++ mixB
theorem u1_fit : u1.Fit 4 := t5_fit.fail (by omega)
theorem v1_fit : v1.Fit 5 := u1_fit.sync
theorem x1_fit : x1.Fit 5 := u1_fit.write _ _
theorem x2_fit : x2.Fit 6 := x1_fit.boot _
theorem v2_fit : v2.Fit 6 := v1_fit.boot _
theorem t5_dirty : t5.dirty = [0, 1] := by kernel_rfl
theorem Own.numsSl {w0 w : World} {L : List Piece} {a : Option Addr} {n cap : Nat} {zs : List Int} (h : Own w0 w (nums (.slice a n cap) zs :: L)) : ∃ G, SlR w (.slice a n cap) (zs.map (Value.int .i64)) G := by
  obtain ⟨a', c, hv⟩ := h.numsShape
  simp only [Value.slice.injEq] at hv
  obtain ⟨rfl, rfl, rfl⟩ := hv
  cases hz : zs with
  | nil => exact ⟨[], a, cap, by simp, fun h => by simp at h⟩
  | cons z r =>
    obtain ⟨g, hg, _⟩ := h.numsAt 0 (by rw [hz]; simp)
    subst hg
    rw [← hz]
    refine ⟨[g], some ⟨g, 0, none⟩, cap, by simp, fun _ => ⟨g, 0, rfl, by simp, fun i hi => ?_⟩⟩
    obtain ⟨g', hg', hc, _⟩ := h.numsAt i (by simpa using hi)
    simp only [Option.some.injEq, Addr.mk.injEq] at hg'
    obtain ⟨rfl, -, -⟩ := hg'
    rw [Nat.zero_add, hc]
    simp
theorem Own.boxSl {w0 w : World} {L : List Piece} {b : Nat} {zs : List Int} {ty : TypeId} (h : Own w0 w (box b (zs.map (Value.int .i64)).toArray ty :: L)) : ∃ G, SlR w (.slice (some ⟨b, 0, none⟩) zs.length zs.length) (zs.map (Value.int .i64)) G := by
  refine ⟨[b], some ⟨b, 0, none⟩, zs.length, by simp, fun _ => ⟨b, 0, rfl, by simp, fun i hi => ?_⟩⟩
  rw [Nat.zero_add, h.cell i]
  have : i < zs.length := by simpa using hi
  simp [this]
theorem ints_own {w0 w : World} {L : List Piece} {a : Option Addr} {n cap : Nat} {zs : List Int} (O : Own w0 w (nums (.slice a n cap) zs :: L)) (b : Option Addr) (nb cb : Nat) (ys : List Int) (hy : ∃ H, SlR w (.slice b nb cb) (ys.map (Value.int .i64)) H) (hn : zs.length ≤ maxLen) (hm : ys.length ≤ maxLen) (r : Bool) (hr : decide (zs = ys) = r) :
    Calls Try.prog 25 #[.slice a n cap, .slice b nb cb] w fun e w' => e = .returned (.bool r) ∧ Own w0 w' (nums (.slice a n cap) zs :: L) := by
  obtain ⟨G, hx⟩ := O.numsSl
  obtain ⟨H, hy⟩ := hy
  have e1 := hx.len
  have e2 := hy.len
  rw [List.length_map] at e1 e2
  subst e1 e2
  refine (ints_any w a b cap cb zs ys G H hx hy hn hm r hr).mono ?_
  rintro e w' ⟨rfl, ch⟩
  exact ⟨rfl, O.pure ch⟩

set_option maxRecDepth 100000 in
set_option maxHeartbeats 4000000 in
theorem works_own {w0 w : World} {L : List Piece} (O : Own w0 w L) :
    Calls Try.prog 8 #[] w fun e w' => e = .returned (.bool true) ∧ Own w0 w' L := by
  go_enter Try.func8, Try.ntmps8
  go_wp2_with fail
  refine (two_own O).mono ?_
  clear O
  rintro e w1 ⟨b, rfl, O⟩
  go_wp2_with fail
  refine (ops_any O).mono ?_
  rintro e w2 ⟨rfl, rfl⟩
  have i4 : (((t5.ops : Nat) : Int) != 4) = false := by kernel_rfl
  go_wp2_with fail
  refine (dirty_dk O (t5_fit.small (by omega)) t5_fit.ok.dom).mono ?_
  clear O i4
  rw [t5_dirty]
  rintro e w2 ⟨a, cap, rfl, O⟩
  go_wp2_with fail
  have OB := O.newBox (([0, 1] : List Int).map (Value.int .i64)).toArray 3
  refine (ints_own (OB.pick 1) _ _ _ [0, 1] OB.boxSl (by decide) (by decide) true (by decide)).mono ?_
  clear O OB
  rintro e w3 ⟨rfl, O⟩
  replace O : Own w0 w3 (dk (.pointer (some ⟨b, 0, none⟩)) t5 :: L) := O.selK 3 [2]
  go_wp2_with fail
  refine (copy_own O).mono ?_
  clear O
  rintro e w4 ⟨c, rfl, O⟩
  go_wp2_with fail
  refine (fail_any 1 (by omega) (O.selK 2 [1, 0])).mono ?_
  clear O
  rintro e w5 ⟨rfl, O⟩
  go_wp2_with fail
  refine (fail_any 1 (by omega) (O.selK 2 [1, 0])).mono ?_
  clear O
  rintro e w6 ⟨rfl, O⟩
  replace O : Own w0 w6 (dk (.pointer (some ⟨b, 0, none⟩)) u1 :: dk (.pointer (some ⟨c, 0, none⟩)) u1 :: L) := O.selK 2 [1, 0]
  go_wp2_with fail
  refine (sync_fit (m' := v1) (er := 0) O u1_fit (by omega) (by kernel_rfl)).mono ?_
  clear O
  rintro e w7 ⟨rfl, O⟩
  have f1 : v1.off = true := by kernel_rfl
  go_wp2_with fail
  refine (on_any O).mono ?_
  rw [f1]
  rintro e w8 ⟨rfl, rfl⟩
  go_wp2_with fail
  refine (full_own O 99 _ rfl).mono ?_
  clear O
  rintro e w8 ⟨rfl, O⟩
  go_wp2_with fail
  refine (write_fit (m' := v1) (er := 42) O v1_fit (by omega) 0 (I64.nat (k := 0) (by omega)) _ (fullS_len _) (by kernel_rfl)).mono ?_
  clear O
  rintro e w9 ⟨rfl, O⟩
  go_wp2_with fail
  refine (full_own O 99 _ rfl).mono ?_
  clear O
  rintro e w10 ⟨rfl, O⟩
  go_wp2_with fail
  refine (write_fit (m' := x1) (er := 0) (O.selK 2 [1, 0]) u1_fit (by omega) 0 (I64.nat (k := 0) (by omega)) _ (fullS_len _) (by kernel_rfl)).mono ?_
  clear O
  rintro e w11 ⟨rfl, O⟩
  have f2 : x1.off = true := by kernel_rfl
  go_wp2_with fail
  refine (on_any O).mono ?_
  rw [f2]
  rintro e w12 ⟨rfl, rfl⟩
  go_wp2_with fail
  refine (sync_fit (m' := x1) (er := 42) O x1_fit (by omega) (by kernel_rfl)).mono ?_
  clear O
  rintro e w13 ⟨rfl, O⟩
  replace O : Own w0 w13 (dk (.pointer (some ⟨c, 0, none⟩)) x1 :: dk (.pointer (some ⟨b, 0, none⟩)) v1 :: L) := O
  have O1 : Own w0 (w13.alloc (.cells #[.int .i64 5] 3)).drew (dk (.pointer (some ⟨c, 0, none⟩)) x1 :: box w13.heap.size (([5] : List Int).map (Value.int .i64)).toArray 3 :: dk (.pointer (some ⟨b, 0, none⟩)) v1 :: L) :=
    ((O.newBox (([5] : List Int).map (Value.int .i64)).toArray 3).selK 3 [1, 0, 2]).drew
  have hs1 : Hid (∀ w' m', Own w0 w' (dk (.pointer (some ⟨c, 0, none⟩)) m' :: box w13.heap.size (([5] : List Int).map (Value.int .i64)).toArray 3 :: dk (.pointer (some ⟨b, 0, none⟩)) v1 :: L) → ∃ G, SlR w' (.slice (some ⟨w13.heap.size, 0, none⟩) 1 1) (([5] : List Int).map (Value.int .i64)) G) :=
    Lib.hid (fun w' m' O' => (O'.pick 1).boxSl)
  have hs2 : Hid (∀ (L' : List Piece) (p : Value) (w' : World) (m' : Dk), Own w0 w' (dk p m' :: L') → ∃ G, SlR w' (.slice none 0 0) (([] : List Int).map (Value.int .i64)) G) :=
    Lib.hid (fun L' p w' m' O' => ⟨[], none, 0, rfl, fun h => by simp at h⟩)
  have k0 : Hid (I64 0) := Lib.hid (I64.nat (k := 0) (by omega))
  have k1 : Hid (I64 1) := Lib.hid (I64.nat (k := 1) (by omega))
  have n99 : Hid ((99 : Int) = ((99 : UInt8).toNat : Int)) := Lib.hid rfl
  have n97 : Hid ((97 : Int) = ((97 : UInt8).toNat : Int)) := Lib.hid rfl
  have n98 : Hid ((98 : Int) = ((98 : UInt8).toNat : Int)) := Lib.hid rfl
  have n0 : Hid ((0 : Int) = ((0 : UInt8).toNat : Int)) := Lib.hid rfl
  have c9 : 5 ≤ 9000 := by omega
  have m5 : Hid (([5] : List Int).length ≤ maxLen) := Lib.hid (by decide)
  have m0 : Hid (([] : List Int).length ≤ maxLen) := Lib.hid (by decide)
  have hb1 : Hid (x1.boot [5] = (x2, 0)) := Lib.hid (by kernel_rfl)
  have hb2 : Hid (v1.boot [] = (v2, 0)) := Lib.hid (by kernel_rfl)
  have h4 : Hid ((decide ((x2.read 0).2 = 0) && decide ((x2.read 0).1 = mixA ++ mixB)) = true) := Lib.hid (by kernel_rfl)
  have h6 : Hid ((decide ((x2.read 1).2 = 0) && decide ((x2.read 1).1 = fullS 0)) = true) := Lib.hid (by kernel_rfl)
  have h9 : Hid ((decide ((v2.read 0).2 = 0) && decide ((v2.read 0).1 = fullS 98)) = true) := Lib.hid (by kernel_rfl)
  have h11 : Hid ((decide ((v2.read 1).2 = 0) && decide ((v2.read 1).1 = fullS 98)) = true) := Lib.hid (by kernel_rfl)
  have l9 : (fullS 99).length = 128 := by kernel_rfl
  have l7 : (fullS 97).length = 128 := by kernel_rfl
  have e9 : (⟨(fullS 99).toArray⟩ : ByteArray).extract 0 5 = ⟨mixA.toArray⟩ := by rw [mk_extract]; exact congrArg (fun l : List UInt8 => (⟨l.toArray⟩ : ByteArray)) (by kernel_rfl)
  have e7 : (⟨(fullS 97).toArray⟩ : ByteArray).extract 5 128 = ⟨mixB.toArray⟩ := by rw [mk_extract]; exact congrArg (fun l : List UInt8 => (⟨l.toArray⟩ : ByteArray)) (by kernel_rfl)
  have lA : mixA.length = 5 := by kernel_rfl
  have lB : mixB.length = 123 := by kernel_rfl
  go_wp2_with fail
  go_region_held3 (fun _ => True) (exact trivial)
    (first
      | (go_at_call 18; (with_reducible refine (boot_fit (m' := x2) (er := 0) O1 x1_fit c9 _ _ _ [5] hs1.out m5.out hb1.out).mono ?_); rintro e y1 ⟨rfl, P1⟩)
      | (go_at_call 11; (with_reducible refine (full_own P1 99 99 n99.out).mono ?_); rintro e y2 ⟨rfl, P2⟩)
      | (go_at_call 11; (with_reducible refine (full_own P2 97 97 n97.out).mono ?_); rintro e y3 ⟨rfl, P3⟩)
      | (go_at_call 21; (with_reducible refine (is10_own P3 0 k0.out (mixA ++ mixB) true h4.out).mono ?_); rintro e y4 ⟨rfl, P4⟩)
      | (go_at_call 11; (with_reducible refine (full_own P4 0 0 n0.out).mono ?_); rintro e y5 ⟨rfl, P5⟩)
      | (go_at_call 21; (with_reducible refine (is10_own P5 1 k1.out (fullS 0) true h6.out).mono ?_); rintro e y6 ⟨rfl, P6⟩; have Q6 : Own w0 y6 (dk (.pointer (some ⟨b, 0, none⟩)) v1 :: dk (.pointer (some ⟨c, 0, none⟩)) x2 :: box w13.heap.size (([5] : List Int).map (Value.int .i64)).toArray 3 :: L) := P6.selK 3 [2, 0, 1])
      | (go_at_call 18; (with_reducible refine (boot_fit (m' := v2) (er := 0) Q6 v1_fit c9 none 0 0 [] (hs2.out _ _) m0.out hb2.out).mono ?_); rintro e y7 ⟨rfl, P7⟩)
      | (go_at_call 11; (with_reducible refine (full_own P7 98 98 n98.out).mono ?_); rintro e y8 ⟨rfl, P8⟩)
      | (go_at_call 21; (with_reducible refine (is10_own P8 0 k0.out (fullS 98) true h9.out).mono ?_); rintro e y9 ⟨rfl, P9⟩)
      | (go_at_call 11; (with_reducible refine (full_own P9 98 98 n98.out).mono ?_); rintro e y10 ⟨rfl, P10⟩)
      | (go_at_call 21; (with_reducible refine (is10_own P10 1 k1.out (fullS 98) true h11.out).mono ?_); rintro e y11 ⟨rfl, P11⟩))
  have P := P11.drop.drop.drop
  clear O O1 P1 P2 P3 P4 P5 P6 Q6 P7 P8 P9 P10 P11
  go_wp2
  go_ret
  exact ⟨rfl, P⟩
end Go.Proofs.Ytobflkddkplpiaa
