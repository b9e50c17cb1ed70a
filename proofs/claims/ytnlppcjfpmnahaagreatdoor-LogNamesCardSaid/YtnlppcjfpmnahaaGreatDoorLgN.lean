/- LogNames, plain: the disks and logs of the examples. -/
import Derived.Test.YtnlppcjfpmnahaaGreatDoorLgI
import Derived.Test.YtnlppcjfpmnahaaGreatDoorDiskJ
namespace Go.Proofs.YtnlppcjfpmnahaaGreatDoor
set_option linter.all false
open Go.RowKit

theorem begin_ok {m : Dk} {half age : Int} {s : List UInt8} (hb : ¬ (half < 0 ∨ 1 < half ∨ age < 1 ∨ 4294967295 < age)) (h0 : ((Lg.start m half age).write m s).2.2 = 0) :
    beginV m half age s = (some ((Lg.start m half age).write m s).1, ((Lg.start m half age).write m s).2.1, 0) := by unfold beginV; rw [if_neg hb, if_pos h0]
theorem begin_er {m : Dk} {half age : Int} {s : List UInt8} (hb : ¬ (half < 0 ∨ 1 < half ∨ age < 1 ∨ 4294967295 < age)) {er : Int} (h0 : ((Lg.start m half age).write m s).2.2 = er) (he : er ≠ 0) :
    beginV m half age s = (none, ((Lg.start m half age).write m s).2.1, er) := by unfold beginV; rw [if_neg hb, if_neg (by rw [h0]; exact he), ← h0]
def zL (n : Nat) : List UInt8 := List.replicate n 0
def na0 : Dk := Dk.new 1
def nb0 : Dk := Dk.new 7
def nW : Lg × Dk × Int := (Lg.start nb0 0 4294967295).write nb0 [97, 98, 99]
def nm2 : Dk := nW.2.1.fail 1
def nA1 : Lg × Dk × Int := nW.1.add nm2 (zL 300)
def nA2 : Lg × Dk × Int := nA1.1.add nA1.2.1 (zL 110)
def nA3 : Lg × Dk × Int := nA2.1.add nA2.2.1 []
def nB : Lg × Dk × Int := (Lg.start nA3.2.1 1 5).write nA3.2.1 []
def nBo : Dk × Int := nB.2.1.boot [128, 128]
def nA4 : Lg × Dk × Int := nA3.1.add nBo.1 []
def nA5 : Lg × Dk × Int := nA4.1.add nA4.2.1 []
def nc0 : Dk := Dk.new 8
def nW2 : Lg × Dk × Int := (Lg.start nc0 0 7).write nc0 [115]
def nR : Lg × Dk × Int := nW2.1.add nW2.2.1 [114]
def nT : Lg × Dk × Int := nW2.1.add nW2.2.1 [116]
theorem na_w : (Lg.start na0 0 1).write na0 [] = (Lg.start na0 0 1, na0, 41) := Lg.Is.full (by decide)
theorem na_b : beginV na0 0 1 [] = (none, na0, 41) := by
  have h := begin_er (m := na0) (half := 0) (age := 1) (s := []) (by omega) (er := 41) (by rw [na_w]) (by omega)
  rw [na_w] at h
  exact h
theorem na_s : na0.scan 1 = (0, [], 5) := by kernel_rfl
theorem na_t : topL na0 = 0 := by kernel_rfl
theorem nb_s : nb0.scan 2 = (0, [], 1) := by kernel_rfl
theorem nw_e : nW.2.2 = 0 := by kernel_rfl
theorem nb_b : beginV nb0 0 4294967295 [97, 98, 99] = (some nW.1, nW.2.1, 0) := by
  have h := nw_e
  unfold nW at h ⊢
  exact begin_ok (by omega) h
theorem nw_n : nW.2.1.n = 7 := by kernel_rfl
theorem n3_n : nA3.2.1.n = 7 := by kernel_rfl
theorem nbo_n : nBo.1.n = 7 := by kernel_rfl
theorem n3_f : nA3.1.first = 0 := by kernel_rfl
theorem nw_t : topL nW.2.1 = 4294967295 := by kernel_rfl
theorem nw_o : nW.2.1.ops = 1 := by kernel_rfl
theorem n2_s : nm2.scan 0 = (4294967295, [[97, 98, 99]], 0) := by kernel_rfl
theorem n_a1 : nA1.2.2 = 41 := by kernel_rfl
theorem n_a2 : nA2.2.2 = 42 := by kernel_rfl
theorem n_a3 : nA3.2.2 = 7 := by kernel_rfl
theorem n3_r : nA3.1.many - nA3.1.used = 2 := by kernel_rfl
theorem n3_s : nA3.2.1.scan 0 = (0, [], 42) := by kernel_rfl
theorem n3_t : nA3.2.1.topV = (0, 42) := by kernel_rfl
theorem nb_e : nB.2.2 = 42 := by kernel_rfl
theorem n_b : beginV nA3.2.1 1 5 [] = (none, nB.2.1, 42) := by
  have h := nb_e
  unfold nB at h ⊢
  exact begin_er (by omega) h (by omega)
theorem n_bo : nBo.2 = 0 := by kernel_rfl
theorem n_a4 : nA4.2.2 = 7 := by kernel_rfl
theorem n_a5 : nA5.2.2 = 7 := by kernel_rfl
theorem n5_s : nA5.2.1.scan 0 = (4294967295, [[97, 98, 99]], 0) := by kernel_rfl
theorem nw2_e : nW2.2.2 = 0 := by kernel_rfl
theorem nc_b : beginV nc0 0 7 [115] = (some nW2.1, nW2.2.1, 0) := by
  have h := nw2_e
  unfold nW2 at h ⊢
  exact begin_ok (by omega) h
theorem n_r : nR.2.2 = 0 := by kernel_rfl
theorem nr_r : nR.1.many - nR.1.used = 2 := by kernel_rfl
theorem nw2_r : nW2.1.many - nW2.1.used = 3 := by kernel_rfl
theorem nw2_s : nW2.2.1.scan 0 = (7, [[115]], 0) := by kernel_rfl
theorem nr_s : nR.2.1.scan 0 = (7, [[115], [114]], 0) := by kernel_rfl
theorem n_t : nT.2.2 = 0 := by kernel_rfl
theorem nt_s : nT.2.1.scan 0 = (7, [[115], [116]], 0) := by kernel_rfl
/-- what a contract asks of a log and its disk -/
structure Good (l : Lg) (m : Dk) (c : Nat) : Prop where
  on : l.On m
  fit : m.Fit c
  many : l.many ≤ 4
theorem Good.add {l : Lg} {m : Dk} {c : Nat} (h : Good l m c) (s : List UInt8) : Good (l.add m s).1 (l.add m s).2.1 (c + 4) := by
  refine ⟨?_, (add_fits h.fit s).mono (by have := h.many; omega), ?_⟩
  · unfold Lg.add; split
    · exact h.on
    · exact h.on.write s
  · unfold Lg.add Lg.write
    split
    · exact h.many
    · split
      · exact h.many
      · split <;> exact h.many
theorem Good.start {m : Dk} {half age : Int} {c : Nat} (hb : ¬ (half < 0 ∨ 1 < half ∨ age < 1 ∨ 4294967295 < age)) (F : m.Fit c) (hm : m.n / 2 ≤ 4) (s : List UInt8) : Good ((Lg.start m half age).write m s).1 ((Lg.start m half age).write m s).2.1 (c + 4) := by
  have h : Good (Lg.start m half age) m c := ⟨Lg.start_on hb, F, hm⟩
  have e : (Lg.start m half age).add m s = (Lg.start m half age).write m s := by unfold Lg.add; rw [if_neg (by simp [Lg.start])]
  have := h.add s
  rw [e] at this
  exact this
theorem g_w : Good nW.1 nW.2.1 4 := by
  unfold nW
  exact Good.start (m := nb0) (half := 0) (age := 4294967295) (by omega) (Fit.new (by omega)) (by decide) [97, 98, 99]
theorem Good.fail {l : Lg} {m : Dk} {c : Nat} (h : Good l m c) (k : Int) (hk : k ≤ 9223372036854775807) : Good l (m.fail k) c := ⟨⟨h.on.room, h.on.used, h.on.age⟩, h.fit.fail hk, h.many⟩
theorem g_2 : Good nW.1 nm2 4 := by
  unfold nm2
  exact g_w.fail 1 (by omega)
theorem g_a1 : Good nA1.1 nA1.2.1 8 := by
  unfold nA1
  exact g_2.add _
theorem g_a2 : Good nA2.1 nA2.2.1 12 := by
  unfold nA2
  exact g_a1.add _
theorem g_a3 : Good nA3.1 nA3.2.1 16 := by
  unfold nA3
  exact g_a2.add _
theorem g_b : Good nB.1 nB.2.1 20 := by
  have hn : nA3.2.1.n = 7 := n3_n
  unfold nB
  exact Good.start (half := 1) (age := 5) (by omega) g_a3.fit (by rw [hn]; decide) []
theorem f_bo : nBo.1.Fit 21 := by
  unfold nBo
  exact g_b.fit.boot _
theorem g_bo : Good nA3.1 nBo.1 21 := ⟨⟨by rw [nbo_n, n3_f]; have := g_a3.many; omega, g_a3.on.used, g_a3.on.age⟩, f_bo, g_a3.many⟩
theorem g_a4 : Good nA4.1 nA4.2.1 25 := by
  unfold nA4
  exact g_bo.add _
theorem g_a5 : Good nA5.1 nA5.2.1 29 := by
  unfold nA5
  exact g_a4.add _
theorem g_w2 : Good nW2.1 nW2.2.1 4 := by
  unfold nW2
  exact Good.start (m := nc0) (half := 0) (age := 7) (by omega) (Fit.new (by omega)) (by decide) [115]
theorem g_r : Good nR.1 nR.2.1 8 := by
  unfold nR
  exact g_w2.add _
theorem g_t : Good nT.1 nT.2.1 8 := by
  unfold nT
  exact g_w2.add _
theorem e_nA1 : nA1 = nW.1.add nm2 (zL 300) := by unfold nA1; rfl
theorem e_nA2 : nA2 = nA1.1.add nA1.2.1 (zL 110) := by unfold nA2; rfl
theorem e_nA3 : nA3 = nA2.1.add nA2.2.1 [] := by unfold nA3; rfl
theorem e_nA4 : nA4 = nA3.1.add nBo.1 [] := by unfold nA4; rfl
theorem e_nA5 : nA5 = nA4.1.add nA4.2.1 [] := by unfold nA5; rfl
theorem e_nR : nR = nW2.1.add nW2.2.1 [114] := by unfold nR; rfl
theorem e_nT : nT = nW2.1.add nW2.2.1 [116] := by unfold nT; rfl
theorem pair_eta {α β : Type} {x : α × β} {b : β} (h : x.2 = b) : x = (x.1, b) := by cases x; simp only at h; rw [h]
theorem e_nBo0 : nBo = nB.2.1.boot [128, 128] := by unfold nBo; rfl
theorem e_nBo : nB.2.1.boot [128, 128] = (nBo.1, 0) := by
  rw [← e_nBo0]
  exact pair_eta n_bo
theorem n5_n : nA5.2.1.n = 7 := by kernel_rfl
theorem nb_n : nB.2.1.n = 7 := by kernel_rfl
theorem nw2_n : nW2.2.1.n = 8 := by kernel_rfl
theorem nr_n : nR.2.1.n = 8 := by kernel_rfl
theorem nt_n : nT.2.1.n = 8 := by kernel_rfl
theorem nm2_n : nm2.n = 7 := by kernel_rfl
theorem Own.boxSl {w0 w : World} {L : List Piece} {b : Nat} {zs : List Int} {ty : TypeId} (h : Own w0 w (box b (zs.map (Value.int .i64)).toArray ty :: L)) : ∃ G, SlR w (.slice (some ⟨b, 0, none⟩) zs.length zs.length) (zs.map (Value.int .i64)) G := by
  refine ⟨[b], some ⟨b, 0, none⟩, zs.length, by simp, fun _ => ⟨b, 0, rfl, by simp, fun i hi => ?_⟩⟩
  rw [Nat.zero_add, h.cell i]
  have : i < zs.length := by simpa using hi
  simp [this]
section
variable {w0 w : World} {L : List Piece} {p : Value} {m : Dk} {c : Nat}
theorem begin_some (O : Own w0 w (dk p m :: L)) (F : m.Fit c) (hc : c + m.n ≤ 9000) (half age : Int) (s : List UInt8) (hs : s.length ≤ 1000) {l : Lg} {m' : Dk} (h : beginV m half age s = (some l, m', 0)) :
    Calls Tryz.prog 16 #[p, .int .i64 half, .int .i64 age, .string ⟨s.toArray⟩] w fun e w' => ∃ q : Nat, e = .returned (.tuple #[.pointer (some ⟨q, 0, none⟩), .int .i64 0]) ∧ Own w0 w' (lgb q l p :: dk p m' :: L) := by
  have := begin_own O F hc half age s (by omega)
  rw [h] at this
  exact this
theorem begin_none (O : Own w0 w (dk p m :: L)) (F : m.Fit c) (hc : c + m.n ≤ 9000) (half age : Int) (s : List UInt8) (hs : s.length ≤ 1000) {er : Int} {m' : Dk} (h : beginV m half age s = (none, m', er)) :
    Calls Tryz.prog 16 #[p, .int .i64 half, .int .i64 age, .string ⟨s.toArray⟩] w fun e w' => e = .returned (.tuple #[.pointer none, .int .i64 er]) ∧ Own w0 w' (dk p m' :: L) := by
  have := begin_own O F hc half age s (by omega)
  rw [h] at this
  exact this
theorem add_good {q : Nat} {l : Lg} (O : Own w0 w (lgb q l p :: dk p m :: L)) (G : Good l m c) (hc : c ≤ 1000) (s : List UInt8) (hs : s.length ≤ 1000) {r : Lg × Dk × Int} (hr : r = l.add m s) {er : Int} (h : r.2.2 = er) :
    Calls Tryz.prog 17 #[.pointer (some ⟨q, 0, none⟩), .string ⟨s.toArray⟩] w fun e w' => e = .returned (.int .i64 er) ∧ Own w0 w' (lgb q r.1 p :: dk p r.2.1 :: L) := by
  have := add_own O G.on G.fit (by have := G.many; omega) s (by omega)
  unfold AddPost at this
  rw [← hr, h] at this
  exact this
theorem room_good {q : Nat} {l : Lg} (O : Own w0 w (lgb q l p :: L)) (G : Good l m c) {k : Nat} (h : l.many - l.used = k) :
    Calls Tryz.prog 24 #[.pointer (some ⟨q, 0, none⟩)] w fun e w' => e = .returned (.int .i64 k) ∧ Own w0 w' (lgb q l p :: L) := by
  refine (room_own O G.on.used (by have := G.many; omega)).mono ?_
  rintro e w' ⟨rfl, n, rfl⟩
  rw [h]
  exact ⟨rfl, O.drewN n⟩
theorem scan_is (O : Own w0 w (dk p m :: L)) (hn : m.n ≤ 1024) (half : Int) {a er : Int} {ls : List (List UInt8)} (h : m.scan half = (a, ls, er)) :
    Calls Tryz.prog 22 #[p, .int .i64 half] w fun e w' => ∃ v, e = .returned (.tuple #[.int .i64 a, v, .int .i64 er]) ∧ Own w0 w' (dk p m :: L) := by
  refine (scan_own O hn half).mono ?_
  rintro e w' ⟨v, rfl, O⟩
  rw [h] at O ⊢
  exact ⟨v, rfl, O.drop⟩
theorem top_is (O : Own w0 w (dk p m :: L)) (hn : m.n ≤ 1024) {z : Int} (h : topL m = z) :
    Calls Tryz.prog 12 #[p] w fun e w' => e = .returned (.int .i64 z) ∧ Own w0 w' (dk p m :: L) := by
  have := top12_own O hn
  rw [h] at this
  exact this
theorem has_box {G : Nat} {ls : List (List UInt8)} {t : TypeId} (O : Own w0 w (dk p m :: box G (ls.map str).toArray t :: L)) (hn : m.n ≤ 1024) (half age : Int) {k : Nat} (hk : k = ls.length) (hk2 : k ≤ 1000) (h : m.scan half = (age, ls, 0)) :
    Calls Tryz.prog 19 #[p, .int .i64 half, .int .i64 age, .slice (some ⟨G, 0, none⟩) k k] w fun e w' => e = .returned (.bool true) ∧ Own w0 w' (dk p m :: box G (ls.map str).toArray t :: L) :=
  has_own O hn half age (fun w2 h2 => ⟨[G], strsR_at ls (h2.pick 1).obj rfl k hk⟩) (by omega) (by rw [h]; simp)
theorem topv_is (O : Own w0 w (dk p m :: L)) (hn : m.n ≤ 1024) {a er : Int} (h : m.topV = (a, er)) :
    Calls Tryz.prog 23 #[p] w fun e w' => e = .returned (.tuple #[.int .i64 a, .int .i64 er]) ∧ Own w0 w' (dk p m :: L) := by
  have := top_own O hn
  rw [h] at this
  exact this
end
end Go.Proofs.YtnlppcjfpmnahaaGreatDoor
