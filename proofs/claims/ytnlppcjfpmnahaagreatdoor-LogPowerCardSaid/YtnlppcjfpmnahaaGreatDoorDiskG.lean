/- disk: Boot: the walk. -/
import Derived.Test.YtnlppcjfpmnahaaGreatDoorDiskF
namespace Go.Proofs.YtnlppcjfpmnahaaGreatDoor
set_option linter.all false
open Go.RowKit Go.Maps

theorem dirty_own {w0 w : World} {L : List Piece} {b bn bw : Nat} {m : Dk} (U : Own w0 w (box b (m.cells bn bw) 73 :: mp bn m.cn m.now :: mp bw m.cw m.was :: L)) (S : m.Small) (hd : m.Dom) :
    Calls Tryz.prog 40 #[.pointer (some ⟨b, 0, none⟩)] w fun e w' => ∃ a cap, e = .returned (.slice a m.dirty.length cap) ∧ Own w0 w' (nums (.slice a m.dirty.length cap) m.dirty :: box b (m.cells bn bw) 73 :: mp bn m.cn m.now :: mp bw m.cw m.was :: L) := by
  refine (dirty_any U S hd).mono ?_
  rintro e w' ⟨v, rfl, row, ch⟩
  have O := U.newNums ch (v := v) (zs := m.dirty) row
  obtain ⟨a, cap, hv⟩ := O.numsShape
  subst hv
  exact ⟨a, cap, rfl, O⟩
theorem dirty_dk {w0 w : World} {L : List Piece} {p : Value} {m : Dk} (O : Own w0 w (dk p m :: L)) (S : m.Small) (hd : m.Dom) :
    Calls Tryz.prog 40 #[p] w fun e w' => ∃ a cap, e = .returned (.slice a m.dirty.length cap) ∧ Own w0 w' (nums (.slice a m.dirty.length cap) m.dirty :: dk p m :: L) := by
  obtain ⟨b, bn, bw, hp, U⟩ := O.dkE
  subst hp
  refine (dirty_own U S hd).mono ?_
  rintro e w' ⟨a, cap, rfl, O⟩
  exact ⟨a, cap, rfl, (Own.dkI (O.selK 4 [1, 2, 3, 0])).selK 2 [1, 0]⟩
theorem dirty_nil (w : World) : Calls Tryz.prog 40 #[.pointer none] w fun e w' => e = .returned (.slice none 0 0) ∧ w = w' := by
  go_enter Tryz.func40, Tryz.ntmps40
  go_wp2
  go_ret
  exact ⟨rfl, rfl⟩
theorem boot_nil (v : Value) (w : World) : Calls Tryz.prog 20 #[.pointer none, v] w fun e w' => e = .returned (.int .i64 2) ∧ w = w' := by
  go_enter Tryz.func20, Tryz.ntmps20
  go_wp2
  go_ret
  exact ⟨rfl, rfl⟩

set_option maxRecDepth 100000 in
set_option maxHeartbeats 4000000 in
theorem boot_own {w0 w : World} {L : List Piece} {p : Value} {m : Dk} (O : Own w0 w (dk p m :: L)) (S : m.Small) (hcn : m.cn ≤ 10000000) (hok : m.Ok) (ak : Option Addr) (nk ck : Nat) (xs : List Int)
    (hs : ∀ w' m', Own w0 w' (dk p m' :: L) → ∃ G, SlR w' (.slice ak nk ck) (xs.map (Value.int .i64)) G) (hx : xs.length ≤ maxLen) :
    Calls Tryz.prog 20 #[p, .slice ak nk ck] w fun e w' => e = .returned (.int .i64 (m.boot xs).2) ∧ Own w0 w' (dk p (m.boot xs).1 :: L) := by
  have hx2 : xs.length ≤ 9223372036854775807 := hx
  have hnk : nk = xs.length := by
    obtain ⟨G, h⟩ := hs w m O
    simpa using h.len
  subst hnk
  obtain ⟨b, bn, bw, hp, U⟩ := O.dkE
  subst hp
  obtain ⟨c0, c1, c2, c3, c4, c5, fr⟩ := U.dkAt
  cases ho : m.off
  · have E : m.boot xs = (m, 7) := by simp [Dk.boot, ho]
    rw [E]
    rw [ho] at c5
    clear c0 c1 c2 c3 c4 fr ho E U S hok hs
    go_enter Tryz.func20, Tryz.ntmps20
    go_wp2
    go_ret
    exact ⟨rfl, O⟩
  have E : m.boot xs = ({ m.bootI xs m.dirty.length with off := false, left := 0 }, 0) := by simp [Dk.boot, ho]
  rw [E]
  rw [ho] at c5
  have HO := Lib.hid ho
  have HS := Lib.hid hs
  have SS := Lib.hid S
  have OK := Lib.hid hok
  have HCN := Lib.hid hcn
  have hdl := dirty_len S
  clear E ho hs S hok hcn hx O c0 c1 c2 c3 c4 fr
  go_enter Tryz.func20, Tryz.ntmps20
  go_wp2_with fail
  refine (dirty_own U SS.out OK.out.dom).mono ?_
  clear U c5
  rintro e w1 ⟨ad, cd, rfl, O⟩
  go_wp2_with fail
  go_loopw [21] (fun iv wr => ∃ i : Nat, i ≤ m.dirty.length ∧ iv = .int .i64 i ∧ Own w0 wr (nums (.slice ad m.dirty.length cd) m.dirty :: box b (m.cells bn bw) 73 :: mp bn (m.bootI xs i).cn (m.bootI xs i).now :: mp bw (m.bootI xs i).cw (m.bootI xs i).was :: L)) (fun iv _ => m.dirty.length - (intOf iv).toNat)
  case atStart => exact ⟨0, by omega, rfl, O⟩
  case round =>
    clear O
    obtain ⟨i, hi, rfl, O⟩ := hrel
    by_cases hlt : i < m.dirty.length
    rotate_left
    · have he : i = m.dirty.length := by omega
      subst he
      have c4 := (O.pick 1).dkAt.c4
      have c5 := (O.pick 1).dkAt.c5
      have fr := (O.pick 1).dkAt.fr
      go_wp2
      go_ret
      refine ⟨rfl, ?_⟩
      have O2 := ((O.pick 1).set 5 (.bool false)).set 4 (.int .i64 0)
      have e2 : ({ m.bootI xs m.dirty.length with off := false, left := 0 } : Dk).cells bn bw = ((m.cells bn bw).setIfInBounds 5 (.bool false)).setIfInBounds 4 (.int .i64 0) := by
        have := bootI_n m xs m.dirty.length
        simp [Dk.cells, this.1, this.2.1]
      rw [← e2] at O2
      exact Own.dkI (m := { m.bootI xs m.dirty.length with off := false, left := 0 }) (O2.selK 4 [0, 2, 3])
    · obtain ⟨gd, hgd, cd0, -⟩ := O.numsAt i hlt
      subst hgd
      have hk64 := dirty_i64 SS.out OK.out.dom (List.getElem_mem hlt)
      obtain ⟨s, t, hS, hT, hsl, htl⟩ := bootI_at OK.out xs hlt
      have hb1 : (i : Int) < (m.dirty.length : Int) := by omega
      have hmi : m.bootI xs (i + 1) = { m.bootI xs i with now := upd (m.bootI xs i).now m.dirty[i] (some (s.take (keepAt xs i) ++ t.drop (keepAt xs i))), was := upd (m.bootI xs i).was m.dirty[i] none, cn := (m.bootI xs i).cn + 1 } := by
        show (m.bootI xs i).boot1 (m.dirty.getD i 0) (keepAt xs i) = _
        rw [show m.dirty.getD i 0 = m.dirty[i] from by simp [hlt]]
        exact boot1_is hS hT _
      have HMI := Lib.hid hmi
      have hcnI : (m.bootI xs i).cn ≤ 1000000000 := by
        have := (bootI_n m xs i).2.2.2
        have := HCN.out
        omega
      have HC2 := Lib.hid hcnI
      have hsl2 : (m.bootI xs i).cw = m.cw := (bootI_n m xs i).2.2.1
      obtain ⟨kk, hkk⟩ : ∃ kk, kk = m.dirty[i] := ⟨_, rfl⟩
      rw [← hkk] at cd0 hk64 hS hT
      have HMK := Lib.hid hkk
      clear hkk hmi hcnI hsl2
      have HK := Lib.hid hk64
      have HSS := Lib.hid hS
      have HTT := Lib.hid hT
      clear hk64 hS hT
      -- what the reading of keep gives
      obtain ⟨G, hsl3⟩ := HS.out wr (m.bootI xs i) (Own.dkI (bn := bn) (bw := bw) (by rw [bootI_cells]; exact O.selK 4 [1, 2, 3]))
      have HSL := Lib.hid hsl3
      clear hsl3
      have c1 := (O.pick 1).dkAt.c1
      have c2 := (O.pick 1).dkAt.c2
      obtain ⟨g, cap, W1, hcv, OB⟩ := O.toBytes t
      rw [htl] at hcv
      have b1 := (OB.pick 2).dkAt.c1
      have b2 := (OB.pick 2).dkAt.c2
      obtain ⟨n, hn⟩ : ∃ n, n = keepAt xs i := ⟨_, rfl⟩
      have hn128 : n ≤ 128 := by rw [hn]; exact keepAt_le xs i
      have HN := Lib.hid hn
      have hlt3 : t.drop (s.take n).length = t.drop n := by rw [List.length_take, show min n s.length = n from by omega]
      have hu : (s.take n ++ t.drop n).length = 128 := by simp; omega
      have HU := Lib.hid hu
      have hnS : (n : Int) ≤ (s.length : Int) := by omega
      have hext : (⟨s.toArray⟩ : ByteArray).extract 0 n = ⟨(s.take n).toArray⟩ := by rw [mk_extract]; simp
      clear hn hu
      by_cases hik : i < xs.length
      · have hik2 : (i : Int) < (xs.length : Int) := by omega
        obtain ⟨gk, ok, hgk, ck0⟩ := HSL.out.read (k := i) (by simpa using hik)
        subst hgk
        simp only [List.getElem_map] at ck0
        have hmx : max 0 (min xs[i] 128) = (n : Int) := by
          rw [HN.out]; unfold keepAt; rw [if_pos hik]
          have : xs.getD i 0 = xs[i] := by simp [hik]
          rw [this]; omega
        obtain ⟨w3, hcp, O3⟩ := run_copy_fitO (cap := cap) (l := s.take n) OB (by rw [List.length_take]; omega) 3
        rw [htl] at hcp
        go_wp2_with (first
          | (at_lookup; refine wpList_lookO rfl _ _ rfl (O.pick 3) rfl kk HK.out rfl ?_; rw [HTT.out, Option.getD_some]; try rw [hmx])
          | (at_lookup; refine wpList_lookO rfl _ _ rfl (OB.pick 3) rfl kk HK.out rfl ?_; rw [HSS.out, Option.getD_some]))
        clear hcv c1 c2 b1 b2 cd0 hcp
        rw [hlt3] at O3
        have c1 : w3.cell? ⟨b, 1, none⟩ = some (.map (some bn)) := (O3.pick 2).dkAt.c1
        have Od := O3.drew
        have hfb := Od.fromBytes cap
        rw [HU.out] at hfb
        obtain ⟨w4, hmu, O4⟩ := run_storeO (Od.pick 3) HC2.out kk HK.out _ (by rw [HU.out]; decide)
        have hfb4 := (O4.pick 1).fromBytes cap
        rw [HU.out] at hfb4
        go_region_held3 (fun w' => w'.cell? ⟨b, 1, none⟩ = some (.map (some bn)) ∧ (convert 57 9 (.slice (some ⟨g, 0, none⟩) 128 cap)).run Tryz.prog w' = .ok (.string ⟨(s.take n ++ t.drop n).toArray⟩) w')
          (first
            | exact ⟨c1, hfb⟩
            | exact ⟨(O4.pick 3).dkAt.c1, hfb4⟩)
          (first
            | (refine step_storeO rfl rfl rfl rfl rfl hmu ?_)
            | fail)
        clear hmu hfb hfb4 c1
        have c2 : w4.cell? ⟨b, 2, none⟩ = some (.map (some bw)) := (O4.pick 3).dkAt.c2
        go_wp2_with (at_delete; refine wpList_dropO rfl _ _ rfl (O4.pick 4) rfl kk HK.out rfl ?_; intro w5 O5)
        go_roundw
        case rel =>
          refine ⟨i + 1, by omega, by go_num, ?_⟩
          rw [HMI.out, ← HMK.out, ← HN.out]
          exact O5.selK 5 [3, 4, 1, 0]
        case measure => simp [intOf]; omega
      · have hik2 : ¬ (i : Int) < (xs.length : Int) := by omega
        have hn0 : n = 0 := by rw [HN.out]; unfold keepAt; rw [if_neg hik]
        have hmx : Hid ((0 : Int) = (n : Int)) := Lib.hid (by omega)
        have he0 : (⟨(s.take n).toArray⟩ : ByteArray) = ByteArray.empty := by rw [hn0]; rfl
        have HN0 := Lib.hid hn0
        clear hn0
        obtain ⟨w3, hcp, O3⟩ := run_copy_fitO (cap := cap) (l := s.take n) OB (by rw [List.length_take]; omega) 3
        rw [htl, he0] at hcp
        clear he0
        go_wp2_with (first
          | (at_lookup; refine wpList_lookO rfl _ _ rfl (O.pick 3) rfl kk HK.out rfl ?_; rw [HTT.out, Option.getD_some])
          | (at_lookup; refine wpList_lookO rfl _ _ rfl (OB.pick 3) rfl kk HK.out rfl ?_; rw [HSS.out, Option.getD_some]))
        clear hcv c1 c2 b1 b2 cd0 hcp
        rw [hlt3] at O3
        have c1 : w3.cell? ⟨b, 1, none⟩ = some (.map (some bn)) := (O3.pick 2).dkAt.c1
        have Od := O3.drew
        have hfb := Od.fromBytes cap
        rw [HU.out] at hfb
        obtain ⟨w4, hmu, O4⟩ := run_storeO (Od.pick 3) HC2.out kk HK.out _ (by rw [HU.out]; decide)
        have hfb4 := (O4.pick 1).fromBytes cap
        rw [HU.out] at hfb4
        go_region_held3 (fun w' => w'.cell? ⟨b, 1, none⟩ = some (.map (some bn)) ∧ (convert 57 9 (.slice (some ⟨g, 0, none⟩) 128 cap)).run Tryz.prog w' = .ok (.string ⟨(s.take n ++ t.drop n).toArray⟩) w')
          (first
            | exact ⟨c1, hfb⟩
            | exact ⟨(O4.pick 3).dkAt.c1, hfb4⟩)
          (first
            | (refine step_storeO rfl rfl rfl rfl rfl hmu ?_)
            | fail)
        clear hmu hfb hfb4 c1
        have c2 : w4.cell? ⟨b, 2, none⟩ = some (.map (some bw)) := (O4.pick 3).dkAt.c2
        go_wp2_with (at_delete; refine wpList_dropO rfl _ _ rfl (O4.pick 4) rfl kk HK.out rfl ?_; intro w5 O5)
        go_roundw
        case rel =>
          refine ⟨i + 1, by omega, by go_num, ?_⟩
          rw [HMI.out, ← HMK.out, ← HN.out]
          exact O5.selK 5 [3, 4, 1, 0]
        case measure => simp [intOf]; omega
end Go.Proofs.YtnlppcjfpmnahaaGreatDoor
