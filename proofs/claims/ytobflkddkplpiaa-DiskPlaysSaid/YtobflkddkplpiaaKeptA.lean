/- mailroomlaw10.kept. -/
import Derived.Test.YtobflkddkplpiaaDiskFails
import Derived.Test.YtobflkddkplpiaaRowv
namespace Go.Proofs.Ytobflkddkplpiaa
set_option linter.all false
open Go.RowKit Go.Maps

/-- what the sectors are, as a list; what they were at the last Sync -/
def Dk.nowL (m : Dk) : List (List UInt8) := (List.range m.n).map fun k : Nat => m.get k
def Dk.wasL (m : Dk) : List (List UInt8) := (List.range m.n).map fun k : Nat => (m.was k).getD (m.get k)
theorem info_bool : (Try.prog.info? 4).map (fun i => (i.zero, i.size, i.bytes)) = some (some (.bool false), 1, 1) := by kernel_rfl
def wetL (n : Nat) (ds : List Int) (j : Nat) : List Bool := (List.range n).map fun k : Nat => decide ((k : Int) ∈ ds.take j)
def Bv (l : List Bool) : List Value := l.map Value.bool
theorem wetL_zero (n : Nat) (ds : List Int) : Bv (wetL n ds 0) = List.replicate n (.bool false) := by
  apply List.ext_getElem <;> simp [Bv, wetL]
theorem wetL_set {n : Nat} {ds : List Int} {j : Nat} (hj : j < ds.length) {k : Nat} (hk : ds[j] = (k : Int)) : (Bv (wetL n ds j)).set k (.bool true) = Bv (wetL n ds (j + 1)) := by
  apply List.ext_getElem
  · simp [Bv, wetL]
  · intro i h1 h2
    have hi : i < n := by simpa [Bv, wetL] using h2
    rw [List.getElem_set]
    simp only [Bv, wetL, List.getElem_map, List.getElem_range, List.take_succ_eq_append_getElem hj, hk]
    by_cases h : k = i
    · subst h; simp
    · rw [if_neg h]
      have : (i : Int) ≠ (k : Int) := by omega
      simp [this]
/-- is each byte as it was, or, where the sector is wet, as it is now? -/
def KeptOk (m : Dk) (ds : List Int) (was now : List (List UInt8)) : Prop :=
  ∀ k, (hk : k < m.n) → (m.get k).length = 128 ∧ ∃ a b, was[k]? = some a ∧ now[k]? = some b ∧ a.length = 128 ∧ b.length = 128 ∧
    ∀ i, i < 128 → (m.get k)[i]? = a[i]? ∨ ((k : Int) ∈ ds ∧ (m.get k)[i]? = b[i]?)
theorem made_false (n : Nat) : (madeCells #[Value.bool false] n).toList = List.replicate n (.bool false) := by
  apply List.ext_getElem
  · simp [madeCells]
  · intro i h1 h2
    simp [madeCells, Nat.mod_one]
theorem Own.strsAt {w0 w : World} {L : List Piece} {a : Option Addr} {n cap : Nat} {ss : List (List UInt8)} (h : Own w0 w (strs (.slice a n cap) ss :: L)) (k : Nat) (hk : k < ss.length) : n = ss.length ∧ ∃ g, a = some ⟨g, 0, none⟩ ∧ w.cell? ⟨g, k, none⟩ = some (.string ⟨ss[k].toArray⟩) ∧ w.frozen? ⟨g, k, none⟩ = false := by
  rcases row_shape' h.row with e | ⟨g, cap', e⟩
  · obtain ⟨a', c', e'⟩ := h.shape
    simp only [Value.slice.injEq] at e e'
    omega
  · simp only [Value.slice.injEq] at e
    obtain ⟨rfl, -, -⟩ := e
    obtain ⟨h1, h2, h3⟩ := h.readRow k hk
    exact ⟨h1, g, rfl, h2, h3⟩
theorem read_in {m : Dk} (ho : m.off = false) {k : Nat} (hk : k < m.n) : m.read (k : Int) = (m.get k, 0) := by
  unfold Dk.read; rw [if_neg (by simp [ho]), if_neg (by omega)]
set_option maxRecDepth 100000 in
set_option maxHeartbeats 4000000 in
theorem kept_own {w0 w : World} {L : List Piece} {p : Value} {m : Dk} {vw vn : Value} {was now : List (List UInt8)} {ad : Option Addr} {nd cd : Nat} {ds : List Int} (hoff : m.off = false)
    (O : Own w0 w (dk p m :: strs vw was :: strs vn now :: nums (.slice ad nd cd) ds :: L)) (hn : m.n ≤ 1024) (hwl : was.length = m.n) (hnl : now.length = m.n) (hds : ∀ d ∈ ds, 0 ≤ d ∧ d < m.n) (hdl : ds.length ≤ 1024)
    (hk : KeptOk m ds was now) :
    Calls Try.prog 19 #[p, vw, vn, .slice ad nd cd] w fun e w' => e = .returned (.bool true) ∧ Own w0 w' (dk p m :: strs vw was :: strs vn now :: nums (.slice ad nd cd) ds :: L) := by
  obtain ⟨aw, cw, rfl⟩ := (O.pick 1).shape
  obtain ⟨an, cn, rfl⟩ := (O.pick 2).shape
  obtain ⟨_, _, hsl⟩ := (O.pick 3).numsShape
  simp only [Value.slice.injEq] at hsl
  obtain ⟨-, rfl, -⟩ := hsl
  obtain ⟨i0, hi0, hz0, hz1, hz2⟩ := info_parts info_bool
  have HK := Lib.hid hk; have HD := Lib.hid hds; have HI := Lib.hid hi0; have HZ := Lib.hid hz0; have HZ1 := Lib.hid hz1; have HZ2 := Lib.hid hz2
  clear hk hds hi0 hz0 hz1 hz2
  have HO := Lib.hid hoff; clear hoff
  have HW := Lib.hid hwl; have HN := Lib.hid hnl
  have hb0 : was.length ≤ 1024 := by omega
  go_enter Try.func19, Try.ntmps19
  clear hwl hnl
  go_wp2_with (at_make; refine wpList_make_rowO (e := 4) (size := 1) rfl _ rfl i0 (.bool false) Try.underlying71 HI.out HZ.out HZ1.out (by rw [HZ2.out]; omega) was.length rfl (by omega) O ?_)
  intro g w1 O1
  clear O
  rw [made_false, ← wetL_zero was.length ds] at O1
  go_wp2_with fail
  go_loopw [10] (fun iv wr => ∃ j : Nat, iv = .int .i64 j ∧ j ≤ ds.length ∧ Own w0 wr (rowv 4 1 (.slice (some ⟨g, 0, none⟩) was.length was.length) was.length (Bv (wetL was.length ds j)) :: dk p m :: strs (.slice aw was.length cw) was :: strs (.slice an now.length cn) now :: nums (.slice ad ds.length cd) ds :: L)) (fun iv _ => ds.length - (intOf iv).toNat)
  case atStart => exact ⟨0, rfl, by omega, O1⟩
  case round =>
    clear O1
    obtain ⟨j, rfl, hj, O⟩ := hrel
    by_cases hlt : j < ds.length
    · have hb1 : (j : Int) < (ds.length : Int) := by omega
      obtain ⟨gd, e1, c1, _⟩ := (O.pick 4).numsAt j hlt
      subst e1
      have hdj := HD.out _ (List.getElem_mem hlt)
      obtain ⟨k, hk⟩ : ∃ k : Nat, ds[j] = (k : Int) := ⟨ds[j].toNat, by omega⟩
      have hkn : k < was.length := by rw [HW.out]; omega
      obtain ⟨-, g', e2, c2, f2⟩ := O.rowvAt k (by simpa [Bv, wetL] using hkn)
      simp only [Option.some.injEq, Addr.mk.injEq] at e2
      obtain ⟨rfl, -, -⟩ := e2
      have O2 := O.rowvStore k (.bool true)
      rw [wetL_set hlt hk] at O2
      rw [hk] at c1
      have hkb : (k : Int) < (was.length : Int) := by omega
      clear O hdj hk
      go_wp2
      go_roundw
      case rel => exact ⟨j + 1, by go_num, by omega, O2⟩
      case measure => simp [intOf]; omega
    · have hb1 : ¬ (j : Int) < (ds.length : Int) := by omega
      have hjl : j = ds.length := by omega
      have hwet : wetL was.length ds j = (List.range was.length).map fun k : Nat => decide ((k : Int) ∈ ds) := by rw [hjl]; simp [wetL]
      rw [hwet] at O
      clear hjl hwet hlt hj
      go_wp2_with fail
      go_loopw [11] (fun iv wr => ∃ k : Nat, iv = .int .i64 k ∧ k ≤ was.length ∧ Own w0 wr (rowv 4 1 (.slice (some ⟨g, 0, none⟩) was.length was.length) was.length (Bv ((List.range was.length).map fun k : Nat => decide ((k : Int) ∈ ds))) :: dk p m :: strs (.slice aw was.length cw) was :: strs (.slice an now.length cn) now :: nums (.slice ad ds.length cd) ds :: L)) (fun iv _ => was.length - (intOf iv).toNat)
      case atStart => exact ⟨0, rfl, by omega, O⟩
      case round =>
        clear O hb1
        obtain ⟨k, rfl, hk, O⟩ := hrel
        by_cases hlt : k < was.length
        · have hb1 : (k : Int) < (was.length : Int) := by omega
          have hkm : k < m.n := by have := HW.out; omega
          obtain ⟨hl0, a, b, ha, hb, hal, hbl, hby⟩ := HK.out k hkm
          obtain ⟨s, hs⟩ : ∃ s, s = m.get k := ⟨_, rfl⟩
          have hrd := read_in HO.out hkm
          rw [← hs] at hrd hl0 hby
          have HR := Lib.hid hrd; have HA := Lib.hid ha; have HB := Lib.hid hb; have HY := Lib.hid hby; have HL0 := Lib.hid hl0; have HAL := Lib.hid hal; have HBL := Lib.hid hbl
          clear hrd ha hb hby hl0 hal hbl hs hkm
          go_wp2_with fail
          refine (read_own (O.pick 1) k (I64.nat (by omega))).mono ?_
          rw [HR.out]
          clear O
          rintro e w9 ⟨rfl, O⟩
          replace O := O.selK 5 [1, 0, 2, 3, 4]
          have i1 : ((s.length : Int) != 128) = false := by rw [HL0.out]; rfl
          go_wp2_with fail
          go_loopw [14] (fun iv wr => ∃ i : Nat, iv = .int .i64 i ∧ i ≤ s.length ∧ Own w0 wr (rowv 4 1 (.slice (some ⟨g, 0, none⟩) was.length was.length) was.length (Bv ((List.range was.length).map fun k : Nat => decide ((k : Int) ∈ ds))) :: dk p m :: strs (.slice aw was.length cw) was :: strs (.slice an now.length cn) now :: nums (.slice ad ds.length cd) ds :: L)) (fun iv _ => s.length - (intOf iv).toNat)
          case atStart => exact ⟨0, rfl, by omega, O⟩
          case round =>
            clear O i1
            obtain ⟨i, rfl, hi, O⟩ := hrel
            by_cases hil : i < s.length
            · have hb2 : (i : Int) < (s.length : Int) := by omega
              have hi128 : i < 128 := by have := HL0.out; omega
              have hkn : k < now.length := by have := HW.out; have := HN.out; omega
              have hkb : (k : Int) < (now.length : Int) := by omega
              have hia : i < a.length := by have := HL0.out; have := HAL.out; omega
              have hib : i < b.length := by have := HL0.out; have := HBL.out; omega
              obtain ⟨-, gw, e1, c1, -⟩ := (O.pick 2).strsAt k hlt
              obtain ⟨-, gn, e2, c2, -⟩ := (O.pick 3).strsAt k hkn
              obtain ⟨-, g', e3, c3, -⟩ := O.rowvAt k (by simpa [Bv] using hlt)
              simp only [Option.some.injEq, Addr.mk.injEq] at e3
              obtain ⟨rfl, -, -⟩ := e3
              subst e1 e2
              rw [show was[k] = a from by have := HA.out; rw [List.getElem?_eq_getElem hlt] at this; exact Option.some.inj this] at c1
              rw [show now[k] = b from by have := HB.out; rw [List.getElem?_eq_getElem hkn] at this; exact Option.some.inj this] at c2
              have hq := HY.out i (by have := HL0.out; omega)
              rw [List.getElem?_eq_getElem hil, List.getElem?_eq_getElem hia, List.getElem?_eq_getElem hib] at hq
              simp only [Option.some.injEq] at hq
              by_cases hsa : s[i] = a[i]
              · have i2 : (((s[i]).toNat : Int) != ((a[i]).toNat : Int)) = false := by simp [hsa]
                clear hsa hq c2 c3
                go_wp2_with fail
                go_quiet (fail)
                go_wp2
                go_roundw
                case rel => exact ⟨i + 1, by go_num, by omega, O.drewN _⟩
                case measure => simp [intOf]; omega
              · have i2 : (((s[i]).toNat : Int) != ((a[i]).toNat : Int)) = true := by
                  simp only [bne_iff_ne, ne_eq]
                  intro e
                  exact hsa (UInt8.toNat_inj.1 (by omega))
                obtain ⟨hin, hsb⟩ := hq.resolve_left hsa
                have i3 : (((s[i]).toNat : Int) != ((b[i]).toNat : Int)) = false := by simp [hsb]
                simp only [Bv, List.getElem_map, List.getElem_range, hin, decide_true] at c3
                clear hsa hin hsb
                go_wp2_with fail
                go_quiet (fail)
                go_wp2
                go_roundw
                case rel => exact ⟨i + 1, by go_num, by omega, O.drewN _⟩
                case measure => simp [intOf]; omega
            · have hb2 : ¬ (i : Int) < (s.length : Int) := by omega
              go_wp2
              go_roundw
              case rel => exact ⟨k + 1, by go_num, by omega, O⟩
              case measure => simp [intOf]; omega
        · have hb1 : ¬ (k : Int) < (was.length : Int) := by omega
          go_wp2
          go_ret
          exact ⟨rfl, O.drop⟩
end Go.Proofs.Ytobflkddkplpiaa
