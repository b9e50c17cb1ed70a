/- HeadSays: the walk. -/
import Derived.Test.YtnkcanhkdfckmaaDoorHdI
import Derived.Test.YtnkcanhkdfckmaaDoorHdZB
import Derived.Test.YtnkcanhkdfckmaaDoorFrameFd
namespace Go.Proofs.YtnkcanhkdfckmaaDoor
set_option linter.all false
open Go.RowKit

set_option maxRecDepth 100000 in
set_option maxHeartbeats 4000000 in
theorem headSays_walk {w : World} (m : Int) (hm : w.cell? ⟨0, 0, none⟩ = some (.int .i64 m)) (s : List UInt8) (hs : s.length ≤ 140737488351232) (v : Value) (o : ∃ f, FieldIn v f) :
    Calls Tryd.prog 5 #[.string ⟨s.toArray⟩, v] w fun e w' => e = .returned (.bool true) ∧ Below w.heap.size w w' := by
  obtain ⟨f, rfl, n1, n2⟩ := o
  have O := (Own.start w).newBox #[.string ⟨f.1.toArray⟩, .string ⟨f.2.toArray⟩] 29
  have c0 := O.cell 0
  have c1 := O.cell 1
  show Calls Tryd.prog 5 #[.string ⟨s.toArray⟩, .agg #[.string ⟨f.1.toArray⟩, .string ⟨f.2.toArray⟩]] w _
  by_cases h1 : 5000 < s.length
  · have h1' : (5000 : Int) < (s.length : Int) := by omega
    go_enter Tryd.func5, Tryd.ntmps5
    go_wp2_with fail
    refine (awake9_own O hm).mono ?_
    rintro e w1 ⟨rfl, O1⟩
    go_wp2
    go_ret
    exact ⟨rfl, O1.below⟩
  have h1' : ¬ (5000 : Int) < (s.length : Int) := by omega
  by_cases h2 : 5000 < f.1.length + f.2.length
  · have h2' : (5000 : Int) < (f.1.length : Int) + (f.2.length : Int) := by omega
    clear h1
    go_enter Tryd.func5, Tryd.ntmps5
    go_wp2_with fail
    refine (awake9_own O hm).mono ?_
    rintro e w1 ⟨rfl, O1⟩
    go_wp2
    go_ret
    exact ⟨rfl, O1.below⟩
  have h2' : ¬ (5000 : Int) < (f.1.length : Int) + (f.2.length : Int) := by omega
  have z1 : s.length ≤ 10000000 := by omega
  have z2 : f.1.length ≤ 10000000 := by omega
  have z3 : f.2.length ≤ 10000000 := by omega
  obtain ⟨ln, en, hv⟩ : ∃ (ln : List UInt8) (en : Int), showV f = .tuple #[.string ⟨ln.toArray⟩, .int .i64 en] := ⟨_, _, rfl⟩
  obtain ⟨pb, hp⟩ : ∃ b, plainB s = b := ⟨_, rfl⟩
  obtain ⟨hn, hh⟩ : ∃ n, hopsN s = n := ⟨_, rfl⟩
  clear h1 h2
  go_enter Tryd.func5, Tryd.ntmps5
  go_wp2_with fail
  clear c0 c1
  refine (show_own O f z2 z3 hv).mono ?_
  clear O
  rintro e w1 ⟨rfl, O⟩
  have c0 := O.cell 0
  have c1 := O.cell 1
  go_wp2_with fail
  clear c0 c1
  refine (rShow_own O f z2 z3 hv).mono ?_
  clear O
  rintro e w2 ⟨rfl, O⟩
  go_wp2_with fail
  refine (plain_own O hm s z1 hp).mono ?_
  clear O
  rintro e w3 ⟨rfl, O⟩
  go_wp2_with fail
  refine (rPlain_own O s z1 hp).mono ?_
  clear O
  rintro e w4 ⟨rfl, O⟩
  go_wp2_with fail
  refine (hops_own O hm s z1 hh).mono ?_
  clear O
  rintro e w5 ⟨rfl, O⟩
  go_wp2_with fail
  refine (rHops_own O s z1 hh).mono ?_
  clear O
  rintro e w6 ⟨rfl, O⟩
  go_wp2_with fail
  refine (awake9_own O hm).mono ?_
  clear O
  rintro e w7 ⟨rfl, O⟩
  go_wp2
  go_ret
  exact ⟨rfl, O.below⟩
end Go.Proofs.YtnkcanhkdfckmaaDoor
