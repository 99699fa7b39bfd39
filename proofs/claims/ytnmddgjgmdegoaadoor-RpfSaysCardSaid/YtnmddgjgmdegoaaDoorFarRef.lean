/- ferryhytheref3.Far: the distances. -/
import Derived.Test.YtnmddgjgmdegoaaDoorWalks
namespace Go.Proofs.YtnmddgjgmdegoaaDoor
open Go.RowKit
set_option linter.unusedVariables false

set_option maxHeartbeats 2000000 in
theorem farRef_ok (n : Nat) (ao : Option Addr) (len ac B0 : Nat) (L : List Lnk) (p : Nat) (w : World) (hA : RowSl B0 w ao 3 (L.map lnkC)) (hlen : len = L.length) (hB : B0 ≤ w.heap.size) (hok : VOk n L) (hp : p < n) :
    Calls Tryd.prog 42 #[.int .i64 n, .slice ao len ac, .int .i64 p] w fun e w' => ∃ v, e = .returned v ∧
      Sep w.heap.size w' [Ent.ints 3 v (arr (far (edges L) p) n)] ∧ Below w.heap.size w w' := by
  subst hlen
  have HA := Lib.hid hA; clear hA
  have HOK := Lib.hid hok
  have hn8 := hok.n8
  have hn1 := hok.n1
  clear hok
  have hw : arr (fun i => bell (edges L) n i p) n = arr (far (edges L) p) n := arr_congr fun i hi => by
    rw [bell_far HOK.out.net hn8 (by omega) hp]; exact far_swap HOK.out.net
  have HW := Lib.hid hw; clear hw
  have hn20 : n ≤ 20 := by omega
  have HW2 := Lib.hid (walks_ok n ao L.length ac B0 L p n w HA.out rfl hB HOK.out hp hn20)
  go_enter Tryd.func42, Tryd.ntmps42
  go_wp2_with fail
  refine HW2.out.mono ?_
  rintro e w1 ⟨v, rfl, hs, hb⟩
  rw [HW.out] at hs
  have HS := Lib.hid hs
  have HB := Lib.hid hb
  clear hs hb
  go_wp2
  go_ret
  exact ⟨_, rfl, HS.out, HB.out⟩
end Go.Proofs.YtnmddgjgmdegoaaDoor
