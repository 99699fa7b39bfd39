/- learnFact: the closed fact holds. -/
import Derived.Test.YtommedhaaojgiaaDoorLearnDown
import Derived.Test.YtommedhaaojgiaaDoorInts
namespace Go.Proofs.YtommedhaaojgiaaDoor
open Go.RowKit
set_option linter.unusedVariables false

/-- Frame, its answer told as a slice that is read. -/
theorem frame_res (B g : Nat) (v : Value) (T T' : Tab) (l : List Int) (F : List Ent) (a t p : Int) (w : World) (hv : Valid a t p) (hl : T.length ≤ 8) (hT : heardT T a p = T') (ho : outs T' t p = l) (hsep : Sep B w (swE g v T ++ F)) (hB : B ≤ w.heap.size) :
    Calls Tryd.prog 12 #[.pointer (some ⟨g, 0, none⟩), .int .i64 a, .int .i64 t, .int .i64 p] w fun e w' => ∃ lo lc v', e = .returned (.tuple #[.slice lo l.length lc, .nilIface]) ∧
      l.length ≤ lc ∧ Sep B w' (swE g v' T' ++ (Ent.ints 3 (.slice lo l.length lc) l :: F)) ∧ Below B w w' := by
  subst hT
  subst ho
  refine (frame_ok B g v T F a t p w hv.1 hv.2.1 hv.2.2 hl hsep hB).mono ?_
  rintro e w' ⟨lv, v', rfl, hs, hb⟩
  obtain ⟨lo, lc, rfl, hlc, _⟩ := hs.intsShape (A := [])
  exact ⟨lo, lc, v', rfl, hlc, hs.perm List.perm_middle.symm, hb⟩

set_option maxHeartbeats 1000000 in
set_option maxRecDepth 100000 in
theorem learnFact_any (w : World) : Calls Tryd.prog 7 #[] w fun e w' => e = .returned (.bool true) ∧ Below w.heap.size w w' := by
  go_enter Tryd.func7, Tryd.ntmps7
  go_wp2_with fail
  refine (learnNew_any _).mono ?_
  rintro e w1 ⟨g, rfl, hs, hb⟩
  have HS1 : Hid (Sep w.heap.size w1 (swE g (.slice none 0 0) [] ++ [])) := hs
  have HB1 := Lib.hid hb; clear hb hs
  go_wp2_with fail
  refine (frame_res _ g _ [] [(5, 1)] [0, 2, 3] [] 5 6 1 _ (by decide) (by decide) (by decide) (by decide) HS1.out HB1.out.size).mono ?_
  rintro e w2 ⟨lo1, lc1, v1, rfl, hc1, hs, hb⟩
  have HS2 := Lib.hid hs; clear hs
  have HB2 := Lib.hid (HB1.out.trans hb); clear hb
  go_wp2_with fail
  refine (frame_res _ g _ [(5, 1)] [(5, 1), (6, 2)] [1] _ 6 5 2 _ (by decide) (by decide) (by decide) (by decide) HS2.out HB2.out.size).mono ?_
  rintro e w3 ⟨lo2, lc2, v2, rfl, hc2, hs, hb⟩
  have HS3 := Lib.hid hs; clear hs
  have HB3 := Lib.hid (HB2.out.trans hb); clear hb
  go_wp2_with fail
  refine (frame_res _ g _ [(5, 1), (6, 2)] [(6, 2), (5, 1)] [2] _ 5 6 1 _ (by decide) (by decide) (by decide) (by decide) HS3.out HB3.out.size).mono ?_
  rintro e w4 ⟨lo3, lc3, v3, rfl, hc3, hs, hb⟩
  have HB4 := Lib.hid (HB3.out.trans hb); clear hb
  have HX := Lib.hid (fun o => (hs.intSl (A := [_, _, _, _]) (C := [])).past (Nat.le_refl _) o)
  have HY := Lib.hid (hs.intSl (A := [_, _, _]) (C := [_]))
  have HZ := Lib.hid (hs.intSl (A := [_, _]) (C := [_, _]))
  clear hs
  go_wp2_with fail
  refine (ints_any _ _ _ _ _ _ _ _ [0, 2, 3] [0, 2, 3] true _ (HX.out _) (intSl_new _ _ _ _ rfl) rfl rfl (by decide) (by decide)).mono ?_
  rintro e w5 ⟨rfl, hd⟩
  have HB5 := Lib.hid (below_past (below_of_drew hd)); clear hd
  have HY2 := Lib.hid (fun o => (HY.out.on (Nat.le_refl _) HB5.out).past HB5.out.size o)
  go_wp2_with fail
  refine (ints_any _ _ _ _ _ _ _ _ [1] [1] true _ (HY2.out _) (intSl_new _ _ _ _ rfl) rfl rfl (by decide) (by decide)).mono ?_
  rintro e w6 ⟨rfl, hd⟩
  have HB6 := Lib.hid (below_past (below_of_drew hd)); clear hd
  have HB56 := Lib.hid (HB5.out.trans (HB6.out.mono HB5.out.size))
  have HZ2 := Lib.hid (fun o => (HZ.out.on (Nat.le_refl _) HB56.out).past HB56.out.size o)
  go_wp2_with fail
  refine (ints_any _ _ _ _ _ _ _ _ [2] [2] true _ (HZ2.out _) (intSl_new _ _ _ _ rfl) rfl rfl (by decide) (by decide)).mono ?_
  rintro e w7 ⟨rfl, hd⟩
  have HB7 := Lib.hid (below_past (below_of_drew hd)); clear hd
  go_wp2
  go_ret
  exact ⟨rfl, HB4.out.trans ((HB56.out.mono HB4.out.size).trans (HB7.out.mono (Nat.le_trans HB4.out.size HB56.out.size)))⟩
end Go.Proofs.YtommedhaaojgiaaDoor
