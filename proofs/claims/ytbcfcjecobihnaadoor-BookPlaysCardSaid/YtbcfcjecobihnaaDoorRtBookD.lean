/- ferryhytheref4.Book.Drop; both as the plain book. -/
import Derived.Test.YtbcfcjecobihnaaDoorRtBook
namespace Go.Proofs.YtbcfcjecobihnaaDoor
open Go.RowKit
set_option linter.unusedVariables false
set_option linter.unusedSimpArgs false
set_option maxRecDepth 100000

set_option maxHeartbeats 1000000 in
theorem rbDrop_full (B : Nat) (sp : Value) (s : ByteArray) (m : Nat) (L : List Rte) (F : List Ent) (a n : Int) (w : World) (h : Sep B w (rteE sp L :: F)) (hB : B ≤ w.heap.size) (hm : m = 60) :
    Calls Tryd.prog 7 #[.agg #[sp, .string s, .int .i64 (m : Int)], .agg #[.int .i64 a, .int .i64 n]] w fun e w' =>
      e = .returned (.tuple #[.agg #[sp, .string s, .int .i64 (m : Int)], .int .i64 4]) ∧ Sep B w' (rteE sp L :: F) ∧ Below B w w' := by
  have hd : decide ((60 : Int) ≤ (m : Int)) = true := decide_eq_true (by omega)
  have hd2 : decide (60 ≤ m) = true := decide_eq_true (by omega)
  clear hm
  obtain ⟨W, hW, hs0, hb0⟩ := rbE_new (s := s) (m := (m : Int)) 34 #[.int .i64 a, .int .i64 n] h hB
  obtain ⟨⟨ao, cap, rfl, hcap⟩⟩ : Nonempty _ := ⟨rte_shape (A := []) h⟩
  obtain ⟨gs, hgs⟩ : ∃ x, x = w.heap.size + 1 + 1 := ⟨_, rfl⟩
  obtain ⟨gr, hgr⟩ : ∃ x, x = w.heap.size + 1 := ⟨_, rfl⟩
  obtain ⟨gb, hgb⟩ : ∃ x, x = w.heap.size := ⟨_, rfl⟩
  rw [← hgs, ← hgr, ← hgb] at hs0
  have HS0 := Lib.hid hs0
  have HB0 := Lib.hid hb0
  have HW := Lib.hid hW
  have HGS := Lib.hid hgs
  have HGR := Lib.hid hgr
  have HGB := Lib.hid hgb
  clear h hs0 hb0 hW hgs hgr hgb
  obtain ⟨⟨b0, b1, b2, fb⟩, hcs, ⟨s0, s1, s2⟩, ⟨f0, f1, f2⟩, hg0⟩ := rbE_cells HS0.out
  have r0 := hcs 0 _ rfl
  have r1 := hcs 1 _ rfl
  skip
  clear hcs
  go_enter Tryd.func7, Tryd.ntmps7
  go_upto_region 1 with fail
  rw [← HW.out, ← HGS.out, ← HGR.out, ← HGB.out]
  clear HW
  obtain ⟨wf, hwf, he1, he2, k0, k1, k2⟩ := rbE_end (.slice ao L.length cap) (.string s) (.int .i64 (m : Int)) HS0.out HB0.out
  have HE1 := Lib.hid he1
  have HE2 := Lib.hid he2
  have HWF := Lib.hid hwf
  rw [hwf] at k0 k1 k2
  clear he1 he2 hwf
  go_wp2
  try simp only [Exit.inBlock, Exit.then]
  refine bodyPost_ret (v := .tuple #[.agg #[(.slice ao L.length cap), (.string s), (.int .i64 (m : Int))], .int .i64 4]) (by simp [results, Tryd.results7, go_sem, k0, k1, k2]) rfl ?_
  rw [← HWF.out]
  exact ⟨rfl, HE1.out, HE2.out⟩
set_option maxHeartbeats 1000000 in
theorem rbDrop_bad (B : Nat) (sp : Value) (s : ByteArray) (m : Nat) (L : List Rte) (F : List Ent) (a n : Int) (w : World) (h : Sep B w (rteE sp L :: F)) (hB : B ≤ w.heap.size) (hm : m < 60) (hl : L.length ≤ 32) (hs : SrtR L) (hz : ¬ (dropR L a n).2 = 0) :
    Calls Tryd.prog 7 #[.agg #[sp, .string s, .int .i64 (m : Int)], .agg #[.int .i64 a, .int .i64 n]] w fun e w' =>
      e = .returned (.tuple #[.agg #[sp, .string s, .int .i64 (m : Int)], .int .i64 (dropR L a n).2]) ∧ Sep B w' (rteE sp L :: F) ∧ Below B w w' := by
  have hcall := fun (sp' : Value) (F' : List Ent) (w1 : World) (h2 : Sep B w1 (rteE sp' L :: F')) (h1 : B ≤ w1.heap.size) => rtDrop_any B sp' L F' a n w1 h2 h1 hl hs
  rw [dropR_err hz] at hcall
  obtain ⟨c, hcc⟩ : ∃ c, c = (dropR L a n).2 := ⟨_, rfl⟩
  rw [← hcc] at hz hcall ⊢
  have hcd : (c != 0) = true := by simp [hz]
  have HCALL := Lib.hid hcall
  have HZ := Lib.hid hz
  clear hcall hz hcc hs
  have hd : decide ((60 : Int) ≤ (m : Int)) = false := decide_eq_false (by omega)
  have hd2 : decide (60 ≤ m) = false := decide_eq_false (by omega)
  obtain ⟨W, hW, hs0, hb0⟩ := rbE_new (s := s) (m := (m : Int)) 34 #[.int .i64 a, .int .i64 n] h hB
  obtain ⟨⟨ao, cap, rfl, hcap⟩⟩ : Nonempty _ := ⟨rte_shape (A := []) h⟩
  obtain ⟨gs, hgs⟩ : ∃ x, x = w.heap.size + 1 + 1 := ⟨_, rfl⟩
  obtain ⟨gr, hgr⟩ : ∃ x, x = w.heap.size + 1 := ⟨_, rfl⟩
  obtain ⟨gb, hgb⟩ : ∃ x, x = w.heap.size := ⟨_, rfl⟩
  rw [← hgs, ← hgr, ← hgb] at hs0
  have HS0 := Lib.hid hs0
  have HB0 := Lib.hid hb0
  have HW := Lib.hid hW
  have HGS := Lib.hid hgs
  have HGR := Lib.hid hgr
  have HGB := Lib.hid hgb
  clear h hs0 hb0 hW hgs hgr hgb
  obtain ⟨⟨b0, b1, b2, fb⟩, hcs, ⟨s0, s1, s2⟩, ⟨f0, f1, f2⟩, hg0⟩ := rbE_cells HS0.out
  have r0 := hcs 0 _ rfl
  have r1 := hcs 1 _ rfl
  skip
  clear hcs
  go_enter Tryd.func7, Tryd.ntmps7
  go_upto_region 1 with fail
  rw [← HW.out, ← HGS.out, ← HGR.out, ← HGB.out]
  clear HW
  go_wp2_with fail
  refine (HCALL.out _ _ _ HS0.out hg0).mono ?_
  rintro e w1 ⟨sp', rfl, hs1, hb1, hsp⟩
  obtain rfl := hsp HZ.out
  have HS1 := Lib.hid hs1
  have HB1 := Lib.hid (HB0.out.trans hb1)
  clear b0 b1 b2 fb s0 s1 s2 f0 f1 f2 r0 r1
  clear hs1 hb1 hsp HS0 HB0 hg0
  obtain ⟨⟨b0, b1, b2, fb⟩, hcs, ⟨s0, s1, s2⟩, ⟨f0, f1, f2⟩, hg1⟩ := rbE_cells HS1.out
  have r0 := hcs 0 _ rfl
  have r1 := hcs 1 _ rfl
  skip
  clear hcs
  have HS2 := Lib.hid (HS1.out.alloc (.cells #[.slice ao L.length cap] 27))
  have HB2 := Lib.hid (HB1.out.alloc hg1 (.cells #[.slice ao L.length cap] 27))
  go_upto_region 4 with fail
  clear b0 b1 b2 fb s0 s1 s2 f0 f1 f2 r0 r1
  clear HS1 HB1
  generalize w1.alloc (.cells #[.slice ao L.length cap] 27) = w2 at *
  obtain ⟨⟨b0, b1, b2, fb⟩, hcs, ⟨s0, s1, s2⟩, ⟨f0, f1, f2⟩, hg2⟩ := rbE_cells HS2.out
  have r0 := hcs 0 _ rfl
  have r1 := hcs 1 _ rfl
  skip
  clear hcs
  obtain ⟨wf, hwf, he1, he2, k0, k1, k2⟩ := rbE_end (.slice ao L.length cap) (.string s) (.int .i64 (m : Int)) HS2.out HB2.out
  have HE1 := Lib.hid he1
  have HE2 := Lib.hid he2
  have HWF := Lib.hid hwf
  rw [hwf] at k0 k1 k2
  clear he1 he2 hwf
  go_wp2
  try simp only [Exit.inBlock, Exit.then]
  refine bodyPost_ret (v := .tuple #[.agg #[(.slice ao L.length cap), (.string s), (.int .i64 (m : Int))], .int .i64 c]) (by simp [results, Tryd.results7, go_sem, k0, k1, k2]) rfl ?_
  rw [← HWF.out]
  exact ⟨rfl, HE1.out, HE2.out⟩
set_option maxHeartbeats 2000000 in
theorem rbDrop_ok (B : Nat) (sp : Value) (s : ByteArray) (m : Nat) (L : List Rte) (F : List Ent) (a n : Nat) (w : World) (h : Sep B w (rteE sp L :: F)) (hB : B ≤ w.heap.size) (hm : m < 60) (hl : L.length ≤ 32) (hs : SrtR L) (hz : (dropR L a n).2 = 0) (ha : a ≤ 65535) (hn : n ≤ 65535) (hss : s.size ≤ 100000) :
    Calls Tryd.prog 7 #[.agg #[sp, .string s, .int .i64 (m : Int)], .agg #[.int .i64 a, .int .i64 n]] w fun e w' =>
      ∃ sp' s', e = .returned (.tuple #[.agg #[sp', .string s', .int .i64 ((m : Int) + 1)], .int .i64 0]) ∧ s'.data.toList = s.data.toList ++ lineOf (wordOf [100] [a, n]) ∧ Sep B w' (rteE sp' (dropR L a n).1 :: F) ∧ Below B w w' := by
  have hcall := fun (sp' : Value) (F' : List Ent) (w1 : World) (h2 : Sep B w1 (rteE sp' L :: F')) (h1 : B ≤ w1.heap.size) => rtDrop_any B sp' L F' a n w1 h2 h1 hl hs
  rw [hz] at hcall
  obtain ⟨LL, hLL⟩ : ∃ LL, LL = (dropR L a n).1 := ⟨_, rfl⟩
  rw [← hLL] at hcall ⊢
  have HCALL := Lib.hid hcall
  clear hcall hz hLL hs
  have hd : decide ((60 : Int) ≤ (m : Int)) = false := decide_eq_false (by omega)
  have hd2 : decide (60 ≤ m) = false := decide_eq_false (by omega)
  obtain ⟨W, hW, hs0, hb0⟩ := rbE_new (s := s) (m := (m : Int)) 34 #[.int .i64 (a : Int), .int .i64 (n : Int)] h hB
  obtain ⟨⟨ao, cap, rfl, hcap⟩⟩ : Nonempty _ := ⟨rte_shape (A := []) h⟩
  obtain ⟨gs, hgs⟩ : ∃ x, x = w.heap.size + 1 + 1 := ⟨_, rfl⟩
  obtain ⟨gr, hgr⟩ : ∃ x, x = w.heap.size + 1 := ⟨_, rfl⟩
  obtain ⟨gb, hgb⟩ : ∃ x, x = w.heap.size := ⟨_, rfl⟩
  rw [← hgs, ← hgr, ← hgb] at hs0
  have HS0 := Lib.hid hs0
  have HB0 := Lib.hid hb0
  have HW := Lib.hid hW
  have HGS := Lib.hid hgs
  have HGR := Lib.hid hgr
  have HGB := Lib.hid hgb
  clear h hs0 hb0 hW hgs hgr hgb
  obtain ⟨⟨b0, b1, b2, fb⟩, hcs, ⟨s0, s1, s2⟩, ⟨f0, f1, f2⟩, hg0⟩ := rbE_cells HS0.out
  have r0 := hcs 0 _ rfl
  have r1 := hcs 1 _ rfl
  skip
  clear hcs
  go_enter Tryd.func7, Tryd.ntmps7
  go_upto_region 1 with fail
  rw [← HW.out, ← HGS.out, ← HGR.out, ← HGB.out]
  clear HW
  go_wp2_with fail
  refine (HCALL.out _ _ _ HS0.out hg0).mono ?_
  rintro e w1 ⟨sp', rfl, hs1, hb1, -⟩
  obtain ⟨ao', N', cap', rfl⟩ : ∃ a n c, sp' = .slice a n c := by
    obtain ⟨a', c', e, -⟩ := rte_shape (A := []) hs1
    exact ⟨a', _, c', e⟩
  have HS1 := Lib.hid hs1
  have HB1 := Lib.hid (HB0.out.trans hb1)
  clear b0 b1 b2 fb s0 s1 s2 f0 f1 f2 r0 r1
  clear hs1 hb1 HS0 HB0 hg0
  obtain ⟨⟨b0, b1, b2, fb⟩, hcs, ⟨s0, s1, s2⟩, ⟨f0, f1, f2⟩, hg1⟩ := rbE_cells HS1.out
  have r0 := hcs 0 _ rfl
  have r1 := hcs 1 _ rfl
  skip
  clear hcs
  have hs2 := HS1.out.blkNew hg1 #[.slice ao' N' cap'] 27
  have HB2 := Lib.hid (HB1.out.alloc hg1 (.cells #[.slice ao' N' cap'] 27))
  obtain ⟨gn, hgn⟩ : ∃ gn, gn = w1.heap.size := ⟨_, rfl⟩
  rw [← hgn] at hs2
  have HS2 := Lib.hid hs2
  have HGN := Lib.hid hgn
  clear hs2 hgn
  go_upto_region 4 with fail
  rw [← HGN.out]
  clear b0 b1 b2 fb s0 s1 s2 f0 f1 f2 r0 r1
  clear HS1 HB1 HGN
  generalize w1.alloc (.cells #[.slice ao' N' cap'] 27) = w2 at *
  have n0 := (Sep.blkAt (A := []) HS2.out (j := 0) rfl).1
  obtain ⟨c0, d0⟩ := Sep.blkAt (A := [_, _, _, _]) HS2.out (j := 0) rfl
  have hs3 := Sep.blkSet (A := [_, _, _, _]) HS2.out 0 (.slice ao' N' cap')
  have hb3 := HB2.out.setCell (p := ⟨gb, 0, none⟩) (Sep.blkLt (A := [_, _, _, _]) HS2.out).1 (.slice ao' N' cap')
  have HS3 := Lib.hid (show Sep B _ (rbE gs gr gb 34 [.int .i64 (a : Int), .int .i64 (n : Int)] (.slice ao' N' cap') (.slice ao' N' cap') s (m : Int) LL F) from hs3.sub (List.sublist_cons_self _ _))
  have HB3 := Lib.hid hb3
  clear hs3 hb3
  go_upto_region 7 with fail
  clear n0 c0 d0 HS2 HB2
  generalize w2.setCell ⟨gb, 0, none⟩ (.slice ao' N' cap') = w3 at *
  have hstat : ∀ w', Sep B w' [Ent.blk1 gr 34 [.int .i64 (a : Int), .int .i64 (n : Int)], Ent.blk1 gb 29 (bkC (.slice ao' N' cap') s (m : Int))] →
      w'.cell? ⟨gb, 0, none⟩ = some (.slice ao' N' cap') ∧ w'.cell? ⟨gb, 1, none⟩ = some (.string s) ∧ w'.cell? ⟨gb, 2, none⟩ = some (.int .i64 (m : Int)) ∧ w'.cell? ⟨gr, 0, none⟩ = some (.int .i64 (a : Int)) ∧ w'.cell? ⟨gr, 1, none⟩ = some (.int .i64 (n : Int)) := fun w' h =>
    ⟨(Sep.blkAt (A := [_]) h (j := 0) rfl).1, (Sep.blkAt (A := [_]) h (j := 1) rfl).1, (Sep.blkAt (A := [_]) h (j := 2) rfl).1, (Sep.blkAt (A := []) h (j := 0) rfl).1, (Sep.blkAt (A := []) h (j := 1) rfl).1⟩
  have HSTAT := Lib.hid hstat
  clear hstat
  have la := digits_len a (by omega)
  have ln := digits_len n (by omega)
  obtain ⟨Y1, hY1⟩ : ∃ X, X = (⟨#[100, 32]⟩ : ByteArray) ++ (⟨(Lib.decDigits a).toArray⟩ : ByteArray) := ⟨_, rfl⟩
  obtain ⟨Y2, hY2⟩ : ∃ X, X = Y1 ++ (⟨#[32]⟩ : ByteArray) := ⟨_, rfl⟩
  obtain ⟨Y3, hY3⟩ : ∃ X, X = Y2 ++ (⟨(Lib.decDigits n).toArray⟩ : ByteArray) := ⟨_, rfl⟩
  have z1 : Y1.size = 2 + (Lib.decDigits a).length := by rw [hY1, ByteArray.size_append]; rfl
  have z2 : Y2.size = Y1.size + 1 := by rw [hY2]; exact ByteArray.size_append
  have z3 : Y3.size = Y2.size + (Lib.decDigits n).length := by rw [hY3, ByteArray.size_append]; rfl
  have hy5 : Y3.data.toList = wordOf [100] [a, n] := by
    rw [hY3, hY2, hY1, ba_app, ba_app, ba_app]
    simp [wordOf]
  have k0 : ¬ 9223372036854775807 < 2 + (Lib.decDigits a).length := by omega
  have k1 : ¬ 9223372036854775807 < Y1.size + 1 := by omega
  have k2 : ¬ 9223372036854775807 < Y2.size + (Lib.decDigits n).length := by omega
  have hdown : ∀ w' : World, Calls Tryd.prog 17 #[.agg #[.slice ao' N' cap', .string s, .int .i64 (m : Int)], .string Y3] w' fun e w'' => ∃ s', e = .returned (.agg #[.slice ao' N' cap', .string s', .int .i64 ((m : Int) + 1)]) ∧ s'.data.toList = s.data.toList ++ lineOf (wordOf [100] [a, n]) ∧ Below w'.heap.size w' w'' := fun w' => by
    rw [← hy5]; exact rbDown_any ao' N' cap' s Y3 m w' hss (by omega) (by omega)
  have HDOWN := Lib.hid hdown
  have y1 := hY1.symm
  have y2 := hY2.symm
  have y3 := hY3.symm
  clear hY1 hY2 hY3 hdown hy5 z1 z2 z3
  obtain ⟨w4, hw4⟩ : ∃ w4, w4 = w3.drew := ⟨_, rfl⟩
  have HS4 := Lib.hid (show Sep B w4 _ by rw [hw4]; exact HS3.out.drew)
  have HB4 := Lib.hid (show Below B w w4 by rw [hw4]; exact HB3.out.drew)
  refine wp_region_held_drew (S := fun w' => w'.cell? ⟨gb, 0, none⟩ = some (.slice ao' N' cap') ∧ w'.cell? ⟨gb, 1, none⟩ = some (.string s) ∧ w'.cell? ⟨gb, 2, none⟩ = some (.int .i64 (m : Int)) ∧ w'.cell? ⟨gr, 0, none⟩ = some (.int .i64 (a : Int)) ∧ w'.cell? ⟨gr, 1, none⟩ = some (.int .i64 (n : Int))) (by kernel_rfl) ?hS0 (fun hHeld => ?start0)
  case hS0 => exact HSTAT.out _ (HS3.out.drew.sub (List.Sublist.cons _ (List.Sublist.cons _ (List.Sublist.cons_cons _ (List.Sublist.cons_cons _ (List.nil_sublist _))))))
  rw [← hw4] at hHeld ⊢
  clear HS3 HB3 hw4
  refine wpAnyH_take (i := 0) (v := ?va0) rfl (by kernel_rfl) (by kernel_rfl) (by kernel_rfl) (fun _ _ _ h => h) (Or.inl ⟨by rfl, ?hya0⟩) (by assumption) ?resta0
  case hya0 =>
    intro w hSw
    try dsimp only at hSw
    go_simp
    try with_reducible rfl
  try simp only [Act.put, List.setIfInBounds_toArray, List.set_cons_zero, List.set_cons_succ, List.getElem_toArray, List.getElem_cons_zero]
  refine wpAnyH_take (i := 1) (v := ?va1) rfl (by kernel_rfl) (by kernel_rfl) (by kernel_rfl) (fun _ _ _ h => h) (Or.inl ⟨by rfl, ?hya1⟩) (by assumption) ?resta1
  case hya1 =>
    intro w hSw
    try dsimp only at hSw
    go_simp
    try rw [if_neg k0]
    try rw [if_neg k1]
    try rw [if_neg k2]
    try rw [if_neg k3]
    try rw [if_neg k4]
    try with_reducible rfl
  try simp only [Act.put, List.setIfInBounds_toArray, List.set_cons_zero, List.set_cons_succ, List.getElem_toArray, List.getElem_cons_zero, List.getElem_cons_succ]
  refine wpAnyH_take (i := 2) (v := ?va2) rfl (by kernel_rfl) (by kernel_rfl) (by kernel_rfl) (fun _ _ _ h => h) (Or.inl ⟨by rfl, ?hya2⟩) (by assumption) ?resta2
  case hya2 =>
    intro w hSw
    try dsimp only at hSw
    go_simp
    try rw [if_neg k0]
    try rw [if_neg k1]
    try rw [if_neg k2]
    try rw [if_neg k3]
    try rw [if_neg k4]
    try with_reducible rfl
  try simp only [Act.put, List.setIfInBounds_toArray, List.set_cons_zero, List.set_cons_succ, List.getElem_toArray, List.getElem_cons_zero, List.getElem_cons_succ]
  refine wpAnyH_take (i := 6) (v := ?va6) rfl (by kernel_rfl) (by kernel_rfl) (by kernel_rfl) (fun _ _ _ h => h) (Or.inl ⟨by rfl, ?hya6⟩) (by assumption) ?resta6
  case hya6 =>
    intro w hSw
    try dsimp only at hSw
    go_simp
    try rw [if_neg k0]
    try rw [if_neg k1]
    try rw [if_neg k2]
    try rw [if_neg k3]
    try rw [if_neg k4]
    try with_reducible rfl
  try simp only [Act.put, List.setIfInBounds_toArray, List.set_cons_zero, List.set_cons_succ, List.getElem_toArray, List.getElem_cons_zero, List.getElem_cons_succ]
  refine wpAnyH_take (i := 7) (v := ?va7) rfl (by kernel_rfl) (by kernel_rfl) (by kernel_rfl) (fun _ _ _ h => h) (Or.inl ⟨by rfl, ?hya7⟩) (by assumption) ?resta7
  case hya7 =>
    intro w hSw
    try dsimp only at hSw
    go_simp
    try rw [if_neg k0]
    try rw [if_neg k1]
    try rw [if_neg k2]
    try rw [if_neg k3]
    try rw [if_neg k4]
    try with_reducible rfl
  try simp only [Act.put, List.setIfInBounds_toArray, List.set_cons_zero, List.set_cons_succ, List.getElem_toArray, List.getElem_cons_zero, List.getElem_cons_succ]
  refine wpAnyH_ready (rs := [3]) (by kernel_rfl) (by simp) ?_
  refine AllReadyH.cons rfl (fun K hK => ?_) AllReadyH.nil
  go_simp
  go_at_call_of 18 a
  refine (refDigits_any a _ (by omega)).mono ?_
  rintro e w' ⟨rfl, rfl⟩
  go_wp2_with fail
  refine hK.out _ _ ?_ (fun hHeld13 => ?_)
  · exact hHeld
  clear hK K
  try simp only [Act.put, List.setIfInBounds_toArray, List.set_cons_zero, List.set_cons_succ, List.getElem_toArray, List.getElem_cons_zero, List.getElem_cons_succ]
  refine wpAnyH_take (i := 4) (v := ?va4) rfl (by kernel_rfl) (by kernel_rfl) (by kernel_rfl) (fun _ _ _ h => h) (Or.inl ⟨by rfl, ?hya4⟩) (by assumption) ?resta4
  case hya4 =>
    intro w hSw
    try dsimp only at hSw
    go_simp
    try rw [if_neg k0]
    try rw [if_neg k1]
    try rw [if_neg k2]
    try rw [if_neg k3]
    try rw [if_neg k4]
    try with_reducible rfl
  try simp only [Act.put, List.setIfInBounds_toArray, List.set_cons_zero, List.set_cons_succ, List.getElem_toArray, List.getElem_cons_zero, List.getElem_cons_succ]
  refine wpAnyH_take (i := 5) (v := ?va5) rfl (by kernel_rfl) (by kernel_rfl) (by kernel_rfl) (fun _ _ _ h => h) (Or.inl ⟨by rfl, ?hya5⟩) (by assumption) ?resta5
  case hya5 =>
    intro w hSw
    try dsimp only at hSw
    go_simp
    try rw [if_neg k0]
    try rw [if_neg k1]
    try rw [if_neg k2]
    try rw [if_neg k3]
    try rw [if_neg k4]
    try with_reducible rfl
  try simp only [Act.put, List.setIfInBounds_toArray, List.set_cons_zero, List.set_cons_succ, List.getElem_toArray, List.getElem_cons_zero, List.getElem_cons_succ]
  refine wpAnyH_ready (rs := [8]) (by kernel_rfl) (by simp) ?_
  refine AllReadyH.cons rfl (fun K hK => ?_) AllReadyH.nil
  go_simp
  go_at_call_of 18 n
  refine (refDigits_any n _ (by omega)).mono ?_
  rintro e w' ⟨rfl, rfl⟩
  go_wp2_with fail
  refine hK.out _ _ ?_ (fun hHeld18 => ?_)
  · exact hHeld
  clear hK K
  try simp only [Act.put, List.setIfInBounds_toArray, List.set_cons_zero, List.set_cons_succ, List.getElem_toArray, List.getElem_cons_zero, List.getElem_cons_succ]
  refine wpAnyH_take (i := 9) (v := ?va9) rfl (by kernel_rfl) (by kernel_rfl) (by kernel_rfl) (fun _ _ _ h => h) (Or.inl ⟨by rfl, ?hya9⟩) (by assumption) ?resta9
  case hya9 =>
    intro w hSw
    try dsimp only at hSw
    go_simp
    try rw [if_neg k0]
    try rw [if_neg k1]
    try rw [if_neg k2]
    try rw [if_neg k3]
    try rw [if_neg k4]
    try with_reducible rfl
  try simp only [Act.put, List.setIfInBounds_toArray, List.set_cons_zero, List.set_cons_succ, List.getElem_toArray, List.getElem_cons_zero, List.getElem_cons_succ]
  refine wpAnyH_ready (rs := [10]) (by kernel_rfl) (by simp) ?_
  refine AllReadyH.cons rfl (fun K hK => ?_) AllReadyH.nil
  go_simp
  go_at_call 17
  refine (HDOWN.out _).mono ?_
  rintro e w5 ⟨s', rfl, hs', hb5⟩
  have HSS := Lib.hid hs'
  have HS5 := Lib.hid (HS4.out.kept hb5)
  have HB5 := Lib.hid (HB4.out.trans (hb5.mono (rbE_cells HS4.out).2.2.2.2))
  clear hs' hb5
  go_wp2_with fail
  refine hK.out _ _ ?_ (fun hHeld5 => ?_)
  · exact HSTAT.out _ (HS5.out.sub (List.Sublist.cons _ (List.Sublist.cons _ (List.Sublist.cons_cons _ (List.Sublist.cons_cons _ (List.nil_sublist _))))))
  clear hK K
  try simp only [Act.put, List.setIfInBounds_toArray, List.set_cons_zero, List.set_cons_succ, List.getElem_toArray, List.getElem_cons_zero, List.getElem_cons_succ]
  obtain ⟨-, -, ⟨s0, s1, s2⟩, ⟨f0, f1, f2⟩, -⟩ := rbE_cells HS5.out
  have q1 := Sep.blkSet (A := [_]) HS5.out 0 (.slice ao' N' cap')
  have q2 := Sep.blkSet (A := [_]) q1 1 (.string s')
  have q3 := Sep.blkSet (A := [_]) q2 2 (.int .i64 ((m : Int) + 1))
  have HST6 := Lib.hid (HSTAT.out _ (q3.sub (List.Sublist.cons _ (List.Sublist.cons _ (List.Sublist.cons_cons _ (List.Sublist.cons_cons _ (List.nil_sublist _)))))))
  obtain ⟨wf, hwf, he1, he2, k5, k6, k7⟩ := rbE_end (.slice ao' N' cap') (.string s') (.int .i64 ((m : Int) + 1)) HS5.out HB5.out
  have HE1 := Lib.hid he1
  have HE2 := Lib.hid he2
  have HWF := Lib.hid hwf
  rw [hwf] at k5 k6 k7
  have K5 := Lib.hid k5
  have K6 := Lib.hid k6
  have K7 := Lib.hid k7
  clear q1 q2 q3 he1 he2 hwf k5 k6 k7
  refine wpAnyH_ready (rs := [11]) (by kernel_rfl) (by simp) ?_
  refine AllReadyH.cons rfl (fun K hK => ?_) AllReadyH.nil
  go_simp
  go_wp2_with fail
  refine hK.out _ _ ?_ (fun hHeld6 => ?_)
  · exact HST6.out
  clear hK K
  try simp only [Act.put, List.setIfInBounds_toArray, List.set_cons_zero, List.set_cons_succ, List.getElem_toArray, List.getElem_cons_zero, List.getElem_cons_succ]
  refine wpAnyH_take (i := 12) (v := ?va12) rfl (by kernel_rfl) (by kernel_rfl) (by kernel_rfl) (fun _ _ _ h => h) (Or.inl ⟨by rfl, ?hya12⟩) (by assumption) ?resta12
  case hya12 =>
    intro w hSw
    try dsimp only at hSw
    go_simp
    try rw [if_neg k0]
    try rw [if_neg k1]
    try rw [if_neg k2]
    try rw [if_neg k3]
    try rw [if_neg k4]
    try with_reducible rfl
  try simp only [Act.put, List.setIfInBounds_toArray, List.set_cons_zero, List.set_cons_succ, List.getElem_toArray, List.getElem_cons_zero, List.getElem_cons_succ]
  refine wpAnyH_done (by kernel_rfl) ?_ _
  clear s0 s1 s2 f0 f1 f2
  have k5 := K5.out
  have k6 := K6.out
  have k7 := K7.out
  go_wp2
  try simp only [Exit.inBlock, Exit.then]
  refine bodyPost_ret (v := .tuple #[.agg #[.slice ao' N' cap', .string s', .int .i64 ((m : Int) + 1)], .int .i64 0]) (by simp [results, Tryd.results7, go_sem, k5, k6, k7]) rfl ?_
  rw [← HWF.out]
  exact ⟨_, s', rfl, HSS.out, HE1.out, HE2.out⟩
abbrev bkT (l : List UInt8) : ByteArray := ⟨l.toArray⟩
theorem bkT_len (l : List UInt8) : (bkT l).size = l.length := rfl
theorem bkT_of {s : ByteArray} {l : List UInt8} (h : s.data.toList = l) : s = bkT l := by subst h; exact (ba_eta s).symm
/-- ferryhytheref4.Book.Set. -/
theorem rbSet_any (B : Nat) (sp : Value) (b : Bk) (F : List Ent) (a n x : Int) (w : World) (h : Sep B w (rteE sp b.1 :: F)) (hB : B ≤ w.heap.size) (hl : b.1.length ≤ 32) (hs : SrtR b.1) (hok : BkOk b) :
    Calls Tryd.prog 5 #[.agg #[sp, .string (bkT b.2.1), .int .i64 (b.2.2 : Int)], .agg #[.int .i64 a, .int .i64 n, .int .i64 x]] w fun e w' =>
      ∃ sp', e = .returned (.tuple #[.agg #[sp', .string (bkT (bkSet b a n x).1.2.1), .int .i64 ((bkSet b a n x).1.2.2 : Int)], .int .i64 (bkSet b a n x).2]) ∧ Sep B w' (rteE sp' (bkSet b a n x).1.1 :: F) ∧ Below B w w' := by
  obtain ⟨L, l, m⟩ := b
  obtain ⟨k1, k2⟩ := hok
  simp only at h hl hs k1 k2 ⊢
  unfold bkSet
  simp only
  by_cases hm : m = 60
  · rw [if_pos hm]
    exact (rbSet_full B sp (bkT l) m L F a n x w h hB hm).mono fun e w' h => ⟨sp, h.1, h.2.1, h.2.2⟩
  · rw [if_neg hm]
    by_cases hz : (setRR L a n x).2 = 0
    · rw [if_pos hz]
      obtain ⟨a', n', x', rfl, rfl, rfl, hk, hx⟩ := setRR_ok hz
      have hsm := lp_small hk
      simp only [Int.toNat_natCast]
      refine (rbSet_ok B sp (bkT l) m L F a' n' x' w h hB (by omega) hl hs hz hsm.1 hsm.2 (by omega) (by rw [bkT_len]; omega)).mono ?_
      rintro e w' ⟨sp', s', rfl, h1, h2, h3⟩
      refine ⟨sp', ?_, h2, h3⟩
      rw [bkT_of h1]; rfl
    · rw [if_neg hz]
      exact (rbSet_bad B sp (bkT l) m L F a n x w h hB (by omega) hl hs hz).mono fun e w' h => ⟨sp, h.1, h.2.1, h.2.2⟩
/-- ferryhytheref4.Book.Drop. -/
theorem rbDrop_any (B : Nat) (sp : Value) (b : Bk) (F : List Ent) (a n : Int) (w : World) (h : Sep B w (rteE sp b.1 :: F)) (hB : B ≤ w.heap.size) (hl : b.1.length ≤ 32) (hs : SrtR b.1) (hok : BkOk b) :
    Calls Tryd.prog 7 #[.agg #[sp, .string (bkT b.2.1), .int .i64 (b.2.2 : Int)], .agg #[.int .i64 a, .int .i64 n]] w fun e w' =>
      ∃ sp', e = .returned (.tuple #[.agg #[sp', .string (bkT (bkDrop b a n).1.2.1), .int .i64 ((bkDrop b a n).1.2.2 : Int)], .int .i64 (bkDrop b a n).2]) ∧ Sep B w' (rteE sp' (bkDrop b a n).1.1 :: F) ∧ Below B w w' := by
  obtain ⟨L, l, m⟩ := b
  obtain ⟨k1, k2⟩ := hok
  simp only at h hl hs k1 k2 ⊢
  unfold bkDrop
  simp only
  by_cases hm : m = 60
  · rw [if_pos hm]
    exact (rbDrop_full B sp (bkT l) m L F a n w h hB hm).mono fun e w' h => ⟨sp, h.1, h.2.1, h.2.2⟩
  · rw [if_neg hm]
    by_cases hz : (dropR L a n).2 = 0
    · rw [if_pos hz]
      obtain ⟨a', n', rfl, rfl, hk⟩ := dropR_ok hz
      have hsm := lp_small hk
      simp only [Int.toNat_natCast]
      refine (rbDrop_ok B sp (bkT l) m L F a' n' w h hB (by omega) hl hs hz hsm.1 hsm.2 (by rw [bkT_len]; omega)).mono ?_
      rintro e w' ⟨sp', s', rfl, h1, h2, h3⟩
      refine ⟨sp', ?_, h2, h3⟩
      rw [bkT_of h1]; rfl
    · rw [if_neg hz]
      exact (rbDrop_bad B sp (bkT l) m L F a n w h hB (by omega) hl hs hz).mono fun e w' h => ⟨sp, h.1, h.2.1, h.2.2⟩
end Go.Proofs.YtbcfcjecobihnaaDoor
