/- ferryhytheref4.Book.Set, .Drop: by value. -/
import Derived.Test.YtbcfcjecobihnaaDoorRtDown
import Derived.Test.YtbcfcjecobihnaaDoorRtDrop
import Derived.Test.YtbcfcjecobihnaaDoorBookOps
namespace Go.Proofs.YtbcfcjecobihnaaDoor
open Go.RowKit
set_option linter.unusedVariables false
set_option linter.unusedSimpArgs false
set_option maxRecDepth 100000

/-- The row, the result's block, the argument's, the receiver's. -/
abbrev rbE (gs gr gb : Nat) (te : TypeId) (cs : List Value) (v sp : Value) (s : ByteArray) (m : Int) (L : List Rte) (F : List Ent) : List Ent :=
  rteE v L :: bkE0 gs :: Ent.blk1 gr te cs :: Ent.blk1 gb 29 (bkC sp s m) :: F
theorem rbE_cells {B gs gr gb : Nat} {te : TypeId} {cs : List Value} {v sp : Value} {s : ByteArray} {m : Int} {L : List Rte} {F : List Ent} {w : World} (h : Sep B w (rbE gs gr gb te cs v sp s m L F)) :
    (w.cell? ⟨gb, 0, none⟩ = some sp ∧ w.cell? ⟨gb, 1, none⟩ = some (.string s) ∧ w.cell? ⟨gb, 2, none⟩ = some (.int .i64 m) ∧ w.frozen? ⟨gb, 0, none⟩ = false) ∧ (∀ j u, cs[j]? = some u → w.cell? ⟨gr, j, none⟩ = some u) ∧
    (w.cell? ⟨gs, 0, none⟩ = some (.slice none 0 0) ∧ w.cell? ⟨gs, 1, none⟩ = some (.string ⟨#[]⟩) ∧ w.cell? ⟨gs, 2, none⟩ = some (.int .i64 0)) ∧ (w.frozen? ⟨gs, 0, none⟩ = false ∧ w.frozen? ⟨gs, 1, none⟩ = false ∧ w.frozen? ⟨gs, 2, none⟩ = false) ∧ B ≤ w.heap.size :=
  ⟨⟨(Sep.blkAt (A := [_, _, _]) h (j := 0) rfl).1, (Sep.blkAt (A := [_, _, _]) h (j := 1) rfl).1, (Sep.blkAt (A := [_, _, _]) h (j := 2) rfl).1, (Sep.blkAt (A := [_, _, _]) h (j := 0) rfl).2⟩, fun j u hu => (Sep.blkAt (A := [_, _]) h (j := j) hu).1,
    ⟨(Sep.blkAt (A := [_]) h (j := 0) rfl).1, (Sep.blkAt (A := [_]) h (j := 1) rfl).1, (Sep.blkAt (A := [_]) h (j := 2) rfl).1⟩, ⟨(Sep.blkAt (A := [_]) h (j := 0) rfl).2, (Sep.blkAt (A := [_]) h (j := 1) rfl).2, (Sep.blkAt (A := [_]) h (j := 2) rfl).2⟩, by have := Sep.blkLt (A := [_]) h; omega⟩
theorem rbE_end {B gs gr gb : Nat} {te : TypeId} {cs : List Value} {v sp : Value} {s : ByteArray} {m : Int} {L : List Rte} {F : List Ent} {w w0 : World} (u0 u1 u2 : Value) (h : Sep B w (rbE gs gr gb te cs v sp s m L F)) (hb : Below B w0 w) :
    ∃ w', w' = ((w.setCell ⟨gs, 0, none⟩ u0).setCell ⟨gs, 1, none⟩ u1).setCell ⟨gs, 2, none⟩ u2 ∧ Sep B w' (rteE v L :: F) ∧ Below B w0 w' ∧ w'.cell? ⟨gs, 0, none⟩ = some u0 ∧ w'.cell? ⟨gs, 1, none⟩ = some u1 ∧ w'.cell? ⟨gs, 2, none⟩ = some u2 := by
  have h1 := Sep.blkSet (A := [_]) h 0 u0
  have h2 := Sep.blkSet (A := [_]) h1 1 u1
  have h3 := Sep.blkSet (A := [_]) h2 2 u2
  have hl := (Sep.blkLt (A := [_]) h).1
  exact ⟨_, rfl, h3.sub (List.Sublist.cons_cons _ (List.Sublist.cons _ (List.Sublist.cons _ (List.Sublist.cons _ (List.Sublist.refl _))))), ((hb.setCell (p := ⟨gs, 0, none⟩) hl u0).setCell (p := ⟨gs, 1, none⟩) hl u1).setCell (p := ⟨gs, 2, none⟩) hl u2,
    (Sep.blkAt (A := [_]) h3 (j := 0) rfl).1, (Sep.blkAt (A := [_]) h3 (j := 1) rfl).1, (Sep.blkAt (A := [_]) h3 (j := 2) rfl).1⟩
theorem rbE_new {B : Nat} {w : World} {sp : Value} {s : ByteArray} {m : Int} {L : List Rte} {F : List Ent} (te : TypeId) (cs : Array Value) (h : Sep B w (rteE sp L :: F)) (hB : B ≤ w.heap.size) :
    ∃ W, W = ((w.alloc (.cells #[sp, .string s, .int .i64 m] 29)).alloc (.cells cs te)).alloc (.cells #[.slice none 0 0, .string ⟨#[]⟩, .int .i64 0] 29) ∧ Sep B W (rbE (w.heap.size + 1 + 1) (w.heap.size + 1) w.heap.size te cs.toList sp sp s m L F) ∧ Below B w W := by
  have h1 := h.blkNew hB #[sp, .string s, .int .i64 m] 29
  have h2 := h1.blkNew (by simp; omega) cs te
  have h3 := h2.blkNew (by simp; omega) #[.slice none 0 0, .string ⟨#[]⟩, .int .i64 0] 29
  rw [show (w.alloc (.cells #[sp, .string s, .int .i64 m] 29)).heap.size = w.heap.size + 1 by simp] at h2 h3
  rw [show ((w.alloc (.cells #[sp, .string s, .int .i64 m] 29)).alloc (.cells cs te)).heap.size = w.heap.size + 1 + 1 by simp] at h3
  refine ⟨_, rfl, (h3.perm (List.perm_append_comm (l₁ := [_, _, _]) (l₂ := [_]) |>.append_right F)), (((Below.refl B w).alloc hB _).alloc (by simp; omega) _).alloc (by simp; omega) _⟩
set_option maxHeartbeats 1000000 in
theorem rbSet_full (B : Nat) (sp : Value) (s : ByteArray) (m : Nat) (L : List Rte) (F : List Ent) (a n x : Int) (w : World) (h : Sep B w (rteE sp L :: F)) (hB : B ≤ w.heap.size) (hm : m = 60) :
    Calls Tryd.prog 5 #[.agg #[sp, .string s, .int .i64 (m : Int)], .agg #[.int .i64 a, .int .i64 n, .int .i64 x]] w fun e w' =>
      e = .returned (.tuple #[.agg #[sp, .string s, .int .i64 (m : Int)], .int .i64 4]) ∧ Sep B w' (rteE sp L :: F) ∧ Below B w w' := by
  have hd : decide ((60 : Int) ≤ (m : Int)) = true := decide_eq_true (by omega)
  have hd2 : decide (60 ≤ m) = true := decide_eq_true (by omega)
  clear hm
  obtain ⟨W, hW, hs0, hb0⟩ := rbE_new (s := s) (m := (m : Int)) 36 #[.int .i64 a, .int .i64 n, .int .i64 x] h hB
  obtain ⟨⟨ao, cap, rfl, hcap⟩⟩ : Nonempty _ := ⟨rte_shape (A := []) h⟩
  obtain ⟨gs, hgs⟩ : ∃ x, x = w.heap.size + 1 + 1 := ⟨_, rfl⟩
  obtain ⟨gr, hgr⟩ : ∃ x, x = w.heap.size + 1 := ⟨_, rfl⟩
  obtain ⟨gb, hgb⟩ : ∃ x, x = w.heap.size := ⟨_, rfl⟩
  rw [← hgs, ← hgr, ← hgb] at hs0
  have HS0 := Lib.hid hs0
  have HB0 := Lib.hid hb0
  have HW := Lib.hid hW
  have HGS := Lib.hid hgs
  have HGR := Lib.hid hgr
  have HGB := Lib.hid hgb
  clear h hs0 hb0 hW hgs hgr hgb
  obtain ⟨⟨b0, b1, b2, fb⟩, hcs, ⟨s0, s1, s2⟩, ⟨f0, f1, f2⟩, hg0⟩ := rbE_cells HS0.out
  have r0 := hcs 0 _ rfl
  have r1 := hcs 1 _ rfl
  have r2 := hcs 2 _ rfl
  clear hcs
  go_enter Tryd.func5, Tryd.ntmps5
  go_upto_region 1 with fail
  rw [← HW.out, ← HGS.out, ← HGR.out, ← HGB.out]
  clear HW
  obtain ⟨wf, hwf, he1, he2, k0, k1, k2⟩ := rbE_end (.slice ao L.length cap) (.string s) (.int .i64 (m : Int)) HS0.out HB0.out
  have HE1 := Lib.hid he1
  have HE2 := Lib.hid he2
  have HWF := Lib.hid hwf
  rw [hwf] at k0 k1 k2
  clear he1 he2 hwf
  go_wp2
  try simp only [Exit.inBlock, Exit.then]
  refine bodyPost_ret (v := .tuple #[.agg #[(.slice ao L.length cap), (.string s), (.int .i64 (m : Int))], .int .i64 4]) (by simp [results, Tryd.results5, go_sem, k0, k1, k2]) rfl ?_
  rw [← HWF.out]
  exact ⟨rfl, HE1.out, HE2.out⟩
set_option maxHeartbeats 1000000 in
theorem rbSet_bad (B : Nat) (sp : Value) (s : ByteArray) (m : Nat) (L : List Rte) (F : List Ent) (a n x : Int) (w : World) (h : Sep B w (rteE sp L :: F)) (hB : B ≤ w.heap.size) (hm : m < 60) (hl : L.length ≤ 32) (hs : SrtR L) (hz : ¬ (setRR L a n x).2 = 0) :
    Calls Tryd.prog 5 #[.agg #[sp, .string s, .int .i64 (m : Int)], .agg #[.int .i64 a, .int .i64 n, .int .i64 x]] w fun e w' =>
      e = .returned (.tuple #[.agg #[sp, .string s, .int .i64 (m : Int)], .int .i64 (setRR L a n x).2]) ∧ Sep B w' (rteE sp L :: F) ∧ Below B w w' := by
  have hcall := fun (sp' : Value) (F' : List Ent) (w1 : World) (h2 : Sep B w1 (rteE sp' L :: F')) (h1 : B ≤ w1.heap.size) => rtSet_any B sp' L F' a n x w1 h2 h1 hl hs
  rw [setRR_err hz] at hcall
  obtain ⟨c, hcc⟩ : ∃ c, c = (setRR L a n x).2 := ⟨_, rfl⟩
  rw [← hcc] at hz hcall ⊢
  have hcd : (c != 0) = true := by simp [hz]
  have HCALL := Lib.hid hcall
  have HZ := Lib.hid hz
  clear hcall hz hcc hs
  have hd : decide ((60 : Int) ≤ (m : Int)) = false := decide_eq_false (by omega)
  have hd2 : decide (60 ≤ m) = false := decide_eq_false (by omega)
  obtain ⟨W, hW, hs0, hb0⟩ := rbE_new (s := s) (m := (m : Int)) 36 #[.int .i64 a, .int .i64 n, .int .i64 x] h hB
  obtain ⟨⟨ao, cap, rfl, hcap⟩⟩ : Nonempty _ := ⟨rte_shape (A := []) h⟩
  obtain ⟨gs, hgs⟩ : ∃ x, x = w.heap.size + 1 + 1 := ⟨_, rfl⟩
  obtain ⟨gr, hgr⟩ : ∃ x, x = w.heap.size + 1 := ⟨_, rfl⟩
  obtain ⟨gb, hgb⟩ : ∃ x, x = w.heap.size := ⟨_, rfl⟩
  rw [← hgs, ← hgr, ← hgb] at hs0
  have HS0 := Lib.hid hs0
  have HB0 := Lib.hid hb0
  have HW := Lib.hid hW
  have HGS := Lib.hid hgs
  have HGR := Lib.hid hgr
  have HGB := Lib.hid hgb
  clear h hs0 hb0 hW hgs hgr hgb
  obtain ⟨⟨b0, b1, b2, fb⟩, hcs, ⟨s0, s1, s2⟩, ⟨f0, f1, f2⟩, hg0⟩ := rbE_cells HS0.out
  have r0 := hcs 0 _ rfl
  have r1 := hcs 1 _ rfl
  have r2 := hcs 2 _ rfl
  clear hcs
  go_enter Tryd.func5, Tryd.ntmps5
  go_upto_region 1 with fail
  rw [← HW.out, ← HGS.out, ← HGR.out, ← HGB.out]
  clear HW
  go_wp2_with fail
  refine (HCALL.out _ _ _ HS0.out hg0).mono ?_
  rintro e w1 ⟨sp', rfl, hs1, hb1, hsp⟩
  obtain rfl := hsp HZ.out
  have HS1 := Lib.hid hs1
  have HB1 := Lib.hid (HB0.out.trans hb1)
  clear b0 b1 b2 fb s0 s1 s2 f0 f1 f2 r0 r1
  clear hs1 hb1 hsp HS0 HB0 hg0 r2
  obtain ⟨⟨b0, b1, b2, fb⟩, hcs, ⟨s0, s1, s2⟩, ⟨f0, f1, f2⟩, hg1⟩ := rbE_cells HS1.out
  have r0 := hcs 0 _ rfl
  have r1 := hcs 1 _ rfl
  skip
  clear hcs
  have HS2 := Lib.hid (HS1.out.alloc (.cells #[.slice ao L.length cap] 27))
  have HB2 := Lib.hid (HB1.out.alloc hg1 (.cells #[.slice ao L.length cap] 27))
  go_upto_region 4 with fail
  clear b0 b1 b2 fb s0 s1 s2 f0 f1 f2 r0 r1
  clear HS1 HB1
  generalize w1.alloc (.cells #[.slice ao L.length cap] 27) = w2 at *
  obtain ⟨⟨b0, b1, b2, fb⟩, hcs, ⟨s0, s1, s2⟩, ⟨f0, f1, f2⟩, hg2⟩ := rbE_cells HS2.out
  have r0 := hcs 0 _ rfl
  have r1 := hcs 1 _ rfl
  skip
  clear hcs
  obtain ⟨wf, hwf, he1, he2, k0, k1, k2⟩ := rbE_end (.slice ao L.length cap) (.string s) (.int .i64 (m : Int)) HS2.out HB2.out
  have HE1 := Lib.hid he1
  have HE2 := Lib.hid he2
  have HWF := Lib.hid hwf
  rw [hwf] at k0 k1 k2
  clear he1 he2 hwf
  go_wp2
  try simp only [Exit.inBlock, Exit.then]
  refine bodyPost_ret (v := .tuple #[.agg #[(.slice ao L.length cap), (.string s), (.int .i64 (m : Int))], .int .i64 c]) (by simp [results, Tryd.results5, go_sem, k0, k1, k2]) rfl ?_
  rw [← HWF.out]
  exact ⟨rfl, HE1.out, HE2.out⟩
set_option maxHeartbeats 2000000 in
theorem rbSet_ok (B : Nat) (sp : Value) (s : ByteArray) (m : Nat) (L : List Rte) (F : List Ent) (a n x : Nat) (w : World) (h : Sep B w (rteE sp L :: F)) (hB : B ≤ w.heap.size) (hm : m < 60) (hl : L.length ≤ 32) (hs : SrtR L) (hz : (setRR L a n x).2 = 0) (ha : a ≤ 65535) (hn : n ≤ 65535) (hx : x ≤ 65535) (hss : s.size ≤ 100000) :
    Calls Tryd.prog 5 #[.agg #[sp, .string s, .int .i64 (m : Int)], .agg #[.int .i64 a, .int .i64 n, .int .i64 x]] w fun e w' =>
      ∃ sp' s', e = .returned (.tuple #[.agg #[sp', .string s', .int .i64 ((m : Int) + 1)], .int .i64 0]) ∧ s'.data.toList = s.data.toList ++ lineOf (wordOf [115] [a, n, x]) ∧ Sep B w' (rteE sp' (setRR L a n x).1 :: F) ∧ Below B w w' := by
  have hcall := fun (sp' : Value) (F' : List Ent) (w1 : World) (h2 : Sep B w1 (rteE sp' L :: F')) (h1 : B ≤ w1.heap.size) => rtSet_any B sp' L F' a n x w1 h2 h1 hl hs
  rw [hz] at hcall
  obtain ⟨LL, hLL⟩ : ∃ LL, LL = (setRR L a n x).1 := ⟨_, rfl⟩
  rw [← hLL] at hcall ⊢
  have HCALL := Lib.hid hcall
  clear hcall hz hLL hs
  have hd : decide ((60 : Int) ≤ (m : Int)) = false := decide_eq_false (by omega)
  have hd2 : decide (60 ≤ m) = false := decide_eq_false (by omega)
  obtain ⟨W, hW, hs0, hb0⟩ := rbE_new (s := s) (m := (m : Int)) 36 #[.int .i64 (a : Int), .int .i64 (n : Int), .int .i64 (x : Int)] h hB
  obtain ⟨⟨ao, cap, rfl, hcap⟩⟩ : Nonempty _ := ⟨rte_shape (A := []) h⟩
  obtain ⟨gs, hgs⟩ : ∃ x, x = w.heap.size + 1 + 1 := ⟨_, rfl⟩
  obtain ⟨gr, hgr⟩ : ∃ x, x = w.heap.size + 1 := ⟨_, rfl⟩
  obtain ⟨gb, hgb⟩ : ∃ x, x = w.heap.size := ⟨_, rfl⟩
  rw [← hgs, ← hgr, ← hgb] at hs0
  have HS0 := Lib.hid hs0
  have HB0 := Lib.hid hb0
  have HW := Lib.hid hW
  have HGS := Lib.hid hgs
  have HGR := Lib.hid hgr
  have HGB := Lib.hid hgb
  clear h hs0 hb0 hW hgs hgr hgb
  obtain ⟨⟨b0, b1, b2, fb⟩, hcs, ⟨s0, s1, s2⟩, ⟨f0, f1, f2⟩, hg0⟩ := rbE_cells HS0.out
  have r0 := hcs 0 _ rfl
  have r1 := hcs 1 _ rfl
  have r2 := hcs 2 _ rfl
  clear hcs
  go_enter Tryd.func5, Tryd.ntmps5
  go_upto_region 1 with fail
  rw [← HW.out, ← HGS.out, ← HGR.out, ← HGB.out]
  clear HW
  go_wp2_with fail
  refine (HCALL.out _ _ _ HS0.out hg0).mono ?_
  rintro e w1 ⟨sp', rfl, hs1, hb1, -⟩
  obtain ⟨ao', N', cap', rfl⟩ : ∃ a n c, sp' = .slice a n c := by
    obtain ⟨a', c', e, -⟩ := rte_shape (A := []) hs1
    exact ⟨a', _, c', e⟩
  have HS1 := Lib.hid hs1
  have HB1 := Lib.hid (HB0.out.trans hb1)
  clear b0 b1 b2 fb s0 s1 s2 f0 f1 f2 r0 r1
  clear hs1 hb1 HS0 HB0 hg0 r2
  obtain ⟨⟨b0, b1, b2, fb⟩, hcs, ⟨s0, s1, s2⟩, ⟨f0, f1, f2⟩, hg1⟩ := rbE_cells HS1.out
  have r0 := hcs 0 _ rfl
  have r1 := hcs 1 _ rfl
  have r2 := hcs 2 _ rfl
  clear hcs
  have hs2 := HS1.out.blkNew hg1 #[.slice ao' N' cap'] 27
  have HB2 := Lib.hid (HB1.out.alloc hg1 (.cells #[.slice ao' N' cap'] 27))
  obtain ⟨gn, hgn⟩ : ∃ gn, gn = w1.heap.size := ⟨_, rfl⟩
  rw [← hgn] at hs2
  have HS2 := Lib.hid hs2
  have HGN := Lib.hid hgn
  clear hs2 hgn
  go_upto_region 4 with fail
  rw [← HGN.out]
  clear b0 b1 b2 fb s0 s1 s2 f0 f1 f2 r0 r1
  clear HS1 HB1 HGN r2
  generalize w1.alloc (.cells #[.slice ao' N' cap'] 27) = w2 at *
  have n0 := (Sep.blkAt (A := []) HS2.out (j := 0) rfl).1
  obtain ⟨c0, d0⟩ := Sep.blkAt (A := [_, _, _, _]) HS2.out (j := 0) rfl
  have hs3 := Sep.blkSet (A := [_, _, _, _]) HS2.out 0 (.slice ao' N' cap')
  have hb3 := HB2.out.setCell (p := ⟨gb, 0, none⟩) (Sep.blkLt (A := [_, _, _, _]) HS2.out).1 (.slice ao' N' cap')
  have HS3 := Lib.hid (show Sep B _ (rbE gs gr gb 36 [.int .i64 (a : Int), .int .i64 (n : Int), .int .i64 (x : Int)] (.slice ao' N' cap') (.slice ao' N' cap') s (m : Int) LL F) from hs3.sub (List.sublist_cons_self _ _))
  have HB3 := Lib.hid hb3
  clear hs3 hb3
  go_upto_region 7 with fail
  clear n0 c0 d0 HS2 HB2
  generalize w2.setCell ⟨gb, 0, none⟩ (.slice ao' N' cap') = w3 at *
  have hstat : ∀ w', Sep B w' [Ent.blk1 gr 36 [.int .i64 (a : Int), .int .i64 (n : Int), .int .i64 (x : Int)], Ent.blk1 gb 29 (bkC (.slice ao' N' cap') s (m : Int))] →
      w'.cell? ⟨gb, 0, none⟩ = some (.slice ao' N' cap') ∧ w'.cell? ⟨gb, 1, none⟩ = some (.string s) ∧ w'.cell? ⟨gb, 2, none⟩ = some (.int .i64 (m : Int)) ∧ w'.cell? ⟨gr, 0, none⟩ = some (.int .i64 (a : Int)) ∧ w'.cell? ⟨gr, 1, none⟩ = some (.int .i64 (n : Int)) ∧ w'.cell? ⟨gr, 2, none⟩ = some (.int .i64 (x : Int)) := fun w' h =>
    ⟨(Sep.blkAt (A := [_]) h (j := 0) rfl).1, (Sep.blkAt (A := [_]) h (j := 1) rfl).1, (Sep.blkAt (A := [_]) h (j := 2) rfl).1, (Sep.blkAt (A := []) h (j := 0) rfl).1, (Sep.blkAt (A := []) h (j := 1) rfl).1, (Sep.blkAt (A := []) h (j := 2) rfl).1⟩
  have HSTAT := Lib.hid hstat
  clear hstat
  have la := digits_len a (by omega)
  have ln := digits_len n (by omega)
  have lx := digits_len x (by omega)
  obtain ⟨Y1, hY1⟩ : ∃ X, X = (⟨#[115, 32]⟩ : ByteArray) ++ (⟨(Lib.decDigits a).toArray⟩ : ByteArray) := ⟨_, rfl⟩
  obtain ⟨Y2, hY2⟩ : ∃ X, X = Y1 ++ (⟨#[32]⟩ : ByteArray) := ⟨_, rfl⟩
  obtain ⟨Y3, hY3⟩ : ∃ X, X = Y2 ++ (⟨(Lib.decDigits n).toArray⟩ : ByteArray) := ⟨_, rfl⟩
  obtain ⟨Y4, hY4⟩ : ∃ X, X = Y3 ++ (⟨#[32]⟩ : ByteArray) := ⟨_, rfl⟩
  obtain ⟨Y5, hY5⟩ : ∃ X, X = Y4 ++ (⟨(Lib.decDigits x).toArray⟩ : ByteArray) := ⟨_, rfl⟩
  have z1 : Y1.size = 2 + (Lib.decDigits a).length := by rw [hY1, ByteArray.size_append]; rfl
  have z2 : Y2.size = Y1.size + 1 := by rw [hY2]; exact ByteArray.size_append
  have z3 : Y3.size = Y2.size + (Lib.decDigits n).length := by rw [hY3, ByteArray.size_append]; rfl
  have z4 : Y4.size = Y3.size + 1 := by rw [hY4]; exact ByteArray.size_append
  have z5 : Y5.size = Y4.size + (Lib.decDigits x).length := by rw [hY5, ByteArray.size_append]; rfl
  have hy5 : Y5.data.toList = wordOf [115] [a, n, x] := by
    rw [hY5, hY4, hY3, hY2, hY1, ba_app, ba_app, ba_app, ba_app, ba_app]
    simp [wordOf]
  have k0 : ¬ 9223372036854775807 < 2 + (Lib.decDigits a).length := by omega
  have k1 : ¬ 9223372036854775807 < Y1.size + 1 := by omega
  have k2 : ¬ 9223372036854775807 < Y2.size + (Lib.decDigits n).length := by omega
  have k3 : ¬ 9223372036854775807 < Y3.size + 1 := by omega
  have k4 : ¬ 9223372036854775807 < Y4.size + (Lib.decDigits x).length := by omega
  have hdown : ∀ w' : World, Calls Tryd.prog 17 #[.agg #[.slice ao' N' cap', .string s, .int .i64 (m : Int)], .string Y5] w' fun e w'' => ∃ s', e = .returned (.agg #[.slice ao' N' cap', .string s', .int .i64 ((m : Int) + 1)]) ∧ s'.data.toList = s.data.toList ++ lineOf (wordOf [115] [a, n, x]) ∧ Below w'.heap.size w' w'' := fun w' => by
    rw [← hy5]; exact rbDown_any ao' N' cap' s Y5 m w' hss (by omega) (by omega)
  have HDOWN := Lib.hid hdown
  have y1 := hY1.symm
  have y2 := hY2.symm
  have y3 := hY3.symm
  have y4 := hY4.symm
  have y5 := hY5.symm
  clear hY1 hY2 hY3 hY4 hY5 hdown hy5 z1 z2 z3 z4 z5
  obtain ⟨w4, hw4⟩ : ∃ w4, w4 = w3.drew := ⟨_, rfl⟩
  have HS4 := Lib.hid (show Sep B w4 _ by rw [hw4]; exact HS3.out.drew)
  have HB4 := Lib.hid (show Below B w w4 by rw [hw4]; exact HB3.out.drew)
  refine wp_region_held_drew (S := fun w' => w'.cell? ⟨gb, 0, none⟩ = some (.slice ao' N' cap') ∧ w'.cell? ⟨gb, 1, none⟩ = some (.string s) ∧ w'.cell? ⟨gb, 2, none⟩ = some (.int .i64 (m : Int)) ∧ w'.cell? ⟨gr, 0, none⟩ = some (.int .i64 (a : Int)) ∧ w'.cell? ⟨gr, 1, none⟩ = some (.int .i64 (n : Int)) ∧ w'.cell? ⟨gr, 2, none⟩ = some (.int .i64 (x : Int))) (by kernel_rfl) ?hS0 (fun hHeld => ?start0)
  case hS0 => exact HSTAT.out _ (HS3.out.drew.sub (List.Sublist.cons _ (List.Sublist.cons _ (List.Sublist.cons_cons _ (List.Sublist.cons_cons _ (List.nil_sublist _))))))
  rw [← hw4] at hHeld ⊢
  clear HS3 HB3 hw4
  refine wpAnyH_take (i := 0) (v := ?va0) rfl (by kernel_rfl) (by kernel_rfl) (by kernel_rfl) (fun _ _ _ h => h) (Or.inl ⟨by rfl, ?hya0⟩) (by assumption) ?resta0
  case hya0 =>
    intro w hSw
    try dsimp only at hSw
    go_simp
    try with_reducible rfl
  try simp only [Act.put, List.setIfInBounds_toArray, List.set_cons_zero, List.set_cons_succ, List.getElem_toArray, List.getElem_cons_zero]
  refine wpAnyH_take (i := 1) (v := ?va1) rfl (by kernel_rfl) (by kernel_rfl) (by kernel_rfl) (fun _ _ _ h => h) (Or.inl ⟨by rfl, ?hya1⟩) (by assumption) ?resta1
  case hya1 =>
    intro w hSw
    try dsimp only at hSw
    go_simp
    try rw [if_neg k0]
    try rw [if_neg k1]
    try rw [if_neg k2]
    try rw [if_neg k3]
    try rw [if_neg k4]
    try with_reducible rfl
  try simp only [Act.put, List.setIfInBounds_toArray, List.set_cons_zero, List.set_cons_succ, List.getElem_toArray, List.getElem_cons_zero, List.getElem_cons_succ]
  refine wpAnyH_take (i := 2) (v := ?va2) rfl (by kernel_rfl) (by kernel_rfl) (by kernel_rfl) (fun _ _ _ h => h) (Or.inl ⟨by rfl, ?hya2⟩) (by assumption) ?resta2
  case hya2 =>
    intro w hSw
    try dsimp only at hSw
    go_simp
    try rw [if_neg k0]
    try rw [if_neg k1]
    try rw [if_neg k2]
    try rw [if_neg k3]
    try rw [if_neg k4]
    try with_reducible rfl
  try simp only [Act.put, List.setIfInBounds_toArray, List.set_cons_zero, List.set_cons_succ, List.getElem_toArray, List.getElem_cons_zero, List.getElem_cons_succ]
  refine wpAnyH_take (i := 3) (v := ?va3) rfl (by kernel_rfl) (by kernel_rfl) (by kernel_rfl) (fun _ _ _ h => h) (Or.inl ⟨by rfl, ?hya3⟩) (by assumption) ?resta3
  case hya3 =>
    intro w hSw
    try dsimp only at hSw
    go_simp
    try rw [if_neg k0]
    try rw [if_neg k1]
    try rw [if_neg k2]
    try rw [if_neg k3]
    try rw [if_neg k4]
    try with_reducible rfl
  try simp only [Act.put, List.setIfInBounds_toArray, List.set_cons_zero, List.set_cons_succ, List.getElem_toArray, List.getElem_cons_zero, List.getElem_cons_succ]
  refine wpAnyH_take (i := 7) (v := ?va7) rfl (by kernel_rfl) (by kernel_rfl) (by kernel_rfl) (fun _ _ _ h => h) (Or.inl ⟨by rfl, ?hya7⟩) (by assumption) ?resta7
  case hya7 =>
    intro w hSw
    try dsimp only at hSw
    go_simp
    try rw [if_neg k0]
    try rw [if_neg k1]
    try rw [if_neg k2]
    try rw [if_neg k3]
    try rw [if_neg k4]
    try with_reducible rfl
  try simp only [Act.put, List.setIfInBounds_toArray, List.set_cons_zero, List.set_cons_succ, List.getElem_toArray, List.getElem_cons_zero, List.getElem_cons_succ]
  refine wpAnyH_take (i := 8) (v := ?va8) rfl (by kernel_rfl) (by kernel_rfl) (by kernel_rfl) (fun _ _ _ h => h) (Or.inl ⟨by rfl, ?hya8⟩) (by assumption) ?resta8
  case hya8 =>
    intro w hSw
    try dsimp only at hSw
    go_simp
    try rw [if_neg k0]
    try rw [if_neg k1]
    try rw [if_neg k2]
    try rw [if_neg k3]
    try rw [if_neg k4]
    try with_reducible rfl
  try simp only [Act.put, List.setIfInBounds_toArray, List.set_cons_zero, List.set_cons_succ, List.getElem_toArray, List.getElem_cons_zero, List.getElem_cons_succ]
  refine wpAnyH_take (i := 9) (v := ?va9) rfl (by kernel_rfl) (by kernel_rfl) (by kernel_rfl) (fun _ _ _ h => h) (Or.inl ⟨by rfl, ?hya9⟩) (by assumption) ?resta9
  case hya9 =>
    intro w hSw
    try dsimp only at hSw
    go_simp
    try rw [if_neg k0]
    try rw [if_neg k1]
    try rw [if_neg k2]
    try rw [if_neg k3]
    try rw [if_neg k4]
    try with_reducible rfl
  try simp only [Act.put, List.setIfInBounds_toArray, List.set_cons_zero, List.set_cons_succ, List.getElem_toArray, List.getElem_cons_zero, List.getElem_cons_succ]
  refine wpAnyH_take (i := 13) (v := ?va13) rfl (by kernel_rfl) (by kernel_rfl) (by kernel_rfl) (fun _ _ _ h => h) (Or.inl ⟨by rfl, ?hya13⟩) (by assumption) ?resta13
  case hya13 =>
    intro w hSw
    try dsimp only at hSw
    go_simp
    try rw [if_neg k0]
    try rw [if_neg k1]
    try rw [if_neg k2]
    try rw [if_neg k3]
    try rw [if_neg k4]
    try with_reducible rfl
  try simp only [Act.put, List.setIfInBounds_toArray, List.set_cons_zero, List.set_cons_succ, List.getElem_toArray, List.getElem_cons_zero, List.getElem_cons_succ]
  refine wpAnyH_take (i := 14) (v := ?va14) rfl (by kernel_rfl) (by kernel_rfl) (by kernel_rfl) (fun _ _ _ h => h) (Or.inl ⟨by rfl, ?hya14⟩) (by assumption) ?resta14
  case hya14 =>
    intro w hSw
    try dsimp only at hSw
    go_simp
    try rw [if_neg k0]
    try rw [if_neg k1]
    try rw [if_neg k2]
    try rw [if_neg k3]
    try rw [if_neg k4]
    try with_reducible rfl
  try simp only [Act.put, List.setIfInBounds_toArray, List.set_cons_zero, List.set_cons_succ, List.getElem_toArray, List.getElem_cons_zero, List.getElem_cons_succ]
  refine wpAnyH_ready (rs := [4]) (by kernel_rfl) (by simp) ?_
  refine AllReadyH.cons rfl (fun K hK => ?_) AllReadyH.nil
  go_simp
  go_at_call_of 18 a
  refine (refDigits_any a _ (by omega)).mono ?_
  rintro e w' ⟨rfl, rfl⟩
  go_wp2_with fail
  refine hK.out _ _ ?_ (fun hHeld14 => ?_)
  · exact hHeld
  clear hK K
  try simp only [Act.put, List.setIfInBounds_toArray, List.set_cons_zero, List.set_cons_succ, List.getElem_toArray, List.getElem_cons_zero, List.getElem_cons_succ]
  refine wpAnyH_take (i := 5) (v := ?va5) rfl (by kernel_rfl) (by kernel_rfl) (by kernel_rfl) (fun _ _ _ h => h) (Or.inl ⟨by rfl, ?hya5⟩) (by assumption) ?resta5
  case hya5 =>
    intro w hSw
    try dsimp only at hSw
    go_simp
    try rw [if_neg k0]
    try rw [if_neg k1]
    try rw [if_neg k2]
    try rw [if_neg k3]
    try rw [if_neg k4]
    try with_reducible rfl
  try simp only [Act.put, List.setIfInBounds_toArray, List.set_cons_zero, List.set_cons_succ, List.getElem_toArray, List.getElem_cons_zero, List.getElem_cons_succ]
  refine wpAnyH_take (i := 6) (v := ?va6) rfl (by kernel_rfl) (by kernel_rfl) (by kernel_rfl) (fun _ _ _ h => h) (Or.inl ⟨by rfl, ?hya6⟩) (by assumption) ?resta6
  case hya6 =>
    intro w hSw
    try dsimp only at hSw
    go_simp
    try rw [if_neg k0]
    try rw [if_neg k1]
    try rw [if_neg k2]
    try rw [if_neg k3]
    try rw [if_neg k4]
    try with_reducible rfl
  try simp only [Act.put, List.setIfInBounds_toArray, List.set_cons_zero, List.set_cons_succ, List.getElem_toArray, List.getElem_cons_zero, List.getElem_cons_succ]
  refine wpAnyH_ready (rs := [10]) (by kernel_rfl) (by simp) ?_
  refine AllReadyH.cons rfl (fun K hK => ?_) AllReadyH.nil
  go_simp
  go_at_call_of 18 n
  refine (refDigits_any n _ (by omega)).mono ?_
  rintro e w' ⟨rfl, rfl⟩
  go_wp2_with fail
  refine hK.out _ _ ?_ (fun hHeld110 => ?_)
  · exact hHeld
  clear hK K
  try simp only [Act.put, List.setIfInBounds_toArray, List.set_cons_zero, List.set_cons_succ, List.getElem_toArray, List.getElem_cons_zero, List.getElem_cons_succ]
  refine wpAnyH_take (i := 11) (v := ?va11) rfl (by kernel_rfl) (by kernel_rfl) (by kernel_rfl) (fun _ _ _ h => h) (Or.inl ⟨by rfl, ?hya11⟩) (by assumption) ?resta11
  case hya11 =>
    intro w hSw
    try dsimp only at hSw
    go_simp
    try rw [if_neg k0]
    try rw [if_neg k1]
    try rw [if_neg k2]
    try rw [if_neg k3]
    try rw [if_neg k4]
    try with_reducible rfl
  try simp only [Act.put, List.setIfInBounds_toArray, List.set_cons_zero, List.set_cons_succ, List.getElem_toArray, List.getElem_cons_zero, List.getElem_cons_succ]
  refine wpAnyH_take (i := 12) (v := ?va12) rfl (by kernel_rfl) (by kernel_rfl) (by kernel_rfl) (fun _ _ _ h => h) (Or.inl ⟨by rfl, ?hya12⟩) (by assumption) ?resta12
  case hya12 =>
    intro w hSw
    try dsimp only at hSw
    go_simp
    try rw [if_neg k0]
    try rw [if_neg k1]
    try rw [if_neg k2]
    try rw [if_neg k3]
    try rw [if_neg k4]
    try with_reducible rfl
  try simp only [Act.put, List.setIfInBounds_toArray, List.set_cons_zero, List.set_cons_succ, List.getElem_toArray, List.getElem_cons_zero, List.getElem_cons_succ]
  refine wpAnyH_ready (rs := [15]) (by kernel_rfl) (by simp) ?_
  refine AllReadyH.cons rfl (fun K hK => ?_) AllReadyH.nil
  go_simp
  go_at_call_of 18 x
  refine (refDigits_any x _ (by omega)).mono ?_
  rintro e w' ⟨rfl, rfl⟩
  go_wp2_with fail
  refine hK.out _ _ ?_ (fun hHeld115 => ?_)
  · exact hHeld
  clear hK K
  try simp only [Act.put, List.setIfInBounds_toArray, List.set_cons_zero, List.set_cons_succ, List.getElem_toArray, List.getElem_cons_zero, List.getElem_cons_succ]
  refine wpAnyH_take (i := 16) (v := ?va16) rfl (by kernel_rfl) (by kernel_rfl) (by kernel_rfl) (fun _ _ _ h => h) (Or.inl ⟨by rfl, ?hya16⟩) (by assumption) ?resta16
  case hya16 =>
    intro w hSw
    try dsimp only at hSw
    go_simp
    try rw [if_neg k0]
    try rw [if_neg k1]
    try rw [if_neg k2]
    try rw [if_neg k3]
    try rw [if_neg k4]
    try with_reducible rfl
  try simp only [Act.put, List.setIfInBounds_toArray, List.set_cons_zero, List.set_cons_succ, List.getElem_toArray, List.getElem_cons_zero, List.getElem_cons_succ]
  refine wpAnyH_ready (rs := [17]) (by kernel_rfl) (by simp) ?_
  refine AllReadyH.cons rfl (fun K hK => ?_) AllReadyH.nil
  go_simp
  go_at_call 17
  refine (HDOWN.out _).mono ?_
  rintro e w5 ⟨s', rfl, hs', hb5⟩
  have HSS := Lib.hid hs'
  have HS5 := Lib.hid (HS4.out.kept hb5)
  have HB5 := Lib.hid (HB4.out.trans (hb5.mono (rbE_cells HS4.out).2.2.2.2))
  clear hs' hb5
  go_wp2_with fail
  refine hK.out _ _ ?_ (fun hHeld5 => ?_)
  · exact HSTAT.out _ (HS5.out.sub (List.Sublist.cons _ (List.Sublist.cons _ (List.Sublist.cons_cons _ (List.Sublist.cons_cons _ (List.nil_sublist _))))))
  clear hK K
  try simp only [Act.put, List.setIfInBounds_toArray, List.set_cons_zero, List.set_cons_succ, List.getElem_toArray, List.getElem_cons_zero, List.getElem_cons_succ]
  obtain ⟨-, -, ⟨s0, s1, s2⟩, ⟨f0, f1, f2⟩, -⟩ := rbE_cells HS5.out
  have q1 := Sep.blkSet (A := [_]) HS5.out 0 (.slice ao' N' cap')
  have q2 := Sep.blkSet (A := [_]) q1 1 (.string s')
  have q3 := Sep.blkSet (A := [_]) q2 2 (.int .i64 ((m : Int) + 1))
  have HST6 := Lib.hid (HSTAT.out _ (q3.sub (List.Sublist.cons _ (List.Sublist.cons _ (List.Sublist.cons_cons _ (List.Sublist.cons_cons _ (List.nil_sublist _)))))))
  obtain ⟨wf, hwf, he1, he2, k5, k6, k7⟩ := rbE_end (.slice ao' N' cap') (.string s') (.int .i64 ((m : Int) + 1)) HS5.out HB5.out
  have HE1 := Lib.hid he1
  have HE2 := Lib.hid he2
  have HWF := Lib.hid hwf
  rw [hwf] at k5 k6 k7
  have K5 := Lib.hid k5
  have K6 := Lib.hid k6
  have K7 := Lib.hid k7
  clear q1 q2 q3 he1 he2 hwf k5 k6 k7
  refine wpAnyH_ready (rs := [18]) (by kernel_rfl) (by simp) ?_
  refine AllReadyH.cons rfl (fun K hK => ?_) AllReadyH.nil
  go_simp
  go_wp2_with fail
  refine hK.out _ _ ?_ (fun hHeld6 => ?_)
  · exact HST6.out
  clear hK K
  try simp only [Act.put, List.setIfInBounds_toArray, List.set_cons_zero, List.set_cons_succ, List.getElem_toArray, List.getElem_cons_zero, List.getElem_cons_succ]
  refine wpAnyH_take (i := 19) (v := ?va19) rfl (by kernel_rfl) (by kernel_rfl) (by kernel_rfl) (fun _ _ _ h => h) (Or.inl ⟨by rfl, ?hya19⟩) (by assumption) ?resta19
  case hya19 =>
    intro w hSw
    try dsimp only at hSw
    go_simp
    try rw [if_neg k0]
    try rw [if_neg k1]
    try rw [if_neg k2]
    try rw [if_neg k3]
    try rw [if_neg k4]
    try with_reducible rfl
  try simp only [Act.put, List.setIfInBounds_toArray, List.set_cons_zero, List.set_cons_succ, List.getElem_toArray, List.getElem_cons_zero, List.getElem_cons_succ]
  refine wpAnyH_done (by kernel_rfl) ?_ _
  clear s0 s1 s2 f0 f1 f2
  have k5 := K5.out
  have k6 := K6.out
  have k7 := K7.out
  go_wp2
  try simp only [Exit.inBlock, Exit.then]
  refine bodyPost_ret (v := .tuple #[.agg #[.slice ao' N' cap', .string s', .int .i64 ((m : Int) + 1)], .int .i64 0]) (by simp [results, Tryd.results5, go_sem, k5, k6, k7]) rfl ?_
  rw [← HWF.out]
  exact ⟨_, s', rfl, HSS.out, HE1.out, HE2.out⟩
end Go.Proofs.YtbcfcjecobihnaaDoor
