/- ferryhytheref1.Routes.Set, .Drop: by value, a row of routes. -/
import Derived.Test.YtbcfcjecobihnaaDoorRtAt
import Derived.Test.YtbcfcjecobihnaaDoorRtChk
import Derived.Test.YtbcfcjecobihnaaDoorLpmSet
import Derived.Test.YtbcfcjecobihnaaDoorLpmDrop
import Derived.Test.YtbcfcjecobihnaaDoorBook
namespace Go.Proofs.YtbcfcjecobihnaaDoor
open Go.RowKit
set_option linter.unusedVariables false
set_option linter.unusedSimpArgs false
set_option maxRecDepth 100000

/-- The row, the result's block, the argument's, the receiver's. -/
abbrev rsE (gs gr gb : Nat) (te : TypeId) (cs : List Value) (v sp : Value) (L : List Rte) (F : List Ent) : List Ent :=
  rteE v L :: Ent.blk1 gs 27 [.slice none 0 0] :: Ent.blk1 gr te cs :: Ent.blk1 gb 27 [sp] :: F
theorem rsE_cells {B gs gr gb : Nat} {te : TypeId} {cs : List Value} {v sp : Value} {L : List Rte} {F : List Ent} {w : World} (h : Sep B w (rsE gs gr gb te cs v sp L F)) :
    (w.cell? ⟨gb, 0, none⟩ = some sp) ∧ (∀ j u, cs[j]? = some u → w.cell? ⟨gr, j, none⟩ = some u) ∧ w.cell? ⟨gs, 0, none⟩ = some (.slice none 0 0) ∧ w.frozen? ⟨gs, 0, none⟩ = false ∧ B ≤ w.heap.size :=
  ⟨(Sep.blkAt (A := [_, _, _]) h (j := 0) rfl).1, fun j u hu => (Sep.blkAt (A := [_, _]) h (j := j) hu).1, (Sep.blkAt (A := [_]) h (j := 0) rfl).1, (Sep.blkAt (A := [_]) h (j := 0) rfl).2, by have := Sep.blkLt (A := [_]) h; omega⟩
theorem rsE_end {B gs gr gb : Nat} {te : TypeId} {cs : List Value} {v sp : Value} {L : List Rte} {F : List Ent} {w w0 : World} (u : Value) (h : Sep B w (rsE gs gr gb te cs v sp L F)) (hb : Below B w0 w) :
    ∃ w', w' = w.setCell ⟨gs, 0, none⟩ u ∧ Sep B w' (rteE v L :: F) ∧ Below B w0 w' ∧ w'.cell? ⟨gs, 0, none⟩ = some u := by
  have h1 := Sep.blkSet (A := [_]) h 0 u
  have hl := (Sep.blkLt (A := [_]) h).1
  exact ⟨_, rfl, h1.sub (List.Sublist.cons_cons _ (List.Sublist.cons _ (List.Sublist.cons _ (List.Sublist.cons _ (List.Sublist.refl _))))), hb.setCell (p := ⟨gs, 0, none⟩) hl u, (Sep.blkAt (A := [_]) h1 (j := 0) rfl).1⟩
theorem rsE_new {B : Nat} {w : World} {sp : Value} {L : List Rte} {F : List Ent} (te : TypeId) (cs : Array Value) (h : Sep B w (rteE sp L :: F)) (hB : B ≤ w.heap.size) :
    ∃ W, W = ((w.alloc (.cells #[sp] 27)).alloc (.cells cs te)).alloc (.cells #[.slice none 0 0] 27) ∧ Sep B W (rsE (w.heap.size + 1 + 1) (w.heap.size + 1) w.heap.size te cs.toList sp sp L F) ∧ Below B w W := by
  have h1 := h.blkNew hB #[sp] 27
  have h2 := h1.blkNew (by simp; omega) cs te
  have h3 := h2.blkNew (by simp; omega) #[.slice none 0 0] 27
  rw [show (w.alloc (.cells #[sp] 27)).heap.size = w.heap.size + 1 by simp] at h2 h3
  rw [show ((w.alloc (.cells #[sp] 27)).alloc (.cells cs te)).heap.size = w.heap.size + 1 + 1 by simp] at h3
  refine ⟨_, rfl, (h3.perm (List.perm_append_comm (l₁ := [_, _, _]) (l₂ := [_]) |>.append_right F)), (((Below.refl B w).alloc hB _).alloc (by simp; omega) _).alloc (by simp; omega) _⟩
set_option maxHeartbeats 1000000 in
theorem rtSet_bad (B : Nat) (sp : Value) (L : List Rte) (F : List Ent) (a n x : Int) (w : World) (h : Sep B w (rteE sp L :: F)) (hB : B ≤ w.heap.size) (hc : ¬ chkP a n = 0) :
    Calls Tryd.prog 16 #[.agg #[sp], .agg #[.int .i64 a, .int .i64 n, .int .i64 x]] w fun e w' =>
      e = .returned (.tuple #[.agg #[sp], .int .i64 (chkP a n)]) ∧ Sep B w' (rteE sp L :: F) ∧ Below B w w' := by
  have hpre := refPre_any a n
  obtain ⟨c, hcc⟩ : ∃ c, c = chkP a n := ⟨_, rfl⟩
  rw [← hcc] at hc hpre ⊢
  have hd : (c != 0) = true := by simp [hc]
  have HPRE := Lib.hid hpre
  clear hc hcc hpre
  obtain ⟨W, hW, hs0, hb0⟩ := rsE_new 36 #[.int .i64 a, .int .i64 n, .int .i64 x] h hB
  obtain ⟨⟨ao, cap, rfl, hcap⟩⟩ : Nonempty _ := ⟨rte_shape (A := []) h⟩
  obtain ⟨gs, hgs⟩ : ∃ x, x = w.heap.size + 1 + 1 := ⟨_, rfl⟩
  obtain ⟨gr, hgr⟩ : ∃ x, x = w.heap.size + 1 := ⟨_, rfl⟩
  obtain ⟨gb, hgb⟩ : ∃ x, x = w.heap.size := ⟨_, rfl⟩
  rw [← hgs, ← hgr, ← hgb] at hs0
  have HS0 := Lib.hid hs0
  have HB0 := Lib.hid hb0
  have HW := Lib.hid hW
  have HGS := Lib.hid hgs
  have HGR := Lib.hid hgr
  have HGB := Lib.hid hgb
  clear h hs0 hb0 hW hgs hgr hgb
  obtain ⟨b0, hcs, s0, f0, hg0⟩ := rsE_cells HS0.out
  have r0 := hcs 0 _ rfl
  have r1 := hcs 1 _ rfl
  have r2 := hcs 2 _ rfl
  clear hcs
  go_enter Tryd.func16, Tryd.ntmps16
  go_upto_region 1 with fail
  rw [← HW.out, ← HGS.out, ← HGR.out, ← HGB.out]
  clear HW
  go_wp2_with fail
  refine (HPRE.out W).mono ?_
  rintro e w1 ⟨rfl, hb⟩
  have HS1 := Lib.hid (HS0.out.kept hb)
  have HB1 := Lib.hid (HB0.out.trans (hb.mono hg0))
  clear hb HS0 HB0 b0 r0 r1 r2 s0 f0 hg0
  obtain ⟨b0, hcs, s0, f0, hg1⟩ := rsE_cells HS1.out
  have r0 := hcs 0 _ rfl
  have r1 := hcs 1 _ rfl
  have r2 := hcs 2 _ rfl
  clear hcs
  obtain ⟨wf, hwf, he1, he2, k0⟩ := rsE_end (.slice ao L.length cap) HS1.out HB1.out
  have HE1 := Lib.hid he1
  have HE2 := Lib.hid he2
  have HWF := Lib.hid hwf
  rw [hwf] at k0
  clear he1 he2 hwf
  go_wp2
  try simp only [Exit.inBlock, Exit.then]
  refine bodyPost_ret (v := .tuple #[.agg #[(.slice ao L.length cap)], .int .i64 c]) (by simp [results, Tryd.results16, go_sem, k0]) rfl ?_
  rw [← HWF.out]
  exact ⟨rfl, HE1.out, HE2.out⟩
set_option maxHeartbeats 1000000 in
theorem rtSet_hop (B : Nat) (sp : Value) (L : List Rte) (F : List Ent) (a n x : Int) (w : World) (h : Sep B w (rteE sp L :: F)) (hB : B ≤ w.heap.size) (hc : chkP a n = 0) (hx : ¬ (0 ≤ x ∧ x ≤ 9)) :
    Calls Tryd.prog 16 #[.agg #[sp], .agg #[.int .i64 a, .int .i64 n, .int .i64 x]] w fun e w' =>
      e = .returned (.tuple #[.agg #[sp], .int .i64 1]) ∧ Sep B w' (rteE sp L :: F) ∧ Below B w w' := by
  have hpre := refPre_any a n
  rw [hc] at hpre
  have HPRE := Lib.hid hpre
  have HX := Lib.hid hx
  clear hc hx hpre
  obtain ⟨W, hW, hs0, hb0⟩ := rsE_new 36 #[.int .i64 a, .int .i64 n, .int .i64 x] h hB
  obtain ⟨⟨ao, cap, rfl, hcap⟩⟩ : Nonempty _ := ⟨rte_shape (A := []) h⟩
  obtain ⟨gs, hgs⟩ : ∃ x, x = w.heap.size + 1 + 1 := ⟨_, rfl⟩
  obtain ⟨gr, hgr⟩ : ∃ x, x = w.heap.size + 1 := ⟨_, rfl⟩
  obtain ⟨gb, hgb⟩ : ∃ x, x = w.heap.size := ⟨_, rfl⟩
  rw [← hgs, ← hgr, ← hgb] at hs0
  have HS0 := Lib.hid hs0
  have HB0 := Lib.hid hb0
  have HW := Lib.hid hW
  have HGS := Lib.hid hgs
  have HGR := Lib.hid hgr
  have HGB := Lib.hid hgb
  clear h hs0 hb0 hW hgs hgr hgb
  obtain ⟨b0, hcs, s0, f0, hg0⟩ := rsE_cells HS0.out
  have r0 := hcs 0 _ rfl
  have r1 := hcs 1 _ rfl
  have r2 := hcs 2 _ rfl
  clear hcs
  go_enter Tryd.func16, Tryd.ntmps16
  go_upto_region 1 with fail
  rw [← HW.out, ← HGS.out, ← HGR.out, ← HGB.out]
  clear HW
  go_wp2_with fail
  refine (HPRE.out W).mono ?_
  rintro e w1 ⟨rfl, hb⟩
  have HS1 := Lib.hid (HS0.out.kept hb)
  have HB1 := Lib.hid (HB0.out.trans (hb.mono hg0))
  clear hb HS0 HB0 b0 r0 r1 r2 s0 f0 hg0
  obtain ⟨b0, hcs, s0, f0, hg1⟩ := rsE_cells HS1.out
  have r0 := hcs 0 _ rfl
  have r1 := hcs 1 _ rfl
  have r2 := hcs 2 _ rfl
  clear hcs
  go_wp2_with fail
  refine (inR_no _ _ _ _ HX.out).mono ?_
  rintro e w' ⟨rfl, rfl⟩
  obtain ⟨wf, hwf, he1, he2, k0⟩ := rsE_end (.slice ao L.length cap) HS1.out HB1.out
  have HE1 := Lib.hid he1
  have HE2 := Lib.hid he2
  have HWF := Lib.hid hwf
  rw [hwf] at k0
  clear he1 he2 hwf
  go_wp2
  try simp only [Exit.inBlock, Exit.then]
  refine bodyPost_ret (v := .tuple #[.agg #[(.slice ao L.length cap)], .int .i64 1]) (by simp [results, Tryd.results16, go_sem, k0]) rfl ?_
  rw [← HWF.out]
  exact ⟨rfl, HE1.out, HE2.out⟩
set_option maxHeartbeats 1000000 in
theorem rtSet_full (B : Nat) (sp : Value) (L : List Rte) (F : List Ent) (a n x : Nat) (w : World) (h : Sep B w (rteE sp L :: F)) (hB : B ≤ w.heap.size) (hl : L.length ≤ 32) (hk : lpOk a n) (hx : x ≤ 9) (hno : isK L a n = false) (hf : L.length = 32) :
    Calls Tryd.prog 16 #[.agg #[sp], .agg #[.int .i64 a, .int .i64 n, .int .i64 x]] w fun e w' =>
      e = .returned (.tuple #[.agg #[sp], .int .i64 4]) ∧ Sep B w' (rteE sp L :: F) ∧ Below B w w' := by
  have hpre := refPre_any (a : Int) (n : Int)
  rw [chkP_of hk] at hpre
  have HPRE := Lib.hid hpre
  have HK := Lib.hid hk
  have hh0 : (0 : Int) ≤ (x : Int) := by omega
  have hh9 : (x : Int) ≤ 9 := by omega
  have HL := Lib.hid hl
  clear hpre hk
  have hd : decide ((32 : Int) ≤ (L.length : Int)) = true := decide_eq_true (by omega)
  have hd2 : decide (32 ≤ L.length) = true := decide_eq_true (by omega)
  obtain ⟨i, hi⟩ : ∃ i, i = atK L a n := ⟨_, rfl⟩
  have HI := Lib.hid hi
  have HIS := Lib.hid hno
  clear hf hi hno
  obtain ⟨W, hW, hs0, hb0⟩ := rsE_new 36 #[.int .i64 a, .int .i64 n, .int .i64 x] h hB
  obtain ⟨⟨ao, cap, rfl, hcap⟩⟩ : Nonempty _ := ⟨rte_shape (A := []) h⟩
  obtain ⟨gs, hgs⟩ : ∃ x, x = w.heap.size + 1 + 1 := ⟨_, rfl⟩
  obtain ⟨gr, hgr⟩ : ∃ x, x = w.heap.size + 1 := ⟨_, rfl⟩
  obtain ⟨gb, hgb⟩ : ∃ x, x = w.heap.size := ⟨_, rfl⟩
  rw [← hgs, ← hgr, ← hgb] at hs0
  have HS0 := Lib.hid hs0
  have HB0 := Lib.hid hb0
  have HW := Lib.hid hW
  have HGS := Lib.hid hgs
  have HGR := Lib.hid hgr
  have HGB := Lib.hid hgb
  clear h hs0 hb0 hW hgs hgr hgb
  obtain ⟨b0, hcs, s0, f0, hg0⟩ := rsE_cells HS0.out
  have r0 := hcs 0 _ rfl
  have r1 := hcs 1 _ rfl
  have r2 := hcs 2 _ rfl
  clear hcs
  go_enter Tryd.func16, Tryd.ntmps16
  go_upto_region 1 with fail
  rw [← HW.out, ← HGS.out, ← HGR.out, ← HGB.out]
  clear HW
  go_wp2_with fail
  refine (HPRE.out W).mono ?_
  rintro e w1 ⟨rfl, hb⟩
  have HS1 := Lib.hid (HS0.out.kept hb)
  have HB1 := Lib.hid (HB0.out.trans (hb.mono hg0))
  clear hb HS0 HB0 b0 r0 r1 r2 s0 f0 hg0
  obtain ⟨b0, hcs, s0, f0, hg1⟩ := rsE_cells HS1.out
  have r0 := hcs 0 _ rfl
  have r1 := hcs 1 _ rfl
  have r2 := hcs 2 _ rfl
  clear hcs
  go_wp2_with fail
  refine (inR_yes _ _ _ _ hh0 hh9).mono ?_
  rintro e w' ⟨rfl, rfl⟩
  have hat := refAtR_any w1.heap.size ao cap L a n w1 (Sep.rteSl (A := []) HS1.out) (Nat.le_refl _) (by have := HL.out; omega)
  rw [← HI.out, HIS.out] at hat
  have HAT := Lib.hid hat
  clear hat
  go_wp2_with fail
  refine HAT.out.mono ?_
  rintro e w2 ⟨rfl, hb⟩
  have HS2 := Lib.hid (HS1.out.kept hb)
  have HB2 := Lib.hid (HB1.out.trans (hb.mono hg1))
  clear hb HS1 HB1 b0 r0 r1 r2 s0 f0 hg1 HAT
  obtain ⟨b0, hcs, s0, f0, hg2⟩ := rsE_cells HS2.out
  have r0 := hcs 0 _ rfl
  have r1 := hcs 1 _ rfl
  have r2 := hcs 2 _ rfl
  clear hcs
  obtain ⟨wf, hwf, he1, he2, k0⟩ := rsE_end (.slice ao L.length cap) HS2.out HB2.out
  have HE1 := Lib.hid he1
  have HE2 := Lib.hid he2
  have HWF := Lib.hid hwf
  rw [hwf] at k0
  clear he1 he2 hwf
  go_wp2
  try simp only [Exit.inBlock, Exit.then]
  refine bodyPost_ret (v := .tuple #[.agg #[(.slice ao L.length cap)], .int .i64 4]) (by simp [results, Tryd.results16, go_sem, k0]) rfl ?_
  rw [← HWF.out]
  exact ⟨rfl, HE1.out, HE2.out⟩
set_option maxHeartbeats 2000000 in
theorem rtSet_new (B : Nat) (sp : Value) (L : List Rte) (F : List Ent) (a n x : Nat) (w : World) (h : Sep B w (rteE sp L :: F)) (hB : B ≤ w.heap.size) (hl : L.length ≤ 32) (hk : lpOk a n) (hx : x ≤ 9) (hno : isK L a n = false) (hf : ¬ L.length = 32) :
    Calls Tryd.prog 16 #[.agg #[sp], .agg #[.int .i64 a, .int .i64 n, .int .i64 x]] w fun e w' =>
      ∃ sp', e = .returned (.tuple #[.agg #[sp'], .int .i64 0]) ∧ Sep B w' (rteE sp' (L.take (atK L a n) ++ (a, n, x) :: L.drop (atK L a n)) :: F) ∧ Below B w w' := by
  have hpre := refPre_any (a : Int) (n : Int)
  rw [chkP_of hk] at hpre
  have HPRE := Lib.hid hpre
  have HK := Lib.hid hk
  have hh0 : (0 : Int) ≤ (x : Int) := by omega
  have hh9 : (x : Int) ≤ 9 := by omega
  have HL := Lib.hid hl
  clear hpre hk
  have hd : decide ((32 : Int) ≤ (L.length : Int)) = false := decide_eq_false (by omega)
  have hd2 : decide (32 ≤ L.length) = false := decide_eq_false (by omega)
  obtain ⟨i, hi⟩ : ∃ i, i = atK L a n := ⟨_, rfl⟩
  have HI := Lib.hid hi
  have HIS := Lib.hid hno
  rw [← hi]
  have hi1 : i ≤ L.length := by rw [hi]; exact atK_le L a n
  clear hf hi hno
  obtain ⟨W, hW, hs0, hb0⟩ := rsE_new 36 #[.int .i64 a, .int .i64 n, .int .i64 x] h hB
  obtain ⟨⟨ao, cap, rfl, hcap⟩⟩ : Nonempty _ := ⟨rte_shape (A := []) h⟩
  obtain ⟨gs, hgs⟩ : ∃ x, x = w.heap.size + 1 + 1 := ⟨_, rfl⟩
  obtain ⟨gr, hgr⟩ : ∃ x, x = w.heap.size + 1 := ⟨_, rfl⟩
  obtain ⟨gb, hgb⟩ : ∃ x, x = w.heap.size := ⟨_, rfl⟩
  rw [← hgs, ← hgr, ← hgb] at hs0
  have HS0 := Lib.hid hs0
  have HB0 := Lib.hid hb0
  have HW := Lib.hid hW
  have HGS := Lib.hid hgs
  have HGR := Lib.hid hgr
  have HGB := Lib.hid hgb
  clear h hs0 hb0 hW hgs hgr hgb
  obtain ⟨b0, hcs, s0, f0, hg0⟩ := rsE_cells HS0.out
  have r0 := hcs 0 _ rfl
  have r1 := hcs 1 _ rfl
  have r2 := hcs 2 _ rfl
  clear hcs
  go_enter Tryd.func16, Tryd.ntmps16
  go_upto_region 1 with fail
  rw [← HW.out, ← HGS.out, ← HGR.out, ← HGB.out]
  clear HW
  go_wp2_with fail
  refine (HPRE.out W).mono ?_
  rintro e w1 ⟨rfl, hb⟩
  have HS1 := Lib.hid (HS0.out.kept hb)
  have HB1 := Lib.hid (HB0.out.trans (hb.mono hg0))
  clear hb HS0 HB0 b0 r0 r1 r2 s0 f0 hg0
  obtain ⟨b0, hcs, s0, f0, hg1⟩ := rsE_cells HS1.out
  have r0 := hcs 0 _ rfl
  have r1 := hcs 1 _ rfl
  have r2 := hcs 2 _ rfl
  clear hcs
  go_wp2_with fail
  refine (inR_yes _ _ _ _ hh0 hh9).mono ?_
  rintro e w' ⟨rfl, rfl⟩
  have hat := refAtR_any w1.heap.size ao cap L a n w1 (Sep.rteSl (A := []) HS1.out) (Nat.le_refl _) (by have := HL.out; omega)
  rw [← HI.out, HIS.out] at hat
  have HAT := Lib.hid hat
  clear hat
  go_wp2_with fail
  refine HAT.out.mono ?_
  rintro e w2 ⟨rfl, hb⟩
  have HS2 := Lib.hid (HS1.out.kept hb)
  have HB2 := Lib.hid (HB1.out.trans (hb.mono hg1))
  clear hb HS1 HB1 b0 r0 r1 r2 s0 f0 hg1 HAT
  obtain ⟨b0, hcs, s0, f0, hg2⟩ := rsE_cells HS2.out
  have r0 := hcs 0 _ rfl
  have r1 := hcs 1 _ rfl
  have r2 := hcs 2 _ rfl
  clear hcs
  have hic : i ≤ cap := by omega
  have hik : (i : Int) ≤ (L.length : Int) := by omega
  have hi0 : (0 : Int) ≤ (i : Int) := by omega
  obtain ⟨v1, w3, hr1, hs3, hb3⟩ := rteApp (A := []) (X := []) (ys := L.take i) (c := cap) 25 (HS2.out.rowNil 3 36) hg2 (rteSl_take (Sep.rteSl (A := []) HS2.out) i) (by rw [List.length_take]; simp; omega)
  rw [List.length_take, Nat.min_eq_left hi1] at hr1
  simp only [List.nil_append] at hs3
  have hg3 : B ≤ w3.heap.size := Nat.le_trans hg2 hb3.size
  have HR1 := Lib.hid hr1
  have HS3 := Lib.hid hs3
  have HB3 := Lib.hid (HB2.out.trans hb3)
  clear hr1 hs3 hb3
  go_upto_region 10 with fail
  go_upto_region 11 with (first | (with_reducible refine wpList_slice_to rfl (.tmp 40) (.tmp 41) rfl elemRte _ _ _ rfl i .i64 rfl hic ?_) | (at_builtin; refine wpList_append_known rfl (.tmp 38) (.tmp 42) _ _ rfl _ _ rfl rfl HR1.out ?_))
  have hs3a := HS3.out.alloc (.cells #[.int .i64 (a : Int), .int .i64 (n : Int), .int .i64 (x : Int)] 36)
  have hb3a := HB3.out.alloc hg3 (.cells #[.int .i64 (a : Int), .int .i64 (n : Int), .int .i64 (x : Int)] 36)
  obtain ⟨v2, w4, hr2, hs4, hb4⟩ := rteApp (A := []) (X := L.take i) (ys := [(a, n, x)]) (c := 1) 25 hs3a (by simp; omega) (rteSl_new w3 w3.heap.size rfl (a, n, x) 36) (by rw [List.length_take]; simp; omega)
  simp only [List.nil_append] at hs4
  obtain ⟨_, c0, hcs, s0, f0, hg3'⟩ := rsE_cells (v := .slice ao L.length cap) (HS3.out.sub (List.sublist_cons_self _ _)) |> fun h => (⟨trivial, h.1, h.2.1, h.2.2.1, h.2.2.2.1, h.2.2.2.2⟩ : True ∧ _ ∧ _ ∧ _ ∧ _ ∧ _)
  have r0 := hcs 0 _ rfl
  have r1 := hcs 1 _ rfl
  have r2 := hcs 2 _ rfl
  have HR2 := Lib.hid (show (Builtin.append_ #[25, 25] 25 #[v1, .slice (some ⟨w3.heap.size, 0, none⟩) 1 1]).run Tryd.prog (w3.alloc (.cells #[.int .i64 (a : Int), .int .i64 (n : Int), .int .i64 (x : Int)] 36)) = .ok v2 w4 from hr2)
  have HS4 := Lib.hid hs4
  have HB4 := Lib.hid (hb3a.trans hb4)
  have hg4 : B ≤ w4.heap.size := Nat.le_trans hB HB4.out.size
  obtain ⟨_, d0, -, -, -, -⟩ := rsE_cells (v := .slice ao L.length cap) (HS4.out.sub (List.sublist_cons_self _ _)) |> fun h => (⟨trivial, h.1, h.2.1, h.2.2.1, h.2.2.2.1, h.2.2.2.2⟩ : True ∧ _ ∧ _ ∧ _ ∧ _ ∧ _)
  clear hs3a hb3a hr2 hs4 hb4 hcs
  have hjl : i ≤ L.length := hi1
  obtain ⟨v3, w5, hr3, hs5, hb5⟩ := rteApp (A := []) (ys := L.drop i) (c := cap - i) 25 HS4.out hg4 (rteSl_cut (Sep.rteSl (A := [_]) HS4.out) hcap i) (by simp; omega)
  rw [List.length_drop] at hr3
  obtain ⟨ao5, N5, cap5, rfl⟩ : ∃ a n c, v3 = .slice a n c := by
    obtain ⟨a', c', e, -⟩ := rte_shape (A := []) hs5
    exact ⟨a', _, c', e⟩
  simp only [List.nil_append] at hs5
  have HR3 := Lib.hid hr3
  have HS5 := Lib.hid (show Sep B w5 (rsE gs gr gb 36 [.int .i64 (a : Int), .int .i64 (n : Int), .int .i64 (x : Int)] (.slice ao5 N5 cap5) (.slice ao L.length cap) _ (rteE (.slice ao L.length cap) L :: F)) from hs5.perm (List.Perm.cons _ ((List.perm_append_comm (l₁ := [_]) (l₂ := [_, _, _])).append_right F)))
  have HB5 := Lib.hid (HB4.out.trans hb5)
  obtain ⟨_, e0, _, e1, e2, -⟩ := rsE_cells HS5.out |> fun h => (⟨trivial, h.1, h.2.1, h.2.2.1, h.2.2.2.1, h.2.2.2.2⟩ : True ∧ _ ∧ _ ∧ _ ∧ _ ∧ _)
  clear hr3 hs5 hb5
  go_upto_region 12 with (first | (at_builtin; refine wpList_append_known rfl (.tmp 44) (.tmp 46) _ _ rfl _ _ rfl rfl HR2.out ?_))
  go_upto_region 14 with fail
  go_wp2_with (first | (with_reducible refine wpList_slice_from rfl (.tmp 53) (.tmp 54) rfl elemRte _ _ _ rfl i .i64 rfl hjl ?_) | (at_builtin; refine wpList_append_known rfl (.tmp 51) (.tmp 55) _ _ rfl _ _ rfl rfl HR3.out ?_))
  obtain ⟨wf, hwf, he1, he2, k0⟩ := rsE_end (.slice ao5 N5 cap5) HS5.out HB5.out
  have HE1 := Lib.hid he1
  have HE2 := Lib.hid he2
  have HWF := Lib.hid hwf
  rw [hwf] at k0
  clear he1 he2 hwf
  go_wp2
  try simp only [Exit.inBlock, Exit.then]
  refine bodyPost_ret (v := .tuple #[.agg #[(.slice ao5 N5 cap5)], .int .i64 0]) (by simp [results, Tryd.results16, go_sem, k0]) rfl ?_
  rw [← HWF.out]
  refine ⟨_, rfl, ?_, HE2.out⟩
  have := HE1.out
  rw [List.append_assoc] at this
  exact this.sub (List.Sublist.cons_cons _ (List.sublist_cons_self _ _))
set_option maxHeartbeats 2000000 in
theorem rtSet_old (B : Nat) (sp : Value) (L : List Rte) (F : List Ent) (a n x : Nat) (w : World) (h : Sep B w (rteE sp L :: F)) (hB : B ≤ w.heap.size) (hl : L.length ≤ 32) (hk : lpOk a n) (hx : x ≤ 9) (hno : isK L a n = true) :
    Calls Tryd.prog 16 #[.agg #[sp], .agg #[.int .i64 a, .int .i64 n, .int .i64 x]] w fun e w' =>
      ∃ sp', e = .returned (.tuple #[.agg #[sp'], .int .i64 0]) ∧ Sep B w' (rteE sp' (L.take (atK L a n) ++ (a, n, x) :: L.drop (atK L a n + 1)) :: F) ∧ Below B w w' := by
  have hpre := refPre_any (a : Int) (n : Int)
  rw [chkP_of hk] at hpre
  have HPRE := Lib.hid hpre
  have HK := Lib.hid hk
  have hh0 : (0 : Int) ≤ (x : Int) := by omega
  have hh9 : (x : Int) ≤ 9 := by omega
  have HL := Lib.hid hl
  clear hpre hk
  obtain ⟨i, hi⟩ : ∃ i, i = atK L a n := ⟨_, rfl⟩
  have hjl : i + 1 ≤ L.length := by
    unfold isK at hno
    rw [← hi] at hno
    rcases Nat.lt_or_ge i L.length with h | h
    · omega
    · rw [List.getElem?_eq_none h] at hno; cases hno
  have HI := Lib.hid hi
  have HIS := Lib.hid hno
  rw [← hi]
  have hi1 : i ≤ L.length := by omega
  clear hi hno
  obtain ⟨W, hW, hs0, hb0⟩ := rsE_new 36 #[.int .i64 a, .int .i64 n, .int .i64 x] h hB
  obtain ⟨⟨ao, cap, rfl, hcap⟩⟩ : Nonempty _ := ⟨rte_shape (A := []) h⟩
  obtain ⟨gs, hgs⟩ : ∃ x, x = w.heap.size + 1 + 1 := ⟨_, rfl⟩
  obtain ⟨gr, hgr⟩ : ∃ x, x = w.heap.size + 1 := ⟨_, rfl⟩
  obtain ⟨gb, hgb⟩ : ∃ x, x = w.heap.size := ⟨_, rfl⟩
  rw [← hgs, ← hgr, ← hgb] at hs0
  have HS0 := Lib.hid hs0
  have HB0 := Lib.hid hb0
  have HW := Lib.hid hW
  have HGS := Lib.hid hgs
  have HGR := Lib.hid hgr
  have HGB := Lib.hid hgb
  clear h hs0 hb0 hW hgs hgr hgb
  obtain ⟨b0, hcs, s0, f0, hg0⟩ := rsE_cells HS0.out
  have r0 := hcs 0 _ rfl
  have r1 := hcs 1 _ rfl
  have r2 := hcs 2 _ rfl
  clear hcs
  go_enter Tryd.func16, Tryd.ntmps16
  go_upto_region 1 with fail
  rw [← HW.out, ← HGS.out, ← HGR.out, ← HGB.out]
  clear HW
  go_wp2_with fail
  refine (HPRE.out W).mono ?_
  rintro e w1 ⟨rfl, hb⟩
  have HS1 := Lib.hid (HS0.out.kept hb)
  have HB1 := Lib.hid (HB0.out.trans (hb.mono hg0))
  clear hb HS0 HB0 b0 r0 r1 r2 s0 f0 hg0
  obtain ⟨b0, hcs, s0, f0, hg1⟩ := rsE_cells HS1.out
  have r0 := hcs 0 _ rfl
  have r1 := hcs 1 _ rfl
  have r2 := hcs 2 _ rfl
  clear hcs
  go_wp2_with fail
  refine (inR_yes _ _ _ _ hh0 hh9).mono ?_
  rintro e w' ⟨rfl, rfl⟩
  have hat := refAtR_any w1.heap.size ao cap L a n w1 (Sep.rteSl (A := []) HS1.out) (Nat.le_refl _) (by have := HL.out; omega)
  rw [← HI.out, HIS.out] at hat
  have HAT := Lib.hid hat
  clear hat
  go_wp2_with fail
  refine HAT.out.mono ?_
  rintro e w2 ⟨rfl, hb⟩
  have HS2 := Lib.hid (HS1.out.kept hb)
  have HB2 := Lib.hid (HB1.out.trans (hb.mono hg1))
  clear hb HS1 HB1 b0 r0 r1 r2 s0 f0 hg1 HAT
  obtain ⟨b0, hcs, s0, f0, hg2⟩ := rsE_cells HS2.out
  have r0 := hcs 0 _ rfl
  have r1 := hcs 1 _ rfl
  have r2 := hcs 2 _ rfl
  clear hcs
  have hic : i ≤ cap := by omega
  have hik : (i : Int) ≤ (L.length : Int) := by omega
  have hi0 : (0 : Int) ≤ (i : Int) := by omega
  obtain ⟨v1, w3, hr1, hs3, hb3⟩ := rteApp (A := []) (X := []) (ys := L.take i) (c := cap) 25 (HS2.out.rowNil 3 36) hg2 (rteSl_take (Sep.rteSl (A := []) HS2.out) i) (by rw [List.length_take]; simp; omega)
  rw [List.length_take, Nat.min_eq_left hi1] at hr1
  simp only [List.nil_append] at hs3
  have hg3 : B ≤ w3.heap.size := Nat.le_trans hg2 hb3.size
  have HR1 := Lib.hid hr1
  have HS3 := Lib.hid hs3
  have HB3 := Lib.hid (HB2.out.trans hb3)
  clear hr1 hs3 hb3
  go_upto_region 10 with fail
  go_upto_region 11 with (first | (with_reducible refine wpList_slice_to rfl (.tmp 40) (.tmp 41) rfl elemRte _ _ _ rfl i .i64 rfl hic ?_) | (at_builtin; refine wpList_append_known rfl (.tmp 38) (.tmp 42) _ _ rfl _ _ rfl rfl HR1.out ?_))
  have hs3a := HS3.out.alloc (.cells #[.int .i64 (a : Int), .int .i64 (n : Int), .int .i64 (x : Int)] 36)
  have hb3a := HB3.out.alloc hg3 (.cells #[.int .i64 (a : Int), .int .i64 (n : Int), .int .i64 (x : Int)] 36)
  obtain ⟨v2, w4, hr2, hs4, hb4⟩ := rteApp (A := []) (X := L.take i) (ys := [(a, n, x)]) (c := 1) 25 hs3a (by simp; omega) (rteSl_new w3 w3.heap.size rfl (a, n, x) 36) (by rw [List.length_take]; simp; omega)
  simp only [List.nil_append] at hs4
  obtain ⟨_, c0, hcs, s0, f0, hg3'⟩ := rsE_cells (v := .slice ao L.length cap) (HS3.out.sub (List.sublist_cons_self _ _)) |> fun h => (⟨trivial, h.1, h.2.1, h.2.2.1, h.2.2.2.1, h.2.2.2.2⟩ : True ∧ _ ∧ _ ∧ _ ∧ _ ∧ _)
  have r0 := hcs 0 _ rfl
  have r1 := hcs 1 _ rfl
  have r2 := hcs 2 _ rfl
  have HR2 := Lib.hid (show (Builtin.append_ #[25, 25] 25 #[v1, .slice (some ⟨w3.heap.size, 0, none⟩) 1 1]).run Tryd.prog (w3.alloc (.cells #[.int .i64 (a : Int), .int .i64 (n : Int), .int .i64 (x : Int)] 36)) = .ok v2 w4 from hr2)
  have HS4 := Lib.hid hs4
  have HB4 := Lib.hid (hb3a.trans hb4)
  have hg4 : B ≤ w4.heap.size := Nat.le_trans hB HB4.out.size
  obtain ⟨_, d0, -, -, -, -⟩ := rsE_cells (v := .slice ao L.length cap) (HS4.out.sub (List.sublist_cons_self _ _)) |> fun h => (⟨trivial, h.1, h.2.1, h.2.2.1, h.2.2.2.1, h.2.2.2.2⟩ : True ∧ _ ∧ _ ∧ _ ∧ _ ∧ _)
  clear hs3a hb3a hr2 hs4 hb4 hcs
  obtain ⟨v3, w5, hr3, hs5, hb5⟩ := rteApp (A := []) (ys := L.drop (i + 1)) (c := cap - (i + 1)) 25 HS4.out hg4 (rteSl_cut (Sep.rteSl (A := [_]) HS4.out) hcap (i + 1)) (by simp; omega)
  rw [List.length_drop] at hr3
  obtain ⟨ao5, N5, cap5, rfl⟩ : ∃ a n c, v3 = .slice a n c := by
    obtain ⟨a', c', e, -⟩ := rte_shape (A := []) hs5
    exact ⟨a', _, c', e⟩
  simp only [List.nil_append] at hs5
  have HR3 := Lib.hid hr3
  have HS5 := Lib.hid (show Sep B w5 (rsE gs gr gb 36 [.int .i64 (a : Int), .int .i64 (n : Int), .int .i64 (x : Int)] (.slice ao5 N5 cap5) (.slice ao L.length cap) _ (rteE (.slice ao L.length cap) L :: F)) from hs5.perm (List.Perm.cons _ ((List.perm_append_comm (l₁ := [_]) (l₂ := [_, _, _])).append_right F)))
  have HB5 := Lib.hid (HB4.out.trans hb5)
  obtain ⟨_, e0, _, e1, e2, -⟩ := rsE_cells HS5.out |> fun h => (⟨trivial, h.1, h.2.1, h.2.2.1, h.2.2.2.1, h.2.2.2.2⟩ : True ∧ _ ∧ _ ∧ _ ∧ _ ∧ _)
  clear hr3 hs5 hb5
  obtain ⟨k, hk⟩ : ∃ k, k = i + 1 := ⟨_, rfl⟩
  have hkI : (i : Int) + 1 = (k : Int) := by omega
  rw [← hk] at HR3 hjl
  have HKK := Lib.hid hk
  clear hk
  go_upto_region 12 with (first | (at_builtin; refine wpList_append_known rfl (.tmp 44) (.tmp 46) _ _ rfl _ _ rfl rfl HR2.out ?_))
  go_upto_region 14 with fail
  go_wp2_with (first | (with_reducible refine wpList_slice_from rfl (.tmp 53) (.tmp 54) rfl elemRte _ _ _ rfl k .i64 rfl hjl ?_) | (at_builtin; refine wpList_append_known rfl (.tmp 51) (.tmp 55) _ _ rfl _ _ rfl rfl HR3.out ?_))
  obtain ⟨wf, hwf, he1, he2, k0⟩ := rsE_end (.slice ao5 N5 cap5) HS5.out HB5.out
  have HE1 := Lib.hid he1
  have HE2 := Lib.hid he2
  have HWF := Lib.hid hwf
  rw [hwf] at k0
  clear he1 he2 hwf
  go_wp2
  try simp only [Exit.inBlock, Exit.then]
  refine bodyPost_ret (v := .tuple #[.agg #[(.slice ao5 N5 cap5)], .int .i64 0]) (by simp [results, Tryd.results16, go_sem, k0]) rfl ?_
  rw [← HWF.out]
  refine ⟨_, rfl, ?_, HE2.out⟩
  have := HE1.out
  rw [List.append_assoc] at this
  exact this.sub (List.Sublist.cons_cons _ (List.sublist_cons_self _ _))
/-- ferryhytheref1.Routes.Set. -/
theorem rtSet_any (B : Nat) (sp : Value) (L : List Rte) (F : List Ent) (a n x : Int) (w : World) (h : Sep B w (rteE sp L :: F)) (hB : B ≤ w.heap.size) (hl : L.length ≤ 32) (hs : SrtR L) :
    Calls Tryd.prog 16 #[.agg #[sp], .agg #[.int .i64 a, .int .i64 n, .int .i64 x]] w fun e w' =>
      ∃ sp', e = .returned (.tuple #[.agg #[sp'], .int .i64 (setRR L a n x).2]) ∧ Sep B w' (rteE sp' (setRR L a n x).1 :: F) ∧ Below B w w' ∧ (¬ (setRR L a n x).2 = 0 → sp' = sp) := by
  unfold setRR
  by_cases hc : chkP a n = 0
  · rw [if_neg (fun h => h hc)]
    by_cases hx : 0 ≤ x ∧ x ≤ 9
    · rw [if_neg (fun h => h hx)]
      obtain ⟨x', rfl⟩ := Int.eq_ofNat_of_zero_le hx.1
      obtain ⟨a', n', rfl, rfl, hk⟩ := chkP_ok hc
      simp only [Int.toNat_natCast]
      rw [hasL_is hs]
      cases his : isK L a' n' with
      | false =>
        by_cases hf : L.length = 32
        · rw [if_pos ⟨rfl, hf⟩]
          exact (rtSet_full B sp L F a' n' x' w h hB hl hk (by omega) his hf).mono (fun e w' h => ⟨sp, h.1, h.2.1, h.2.2, fun _ => rfl⟩)
        · rw [if_neg (fun h => hf h.2), setL_at, his]
          exact (rtSet_new B sp L F a' n' x' w h hB hl hk (by omega) his hf).mono (fun e w' h => by obtain ⟨sp', h1, h2, h3⟩ := h; exact ⟨sp', h1, h2, h3, fun h => absurd rfl h⟩)
      | true =>
        rw [if_neg (by simp), setL_at, his]
        exact (rtSet_old B sp L F a' n' x' w h hB hl hk (by omega) his).mono (fun e w' h => by obtain ⟨sp', h1, h2, h3⟩ := h; exact ⟨sp', h1, h2, h3, fun h => absurd rfl h⟩)
    · rw [if_pos hx]; exact (rtSet_hop B sp L F a n x w h hB hc hx).mono (fun e w' h => ⟨sp, h.1, h.2.1, h.2.2, fun _ => rfl⟩)
  · rw [if_pos hc]; exact (rtSet_bad B sp L F a n x w h hB hc).mono (fun e w' h => ⟨sp, h.1, h.2.1, h.2.2, fun _ => rfl⟩)
end Go.Proofs.YtbcfcjecobihnaaDoor
