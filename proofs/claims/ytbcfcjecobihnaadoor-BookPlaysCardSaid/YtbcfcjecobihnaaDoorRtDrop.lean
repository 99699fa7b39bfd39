/- ferryhytheref1.Routes.Drop. -/
import Derived.Test.YtbcfcjecobihnaaDoorRtSet
namespace Go.Proofs.YtbcfcjecobihnaaDoor
open Go.RowKit
set_option linter.unusedVariables false
set_option linter.unusedSimpArgs false
set_option maxRecDepth 100000

set_option maxHeartbeats 1000000 in
theorem rtDrop_bad (B : Nat) (sp : Value) (L : List Rte) (F : List Ent) (a n : Int) (w : World) (h : Sep B w (rteE sp L :: F)) (hB : B ≤ w.heap.size) (hc : ¬ chkP a n = 0) :
    Calls Tryd.prog 21 #[.agg #[sp], .agg #[.int .i64 a, .int .i64 n]] w fun e w' =>
      e = .returned (.tuple #[.agg #[sp], .int .i64 (chkP a n)]) ∧ Sep B w' (rteE sp L :: F) ∧ Below B w w' := by
  have hpre := refPre_any a n
  obtain ⟨c, hcc⟩ : ∃ c, c = chkP a n := ⟨_, rfl⟩
  rw [← hcc] at hc hpre ⊢
  have hd : (c != 0) = true := by simp [hc]
  have HPRE := Lib.hid hpre
  clear hc hcc hpre
  obtain ⟨W, hW, hs0, hb0⟩ := rsE_new 34 #[.int .i64 a, .int .i64 n] h hB
  obtain ⟨⟨ao, cap, rfl, hcap⟩⟩ : Nonempty _ := ⟨rte_shape (A := []) h⟩
  obtain ⟨gs, hgs⟩ : ∃ x, x = w.heap.size + 1 + 1 := ⟨_, rfl⟩
  obtain ⟨gr, hgr⟩ : ∃ x, x = w.heap.size + 1 := ⟨_, rfl⟩
  obtain ⟨gb, hgb⟩ : ∃ x, x = w.heap.size := ⟨_, rfl⟩
  rw [← hgs, ← hgr, ← hgb] at hs0
  have HS0 := Lib.hid hs0
  have HB0 := Lib.hid hb0
  have HW := Lib.hid hW
  have HGS := Lib.hid hgs
  have HGR := Lib.hid hgr
  have HGB := Lib.hid hgb
  clear h hs0 hb0 hW hgs hgr hgb
  obtain ⟨b0, hcs, s0, f0, hg0⟩ := rsE_cells HS0.out
  have r0 := hcs 0 _ rfl
  have r1 := hcs 1 _ rfl
  clear hcs
  go_enter Tryd.func21, Tryd.ntmps21
  go_upto_region 1 with fail
  rw [← HW.out, ← HGS.out, ← HGR.out, ← HGB.out]
  clear HW
  go_wp2_with fail
  refine (HPRE.out W).mono ?_
  rintro e w1 ⟨rfl, hb⟩
  have HS1 := Lib.hid (HS0.out.kept hb)
  have HB1 := Lib.hid (HB0.out.trans (hb.mono hg0))
  clear hb HS0 HB0 b0 r0 r1 s0 f0 hg0
  obtain ⟨b0, hcs, s0, f0, hg1⟩ := rsE_cells HS1.out
  have r0 := hcs 0 _ rfl
  have r1 := hcs 1 _ rfl
  clear hcs
  obtain ⟨wf, hwf, he1, he2, k0⟩ := rsE_end (.slice ao L.length cap) HS1.out HB1.out
  have HE1 := Lib.hid he1
  have HE2 := Lib.hid he2
  have HWF := Lib.hid hwf
  rw [hwf] at k0
  clear he1 he2 hwf
  go_wp2
  try simp only [Exit.inBlock, Exit.then]
  refine bodyPost_ret (v := .tuple #[.agg #[(.slice ao L.length cap)], .int .i64 c]) (by simp [results, Tryd.results21, go_sem, k0]) rfl ?_
  rw [← HWF.out]
  exact ⟨rfl, HE1.out, HE2.out⟩
set_option maxHeartbeats 1000000 in
theorem rtDrop_none (B : Nat) (sp : Value) (L : List Rte) (F : List Ent) (a n : Nat) (w : World) (h : Sep B w (rteE sp L :: F)) (hB : B ≤ w.heap.size) (hl : L.length ≤ 32) (hk : lpOk a n) (hno : isK L a n = false) :
    Calls Tryd.prog 21 #[.agg #[sp], .agg #[.int .i64 a, .int .i64 n]] w fun e w' =>
      e = .returned (.tuple #[.agg #[sp], .int .i64 5]) ∧ Sep B w' (rteE sp L :: F) ∧ Below B w w' := by
  have hpre := refPre_any (a : Int) (n : Int)
  rw [chkP_of hk] at hpre
  have HPRE := Lib.hid hpre
  have HK := Lib.hid hk
  have HL := Lib.hid hl
  clear hpre hk
  obtain ⟨i, hi⟩ : ∃ i, i = atK L a n := ⟨_, rfl⟩
  have HI := Lib.hid hi
  have HIS := Lib.hid hno
  clear hi hno
  obtain ⟨W, hW, hs0, hb0⟩ := rsE_new 34 #[.int .i64 a, .int .i64 n] h hB
  obtain ⟨⟨ao, cap, rfl, hcap⟩⟩ : Nonempty _ := ⟨rte_shape (A := []) h⟩
  obtain ⟨gs, hgs⟩ : ∃ x, x = w.heap.size + 1 + 1 := ⟨_, rfl⟩
  obtain ⟨gr, hgr⟩ : ∃ x, x = w.heap.size + 1 := ⟨_, rfl⟩
  obtain ⟨gb, hgb⟩ : ∃ x, x = w.heap.size := ⟨_, rfl⟩
  rw [← hgs, ← hgr, ← hgb] at hs0
  have HS0 := Lib.hid hs0
  have HB0 := Lib.hid hb0
  have HW := Lib.hid hW
  have HGS := Lib.hid hgs
  have HGR := Lib.hid hgr
  have HGB := Lib.hid hgb
  clear h hs0 hb0 hW hgs hgr hgb
  obtain ⟨b0, hcs, s0, f0, hg0⟩ := rsE_cells HS0.out
  have r0 := hcs 0 _ rfl
  have r1 := hcs 1 _ rfl
  clear hcs
  go_enter Tryd.func21, Tryd.ntmps21
  go_upto_region 1 with fail
  rw [← HW.out, ← HGS.out, ← HGR.out, ← HGB.out]
  clear HW
  go_wp2_with fail
  refine (HPRE.out W).mono ?_
  rintro e w1 ⟨rfl, hb⟩
  have HS1 := Lib.hid (HS0.out.kept hb)
  have HB1 := Lib.hid (HB0.out.trans (hb.mono hg0))
  clear hb HS0 HB0 b0 r0 r1 s0 f0 hg0
  obtain ⟨b0, hcs, s0, f0, hg1⟩ := rsE_cells HS1.out
  have r0 := hcs 0 _ rfl
  have r1 := hcs 1 _ rfl
  clear hcs
  have hat := refAtR_any w1.heap.size ao cap L a n w1 (Sep.rteSl (A := []) HS1.out) (Nat.le_refl _) (by have := HL.out; omega)
  rw [← HI.out, HIS.out] at hat
  have HAT := Lib.hid hat
  clear hat
  go_wp2_with fail
  refine HAT.out.mono ?_
  rintro e w2 ⟨rfl, hb⟩
  have HS2 := Lib.hid (HS1.out.kept hb)
  have HB2 := Lib.hid (HB1.out.trans (hb.mono hg1))
  clear hb HS1 HB1 b0 r0 r1 s0 f0 hg1 HAT
  obtain ⟨b0, hcs, s0, f0, hg2⟩ := rsE_cells HS2.out
  have r0 := hcs 0 _ rfl
  have r1 := hcs 1 _ rfl
  clear hcs
  obtain ⟨wf, hwf, he1, he2, k0⟩ := rsE_end (.slice ao L.length cap) HS2.out HB2.out
  have HE1 := Lib.hid he1
  have HE2 := Lib.hid he2
  have HWF := Lib.hid hwf
  rw [hwf] at k0
  clear he1 he2 hwf
  go_wp2
  try simp only [Exit.inBlock, Exit.then]
  refine bodyPost_ret (v := .tuple #[.agg #[(.slice ao L.length cap)], .int .i64 5]) (by simp [results, Tryd.results21, go_sem, k0]) rfl ?_
  rw [← HWF.out]
  exact ⟨rfl, HE1.out, HE2.out⟩
set_option maxHeartbeats 2000000 in
theorem rtDrop_old (B : Nat) (sp : Value) (L : List Rte) (F : List Ent) (a n : Nat) (w : World) (h : Sep B w (rteE sp L :: F)) (hB : B ≤ w.heap.size) (hl : L.length ≤ 32) (hk : lpOk a n) (hno : isK L a n = true) :
    Calls Tryd.prog 21 #[.agg #[sp], .agg #[.int .i64 a, .int .i64 n]] w fun e w' =>
      ∃ sp', e = .returned (.tuple #[.agg #[sp'], .int .i64 0]) ∧ Sep B w' (rteE sp' (L.take (atK L a n) ++ L.drop (atK L a n + 1)) :: F) ∧ Below B w w' := by
  have hpre := refPre_any (a : Int) (n : Int)
  rw [chkP_of hk] at hpre
  have HPRE := Lib.hid hpre
  have HK := Lib.hid hk
  have HL := Lib.hid hl
  clear hpre hk
  obtain ⟨i, hi⟩ : ∃ i, i = atK L a n := ⟨_, rfl⟩
  have hjl : i + 1 ≤ L.length := by
    unfold isK at hno
    rw [← hi] at hno
    rcases Nat.lt_or_ge i L.length with h | h
    · omega
    · rw [List.getElem?_eq_none h] at hno; cases hno
  have HI := Lib.hid hi
  have HIS := Lib.hid hno
  rw [← hi]
  have hi1 : i ≤ L.length := by omega
  clear hi hno
  obtain ⟨W, hW, hs0, hb0⟩ := rsE_new 34 #[.int .i64 a, .int .i64 n] h hB
  obtain ⟨⟨ao, cap, rfl, hcap⟩⟩ : Nonempty _ := ⟨rte_shape (A := []) h⟩
  obtain ⟨gs, hgs⟩ : ∃ x, x = w.heap.size + 1 + 1 := ⟨_, rfl⟩
  obtain ⟨gr, hgr⟩ : ∃ x, x = w.heap.size + 1 := ⟨_, rfl⟩
  obtain ⟨gb, hgb⟩ : ∃ x, x = w.heap.size := ⟨_, rfl⟩
  rw [← hgs, ← hgr, ← hgb] at hs0
  have HS0 := Lib.hid hs0
  have HB0 := Lib.hid hb0
  have HW := Lib.hid hW
  have HGS := Lib.hid hgs
  have HGR := Lib.hid hgr
  have HGB := Lib.hid hgb
  clear h hs0 hb0 hW hgs hgr hgb
  obtain ⟨b0, hcs, s0, f0, hg0⟩ := rsE_cells HS0.out
  have r0 := hcs 0 _ rfl
  have r1 := hcs 1 _ rfl
  clear hcs
  go_enter Tryd.func21, Tryd.ntmps21
  go_upto_region 1 with fail
  rw [← HW.out, ← HGS.out, ← HGR.out, ← HGB.out]
  clear HW
  go_wp2_with fail
  refine (HPRE.out W).mono ?_
  rintro e w1 ⟨rfl, hb⟩
  have HS1 := Lib.hid (HS0.out.kept hb)
  have HB1 := Lib.hid (HB0.out.trans (hb.mono hg0))
  clear hb HS0 HB0 b0 r0 r1 s0 f0 hg0
  obtain ⟨b0, hcs, s0, f0, hg1⟩ := rsE_cells HS1.out
  have r0 := hcs 0 _ rfl
  have r1 := hcs 1 _ rfl
  clear hcs
  have hat := refAtR_any w1.heap.size ao cap L a n w1 (Sep.rteSl (A := []) HS1.out) (Nat.le_refl _) (by have := HL.out; omega)
  rw [← HI.out, HIS.out] at hat
  have HAT := Lib.hid hat
  clear hat
  go_wp2_with fail
  refine HAT.out.mono ?_
  rintro e w2 ⟨rfl, hb⟩
  have HS2 := Lib.hid (HS1.out.kept hb)
  have HB2 := Lib.hid (HB1.out.trans (hb.mono hg1))
  clear hb HS1 HB1 b0 r0 r1 s0 f0 hg1 HAT
  obtain ⟨b0, hcs, s0, f0, hg2⟩ := rsE_cells HS2.out
  have r0 := hcs 0 _ rfl
  have r1 := hcs 1 _ rfl
  clear hcs
  have hic : i ≤ cap := by omega
  have hik : (i : Int) ≤ (L.length : Int) := by omega
  have hi0 : (0 : Int) ≤ (i : Int) := by omega
  obtain ⟨v1, w3, hr1, hs3, hb3⟩ := rteApp (A := []) (X := []) (ys := L.take i) (c := cap) 25 (HS2.out.rowNil 3 36) hg2 (rteSl_take (Sep.rteSl (A := []) HS2.out) i) (by rw [List.length_take]; simp; omega)
  rw [List.length_take, Nat.min_eq_left hi1] at hr1
  simp only [List.nil_append] at hs3
  have hg3 : B ≤ w3.heap.size := Nat.le_trans hg2 hb3.size
  have HR1 := Lib.hid hr1
  have HS3 := Lib.hid hs3
  have HB3 := Lib.hid (HB2.out.trans hb3)
  clear hr1 hs3 hb3
  obtain ⟨v3, w5, hr3, hs5, hb5⟩ := rteApp (A := []) (ys := L.drop (i + 1)) (c := cap - (i + 1)) 25 HS3.out hg3 (rteSl_cut (Sep.rteSl (A := [_]) HS3.out) hcap (i + 1)) (by simp; omega)
  rw [List.length_drop] at hr3
  obtain ⟨_, d0, -, -, -, -⟩ := rsE_cells (v := .slice ao L.length cap) (HS3.out.sub (List.sublist_cons_self _ _)) |> fun h => (⟨trivial, h.1, h.2.1, h.2.2.1, h.2.2.2.1, h.2.2.2.2⟩ : True ∧ _ ∧ _ ∧ _ ∧ _ ∧ _)
  obtain ⟨ao5, N5, cap5, rfl⟩ : ∃ a n c, v3 = .slice a n c := by
    obtain ⟨a', c', e, -⟩ := rte_shape (A := []) hs5
    exact ⟨a', _, c', e⟩
  simp only [List.nil_append] at hs5
  have HR3 := Lib.hid hr3
  have HS5 := Lib.hid (show Sep B w5 (rsE gs gr gb 34 [.int .i64 (a : Int), .int .i64 (n : Int)] (.slice ao5 N5 cap5) (.slice ao L.length cap) _ (rteE (.slice ao L.length cap) L :: F)) from hs5.perm (List.Perm.cons _ ((List.perm_append_comm (l₁ := [_]) (l₂ := [_, _, _])).append_right F)))
  have HB5 := Lib.hid (HB3.out.trans hb5)
  obtain ⟨_, e0, _, e1, e2, -⟩ := rsE_cells HS5.out |> fun h => (⟨trivial, h.1, h.2.1, h.2.2.1, h.2.2.2.1, h.2.2.2.2⟩ : True ∧ _ ∧ _ ∧ _ ∧ _ ∧ _)
  clear hr3 hs5 hb5
  obtain ⟨k, hk⟩ : ∃ k, k = i + 1 := ⟨_, rfl⟩
  have hkI : (i : Int) + 1 = (k : Int) := by omega
  rw [← hk] at HR3 hjl
  have HKK := Lib.hid hk
  clear hk
  go_upto_region 8 with fail
  go_upto_region 9 with (first | (with_reducible refine wpList_slice_to rfl (.tmp 27) (.tmp 28) rfl elemRte _ _ _ rfl i .i64 rfl hic ?_) | (at_builtin; refine wpList_append_known rfl (.tmp 25) (.tmp 29) _ _ rfl _ _ rfl rfl HR1.out ?_))
  go_wp2_with (first | (with_reducible refine wpList_slice_from rfl (.tmp 33) (.tmp 35) rfl elemRte _ _ _ rfl k .i64 rfl hjl ?_) | (at_builtin; refine wpList_append_known rfl (.tmp 31) (.tmp 36) _ _ rfl _ _ rfl rfl HR3.out ?_))
  obtain ⟨wf, hwf, he1, he2, k0⟩ := rsE_end (.slice ao5 N5 cap5) HS5.out HB5.out
  have HE1 := Lib.hid he1
  have HE2 := Lib.hid he2
  have HWF := Lib.hid hwf
  rw [hwf] at k0
  clear he1 he2 hwf
  go_wp2
  try simp only [Exit.inBlock, Exit.then]
  refine bodyPost_ret (v := .tuple #[.agg #[(.slice ao5 N5 cap5)], .int .i64 0]) (by simp [results, Tryd.results21, go_sem, k0]) rfl ?_
  rw [← HWF.out]
  refine ⟨_, rfl, ?_, HE2.out⟩
  have := HE1.out
  exact this.sub (List.Sublist.cons_cons _ (List.sublist_cons_self _ _))
/-- ferryhytheref1.Routes.Drop. -/
theorem rtDrop_any (B : Nat) (sp : Value) (L : List Rte) (F : List Ent) (a n : Int) (w : World) (h : Sep B w (rteE sp L :: F)) (hB : B ≤ w.heap.size) (hl : L.length ≤ 32) (hs : SrtR L) :
    Calls Tryd.prog 21 #[.agg #[sp], .agg #[.int .i64 a, .int .i64 n]] w fun e w' =>
      ∃ sp', e = .returned (.tuple #[.agg #[sp'], .int .i64 (dropR L a n).2]) ∧ Sep B w' (rteE sp' (dropR L a n).1 :: F) ∧ Below B w w' ∧ (¬ (dropR L a n).2 = 0 → sp' = sp) := by
  unfold dropR
  by_cases hc : chkP a n = 0
  · rw [if_neg (fun h => h hc)]
    obtain ⟨a', n', rfl, rfl, hk⟩ := chkP_ok hc
    simp only [Int.toNat_natCast]
    rw [hasL_is hs]
    cases his : isK L a' n' with
    | false =>
      rw [if_neg (by decide)]
      exact (rtDrop_none B sp L F a' n' w h hB hl hk his).mono (fun e w' h => ⟨sp, h.1, h.2.1, h.2.2, fun _ => rfl⟩)
    | true =>
      rw [if_pos rfl, dropL_at hs his]
      exact (rtDrop_old B sp L F a' n' w h hB hl hk his).mono (fun e w' h => by obtain ⟨sp', h1, h2, h3⟩ := h; exact ⟨sp', h1, h2, h3, fun h => absurd rfl h⟩)
  · rw [if_pos hc]; exact (rtDrop_bad B sp L F a n w h hB hc).mono (fun e w' h => ⟨sp, h.1, h.2.1, h.2.2, fun _ => rfl⟩)
end Go.Proofs.YtbcfcjecobihnaaDoor
