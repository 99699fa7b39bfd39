/- ferryhytheref4.answer: set. -/
import Derived.Test.YtbcfcjecobihnaaGreatDoorRtAns
import Derived.Test.YtbcfcjecobihnaaGreatDoorPk11
import Derived.Test.YtbcfcjecobihnaaGreatDoorDskMap
import Derived.Deep.LoopGhost
namespace Go.Proofs.YtbcfcjecobihnaaGreatDoor
open Go.RowKit
set_option linter.unusedVariables false
set_option linter.unusedSimpArgs false
set_option maxRecDepth 100000

set_option maxHeartbeats 8000000 in
theorem refAns_set (B : Nat) (sp : Value) (s : ByteArray) (tx : List UInt8) (m : Nat) (L : List Rte) (F : List Ent) (l : List UInt8) (w0 : List UInt8) (wt : List (List UInt8)) (hws : cutL 32 l = w0 :: wt) (h0 : w0 = setT) (w : World) (h : Sep B w (rteE sp L :: F)) (hB : B ≤ w.heap.size) (hl : l.length ≤ 10000) (hss : s = bkT tx) (hfb : FineB (L, tx, m)) :
    Calls Tryz.prog 52 #[.agg #[sp, .string s, .int .i64 (m : Int)], .string (bytesOf l)] w fun e w' => AnsEnd B F w (ansD (L, tx, m) l) e w' := by
  have x1 : (w0 == [115, 101, 116]) = true := by rw [h0]; decide
  have y1 : (w0.toArray == #[115, 101, 116]) = true := by rw [h0]; decide
  have x2 : (w0 == [100, 114, 111, 112]) = false := by rw [h0]; decide
  have y2 : (w0.toArray == #[100, 114, 111, 112]) = false := by rw [h0]; decide
  have x3 : (w0 == [102, 105, 110, 100]) = false := by rw [h0]; decide
  have y3 : (w0.toArray == #[102, 105, 110, 100]) = false := by rw [h0]; decide
  have x4 : (w0 == [109, 97, 110, 121]) = false := by rw [h0]; decide
  have y4 : (w0.toArray == #[109, 97, 110, 121]) = false := by rw [h0]; decide
  have x5 : (w0 == [99, 114, 97, 115, 104]) = false := by rw [h0]; decide
  have y5 : (w0.toArray == #[99, 114, 97, 115, 104]) = false := by rw [h0]; decide
  have HV0 := Lib.hid h0
  clear h0
  have HSS := Lib.hid hss
  have HFB := Lib.hid hfb
  have hcl := cutL_len 32 l
  have hcn := cutL_cnt 32 l
  rw [hws] at hcl hcn
  have HWS := Lib.hid hws
  have HANS := Lib.hid (ans_verb (b := (L, tx, m)) hws)
  have hcl2 : ∀ z ∈ wt, z.length ≤ 10000 := fun z hz => Nat.le_trans (hcl z (List.mem_cons_of_mem _ hz)) hl
  obtain ⟨q, hq⟩ : ∃ q, q = wt.length := ⟨_, rfl⟩
  obtain ⟨n1, hn1⟩ : ∃ n1, n1 = (w0 :: wt).length := ⟨_, rfl⟩
  have hnq : n1 = q + 1 := by rw [hn1, hq]; rfl
  have hq1 : q ≤ 10001 := by simp only [List.length_cons] at hcn; omega
  have HCL := Lib.hid hcl2
  have HQ := Lib.hid hq
  have HN1 := Lib.hid hn1
  have HNQ := Lib.hid hnq
  have HL10 := Lib.hid hl
  clear hss hfb hcl hcn hws hcl2 hq hn1 hnq
  obtain ⟨W, hW, hs0, hb0⟩ := liE_new (s := s) (m := (m : Int)) h hB
  obtain ⟨⟨ao, cap, rfl, hcap⟩⟩ : Nonempty _ := ⟨rte_shape (A := []) h⟩
  obtain ⟨gr, hgr⟩ : ∃ x, x = w.heap.size + 1 := ⟨_, rfl⟩
  obtain ⟨gb, hgb⟩ : ∃ x, x = w.heap.size := ⟨_, rfl⟩
  rw [← hgr, ← hgb] at hs0
  have HS1 := Lib.hid hs0
  have HB1 := Lib.hid hb0
  have HW := Lib.hid hW
  have HGR := Lib.hid hgr
  have HGB := Lib.hid hgb
  have hg1 : B ≤ W.heap.size := Nat.le_trans hB hb0.size
  have hcut : Calls Tryz.prog 46 #[.string (bytesOf l), .int .u8 32] W fun e w' => ∃ v, e = .returned v ∧ Sep B w' (strE v (cutL 32 l) :: liE gr gb (.slice ao L.length cap) s (m : Int) L F) ∧ Below B W w' := refCut_any B _ l 32 W hg1 HS1.out (by have := HL10.out; omega)
  rw [HWS.out] at hcut
  have HCUT := Lib.hid hcut
  clear h hs0 hb0 hW hgr hgb hcut hl
  go_enter Tryz.func52, Tryz.ntmps52
  go_upto_region 1 with fail
  rw [← HW.out, ← HGR.out, ← HGB.out]
  clear HW HGR HGB
  go_wp2_with fail
  refine HCUT.out.mono ?_
  rintro e w2 ⟨sv, rfl, hs2, hb2⟩
  obtain ⟨so, sc, rfl, -⟩ := strShape (A := []) hs2
  rw [← HN1.out] at hs2 ⊢
  have HS2 := Lib.hid (hs2.intsNil 3)
  have HB2 := Lib.hid (HB1.out.trans hb2)
  clear hs2 hb2 HS1 HB1 HCUT hg1
  go_wp2
  go_loopg [7, 8] q (fun gk lv iv wr => ∃ (k i : Nat), gk + k = q ∧ i = k + 1 ∧ iv = .int .i64 i ∧ Hid (∀ z ∈ wt.take k, numW z = true) ∧ Sep B wr (Ent.ints 3 lv ((wt.take k).map numV) :: strE (.slice so n1 sc) (w0 :: wt) :: liE gr gb (.slice ao L.length cap) s (m : Int) L F) ∧ Below B w wr)
  case atStart => exact ⟨0, 1, rfl, rfl, rfl, (fun z hz => by simp at hz), HS2.out, HB2.out⟩
  case round =>
    obtain ⟨gi, rfl⟩ : ∃ gi, gi = gk := ⟨_, rfl⟩
    obtain ⟨k, i2, hgi, hik, rfl, HALL, hsp, hbel⟩ := hrel
    clear HS2 HB2
    have HS3 := Lib.hid hsp
    have HB3 := Lib.hid hbel
    obtain ⟨w3, hw3⟩ : ∃ w3, w3 = wr := ⟨_, rfl⟩
    obtain rfl := hw3
    have hg3 : B ≤ w3.heap.size := Nat.le_trans hB hbel.size
    obtain ⟨na, nc, rfl, -, -⟩ := Sep.intsShape (A := []) hsp
    clear hsp hbel
    have hnq := HNQ.out
    have hAT : ∀ (j : Nat) z, (w0 :: wt)[j]? = some z → ∃ g off, so = some ⟨g, off, none⟩ ∧ g < w3.heap.size ∧ w3.cell? ⟨g, off + j, none⟩ = some (.string (bytesOf z)) := by
      have h1 := HS3.out
      rw [HN1.out] at h1
      exact strAt (A := [_]) h1
    by_cases hlt : k < q
    · obtain ⟨z, hz⟩ : ∃ z, wt[k]? = some z := ⟨_, List.getElem?_eq_getElem (by rw [← HQ.out]; exact hlt)⟩
      have hzm : z ∈ wt := List.mem_iff_getElem?.2 ⟨k, hz⟩
      obtain ⟨g, off, rfl, -, hcz⟩ := hAT i2 z (by rw [hik, List.getElem?_cons_succ, hz])
      have hin : (i2 : Int) < (n1 : Int) := by omega
      have hind : decide ((i2 : Int) < (n1 : Int)) = true := decide_eq_true hin
      have hi20 : (0 : Int) ≤ (i2 : Int) := by omega
      have hi2b : (i2 : Int) ≤ 20000 := by omega
      have HNUM2 := Lib.hid (refNum_any z w3 (HCL.out z hzm))
      obtain ⟨zv, hzv⟩ : ∃ zv, zv = numV z := ⟨_, rfl⟩
      have htk : (wt.take (k + 1)).map numV = (wt.take k).map numV ++ [zv] := by rw [List.take_add_one, hz, List.map_append, hzv]; rfl
      have hlj : ((wt.take k).map numV).length ≤ 100000 := by rw [List.length_map, List.length_take]; omega
      have hzsz : (bytesOf z).size = z.length := rfl
      have HZV := Lib.hid hzv
      have HTK := Lib.hid htk
      have HZ := Lib.hid (And.intro hz hzm)
      have HKI := Lib.hid (And.intro hgi (And.intro hik hlt))
      have HNO := Lib.hid (fun (hn : numW z = false) => (show ansD (L, tx, m) l = ((L, tx, m), badT) by rw [HANS.out]; exact verb_num (words_no HZ.out.2 hn)))
      have HAL0 := Lib.hid (fun (hn : numW z = true) => (show ∀ z' ∈ wt.take (k + 1), numW z' = true from fun z' hz' => by
        rw [List.take_add_one, HZ.out.1] at hz'
        rcases List.mem_append.1 hz' with h | h
        · exact HALL.out z' h
        · rw [show z' = z by simpa using h]; exact hn))
      clear hAT hz hzm hzv htk hgi hik hnq hlt HALL
      by_cases hox : numOk z = true
      · have HOX := Lib.hid hox
        by_cases h7 : 7 < z.length
        · have hd7 : decide ((7 : Int) < (z.length : Int)) = true := decide_eq_true (by omega)
          have hd7n : decide (7 < z.length) = true := decide_eq_true h7
          have HLD := Lib.hid (HNO.out (by unfold numW; rw [decide_eq_false (show ¬ z.length ≤ 7 by omega), Bool.and_false]))
          have HS4 := Lib.hid (HS3.out.sub ((List.sublist_cons_self _ _).trans (List.sublist_cons_self _ _)))
          have HB4 := Lib.hid HB3.out
          clear hox h7
          go_wp2_with fail
          refine HNUM2.out.mono ?_
          rintro e w' ⟨⟨nv, rfl, hnv2⟩, hw⟩
          rw [← hw]
          rw [HOX.out]
          clear hw HNUM2 hnv2
          obtain ⟨wf, hwf, he1, he2, k0, k1, k2⟩ := liE_end (.slice ao L.length cap) (.string s) (.int .i64 (m : Int)) HS4.out HB4.out
          have HE1 := Lib.hid he1
          have HE2 := Lib.hid he2
          have HWF := Lib.hid hwf
          rw [hwf] at k0 k1 k2
          obtain ⟨⟨b0, b1, b2⟩, ⟨s0, s1, s2⟩, ⟨f0, f1, f2⟩, hgz⟩ := liE_cells HS4.out
          clear he1 he2 hwf
          go_wp2
          try simp only [Exit.inBlock, Exit.then]
          refine bodyPost_ret (v := .tuple #[.agg #[.slice ao L.length cap, .string s, .int .i64 (m : Int)], .string ⟨#[98, 97, 100]⟩]) (by simp [results, Tryz.results52, go_sem, k0, k1, k2]) rfl ?_
          rw [← HWF.out, HLD.out]
          exact ⟨_, by rw [HSS.out]; rfl, HE1.out, HE2.out⟩
        · have hd7 : decide ((7 : Int) < (z.length : Int)) = false := decide_eq_false (by omega)
          have hd7n : decide (7 < z.length) = false := decide_eq_false h7
          have HAL2 := Lib.hid (HAL0.out (by unfold numW; rw [hox, decide_eq_true (show z.length ≤ 7 by omega)]; rfl))
          obtain ⟨xs, hxs⟩ : ∃ xs, xs = (wt.take k).map numV := ⟨_, rfl⟩
          rw [← hxs] at HS3 HTK hlj ⊢
          clear hox hxs h7
          go_wp2_with fail
          refine HNUM2.out.mono ?_
          rintro e w' ⟨⟨nv, rfl, hnv2⟩, hw⟩
          rw [← hw]
          have hnv3 := hnv2 HOX.out
          rw [← HZV.out] at hnv3
          rw [HOX.out]
          subst hnv3
          clear hw HNUM2 hnv2
          go_wp2_with (at_builtin; refine wpList_append_int rfl (.tmp 49) (.tmp 51) rfl elemIntL (A := []) rfl HS3.out hg3 rfl (by omega) ?_)
          intro v' w7 hs hb
          have HS7 := Lib.hid hs
          have HB7 := Lib.hid (HB3.out.trans hb)
          clear hs hb HS3 HB3 hg3 hcz
          go_wp2
          go_roundg (gi - 1)
          case measure => have := HKI.out; omega
          case rel => exact ⟨k + 1, i2 + 1, by have := HKI.out; omega, by have := HKI.out; omega, by go_num, HAL2.out, by rw [HTK.out]; exact HS7.out, HB7.out⟩
      · have hox' : numOk z = false := by simpa using hox
        have HOX := Lib.hid hox'
        have HLD := Lib.hid (HNO.out (by unfold numW; rw [hox']; rfl))
        have HS4 := Lib.hid (HS3.out.sub ((List.sublist_cons_self _ _).trans (List.sublist_cons_self _ _)))
        have HB4 := Lib.hid HB3.out
        clear hox hox'
        go_wp2_with fail
        refine HNUM2.out.mono ?_
        rintro e w' ⟨⟨nv, rfl, hnv2⟩, hw⟩
        rw [← hw]
        rw [HOX.out]
        clear hw HNUM2 hnv2 hcz
        obtain ⟨wf, hwf, he1, he2, k0, k1, k2⟩ := liE_end (.slice ao L.length cap) (.string s) (.int .i64 (m : Int)) HS4.out HB4.out
        have HE1 := Lib.hid he1
        have HE2 := Lib.hid he2
        have HWF := Lib.hid hwf
        rw [hwf] at k0 k1 k2
        obtain ⟨⟨b0, b1, b2⟩, ⟨s0, s1, s2⟩, ⟨f0, f1, f2⟩, hgz⟩ := liE_cells HS4.out
        clear he1 he2 hwf
        go_wp2
        try simp only [Exit.inBlock, Exit.then]
        refine bodyPost_ret (v := .tuple #[.agg #[.slice ao L.length cap, .string s, .int .i64 (m : Int)], .string ⟨#[98, 97, 100]⟩]) (by simp [results, Tryz.results52, go_sem, k0, k1, k2]) rfl ?_
        rw [← HWF.out, HLD.out]
        exact ⟨_, by rw [HSS.out]; rfl, HE1.out, HE2.out⟩
    · obtain rfl : k = q := by omega
      obtain rfl : i2 = n1 := by omega
      have hin : decide ((i2 : Int) < (i2 : Int)) = false := by simp
      have hwl : wt.length = k := HQ.out.symm
      have htk : wt.take k = wt := List.take_of_length_le (by omega)
      rw [htk] at HALL HS3
      have hall : wt.all numW = true := List.all_eq_true.2 fun z hz => HALL.out z hz
      obtain ⟨g, off, rfl, -, hc0'⟩ := hAT 0 w0 rfl
      have hc0 : w3.cell? ⟨g, off, none⟩ = some (.string (bytesOf w0)) := hc0'
      have hn1p : (0 : Int) < (i2 : Int) := by omega
      have hnl : (wt.map numV).length = k := by rw [List.length_map, hwl]
      have hnl0 : ((wt.take k).map numV).length = k := by rw [htk, List.length_map, hwl]
      rw [hnl] at HS3
      rw [hnl0]
      have HALL2 := Lib.hid hall
      clear htk hnl hnl0 hall HALL hlt hAT hc0' hgi hik hnq
      by_cases h3 : k = 3
      rotate_left
      · have hj3 : ((k : Int) == 3) = false := beq_eq_false_iff_ne.2 (by omega)
        have hj3' : (k == 3) = false := beq_eq_false_iff_ne.2 h3
        have HLD := Lib.hid (show ansD (L, tx, m) l = ((L, tx, m), badT) by rw [HANS.out]; exact verb_bad (.inl ⟨HV0.out, rfl⟩) (.inr (by rw [hwl]; exact h3)))
        clear h3
        have HS4 := Lib.hid (HS3.out.sub ((List.sublist_cons_self _ _).trans (List.sublist_cons_self _ _)))
        have HB4 := Lib.hid HB3.out
        clear hwl
        obtain ⟨wf, hwf, he1, he2, k0, k1, k2⟩ := liE_end (.slice ao L.length cap) (.string s) (.int .i64 (m : Int)) HS4.out HB4.out
        have HE1 := Lib.hid he1
        have HE2 := Lib.hid he2
        have HWF := Lib.hid hwf
        rw [hwf] at k0 k1 k2
        obtain ⟨⟨b0, b1, b2⟩, ⟨s0, s1, s2⟩, ⟨f0, f1, f2⟩, hgz⟩ := liE_cells HS4.out
        clear he1 he2 hwf
        go_wp2
        try simp only [Exit.inBlock, Exit.then]
        refine bodyPost_ret (v := .tuple #[.agg #[.slice ao L.length cap, .string s, .int .i64 (m : Int)], .string ⟨#[98, 97, 100]⟩]) (by simp [results, Tryz.results52, go_sem, k0, k1, k2]) rfl ?_
        rw [← HWF.out, HLD.out]
        exact ⟨_, by rw [HSS.out]; rfl, HE1.out, HE2.out⟩
      obtain ⟨za, zn, zh, rfl⟩ : ∃ a n h, wt = [a, n, h] := by
        match wt, hwl.trans h3 with
        | [a, n, h], _ => exact ⟨a, n, h, rfl⟩
      subst h3
      obtain ⟨r, hr⟩ : ∃ r, r = bkSet (L, tx, m) (numV za) (numV zn) (numV zh) := ⟨_, rfl⟩
      have HLD := Lib.hid (show ansD (L, tx, m) l = (r.1, errT r.2) by
        rw [HANS.out, HV0.out, hr]
        unfold verbD
        rw [if_neg (by rw [HALL2.out]; decide), if_pos ⟨rfl, rfl⟩]
        rfl)
      have HR := Lib.hid hr
      obtain ⟨gn, on, rfl, -, -⟩ := Sep.intSl (A := []) (show Sep B w3 (Ent.ints 3 (.slice na [numV za, numV zn, numV zh].length nc) [numV za, numV zn, numV zh] :: _) from HS3.out) 0 _ rfl
      clear hwl hr
      have hstat : ∀ w', Sep B w' [Ent.ints 3 (.slice (some ⟨gn, on, none⟩) [numV za, numV zn, numV zh].length nc) [numV za, numV zn, numV zh], Ent.blk1 gb 56 (bkC (.slice ao L.length cap) s (m : Int))] → (fun (w' : World) => w'.cell? ⟨gb, 0, none⟩ = some (.slice ao L.length cap) ∧ w'.cell? ⟨gb, 1, none⟩ = some (.string s) ∧ w'.cell? ⟨gb, 2, none⟩ = some (.int .i64 (m : Int)) ∧ w'.cell? ⟨gn, on, none⟩ = some (.int .i64 (numV za)) ∧ w'.cell? ⟨gn, on + 1, none⟩ = some (.int .i64 (numV zn)) ∧ w'.cell? ⟨gn, on + 2, none⟩ = some (.int .i64 (numV zh))) w' := fun w' h => by
        have his := Sep.intSl (A := []) h
        (obtain ⟨_, _, he, _, r0⟩ := his 0 _ rfl; cases he; obtain ⟨_, _, he, _, r1⟩ := his 1 _ rfl; cases he; obtain ⟨_, _, he, _, r2⟩ := his 2 _ rfl; cases he)
        exact ⟨(Sep.blkAt (A := [_]) h (j := 0) rfl).1, (Sep.blkAt (A := [_]) h (j := 1) rfl).1, (Sep.blkAt (A := [_]) h (j := 2) rfl).1, r0, r1, r2⟩
      have HSTAT := Lib.hid hstat
      clear hstat
      go_upto_region 11 with fail
      obtain ⟨w4, hw4⟩ : ∃ w4, w4 = w3.drew := ⟨_, rfl⟩
      have HS4 := Lib.hid (show Sep B w4 (rteE (.slice ao L.length cap) L :: Ent.ints 3 (.slice (some ⟨gn, on, none⟩) [numV za, numV zn, numV zh].length nc) [numV za, numV zn, numV zh] :: strE (.slice (some ⟨g, off, none⟩) i2 sc) (w0 :: [za, zn, zh]) :: bkE0 gr :: Ent.blk1 gb 56 (bkC (.slice ao L.length cap) s (m : Int)) :: F) by
        rw [hw4]
        exact HS3.out.drew.perm (List.perm_middle (l₁ := [_, _])))
      have HB4 := Lib.hid (show Below B w w4 by rw [hw4]; exact HB3.out.drew)
      have hg4 : B ≤ w4.heap.size := Nat.le_trans hB HB4.out.size
      have HST4 := Lib.hid (HSTAT.out w4 (HS4.out.sub (List.Sublist.cons _ (List.Sublist.cons_cons _ (List.Sublist.cons _ (List.Sublist.cons _ (List.Sublist.cons_cons _ (List.nil_sublist _))))))))
      clear hc0
      refine wp_region_held_drew (S := (fun (w' : World) => w'.cell? ⟨gb, 0, none⟩ = some (.slice ao L.length cap) ∧ w'.cell? ⟨gb, 1, none⟩ = some (.string s) ∧ w'.cell? ⟨gb, 2, none⟩ = some (.int .i64 (m : Int)) ∧ w'.cell? ⟨gn, on, none⟩ = some (.int .i64 (numV za)) ∧ w'.cell? ⟨gn, on + 1, none⟩ = some (.int .i64 (numV zn)) ∧ w'.cell? ⟨gn, on + 2, none⟩ = some (.int .i64 (numV zh)))) (by kernel_rfl) (by simp only [← hw4]; exact HST4.out) (fun hHeld => ?_)
      rw [← hw4] at hHeld ⊢
      clear hw4 HS3 HB3 HST4
      refine wpAnyH_take (i := 0) (v := ?va0) rfl (by kernel_rfl) (by kernel_rfl) (by kernel_rfl) (fun _ _ _ h => h) (Or.inl ⟨by rfl, ?hya0⟩) (by assumption) ?resta0
      case hya0 =>
        intro w hSw
        try dsimp only at hSw
        go_simp
        try with_reducible rfl
      try simp only [Act.put, List.setIfInBounds_toArray, List.set_cons_zero, List.set_cons_succ, List.getElem_toArray, List.getElem_cons_zero]
      refine wpAnyH_take (i := 1) (v := ?va1) rfl (by kernel_rfl) (by kernel_rfl) (by kernel_rfl) (fun _ _ _ h => h) (Or.inl ⟨by rfl, ?hya1⟩) (by assumption) ?resta1
      case hya1 =>
        intro w hSw
        try dsimp only at hSw
        go_simp
        try rw [if_neg kk0]
        try rw [if_neg kk1]
        try with_reducible rfl
      try simp only [Act.put, List.setIfInBounds_toArray, List.set_cons_zero, List.set_cons_succ, List.getElem_toArray, List.getElem_cons_zero, List.getElem_cons_succ]
      refine wpAnyH_take (i := 2) (v := ?va2) rfl (by kernel_rfl) (by kernel_rfl) (by kernel_rfl) (fun _ _ _ h => h) (Or.inl ⟨by rfl, ?hya2⟩) (by assumption) ?resta2
      case hya2 =>
        intro w hSw
        try dsimp only at hSw
        go_simp
        try rw [if_neg kk0]
        try rw [if_neg kk1]
        try with_reducible rfl
      try simp only [Act.put, List.setIfInBounds_toArray, List.set_cons_zero, List.set_cons_succ, List.getElem_toArray, List.getElem_cons_zero, List.getElem_cons_succ]
      refine wpAnyH_take (i := 3) (v := ?va3) rfl (by kernel_rfl) (by kernel_rfl) (by kernel_rfl) (fun _ _ _ h => h) (Or.inl ⟨by rfl, ?hya3⟩) (by assumption) ?resta3
      case hya3 =>
        intro w hSw
        try dsimp only at hSw
        go_simp
        try rw [if_neg kk0]
        try rw [if_neg kk1]
        try with_reducible rfl
      try simp only [Act.put, List.setIfInBounds_toArray, List.set_cons_zero, List.set_cons_succ, List.getElem_toArray, List.getElem_cons_zero, List.getElem_cons_succ]
      refine wpAnyH_take (i := 4) (v := ?va4) rfl (by kernel_rfl) (by kernel_rfl) (by kernel_rfl) (fun _ _ _ h => h) (Or.inl ⟨by rfl, ?hya4⟩) (by assumption) ?resta4
      case hya4 =>
        intro w hSw
        try dsimp only at hSw
        go_simp
        try rw [if_neg kk0]
        try rw [if_neg kk1]
        try with_reducible rfl
      try simp only [Act.put, List.setIfInBounds_toArray, List.set_cons_zero, List.set_cons_succ, List.getElem_toArray, List.getElem_cons_zero, List.getElem_cons_succ]
      refine wpAnyH_take (i := 5) (v := ?va5) rfl (by kernel_rfl) (by kernel_rfl) (by kernel_rfl) (fun _ _ _ h => h) (Or.inl ⟨by rfl, ?hya5⟩) (by assumption) ?resta5
      case hya5 =>
        intro w hSw
        try dsimp only at hSw
        go_simp
        try rw [if_neg kk0]
        try rw [if_neg kk1]
        try with_reducible rfl
      try simp only [Act.put, List.setIfInBounds_toArray, List.set_cons_zero, List.set_cons_succ, List.getElem_toArray, List.getElem_cons_zero, List.getElem_cons_succ]
      refine wpAnyH_take (i := 6) (v := ?va6) rfl (by kernel_rfl) (by kernel_rfl) (by kernel_rfl) (fun _ _ _ h => h) (Or.inl ⟨by rfl, ?hya6⟩) (by assumption) ?resta6
      case hya6 =>
        intro w hSw
        try dsimp only at hSw
        go_simp
        try rw [if_neg kk0]
        try rw [if_neg kk1]
        try with_reducible rfl
      try simp only [Act.put, List.setIfInBounds_toArray, List.set_cons_zero, List.set_cons_succ, List.getElem_toArray, List.getElem_cons_zero, List.getElem_cons_succ]
      refine wpAnyH_take (i := 7) (v := ?va7) rfl (by kernel_rfl) (by kernel_rfl) (by kernel_rfl) (fun _ _ _ h => h) (Or.inl ⟨by rfl, ?hya7⟩) (by assumption) ?resta7
      case hya7 =>
        intro w hSw
        try dsimp only at hSw
        go_simp
        try rw [if_neg kk0]
        try rw [if_neg kk1]
        try with_reducible rfl
      try simp only [Act.put, List.setIfInBounds_toArray, List.set_cons_zero, List.set_cons_succ, List.getElem_toArray, List.getElem_cons_zero, List.getElem_cons_succ]
      refine wpAnyH_take (i := 8) (v := ?va8) rfl (by kernel_rfl) (by kernel_rfl) (by kernel_rfl) (fun _ _ _ h => h) (Or.inl ⟨by rfl, ?hya8⟩) (by assumption) ?resta8
      case hya8 =>
        intro w hSw
        try dsimp only at hSw
        go_simp
        try rw [if_neg kk0]
        try rw [if_neg kk1]
        try with_reducible rfl
      try simp only [Act.put, List.setIfInBounds_toArray, List.set_cons_zero, List.set_cons_succ, List.getElem_toArray, List.getElem_cons_zero, List.getElem_cons_succ]
      refine wpAnyH_take (i := 9) (v := ?va9) rfl (by kernel_rfl) (by kernel_rfl) (by kernel_rfl) (fun _ _ _ h => h) (Or.inl ⟨by rfl, ?hya9⟩) (by assumption) ?resta9
      case hya9 =>
        intro w hSw
        try dsimp only at hSw
        go_simp
        try rw [if_neg kk0]
        try rw [if_neg kk1]
        try with_reducible rfl
      try simp only [Act.put, List.setIfInBounds_toArray, List.set_cons_zero, List.set_cons_succ, List.getElem_toArray, List.getElem_cons_zero, List.getElem_cons_succ]
      refine wpAnyH_take (i := 10) (v := ?va10) rfl (by kernel_rfl) (by kernel_rfl) (by kernel_rfl) (fun _ _ _ h => h) (Or.inl ⟨by rfl, ?hya10⟩) (by assumption) ?resta10
      case hya10 =>
        intro w hSw
        try dsimp only at hSw
        go_simp
        try rw [if_neg kk0]
        try rw [if_neg kk1]
        try with_reducible rfl
      try simp only [Act.put, List.setIfInBounds_toArray, List.set_cons_zero, List.set_cons_succ, List.getElem_toArray, List.getElem_cons_zero, List.getElem_cons_succ]
      refine wpAnyH_take (i := 11) (v := ?va11) rfl (by kernel_rfl) (by kernel_rfl) (by kernel_rfl) (fun _ _ _ h => h) (Or.inl ⟨by rfl, ?hya11⟩) (by assumption) ?resta11
      case hya11 =>
        intro w hSw
        try dsimp only at hSw
        go_simp
        try rw [if_neg kk0]
        try rw [if_neg kk1]
        try with_reducible rfl
      try simp only [Act.put, List.setIfInBounds_toArray, List.set_cons_zero, List.set_cons_succ, List.getElem_toArray, List.getElem_cons_zero, List.getElem_cons_succ]
      have hcall := fun (w4 : World) (F' : List Ent) (h1 : Sep B w4 (rteE (.slice ao L.length cap) L :: F')) (h2 : B ≤ w4.heap.size) => rbSet_any B (.slice ao L.length cap) (L, tx, m) F' (numV za) (numV zn) (numV zh) w4 h1 h2 HFB.out.all.1 HFB.out.1 HFB.out.2.1
      simp only at hcall
      rw [← HSS.out, ← HR.out] at hcall
      have HCALL := Lib.hid hcall
      clear hcall x1 x2 x3 x4 x5 y1 y2 y3 y4 y5
      refine wpAnyH_ready (rs := [12, 16]) (by kernel_rfl) (by simp) ?_
      refine AllReadyH.cons rfl (fun K hK => ?_) (AllReadyH.cons rfl (fun K hK => ?_) AllReadyH.nil)
      · go_simp
        go_at_call 71
        refine (HCALL.out w4 _ HS4.out hg4).mono ?_
        rintro e w5 ⟨sp', rfl, hs5, hb5⟩
        obtain ⟨ao', N', cap', rfl⟩ : ∃ a n c, sp' = .slice a n c := by
          obtain ⟨a', c', e, -⟩ := rte_shape (A := []) hs5
          exact ⟨a', _, c', e⟩
        have HS5 := Lib.hid hs5
        have HB5 := Lib.hid (HB4.out.trans hb5)
        have hg5 : B ≤ w5.heap.size := Nat.le_trans hB HB5.out.size
        have HST5 := Lib.hid (HSTAT.out w5 (hs5.sub (List.Sublist.cons _ (List.Sublist.cons_cons _ (List.Sublist.cons _ (List.Sublist.cons _ (List.Sublist.cons_cons _ (List.nil_sublist _))))))))
        clear hs5 hb5 HS4 HB4 HCALL hg4
        go_wp2_with fail
        refine hK.out _ _ ?_ (fun hHeld12 => ?_)
        · exact HST5.out
        clear hK K
        try simp only [Act.put, List.setIfInBounds_toArray, List.set_cons_zero, List.set_cons_succ, List.getElem_toArray, List.getElem_cons_zero, List.getElem_cons_succ]
        refine wpAnyH_take (i := 13) (v := ?vb1213) rfl (by kernel_rfl) (by kernel_rfl) (by kernel_rfl) (fun _ _ _ h => h) (Or.inl ⟨by rfl, ?hyb1213⟩) (by assumption) ?restb1213
        case hyb1213 =>
          intro w hSw
          try dsimp only at hSw
          go_simp
          try rw [if_neg kk0]
          try rw [if_neg kk1]
          try with_reducible rfl
        try simp only [Act.put, List.setIfInBounds_toArray, List.set_cons_zero, List.set_cons_succ, List.getElem_toArray, List.getElem_cons_zero, List.getElem_cons_succ]
        refine wpAnyH_take (i := 14) (v := ?vb1214) rfl (by kernel_rfl) (by kernel_rfl) (by kernel_rfl) (fun _ _ _ h => h) (Or.inl ⟨by rfl, ?hyb1214⟩) (by assumption) ?restb1214
        case hyb1214 =>
          intro w hSw
          try dsimp only at hSw
          go_simp
          try rw [if_neg kk0]
          try rw [if_neg kk1]
          try with_reducible rfl
        try simp only [Act.put, List.setIfInBounds_toArray, List.set_cons_zero, List.set_cons_succ, List.getElem_toArray, List.getElem_cons_zero, List.getElem_cons_succ]
        refine wpAnyH_take (i := 15) (v := ?vb1215) rfl (by kernel_rfl) (by kernel_rfl) (by kernel_rfl) (fun _ _ _ h => h) (Or.inl ⟨by rfl, ?hyb1215⟩) (by assumption) ?restb1215
        case hyb1215 =>
          intro w hSw
          try dsimp only at hSw
          go_simp
          try rw [if_neg kk0]
          try rw [if_neg kk1]
          try with_reducible rfl
        try simp only [Act.put, List.setIfInBounds_toArray, List.set_cons_zero, List.set_cons_succ, List.getElem_toArray, List.getElem_cons_zero, List.getElem_cons_succ]
        obtain ⟨tt, htt⟩ : ∃ tt, tt = bkT r.1.2.1 := ⟨_, rfl⟩
        obtain ⟨mm, hmm⟩ : ∃ mm : Int, mm = (r.1.2.2 : Int) := ⟨_, rfl⟩
        obtain ⟨rc, hrc⟩ : ∃ rc : Int, rc = r.2 := ⟨_, rfl⟩
        rw [← htt, ← hmm, ← hrc]
        have HTT := Lib.hid (And.intro htt (And.intro hmm hrc))
        clear htt hmm hrc
        have q0 := HS5.out.blkNew hg5 #[.slice none 0 0, .string ⟨#[]⟩, .int .i64 0] 56
        have q3 := HS5.out.blkNew hg5 #[.slice ao' N' cap', .string tt, .int .i64 mm] 56
        obtain ⟨c0, d0⟩ := Sep.blkAt (A := []) q0 (j := 0) rfl
        obtain ⟨c1, d1⟩ := Sep.blkAt (A := []) q0 (j := 1) rfl
        obtain ⟨c2, d2⟩ := Sep.blkAt (A := []) q0 (j := 2) rfl
        have HST6 := Lib.hid (HSTAT.out _ (q0.sub (List.Sublist.cons _ (List.Sublist.cons _ (List.Sublist.cons_cons _ (List.Sublist.cons _ (List.Sublist.cons _ (List.Sublist.cons_cons _ (List.nil_sublist _)))))))))
        have HST7 := Lib.hid (HSTAT.out _ (q3.sub (List.Sublist.cons _ (List.Sublist.cons _ (List.Sublist.cons_cons _ (List.Sublist.cons _ (List.Sublist.cons _ (List.Sublist.cons_cons _ (List.nil_sublist _)))))))))
        have hb7 := HB5.out.alloc hg5 (.cells #[.slice ao' N' cap', .string tt, .int .i64 mm] 56)
        obtain ⟨w7, hw7⟩ : ∃ w7, w7 = w5.alloc (.cells #[.slice ao' N' cap', .string tt, .int .i64 mm] 56) := ⟨_, rfl⟩
        obtain ⟨gc, hgc⟩ : ∃ gc, gc = w5.heap.size := ⟨_, rfl⟩
        have HS7 := Lib.hid (show Sep B w7 (Ent.blk1 gc 56 [.slice ao' N' cap', .string tt, .int .i64 mm] :: rteE (.slice ao' N' cap') r.1.1 :: Ent.ints 3 (.slice (some ⟨gn, on, none⟩) [numV za, numV zn, numV zh].length nc) [numV za, numV zn, numV zh] :: strE (.slice (some ⟨g, off, none⟩) i2 sc) (w0 :: [za, zn, zh]) :: bkE0 gr :: Ent.blk1 gb 56 (bkC (.slice ao L.length cap) s (m : Int)) :: F) by rw [hw7, hgc]; exact q3)
        have HB7 := Lib.hid (show Below B w w7 by rw [hw7]; exact hb7)
        have HW7 := Lib.hid (And.intro hw7 hgc)
        clear q0 q3 HS5 HB5 HST5 hb7 hw7 hgc
        refine wpAnyH_ready (rs := [16]) (by kernel_rfl) (by simp) ?_
        refine AllReadyH.cons rfl (fun K hK => ?_) AllReadyH.nil
        go_simp
        go_wp2_with fail
        refine hK.out _ _ ?_ (fun hHeld16 => ?_)
        · exact HST6.out
        clear hK K
        try simp only [Act.put, List.setIfInBounds_toArray, List.set_cons_zero, List.set_cons_succ, List.getElem_toArray, List.getElem_cons_zero, List.getElem_cons_succ]
        refine wpAnyH_ready (rs := [17]) (by kernel_rfl) (by simp) ?_
        refine AllReadyH.cons rfl (fun K hK => ?_) AllReadyH.nil
        go_simp
        go_wp2_with fail
        refine hK.out _ _ ?_ (fun hHeld17 => ?_)
        · exact HST7.out
        clear hK K
        try simp only [Act.put, List.setIfInBounds_toArray, List.set_cons_zero, List.set_cons_succ, List.getElem_toArray, List.getElem_cons_zero, List.getElem_cons_succ]
        refine wpAnyH_take (i := 18) (v := ?vb1218) rfl (by kernel_rfl) (by kernel_rfl) (by kernel_rfl) (fun _ _ _ h => h) (Or.inl ⟨by rfl, ?hyb1218⟩) (by assumption) ?restb1218
        case hyb1218 =>
          intro w hSw
          try dsimp only at hSw
          go_simp
          try rw [if_neg kk0]
          try rw [if_neg kk1]
          try with_reducible rfl
        try simp only [Act.put, List.setIfInBounds_toArray, List.set_cons_zero, List.set_cons_succ, List.getElem_toArray, List.getElem_cons_zero, List.getElem_cons_succ]
        refine wpAnyH_done (by kernel_rfl) ?_ _
        clear c0 d0 c1 d1 c2 d2 HST6 HST7
        rw [← HW7.out.1]
        try rw [← HW7.out.2]
        clear HW7
        go_upto_region 12 with fail
        obtain ⟨w8, hw8⟩ : ∃ w8, w8 = w7.drew := ⟨_, rfl⟩
        have HS8 := Lib.hid (show Sep B w8 _ by rw [hw8]; exact HS7.out.drew)
        have HB8 := Lib.hid (show Below B w w8 by rw [hw8]; exact HB7.out.drew)
        have HST8 := Lib.hid (show (fun (w' : World) => w'.cell? ⟨gc, 0, none⟩ = some (.slice ao' N' cap') ∧ w'.cell? ⟨gc, 1, none⟩ = some (.string tt) ∧ w'.cell? ⟨gc, 2, none⟩ = some (.int .i64 mm)) w8 from ⟨(Sep.blkAt (A := []) HS8.out (j := 0) rfl).1, (Sep.blkAt (A := []) HS8.out (j := 1) rfl).1, (Sep.blkAt (A := []) HS8.out (j := 2) rfl).1⟩)
        refine wp_region_held_drew (S := (fun (w' : World) => w'.cell? ⟨gc, 0, none⟩ = some (.slice ao' N' cap') ∧ w'.cell? ⟨gc, 1, none⟩ = some (.string tt) ∧ w'.cell? ⟨gc, 2, none⟩ = some (.int .i64 mm))) (by kernel_rfl) (by simp only [← hw8]; exact HST8.out) (fun hHeld => ?_)
        rw [← hw8] at hHeld ⊢
        clear hw8 HS7 HB7
        refine wpAnyH_take (i := 0) (v := ?ve0) rfl (by kernel_rfl) (by kernel_rfl) (by kernel_rfl) (fun _ _ _ h => h) (Or.inl ⟨by rfl, ?hye0⟩) (by assumption) ?reste0
        case hye0 =>
          intro w hSw
          try dsimp only at hSw
          go_simp
          try with_reducible rfl
        try simp only [Act.put, List.setIfInBounds_toArray, List.set_cons_zero, List.set_cons_succ, List.getElem_toArray, List.getElem_cons_zero]
        refine wpAnyH_take (i := 1) (v := ?ve1) rfl (by kernel_rfl) (by kernel_rfl) (by kernel_rfl) (fun _ _ _ h => h) (Or.inl ⟨by rfl, ?hye1⟩) (by assumption) ?reste1
        case hye1 =>
          intro w hSw
          try dsimp only at hSw
          go_simp
          try rw [if_neg kk0]
          try rw [if_neg kk1]
          try with_reducible rfl
        try simp only [Act.put, List.setIfInBounds_toArray, List.set_cons_zero, List.set_cons_succ, List.getElem_toArray, List.getElem_cons_zero, List.getElem_cons_succ]
        refine wpAnyH_ready (rs := [2]) (by kernel_rfl) (by simp) ?_
        refine AllReadyH.cons rfl (fun K hK => ?_) AllReadyH.nil
        go_simp
        go_at_call 81
        refine (refCalled_any rc w8).mono ?_
        rintro e w' ⟨rfl, hw⟩
        rw [hw]
        clear hw
        go_wp2_with fail
        refine hK.out _ _ ?_ (fun hHeld2 => ?_)
        · exact HST8.out
        clear hK K
        try simp only [Act.put, List.setIfInBounds_toArray, List.set_cons_zero, List.set_cons_succ, List.getElem_toArray, List.getElem_cons_zero, List.getElem_cons_succ]
        obtain ⟨s0, f0⟩ := Sep.blkAt (A := [_, _, _, _]) HS8.out (j := 0) rfl
        obtain ⟨s1, f1⟩ := Sep.blkAt (A := [_, _, _, _]) HS8.out (j := 1) rfl
        obtain ⟨s2, f2⟩ := Sep.blkAt (A := [_, _, _, _]) HS8.out (j := 2) rfl
        have hl8 := (Sep.blkLt (A := [_, _, _, _]) HS8.out).1
        have q1 := Sep.blkSet (A := [_, _, _, _]) HS8.out 0 (.slice ao' N' cap')
        have q2 := Sep.blkSet (A := [_, _, _, _]) q1 1 (.string tt)
        have q3 := Sep.blkSet (A := [_, _, _, _]) q2 2 (.int .i64 mm)
        have hb9 := ((HB8.out.setCell (p := ⟨gr, 0, none⟩) hl8 (.slice ao' N' cap')).setCell (p := ⟨gr, 1, none⟩) hl8 (.string tt)).setCell (p := ⟨gr, 2, none⟩) hl8 (.int .i64 mm)
        have K5 := Lib.hid (Sep.blkAt (A := [_, _, _, _]) q3 (j := 0) rfl).1
        have K6 := Lib.hid (Sep.blkAt (A := [_, _, _, _]) q3 (j := 1) rfl).1
        have K7 := Lib.hid (Sep.blkAt (A := [_, _, _, _]) q3 (j := 2) rfl).1
        have HST9 := Lib.hid (show (fun (w' : World) => w'.cell? ⟨gc, 0, none⟩ = some (.slice ao' N' cap') ∧ w'.cell? ⟨gc, 1, none⟩ = some (.string tt) ∧ w'.cell? ⟨gc, 2, none⟩ = some (.int .i64 mm)) _ from ⟨(Sep.blkAt (A := []) q3 (j := 0) rfl).1, (Sep.blkAt (A := []) q3 (j := 1) rfl).1, (Sep.blkAt (A := []) q3 (j := 2) rfl).1⟩)
        have HE1 := Lib.hid (q3.sub (List.Sublist.cons _ (List.Sublist.cons_cons _ (List.Sublist.cons _ (List.Sublist.cons _ (List.Sublist.cons _ (List.Sublist.cons _ (List.Sublist.refl _))))))))
        have HE2 := Lib.hid hb9
        clear q1 q2 q3 hb9 hl8
        refine wpAnyH_ready (rs := [3]) (by kernel_rfl) (by simp) ?_
        refine AllReadyH.cons rfl (fun K hK => ?_) AllReadyH.nil
        go_simp
        go_wp2_with fail
        refine hK.out _ _ ?_ (fun hHeld3 => ?_)
        · exact HST9.out
        clear hK K
        try simp only [Act.put, List.setIfInBounds_toArray, List.set_cons_zero, List.set_cons_succ, List.getElem_toArray, List.getElem_cons_zero, List.getElem_cons_succ]
        refine wpAnyH_take (i := 4) (v := ?vez4) rfl (by kernel_rfl) (by kernel_rfl) (by kernel_rfl) (fun _ _ _ h => h) (Or.inl ⟨by rfl, ?hyez4⟩) (by assumption) ?restez4
        case hyez4 =>
          intro w hSw
          try dsimp only at hSw
          go_simp
          try rw [if_neg kk0]
          try rw [if_neg kk1]
          try with_reducible rfl
        try simp only [Act.put, List.setIfInBounds_toArray, List.set_cons_zero, List.set_cons_succ, List.getElem_toArray, List.getElem_cons_zero, List.getElem_cons_succ]
        refine wpAnyH_done (by kernel_rfl) ?_ _
        clear s0 s1 s2 f0 f1 f2
        have k5 := K5.out
        have k6 := K6.out
        have k7 := K7.out
        go_wp2
        try simp only [Exit.inBlock, Exit.then]
        refine bodyPost_ret (v := .tuple #[.agg #[(.slice ao' N' cap'), (.string tt), (.int .i64 mm)], .string (bytesOf (errT rc))]) (by simp [results, Tryz.results52, go_sem, k5, k6, k7]) rfl ?_
        rw [HLD.out]
        obtain ⟨e1, e2, e3⟩ := HTT.out
        exact ⟨_, by rw [e1, e2, e3], HE1.out, HE2.out⟩
      · go_simp
        have q0 := (HS4.out.blkNew hg4 #[.slice none 0 0, .string ⟨#[]⟩, .int .i64 0] 56).perm (List.Perm.swap ..)
        have hb4 := HB4.out.alloc hg4 (.cells #[.slice none 0 0, .string ⟨#[]⟩, .int .i64 0] 56)
        obtain ⟨w6, hw6⟩ : ∃ w6, w6 = w4.alloc (.cells #[.slice none 0 0, .string ⟨#[]⟩, .int .i64 0] 56) := ⟨_, rfl⟩
        obtain ⟨gc, hgc⟩ : ∃ gc, gc = w4.heap.size := ⟨_, rfl⟩
        rw [← hw6] at q0 hb4
        rw [← hgc] at q0
        have HS6 := Lib.hid q0
        have HB6 := Lib.hid hb4
        have hg6 : B ≤ w6.heap.size := Nat.le_trans hB HB6.out.size
        have HST6 := Lib.hid (HSTAT.out w6 (q0.sub (List.Sublist.cons _ (List.Sublist.cons _ (List.Sublist.cons_cons _ (List.Sublist.cons _ (List.Sublist.cons _ (List.Sublist.cons_cons _ (List.nil_sublist _)))))))))
        have HW6 := Lib.hid hw6
        have HGC := Lib.hid hgc
        clear q0 hb4 hw6 hgc HS4 HB4
        go_wp2_with fail
        rw [← HW6.out, ← HGC.out]
        refine hK.out _ _ ?_ (fun hHeld16 => ?_)
        · exact HST6.out
        clear hK K
        try simp only [Act.put, List.setIfInBounds_toArray, List.set_cons_zero, List.set_cons_succ, List.getElem_toArray, List.getElem_cons_zero, List.getElem_cons_succ]
        refine wpAnyH_ready (rs := [12]) (by kernel_rfl) (by simp) ?_
        refine AllReadyH.cons rfl (fun K hK => ?_) AllReadyH.nil
        go_simp
        go_at_call 71
        refine (HCALL.out w6 _ HS6.out hg6).mono ?_
        rintro e w5 ⟨sp', rfl, hs5, hb5⟩
        obtain ⟨ao', N', cap', rfl⟩ : ∃ a n c, sp' = .slice a n c := by
          obtain ⟨a', c', e, -⟩ := rte_shape (A := []) hs5
          exact ⟨a', _, c', e⟩
        have HS5 := Lib.hid hs5
        have HB5 := Lib.hid (HB6.out.trans hb5)
        have hg5 : B ≤ w5.heap.size := Nat.le_trans hB HB5.out.size
        have HST5 := Lib.hid (HSTAT.out w5 (hs5.sub (List.Sublist.cons _ (List.Sublist.cons _ (List.Sublist.cons_cons _ (List.Sublist.cons _ (List.Sublist.cons _ (List.Sublist.cons_cons _ (List.nil_sublist _)))))))))
        clear hs5 hb5 HS6 HB6 HCALL hg4 HW6 HGC HST6
        go_wp2_with fail
        refine hK.out _ _ ?_ (fun hHeld12 => ?_)
        · exact HST5.out
        clear hK K
        try simp only [Act.put, List.setIfInBounds_toArray, List.set_cons_zero, List.set_cons_succ, List.getElem_toArray, List.getElem_cons_zero, List.getElem_cons_succ]
        refine wpAnyH_take (i := 13) (v := ?vc1213) rfl (by kernel_rfl) (by kernel_rfl) (by kernel_rfl) (fun _ _ _ h => h) (Or.inl ⟨by rfl, ?hyc1213⟩) (by assumption) ?restc1213
        case hyc1213 =>
          intro w hSw
          try dsimp only at hSw
          go_simp
          try rw [if_neg kk0]
          try rw [if_neg kk1]
          try with_reducible rfl
        try simp only [Act.put, List.setIfInBounds_toArray, List.set_cons_zero, List.set_cons_succ, List.getElem_toArray, List.getElem_cons_zero, List.getElem_cons_succ]
        refine wpAnyH_take (i := 14) (v := ?vc1214) rfl (by kernel_rfl) (by kernel_rfl) (by kernel_rfl) (fun _ _ _ h => h) (Or.inl ⟨by rfl, ?hyc1214⟩) (by assumption) ?restc1214
        case hyc1214 =>
          intro w hSw
          try dsimp only at hSw
          go_simp
          try rw [if_neg kk0]
          try rw [if_neg kk1]
          try with_reducible rfl
        try simp only [Act.put, List.setIfInBounds_toArray, List.set_cons_zero, List.set_cons_succ, List.getElem_toArray, List.getElem_cons_zero, List.getElem_cons_succ]
        refine wpAnyH_take (i := 15) (v := ?vc1215) rfl (by kernel_rfl) (by kernel_rfl) (by kernel_rfl) (fun _ _ _ h => h) (Or.inl ⟨by rfl, ?hyc1215⟩) (by assumption) ?restc1215
        case hyc1215 =>
          intro w hSw
          try dsimp only at hSw
          go_simp
          try rw [if_neg kk0]
          try rw [if_neg kk1]
          try with_reducible rfl
        try simp only [Act.put, List.setIfInBounds_toArray, List.set_cons_zero, List.set_cons_succ, List.getElem_toArray, List.getElem_cons_zero, List.getElem_cons_succ]
        obtain ⟨tt, htt⟩ : ∃ tt, tt = bkT r.1.2.1 := ⟨_, rfl⟩
        obtain ⟨mm, hmm⟩ : ∃ mm : Int, mm = (r.1.2.2 : Int) := ⟨_, rfl⟩
        obtain ⟨rc, hrc⟩ : ∃ rc : Int, rc = r.2 := ⟨_, rfl⟩
        rw [← htt, ← hmm, ← hrc]
        have HTT := Lib.hid (And.intro htt (And.intro hmm hrc))
        clear htt hmm hrc
        obtain ⟨c0, d0⟩ := Sep.blkAt (A := [_]) HS5.out (j := 0) rfl
        obtain ⟨c1, d1⟩ := Sep.blkAt (A := [_]) HS5.out (j := 1) rfl
        obtain ⟨c2, d2⟩ := Sep.blkAt (A := [_]) HS5.out (j := 2) rfl
        have hgz2 := (Sep.blkLt (A := [_]) HS5.out).1
        have q1 := Sep.blkSet (A := [_]) HS5.out 0 (.slice ao' N' cap')
        have q2 := Sep.blkSet (A := [_]) q1 1 (.string tt)
        have q3 := Sep.blkSet (A := [_]) q2 2 (.int .i64 mm)
        have hb7 := ((HB5.out.setCell (p := ⟨gc, 0, none⟩) hgz2 (.slice ao' N' cap')).setCell (p := ⟨gc, 1, none⟩) hgz2 (.string tt)).setCell (p := ⟨gc, 2, none⟩) hgz2 (.int .i64 mm)
        have HST7 := Lib.hid (HSTAT.out _ (q3.sub (List.Sublist.cons _ (List.Sublist.cons _ (List.Sublist.cons_cons _ (List.Sublist.cons _ (List.Sublist.cons _ (List.Sublist.cons_cons _ (List.nil_sublist _)))))))))
        obtain ⟨w7, hw7⟩ : ∃ w7, w7 = ((w5.setCell ⟨gc, 0, none⟩ (.slice ao' N' cap')).setCell ⟨gc, 1, none⟩ (.string tt)).setCell ⟨gc, 2, none⟩ (.int .i64 mm) := ⟨_, rfl⟩
        have HS7 := Lib.hid (show Sep B w7 (Ent.blk1 gc 56 [.slice ao' N' cap', .string tt, .int .i64 mm] :: rteE (.slice ao' N' cap') r.1.1 :: Ent.ints 3 (.slice (some ⟨gn, on, none⟩) [numV za, numV zn, numV zh].length nc) [numV za, numV zn, numV zh] :: strE (.slice (some ⟨g, off, none⟩) i2 sc) (w0 :: [za, zn, zh]) :: bkE0 gr :: Ent.blk1 gb 56 (bkC (.slice ao L.length cap) s (m : Int)) :: F) by rw [hw7]; exact q3.perm (List.Perm.swap ..))
        have HB7 := Lib.hid (show Below B w w7 by rw [hw7]; exact hb7)
        have HW7 := Lib.hid (And.intro hw7 (rfl : gc = gc))
        clear q1 q2 q3 HS5 HB5 HST5 hb7 hw7 hgz2
        refine wpAnyH_ready (rs := [17]) (by kernel_rfl) (by simp) ?_
        refine AllReadyH.cons rfl (fun K hK => ?_) AllReadyH.nil
        go_simp
        go_wp2_with fail
        refine hK.out _ _ ?_ (fun hHeld17 => ?_)
        · exact HST7.out
        clear hK K
        try simp only [Act.put, List.setIfInBounds_toArray, List.set_cons_zero, List.set_cons_succ, List.getElem_toArray, List.getElem_cons_zero, List.getElem_cons_succ]
        refine wpAnyH_take (i := 18) (v := ?vc1218) rfl (by kernel_rfl) (by kernel_rfl) (by kernel_rfl) (fun _ _ _ h => h) (Or.inl ⟨by rfl, ?hyc1218⟩) (by assumption) ?restc1218
        case hyc1218 =>
          intro w hSw
          try dsimp only at hSw
          go_simp
          try rw [if_neg kk0]
          try rw [if_neg kk1]
          try with_reducible rfl
        try simp only [Act.put, List.setIfInBounds_toArray, List.set_cons_zero, List.set_cons_succ, List.getElem_toArray, List.getElem_cons_zero, List.getElem_cons_succ]
        refine wpAnyH_done (by kernel_rfl) ?_ _
        clear c0 d0 c1 d1 c2 d2 HST7
        rw [← HW7.out.1]
        try rw [← HW7.out.2]
        clear HW7
        go_upto_region 12 with fail
        obtain ⟨w8, hw8⟩ : ∃ w8, w8 = w7.drew := ⟨_, rfl⟩
        have HS8 := Lib.hid (show Sep B w8 _ by rw [hw8]; exact HS7.out.drew)
        have HB8 := Lib.hid (show Below B w w8 by rw [hw8]; exact HB7.out.drew)
        have HST8 := Lib.hid (show (fun (w' : World) => w'.cell? ⟨gc, 0, none⟩ = some (.slice ao' N' cap') ∧ w'.cell? ⟨gc, 1, none⟩ = some (.string tt) ∧ w'.cell? ⟨gc, 2, none⟩ = some (.int .i64 mm)) w8 from ⟨(Sep.blkAt (A := []) HS8.out (j := 0) rfl).1, (Sep.blkAt (A := []) HS8.out (j := 1) rfl).1, (Sep.blkAt (A := []) HS8.out (j := 2) rfl).1⟩)
        refine wp_region_held_drew (S := (fun (w' : World) => w'.cell? ⟨gc, 0, none⟩ = some (.slice ao' N' cap') ∧ w'.cell? ⟨gc, 1, none⟩ = some (.string tt) ∧ w'.cell? ⟨gc, 2, none⟩ = some (.int .i64 mm))) (by kernel_rfl) (by simp only [← hw8]; exact HST8.out) (fun hHeld => ?_)
        rw [← hw8] at hHeld ⊢
        clear hw8 HS7 HB7
        refine wpAnyH_take (i := 0) (v := ?vf0) rfl (by kernel_rfl) (by kernel_rfl) (by kernel_rfl) (fun _ _ _ h => h) (Or.inl ⟨by rfl, ?hyf0⟩) (by assumption) ?restf0
        case hyf0 =>
          intro w hSw
          try dsimp only at hSw
          go_simp
          try with_reducible rfl
        try simp only [Act.put, List.setIfInBounds_toArray, List.set_cons_zero, List.set_cons_succ, List.getElem_toArray, List.getElem_cons_zero]
        refine wpAnyH_take (i := 1) (v := ?vf1) rfl (by kernel_rfl) (by kernel_rfl) (by kernel_rfl) (fun _ _ _ h => h) (Or.inl ⟨by rfl, ?hyf1⟩) (by assumption) ?restf1
        case hyf1 =>
          intro w hSw
          try dsimp only at hSw
          go_simp
          try rw [if_neg kk0]
          try rw [if_neg kk1]
          try with_reducible rfl
        try simp only [Act.put, List.setIfInBounds_toArray, List.set_cons_zero, List.set_cons_succ, List.getElem_toArray, List.getElem_cons_zero, List.getElem_cons_succ]
        refine wpAnyH_ready (rs := [2]) (by kernel_rfl) (by simp) ?_
        refine AllReadyH.cons rfl (fun K hK => ?_) AllReadyH.nil
        go_simp
        go_at_call 81
        refine (refCalled_any rc w8).mono ?_
        rintro e w' ⟨rfl, hw⟩
        rw [hw]
        clear hw
        go_wp2_with fail
        refine hK.out _ _ ?_ (fun hHeld2 => ?_)
        · exact HST8.out
        clear hK K
        try simp only [Act.put, List.setIfInBounds_toArray, List.set_cons_zero, List.set_cons_succ, List.getElem_toArray, List.getElem_cons_zero, List.getElem_cons_succ]
        obtain ⟨s0, f0⟩ := Sep.blkAt (A := [_, _, _, _]) HS8.out (j := 0) rfl
        obtain ⟨s1, f1⟩ := Sep.blkAt (A := [_, _, _, _]) HS8.out (j := 1) rfl
        obtain ⟨s2, f2⟩ := Sep.blkAt (A := [_, _, _, _]) HS8.out (j := 2) rfl
        have hl8 := (Sep.blkLt (A := [_, _, _, _]) HS8.out).1
        have q1 := Sep.blkSet (A := [_, _, _, _]) HS8.out 0 (.slice ao' N' cap')
        have q2 := Sep.blkSet (A := [_, _, _, _]) q1 1 (.string tt)
        have q3 := Sep.blkSet (A := [_, _, _, _]) q2 2 (.int .i64 mm)
        have hb9 := ((HB8.out.setCell (p := ⟨gr, 0, none⟩) hl8 (.slice ao' N' cap')).setCell (p := ⟨gr, 1, none⟩) hl8 (.string tt)).setCell (p := ⟨gr, 2, none⟩) hl8 (.int .i64 mm)
        have K5 := Lib.hid (Sep.blkAt (A := [_, _, _, _]) q3 (j := 0) rfl).1
        have K6 := Lib.hid (Sep.blkAt (A := [_, _, _, _]) q3 (j := 1) rfl).1
        have K7 := Lib.hid (Sep.blkAt (A := [_, _, _, _]) q3 (j := 2) rfl).1
        have HST9 := Lib.hid (show (fun (w' : World) => w'.cell? ⟨gc, 0, none⟩ = some (.slice ao' N' cap') ∧ w'.cell? ⟨gc, 1, none⟩ = some (.string tt) ∧ w'.cell? ⟨gc, 2, none⟩ = some (.int .i64 mm)) _ from ⟨(Sep.blkAt (A := []) q3 (j := 0) rfl).1, (Sep.blkAt (A := []) q3 (j := 1) rfl).1, (Sep.blkAt (A := []) q3 (j := 2) rfl).1⟩)
        have HE1 := Lib.hid (q3.sub (List.Sublist.cons _ (List.Sublist.cons_cons _ (List.Sublist.cons _ (List.Sublist.cons _ (List.Sublist.cons _ (List.Sublist.cons _ (List.Sublist.refl _))))))))
        have HE2 := Lib.hid hb9
        clear q1 q2 q3 hb9 hl8
        refine wpAnyH_ready (rs := [3]) (by kernel_rfl) (by simp) ?_
        refine AllReadyH.cons rfl (fun K hK => ?_) AllReadyH.nil
        go_simp
        go_wp2_with fail
        refine hK.out _ _ ?_ (fun hHeld3 => ?_)
        · exact HST9.out
        clear hK K
        try simp only [Act.put, List.setIfInBounds_toArray, List.set_cons_zero, List.set_cons_succ, List.getElem_toArray, List.getElem_cons_zero, List.getElem_cons_succ]
        refine wpAnyH_take (i := 4) (v := ?vfz4) rfl (by kernel_rfl) (by kernel_rfl) (by kernel_rfl) (fun _ _ _ h => h) (Or.inl ⟨by rfl, ?hyfz4⟩) (by assumption) ?restfz4
        case hyfz4 =>
          intro w hSw
          try dsimp only at hSw
          go_simp
          try rw [if_neg kk0]
          try rw [if_neg kk1]
          try with_reducible rfl
        try simp only [Act.put, List.setIfInBounds_toArray, List.set_cons_zero, List.set_cons_succ, List.getElem_toArray, List.getElem_cons_zero, List.getElem_cons_succ]
        refine wpAnyH_done (by kernel_rfl) ?_ _
        clear s0 s1 s2 f0 f1 f2
        have k5 := K5.out
        have k6 := K6.out
        have k7 := K7.out
        go_wp2
        try simp only [Exit.inBlock, Exit.then]
        refine bodyPost_ret (v := .tuple #[.agg #[(.slice ao' N' cap'), (.string tt), (.int .i64 mm)], .string (bytesOf (errT rc))]) (by simp [results, Tryz.results52, go_sem, k5, k6, k7]) rfl ?_
        rw [HLD.out]
        obtain ⟨e1, e2, e3⟩ := HTT.out
        exact ⟨_, by rw [e1, e2, e3], HE1.out, HE2.out⟩
end Go.Proofs.YtbcfcjecobihnaaGreatDoor
