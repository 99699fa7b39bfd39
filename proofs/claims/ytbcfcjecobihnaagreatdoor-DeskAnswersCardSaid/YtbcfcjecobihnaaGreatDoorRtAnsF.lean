/- ferryhytheref4.answer: find, many. -/
import Derived.Test.YtbcfcjecobihnaaGreatDoorRtAns
import Derived.Test.YtbcfcjecobihnaaGreatDoorPk11
import Derived.Test.YtbcfcjecobihnaaGreatDoorDskMap
import Derived.Deep.LoopGhost
namespace Go.Proofs.YtbcfcjecobihnaaGreatDoor
open Go.RowKit
set_option linter.unusedVariables false
set_option linter.unusedSimpArgs false
set_option maxRecDepth 100000

set_option maxHeartbeats 8000000 in
theorem refAns_find (B : Nat) (sp : Value) (s : ByteArray) (tx : List UInt8) (m : Nat) (L : List Rte) (F : List Ent) (l : List UInt8) (w0 : List UInt8) (wt : List (List UInt8)) (hws : cutL 32 l = w0 :: wt) (h0 : w0 = findT) (w : World) (h : Sep B w (rteE sp L :: F)) (hB : B ≤ w.heap.size) (hl : l.length ≤ 10000) (hss : s = bkT tx) (hfb : FineB (L, tx, m)) :
    Calls Tryz.prog 52 #[.agg #[sp, .string s, .int .i64 (m : Int)], .string (bytesOf l)] w fun e w' => AnsEnd B F w (ansD (L, tx, m) l) e w' := by
  have x1 : (w0 == [115, 101, 116]) = false := by rw [h0]; decide
  have y1 : (w0.toArray == #[115, 101, 116]) = false := by rw [h0]; decide
  have x2 : (w0 == [100, 114, 111, 112]) = false := by rw [h0]; decide
  have y2 : (w0.toArray == #[100, 114, 111, 112]) = false := by rw [h0]; decide
  have x3 : (w0 == [102, 105, 110, 100]) = true := by rw [h0]; decide
  have y3 : (w0.toArray == #[102, 105, 110, 100]) = true := by rw [h0]; decide
  have x4 : (w0 == [109, 97, 110, 121]) = false := by rw [h0]; decide
  have y4 : (w0.toArray == #[109, 97, 110, 121]) = false := by rw [h0]; decide
  have x5 : (w0 == [99, 114, 97, 115, 104]) = false := by rw [h0]; decide
  have y5 : (w0.toArray == #[99, 114, 97, 115, 104]) = false := by rw [h0]; decide
  have HV0 := Lib.hid h0
  clear h0
  have HSS := Lib.hid hss
  have HFB := Lib.hid hfb
  have hcl := cutL_len 32 l
  have hcn := cutL_cnt 32 l
  rw [hws] at hcl hcn
  have HWS := Lib.hid hws
  have HANS := Lib.hid (ans_verb (b := (L, tx, m)) hws)
  have hcl2 : ∀ z ∈ wt, z.length ≤ 10000 := fun z hz => Nat.le_trans (hcl z (List.mem_cons_of_mem _ hz)) hl
  obtain ⟨q, hq⟩ : ∃ q, q = wt.length := ⟨_, rfl⟩
  obtain ⟨n1, hn1⟩ : ∃ n1, n1 = (w0 :: wt).length := ⟨_, rfl⟩
  have hnq : n1 = q + 1 := by rw [hn1, hq]; rfl
  have hq1 : q ≤ 10001 := by simp only [List.length_cons] at hcn; omega
  have HCL := Lib.hid hcl2
  have HQ := Lib.hid hq
  have HN1 := Lib.hid hn1
  have HNQ := Lib.hid hnq
  have HL10 := Lib.hid hl
  clear hss hfb hcl hcn hws hcl2 hq hn1 hnq
  obtain ⟨W, hW, hs0, hb0⟩ := liE_new (s := s) (m := (m : Int)) h hB
  obtain ⟨⟨ao, cap, rfl, hcap⟩⟩ : Nonempty _ := ⟨rte_shape (A := []) h⟩
  obtain ⟨gr, hgr⟩ : ∃ x, x = w.heap.size + 1 := ⟨_, rfl⟩
  obtain ⟨gb, hgb⟩ : ∃ x, x = w.heap.size := ⟨_, rfl⟩
  rw [← hgr, ← hgb] at hs0
  have HS1 := Lib.hid hs0
  have HB1 := Lib.hid hb0
  have HW := Lib.hid hW
  have HGR := Lib.hid hgr
  have HGB := Lib.hid hgb
  have hg1 : B ≤ W.heap.size := Nat.le_trans hB hb0.size
  have hcut : Calls Tryz.prog 46 #[.string (bytesOf l), .int .u8 32] W fun e w' => ∃ v, e = .returned v ∧ Sep B w' (strE v (cutL 32 l) :: liE gr gb (.slice ao L.length cap) s (m : Int) L F) ∧ Below B W w' := refCut_any B _ l 32 W hg1 HS1.out (by have := HL10.out; omega)
  rw [HWS.out] at hcut
  have HCUT := Lib.hid hcut
  clear h hs0 hb0 hW hgr hgb hcut hl
  go_enter Tryz.func52, Tryz.ntmps52
  go_upto_region 1 with fail
  rw [← HW.out, ← HGR.out, ← HGB.out]
  clear HW HGR HGB
  go_wp2_with fail
  refine HCUT.out.mono ?_
  rintro e w2 ⟨sv, rfl, hs2, hb2⟩
  obtain ⟨so, sc, rfl, -⟩ := strShape (A := []) hs2
  rw [← HN1.out] at hs2 ⊢
  have HS2 := Lib.hid (hs2.intsNil 3)
  have HB2 := Lib.hid (HB1.out.trans hb2)
  clear hs2 hb2 HS1 HB1 HCUT hg1
  go_wp2
  go_loopg [7, 8] q (fun gk lv iv wr => ∃ (k i : Nat), gk + k = q ∧ i = k + 1 ∧ iv = .int .i64 i ∧ Hid (∀ z ∈ wt.take k, numW z = true) ∧ Sep B wr (Ent.ints 3 lv ((wt.take k).map numV) :: strE (.slice so n1 sc) (w0 :: wt) :: liE gr gb (.slice ao L.length cap) s (m : Int) L F) ∧ Below B w wr)
  case atStart => exact ⟨0, 1, rfl, rfl, rfl, (fun z hz => by simp at hz), HS2.out, HB2.out⟩
  case round =>
    obtain ⟨gi, rfl⟩ : ∃ gi, gi = gk := ⟨_, rfl⟩
    obtain ⟨k, i2, hgi, hik, rfl, HALL, hsp, hbel⟩ := hrel
    clear HS2 HB2
    have HS3 := Lib.hid hsp
    have HB3 := Lib.hid hbel
    obtain ⟨w3, hw3⟩ : ∃ w3, w3 = wr := ⟨_, rfl⟩
    obtain rfl := hw3
    have hg3 : B ≤ w3.heap.size := Nat.le_trans hB hbel.size
    obtain ⟨na, nc, rfl, -, -⟩ := Sep.intsShape (A := []) hsp
    clear hsp hbel
    have hnq := HNQ.out
    have hAT : ∀ (j : Nat) z, (w0 :: wt)[j]? = some z → ∃ g off, so = some ⟨g, off, none⟩ ∧ g < w3.heap.size ∧ w3.cell? ⟨g, off + j, none⟩ = some (.string (bytesOf z)) := by
      have h1 := HS3.out
      rw [HN1.out] at h1
      exact strAt (A := [_]) h1
    by_cases hlt : k < q
    · obtain ⟨z, hz⟩ : ∃ z, wt[k]? = some z := ⟨_, List.getElem?_eq_getElem (by rw [← HQ.out]; exact hlt)⟩
      have hzm : z ∈ wt := List.mem_iff_getElem?.2 ⟨k, hz⟩
      obtain ⟨g, off, rfl, -, hcz⟩ := hAT i2 z (by rw [hik, List.getElem?_cons_succ, hz])
      have hin : (i2 : Int) < (n1 : Int) := by omega
      have hind : decide ((i2 : Int) < (n1 : Int)) = true := decide_eq_true hin
      have hi20 : (0 : Int) ≤ (i2 : Int) := by omega
      have hi2b : (i2 : Int) ≤ 20000 := by omega
      have HNUM2 := Lib.hid (refNum_any z w3 (HCL.out z hzm))
      obtain ⟨zv, hzv⟩ : ∃ zv, zv = numV z := ⟨_, rfl⟩
      have htk : (wt.take (k + 1)).map numV = (wt.take k).map numV ++ [zv] := by rw [List.take_add_one, hz, List.map_append, hzv]; rfl
      have hlj : ((wt.take k).map numV).length ≤ 100000 := by rw [List.length_map, List.length_take]; omega
      have hzsz : (bytesOf z).size = z.length := rfl
      have HZV := Lib.hid hzv
      have HTK := Lib.hid htk
      have HZ := Lib.hid (And.intro hz hzm)
      have HKI := Lib.hid (And.intro hgi (And.intro hik hlt))
      have HNO := Lib.hid (fun (hn : numW z = false) => (show ansD (L, tx, m) l = ((L, tx, m), badT) by rw [HANS.out]; exact verb_num (words_no HZ.out.2 hn)))
      have HAL0 := Lib.hid (fun (hn : numW z = true) => (show ∀ z' ∈ wt.take (k + 1), numW z' = true from fun z' hz' => by
        rw [List.take_add_one, HZ.out.1] at hz'
        rcases List.mem_append.1 hz' with h | h
        · exact HALL.out z' h
        · rw [show z' = z by simpa using h]; exact hn))
      clear hAT hz hzm hzv htk hgi hik hnq hlt HALL
      by_cases hox : numOk z = true
      · have HOX := Lib.hid hox
        by_cases h7 : 7 < z.length
        · have hd7 : decide ((7 : Int) < (z.length : Int)) = true := decide_eq_true (by omega)
          have hd7n : decide (7 < z.length) = true := decide_eq_true h7
          have HLD := Lib.hid (HNO.out (by unfold numW; rw [decide_eq_false (show ¬ z.length ≤ 7 by omega), Bool.and_false]))
          have HS4 := Lib.hid (HS3.out.sub ((List.sublist_cons_self _ _).trans (List.sublist_cons_self _ _)))
          have HB4 := Lib.hid HB3.out
          clear hox h7
          go_wp2_with fail
          refine HNUM2.out.mono ?_
          rintro e w' ⟨⟨nv, rfl, hnv2⟩, hw⟩
          rw [← hw]
          rw [HOX.out]
          clear hw HNUM2 hnv2
          obtain ⟨wf, hwf, he1, he2, k0, k1, k2⟩ := liE_end (.slice ao L.length cap) (.string s) (.int .i64 (m : Int)) HS4.out HB4.out
          have HE1 := Lib.hid he1
          have HE2 := Lib.hid he2
          have HWF := Lib.hid hwf
          rw [hwf] at k0 k1 k2
          obtain ⟨⟨b0, b1, b2⟩, ⟨s0, s1, s2⟩, ⟨f0, f1, f2⟩, hgz⟩ := liE_cells HS4.out
          clear he1 he2 hwf
          go_wp2
          try simp only [Exit.inBlock, Exit.then]
          refine bodyPost_ret (v := .tuple #[.agg #[.slice ao L.length cap, .string s, .int .i64 (m : Int)], .string ⟨#[98, 97, 100]⟩]) (by simp [results, Tryz.results52, go_sem, k0, k1, k2]) rfl ?_
          rw [← HWF.out, HLD.out]
          exact ⟨_, by rw [HSS.out]; rfl, HE1.out, HE2.out⟩
        · have hd7 : decide ((7 : Int) < (z.length : Int)) = false := decide_eq_false (by omega)
          have hd7n : decide (7 < z.length) = false := decide_eq_false h7
          have HAL2 := Lib.hid (HAL0.out (by unfold numW; rw [hox, decide_eq_true (show z.length ≤ 7 by omega)]; rfl))
          obtain ⟨xs, hxs⟩ : ∃ xs, xs = (wt.take k).map numV := ⟨_, rfl⟩
          rw [← hxs] at HS3 HTK hlj ⊢
          clear hox hxs h7
          go_wp2_with fail
          refine HNUM2.out.mono ?_
          rintro e w' ⟨⟨nv, rfl, hnv2⟩, hw⟩
          rw [← hw]
          have hnv3 := hnv2 HOX.out
          rw [← HZV.out] at hnv3
          rw [HOX.out]
          subst hnv3
          clear hw HNUM2 hnv2
          go_wp2_with (at_builtin; refine wpList_append_int rfl (.tmp 49) (.tmp 51) rfl elemIntL (A := []) rfl HS3.out hg3 rfl (by omega) ?_)
          intro v' w7 hs hb
          have HS7 := Lib.hid hs
          have HB7 := Lib.hid (HB3.out.trans hb)
          clear hs hb HS3 HB3 hg3 hcz
          go_wp2
          go_roundg (gi - 1)
          case measure => have := HKI.out; omega
          case rel => exact ⟨k + 1, i2 + 1, by have := HKI.out; omega, by have := HKI.out; omega, by go_num, HAL2.out, by rw [HTK.out]; exact HS7.out, HB7.out⟩
      · have hox' : numOk z = false := by simpa using hox
        have HOX := Lib.hid hox'
        have HLD := Lib.hid (HNO.out (by unfold numW; rw [hox']; rfl))
        have HS4 := Lib.hid (HS3.out.sub ((List.sublist_cons_self _ _).trans (List.sublist_cons_self _ _)))
        have HB4 := Lib.hid HB3.out
        clear hox hox'
        go_wp2_with fail
        refine HNUM2.out.mono ?_
        rintro e w' ⟨⟨nv, rfl, hnv2⟩, hw⟩
        rw [← hw]
        rw [HOX.out]
        clear hw HNUM2 hnv2 hcz
        obtain ⟨wf, hwf, he1, he2, k0, k1, k2⟩ := liE_end (.slice ao L.length cap) (.string s) (.int .i64 (m : Int)) HS4.out HB4.out
        have HE1 := Lib.hid he1
        have HE2 := Lib.hid he2
        have HWF := Lib.hid hwf
        rw [hwf] at k0 k1 k2
        obtain ⟨⟨b0, b1, b2⟩, ⟨s0, s1, s2⟩, ⟨f0, f1, f2⟩, hgz⟩ := liE_cells HS4.out
        clear he1 he2 hwf
        go_wp2
        try simp only [Exit.inBlock, Exit.then]
        refine bodyPost_ret (v := .tuple #[.agg #[.slice ao L.length cap, .string s, .int .i64 (m : Int)], .string ⟨#[98, 97, 100]⟩]) (by simp [results, Tryz.results52, go_sem, k0, k1, k2]) rfl ?_
        rw [← HWF.out, HLD.out]
        exact ⟨_, by rw [HSS.out]; rfl, HE1.out, HE2.out⟩
    · obtain rfl : k = q := by omega
      obtain rfl : i2 = n1 := by omega
      have hin : decide ((i2 : Int) < (i2 : Int)) = false := by simp
      have hwl : wt.length = k := HQ.out.symm
      have htk : wt.take k = wt := List.take_of_length_le (by omega)
      rw [htk] at HALL HS3
      have hall : wt.all numW = true := List.all_eq_true.2 fun z hz => HALL.out z hz
      obtain ⟨g, off, rfl, -, hc0'⟩ := hAT 0 w0 rfl
      have hc0 : w3.cell? ⟨g, off, none⟩ = some (.string (bytesOf w0)) := hc0'
      have hn1p : (0 : Int) < (i2 : Int) := by omega
      have hnl : (wt.map numV).length = k := by rw [List.length_map, hwl]
      have hnl0 : ((wt.take k).map numV).length = k := by rw [htk, List.length_map, hwl]
      rw [hnl] at HS3
      rw [hnl0]
      have HALL2 := Lib.hid hall
      clear htk hnl hnl0 hall HALL hlt hAT hc0' hgi hik hnq
      by_cases h3 : k = 1
      rotate_left
      · have hj3 : ((k : Int) == 1) = false := beq_eq_false_iff_ne.2 (by omega)
        have hj3' : (k == 1) = false := beq_eq_false_iff_ne.2 h3
        have HLD := Lib.hid (show ansD (L, tx, m) l = ((L, tx, m), badT) by rw [HANS.out]; exact verb_bad (.inr (.inr (.inl ⟨HV0.out, rfl⟩))) (.inr (by rw [hwl]; exact h3)))
        clear h3
        have HS4 := Lib.hid (HS3.out.sub ((List.sublist_cons_self _ _).trans (List.sublist_cons_self _ _)))
        have HB4 := Lib.hid HB3.out
        clear hwl
        obtain ⟨wf, hwf, he1, he2, k0, k1, k2⟩ := liE_end (.slice ao L.length cap) (.string s) (.int .i64 (m : Int)) HS4.out HB4.out
        have HE1 := Lib.hid he1
        have HE2 := Lib.hid he2
        have HWF := Lib.hid hwf
        rw [hwf] at k0 k1 k2
        obtain ⟨⟨b0, b1, b2⟩, ⟨s0, s1, s2⟩, ⟨f0, f1, f2⟩, hgz⟩ := liE_cells HS4.out
        clear he1 he2 hwf
        go_wp2
        try simp only [Exit.inBlock, Exit.then]
        refine bodyPost_ret (v := .tuple #[.agg #[.slice ao L.length cap, .string s, .int .i64 (m : Int)], .string ⟨#[98, 97, 100]⟩]) (by simp [results, Tryz.results52, go_sem, k0, k1, k2]) rfl ?_
        rw [← HWF.out, HLD.out]
        exact ⟨_, by rw [HSS.out]; rfl, HE1.out, HE2.out⟩
      obtain ⟨za, rfl⟩ : ∃ a, wt = [a] := by
        match wt, hwl.trans h3 with
        | [a], _ => exact ⟨a, rfl⟩
      subst h3
      have hld : ansD (L, tx, m) l = ((L, tx, m), findA (L, tx, m) (numV za)) := by
        rw [HANS.out, HV0.out]
        unfold verbD
        rw [if_neg (by rw [HALL2.out]; decide), if_neg (fun k => absurd k.1 (by decide)), if_neg (fun k => absurd k.1 (by decide)), if_pos ⟨rfl, rfl⟩]
        rfl
      have hnat := findR_all HFB.out.all (numV za)
      obtain ⟨R, hR⟩ : ∃ R, R = findR L (numV za) := ⟨_, rfl⟩
      have hfa : findA (L, tx, m) (numV za) = if R.2.2 = 0 then Lib.decDigits R.1.toNat ++ 32 :: Lib.decDigits R.2.1.toNat else errT R.2.2 := by rw [hR]; rfl
      simp only at hnat
      rw [← hR] at hnat
      have HR := Lib.hid hR
      have HLD0 := Lib.hid hld
      have HFA := Lib.hid hfa
      obtain ⟨gn, on, rfl, -, -⟩ := Sep.intSl (A := []) (show Sep B w3 (Ent.ints 3 (.slice na [numV za].length nc) [numV za] :: _) from HS3.out) 0 _ rfl
      clear hwl hR hld hfa
      have hstat : ∀ w', Sep B w' (Ent.ints 3 (.slice (some ⟨gn, on, none⟩) [numV za].length nc) [numV za] :: strE (.slice (some ⟨g, off, none⟩) i2 sc) (w0 :: [za]) :: liE gr gb (.slice ao L.length cap) s (m : Int) L F) → w'.cell? ⟨gb, 0, none⟩ = some (.slice ao L.length cap) ∧ w'.cell? ⟨gn, on, none⟩ = some (.int .i64 (numV za)) := fun w' h => by
        have his := Sep.intSl (A := []) h
        obtain ⟨_, _, he, _, r0⟩ := his 0 _ rfl
        cases he
        exact ⟨(Sep.blkAt (A := [_, _, _, _]) h (j := 0) rfl).1, r0⟩
      have HSTAT := Lib.hid hstat
      clear hstat
      go_upto_region 17 with fail
      clear x1 x2 x4 x5 y1 y2 y4 y5
      obtain ⟨w4, hw4⟩ : ∃ w4, w4 = w3.drew := ⟨_, rfl⟩
      have HS4 := Lib.hid (show Sep B w4 _ by rw [hw4]; exact HS3.out.drew)
      have HB4 := Lib.hid (show Below B w w4 by rw [hw4]; exact HB3.out.drew)
      have hg4 : B ≤ w4.heap.size := Nat.le_trans hB HB4.out.size
      have HST4 := Lib.hid (HSTAT.out w4 HS4.out)
      clear hc0
      refine wp_region_held_drew (S := fun w' => w'.cell? ⟨gb, 0, none⟩ = some (.slice ao L.length cap) ∧ w'.cell? ⟨gn, on, none⟩ = some (.int .i64 (numV za))) (by kernel_rfl) (by simp only [← hw4]; exact HST4.out) (fun hHeld => ?_)
      rw [← hw4] at hHeld ⊢
      clear hw4 HS3 HB3 HST4
      refine wpAnyH_take (i := 0) (v := ?va0) rfl (by kernel_rfl) (by kernel_rfl) (by kernel_rfl) (fun _ _ _ h => h) (Or.inl ⟨by rfl, ?hya0⟩) (by assumption) ?resta0
      case hya0 =>
        intro w hSw
        try dsimp only at hSw
        go_simp
        try with_reducible rfl
      try simp only [Act.put, List.setIfInBounds_toArray, List.set_cons_zero, List.set_cons_succ, List.getElem_toArray, List.getElem_cons_zero]
      refine wpAnyH_take (i := 1) (v := ?va1) rfl (by kernel_rfl) (by kernel_rfl) (by kernel_rfl) (fun _ _ _ h => h) (Or.inl ⟨by rfl, ?hya1⟩) (by assumption) ?resta1
      case hya1 =>
        intro w hSw
        try dsimp only at hSw
        go_simp
        try rw [if_neg kk0]
        try rw [if_neg kk1]
        try with_reducible rfl
      try simp only [Act.put, List.setIfInBounds_toArray, List.set_cons_zero, List.set_cons_succ, List.getElem_toArray, List.getElem_cons_zero, List.getElem_cons_succ]
      refine wpAnyH_take (i := 2) (v := ?va2) rfl (by kernel_rfl) (by kernel_rfl) (by kernel_rfl) (fun _ _ _ h => h) (Or.inl ⟨by rfl, ?hya2⟩) (by assumption) ?resta2
      case hya2 =>
        intro w hSw
        try dsimp only at hSw
        go_simp
        try rw [if_neg kk0]
        try rw [if_neg kk1]
        try with_reducible rfl
      try simp only [Act.put, List.setIfInBounds_toArray, List.set_cons_zero, List.set_cons_succ, List.getElem_toArray, List.getElem_cons_zero, List.getElem_cons_succ]
      refine wpAnyH_take (i := 3) (v := ?va3) rfl (by kernel_rfl) (by kernel_rfl) (by kernel_rfl) (fun _ _ _ h => h) (Or.inl ⟨by rfl, ?hya3⟩) (by assumption) ?resta3
      case hya3 =>
        intro w hSw
        try dsimp only at hSw
        go_simp
        try rw [if_neg kk0]
        try rw [if_neg kk1]
        try with_reducible rfl
      try simp only [Act.put, List.setIfInBounds_toArray, List.set_cons_zero, List.set_cons_succ, List.getElem_toArray, List.getElem_cons_zero, List.getElem_cons_succ]
      refine wpAnyH_take (i := 4) (v := ?va4) rfl (by kernel_rfl) (by kernel_rfl) (by kernel_rfl) (fun _ _ _ h => h) (Or.inl ⟨by rfl, ?hya4⟩) (by assumption) ?resta4
      case hya4 =>
        intro w hSw
        try dsimp only at hSw
        go_simp
        try rw [if_neg kk0]
        try rw [if_neg kk1]
        try with_reducible rfl
      try simp only [Act.put, List.setIfInBounds_toArray, List.set_cons_zero, List.set_cons_succ, List.getElem_toArray, List.getElem_cons_zero, List.getElem_cons_succ]
      have hrs := Sep.rteSl (A := [_, _]) HS4.out
      have HCALL := Lib.hid (rtFind_any w4.heap.size ao cap L (numV za) w4 hrs (Nat.le_refl _) (Nat.le_trans HFB.out.all.1 (by decide)) (fun x hx => (HFB.out.all.2.2 x hx).1) HFB.out.1)
      clear hrs
      refine wpAnyH_ready (rs := [5]) (by kernel_rfl) (by simp) ?_
      refine AllReadyH.cons rfl (fun K hK => ?_) AllReadyH.nil
      go_simp
      go_at_call 82
      refine HCALL.out.mono ?_
      rintro e w5 ⟨rfl, hb5⟩
      rw [← HR.out]
      have HS5 := Lib.hid (HS4.out.kept hb5)
      have HB5 := Lib.hid (HB4.out.trans (hb5.mono hg4))
      have HST5 := Lib.hid (HSTAT.out w5 HS5.out)
      clear hb5 HS4 HB4 HCALL hg4
      go_wp2_with fail
      refine hK.out _ _ ?_ (fun hHeld5 => ?_)
      · exact HST5.out
      clear hK K
      try simp only [Act.put, List.setIfInBounds_toArray, List.set_cons_zero, List.set_cons_succ, List.getElem_toArray, List.getElem_cons_zero, List.getElem_cons_succ]
      refine wpAnyH_take (i := 6) (v := ?vb6) rfl (by kernel_rfl) (by kernel_rfl) (by kernel_rfl) (fun _ _ _ h => h) (Or.inl ⟨by rfl, ?hyb6⟩) (by assumption) ?restb6
      case hyb6 =>
        intro w hSw
        try dsimp only at hSw
        go_simp
        try rw [if_neg kk0]
        try rw [if_neg kk1]
        try with_reducible rfl
      try simp only [Act.put, List.setIfInBounds_toArray, List.set_cons_zero, List.set_cons_succ, List.getElem_toArray, List.getElem_cons_zero, List.getElem_cons_succ]
      refine wpAnyH_take (i := 7) (v := ?vb7) rfl (by kernel_rfl) (by kernel_rfl) (by kernel_rfl) (fun _ _ _ h => h) (Or.inl ⟨by rfl, ?hyb7⟩) (by assumption) ?restb7
      case hyb7 =>
        intro w hSw
        try dsimp only at hSw
        go_simp
        try rw [if_neg kk0]
        try rw [if_neg kk1]
        try with_reducible rfl
      try simp only [Act.put, List.setIfInBounds_toArray, List.set_cons_zero, List.set_cons_succ, List.getElem_toArray, List.getElem_cons_zero, List.getElem_cons_succ]
      refine wpAnyH_take (i := 8) (v := ?vb8) rfl (by kernel_rfl) (by kernel_rfl) (by kernel_rfl) (fun _ _ _ h => h) (Or.inl ⟨by rfl, ?hyb8⟩) (by assumption) ?restb8
      case hyb8 =>
        intro w hSw
        try dsimp only at hSw
        go_simp
        try rw [if_neg kk0]
        try rw [if_neg kk1]
        try with_reducible rfl
      try simp only [Act.put, List.setIfInBounds_toArray, List.set_cons_zero, List.set_cons_succ, List.getElem_toArray, List.getElem_cons_zero, List.getElem_cons_succ]
      refine wpAnyH_take (i := 9) (v := ?vb9) rfl (by kernel_rfl) (by kernel_rfl) (by kernel_rfl) (fun _ _ _ h => h) (Or.inl ⟨by rfl, ?hyb9⟩) (by assumption) ?restb9
      case hyb9 =>
        intro w hSw
        try dsimp only at hSw
        go_simp
        try rw [if_neg kk0]
        try rw [if_neg kk1]
        try with_reducible rfl
      try simp only [Act.put, List.setIfInBounds_toArray, List.set_cons_zero, List.set_cons_succ, List.getElem_toArray, List.getElem_cons_zero, List.getElem_cons_succ]
      refine wpAnyH_take (i := 10) (v := ?vb10) rfl (by kernel_rfl) (by kernel_rfl) (by kernel_rfl) (fun _ _ _ h => h) (Or.inl ⟨by rfl, ?hyb10⟩) (by assumption) ?restb10
      case hyb10 =>
        intro w hSw
        try dsimp only at hSw
        go_simp
        try rw [if_neg kk0]
        try rw [if_neg kk1]
        try with_reducible rfl
      try simp only [Act.put, List.setIfInBounds_toArray, List.set_cons_zero, List.set_cons_succ, List.getElem_toArray, List.getElem_cons_zero, List.getElem_cons_succ]
      refine wpAnyH_take (i := 11) (v := ?vb11) rfl (by kernel_rfl) (by kernel_rfl) (by kernel_rfl) (fun _ _ _ h => h) (Or.inl ⟨by rfl, ?hyb11⟩) (by assumption) ?restb11
      case hyb11 =>
        intro w hSw
        try dsimp only at hSw
        go_simp
        try rw [if_neg kk0]
        try rw [if_neg kk1]
        try with_reducible rfl
      try simp only [Act.put, List.setIfInBounds_toArray, List.set_cons_zero, List.set_cons_succ, List.getElem_toArray, List.getElem_cons_zero, List.getElem_cons_succ]
      refine wpAnyH_take (i := 12) (v := ?vb12) rfl (by kernel_rfl) (by kernel_rfl) (by kernel_rfl) (fun _ _ _ h => h) (Or.inl ⟨by rfl, ?hyb12⟩) (by assumption) ?restb12
      case hyb12 =>
        intro w hSw
        try dsimp only at hSw
        go_simp
        try rw [if_neg kk0]
        try rw [if_neg kk1]
        try with_reducible rfl
      try simp only [Act.put, List.setIfInBounds_toArray, List.set_cons_zero, List.set_cons_succ, List.getElem_toArray, List.getElem_cons_zero, List.getElem_cons_succ]
      refine wpAnyH_done (by kernel_rfl) ?_ _
      clear HST5
      by_cases hz : R.2.2 = 0
      · obtain ⟨p, kk, rfl, hp, hk⟩ := hnat hz
        have HLD := Lib.hid (show ansD (L, tx, m) l = ((L, tx, m), Lib.decDigits p ++ 32 :: Lib.decDigits kk) by rw [HLD0.out]; exact congrArg _ HFA.out)
        clear hnat hz HFA HLD0
        obtain ⟨d1, e1, z1⟩ : ∃ d1, d1 = digS p ∧ d1.size ≤ 25 := ⟨_, rfl, digS_size p (by omega)⟩
        obtain ⟨d2, e2, z2⟩ : ∃ d2, d2 = digS kk ∧ d2.size ≤ 25 := ⟨_, rfl, digS_size kk (by omega)⟩
        have HD1 := Lib.hid (fun (w1 : World) => refDigits_any p w1 (by omega))
        have HD2 := Lib.hid (fun (w1 : World) => refDigits_any kk w1 (by omega))
        rw [← e1] at HD1
        rw [← e2] at HD2
        have HCAT := Lib.hid (show d1 ++ ⟨#[32]⟩ ++ d2 = bytesOf (Lib.decDigits p ++ 32 :: Lib.decDigits kk) by
          rw [e1, e2]
          apply ByteArray.ext
          simp [bytesOf, digS, ByteArray.data_append])
        have kk0 : ¬ 9223372036854775807 < d1.size + 1 := by omega
        have kk1 : ¬ 9223372036854775807 < d1.size + 1 + d2.size := by omega
        clear e1 e2 hp hk
        dsimp only
        go_upto_region 20 with fail
        obtain ⟨w8, hw8⟩ : ∃ w8, w8 = w5.drew := ⟨_, rfl⟩
        have HS8 := Lib.hid (show Sep B w8 _ by rw [hw8]; exact HS5.out.drew)
        have HB8 := Lib.hid (show Below B w w8 by rw [hw8]; exact HB5.out.drew)
        have HST8 := Lib.hid (show (fun (w' : World) => w'.cell? ⟨gb, 0, none⟩ = some (.slice ao L.length cap) ∧ w'.cell? ⟨gb, 1, none⟩ = some (.string s) ∧ w'.cell? ⟨gb, 2, none⟩ = some (.int .i64 (m : Int))) w8 from ⟨(Sep.blkAt (A := [_, _, _, _]) HS8.out (j := 0) rfl).1, (Sep.blkAt (A := [_, _, _, _]) HS8.out (j := 1) rfl).1, (Sep.blkAt (A := [_, _, _, _]) HS8.out (j := 2) rfl).1⟩)
        refine wp_region_held_drew (S := (fun (w' : World) => w'.cell? ⟨gb, 0, none⟩ = some (.slice ao L.length cap) ∧ w'.cell? ⟨gb, 1, none⟩ = some (.string s) ∧ w'.cell? ⟨gb, 2, none⟩ = some (.int .i64 (m : Int)))) (by kernel_rfl) (by simp only [← hw8]; exact HST8.out) (fun hHeld => ?_)
        rw [← hw8] at hHeld ⊢
        clear hw8 HS5 HB5
        refine wpAnyH_take (i := 0) (v := ?vf0) rfl (by kernel_rfl) (by kernel_rfl) (by kernel_rfl) (fun _ _ _ h => h) (Or.inl ⟨by rfl, ?hyf0⟩) (by assumption) ?restf0
        case hyf0 =>
          intro w hSw
          try dsimp only at hSw
          go_simp
          try with_reducible rfl
        try simp only [Act.put, List.setIfInBounds_toArray, List.set_cons_zero, List.set_cons_succ, List.getElem_toArray, List.getElem_cons_zero]
        refine wpAnyH_take (i := 1) (v := ?vf1) rfl (by kernel_rfl) (by kernel_rfl) (by kernel_rfl) (fun _ _ _ h => h) (Or.inl ⟨by rfl, ?hyf1⟩) (by assumption) ?restf1
        case hyf1 =>
          intro w hSw
          try dsimp only at hSw
          go_simp
          try rw [if_neg kk0]
          try rw [if_neg kk1]
          try with_reducible rfl
        try simp only [Act.put, List.setIfInBounds_toArray, List.set_cons_zero, List.set_cons_succ, List.getElem_toArray, List.getElem_cons_zero, List.getElem_cons_succ]
        refine wpAnyH_take (i := 4) (v := ?vf4) rfl (by kernel_rfl) (by kernel_rfl) (by kernel_rfl) (fun _ _ _ h => h) (Or.inl ⟨by rfl, ?hyf4⟩) (by assumption) ?restf4
        case hyf4 =>
          intro w hSw
          try dsimp only at hSw
          go_simp
          try rw [if_neg kk0]
          try rw [if_neg kk1]
          try with_reducible rfl
        try simp only [Act.put, List.setIfInBounds_toArray, List.set_cons_zero, List.set_cons_succ, List.getElem_toArray, List.getElem_cons_zero, List.getElem_cons_succ]
        refine wpAnyH_ready (rs := [2]) (by kernel_rfl) (by simp) ?_
        refine AllReadyH.cons rfl (fun K hK => ?_) AllReadyH.nil
        go_simp
        go_at_call 27
        refine (HD1.out w8).mono ?_
        rintro e w' ⟨rfl, hw⟩
        rw [← hw]
        clear hw
        go_wp2_with fail
        refine hK.out _ _ ?_ (fun hHeld2 => ?_)
        · exact HST8.out
        clear hK K
        try simp only [Act.put, List.setIfInBounds_toArray, List.set_cons_zero, List.set_cons_succ, List.getElem_toArray, List.getElem_cons_zero, List.getElem_cons_succ]
        refine wpAnyH_take (i := 3) (v := ?vf3) rfl (by kernel_rfl) (by kernel_rfl) (by kernel_rfl) (fun _ _ _ h => h) (Or.inl ⟨by rfl, ?hyf3⟩) (by assumption) ?restf3
        case hyf3 =>
          intro w hSw
          try dsimp only at hSw
          go_simp
          try rw [if_neg kk0]
          try rw [if_neg kk1]
          try with_reducible rfl
        try simp only [Act.put, List.setIfInBounds_toArray, List.set_cons_zero, List.set_cons_succ, List.getElem_toArray, List.getElem_cons_zero, List.getElem_cons_succ]
        refine wpAnyH_ready (rs := [5]) (by kernel_rfl) (by simp) ?_
        refine AllReadyH.cons rfl (fun K hK => ?_) AllReadyH.nil
        go_simp
        go_at_call 27
        refine (HD2.out w8).mono ?_
        rintro e w' ⟨rfl, hw⟩
        rw [← hw]
        clear hw
        go_wp2_with fail
        refine hK.out _ _ ?_ (fun hHeld5 => ?_)
        · exact HST8.out
        clear hK K
        try simp only [Act.put, List.setIfInBounds_toArray, List.set_cons_zero, List.set_cons_succ, List.getElem_toArray, List.getElem_cons_zero, List.getElem_cons_succ]
        refine wpAnyH_take (i := 6) (v := ?vf6) rfl (by kernel_rfl) (by kernel_rfl) (by kernel_rfl) (fun _ _ _ h => h) (Or.inl ⟨by rfl, ?hyf6⟩) (by assumption) ?restf6
        case hyf6 =>
          intro w hSw
          try dsimp only at hSw
          go_simp
          try rw [if_neg kk0]
          try rw [if_neg kk1]
          try with_reducible rfl
        try simp only [Act.put, List.setIfInBounds_toArray, List.set_cons_zero, List.set_cons_succ, List.getElem_toArray, List.getElem_cons_zero, List.getElem_cons_succ]
        clear kk0 kk1
        obtain ⟨s0, f0⟩ := Sep.blkAt (A := [_, _, _]) HS8.out (j := 0) rfl
        obtain ⟨s1, f1⟩ := Sep.blkAt (A := [_, _, _]) HS8.out (j := 1) rfl
        obtain ⟨s2, f2⟩ := Sep.blkAt (A := [_, _, _]) HS8.out (j := 2) rfl
        have hl8 := (Sep.blkLt (A := [_, _, _]) HS8.out).1
        have q1 := Sep.blkSet (A := [_, _, _]) HS8.out 0 (.slice ao L.length cap)
        have q2 := Sep.blkSet (A := [_, _, _]) q1 1 (.string s)
        have q3 := Sep.blkSet (A := [_, _, _]) q2 2 (.int .i64 (m : Int))
        have hb9 := ((HB8.out.setCell (p := ⟨gr, 0, none⟩) hl8 (.slice ao L.length cap)).setCell (p := ⟨gr, 1, none⟩) hl8 (.string s)).setCell (p := ⟨gr, 2, none⟩) hl8 (.int .i64 (m : Int))
        have K5 := Lib.hid (Sep.blkAt (A := [_, _, _]) q3 (j := 0) rfl).1
        have K6 := Lib.hid (Sep.blkAt (A := [_, _, _]) q3 (j := 1) rfl).1
        have K7 := Lib.hid (Sep.blkAt (A := [_, _, _]) q3 (j := 2) rfl).1
        have HST9 := Lib.hid (show (fun (w' : World) => w'.cell? ⟨gb, 0, none⟩ = some (.slice ao L.length cap) ∧ w'.cell? ⟨gb, 1, none⟩ = some (.string s) ∧ w'.cell? ⟨gb, 2, none⟩ = some (.int .i64 (m : Int))) _ from ⟨(Sep.blkAt (A := [_, _, _, _]) q3 (j := 0) rfl).1, (Sep.blkAt (A := [_, _, _, _]) q3 (j := 1) rfl).1, (Sep.blkAt (A := [_, _, _, _]) q3 (j := 2) rfl).1⟩)
        have HE1 := Lib.hid (q3.sub (List.Sublist.cons _ (List.Sublist.cons _ (List.Sublist.cons_cons _ (List.Sublist.cons _ (List.Sublist.cons _ (List.Sublist.refl _)))))))
        have HE2 := Lib.hid hb9
        clear q1 q2 q3 hb9 hl8
        refine wpAnyH_ready (rs := [7]) (by kernel_rfl) (by simp) ?_
        refine AllReadyH.cons rfl (fun K hK => ?_) AllReadyH.nil
        go_simp
        go_wp2_with fail
        refine hK.out _ _ ?_ (fun hHeld7 => ?_)
        · exact HST9.out
        clear hK K
        try simp only [Act.put, List.setIfInBounds_toArray, List.set_cons_zero, List.set_cons_succ, List.getElem_toArray, List.getElem_cons_zero, List.getElem_cons_succ]
        refine wpAnyH_take (i := 8) (v := ?vfz8) rfl (by kernel_rfl) (by kernel_rfl) (by kernel_rfl) (fun _ _ _ h => h) (Or.inl ⟨by rfl, ?hyfz8⟩) (by assumption) ?restfz8
        case hyfz8 =>
          intro w hSw
          try dsimp only at hSw
          go_simp
          try rw [if_neg kk0]
          try rw [if_neg kk1]
          try with_reducible rfl
        try simp only [Act.put, List.setIfInBounds_toArray, List.set_cons_zero, List.set_cons_succ, List.getElem_toArray, List.getElem_cons_zero, List.getElem_cons_succ]
        refine wpAnyH_done (by kernel_rfl) ?_ _
        clear s0 s1 s2 f0 f1 f2
        have k5 := K5.out
        have k6 := K6.out
        have k7 := K7.out
        go_wp2
        try simp only [Exit.inBlock, Exit.then]
        refine bodyPost_ret (v := .tuple #[.agg #[(.slice ao L.length cap), (.string s), (.int .i64 (m : Int))], .string (d1 ++ ⟨#[32]⟩ ++ d2)]) (by simp [results, Tryz.results52, go_sem, k5, k6, k7]) rfl ?_
        rw [HLD.out, HCAT.out]
        exact ⟨_, by rw [HSS.out], HE1.out, HE2.out⟩
      · have HLD := Lib.hid (show ansD (L, tx, m) l = ((L, tx, m), errT R.2.2) by rw [HLD0.out, HFA.out, if_neg hz])
        obtain ⟨c, hc⟩ : ∃ c, c = R.2.2 := ⟨_, rfl⟩
        rw [← hc] at hz HLD ⊢
        have hcb : (c != 0) = true := bne_iff_ne.2 hz
        clear hnat hz HFA HLD0 hc
        go_upto_region 19 with fail
        obtain ⟨w8, hw8⟩ : ∃ w8, w8 = w5.drew := ⟨_, rfl⟩
        have HS8 := Lib.hid (show Sep B w8 _ by rw [hw8]; exact HS5.out.drew)
        have HB8 := Lib.hid (show Below B w w8 by rw [hw8]; exact HB5.out.drew)
        have HST8 := Lib.hid (show (fun (w' : World) => w'.cell? ⟨gb, 0, none⟩ = some (.slice ao L.length cap) ∧ w'.cell? ⟨gb, 1, none⟩ = some (.string s) ∧ w'.cell? ⟨gb, 2, none⟩ = some (.int .i64 (m : Int))) w8 from ⟨(Sep.blkAt (A := [_, _, _, _]) HS8.out (j := 0) rfl).1, (Sep.blkAt (A := [_, _, _, _]) HS8.out (j := 1) rfl).1, (Sep.blkAt (A := [_, _, _, _]) HS8.out (j := 2) rfl).1⟩)
        refine wp_region_held_drew (S := (fun (w' : World) => w'.cell? ⟨gb, 0, none⟩ = some (.slice ao L.length cap) ∧ w'.cell? ⟨gb, 1, none⟩ = some (.string s) ∧ w'.cell? ⟨gb, 2, none⟩ = some (.int .i64 (m : Int)))) (by kernel_rfl) (by simp only [← hw8]; exact HST8.out) (fun hHeld => ?_)
        rw [← hw8] at hHeld ⊢
        clear hw8 HS5 HB5
        refine wpAnyH_take (i := 0) (v := ?vg0) rfl (by kernel_rfl) (by kernel_rfl) (by kernel_rfl) (fun _ _ _ h => h) (Or.inl ⟨by rfl, ?hyg0⟩) (by assumption) ?restg0
        case hyg0 =>
          intro w hSw
          try dsimp only at hSw
          go_simp
          try with_reducible rfl
        try simp only [Act.put, List.setIfInBounds_toArray, List.set_cons_zero, List.set_cons_succ, List.getElem_toArray, List.getElem_cons_zero]
        refine wpAnyH_take (i := 1) (v := ?vg1) rfl (by kernel_rfl) (by kernel_rfl) (by kernel_rfl) (fun _ _ _ h => h) (Or.inl ⟨by rfl, ?hyg1⟩) (by assumption) ?restg1
        case hyg1 =>
          intro w hSw
          try dsimp only at hSw
          go_simp
          try rw [if_neg kk0]
          try rw [if_neg kk1]
          try with_reducible rfl
        try simp only [Act.put, List.setIfInBounds_toArray, List.set_cons_zero, List.set_cons_succ, List.getElem_toArray, List.getElem_cons_zero, List.getElem_cons_succ]
        refine wpAnyH_ready (rs := [2]) (by kernel_rfl) (by simp) ?_
        refine AllReadyH.cons rfl (fun K hK => ?_) AllReadyH.nil
        go_simp
        go_at_call 81
        refine (refCalled_any c w8).mono ?_
        rintro e w' ⟨rfl, hw⟩
        rw [hw]
        clear hw
        go_wp2_with fail
        refine hK.out _ _ ?_ (fun hHeld2 => ?_)
        · exact HST8.out
        clear hK K
        try simp only [Act.put, List.setIfInBounds_toArray, List.set_cons_zero, List.set_cons_succ, List.getElem_toArray, List.getElem_cons_zero, List.getElem_cons_succ]
        obtain ⟨s0, f0⟩ := Sep.blkAt (A := [_, _, _]) HS8.out (j := 0) rfl
        obtain ⟨s1, f1⟩ := Sep.blkAt (A := [_, _, _]) HS8.out (j := 1) rfl
        obtain ⟨s2, f2⟩ := Sep.blkAt (A := [_, _, _]) HS8.out (j := 2) rfl
        have hl8 := (Sep.blkLt (A := [_, _, _]) HS8.out).1
        have q1 := Sep.blkSet (A := [_, _, _]) HS8.out 0 (.slice ao L.length cap)
        have q2 := Sep.blkSet (A := [_, _, _]) q1 1 (.string s)
        have q3 := Sep.blkSet (A := [_, _, _]) q2 2 (.int .i64 (m : Int))
        have hb9 := ((HB8.out.setCell (p := ⟨gr, 0, none⟩) hl8 (.slice ao L.length cap)).setCell (p := ⟨gr, 1, none⟩) hl8 (.string s)).setCell (p := ⟨gr, 2, none⟩) hl8 (.int .i64 (m : Int))
        have K5 := Lib.hid (Sep.blkAt (A := [_, _, _]) q3 (j := 0) rfl).1
        have K6 := Lib.hid (Sep.blkAt (A := [_, _, _]) q3 (j := 1) rfl).1
        have K7 := Lib.hid (Sep.blkAt (A := [_, _, _]) q3 (j := 2) rfl).1
        have HST9 := Lib.hid (show (fun (w' : World) => w'.cell? ⟨gb, 0, none⟩ = some (.slice ao L.length cap) ∧ w'.cell? ⟨gb, 1, none⟩ = some (.string s) ∧ w'.cell? ⟨gb, 2, none⟩ = some (.int .i64 (m : Int))) _ from ⟨(Sep.blkAt (A := [_, _, _, _]) q3 (j := 0) rfl).1, (Sep.blkAt (A := [_, _, _, _]) q3 (j := 1) rfl).1, (Sep.blkAt (A := [_, _, _, _]) q3 (j := 2) rfl).1⟩)
        have HE1 := Lib.hid (q3.sub (List.Sublist.cons _ (List.Sublist.cons _ (List.Sublist.cons_cons _ (List.Sublist.cons _ (List.Sublist.cons _ (List.Sublist.refl _)))))))
        have HE2 := Lib.hid hb9
        clear q1 q2 q3 hb9 hl8
        refine wpAnyH_ready (rs := [3]) (by kernel_rfl) (by simp) ?_
        refine AllReadyH.cons rfl (fun K hK => ?_) AllReadyH.nil
        go_simp
        go_wp2_with fail
        refine hK.out _ _ ?_ (fun hHeld3 => ?_)
        · exact HST9.out
        clear hK K
        try simp only [Act.put, List.setIfInBounds_toArray, List.set_cons_zero, List.set_cons_succ, List.getElem_toArray, List.getElem_cons_zero, List.getElem_cons_succ]
        refine wpAnyH_take (i := 4) (v := ?vgz4) rfl (by kernel_rfl) (by kernel_rfl) (by kernel_rfl) (fun _ _ _ h => h) (Or.inl ⟨by rfl, ?hygz4⟩) (by assumption) ?restgz4
        case hygz4 =>
          intro w hSw
          try dsimp only at hSw
          go_simp
          try rw [if_neg kk0]
          try rw [if_neg kk1]
          try with_reducible rfl
        try simp only [Act.put, List.setIfInBounds_toArray, List.set_cons_zero, List.set_cons_succ, List.getElem_toArray, List.getElem_cons_zero, List.getElem_cons_succ]
        refine wpAnyH_done (by kernel_rfl) ?_ _
        clear s0 s1 s2 f0 f1 f2
        have k5 := K5.out
        have k6 := K6.out
        have k7 := K7.out
        go_wp2
        try simp only [Exit.inBlock, Exit.then]
        refine bodyPost_ret (v := .tuple #[.agg #[(.slice ao L.length cap), (.string s), (.int .i64 (m : Int))], .string (bytesOf (errT c))]) (by simp [results, Tryz.results52, go_sem, k5, k6, k7]) rfl ?_
        rw [HLD.out]
        exact ⟨_, by rw [HSS.out], HE1.out, HE2.out⟩
set_option maxHeartbeats 8000000 in
theorem refAns_many (B : Nat) (sp : Value) (s : ByteArray) (tx : List UInt8) (m : Nat) (L : List Rte) (F : List Ent) (l : List UInt8) (w0 : List UInt8) (wt : List (List UInt8)) (hws : cutL 32 l = w0 :: wt) (h0 : w0 = manyT) (w : World) (h : Sep B w (rteE sp L :: F)) (hB : B ≤ w.heap.size) (hl : l.length ≤ 10000) (hss : s = bkT tx) (hfb : FineB (L, tx, m)) :
    Calls Tryz.prog 52 #[.agg #[sp, .string s, .int .i64 (m : Int)], .string (bytesOf l)] w fun e w' => AnsEnd B F w (ansD (L, tx, m) l) e w' := by
  have x1 : (w0 == [115, 101, 116]) = false := by rw [h0]; decide
  have y1 : (w0.toArray == #[115, 101, 116]) = false := by rw [h0]; decide
  have x2 : (w0 == [100, 114, 111, 112]) = false := by rw [h0]; decide
  have y2 : (w0.toArray == #[100, 114, 111, 112]) = false := by rw [h0]; decide
  have x3 : (w0 == [102, 105, 110, 100]) = false := by rw [h0]; decide
  have y3 : (w0.toArray == #[102, 105, 110, 100]) = false := by rw [h0]; decide
  have x4 : (w0 == [109, 97, 110, 121]) = true := by rw [h0]; decide
  have y4 : (w0.toArray == #[109, 97, 110, 121]) = true := by rw [h0]; decide
  have x5 : (w0 == [99, 114, 97, 115, 104]) = false := by rw [h0]; decide
  have y5 : (w0.toArray == #[99, 114, 97, 115, 104]) = false := by rw [h0]; decide
  have HV0 := Lib.hid h0
  clear h0
  have HSS := Lib.hid hss
  have HFB := Lib.hid hfb
  have hcl := cutL_len 32 l
  have hcn := cutL_cnt 32 l
  rw [hws] at hcl hcn
  have HWS := Lib.hid hws
  have HANS := Lib.hid (ans_verb (b := (L, tx, m)) hws)
  have hcl2 : ∀ z ∈ wt, z.length ≤ 10000 := fun z hz => Nat.le_trans (hcl z (List.mem_cons_of_mem _ hz)) hl
  obtain ⟨q, hq⟩ : ∃ q, q = wt.length := ⟨_, rfl⟩
  obtain ⟨n1, hn1⟩ : ∃ n1, n1 = (w0 :: wt).length := ⟨_, rfl⟩
  have hnq : n1 = q + 1 := by rw [hn1, hq]; rfl
  have hq1 : q ≤ 10001 := by simp only [List.length_cons] at hcn; omega
  have HCL := Lib.hid hcl2
  have HQ := Lib.hid hq
  have HN1 := Lib.hid hn1
  have HNQ := Lib.hid hnq
  have HL10 := Lib.hid hl
  clear hss hfb hcl hcn hws hcl2 hq hn1 hnq
  obtain ⟨W, hW, hs0, hb0⟩ := liE_new (s := s) (m := (m : Int)) h hB
  obtain ⟨⟨ao, cap, rfl, hcap⟩⟩ : Nonempty _ := ⟨rte_shape (A := []) h⟩
  obtain ⟨gr, hgr⟩ : ∃ x, x = w.heap.size + 1 := ⟨_, rfl⟩
  obtain ⟨gb, hgb⟩ : ∃ x, x = w.heap.size := ⟨_, rfl⟩
  rw [← hgr, ← hgb] at hs0
  have HS1 := Lib.hid hs0
  have HB1 := Lib.hid hb0
  have HW := Lib.hid hW
  have HGR := Lib.hid hgr
  have HGB := Lib.hid hgb
  have hg1 : B ≤ W.heap.size := Nat.le_trans hB hb0.size
  have hcut : Calls Tryz.prog 46 #[.string (bytesOf l), .int .u8 32] W fun e w' => ∃ v, e = .returned v ∧ Sep B w' (strE v (cutL 32 l) :: liE gr gb (.slice ao L.length cap) s (m : Int) L F) ∧ Below B W w' := refCut_any B _ l 32 W hg1 HS1.out (by have := HL10.out; omega)
  rw [HWS.out] at hcut
  have HCUT := Lib.hid hcut
  clear h hs0 hb0 hW hgr hgb hcut hl
  go_enter Tryz.func52, Tryz.ntmps52
  go_upto_region 1 with fail
  rw [← HW.out, ← HGR.out, ← HGB.out]
  clear HW HGR HGB
  go_wp2_with fail
  refine HCUT.out.mono ?_
  rintro e w2 ⟨sv, rfl, hs2, hb2⟩
  obtain ⟨so, sc, rfl, -⟩ := strShape (A := []) hs2
  rw [← HN1.out] at hs2 ⊢
  have HS2 := Lib.hid (hs2.intsNil 3)
  have HB2 := Lib.hid (HB1.out.trans hb2)
  clear hs2 hb2 HS1 HB1 HCUT hg1
  go_wp2
  go_loopg [7, 8] q (fun gk lv iv wr => ∃ (k i : Nat), gk + k = q ∧ i = k + 1 ∧ iv = .int .i64 i ∧ Hid (∀ z ∈ wt.take k, numW z = true) ∧ Sep B wr (Ent.ints 3 lv ((wt.take k).map numV) :: strE (.slice so n1 sc) (w0 :: wt) :: liE gr gb (.slice ao L.length cap) s (m : Int) L F) ∧ Below B w wr)
  case atStart => exact ⟨0, 1, rfl, rfl, rfl, (fun z hz => by simp at hz), HS2.out, HB2.out⟩
  case round =>
    obtain ⟨gi, rfl⟩ : ∃ gi, gi = gk := ⟨_, rfl⟩
    obtain ⟨k, i2, hgi, hik, rfl, HALL, hsp, hbel⟩ := hrel
    clear HS2 HB2
    have HS3 := Lib.hid hsp
    have HB3 := Lib.hid hbel
    obtain ⟨w3, hw3⟩ : ∃ w3, w3 = wr := ⟨_, rfl⟩
    obtain rfl := hw3
    have hg3 : B ≤ w3.heap.size := Nat.le_trans hB hbel.size
    obtain ⟨na, nc, rfl, -, -⟩ := Sep.intsShape (A := []) hsp
    clear hsp hbel
    have hnq := HNQ.out
    have hAT : ∀ (j : Nat) z, (w0 :: wt)[j]? = some z → ∃ g off, so = some ⟨g, off, none⟩ ∧ g < w3.heap.size ∧ w3.cell? ⟨g, off + j, none⟩ = some (.string (bytesOf z)) := by
      have h1 := HS3.out
      rw [HN1.out] at h1
      exact strAt (A := [_]) h1
    by_cases hlt : k < q
    · obtain ⟨z, hz⟩ : ∃ z, wt[k]? = some z := ⟨_, List.getElem?_eq_getElem (by rw [← HQ.out]; exact hlt)⟩
      have hzm : z ∈ wt := List.mem_iff_getElem?.2 ⟨k, hz⟩
      obtain ⟨g, off, rfl, -, hcz⟩ := hAT i2 z (by rw [hik, List.getElem?_cons_succ, hz])
      have hin : (i2 : Int) < (n1 : Int) := by omega
      have hind : decide ((i2 : Int) < (n1 : Int)) = true := decide_eq_true hin
      have hi20 : (0 : Int) ≤ (i2 : Int) := by omega
      have hi2b : (i2 : Int) ≤ 20000 := by omega
      have HNUM2 := Lib.hid (refNum_any z w3 (HCL.out z hzm))
      obtain ⟨zv, hzv⟩ : ∃ zv, zv = numV z := ⟨_, rfl⟩
      have htk : (wt.take (k + 1)).map numV = (wt.take k).map numV ++ [zv] := by rw [List.take_add_one, hz, List.map_append, hzv]; rfl
      have hlj : ((wt.take k).map numV).length ≤ 100000 := by rw [List.length_map, List.length_take]; omega
      have hzsz : (bytesOf z).size = z.length := rfl
      have HZV := Lib.hid hzv
      have HTK := Lib.hid htk
      have HZ := Lib.hid (And.intro hz hzm)
      have HKI := Lib.hid (And.intro hgi (And.intro hik hlt))
      have HNO := Lib.hid (fun (hn : numW z = false) => (show ansD (L, tx, m) l = ((L, tx, m), badT) by rw [HANS.out]; exact verb_num (words_no HZ.out.2 hn)))
      have HAL0 := Lib.hid (fun (hn : numW z = true) => (show ∀ z' ∈ wt.take (k + 1), numW z' = true from fun z' hz' => by
        rw [List.take_add_one, HZ.out.1] at hz'
        rcases List.mem_append.1 hz' with h | h
        · exact HALL.out z' h
        · rw [show z' = z by simpa using h]; exact hn))
      clear hAT hz hzm hzv htk hgi hik hnq hlt HALL
      by_cases hox : numOk z = true
      · have HOX := Lib.hid hox
        by_cases h7 : 7 < z.length
        · have hd7 : decide ((7 : Int) < (z.length : Int)) = true := decide_eq_true (by omega)
          have hd7n : decide (7 < z.length) = true := decide_eq_true h7
          have HLD := Lib.hid (HNO.out (by unfold numW; rw [decide_eq_false (show ¬ z.length ≤ 7 by omega), Bool.and_false]))
          have HS4 := Lib.hid (HS3.out.sub ((List.sublist_cons_self _ _).trans (List.sublist_cons_self _ _)))
          have HB4 := Lib.hid HB3.out
          clear hox h7
          go_wp2_with fail
          refine HNUM2.out.mono ?_
          rintro e w' ⟨⟨nv, rfl, hnv2⟩, hw⟩
          rw [← hw]
          rw [HOX.out]
          clear hw HNUM2 hnv2
          obtain ⟨wf, hwf, he1, he2, k0, k1, k2⟩ := liE_end (.slice ao L.length cap) (.string s) (.int .i64 (m : Int)) HS4.out HB4.out
          have HE1 := Lib.hid he1
          have HE2 := Lib.hid he2
          have HWF := Lib.hid hwf
          rw [hwf] at k0 k1 k2
          obtain ⟨⟨b0, b1, b2⟩, ⟨s0, s1, s2⟩, ⟨f0, f1, f2⟩, hgz⟩ := liE_cells HS4.out
          clear he1 he2 hwf
          go_wp2
          try simp only [Exit.inBlock, Exit.then]
          refine bodyPost_ret (v := .tuple #[.agg #[.slice ao L.length cap, .string s, .int .i64 (m : Int)], .string ⟨#[98, 97, 100]⟩]) (by simp [results, Tryz.results52, go_sem, k0, k1, k2]) rfl ?_
          rw [← HWF.out, HLD.out]
          exact ⟨_, by rw [HSS.out]; rfl, HE1.out, HE2.out⟩
        · have hd7 : decide ((7 : Int) < (z.length : Int)) = false := decide_eq_false (by omega)
          have hd7n : decide (7 < z.length) = false := decide_eq_false h7
          have HAL2 := Lib.hid (HAL0.out (by unfold numW; rw [hox, decide_eq_true (show z.length ≤ 7 by omega)]; rfl))
          obtain ⟨xs, hxs⟩ : ∃ xs, xs = (wt.take k).map numV := ⟨_, rfl⟩
          rw [← hxs] at HS3 HTK hlj ⊢
          clear hox hxs h7
          go_wp2_with fail
          refine HNUM2.out.mono ?_
          rintro e w' ⟨⟨nv, rfl, hnv2⟩, hw⟩
          rw [← hw]
          have hnv3 := hnv2 HOX.out
          rw [← HZV.out] at hnv3
          rw [HOX.out]
          subst hnv3
          clear hw HNUM2 hnv2
          go_wp2_with (at_builtin; refine wpList_append_int rfl (.tmp 49) (.tmp 51) rfl elemIntL (A := []) rfl HS3.out hg3 rfl (by omega) ?_)
          intro v' w7 hs hb
          have HS7 := Lib.hid hs
          have HB7 := Lib.hid (HB3.out.trans hb)
          clear hs hb HS3 HB3 hg3 hcz
          go_wp2
          go_roundg (gi - 1)
          case measure => have := HKI.out; omega
          case rel => exact ⟨k + 1, i2 + 1, by have := HKI.out; omega, by have := HKI.out; omega, by go_num, HAL2.out, by rw [HTK.out]; exact HS7.out, HB7.out⟩
      · have hox' : numOk z = false := by simpa using hox
        have HOX := Lib.hid hox'
        have HLD := Lib.hid (HNO.out (by unfold numW; rw [hox']; rfl))
        have HS4 := Lib.hid (HS3.out.sub ((List.sublist_cons_self _ _).trans (List.sublist_cons_self _ _)))
        have HB4 := Lib.hid HB3.out
        clear hox hox'
        go_wp2_with fail
        refine HNUM2.out.mono ?_
        rintro e w' ⟨⟨nv, rfl, hnv2⟩, hw⟩
        rw [← hw]
        rw [HOX.out]
        clear hw HNUM2 hnv2 hcz
        obtain ⟨wf, hwf, he1, he2, k0, k1, k2⟩ := liE_end (.slice ao L.length cap) (.string s) (.int .i64 (m : Int)) HS4.out HB4.out
        have HE1 := Lib.hid he1
        have HE2 := Lib.hid he2
        have HWF := Lib.hid hwf
        rw [hwf] at k0 k1 k2
        obtain ⟨⟨b0, b1, b2⟩, ⟨s0, s1, s2⟩, ⟨f0, f1, f2⟩, hgz⟩ := liE_cells HS4.out
        clear he1 he2 hwf
        go_wp2
        try simp only [Exit.inBlock, Exit.then]
        refine bodyPost_ret (v := .tuple #[.agg #[.slice ao L.length cap, .string s, .int .i64 (m : Int)], .string ⟨#[98, 97, 100]⟩]) (by simp [results, Tryz.results52, go_sem, k0, k1, k2]) rfl ?_
        rw [← HWF.out, HLD.out]
        exact ⟨_, by rw [HSS.out]; rfl, HE1.out, HE2.out⟩
    · obtain rfl : k = q := by omega
      obtain rfl : i2 = n1 := by omega
      have hin : decide ((i2 : Int) < (i2 : Int)) = false := by simp
      have hwl : wt.length = k := HQ.out.symm
      have htk : wt.take k = wt := List.take_of_length_le (by omega)
      rw [htk] at HALL HS3
      have hall : wt.all numW = true := List.all_eq_true.2 fun z hz => HALL.out z hz
      obtain ⟨g, off, rfl, -, hc0'⟩ := hAT 0 w0 rfl
      have hc0 : w3.cell? ⟨g, off, none⟩ = some (.string (bytesOf w0)) := hc0'
      have hn1p : (0 : Int) < (i2 : Int) := by omega
      have hnl : (wt.map numV).length = k := by rw [List.length_map, hwl]
      have hnl0 : ((wt.take k).map numV).length = k := by rw [htk, List.length_map, hwl]
      rw [hnl] at HS3
      rw [hnl0]
      have HALL2 := Lib.hid hall
      clear htk hnl hnl0 hall HALL hlt hAT hc0' hgi hik hnq
      by_cases h3 : k = 0
      rotate_left
      · have hj3 : ((k : Int) == 0) = false := beq_eq_false_iff_ne.2 (by omega)
        have hj3' : (k == 0) = false := beq_eq_false_iff_ne.2 h3
        have HLD := Lib.hid (show ansD (L, tx, m) l = ((L, tx, m), badT) by rw [HANS.out]; exact verb_bad (.inr (.inr (.inr (.inl ⟨HV0.out, rfl⟩)))) (.inr (by rw [hwl]; exact h3)))
        clear h3
        have HS4 := Lib.hid (HS3.out.sub ((List.sublist_cons_self _ _).trans (List.sublist_cons_self _ _)))
        have HB4 := Lib.hid HB3.out
        clear hwl
        obtain ⟨wf, hwf, he1, he2, k0, k1, k2⟩ := liE_end (.slice ao L.length cap) (.string s) (.int .i64 (m : Int)) HS4.out HB4.out
        have HE1 := Lib.hid he1
        have HE2 := Lib.hid he2
        have HWF := Lib.hid hwf
        rw [hwf] at k0 k1 k2
        obtain ⟨⟨b0, b1, b2⟩, ⟨s0, s1, s2⟩, ⟨f0, f1, f2⟩, hgz⟩ := liE_cells HS4.out
        clear he1 he2 hwf
        go_wp2
        try simp only [Exit.inBlock, Exit.then]
        refine bodyPost_ret (v := .tuple #[.agg #[.slice ao L.length cap, .string s, .int .i64 (m : Int)], .string ⟨#[98, 97, 100]⟩]) (by simp [results, Tryz.results52, go_sem, k0, k1, k2]) rfl ?_
        rw [← HWF.out, HLD.out]
        exact ⟨_, by rw [HSS.out]; rfl, HE1.out, HE2.out⟩
      obtain rfl : wt = [] := List.eq_nil_of_length_eq_zero (by rw [hwl]; exact h3)
      subst h3
      have HLD := Lib.hid (show ansD (L, tx, m) l = ((L, tx, m), Lib.decDigits L.length) by
        rw [HANS.out, HV0.out]
        unfold verbD
        rw [if_neg (by rw [HALL2.out]; decide), if_neg (fun k => absurd k.1 (by decide)), if_neg (fun k => absurd k.1 (by decide)), if_neg (fun k => absurd k.1 (by decide)), if_pos ⟨rfl, rfl⟩])
      have HD1 := Lib.hid (fun (w1 : World) => refDigits_any L.length w1 (by have := HFB.out.all.1; simp only at this; omega))
      clear hwl
      go_upto_region 22 with fail
      obtain ⟨w8, hw8⟩ : ∃ w8, w8 = w3.drew := ⟨_, rfl⟩
      have HS8 := Lib.hid (show Sep B w8 _ by rw [hw8]; exact HS3.out.drew)
      have HB8 := Lib.hid (show Below B w w8 by rw [hw8]; exact HB3.out.drew)
      have HST8 := Lib.hid (show (fun (w' : World) => w'.cell? ⟨gb, 0, none⟩ = some (.slice ao L.length cap) ∧ w'.cell? ⟨gb, 1, none⟩ = some (.string s) ∧ w'.cell? ⟨gb, 2, none⟩ = some (.int .i64 (m : Int))) w8 from ⟨(Sep.blkAt (A := [_, _, _, _]) HS8.out (j := 0) rfl).1, (Sep.blkAt (A := [_, _, _, _]) HS8.out (j := 1) rfl).1, (Sep.blkAt (A := [_, _, _, _]) HS8.out (j := 2) rfl).1⟩)
      refine wp_region_held_drew (S := (fun (w' : World) => w'.cell? ⟨gb, 0, none⟩ = some (.slice ao L.length cap) ∧ w'.cell? ⟨gb, 1, none⟩ = some (.string s) ∧ w'.cell? ⟨gb, 2, none⟩ = some (.int .i64 (m : Int)))) (by kernel_rfl) (by simp only [← hw8]; exact HST8.out) (fun hHeld => ?_)
      rw [← hw8] at hHeld ⊢
      clear hw8 HS3 HB3
      refine wpAnyH_take (i := 0) (v := ?va0) rfl (by kernel_rfl) (by kernel_rfl) (by kernel_rfl) (fun _ _ _ h => h) (Or.inl ⟨by rfl, ?hya0⟩) (by assumption) ?resta0
      case hya0 =>
        intro w hSw
        try dsimp only at hSw
        go_simp
        try with_reducible rfl
      try simp only [Act.put, List.setIfInBounds_toArray, List.set_cons_zero, List.set_cons_succ, List.getElem_toArray, List.getElem_cons_zero]
      refine wpAnyH_take (i := 1) (v := ?va1) rfl (by kernel_rfl) (by kernel_rfl) (by kernel_rfl) (fun _ _ _ h => h) (Or.inl ⟨by rfl, ?hya1⟩) (by assumption) ?resta1
      case hya1 =>
        intro w hSw
        try dsimp only at hSw
        go_simp
        try rw [if_neg kk0]
        try rw [if_neg kk1]
        try with_reducible rfl
      try simp only [Act.put, List.setIfInBounds_toArray, List.set_cons_zero, List.set_cons_succ, List.getElem_toArray, List.getElem_cons_zero, List.getElem_cons_succ]
      refine wpAnyH_take (i := 2) (v := ?va2) rfl (by kernel_rfl) (by kernel_rfl) (by kernel_rfl) (fun _ _ _ h => h) (Or.inl ⟨by rfl, ?hya2⟩) (by assumption) ?resta2
      case hya2 =>
        intro w hSw
        try dsimp only at hSw
        go_simp
        try rw [if_neg kk0]
        try rw [if_neg kk1]
        try with_reducible rfl
      try simp only [Act.put, List.setIfInBounds_toArray, List.set_cons_zero, List.set_cons_succ, List.getElem_toArray, List.getElem_cons_zero, List.getElem_cons_succ]
      refine wpAnyH_take (i := 3) (v := ?va3) rfl (by kernel_rfl) (by kernel_rfl) (by kernel_rfl) (fun _ _ _ h => h) (Or.inl ⟨by rfl, ?hya3⟩) (by assumption) ?resta3
      case hya3 =>
        intro w hSw
        try dsimp only at hSw
        go_simp
        try rw [if_neg kk0]
        try rw [if_neg kk1]
        try with_reducible rfl
      try simp only [Act.put, List.setIfInBounds_toArray, List.set_cons_zero, List.set_cons_succ, List.getElem_toArray, List.getElem_cons_zero, List.getElem_cons_succ]
      refine wpAnyH_take (i := 4) (v := ?va4) rfl (by kernel_rfl) (by kernel_rfl) (by kernel_rfl) (fun _ _ _ h => h) (Or.inl ⟨by rfl, ?hya4⟩) (by assumption) ?resta4
      case hya4 =>
        intro w hSw
        try dsimp only at hSw
        go_simp
        try rw [if_neg kk0]
        try rw [if_neg kk1]
        try with_reducible rfl
      try simp only [Act.put, List.setIfInBounds_toArray, List.set_cons_zero, List.set_cons_succ, List.getElem_toArray, List.getElem_cons_zero, List.getElem_cons_succ]
      refine wpAnyH_ready (rs := [5]) (by kernel_rfl) (by simp) ?_
      refine AllReadyH.cons rfl (fun K hK => ?_) AllReadyH.nil
      go_simp
      go_at_call 27
      refine (HD1.out w8).mono ?_
      rintro e w' ⟨rfl, hw⟩
      rw [← hw]
      clear hw
      go_wp2_with fail
      refine hK.out _ _ ?_ (fun hHeld5 => ?_)
      · exact HST8.out
      clear hK K
      try simp only [Act.put, List.setIfInBounds_toArray, List.set_cons_zero, List.set_cons_succ, List.getElem_toArray, List.getElem_cons_zero, List.getElem_cons_succ]
      obtain ⟨s0, f0⟩ := Sep.blkAt (A := [_, _, _]) HS8.out (j := 0) rfl
      obtain ⟨s1, f1⟩ := Sep.blkAt (A := [_, _, _]) HS8.out (j := 1) rfl
      obtain ⟨s2, f2⟩ := Sep.blkAt (A := [_, _, _]) HS8.out (j := 2) rfl
      have hl8 := (Sep.blkLt (A := [_, _, _]) HS8.out).1
      have q1 := Sep.blkSet (A := [_, _, _]) HS8.out 0 (.slice ao L.length cap)
      have q2 := Sep.blkSet (A := [_, _, _]) q1 1 (.string s)
      have q3 := Sep.blkSet (A := [_, _, _]) q2 2 (.int .i64 (m : Int))
      have hb9 := ((HB8.out.setCell (p := ⟨gr, 0, none⟩) hl8 (.slice ao L.length cap)).setCell (p := ⟨gr, 1, none⟩) hl8 (.string s)).setCell (p := ⟨gr, 2, none⟩) hl8 (.int .i64 (m : Int))
      have K5 := Lib.hid (Sep.blkAt (A := [_, _, _]) q3 (j := 0) rfl).1
      have K6 := Lib.hid (Sep.blkAt (A := [_, _, _]) q3 (j := 1) rfl).1
      have K7 := Lib.hid (Sep.blkAt (A := [_, _, _]) q3 (j := 2) rfl).1
      have HST9 := Lib.hid (show (fun (w' : World) => w'.cell? ⟨gb, 0, none⟩ = some (.slice ao L.length cap) ∧ w'.cell? ⟨gb, 1, none⟩ = some (.string s) ∧ w'.cell? ⟨gb, 2, none⟩ = some (.int .i64 (m : Int))) _ from ⟨(Sep.blkAt (A := [_, _, _, _]) q3 (j := 0) rfl).1, (Sep.blkAt (A := [_, _, _, _]) q3 (j := 1) rfl).1, (Sep.blkAt (A := [_, _, _, _]) q3 (j := 2) rfl).1⟩)
      have HE1 := Lib.hid (q3.sub (List.Sublist.cons _ (List.Sublist.cons _ (List.Sublist.cons_cons _ (List.Sublist.cons _ (List.Sublist.cons _ (List.Sublist.refl _)))))))
      have HE2 := Lib.hid hb9
      clear q1 q2 q3 hb9 hl8
      refine wpAnyH_ready (rs := [6]) (by kernel_rfl) (by simp) ?_
      refine AllReadyH.cons rfl (fun K hK => ?_) AllReadyH.nil
      go_simp
      go_wp2_with fail
      refine hK.out _ _ ?_ (fun hHeld6 => ?_)
      · exact HST9.out
      clear hK K
      try simp only [Act.put, List.setIfInBounds_toArray, List.set_cons_zero, List.set_cons_succ, List.getElem_toArray, List.getElem_cons_zero, List.getElem_cons_succ]
      refine wpAnyH_take (i := 7) (v := ?vhz7) rfl (by kernel_rfl) (by kernel_rfl) (by kernel_rfl) (fun _ _ _ h => h) (Or.inl ⟨by rfl, ?hyhz7⟩) (by assumption) ?resthz7
      case hyhz7 =>
        intro w hSw
        try dsimp only at hSw
        go_simp
        try rw [if_neg kk0]
        try rw [if_neg kk1]
        try with_reducible rfl
      try simp only [Act.put, List.setIfInBounds_toArray, List.set_cons_zero, List.set_cons_succ, List.getElem_toArray, List.getElem_cons_zero, List.getElem_cons_succ]
      refine wpAnyH_done (by kernel_rfl) ?_ _
      clear s0 s1 s2 f0 f1 f2
      have k5 := K5.out
      have k6 := K6.out
      have k7 := K7.out
      go_wp2
      try simp only [Exit.inBlock, Exit.then]
      refine bodyPost_ret (v := .tuple #[.agg #[(.slice ao L.length cap), (.string s), (.int .i64 (m : Int))], .string (digS L.length)]) (by simp [results, Tryz.results52, go_sem, k5, k6, k7]) rfl ?_
      rw [HLD.out]
      exact ⟨_, by rw [HSS.out], HE1.out, HE2.out⟩
end Go.Proofs.YtbcfcjecobihnaaGreatDoor
