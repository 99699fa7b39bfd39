/- ferryhytheref4.answer: no verb. -/
import Derived.Test.YtbcfcjecobihnaaGreatDoorRtAnsP
import Derived.Test.YtbcfcjecobihnaaGreatDoorPk11
import Derived.Test.YtbcfcjecobihnaaGreatDoorDskMap
import Derived.Deep.LoopGhost
namespace Go.Proofs.YtbcfcjecobihnaaGreatDoor
open Go.RowKit
set_option linter.unusedVariables false
set_option linter.unusedSimpArgs false
set_option maxRecDepth 100000

def AnsEnd (B : Nat) (F : List Ent) (w : World) (r : Bk × List UInt8) (e : Ending) (w' : World) : Prop :=
  ∃ sp', e = .returned (.tuple #[.agg #[sp', .string (bkT r.1.2.1), .int .i64 (r.1.2.2 : Int)], .string (bytesOf r.2)]) ∧ Sep B w' (rteE sp' r.1.1 :: F) ∧ Below B w w'
set_option maxHeartbeats 8000000 in
theorem refAns_none (B : Nat) (sp : Value) (s : ByteArray) (tx : List UInt8) (m : Nat) (L : List Rte) (F : List Ent) (l : List UInt8) (w0 : List UInt8) (wt : List (List UInt8)) (hws : cutL 32 l = w0 :: wt) (h1 : w0 ≠ setT) (h2 : w0 ≠ dropT) (h3 : w0 ≠ findT) (h4 : w0 ≠ manyT) (h5 : w0 ≠ crashT) (w : World) (h : Sep B w (rteE sp L :: F)) (hB : B ≤ w.heap.size) (hl : l.length ≤ 10000) (hss : s = bkT tx) (hfb : FineB (L, tx, m)) :
    Calls Tryz.prog 52 #[.agg #[sp, .string s, .int .i64 (m : Int)], .string (bytesOf l)] w fun e w' => AnsEnd B F w (ansD (L, tx, m) l) e w' := by
  have x1 : (w0 == [115, 101, 116]) = false := beq_eq_false_iff_ne.2 h1
  have y1 : (w0.toArray == #[115, 101, 116]) = false := beq_eq_false_iff_ne.2 fun h => h1 (congrArg Array.toList h)
  have x2 : (w0 == [100, 114, 111, 112]) = false := beq_eq_false_iff_ne.2 h2
  have y2 : (w0.toArray == #[100, 114, 111, 112]) = false := beq_eq_false_iff_ne.2 fun h => h2 (congrArg Array.toList h)
  have x3 : (w0 == [102, 105, 110, 100]) = false := beq_eq_false_iff_ne.2 h3
  have y3 : (w0.toArray == #[102, 105, 110, 100]) = false := beq_eq_false_iff_ne.2 fun h => h3 (congrArg Array.toList h)
  have x4 : (w0 == [109, 97, 110, 121]) = false := beq_eq_false_iff_ne.2 h4
  have y4 : (w0.toArray == #[109, 97, 110, 121]) = false := beq_eq_false_iff_ne.2 fun h => h4 (congrArg Array.toList h)
  have x5 : (w0 == [99, 114, 97, 115, 104]) = false := beq_eq_false_iff_ne.2 h5
  have y5 : (w0.toArray == #[99, 114, 97, 115, 104]) = false := beq_eq_false_iff_ne.2 fun h => h5 (congrArg Array.toList h)
  have HVN := Lib.hid (verb_none (b := (L, tx, m)) (l := wt) h1 h2 h3 h4 h5)
  clear h1 h2 h3 h4 h5
  have HSS := Lib.hid hss
  have HFB := Lib.hid hfb
  have hcl := cutL_len 32 l
  have hcn := cutL_cnt 32 l
  rw [hws] at hcl hcn
  have HWS := Lib.hid hws
  have HANS := Lib.hid (ans_verb (b := (L, tx, m)) hws)
  have hcl2 : ∀ z ∈ wt, z.length ≤ 10000 := fun z hz => Nat.le_trans (hcl z (List.mem_cons_of_mem _ hz)) hl
  obtain ⟨q, hq⟩ : ∃ q, q = wt.length := ⟨_, rfl⟩
  obtain ⟨n1, hn1⟩ : ∃ n1, n1 = (w0 :: wt).length := ⟨_, rfl⟩
  have hnq : n1 = q + 1 := by rw [hn1, hq]; rfl
  have hq1 : q ≤ 10001 := by simp only [List.length_cons] at hcn; omega
  have HCL := Lib.hid hcl2
  have HQ := Lib.hid hq
  have HN1 := Lib.hid hn1
  have HNQ := Lib.hid hnq
  have HL10 := Lib.hid hl
  clear hss hfb hcl hcn hws hcl2 hq hn1 hnq
  obtain ⟨W, hW, hs0, hb0⟩ := liE_new (s := s) (m := (m : Int)) h hB
  obtain ⟨⟨ao, cap, rfl, hcap⟩⟩ : Nonempty _ := ⟨rte_shape (A := []) h⟩
  obtain ⟨gr, hgr⟩ : ∃ x, x = w.heap.size + 1 := ⟨_, rfl⟩
  obtain ⟨gb, hgb⟩ : ∃ x, x = w.heap.size := ⟨_, rfl⟩
  rw [← hgr, ← hgb] at hs0
  have HS1 := Lib.hid hs0
  have HB1 := Lib.hid hb0
  have HW := Lib.hid hW
  have HGR := Lib.hid hgr
  have HGB := Lib.hid hgb
  have hg1 : B ≤ W.heap.size := Nat.le_trans hB hb0.size
  have hcut : Calls Tryz.prog 46 #[.string (bytesOf l), .int .u8 32] W fun e w' => ∃ v, e = .returned v ∧ Sep B w' (strE v (cutL 32 l) :: liE gr gb (.slice ao L.length cap) s (m : Int) L F) ∧ Below B W w' := refCut_any B _ l 32 W hg1 HS1.out (by have := HL10.out; omega)
  rw [HWS.out] at hcut
  have HCUT := Lib.hid hcut
  clear h hs0 hb0 hW hgr hgb hcut hl
  go_enter Tryz.func52, Tryz.ntmps52
  go_upto_region 1 with fail
  rw [← HW.out, ← HGR.out, ← HGB.out]
  clear HW HGR HGB
  go_wp2_with fail
  refine HCUT.out.mono ?_
  rintro e w2 ⟨sv, rfl, hs2, hb2⟩
  obtain ⟨so, sc, rfl, -⟩ := strShape (A := []) hs2
  rw [← HN1.out] at hs2 ⊢
  have HS2 := Lib.hid (hs2.intsNil 3)
  have HB2 := Lib.hid (HB1.out.trans hb2)
  clear hs2 hb2 HS1 HB1 HCUT hg1
  go_wp2
  go_loopg [7, 8] q (fun gk lv iv wr => ∃ (k i : Nat), gk + k = q ∧ i = k + 1 ∧ iv = .int .i64 i ∧ Hid (∀ z ∈ wt.take k, numW z = true) ∧ Sep B wr (Ent.ints 3 lv ((wt.take k).map numV) :: strE (.slice so n1 sc) (w0 :: wt) :: liE gr gb (.slice ao L.length cap) s (m : Int) L F) ∧ Below B w wr)
  case atStart => exact ⟨0, 1, rfl, rfl, rfl, (fun z hz => by simp at hz), HS2.out, HB2.out⟩
  case round =>
    obtain ⟨gi, rfl⟩ : ∃ gi, gi = gk := ⟨_, rfl⟩
    obtain ⟨k, i2, hgi, hik, rfl, HALL, hsp, hbel⟩ := hrel
    clear HS2 HB2
    have HS3 := Lib.hid hsp
    have HB3 := Lib.hid hbel
    obtain ⟨w3, hw3⟩ : ∃ w3, w3 = wr := ⟨_, rfl⟩
    obtain rfl := hw3
    have hg3 : B ≤ w3.heap.size := Nat.le_trans hB hbel.size
    obtain ⟨na, nc, rfl, -, -⟩ := Sep.intsShape (A := []) hsp
    clear hsp hbel
    have hnq := HNQ.out
    have hAT : ∀ (j : Nat) z, (w0 :: wt)[j]? = some z → ∃ g off, so = some ⟨g, off, none⟩ ∧ g < w3.heap.size ∧ w3.cell? ⟨g, off + j, none⟩ = some (.string (bytesOf z)) := by
      have h1 := HS3.out
      rw [HN1.out] at h1
      exact strAt (A := [_]) h1
    by_cases hlt : k < q
    · obtain ⟨z, hz⟩ : ∃ z, wt[k]? = some z := ⟨_, List.getElem?_eq_getElem (by rw [← HQ.out]; exact hlt)⟩
      have hzm : z ∈ wt := List.mem_iff_getElem?.2 ⟨k, hz⟩
      obtain ⟨g, off, rfl, -, hcz⟩ := hAT i2 z (by rw [hik, List.getElem?_cons_succ, hz])
      have hin : (i2 : Int) < (n1 : Int) := by omega
      have hind : decide ((i2 : Int) < (n1 : Int)) = true := decide_eq_true hin
      have hi20 : (0 : Int) ≤ (i2 : Int) := by omega
      have hi2b : (i2 : Int) ≤ 20000 := by omega
      have HNUM2 := Lib.hid (refNum_any z w3 (HCL.out z hzm))
      obtain ⟨zv, hzv⟩ : ∃ zv, zv = numV z := ⟨_, rfl⟩
      have htk : (wt.take (k + 1)).map numV = (wt.take k).map numV ++ [zv] := by rw [List.take_add_one, hz, List.map_append, hzv]; rfl
      have hlj : ((wt.take k).map numV).length ≤ 100000 := by rw [List.length_map, List.length_take]; omega
      have hzsz : (bytesOf z).size = z.length := rfl
      have HZV := Lib.hid hzv
      have HTK := Lib.hid htk
      have HZ := Lib.hid (And.intro hz hzm)
      have HKI := Lib.hid (And.intro hgi (And.intro hik hlt))
      have HNO := Lib.hid (fun (hn : numW z = false) => (show ansD (L, tx, m) l = ((L, tx, m), badT) by rw [HANS.out]; exact verb_num (words_no HZ.out.2 hn)))
      have HAL0 := Lib.hid (fun (hn : numW z = true) => (show ∀ z' ∈ wt.take (k + 1), numW z' = true from fun z' hz' => by
        rw [List.take_add_one, HZ.out.1] at hz'
        rcases List.mem_append.1 hz' with h | h
        · exact HALL.out z' h
        · rw [show z' = z by simpa using h]; exact hn))
      clear hAT hz hzm hzv htk hgi hik hnq hlt HALL
      by_cases hox : numOk z = true
      · have HOX := Lib.hid hox
        by_cases h7 : 7 < z.length
        · have hd7 : decide ((7 : Int) < (z.length : Int)) = true := decide_eq_true (by omega)
          have hd7n : decide (7 < z.length) = true := decide_eq_true h7
          have HLD := Lib.hid (HNO.out (by unfold numW; rw [decide_eq_false (show ¬ z.length ≤ 7 by omega), Bool.and_false]))
          have HS4 := Lib.hid (HS3.out.sub ((List.sublist_cons_self _ _).trans (List.sublist_cons_self _ _)))
          have HB4 := Lib.hid HB3.out
          clear hox h7
          go_wp2_with fail
          refine HNUM2.out.mono ?_
          rintro e w' ⟨⟨nv, rfl, hnv2⟩, hw⟩
          rw [← hw]
          rw [HOX.out]
          clear hw HNUM2 hnv2
          obtain ⟨wf, hwf, he1, he2, k0, k1, k2⟩ := liE_end (.slice ao L.length cap) (.string s) (.int .i64 (m : Int)) HS4.out HB4.out
          have HE1 := Lib.hid he1
          have HE2 := Lib.hid he2
          have HWF := Lib.hid hwf
          rw [hwf] at k0 k1 k2
          obtain ⟨⟨b0, b1, b2⟩, ⟨s0, s1, s2⟩, ⟨f0, f1, f2⟩, hgz⟩ := liE_cells HS4.out
          clear he1 he2 hwf
          go_wp2
          try simp only [Exit.inBlock, Exit.then]
          refine bodyPost_ret (v := .tuple #[.agg #[.slice ao L.length cap, .string s, .int .i64 (m : Int)], .string ⟨#[98, 97, 100]⟩]) (by simp [results, Tryz.results52, go_sem, k0, k1, k2]) rfl ?_
          rw [← HWF.out, HLD.out]
          exact ⟨_, by rw [HSS.out]; rfl, HE1.out, HE2.out⟩
        · have hd7 : decide ((7 : Int) < (z.length : Int)) = false := decide_eq_false (by omega)
          have hd7n : decide (7 < z.length) = false := decide_eq_false h7
          have HAL2 := Lib.hid (HAL0.out (by unfold numW; rw [hox, decide_eq_true (show z.length ≤ 7 by omega)]; rfl))
          obtain ⟨xs, hxs⟩ : ∃ xs, xs = (wt.take k).map numV := ⟨_, rfl⟩
          rw [← hxs] at HS3 HTK hlj ⊢
          clear hox hxs h7
          go_wp2_with fail
          refine HNUM2.out.mono ?_
          rintro e w' ⟨⟨nv, rfl, hnv2⟩, hw⟩
          rw [← hw]
          have hnv3 := hnv2 HOX.out
          rw [← HZV.out] at hnv3
          rw [HOX.out]
          subst hnv3
          clear hw HNUM2 hnv2
          go_wp2_with (at_builtin; refine wpList_append_int rfl (.tmp 49) (.tmp 51) rfl elemIntL (A := []) rfl HS3.out hg3 rfl (by omega) ?_)
          intro v' w7 hs hb
          have HS7 := Lib.hid hs
          have HB7 := Lib.hid (HB3.out.trans hb)
          clear hs hb HS3 HB3 hg3 hcz
          go_wp2
          go_roundg (gi - 1)
          case measure => have := HKI.out; omega
          case rel => exact ⟨k + 1, i2 + 1, by have := HKI.out; omega, by have := HKI.out; omega, by go_num, HAL2.out, by rw [HTK.out]; exact HS7.out, HB7.out⟩
      · have hox' : numOk z = false := by simpa using hox
        have HOX := Lib.hid hox'
        have HLD := Lib.hid (HNO.out (by unfold numW; rw [hox']; rfl))
        have HS4 := Lib.hid (HS3.out.sub ((List.sublist_cons_self _ _).trans (List.sublist_cons_self _ _)))
        have HB4 := Lib.hid HB3.out
        clear hox hox'
        go_wp2_with fail
        refine HNUM2.out.mono ?_
        rintro e w' ⟨⟨nv, rfl, hnv2⟩, hw⟩
        rw [← hw]
        rw [HOX.out]
        clear hw HNUM2 hnv2 hcz
        obtain ⟨wf, hwf, he1, he2, k0, k1, k2⟩ := liE_end (.slice ao L.length cap) (.string s) (.int .i64 (m : Int)) HS4.out HB4.out
        have HE1 := Lib.hid he1
        have HE2 := Lib.hid he2
        have HWF := Lib.hid hwf
        rw [hwf] at k0 k1 k2
        obtain ⟨⟨b0, b1, b2⟩, ⟨s0, s1, s2⟩, ⟨f0, f1, f2⟩, hgz⟩ := liE_cells HS4.out
        clear he1 he2 hwf
        go_wp2
        try simp only [Exit.inBlock, Exit.then]
        refine bodyPost_ret (v := .tuple #[.agg #[.slice ao L.length cap, .string s, .int .i64 (m : Int)], .string ⟨#[98, 97, 100]⟩]) (by simp [results, Tryz.results52, go_sem, k0, k1, k2]) rfl ?_
        rw [← HWF.out, HLD.out]
        exact ⟨_, by rw [HSS.out]; rfl, HE1.out, HE2.out⟩
    · obtain rfl : k = q := by omega
      obtain rfl : i2 = n1 := by omega
      have hin : decide ((i2 : Int) < (i2 : Int)) = false := by simp
      have hwl : wt.length = k := HQ.out.symm
      have htk : wt.take k = wt := List.take_of_length_le (by omega)
      rw [htk] at HALL HS3
      have hall : wt.all numW = true := List.all_eq_true.2 fun z hz => HALL.out z hz
      obtain ⟨g, off, rfl, -, hc0'⟩ := hAT 0 w0 rfl
      have hc0 : w3.cell? ⟨g, off, none⟩ = some (.string (bytesOf w0)) := hc0'
      have hn1p : (0 : Int) < (i2 : Int) := by omega
      have hnl : (wt.map numV).length = k := by rw [List.length_map, hwl]
      have hnl0 : ((wt.take k).map numV).length = k := by rw [htk, List.length_map, hwl]
      rw [hnl] at HS3
      rw [hnl0]
      have HALL2 := Lib.hid hall
      clear htk hnl hnl0 hall HALL hlt hAT hc0' hgi hik hnq
      have HLD := Lib.hid (show ansD (L, tx, m) l = ((L, tx, m), badT) by rw [HANS.out]; exact HVN.out)
      have HS4 := Lib.hid (HS3.out.sub ((List.sublist_cons_self _ _).trans (List.sublist_cons_self _ _)))
      have HB4 := Lib.hid HB3.out
      clear hwl
      obtain ⟨wf, hwf, he1, he2, k0, k1, k2⟩ := liE_end (.slice ao L.length cap) (.string s) (.int .i64 (m : Int)) HS4.out HB4.out
      have HE1 := Lib.hid he1
      have HE2 := Lib.hid he2
      have HWF := Lib.hid hwf
      rw [hwf] at k0 k1 k2
      obtain ⟨⟨b0, b1, b2⟩, ⟨s0, s1, s2⟩, ⟨f0, f1, f2⟩, hgz⟩ := liE_cells HS4.out
      clear he1 he2 hwf
      go_wp2
      try simp only [Exit.inBlock, Exit.then]
      refine bodyPost_ret (v := .tuple #[.agg #[.slice ao L.length cap, .string s, .int .i64 (m : Int)], .string ⟨#[98, 97, 100]⟩]) (by simp [results, Tryz.results52, go_sem, k0, k1, k2]) rfl ?_
      rw [← HWF.out, HLD.out]
      exact ⟨_, by rw [HSS.out]; rfl, HE1.out, HE2.out⟩
end Go.Proofs.YtbcfcjecobihnaaGreatDoor
