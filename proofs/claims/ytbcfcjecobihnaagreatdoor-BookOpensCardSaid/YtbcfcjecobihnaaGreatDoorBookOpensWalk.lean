/- BookOpens returns true: any text opened, as the reference opens it. -/
import Derived.Test.YtbcfcjecobihnaaGreatDoorRtOpen
import Derived.Test.YtbcfcjecobihnaaGreatDoorDskOps
import Derived.Test.YtbcfcjecobihnaaGreatDoorPk11
import Derived.Test.YtbcfcjecobihnaaGreatDoorPk7
import Derived.Test.YtbcfcjecobihnaaGreatDoorPk9
import Derived.Test.YtbcfcjecobihnaaGreatDoorDoorLaw8
namespace Go.Proofs.YtbcfcjecobihnaaGreatDoor
open Go.RowKit
set_option linter.unusedVariables false
set_option linter.unusedSimpArgs false
set_option maxRecDepth 100000

theorem opensS {B bb tb gx : Nat} {w : World} {b : Bk} {sp : Value} {F : List Ent} (h : BkM B w bb tb b (xE gx sp b F)) : w.cell? ⟨gx, 0, none⟩ = some sp ∧ w.cell? ⟨gx, 1, none⟩ = some (.string (bkT b.2.1)) ∧ w.cell? ⟨bb, 0, none⟩ = some (.pointer (some ⟨tb, 0, none⟩)) := by
  obtain ⟨⟨x0, x1, -⟩, -, b0⟩ := xE_cells h
  exact ⟨x0, x1, b0⟩
set_option maxHeartbeats 4000000 in
theorem bookOpens_walk (a : ByteArray) (w : World) (hdoor8 : Door8 w) (ha : a.size ≤ 9223372036854775807) :
    Calls Tryz.prog 6 #[.string a] w fun e w' => e = .returned (.bool true) ∧ Below w.heap.size w w' := by
  obtain ⟨hd0, hl0⟩ := hdoor8
  have HW := Lib.hid (DskW.of hd0 hl0)
  obtain ⟨t, rfl⟩ : ∃ t : List UInt8, a = bytesOf t := ⟨a.data.toList, (ba_eta a).symm⟩
  obtain ⟨G, hG'⟩ : ∃ G, G = w.heap.size := ⟨_, rfl⟩
  have hG : G ≤ w.heap.size := Nat.le_of_eq hG'
  rw [← hG'] at HW ⊢
  have hHREF := refOpen_any G [] t w hG (Sep.nil _ _)
  have hOPEN := fun (w1 : World) (F : List Ent) (hb : Below G w w1) (hs : Sep G w1 F) => bookOpen_any G F t w1 (Nat.le_trans hG hb.size) hs (HW.out.below hb).lib HW.out.lb
  obtain ⟨R, hR⟩ : ∃ R, R = openB t := ⟨_, rfl⟩
  rw [← hR] at hHREF hOPEN
  have HREF := Lib.hid hHREF
  have HOPEN := Lib.hid hOPEN
  clear hd0 hl0 hG' ha hHREF hOPEN
  obtain ⟨_ | b, n, c⟩ := R
  · have hc := openB_none hR.symm
    have hcn : (c != 0) = true := bne_iff_ne.2 hc
    have HC := Lib.hid hc
    clear hR hc
    go_enter Tryz.func6, Tryz.ntmps6
    go_wp2_with fail
    refine HREF.out.mono ?_
    rintro e w1 ⟨rfl, hs1, hb1⟩
    have hg1 : G ≤ w1.heap.size := Nat.le_trans hG hb1.size
    have hb2 := hb1.alloc hg1 (.cells #[.slice none 0 0, .string ⟨#[]⟩, .int .i64 0] 56)
    obtain ⟨w2, hw2⟩ : ∃ w2, w2 = w1.alloc (.cells #[.slice none 0 0, .string ⟨#[]⟩, .int .i64 0] 56) := ⟨_, rfl⟩
    rw [← hw2] at hb2
    have HB2 := Lib.hid hb2
    have HW2 := Lib.hid hw2
    clear hs1 hb1 hb2 hw2 HREF hg1
    go_upto_region 2 with fail
    rw [← HW2.out]
    clear HW2
    go_wp2_with fail
    refine (HOPEN.out w2 [] HB2.out (Sep.nil _ _)).mono ?_
    rintro e w3 ⟨rfl, -, hb3⟩
    have HB3 := Lib.hid (HB2.out.trans hb3)
    clear hb3 HB2 HOPEN
    have HSAME := Lib.hid (same_any c c true w3 (HW.out.below HB3.out).door (by simp))
    go_wp2_with fail
    refine HSAME.out.mono ?_
    rintro e w4 ⟨rfl, hb4⟩
    have HB4 := Lib.hid (HB3.out.trans (hb4.mono (Nat.le_trans hG HB3.out.size)))
    clear hb4 HB3 HSAME
    go_wp2
    go_ret
    exact ⟨rfl, HB4.out⟩
  · obtain ⟨rfl, -⟩ := openB_some2 hR.symm
    clear hR
    go_enter Tryz.func6, Tryz.ntmps6
    go_wp2_with fail
    refine HREF.out.mono ?_
    rintro e w1 ⟨sp, rfl, hs1, hrb, hb1⟩
    obtain ⟨spo, spc, rfl, -⟩ := rte_shape (A := []) hs1
    have hg1 : G ≤ w1.heap.size := Nat.le_trans hG hb1.size
    obtain ⟨tt, htt⟩ : ∃ tt, tt = bkT b.2.1 := ⟨_, rfl⟩
    obtain ⟨mm, hmm⟩ : ∃ mm : Int, mm = (b.2.2 : Int) := ⟨_, rfl⟩
    rw [← htt, ← hmm]
    have hs2 := (hs1.blkNew hg1 #[.slice spo b.1.length spc, .string tt, .int .i64 mm] 56).perm (List.Perm.swap ..)
    have hb2 := hb1.alloc hg1 (.cells #[.slice spo b.1.length spc, .string tt, .int .i64 mm] 56)
    obtain ⟨w2, hw2⟩ : ∃ w2, w2 = w1.alloc (.cells #[.slice spo b.1.length spc, .string tt, .int .i64 mm] 56) := ⟨_, rfl⟩
    obtain ⟨gx, hgx⟩ : ∃ gx, gx = w1.heap.size := ⟨_, rfl⟩
    rw [← hw2] at hb2 hs2
    rw [← hgx] at hs2
    have HS2 := Lib.hid (show Sep G w2 (xE gx (.slice spo b.1.length spc) b []) by rw [htt, hmm] at hs2; exact hs2)
    have HB2 := Lib.hid hb2
    have HW2 := Lib.hid hw2
    have HGX := Lib.hid hgx
    clear hs1 hb1 hs2 hb2 hw2 hgx htt hmm hrb HREF hg1
    go_upto_region 2 with fail
    rw [← HW2.out, ← HGX.out]
    clear HW2 HGX
    go_wp2_with fail
    refine (HOPEN.out w2 _ HB2.out HS2.out).mono ?_
    rintro e w3 ⟨bb, tb, rfl, hk3, hok3, hb3⟩
    rw [errV_zero]
    have HT3 := Lib.hid hk3
    have HB3 := Lib.hid (HB2.out.trans hb3)
    clear hk3 hok3 hb3 HB2 HS2 HOPEN
    go_upto_region 5 with fail
    obtain ⟨w7, hw7⟩ : ∃ w7, w7 = w3.drew := ⟨_, rfl⟩
    have HT7 := Lib.hid (show BkM G w7 bb tb b (xE gx (.slice spo b.1.length spc) b []) by rw [hw7]; exact BkS.kept HT3.out (below_drew _ _))
    have HB7 := Lib.hid (show Below G w w7 by rw [hw7]; exact HB3.out.drew)
    have HST7 := Lib.hid (opensS HT7.out)
    refine wp_region_held_drew (S := fun w' => w'.cell? ⟨gx, 0, none⟩ = some (.slice spo b.1.length spc) ∧ w'.cell? ⟨gx, 1, none⟩ = some (.string (bkT b.2.1)) ∧ w'.cell? ⟨bb, 0, none⟩ = some (.pointer (some ⟨tb, 0, none⟩))) (by kernel_rfl) (by simp only [← hw7]; exact HST7.out) (fun hHeld => ?_)
    rw [← hw7] at hHeld ⊢
    clear HT3 HB3 hw7
    refine wpAnyH_take (i := 0) (v := ?va0) rfl (by kernel_rfl) (by kernel_rfl) (by kernel_rfl) (fun _ _ _ h => h) (Or.inl ⟨by rfl, ?hya0⟩) (by assumption) ?resta0
    case hya0 =>
      intro w hSw
      try dsimp only at hSw
      go_simp
      try with_reducible rfl
    try simp only [Act.put, List.setIfInBounds_toArray, List.set_cons_zero, List.set_cons_succ, List.getElem_toArray, List.getElem_cons_zero]
    refine wpAnyH_take (i := 1) (v := ?va1) rfl (by kernel_rfl) (by kernel_rfl) (by kernel_rfl) (fun _ _ _ h => h) (Or.inl ⟨by rfl, ?hya1⟩) (by assumption) ?resta1
    case hya1 =>
      intro w hSw
      try dsimp only at hSw
      go_simp
      try with_reducible rfl
    try simp only [Act.put, List.setIfInBounds_toArray, List.set_cons_zero, List.set_cons_succ, List.getElem_toArray, List.getElem_cons_zero, List.getElem_cons_succ]
    refine wpAnyH_take (i := 2) (v := ?va2) rfl (by kernel_rfl) (by kernel_rfl) (by kernel_rfl) (fun _ _ _ h => h) (Or.inl ⟨by rfl, ?hya2⟩) (by assumption) ?resta2
    case hya2 =>
      intro w hSw
      try dsimp only at hSw
      go_simp
      try with_reducible rfl
    try simp only [Act.put, List.setIfInBounds_toArray, List.set_cons_zero, List.set_cons_succ, List.getElem_toArray, List.getElem_cons_zero, List.getElem_cons_succ]
    refine wpAnyH_take (i := 3) (v := ?va3) rfl (by kernel_rfl) (by kernel_rfl) (by kernel_rfl) (fun _ _ _ h => h) (Or.inl ⟨by rfl, ?hya3⟩) (by assumption) ?resta3
    case hya3 =>
      intro w hSw
      try dsimp only at hSw
      go_simp
      try with_reducible rfl
    try simp only [Act.put, List.setIfInBounds_toArray, List.set_cons_zero, List.set_cons_succ, List.getElem_toArray, List.getElem_cons_zero, List.getElem_cons_succ]
    refine wpAnyH_take (i := 4) (v := ?va4) rfl (by kernel_rfl) (by kernel_rfl) (by kernel_rfl) (fun _ _ _ h => h) (Or.inl ⟨by rfl, ?hya4⟩) (by assumption) ?resta4
    case hya4 =>
      intro w hSw
      try dsimp only at hSw
      go_simp
      try with_reducible rfl
    try simp only [Act.put, List.setIfInBounds_toArray, List.set_cons_zero, List.set_cons_succ, List.getElem_toArray, List.getElem_cons_zero, List.getElem_cons_succ]
    refine wpAnyH_take (i := 6) (v := ?va6) rfl (by kernel_rfl) (by kernel_rfl) (by kernel_rfl) (fun _ _ _ h => h) (Or.inl ⟨by rfl, ?hya6⟩) (by assumption) ?resta6
    case hya6 =>
      intro w hSw
      try dsimp only at hSw
      go_simp
      try with_reducible rfl
    try simp only [Act.put, List.setIfInBounds_toArray, List.set_cons_zero, List.set_cons_succ, List.getElem_toArray, List.getElem_cons_zero, List.getElem_cons_succ]
    refine wpAnyH_take (i := 7) (v := ?va7) rfl (by kernel_rfl) (by kernel_rfl) (by kernel_rfl) (fun _ _ _ h => h) (Or.inl ⟨by rfl, ?hya7⟩) (by assumption) ?resta7
    case hya7 =>
      intro w hSw
      try dsimp only at hSw
      go_simp
      try with_reducible rfl
    try simp only [Act.put, List.setIfInBounds_toArray, List.set_cons_zero, List.set_cons_succ, List.getElem_toArray, List.getElem_cons_zero, List.getElem_cons_succ]
    refine wpAnyH_ready (rs := [5]) (by kernel_rfl) (by simp) ?_
    refine AllReadyH.cons rfl (fun K hK => ?_) AllReadyH.nil
    go_simp
    go_at_call 15
    refine (text_any HT7.out).mono ?_
    rintro e w9 ⟨rfl, ht, hb⟩
    have HT9 := Lib.hid (show BkM G w9 bb tb b (xE gx (.slice spo b.1.length spc) b []) from ht)
    have HB9 := Lib.hid (HB7.out.trans hb)
    have HST9 := Lib.hid (opensS HT9.out)
    clear ht hb HT7 HB7 HST7
    go_wp2_with fail
    refine hK.out _ _ ?_ (fun hHeld5 => ?_)
    · exact HST9.out
    clear hK K
    try simp only [Act.put, List.setIfInBounds_toArray, List.set_cons_zero, List.set_cons_succ, List.getElem_toArray, List.getElem_cons_zero, List.getElem_cons_succ]
    refine wpAnyH_take (i := 8) (v := ?vb8) rfl (by kernel_rfl) (by kernel_rfl) (by kernel_rfl) (fun _ _ _ h => h) (Or.inl ⟨by rfl, ?hyb8⟩) (by assumption) ?restb8
    case hyb8 =>
      intro w hSw
      try dsimp only at hSw
      go_simp
      try with_reducible rfl
    try simp only [Act.put, List.setIfInBounds_toArray, List.set_cons_zero, List.set_cons_succ, List.getElem_toArray, List.getElem_cons_zero, List.getElem_cons_succ]
    refine wpAnyH_take (i := 9) (v := ?vb9) rfl (by kernel_rfl) (by kernel_rfl) (by kernel_rfl) (fun _ _ _ h => h) (Or.inl ⟨by rfl, ?hyb9⟩) (by assumption) ?restb9
    case hyb9 =>
      intro w hSw
      try dsimp only at hSw
      go_simp
      try with_reducible rfl
    try simp only [Act.put, List.setIfInBounds_toArray, List.set_cons_zero, List.set_cons_succ, List.getElem_toArray, List.getElem_cons_zero, List.getElem_cons_succ]
    refine wpAnyH_take (i := 10) (v := ?vb10) rfl (by kernel_rfl) (by kernel_rfl) (by kernel_rfl) (fun _ _ _ h => h) (Or.inl ⟨by rfl, ?hyb10⟩) (by assumption) ?restb10
    case hyb10 =>
      intro w hSw
      try dsimp only at hSw
      go_simp
      try with_reducible rfl
    try simp only [Act.put, List.setIfInBounds_toArray, List.set_cons_zero, List.set_cons_succ, List.getElem_toArray, List.getElem_cons_zero, List.getElem_cons_succ]
    refine wpAnyH_take (i := 11) (v := ?vb11) rfl (by kernel_rfl) (by kernel_rfl) (by kernel_rfl) (fun _ _ _ h => h) (Or.inl ⟨by rfl, ?hyb11⟩) (by assumption) ?restb11
    case hyb11 =>
      intro w hSw
      try dsimp only at hSw
      go_simp
      try with_reducible rfl
    try simp only [Act.put, List.setIfInBounds_toArray, List.set_cons_zero, List.set_cons_succ, List.getElem_toArray, List.getElem_cons_zero, List.getElem_cons_succ]
    refine wpAnyH_take (i := 12) (v := ?vb12) rfl (by kernel_rfl) (by kernel_rfl) (by kernel_rfl) (fun _ _ _ h => h) (Or.inl ⟨by rfl, ?hyb12⟩) (by assumption) ?restb12
    case hyb12 =>
      intro w hSw
      try dsimp only at hSw
      go_simp
      try with_reducible rfl
    try simp only [Act.put, List.setIfInBounds_toArray, List.set_cons_zero, List.set_cons_succ, List.getElem_toArray, List.getElem_cons_zero, List.getElem_cons_succ]
    refine wpAnyH_take (i := 13) (v := ?vb13) rfl (by kernel_rfl) (by kernel_rfl) (by kernel_rfl) (fun _ _ _ h => h) (Or.inl ⟨by rfl, ?hyb13⟩) (by assumption) ?restb13
    case hyb13 =>
      intro w hSw
      try dsimp only at hSw
      go_simp
      try with_reducible rfl
    try simp only [Act.put, List.setIfInBounds_toArray, List.set_cons_zero, List.set_cons_succ, List.getElem_toArray, List.getElem_cons_zero, List.getElem_cons_succ]
    refine wpAnyH_take (i := 14) (v := ?vb14) rfl (by kernel_rfl) (by kernel_rfl) (by kernel_rfl) (fun _ _ _ h => h) (Or.inl ⟨by rfl, ?hyb14⟩) (by assumption) ?restb14
    case hyb14 =>
      intro w hSw
      try dsimp only at hSw
      go_simp
      try with_reducible rfl
    try simp only [Act.put, List.setIfInBounds_toArray, List.set_cons_zero, List.set_cons_succ, List.getElem_toArray, List.getElem_cons_zero, List.getElem_cons_succ]
    refine wpAnyH_take (i := 16) (v := ?vb16) rfl (by kernel_rfl) (by kernel_rfl) (by kernel_rfl) (fun _ _ _ h => h) (Or.inl ⟨by rfl, ?hyb16⟩) (by assumption) ?restb16
    case hyb16 =>
      intro w hSw
      try dsimp only at hSw
      go_simp
      try with_reducible rfl
    try simp only [Act.put, List.setIfInBounds_toArray, List.set_cons_zero, List.set_cons_succ, List.getElem_toArray, List.getElem_cons_zero, List.getElem_cons_succ]
    refine wpAnyH_take (i := 17) (v := ?vb17) rfl (by kernel_rfl) (by kernel_rfl) (by kernel_rfl) (fun _ _ _ h => h) (Or.inl ⟨by rfl, ?hyb17⟩) (by assumption) ?restb17
    case hyb17 =>
      intro w hSw
      try dsimp only at hSw
      go_simp
      try with_reducible rfl
    try simp only [Act.put, List.setIfInBounds_toArray, List.set_cons_zero, List.set_cons_succ, List.getElem_toArray, List.getElem_cons_zero, List.getElem_cons_succ]
    refine wpAnyH_take (i := 18) (v := ?vb18) rfl (by kernel_rfl) (by kernel_rfl) (by kernel_rfl) (fun _ _ _ h => h) (Or.inl ⟨by rfl, ?hyb18⟩) (by assumption) ?restb18
    case hyb18 =>
      intro w hSw
      try dsimp only at hSw
      go_simp
      try with_reducible rfl
    try simp only [Act.put, List.setIfInBounds_toArray, List.set_cons_zero, List.set_cons_succ, List.getElem_toArray, List.getElem_cons_zero, List.getElem_cons_succ]
    refine wpAnyH_ready (rs := [15]) (by kernel_rfl) (by simp) ?_
    refine AllReadyH.cons rfl (fun K hK => ?_) AllReadyH.nil
    go_simp
    go_at_call 22
    obtain ⟨FT, hT, hback⟩ := BkS.tab HT9.out
    refine (lpmRoutes_any G tb b.1 FT w9 (Nat.le_trans hG HB9.out.size) hT).mono ?_
    rintro e w10 ⟨v, rfl, ht, hb⟩
    obtain ⟨vo, vc, rfl, hsl⟩ : ∃ ao cap, v = .slice ao b.1.length cap ∧ RteSl w10.heap.size w10 ao b.1 := by
      obtain ⟨T, -, -, hs⟩ := ht
      obtain ⟨ao, cap, rfl, -⟩ := rte_shape hs
      exact ⟨ao, cap, rfl, Sep.rteSl hs⟩
    have ht2 : TabS G w10 tb b.1 FT := by
      obtain ⟨T, t1, t2, hs⟩ := ht
      exact ⟨T, t1, t2, hs.sub (List.Sublist.append_left (List.sublist_cons_self _ _) _)⟩
    have HT10 := Lib.hid (show BkM G w10 bb tb b (xE gx (.slice spo b.1.length spc) b []) from hback _ _ ht2)
    have HB10 := Lib.hid (HB9.out.trans hb)
    have HST10 := Lib.hid (opensS HT10.out)
    obtain ⟨xo, xc, hxe, -, hxl⟩ := BkS.rte HT10.out
    obtain ⟨rfl, rfl⟩ : spo = xo ∧ spc = xc := by cases hxe; exact ⟨rfl, rfl⟩
    have HSL := Lib.hid hsl
    have HXL := Lib.hid hxl
    have hlen := (BkS.facts HT10.out).1
    clear hT hback ht ht2 hb hsl hxl hxe HT9 HB9 HST9
    go_wp2_with fail
    refine hK.out _ _ ?_ (fun hHeld15 => ?_)
    · exact HST10.out
    clear hK K
    try simp only [Act.put, List.setIfInBounds_toArray, List.set_cons_zero, List.set_cons_succ, List.getElem_toArray, List.getElem_cons_zero, List.getElem_cons_succ]
    refine wpAnyH_ready (rs := [19]) (by kernel_rfl) (by simp) ?_
    refine AllReadyH.cons rfl (fun K hK => ?_) AllReadyH.nil
    go_simp
    go_at_call 21
    refine (routesSame_any _ _ _ _ _ _ b.1 w10 HSL.out HXL.out (by omega)).mono ?_
    rintro e w11 ⟨rfl, hd⟩
    have hb := below_of_drew hd
    have HT11 := Lib.hid (show BkM G w11 bb tb b (xE gx _ b []) from BkS.kept HT10.out hb)
    have HB11 := Lib.hid (HB10.out.trans (hb.mono (Nat.le_trans hG HB10.out.size)))
    have HST11 := Lib.hid (opensS HT11.out)
    clear hb hd HT10 HB10 HST10 HSL HXL
    go_wp2_with fail
    refine hK.out _ _ ?_ (fun hHeld19 => ?_)
    · exact HST11.out
    clear hK K
    try simp only [Act.put, List.setIfInBounds_toArray, List.set_cons_zero, List.set_cons_succ, List.getElem_toArray, List.getElem_cons_zero, List.getElem_cons_succ]
    refine wpAnyH_take (i := 20) (v := ?vc20) rfl (by kernel_rfl) (by kernel_rfl) (by kernel_rfl) (fun _ _ _ h => h) (Or.inl ⟨by rfl, ?hyc20⟩) (by assumption) ?restc20
    case hyc20 =>
      intro w hSw
      try dsimp only at hSw
      go_simp
      try with_reducible rfl
    try simp only [Act.put, List.setIfInBounds_toArray, List.set_cons_zero, List.set_cons_succ, List.getElem_toArray, List.getElem_cons_zero, List.getElem_cons_succ]
    refine wpAnyH_take (i := 21) (v := ?vc21) rfl (by kernel_rfl) (by kernel_rfl) (by kernel_rfl) (fun _ _ _ h => h) (Or.inl ⟨by rfl, ?hyc21⟩) (by assumption) ?restc21
    case hyc21 =>
      intro w hSw
      try dsimp only at hSw
      go_simp
      try with_reducible rfl
    try simp only [Act.put, List.setIfInBounds_toArray, List.set_cons_zero, List.set_cons_succ, List.getElem_toArray, List.getElem_cons_zero, List.getElem_cons_succ]
    refine wpAnyH_done (by kernel_rfl) ?_ _
    go_wp2
    go_ret
    exact ⟨rfl, HB11.out⟩
end Go.Proofs.YtbcfcjecobihnaaGreatDoor
