/- The reference's switch: Heard. -/
import Derived.Test.YtommedhaaojgiaaDoorSwRef
namespace Go.Proofs.YtommedhaaojgiaaDoor
open Go.RowKit
set_option linter.unusedVariables false
set_option maxRecDepth 100000

set_option maxHeartbeats 2000000 in
theorem heardR_ok (B : Nat) (va vp : Value) (T : Tab) (F : List Ent) (a p : Int) (w : World) (hl : T.length ≤ 9) (hsep : Sep B w (Ent.ints 3 va (T.map (·.1)) :: Ent.ints 3 vp (T.map (·.2)) :: F)) (hB : B ≤ w.heap.size) :
    Calls Tryd.prog 15 #[.agg #[va, vp], .int .i64 a, .int .i64 p] w fun e w' => ∃ va' vp', e = .returned (.agg #[va', vp']) ∧
      Sep B w' (Ent.ints 3 va' ((heardF T a p).map (·.1)) :: Ent.ints 3 vp' ((heardF T a p).map (·.2)) :: Ent.ints 3 va (T.map (·.1)) :: Ent.ints 3 vp (T.map (·.2)) :: F) ∧ Below B w w' := by
  obtain ⟨aa, ca, rfl⟩ := mapShape (A := []) hsep
  obtain ⟨ap, cp, rfl⟩ := mapShape (A := [_]) hsep
  have h0 := swR_new hsep hB
  have hb0 := (((Below.refl B w).alloc hB (.cells #[.slice aa T.length ca, .slice ap T.length cp] 39)).alloc (by simp; omega) (.cells #[.slice none 0 0, .slice none 0 0] 39)).alloc (by simp; omega) (.cells #[.slice none 0 0, .slice none 0 0] 39)
  obtain ⟨gv, hgv⟩ : ∃ x, x = w.heap.size + 1 + 1 := ⟨_, rfl⟩
  obtain ⟨gr, hgr⟩ : ∃ x, x = w.heap.size + 1 := ⟨_, rfl⟩
  obtain ⟨gb, hgb⟩ : ∃ x, x = w.heap.size := ⟨_, rfl⟩
  rw [← hgv, ← hgr, ← hgb] at h0
  have HS0 := Lib.hid h0
  have HB0 := Lib.hid hb0
  have HGV := Lib.hid hgv
  have HGR := Lib.hid hgr
  have HGB := Lib.hid hgb
  clear h0 hb0 hsep hgv hgr hgb
  go_enter Tryd.func15, Tryd.ntmps15
  go_wp2
  rw [← HGV.out, ← HGR.out, ← HGB.out]
  go_loopw [8] (fun i wr => ∃ (k : Nat) (oa op : Value), k ≤ T.length ∧ i = .int .i64 k ∧ Sep B wr (swR gb gr gv oa op (.slice aa T.length ca) (.slice ap T.length cp) (keepT (T.take k) a) T F) ∧ Below B w wr) (fun i _ => T.length - (intOf i).toNat)
  case atStart => exact ⟨0, _, _, Nat.zero_le _, rfl, HS0.out, HB0.out⟩
  case round =>
    obtain ⟨k, oa, op, hk, rfl, hsep, hbel⟩ := hrel
    have HS1 := Lib.hid hsep
    have HB1 := Lib.hid hbel
    clear HS0 HB0 hsep hbel
    obtain ⟨w1, hw1⟩ : ∃ w1, w1 = wr := ⟨_, rfl⟩
    obtain rfl := hw1
    have hg1 : B ≤ w1.heap.size := Nat.le_trans hB HB1.out.size
    have b0 := (Sep.blkAt (A := [_, _, _, _]) HS1.out (j := 0) rfl).1
    have b1 := (Sep.blkAt (A := [_, _, _, _]) HS1.out (j := 1) rfl).1
    have o0 := (Sep.blkAt (A := []) HS1.out (j := 0) rfl).1
    have o1 := (Sep.blkAt (A := []) HS1.out (j := 1) rfl).1
    by_cases hlt : k < T.length
    · have hki : (k : Int) < (T.length : Int) := by omega
      have hk0 : (0 : Int) ≤ (k : Int) := by omega
      obtain ⟨x, hx⟩ : ∃ x, T[k]? = some x := ⟨_, List.getElem?_eq_getElem hlt⟩
      obtain ⟨ga, oA, rfl, r0⟩ := intsAtN (A := [_, _, _, _, _]) (C := _ :: F) HS1.out (List.length_map _).symm (j := k) (x := x.1) (by rw [List.getElem?_map, hx]; rfl)
      obtain ⟨gp, oP, rfl, r1⟩ := intsAtN (A := [_, _, _, _, _, _]) (C := F) HS1.out (List.length_map _).symm (j := k) (x := x.2) (by rw [List.getElem?_map, hx]; rfl)
      by_cases he : x.1 = a
      · have hne : (x.1 != a) = false := by simp [he]
        have HNX := Lib.hid (keepT_no hx he)
        clear hx he
        go_wp2
        go_roundw
        case rel => exact ⟨k + 1, oa, op, by omega, by go_num, by rw [HNX.out]; exact HS1.out, HB1.out⟩
        case measure => simp [intOf]; omega
      · have hne : (x.1 != a) = true := by simp [he]
        have HNX := Lib.hid (keepT_yes hx he)
        have hlen := keepT_take_len T a k
        have hlen1 : ((keepT (T.take k) a).map (·.1)).length ≤ 1000000000 := by rw [List.length_map]; omega
        have hlen2 : ((keepT (T.take k) a).map (·.2)).length ≤ 1000000000 := by rw [List.length_map]; omega
        clear he
        have HX2 := Lib.hid hx
        have HS1' : Hid (Sep B w1 (Ent.blk1 gv 39 [oa, op] :: ([] ++ Ent.ints 3 oa ((keepT (T.take k) a).map (·.1)) :: Ent.ints 3 op ((keepT (T.take k) a).map (·.2)) :: Ent.blk1 gr 39 [.slice none 0 0, .slice none 0 0] :: Ent.blk1 gb 39 [.slice (some ⟨ga, oA, none⟩) T.length ca, .slice (some ⟨gp, oP, none⟩) T.length cp] ::
            Ent.ints 3 (.slice (some ⟨ga, oA, none⟩) T.length ca) (T.map (·.1)) :: Ent.ints 3 (.slice (some ⟨gp, oP, none⟩) T.length cp) (T.map (·.2)) :: F))) := Lib.hid HS1.out
        clear HS1
        obtain ⟨v2, w2, hr, p0, p1, hs2, hb2⟩ := fieldPush x.1 (A := []) HS1'.out (j := 0) rfl hg1 hlen1
        obtain ⟨a2, n2, c2, rfl⟩ := anyShape (A := [_]) hs2
        have oo := (Sep.blkAt (A := []) (HS1'.out.alloc (.cells #[.int .i64 x.1] 3)) (j := 0) rfl).1
        have HR := Lib.hid hr
        have HS2 := Lib.hid hs2
        have HB2 := Lib.hid (HB1.out.trans hb2)
        clear hr hs2 hb2 hx
        go_upto_region 6 with fail
        go_cut [] (fun wx => ∃ v, Sep B wx (Ent.blk1 gv 39 [v, op] :: ([] ++ Ent.ints 3 v ((keepT (T.take k) a).map (·.1) ++ [x.1]) :: Ent.ints 3 op ((keepT (T.take k) a).map (·.2)) :: Ent.blk1 gr 39 [.slice none 0 0, .slice none 0 0] :: Ent.blk1 gb 39 [.slice (some ⟨ga, oA, none⟩) T.length ca, .slice (some ⟨gp, oP, none⟩) T.length cp] ::
            Ent.ints 3 (.slice (some ⟨ga, oA, none⟩) T.length ca) (T.map (·.1)) :: Ent.ints 3 (.slice (some ⟨gp, oP, none⟩) T.length cp) (T.map (·.2)) :: F)) ∧ Below B w wx)
        case first =>
          go_region_law (refine step_append_run rfl (.tmp 24) (.tmp 30) 23 rfl oa (.slice (some ⟨w1.heap.size, 0, none⟩) 1 1) ?_ ?_ HR.out ?_; rfl; rfl)
          all_goals
            go_wp2_with fail
            go_meet
            exact ⟨_, HS2.out, HB2.out⟩
        case rest =>
          obtain ⟨v2, hs2, hb2⟩ := hcut
          clear b0 b1 o0 o1 oo p0 p1 HR HS1' HB1 hg1 r0 r1 HS2 HB2
          have HS2 := Lib.hid hs2
          have HB2 := Lib.hid hb2
          clear hs2 hb2
          obtain ⟨w3, hw3⟩ : ∃ w3, w3 = wc := ⟨_, rfl⟩
          obtain rfl := hw3
          have hg3 : B ≤ w3.heap.size := Nat.le_trans hB HB2.out.size
          have b0 := (Sep.blkAt (A := [_, _, _, _]) HS2.out (j := 0) rfl).1
          have b1 := (Sep.blkAt (A := [_, _, _, _]) HS2.out (j := 1) rfl).1
          have o0 := (Sep.blkAt (A := []) HS2.out (j := 0) rfl).1
          have o1 := (Sep.blkAt (A := []) HS2.out (j := 1) rfl).1
          obtain ⟨_, _, he, r1⟩ := intsAtN (A := [_, _, _, _, _, _]) (C := F) HS2.out (List.length_map _).symm (j := k) (x := x.2) (by rw [List.getElem?_map, HX2.out]; rfl)
          simp only [Option.some.injEq, Addr.mk.injEq, and_true] at he
          obtain ⟨rfl, rfl⟩ := he
          obtain ⟨v4, w4, hr, p0, p1, hs4, hb4⟩ := fieldPush x.2 (A := [_]) HS2.out (j := 1) rfl hg3 hlen2
          obtain ⟨a4, n4, c4, rfl⟩ := anyShape (A := [_, _]) hs4
          have oo := (Sep.blkAt (A := []) (HS2.out.alloc (.cells #[.int .i64 x.2] 3)) (j := 1) rfl).1
          have hs5 : Sep B (w4.setCell ⟨gv, 1, none⟩ (.slice a4 n4 c4)) (swR gb gr gv v2 (.slice a4 n4 c4) (.slice (some ⟨ga, oA, none⟩) T.length ca) (.slice (some ⟨gp, oP, none⟩) T.length cp) (keepT (T.take (k + 1)) a) T F) := by
            have e := HNX.out
            unfold swR
            rw [e, List.map_append, List.map_append]
            exact hs4
          have HR := Lib.hid hr
          have HS4 := Lib.hid hs5
          have HB4 := Lib.hid (HB2.out.trans hb4)
          clear hr hs4 hb4 hs5
          go_wp2_with fail
          go_region_law (refine step_append_run rfl (.tmp 34) (.tmp 40) 23 rfl op (.slice (some ⟨w3.heap.size, 0, none⟩) 1 1) ?_ ?_ HR.out ?_; rfl; rfl)
          all_goals
            clear b0 b1 o0 o1 oo p0 p1 HR HS2 HB2 hg3 r1
            generalize w4.setCell ⟨gv, 1, none⟩ (.slice a4 n4 c4) = w5 at *
            go_wp2
            go_roundw
            case rel => exact ⟨k + 1, _, _, by omega, by go_num, HS4.out, HB4.out⟩
            case measure => simp [intOf]; omega
    · obtain rfl : k = T.length := by omega
      have hki : decide ((T.length : Int) < (T.length : Int)) = false := decide_eq_false (by omega)
      have hs1 := HS1.out
      rw [List.take_length] at hs1
      have hkl := keepT_len T a
      have hlen1 : ((keepT T a).map (·.1)).length ≤ 1000000000 := by rw [List.length_map]; omega
      have hlen2 : ((keepT T a).map (·.2)).length ≤ 1000000000 := by rw [List.length_map]; omega
      have HL1 := Lib.hid hlen1
      have HL2 := Lib.hid hlen2
      have HS2 : Hid (Sep B w1 (Ent.blk1 gv 39 [oa, op] :: Ent.ints 3 oa ((keepT T a).map (·.1)) :: Ent.ints 3 op ((keepT T a).map (·.2)) :: Ent.blk1 gr 39 [.slice none 0 0, .slice none 0 0] :: Ent.blk1 gb 39 [.slice aa T.length ca, .slice ap T.length cp] ::
        Ent.ints 3 (.slice aa T.length ca) (T.map (·.1)) :: Ent.ints 3 (.slice ap T.length cp) (T.map (·.2)) :: F)) := Lib.hid hs1
      clear hs1 HS1 hlen1 hlen2 b1 o1
      go_wp2_with (at_builtin; refine wpList_append_int rfl (.tmp 44) (.tmp 46) rfl elemI (A := [_]) rfl HS2.out hg1 rfl HL1.out ?_)
      intro v3 w3 hs hb
      obtain ⟨e3, n3, f3, rfl⟩ := anyShape (A := [_]) hs
      obtain ⟨p0, p1⟩ := Sep.blkAt (A := []) hs (j := 0) rfl
      have HS3 := Lib.hid (Sep.blkSet (A := []) hs 0 (.slice e3 n3 f3))
      have HB3 := Lib.hid ((HB1.out.trans hb).setCell (p := ⟨gv, 0, none⟩) (Sep.blkLt (A := []) hs).1 (.slice e3 n3 f3))
      clear hs hb HS2 HB1 hg1 o0
      go_upto_region 9 with fail
      clear p0 p1
      generalize w3.setCell ⟨gv, 0, none⟩ (.slice e3 n3 f3) = w4 at *
      have hg4 : B ≤ w4.heap.size := Nat.le_trans hB HB3.out.size
      have o1 := (Sep.blkAt (A := []) HS3.out (j := 1) rfl).1
      go_wp2_with (at_builtin; refine wpList_append_int rfl (.tmp 50) (.tmp 52) rfl elemI (A := [_, _]) rfl HS3.out hg4 rfl HL2.out ?_)
      intro v5 w5 hs hb
      obtain ⟨e5, n5, f5, rfl⟩ := anyShape (A := [_, _]) hs
      obtain ⟨p0, p1⟩ := Sep.blkAt (A := []) hs (j := 1) rfl
      have hs5 := Sep.blkSet (A := []) hs 1 (.slice e5 n5 f5)
      have HB5 := Lib.hid ((HB3.out.trans hb).setCell (p := ⟨gv, 1, none⟩) (Sep.blkLt (A := []) hs).1 (.slice e5 n5 f5))
      obtain ⟨N, hN⟩ : ∃ N, N = keepT T a ++ [(a, p)] := ⟨_, rfl⟩
      have hs6 : Sep B (w5.setCell ⟨gv, 1, none⟩ (.slice e5 n5 f5)) (swR gb gr gv (.slice e3 n3 f3) (.slice e5 n5 f5) (.slice aa T.length ca) (.slice ap T.length cp) N T F) := by
        unfold swR
        rw [hN, List.map_append, List.map_append]
        exact hs5
      have hnl : N.length ≤ 10 := by rw [hN, List.length_append, List.length_singleton]; omega
      have HS6 := Lib.hid hs6
      have HN := Lib.hid hN
      clear hs hb hs5 hs6 HS3 HB3 hg4 o1 hN
      go_upto_region 10 with fail
      clear p0 p1
      generalize w5.setCell ⟨gv, 1, none⟩ (.slice e5 n5 f5) = w6 at *
      obtain ⟨a9, c9, he⟩ := mapShape (A := [_]) HS6.out
      cases he
      obtain ⟨a9, c9, he⟩ := mapShape (A := [_, _]) HS6.out
      cases he
      obtain ⟨q0, f0⟩ := Sep.blkAt (A := []) HS6.out (j := 0) rfl
      obtain ⟨q1, f1⟩ := Sep.blkAt (A := []) HS6.out (j := 1) rfl
      by_cases h8 : 8 < N.length
      · have h8d : decide ((8 : Int) < (N.length : Int)) = true := decide_eq_true (by omega)
        have hk1 : 1 ≤ N.length := by omega
        have hHF : heardF T a p = N.drop 1 := by unfold heardF; rw [← HN.out, if_pos h8]
        obtain ⟨y0, hy0⟩ : ∃ y, N[0]? = some y := ⟨_, List.getElem?_eq_getElem (by omega)⟩
        obtain ⟨b3, o3, rfl, -⟩ := intsAtN (A := [_]) HS6.out (List.length_map _).symm (j := 0) (x := y0.1) (by rw [List.getElem?_map, hy0]; rfl)
        obtain ⟨b5, o5, rfl, -⟩ := intsAtN (A := [_, _]) HS6.out (List.length_map _).symm (j := 0) (x := y0.2) (by rw [List.getElem?_map, hy0]; rfl)
        obtain ⟨hc3, hs7⟩ := intsCutS (A := [_]) HS6.out (List.length_map _).symm (by omega)
        obtain ⟨hc5, hs8⟩ := intsCutS (A := [_, _]) hs7 (List.length_map _).symm (by omega)
        have HC3 := Lib.hid hc3
        have HC5 := Lib.hid hc5
        clear hy0 hc3 hc5
        have hs9 := Sep.blkSet (A := []) hs8 0 (.slice (some ⟨b3, o3 + 1, none⟩) (N.length - 1) (f3 - 1))
        have hb9 := HB5.out.setCell (p := ⟨gv, 0, none⟩) (Sep.blkLt (A := []) HS6.out).1 (.slice (some ⟨b3, o3 + 1, none⟩) (N.length - 1) (f3 - 1))
        have HS9 := Lib.hid hs9
        have HB9 := Lib.hid hb9
        have HHF := Lib.hid hHF
        clear hs7 hs8 hs9 hb9 h8 hHF HS6 HB5
        go_upto_region 12 with (refine wpList_slice_from rfl (.tmp 60) (.const (.int .i64 1)) rfl elemI _ _ _ rfl 1 .i64 rfl hk1 ?_; rw [HC3.out])
        clear q0 f0 q1 f1
        generalize w6.setCell ⟨gv, 0, none⟩ (.slice (some ⟨b3, o3 + 1, none⟩) (N.length - 1) (f3 - 1)) = w7 at *
        obtain ⟨q1, f1⟩ := Sep.blkAt (A := []) HS9.out (j := 1) rfl
        have hs10 := Sep.blkSet (A := []) HS9.out 1 (.slice (some ⟨b5, o5 + 1, none⟩) (N.length - 1) (f5 - 1))
        have hb10 := HB9.out.setCell (p := ⟨gv, 1, none⟩) (Sep.blkLt (A := []) HS9.out).1 (.slice (some ⟨b5, o5 + 1, none⟩) (N.length - 1) (f5 - 1))
        have HS10 : Hid (Sep B (w7.setCell ⟨gv, 1, none⟩ (.slice (some ⟨b5, o5 + 1, none⟩) (N.length - 1) (f5 - 1))) (swR gb gr gv (.slice (some ⟨b3, o3 + 1, none⟩) (N.length - 1) (f3 - 1)) (.slice (some ⟨b5, o5 + 1, none⟩) (N.length - 1) (f5 - 1)) (.slice aa T.length ca) (.slice ap T.length cp) (N.drop 1) T F)) := Lib.hid (by
          unfold swR
          rw [List.map_drop, List.map_drop]
          exact hs10)
        have HB10 := Lib.hid hb10
        clear hs10 hb10 HS9 HB9
        go_upto_region 13 with (refine wpList_slice_from rfl (.tmp 64) (.const (.int .i64 1)) rfl elemI _ _ _ rfl 1 .i64 rfl hk1 ?_; rw [HC5.out])
        clear q1 f1
        generalize w7.setCell ⟨gv, 1, none⟩ (.slice (some ⟨b5, o5 + 1, none⟩) (N.length - 1) (f5 - 1)) = w8 at *
        obtain ⟨q0, -⟩ := Sep.blkAt (A := []) HS10.out (j := 0) rfl
        obtain ⟨q1, -⟩ := Sep.blkAt (A := []) HS10.out (j := 1) rfl
        obtain ⟨z0, y0⟩ := Sep.blkAt (A := [_, _, _]) HS10.out (j := 0) rfl
        obtain ⟨z1, y1⟩ := Sep.blkAt (A := [_, _, _]) HS10.out (j := 1) rfl
        obtain ⟨he1, he2, k0, k1⟩ := swR_end HS10.out HB10.out
        have HE1 := Lib.hid he1
        have HE2 := Lib.hid he2
        clear he1 he2 HS10 HB10
        go_wp2
        try simp only [Exit.inBlock, Exit.then]
        refine bodyPost_ret (v := .agg #[.slice (some ⟨b3, o3 + 1, none⟩) (N.length - 1) (f3 - 1), .slice (some ⟨b5, o5 + 1, none⟩) (N.length - 1) (f5 - 1)]) (by simp [results, Tryd.results15, go_sem, k0, k1]) rfl ⟨_, _, rfl, by rw [HHF.out]; exact HE1.out, HE2.out⟩
      · have h8d : decide ((8 : Int) < (N.length : Int)) = false := decide_eq_false (by omega)
        have h8e : decide (8 < N.length) = false := decide_eq_false h8
        have hHF : heardF T a p = N := by unfold heardF; rw [← HN.out, if_neg h8]
        obtain ⟨z0, y0⟩ := Sep.blkAt (A := [_, _, _]) HS6.out (j := 0) rfl
        obtain ⟨z1, y1⟩ := Sep.blkAt (A := [_, _, _]) HS6.out (j := 1) rfl
        obtain ⟨he1, he2, k0, k1⟩ := swR_end HS6.out HB5.out
        have HE1 := Lib.hid he1
        have HE2 := Lib.hid he2
        have HHF := Lib.hid hHF
        clear he1 he2 hHF h8
        go_wp2
        try simp only [Exit.inBlock, Exit.then]
        refine bodyPost_ret (v := .agg #[.slice e3 N.length f3, .slice e5 N.length f5]) (by simp [results, Tryd.results15, go_sem, k0, k1]) rfl ⟨_, _, rfl, by rw [HHF.out]; exact HE1.out, HE2.out⟩

end Go.Proofs.YtommedhaaojgiaaDoor
