/- ferryhytheref4.Nat: Drop, by value. -/
import Derived.Test.YtnmddgjgmdegoaaDoorNatRefOut
namespace Go.Proofs.YtnmddgjgmdegoaaDoor
open Go.RowKit Go.Maps
set_option linter.unusedVariables false
set_option maxRecDepth 100000

def dropE (gb gr : Nat) (low many : Int) (sp sq : Value) (F : List Ent) : List Ent :=
  Ent.blk1 gr 45 [.int .i64 0, .int .i64 0, .slice none 0 0, .slice none 0 0] :: Ent.blk1 gb 45 [.int .i64 low, .int .i64 many, sp, sq] :: F
theorem dropE_end {B gb gr : Nat} {w w0 : World} {low many : Int} {sp sq : Value} {M : NatM} {F : List Ent} (h : Sep B w (rwE sp sq M (dropE gb gr low many sp sq F))) (hb : Below B w0 w) :
    ∃ w', w' = (((w.setCell ⟨gr, 0, none⟩ (.int .i64 low)).setCell ⟨gr, 1, none⟩ (.int .i64 many)).setCell ⟨gr, 2, none⟩ sp).setCell ⟨gr, 3, none⟩ sq ∧ Sep B w' (rwE sp sq M F) ∧ Below B w0 w' ∧
      w'.cell? ⟨gr, 0, none⟩ = some (.int .i64 low) ∧ w'.cell? ⟨gr, 1, none⟩ = some (.int .i64 many) ∧ w'.cell? ⟨gr, 2, none⟩ = some sp ∧ w'.cell? ⟨gr, 3, none⟩ = some sq := by
  have h1 := Sep.blkSet (A := [_, _]) h 0 (.int .i64 low)
  have h2 := Sep.blkSet (A := [_, _]) h1 1 (.int .i64 many)
  have h3 := Sep.blkSet (A := [_, _]) h2 2 sp
  have h4 := Sep.blkSet (A := [_, _]) h3 3 sq
  have hl := (Sep.blkLt (A := [_, _]) h).1
  refine ⟨_, rfl, h4.sub (List.Sublist.cons_cons _ (List.Sublist.cons_cons _ (List.Sublist.cons _ (List.Sublist.cons _ (List.Sublist.refl _))))), (((hb.setCell (p := ⟨gr, 0, none⟩) hl _).setCell (p := ⟨gr, 1, none⟩) hl _).setCell (p := ⟨gr, 2, none⟩) hl _).setCell (p := ⟨gr, 3, none⟩) hl _, ?_, ?_, ?_, ?_⟩
  · exact (Sep.blkAt (A := [_, _]) h4 (j := 0) rfl).1
  · exact (Sep.blkAt (A := [_, _]) h4 (j := 1) rfl).1
  · exact (Sep.blkAt (A := [_, _]) h4 (j := 2) rfl).1
  · exact (Sep.blkAt (A := [_, _]) h4 (j := 3) rfl).1
theorem dropE_cells {B gb gr : Nat} {w : World} {low many : Int} {sp sq : Value} {M : NatM} {sp' sq' : Value} {F : List Ent} (h : Sep B w (rwE sp' sq' M (dropE gb gr low many sp sq F))) :
    (w.cell? ⟨gb, 0, none⟩ = some (.int .i64 low) ∧ w.cell? ⟨gb, 1, none⟩ = some (.int .i64 many) ∧ w.cell? ⟨gb, 2, none⟩ = some sp ∧ w.cell? ⟨gb, 3, none⟩ = some sq) ∧
    (w.cell? ⟨gr, 0, none⟩ = some (.int .i64 0) ∧ w.cell? ⟨gr, 1, none⟩ = some (.int .i64 0) ∧ w.cell? ⟨gr, 2, none⟩ = some (.slice none 0 0) ∧ w.cell? ⟨gr, 3, none⟩ = some (.slice none 0 0)) ∧
    w.frozen? ⟨gr, 0, none⟩ = false ∧ w.frozen? ⟨gr, 1, none⟩ = false ∧ w.frozen? ⟨gr, 2, none⟩ = false ∧ w.frozen? ⟨gr, 3, none⟩ = false ∧ w.frozen? ⟨gb, 2, none⟩ = false ∧ w.frozen? ⟨gb, 3, none⟩ = false :=
  ⟨⟨(Sep.blkAt (A := [_, _, _]) h (j := 0) rfl).1, (Sep.blkAt (A := [_, _, _]) h (j := 1) rfl).1, (Sep.blkAt (A := [_, _, _]) h (j := 2) rfl).1, (Sep.blkAt (A := [_, _, _]) h (j := 3) rfl).1⟩,
    ⟨(Sep.blkAt (A := [_, _]) h (j := 0) rfl).1, (Sep.blkAt (A := [_, _]) h (j := 1) rfl).1, (Sep.blkAt (A := [_, _]) h (j := 2) rfl).1, (Sep.blkAt (A := [_, _]) h (j := 3) rfl).1⟩,
    (Sep.blkAt (A := [_, _]) h (j := 0) rfl).2, (Sep.blkAt (A := [_, _]) h (j := 1) rfl).2, (Sep.blkAt (A := [_, _]) h (j := 2) rfl).2, (Sep.blkAt (A := [_, _]) h (j := 3) rfl).2, (Sep.blkAt (A := [_, _, _]) h (j := 2) rfl).2, (Sep.blkAt (A := [_, _, _]) h (j := 3) rfl).2⟩
theorem erase_skip {M : NatM} {k : Nat} {x : Int × Pl} (hx : M[k]? = some x) : (M.take (k + 1)).eraseIdx k = (M.take k).eraseIdx k := by
  have hl : (M.take k).length = k := by have := (List.getElem?_eq_some_iff.1 hx).1; rw [List.length_take]; omega
  rw [List.take_add_one, hx, List.eraseIdx_of_length_le (l := M.take k) (by omega), List.eraseIdx_append_of_length_le (by omega), hl, Nat.sub_self]
  simp
theorem erase_add {M : NatM} {k j : Nat} {x : Int × Pl} (hx : M[k]? = some x) (hne : k ≠ j) : (M.take (k + 1)).eraseIdx j = (M.take k).eraseIdx j ++ [x] := by
  have hl : (M.take k).length = k := by have := (List.getElem?_eq_some_iff.1 hx).1; rw [List.length_take]; omega
  rw [List.take_add_one, hx]
  rcases Nat.lt_or_ge j k with h | h
  · rw [List.eraseIdx_append_of_lt_length (by omega)]; rfl
  · rw [List.eraseIdx_of_length_le (l := M.take k) (by omega), List.eraseIdx_of_length_le (by rw [List.length_append, hl]; simp; omega)]; rfl
set_option maxHeartbeats 4000000 in
theorem refDrop_any (B : Nat) (low many : Int) (sp sq : Value) (M : NatM) (F : List Ent) (q : Int) (w : World) (hok : NatOk low many M) (h : Sep B w (rwE sp sq M F)) (hB : B ≤ w.heap.size) (hl : M.length ≤ 1000) :
    Calls Tryd.prog 18 #[.agg #[.int .i64 low, .int .i64 many, sp, sq], .int .i64 q] w fun e w' => ∃ sp' sq', e = .returned (.tuple #[.agg #[.int .i64 low, .int .i64 many, sp', sq'], .int .i64 (natDrop M q).2]) ∧
      Sep B w' (rwE sp' sq' (natDrop M q).1 F) ∧ Below B w w' := by
  obtain ⟨⟨ao, ac, rfl⟩, bo, bc, rfl⟩ := rw_shape h
  have hs1 := h.blkNew hB #[.int .i64 low, .int .i64 many, .slice ao M.length ac, .slice bo M.length bc] 45
  have hs3 := hs1.blkNew (by simp; omega) #[.int .i64 0, .int .i64 0, .slice none 0 0, .slice none 0 0] 45
  have e1 : (w.alloc (.cells #[.int .i64 low, .int .i64 many, .slice ao M.length ac, .slice bo M.length bc] 45)).heap.size = w.heap.size + 1 := by simp
  rw [e1] at hs3
  have hb0 := ((Below.refl B w).alloc hB (.cells #[.int .i64 low, .int .i64 many, .slice ao M.length ac, .slice bo M.length bc] 45)).alloc (by simp; omega) (.cells #[.int .i64 0, .int .i64 0, .slice none 0 0, .slice none 0 0] 45)
  obtain ⟨gr, hgr⟩ : ∃ x, x = w.heap.size + 1 := ⟨_, rfl⟩
  obtain ⟨gb, hgb⟩ : ∃ x, x = w.heap.size := ⟨_, rfl⟩
  rw [← hgr, ← hgb] at hs3
  obtain ⟨w0, hw0⟩ : ∃ w0, w0 = (w.alloc (.cells #[.int .i64 low, .int .i64 many, .slice ao M.length ac, .slice bo M.length bc] 45)).alloc (.cells #[.int .i64 0, .int .i64 0, .slice none 0 0, .slice none 0 0] 45) := ⟨_, rfl⟩
  rw [← hw0] at hs3 hb0
  have HS0 : Hid (Sep B w0 (rwE (.slice ao M.length ac) (.slice bo M.length bc) M (dropE gb gr low many (.slice ao M.length ac) (.slice bo M.length bc) F))) := Lib.hid (hs3.perm ((List.perm_append_comm (l₁ := [_, _]) (l₂ := [_, _])).append_right F))
  have HB0 := Lib.hid hb0
  have HW0 := Lib.hid hw0
  have HGR := Lib.hid hgr
  have HGB := Lib.hid hgb
  have HOK := Lib.hid hok
  clear h hs1 hs3 e1 hb0 hgr hgb hw0 hok
  have hg0 : B ≤ w0.heap.size := Nat.le_trans hB HB0.out.size
  obtain ⟨⟨b0, b1, b2, b3⟩, ⟨r0, r1, r2, r3⟩, f0, f1, f2, f3, fb2, fb3⟩ := dropE_cells HS0.out
  go_enter Tryd.func18, Tryd.ntmps18
  go_upto_region 1 with fail
  rw [← HW0.out, ← HGR.out, ← HGB.out]
  clear HW0
  go_wp2_with fail
  refine (refAt_any B low many _ _ M _ q w0 HS0.out hl).mono ?_
  rintro e w1 ⟨rfl, hb⟩
  have HS1 := Lib.hid (HS0.out.kept hb)
  have HB1 := Lib.hid (HB0.out.trans (hb.mono hg0))
  have hg1 : B ≤ w1.heap.size := Nat.le_trans hB HB1.out.size
  clear b0 b1 b2 b3 r0 r1 r2 r3 f0 f1 f2 f3 fb2 fb3
  clear hb HS0 HB0 hg0
  obtain ⟨⟨b0, b1, b2, b3⟩, ⟨r0, r1, r2, r3⟩, f0, f1, f2, f3, fb2, fb3⟩ := dropE_cells HS1.out
  cases hj : atOf M q with
  | none =>
    have e1 : natDrop M q = (M, 5) := by unfold natDrop; rw [if_pos (atOf_none.1 hj)]
    have HE := Lib.hid e1
    simp only [idxN]
    clear e1 hj
    obtain ⟨wf, hwf, he1, he2, k0, k1, k2, k3⟩ := dropE_end HS1.out HB1.out
    have HE1 := Lib.hid he1
    have HE2 := Lib.hid he2
    have HWF := Lib.hid hwf
    rw [hwf] at k0 k1 k2 k3
    clear he1 he2 hwf
    go_wp2
    try simp only [Exit.inBlock, Exit.then]
    refine bodyPost_ret (v := .tuple #[.agg #[.int .i64 low, .int .i64 many, .slice ao M.length ac, .slice bo M.length bc], .int .i64 5]) (by simp [results, Tryd.results18, go_sem, k0, k1, k2, k3]) rfl ?_
    rw [← HWF.out]
    rw [HE.out]
    exact ⟨_, _, rfl, HE1.out, HE2.out⟩
  | some j =>
    have hjn : decide (((j : Nat) : Int) < 0) = false := decide_eq_false (by omega)
    obtain ⟨p, hmj⟩ := atOf_some hj
    have hpl := HOK.out.place_is.2 (List.mem_iff_getElem?.2 ⟨j, hmj⟩)
    have e1 : natDrop M q = (M.eraseIdx j, 0) := by
      obtain ⟨i, hi, he⟩ := HOK.out.erase hpl
      have hij := nodup_place HOK.out.ports hi hmj rfl
      unfold natDrop
      rw [if_neg (by rw [hpl]; simp), he, hij]
    have HE := Lib.hid e1
    have HS2 : Hid (Sep B w1 (Ent.ints 3 (.slice none 0 0) (((M.take 0).eraseIdx j).map (·.1)) :: Ent.row (.slice none 0 0) ((M.take 0).eraseIdx j).length 2 24 (((M.take 0).eraseIdx j).flatMap plC) :: rwE (.slice ao M.length ac) (.slice bo M.length bc) M (dropE gb gr low many (.slice ao M.length ac) (.slice bo M.length bc) F))) := Lib.hid ((HS1.out.rowNil 2 24).intsNil 3)
    simp only [idxN]
    clear e1 hj hmj hpl
    go_wp2
    go_loopw [7, 8, 9] (fun vp vq iv wr => ∃ (k : Nat) (sp sq : Value), sp = vp ∧ sq = vq ∧ k ≤ M.length ∧ iv = .int .i64 k ∧ Sep B wr (Ent.ints 3 sp (((M.take k).eraseIdx j).map (·.1)) :: Ent.row sq ((M.take k).eraseIdx j).length 2 24 (((M.take k).eraseIdx j).flatMap plC) :: rwE (.slice ao M.length ac) (.slice bo M.length bc) M (dropE gb gr low many (.slice ao M.length ac) (.slice bo M.length bc) F)) ∧ Below B w wr) (fun _ _ iv _ => M.length - (intOf iv).toNat)
    case atStart => exact ⟨0, _, _, rfl, rfl, Nat.zero_le _, rfl, HS2.out, HB1.out⟩
    case round =>
      obtain ⟨k, sp, sq, rfl, rfl, hk, rfl, hsep, hbel⟩ := hrel
      clear b0 b1 b2 b3 r0 r1 r2 r3 f0 f1 f2 f3 fb2 fb3
      clear HS1 HB1 hg1 HS2
      have HS3 := Lib.hid hsep
      have HB3 := Lib.hid hbel
      have HR3 := Lib.hid (hsep.sub (List.Sublist.cons _ (List.sublist_cons_self _ _)))
      obtain ⟨w3, hw3⟩ : ∃ w3, w3 = wr := ⟨_, rfl⟩
      obtain rfl := hw3
      have hg3 : B ≤ w3.heap.size := Nat.le_trans hB HB3.out.size
      clear hsep hbel
      obtain ⟨⟨b0, b1, b2, b3⟩, ⟨r0, r1, r2, r3⟩, f0, f1, f2, f3, fb2, fb3⟩ := dropE_cells HR3.out
      have hkl : ((M.take k).eraseIdx j).length ≤ 1000 := by
        have h1 := List.length_eraseIdx_le (M.take k) j
        have h2 := List.length_take_le k M
        have h3 : (M.take k).length ≤ M.length := by rw [List.length_take]; omega
        omega
      have HKL := Lib.hid (show (((M.take k).eraseIdx j).map (·.1)).length ≤ 1000000000 by rw [List.length_map]; omega)
      have HKL2 := Lib.hid (show ((M.take k).eraseIdx j).length ≤ 1000000000 by omega)
      clear hkl
      by_cases hlt : k < M.length
      · have hki : (k : Int) < (M.length : Int) := by omega
        have hk0 : (0 : Int) ≤ (k : Int) := by omega
        obtain ⟨x, hx⟩ : ∃ x, M[k]? = some x := ⟨_, List.getElem?_eq_getElem hlt⟩
        by_cases hkj : k = j
        · have hne : ((k : Int) != (j : Int)) = false := by simp [hkj]
          have hnx : (M.take (k + 1)).eraseIdx j = (M.take k).eraseIdx j := by rw [← hkj]; exact erase_skip hx
          have HNX := Lib.hid hnx
          clear hx hkj hnx
          go_wp2
          go_roundw
          case rel => exact ⟨k + 1, _, _, rfl, rfl, by omega, by go_num, by rw [HNX.out]; exact HS3.out, HB3.out⟩
          case measure => simp [intOf]; omega
        · have hne : ((k : Int) != (j : Int)) = true := by simp; omega
          have HNX := Lib.hid (erase_add hx hkj)
          obtain ⟨a, o, b, q', rfl, rfl, d0, d1, d2⟩ := rw_at HR3.out hx
          have HX := Lib.hid hx
          clear hx hkj
          go_wp2_with (at_builtin; refine wpList_append_int rfl (.tmp 26) (.tmp 32) rfl elemInt8 (A := []) rfl HS3.out hg3 rfl HKL.out ?_)
          intro v4 w4 hs hb
          have HS4 := Lib.hid hs
          have HB4 := Lib.hid (HB3.out.trans hb)
          have HR4 := Lib.hid (hs.sub (List.Sublist.cons _ (List.sublist_cons_self _ _)))
          have hg4 : B ≤ w4.heap.size := Nat.le_trans hB HB4.out.size
          clear b0 b1 b2 b3 r0 r1 r2 r3 f0 f1 f2 f3 fb2 fb3
          clear hs hb d0 d1 d2 HS3 HB3 HR3 hg3
          obtain ⟨⟨b0, b1, b2, b3⟩, ⟨r0, r1, r2, r3⟩, f0, f1, f2, f3, fb2, fb3⟩ := dropE_cells HR4.out
          obtain ⟨_, _, _, _, he1, he2, d0, d1, d2⟩ := rw_at HR4.out HX.out
          cases he1
          cases he2
          go_wp2_with (at_builtin; refine wpList_append_pl (y := x) rfl (.tmp 34) (.tmp 40) rfl elemPl (A := [_]) rfl HS4.out hg4 rfl HKL2.out ?_)
          intro v5 w5 hs hb
          have HS5 : Hid (Sep B w5 (Ent.ints 3 v4 (((M.take (k + 1)).eraseIdx j).map (·.1)) :: Ent.row v5 ((M.take (k + 1)).eraseIdx j).length 2 24 (((M.take (k + 1)).eraseIdx j).flatMap plC) :: rwE (.slice (some ⟨a, o, none⟩) M.length ac) (.slice (some ⟨b, q', none⟩) M.length bc) M (dropE gb gr low many (.slice (some ⟨a, o, none⟩) M.length ac) (.slice (some ⟨b, q', none⟩) M.length bc) F))) := Lib.hid (by
            rw [HNX.out, List.map_append, show ((M.take k).eraseIdx j ++ [x]).length = ((M.take k).eraseIdx j).length + 1 by simp, show ((M.take k).eraseIdx j ++ [x]).flatMap plC = ((M.take k).eraseIdx j).flatMap plC ++ plC x by simp]
            simpa using hs)
          have HB5 := Lib.hid (HB4.out.trans hb)
          clear b0 b1 b2 b3 r0 r1 r2 r3 f0 f1 f2 f3 fb2 fb3
          clear hs hb d0 d1 d2 HS4 HB4 HR4 hg4
          go_wp2
          go_roundw
          case rel => exact ⟨k + 1, _, _, rfl, rfl, by omega, by go_num, HS5.out, HB5.out⟩
          case measure => simp [intOf]; omega
      · obtain rfl : k = M.length := by omega
        have hki : decide ((M.length : Int) < (M.length : Int)) = false := decide_eq_false (by omega)
        have hs := HS3.out
        rw [List.take_length] at hs
        obtain ⟨a2, n2, c2, rfl⟩ : ∃ b n c, sp = .slice b n c := by
          obtain ⟨b, c, h, -⟩ := Sep.intsShape (A := []) hs
          exact ⟨b, _, c, h⟩
        obtain ⟨a3, n3, c3, rfl⟩ : ∃ b n c, sq = .slice b n c := by
          obtain ⟨_, b, c, h, -⟩ := Sep.rowShape (A := [_]) hs
          exact ⟨b, _, c, h⟩
        have hs5 := Sep.blkSet (A := [_, _, _, _, _]) hs 2 (.slice a2 n2 c2)
        have hs6 := Sep.blkSet (A := [_, _, _, _, _]) hs5 3 (.slice a3 n3 c3)
        have hbl := (Sep.blkLt (A := [_, _, _, _, _]) hs).1
        have hb6 := (HB3.out.setCell (p := ⟨gb, 2, none⟩) hbl (.slice a2 n2 c2)).setCell (p := ⟨gb, 3, none⟩) hbl (.slice a3 n3 c3)
        have HS7 : Hid (Sep B ((w3.setCell ⟨gb, 2, none⟩ (.slice a2 n2 c2)).setCell ⟨gb, 3, none⟩ (.slice a3 n3 c3)) (rwE (.slice a2 n2 c2) (.slice a3 n3 c3) (M.eraseIdx j) (dropE gb gr low many (.slice a2 n2 c2) (.slice a3 n3 c3) F))) := Lib.hid (hs6.sub (List.Sublist.cons_cons _ (List.Sublist.cons_cons _ (List.Sublist.cons _ (List.Sublist.cons _ (List.Sublist.refl _))))))
        have HB7 := Lib.hid hb6
        clear hs hs5 hs6 hb6 hbl HS3 HB3 HR3 hg3
        go_upto_region 14 with fail
        clear b0 b1 b2 b3 r0 r1 r2 r3 f0 f1 f2 f3 fb2 fb3
        generalize (w3.setCell ⟨gb, 2, none⟩ (.slice a2 n2 c2)).setCell ⟨gb, 3, none⟩ (.slice a3 n3 c3) = w7 at *
        obtain ⟨⟨b0, b1, b2, b3⟩, ⟨r0, r1, r2, r3⟩, f0, f1, f2, f3, fb2, fb3⟩ := dropE_cells HS7.out
        obtain ⟨wf, hwf, he1, he2, k0, k1, k2, k3⟩ := dropE_end HS7.out HB7.out
        have HE1 := Lib.hid he1
        have HE2 := Lib.hid he2
        have HWF := Lib.hid hwf
        rw [hwf] at k0 k1 k2 k3
        clear he1 he2 hwf
        go_wp2
        try simp only [Exit.inBlock, Exit.then]
        refine bodyPost_ret (v := .tuple #[.agg #[.int .i64 low, .int .i64 many, .slice a2 n2 c2, .slice a3 n3 c3], .int .i64 0]) (by simp [results, Tryd.results18, go_sem, k0, k1, k2, k3]) rfl ?_
        rw [← HWF.out]
        rw [HE.out]
        exact ⟨_, _, rfl, HE1.out, HE2.out⟩
end Go.Proofs.YtnmddgjgmdegoaaDoor
