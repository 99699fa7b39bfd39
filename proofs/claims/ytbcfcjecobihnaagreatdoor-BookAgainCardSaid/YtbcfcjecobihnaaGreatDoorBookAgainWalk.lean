/- BookAgain returns true: a book, opened from its text, is as it was, also for what is set later. -/
import Derived.Test.YtbcfcjecobihnaaGreatDoorPk7
import Derived.Test.YtbcfcjecobihnaaGreatDoorPk10
import Derived.Test.YtbcfcjecobihnaaGreatDoorPk9
import Derived.Test.YtbcfcjecobihnaaGreatDoorPk11
import Derived.Test.YtbcfcjecobihnaaGreatDoorDoorLaw7
namespace Go.Proofs.YtbcfcjecobihnaaGreatDoor
open Go.RowKit
set_option linter.unusedVariables false
set_option linter.unusedSimpArgs false
set_option maxRecDepth 100000



theorem twoCells {B bb tb bb' tb' : Nat} {w : World} {b b' : Bk} {F : List Ent} (h : Two B w bb tb b (BkE bb' tb' b') F) : w.cell? ⟨bb, 0, none⟩ = some (.pointer (some ⟨tb, 0, none⟩)) ∧ w.cell? ⟨bb', 0, none⟩ = some (.pointer (some ⟨tb', 0, none⟩)) := ⟨h.cell1, h.cell2⟩
set_option maxHeartbeats 4000000 in
theorem bookAgain_walk (ao : Option Addr) (ac : Nat) (rs : List Stp) (a n x : Int) (w : World) (hdoor : Door7 w)
    (hA : RowSl w.heap.size w ao 1 (rs.map stpC)) (hac : rs.length ≤ ac) (hmax : ac ≤ maxLen) (hr : StpsB w.heap.size w rs) :
    Calls Tryz.prog 5 #[.slice ao rs.length ac, .agg #[.int .i64 a, .int .i64 n, .int .i64 x]] w fun e w' => e = .returned (.bool true) ∧ Below w.heap.size w w' := by
  have HDOOR := Lib.hid (show LibT w from hdoor)
  have HLB := Lib.hid (LibT.libB hdoor)
  obtain ⟨G, hG'⟩ : ∃ G, G = w.heap.size := ⟨_, rfl⟩
  have hG : G ≤ w.heap.size := Nat.le_of_eq hG'
  rw [← hG'] at hA hr HLB ⊢
  obtain ⟨w0, hw0⟩ : ∃ w0, w0 = w.alloc (.cells #[.int .i64 a, .int .i64 n, .int .i64 x] 40) := ⟨_, rfl⟩
  obtain ⟨g0, hg0⟩ : ∃ g0, g0 = w.heap.size := ⟨_, rfl⟩
  have hs0 : Sep G w0 [Ent.blk1 g0 40 [.int .i64 a, .int .i64 n, .int .i64 x]] := by rw [hw0, hg0]; exact Sep.blkNew (Sep.nil _ _) hG _ _
  have hb0 : Below G w w0 := by rw [hw0]; exact (Below.refl G w).alloc hG _
  have HW0 := Lib.hid hw0
  have HG0 := Lib.hid hg0
  have HB0 := Lib.hid hb0
  have HS0 := Lib.hid hs0
  have HFACT := Lib.hid (bookFact_any G _ w0 (Nat.le_trans hG hb0.size) hs0 (HDOOR.out.below hb0 HLB.out).pow HLB.out.1)
  have HTOLD := Lib.hid (fun (w1 : World) (hb : Below G w w1) (hs : Sep G w1 [Ent.blk1 g0 40 [.int .i64 a, .int .i64 n, .int .i64 x]]) => toldBk_any G _ ao ac rs w1 (Nat.le_trans hG hb.size) hs (hA.below hb) hac hmax (fun r hm => ⟨⟨(hr r hm).1.1.below hb, (hr r hm).1.2⟩, (hr r hm).2⟩) (HDOOR.out.below hb HLB.out).pow HLB.out.1)
  have hok := foldB_ok ((numsOf rs).take 70)
  obtain ⟨ops, hmade⟩ := foldB_made ((numsOf rs).take 70)
  obtain ⟨b, hb⟩ : ∃ b, b = foldB ((numsOf rs).take 70) := ⟨_, rfl⟩
  rw [← hb] at hok hmade HTOLD
  have hop := open_text hmade hok.2
  have HOPEN := Lib.hid (fun (E : List Ent) (w1 : World) (h : G ≤ w1.heap.size) (hs : Sep G w1 (E ++ [Ent.blk1 g0 40 [.int .i64 a, .int .i64 n, .int .i64 x]])) (hT : LibT w1) => bookOpen_any G _ b.2.1 w1 h hs hT HLB.out)
  rw [hop] at HOPEN
  have HSET := Lib.hid (fun (bb tb : Nat) (F : List Ent) (w1 : World) (h : G ≤ w1.heap.size) (hm : BkM G w1 bb tb b F) (hp : PowT w1) => bookSet_any G bb tb b F a n x w1 h hm hok hp HLB.out.1)
  clear hdoor hA hr hG' hw0 hg0 hb0 hs0 hok hmade hb hop hac hmax
  go_enter Tryz.func5, Tryz.ntmps5
  go_upto_region 1 with fail
  rw [← HW0.out, ← HG0.out]
  clear HW0 HG0
  go_wp2_with fail
  refine HFACT.out.mono ?_
  rintro e w1 ⟨rfl, hs, hb⟩
  have HS1 := Lib.hid hs
  have HB1 := Lib.hid (HB0.out.trans hb)
  clear hs hb HFACT HS0 HB0
  go_wp2_with fail
  refine (HTOLD.out w1 HB1.out HS1.out).mono ?_
  rintro e w2 ⟨bb, tb, rfl, ht, hb⟩
  have HT2 := Lib.hid ht
  have HB2 := Lib.hid (HB1.out.trans hb)
  clear ht hb HTOLD HS1 HB1
  go_wp2_with fail
  refine (text_any HT2.out).mono ?_
  rintro e w3 ⟨rfl, ht, hb⟩
  have HT3 := Lib.hid (show BkM G w3 bb tb b _ from ht)
  have HB3 := Lib.hid (HB2.out.trans hb)
  clear ht hb HT2 HB2
  go_wp2_with fail
  obtain ⟨E, hE, hsE⟩ := bkM_iff.1 HT3.out
  refine (HOPEN.out E w3 (Nat.le_trans hG HB3.out.size) hsE (HDOOR.out.below HB3.out HLB.out)).mono ?_
  rintro e w4 ⟨ob, ot, rfl, ht, -, hb⟩
  rw [errV_zero]
  have HT4 := Lib.hid (two_of_open hE ht)
  have HB4 := Lib.hid (HB3.out.trans hb)
  clear ht hb HT3 HB3 hE hsE HOPEN
  go_upto_region 6 with fail
  obtain ⟨w5, hw5⟩ : ∃ w5, w5 = w4.drew := ⟨_, rfl⟩
  have HT5 := Lib.hid (show Two G w5 bb tb _ (BkE ob ot _) _ by rw [hw5]; exact Two.kept HT4.out (below_drew _ _))
  have HB5 := Lib.hid (show Below G w w5 by rw [hw5]; exact HB4.out.drew)
  have HST5 := Lib.hid (twoCells HT5.out)
  refine wp_region_held_drew (S := fun w' => w'.cell? ⟨bb, 0, none⟩ = some (.pointer (some ⟨tb, 0, none⟩)) ∧ w'.cell? ⟨ob, 0, none⟩ = some (.pointer (some ⟨ot, 0, none⟩))) (by kernel_rfl) (by simp only [← hw5]; exact HST5.out) (fun hHeld => ?_)
  rw [← hw5] at hHeld ⊢
  clear HT4 HB4 hw5
  refine wpAnyH_take (i := 0) (v := ?va0) rfl (by kernel_rfl) (by kernel_rfl) (by kernel_rfl) (fun _ _ _ h => h) (Or.inl ⟨by rfl, ?hya0⟩) (by assumption) ?resta0
  case hya0 =>
    intro w hSw
    try dsimp only at hSw
    go_simp
    try with_reducible rfl
  try simp only [Act.put, List.setIfInBounds_toArray, List.set_cons_zero, List.set_cons_succ, List.getElem_toArray, List.getElem_cons_zero]
  refine wpAnyH_take (i := 1) (v := ?va1) rfl (by kernel_rfl) (by kernel_rfl) (by kernel_rfl) (fun _ _ _ h => h) (Or.inl ⟨by rfl, ?hya1⟩) (by assumption) ?resta1
  case hya1 =>
    intro w hSw
    try dsimp only at hSw
    go_simp
    try with_reducible rfl
  try simp only [Act.put, List.setIfInBounds_toArray, List.set_cons_zero, List.set_cons_succ, List.getElem_toArray, List.getElem_cons_zero, List.getElem_cons_succ]
  refine wpAnyH_take (i := 2) (v := ?va2) rfl (by kernel_rfl) (by kernel_rfl) (by kernel_rfl) (fun _ _ _ h => h) (Or.inl ⟨by rfl, ?hya2⟩) (by assumption) ?resta2
  case hya2 =>
    intro w hSw
    try dsimp only at hSw
    go_simp
    try with_reducible rfl
  try simp only [Act.put, List.setIfInBounds_toArray, List.set_cons_zero, List.set_cons_succ, List.getElem_toArray, List.getElem_cons_zero, List.getElem_cons_succ]
  refine wpAnyH_take (i := 3) (v := ?va3) rfl (by kernel_rfl) (by kernel_rfl) (by kernel_rfl) (fun _ _ _ h => h) (Or.inl ⟨by rfl, ?hya3⟩) (by assumption) ?resta3
  case hya3 =>
    intro w hSw
    try dsimp only at hSw
    go_simp
    try with_reducible rfl
  try simp only [Act.put, List.setIfInBounds_toArray, List.set_cons_zero, List.set_cons_succ, List.getElem_toArray, List.getElem_cons_zero, List.getElem_cons_succ]
  refine wpAnyH_take (i := 5) (v := ?va5) rfl (by kernel_rfl) (by kernel_rfl) (by kernel_rfl) (fun _ _ _ h => h) (Or.inl ⟨by rfl, ?hya5⟩) (by assumption) ?resta5
  case hya5 =>
    intro w hSw
    try dsimp only at hSw
    go_simp
    try with_reducible rfl
  try simp only [Act.put, List.setIfInBounds_toArray, List.set_cons_zero, List.set_cons_succ, List.getElem_toArray, List.getElem_cons_zero, List.getElem_cons_succ]
  refine wpAnyH_ready (rs := [4]) (by kernel_rfl) (by simp) ?_
  refine AllReadyH.cons rfl (fun K hK => ?_) AllReadyH.nil
  go_simp
  go_at_call 15
  obtain ⟨FF, hm, hbk⟩ := Two.bk2 HT5.out
  refine (text_any hm).mono ?_
  rintro e w6 ⟨rfl, ht, hb⟩
  have HT6 := Lib.hid (hbk _ _ ht)
  have HB6 := Lib.hid (HB5.out.trans hb)
  have HST6 := Lib.hid (twoCells HT6.out)
  clear hm hbk ht hb HT5 HB5 HST5
  go_wp2_with fail
  refine hK.out _ _ ?_ (fun hHeld4 => ?_)
  · exact HST6.out
  clear hK K
  try simp only [Act.put, List.setIfInBounds_toArray, List.set_cons_zero, List.set_cons_succ, List.getElem_toArray, List.getElem_cons_zero, List.getElem_cons_succ]
  refine wpAnyH_ready (rs := [6]) (by kernel_rfl) (by simp) ?_
  refine AllReadyH.cons rfl (fun K hK => ?_) AllReadyH.nil
  go_simp
  go_at_call 15
  obtain ⟨FF, hm, hbk⟩ := Two.one HT6.out
  refine (text_any hm).mono ?_
  rintro e w7 ⟨rfl, ht, hb⟩
  have HT7 := Lib.hid (hbk _ _ ht)
  have HB7 := Lib.hid (HB6.out.trans hb)
  have HST7 := Lib.hid (twoCells HT7.out)
  clear hm hbk ht hb HT6 HB6 HST6
  go_wp2_with fail
  refine hK.out _ _ ?_ (fun hHeld6 => ?_)
  · exact HST7.out
  clear hK K
  try simp only [Act.put, List.setIfInBounds_toArray, List.set_cons_zero, List.set_cons_succ, List.getElem_toArray, List.getElem_cons_zero, List.getElem_cons_succ]
  refine wpAnyH_take (i := 7) (v := ?va7) rfl (by kernel_rfl) (by kernel_rfl) (by kernel_rfl) (fun _ _ _ h => h) (Or.inl ⟨by rfl, ?hya7⟩) (by assumption) ?resta7
  case hya7 =>
    intro w hSw
    try dsimp only at hSw
    go_simp
    try with_reducible rfl
  try simp only [Act.put, List.setIfInBounds_toArray, List.set_cons_zero, List.set_cons_succ, List.getElem_toArray, List.getElem_cons_zero, List.getElem_cons_succ]
  refine wpAnyH_take (i := 8) (v := ?va8) rfl (by kernel_rfl) (by kernel_rfl) (by kernel_rfl) (fun _ _ _ h => h) (Or.inl ⟨by rfl, ?hya8⟩) (by assumption) ?resta8
  case hya8 =>
    intro w hSw
    try dsimp only at hSw
    go_simp
    try with_reducible rfl
  try simp only [Act.put, List.setIfInBounds_toArray, List.set_cons_zero, List.set_cons_succ, List.getElem_toArray, List.getElem_cons_zero, List.getElem_cons_succ]
  refine wpAnyH_take (i := 9) (v := ?va9) rfl (by kernel_rfl) (by kernel_rfl) (by kernel_rfl) (fun _ _ _ h => h) (Or.inl ⟨by rfl, ?hya9⟩) (by assumption) ?resta9
  case hya9 =>
    intro w hSw
    try dsimp only at hSw
    go_simp
    try with_reducible rfl
  try simp only [Act.put, List.setIfInBounds_toArray, List.set_cons_zero, List.set_cons_succ, List.getElem_toArray, List.getElem_cons_zero, List.getElem_cons_succ]
  refine wpAnyH_take (i := 10) (v := ?va10) rfl (by kernel_rfl) (by kernel_rfl) (by kernel_rfl) (fun _ _ _ h => h) (Or.inl ⟨by rfl, ?hya10⟩) (by assumption) ?resta10
  case hya10 =>
    intro w hSw
    try dsimp only at hSw
    go_simp
    try with_reducible rfl
  try simp only [Act.put, List.setIfInBounds_toArray, List.set_cons_zero, List.set_cons_succ, List.getElem_toArray, List.getElem_cons_zero, List.getElem_cons_succ]
  refine wpAnyH_take (i := 11) (v := ?va11) rfl (by kernel_rfl) (by kernel_rfl) (by kernel_rfl) (fun _ _ _ h => h) (Or.inl ⟨by rfl, ?hya11⟩) (by assumption) ?resta11
  case hya11 =>
    intro w hSw
    try dsimp only at hSw
    go_simp
    try with_reducible rfl
  try simp only [Act.put, List.setIfInBounds_toArray, List.set_cons_zero, List.set_cons_succ, List.getElem_toArray, List.getElem_cons_zero, List.getElem_cons_succ]
  refine wpAnyH_take (i := 12) (v := ?va12) rfl (by kernel_rfl) (by kernel_rfl) (by kernel_rfl) (fun _ _ _ h => h) (Or.inl ⟨by rfl, ?hya12⟩) (by assumption) ?resta12
  case hya12 =>
    intro w hSw
    try dsimp only at hSw
    go_simp
    try with_reducible rfl
  try simp only [Act.put, List.setIfInBounds_toArray, List.set_cons_zero, List.set_cons_succ, List.getElem_toArray, List.getElem_cons_zero, List.getElem_cons_succ]
  refine wpAnyH_take (i := 13) (v := ?va13) rfl (by kernel_rfl) (by kernel_rfl) (by kernel_rfl) (fun _ _ _ h => h) (Or.inl ⟨by rfl, ?hya13⟩) (by assumption) ?resta13
  case hya13 =>
    intro w hSw
    try dsimp only at hSw
    go_simp
    try with_reducible rfl
  try simp only [Act.put, List.setIfInBounds_toArray, List.set_cons_zero, List.set_cons_succ, List.getElem_toArray, List.getElem_cons_zero, List.getElem_cons_succ]
  refine wpAnyH_take (i := 15) (v := ?va15) rfl (by kernel_rfl) (by kernel_rfl) (by kernel_rfl) (fun _ _ _ h => h) (Or.inl ⟨by rfl, ?hya15⟩) (by assumption) ?resta15
  case hya15 =>
    intro w hSw
    try dsimp only at hSw
    go_simp
    try with_reducible rfl
  try simp only [Act.put, List.setIfInBounds_toArray, List.set_cons_zero, List.set_cons_succ, List.getElem_toArray, List.getElem_cons_zero, List.getElem_cons_succ]
  refine wpAnyH_take (i := 16) (v := ?va16) rfl (by kernel_rfl) (by kernel_rfl) (by kernel_rfl) (fun _ _ _ h => h) (Or.inl ⟨by rfl, ?hya16⟩) (by assumption) ?resta16
  case hya16 =>
    intro w hSw
    try dsimp only at hSw
    go_simp
    try with_reducible rfl
  try simp only [Act.put, List.setIfInBounds_toArray, List.set_cons_zero, List.set_cons_succ, List.getElem_toArray, List.getElem_cons_zero, List.getElem_cons_succ]
  refine wpAnyH_take (i := 17) (v := ?va17) rfl (by kernel_rfl) (by kernel_rfl) (by kernel_rfl) (fun _ _ _ h => h) (Or.inl ⟨by rfl, ?hya17⟩) (by assumption) ?resta17
  case hya17 =>
    intro w hSw
    try dsimp only at hSw
    go_simp
    try with_reducible rfl
  try simp only [Act.put, List.setIfInBounds_toArray, List.set_cons_zero, List.set_cons_succ, List.getElem_toArray, List.getElem_cons_zero, List.getElem_cons_succ]
  refine wpAnyH_take (i := 18) (v := ?va18) rfl (by kernel_rfl) (by kernel_rfl) (by kernel_rfl) (fun _ _ _ h => h) (Or.inl ⟨by rfl, ?hya18⟩) (by assumption) ?resta18
  case hya18 =>
    intro w hSw
    try dsimp only at hSw
    go_simp
    try with_reducible rfl
  try simp only [Act.put, List.setIfInBounds_toArray, List.set_cons_zero, List.set_cons_succ, List.getElem_toArray, List.getElem_cons_zero, List.getElem_cons_succ]
  refine wpAnyH_ready (rs := [14]) (by kernel_rfl) (by simp) ?_
  refine AllReadyH.cons rfl (fun K hK => ?_) AllReadyH.nil
  go_simp
  go_at_call 22
  obtain ⟨FF, hm, hbk⟩ := Two.bk2Row HT7.out
  refine (lpmRoutes_any G _ _ FF w7 (Nat.le_trans hG HB7.out.size) hm).mono ?_
  rintro e w8 ⟨v, rfl, ht, hb⟩
  obtain ⟨ro8, rc8, rfl, hk2⟩ := hbk _ _ ht
  have HT8 := Lib.hid hk2
  have HB8 := Lib.hid (HB7.out.trans hb)
  have HST8 := Lib.hid (twoCells HT8.out)
  clear hm hbk ht hk2 hb HT7 HB7 HST7
  go_wp2_with fail
  refine hK.out _ _ ?_ (fun hHeld14 => ?_)
  · exact HST8.out
  clear hK K
  try simp only [Act.put, List.setIfInBounds_toArray, List.set_cons_zero, List.set_cons_succ, List.getElem_toArray, List.getElem_cons_zero, List.getElem_cons_succ]
  refine wpAnyH_ready (rs := [19]) (by kernel_rfl) (by simp) ?_
  refine AllReadyH.cons rfl (fun K hK => ?_) AllReadyH.nil
  go_simp
  go_at_call 22
  obtain ⟨FF, hm, hbk⟩ := Two.oneRow HT8.out
  refine (lpmRoutes_any G _ _ FF w8 (Nat.le_trans hG HB8.out.size) hm).mono ?_
  rintro e w9 ⟨v, rfl, ht, hb⟩
  obtain ⟨ro9, rc9, rfl, hk2⟩ := hbk _ _ ht
  have HT9 := Lib.hid hk2
  have HB9 := Lib.hid (HB8.out.trans hb)
  have HST9 := Lib.hid (twoCells HT9.out)
  clear hm hbk ht hk2 hb HT8 HB8 HST8
  go_wp2_with fail
  refine hK.out _ _ ?_ (fun hHeld19 => ?_)
  · exact HST9.out
  clear hK K
  try simp only [Act.put, List.setIfInBounds_toArray, List.set_cons_zero, List.set_cons_succ, List.getElem_toArray, List.getElem_cons_zero, List.getElem_cons_succ]
  refine wpAnyH_ready (rs := [20]) (by kernel_rfl) (by simp) ?_
  refine AllReadyH.cons rfl (fun K hK => ?_) AllReadyH.nil
  go_simp
  go_at_call 21
  refine (routesSame_any _ _ _ _ _ _ _ w9 (Two.rows HT9.out).1 (Two.rows HT9.out).2 (Nat.le_trans (Two.few HT9.out) (by decide))).mono ?_
  rintro e w10 ⟨rfl, hd⟩
  have hb := below_of_drew hd
  have HT10 := Lib.hid (Two.kept HT9.out hb)
  have HB10 := Lib.hid (HB9.out.trans (hb.mono (Nat.le_trans hG HB9.out.size)))
  have HST10 := Lib.hid (twoCells HT10.out)
  clear hd hb HT9 HB9 HST9
  go_wp2_with fail
  refine hK.out _ _ ?_ (fun hHeld20 => ?_)
  · exact HST10.out
  clear hK K
  try simp only [Act.put, List.setIfInBounds_toArray, List.set_cons_zero, List.set_cons_succ, List.getElem_toArray, List.getElem_cons_zero, List.getElem_cons_succ]
  refine wpAnyH_take (i := 21) (v := ?va21) rfl (by kernel_rfl) (by kernel_rfl) (by kernel_rfl) (fun _ _ _ h => h) (Or.inl ⟨by rfl, ?hya21⟩) (by assumption) ?resta21
  case hya21 =>
    intro w hSw
    try dsimp only at hSw
    go_simp
    try with_reducible rfl
  try simp only [Act.put, List.setIfInBounds_toArray, List.set_cons_zero, List.set_cons_succ, List.getElem_toArray, List.getElem_cons_zero, List.getElem_cons_succ]
  refine wpAnyH_take (i := 22) (v := ?va22) rfl (by kernel_rfl) (by kernel_rfl) (by kernel_rfl) (fun _ _ _ h => h) (Or.inl ⟨by rfl, ?hya22⟩) (by assumption) ?resta22
  case hya22 =>
    intro w hSw
    try dsimp only at hSw
    go_simp
    try with_reducible rfl
  try simp only [Act.put, List.setIfInBounds_toArray, List.set_cons_zero, List.set_cons_succ, List.getElem_toArray, List.getElem_cons_zero, List.getElem_cons_succ]
  refine wpAnyH_done (by kernel_rfl) ?_ _
  obtain ⟨w12, hw12⟩ : ∃ w12, w12 = w10 := ⟨_, rfl⟩
  obtain rfl := hw12
  have HT12 := Lib.hid (Two.sub HT10.out (F' := [Ent.blk1 g0 40 [.int .i64 a, .int .i64 n, .int .i64 x]]) (List.Sublist.cons _ (List.Sublist.cons _ (List.Sublist.refl _))))
  have HB12 := HB10
  clear HT10 HB10 HST10
  have p0 := Two.mem HT12.out (g := g0) (e := 40) (cs := [.int .i64 a, .int .i64 n, .int .i64 x]) (by simp) 0 _ rfl
  have p1 := Two.mem HT12.out (g := g0) (e := 40) (cs := [.int .i64 a, .int .i64 n, .int .i64 x]) (by simp) 1 _ rfl
  have p2 := Two.mem HT12.out (g := g0) (e := 40) (cs := [.int .i64 a, .int .i64 n, .int .i64 x]) (by simp) 2 _ rfl
  by_cases hz : (bkSet b a n x).2 = 0
  · rw [hz, errV_zero] at HSET
    clear hz
    go_wp2_with fail
    obtain ⟨FF, hm, hbk⟩ := Two.one HT12.out
    refine (HSET.out bb tb FF w12 (Nat.le_trans hG HB12.out.size) hm (HDOOR.out.below HB12.out HLB.out).pow).mono ?_
    rintro e w13 ⟨rfl, ht, hb⟩
    have HT13 := Lib.hid (hbk _ _ ht)
    have HB13 := Lib.hid (HB12.out.trans hb)
    have p0 := Two.mem HT13.out (g := g0) (e := 40) (cs := [.int .i64 a, .int .i64 n, .int .i64 x]) (by simp) 0 _ rfl
    have p1 := Two.mem HT13.out (g := g0) (e := 40) (cs := [.int .i64 a, .int .i64 n, .int .i64 x]) (by simp) 1 _ rfl
    have p2 := Two.mem HT13.out (g := g0) (e := 40) (cs := [.int .i64 a, .int .i64 n, .int .i64 x]) (by simp) 2 _ rfl
    clear hm hbk ht hb HT12 HB12
    go_wp2_with fail
    obtain ⟨FF, hm, hbk⟩ := Two.bk2 HT13.out
    refine (HSET.out ob ot FF w13 (Nat.le_trans hG HB13.out.size) hm (HDOOR.out.below HB13.out HLB.out).pow).mono ?_
    rintro e w14 ⟨rfl, ht, hb⟩
    have HT14 := Lib.hid (hbk _ _ ht)
    have HB14 := Lib.hid (HB13.out.trans hb)
    clear hm hbk ht hb HT13 HB13 HSET p0 p1 p2
    go_upto_region 10 with fail
    obtain ⟨w15, hw15⟩ : ∃ w15, w15 = w14.drew := ⟨_, rfl⟩
    have HT15 := Lib.hid (show Two G w15 bb tb _ (BkE ob ot _) _ by rw [hw15]; exact Two.kept HT14.out (below_drew _ _))
    have HB15 := Lib.hid (show Below G w w15 by rw [hw15]; exact HB14.out.drew)
    have HST15 := Lib.hid (twoCells HT15.out)
    refine wp_region_held_drew (S := fun w' => w'.cell? ⟨bb, 0, none⟩ = some (.pointer (some ⟨tb, 0, none⟩)) ∧ w'.cell? ⟨ob, 0, none⟩ = some (.pointer (some ⟨ot, 0, none⟩))) (by kernel_rfl) (by simp only [← hw15]; exact HST15.out) (fun hHeld => ?_)
    rw [← hw15] at hHeld ⊢
    clear HT14 HB14 hw15
    refine wpAnyH_take (i := 0) (v := ?vb0) rfl (by kernel_rfl) (by kernel_rfl) (by kernel_rfl) (fun _ _ _ h => h) (Or.inl ⟨by rfl, ?hyb0⟩) (by assumption) ?restb0
    case hyb0 =>
      intro w hSw
      try dsimp only at hSw
      go_simp
      try with_reducible rfl
    try simp only [Act.put, List.setIfInBounds_toArray, List.set_cons_zero, List.set_cons_succ, List.getElem_toArray, List.getElem_cons_zero]
    refine wpAnyH_take (i := 1) (v := ?vb1) rfl (by kernel_rfl) (by kernel_rfl) (by kernel_rfl) (fun _ _ _ h => h) (Or.inl ⟨by rfl, ?hyb1⟩) (by assumption) ?restb1
    case hyb1 =>
      intro w hSw
      try dsimp only at hSw
      go_simp
      try with_reducible rfl
    try simp only [Act.put, List.setIfInBounds_toArray, List.set_cons_zero, List.set_cons_succ, List.getElem_toArray, List.getElem_cons_zero, List.getElem_cons_succ]
    refine wpAnyH_take (i := 2) (v := ?vb2) rfl (by kernel_rfl) (by kernel_rfl) (by kernel_rfl) (fun _ _ _ h => h) (Or.inl ⟨by rfl, ?hyb2⟩) (by assumption) ?restb2
    case hyb2 =>
      intro w hSw
      try dsimp only at hSw
      go_simp
      try with_reducible rfl
    try simp only [Act.put, List.setIfInBounds_toArray, List.set_cons_zero, List.set_cons_succ, List.getElem_toArray, List.getElem_cons_zero, List.getElem_cons_succ]
    refine wpAnyH_take (i := 3) (v := ?vb3) rfl (by kernel_rfl) (by kernel_rfl) (by kernel_rfl) (fun _ _ _ h => h) (Or.inl ⟨by rfl, ?hyb3⟩) (by assumption) ?restb3
    case hyb3 =>
      intro w hSw
      try dsimp only at hSw
      go_simp
      try with_reducible rfl
    try simp only [Act.put, List.setIfInBounds_toArray, List.set_cons_zero, List.set_cons_succ, List.getElem_toArray, List.getElem_cons_zero, List.getElem_cons_succ]
    refine wpAnyH_take (i := 4) (v := ?vb4) rfl (by kernel_rfl) (by kernel_rfl) (by kernel_rfl) (fun _ _ _ h => h) (Or.inl ⟨by rfl, ?hyb4⟩) (by assumption) ?restb4
    case hyb4 =>
      intro w hSw
      try dsimp only at hSw
      go_simp
      try with_reducible rfl
    try simp only [Act.put, List.setIfInBounds_toArray, List.set_cons_zero, List.set_cons_succ, List.getElem_toArray, List.getElem_cons_zero, List.getElem_cons_succ]
    refine wpAnyH_take (i := 5) (v := ?vb5) rfl (by kernel_rfl) (by kernel_rfl) (by kernel_rfl) (fun _ _ _ h => h) (Or.inl ⟨by rfl, ?hyb5⟩) (by assumption) ?restb5
    case hyb5 =>
      intro w hSw
      try dsimp only at hSw
      go_simp
      try with_reducible rfl
    try simp only [Act.put, List.setIfInBounds_toArray, List.set_cons_zero, List.set_cons_succ, List.getElem_toArray, List.getElem_cons_zero, List.getElem_cons_succ]
    refine wpAnyH_take (i := 6) (v := ?vb6) rfl (by kernel_rfl) (by kernel_rfl) (by kernel_rfl) (fun _ _ _ h => h) (Or.inl ⟨by rfl, ?hyb6⟩) (by assumption) ?restb6
    case hyb6 =>
      intro w hSw
      try dsimp only at hSw
      go_simp
      try with_reducible rfl
    try simp only [Act.put, List.setIfInBounds_toArray, List.set_cons_zero, List.set_cons_succ, List.getElem_toArray, List.getElem_cons_zero, List.getElem_cons_succ]
    refine wpAnyH_take (i := 8) (v := ?vb8) rfl (by kernel_rfl) (by kernel_rfl) (by kernel_rfl) (fun _ _ _ h => h) (Or.inl ⟨by rfl, ?hyb8⟩) (by assumption) ?restb8
    case hyb8 =>
      intro w hSw
      try dsimp only at hSw
      go_simp
      try with_reducible rfl
    try simp only [Act.put, List.setIfInBounds_toArray, List.set_cons_zero, List.set_cons_succ, List.getElem_toArray, List.getElem_cons_zero, List.getElem_cons_succ]
    refine wpAnyH_ready (rs := [7]) (by kernel_rfl) (by simp) ?_
    refine AllReadyH.cons rfl (fun K hK => ?_) AllReadyH.nil
    go_simp
    go_at_call 15
    obtain ⟨FF, hm, hbk⟩ := Two.bk2 HT15.out
    refine (text_any hm).mono ?_
    rintro e w16 ⟨rfl, ht, hb⟩
    have HT16 := Lib.hid (hbk _ _ ht)
    have HB16 := Lib.hid (HB15.out.trans hb)
    have HST16 := Lib.hid (twoCells HT16.out)
    clear hm hbk ht hb HT15 HB15 HST15
    go_wp2_with fail
    refine hK.out _ _ ?_ (fun hHeld7 => ?_)
    · exact HST16.out
    clear hK K
    try simp only [Act.put, List.setIfInBounds_toArray, List.set_cons_zero, List.set_cons_succ, List.getElem_toArray, List.getElem_cons_zero, List.getElem_cons_succ]
    refine wpAnyH_ready (rs := [9]) (by kernel_rfl) (by simp) ?_
    refine AllReadyH.cons rfl (fun K hK => ?_) AllReadyH.nil
    go_simp
    go_at_call 15
    obtain ⟨FF, hm, hbk⟩ := Two.one HT16.out
    refine (text_any hm).mono ?_
    rintro e w17 ⟨rfl, ht, hb⟩
    have HT17 := Lib.hid (hbk _ _ ht)
    have HB17 := Lib.hid (HB16.out.trans hb)
    have HST17 := Lib.hid (twoCells HT17.out)
    clear hm hbk ht hb HT16 HB16 HST16
    go_wp2_with fail
    refine hK.out _ _ ?_ (fun hHeld9 => ?_)
    · exact HST17.out
    clear hK K
    try simp only [Act.put, List.setIfInBounds_toArray, List.set_cons_zero, List.set_cons_succ, List.getElem_toArray, List.getElem_cons_zero, List.getElem_cons_succ]
    refine wpAnyH_take (i := 10) (v := ?vb10) rfl (by kernel_rfl) (by kernel_rfl) (by kernel_rfl) (fun _ _ _ h => h) (Or.inl ⟨by rfl, ?hyb10⟩) (by assumption) ?restb10
    case hyb10 =>
      intro w hSw
      try dsimp only at hSw
      go_simp
      try with_reducible rfl
    try simp only [Act.put, List.setIfInBounds_toArray, List.set_cons_zero, List.set_cons_succ, List.getElem_toArray, List.getElem_cons_zero, List.getElem_cons_succ]
    refine wpAnyH_take (i := 11) (v := ?vb11) rfl (by kernel_rfl) (by kernel_rfl) (by kernel_rfl) (fun _ _ _ h => h) (Or.inl ⟨by rfl, ?hyb11⟩) (by assumption) ?restb11
    case hyb11 =>
      intro w hSw
      try dsimp only at hSw
      go_simp
      try with_reducible rfl
    try simp only [Act.put, List.setIfInBounds_toArray, List.set_cons_zero, List.set_cons_succ, List.getElem_toArray, List.getElem_cons_zero, List.getElem_cons_succ]
    refine wpAnyH_take (i := 12) (v := ?vb12) rfl (by kernel_rfl) (by kernel_rfl) (by kernel_rfl) (fun _ _ _ h => h) (Or.inl ⟨by rfl, ?hyb12⟩) (by assumption) ?restb12
    case hyb12 =>
      intro w hSw
      try dsimp only at hSw
      go_simp
      try with_reducible rfl
    try simp only [Act.put, List.setIfInBounds_toArray, List.set_cons_zero, List.set_cons_succ, List.getElem_toArray, List.getElem_cons_zero, List.getElem_cons_succ]
    refine wpAnyH_take (i := 13) (v := ?vb13) rfl (by kernel_rfl) (by kernel_rfl) (by kernel_rfl) (fun _ _ _ h => h) (Or.inl ⟨by rfl, ?hyb13⟩) (by assumption) ?restb13
    case hyb13 =>
      intro w hSw
      try dsimp only at hSw
      go_simp
      try with_reducible rfl
    try simp only [Act.put, List.setIfInBounds_toArray, List.set_cons_zero, List.set_cons_succ, List.getElem_toArray, List.getElem_cons_zero, List.getElem_cons_succ]
    refine wpAnyH_take (i := 14) (v := ?vb14) rfl (by kernel_rfl) (by kernel_rfl) (by kernel_rfl) (fun _ _ _ h => h) (Or.inl ⟨by rfl, ?hyb14⟩) (by assumption) ?restb14
    case hyb14 =>
      intro w hSw
      try dsimp only at hSw
      go_simp
      try with_reducible rfl
    try simp only [Act.put, List.setIfInBounds_toArray, List.set_cons_zero, List.set_cons_succ, List.getElem_toArray, List.getElem_cons_zero, List.getElem_cons_succ]
    refine wpAnyH_take (i := 15) (v := ?vb15) rfl (by kernel_rfl) (by kernel_rfl) (by kernel_rfl) (fun _ _ _ h => h) (Or.inl ⟨by rfl, ?hyb15⟩) (by assumption) ?restb15
    case hyb15 =>
      intro w hSw
      try dsimp only at hSw
      go_simp
      try with_reducible rfl
    try simp only [Act.put, List.setIfInBounds_toArray, List.set_cons_zero, List.set_cons_succ, List.getElem_toArray, List.getElem_cons_zero, List.getElem_cons_succ]
    refine wpAnyH_take (i := 16) (v := ?vb16) rfl (by kernel_rfl) (by kernel_rfl) (by kernel_rfl) (fun _ _ _ h => h) (Or.inl ⟨by rfl, ?hyb16⟩) (by assumption) ?restb16
    case hyb16 =>
      intro w hSw
      try dsimp only at hSw
      go_simp
      try with_reducible rfl
    try simp only [Act.put, List.setIfInBounds_toArray, List.set_cons_zero, List.set_cons_succ, List.getElem_toArray, List.getElem_cons_zero, List.getElem_cons_succ]
    refine wpAnyH_take (i := 18) (v := ?vb18) rfl (by kernel_rfl) (by kernel_rfl) (by kernel_rfl) (fun _ _ _ h => h) (Or.inl ⟨by rfl, ?hyb18⟩) (by assumption) ?restb18
    case hyb18 =>
      intro w hSw
      try dsimp only at hSw
      go_simp
      try with_reducible rfl
    try simp only [Act.put, List.setIfInBounds_toArray, List.set_cons_zero, List.set_cons_succ, List.getElem_toArray, List.getElem_cons_zero, List.getElem_cons_succ]
    refine wpAnyH_take (i := 19) (v := ?vb19) rfl (by kernel_rfl) (by kernel_rfl) (by kernel_rfl) (fun _ _ _ h => h) (Or.inl ⟨by rfl, ?hyb19⟩) (by assumption) ?restb19
    case hyb19 =>
      intro w hSw
      try dsimp only at hSw
      go_simp
      try with_reducible rfl
    try simp only [Act.put, List.setIfInBounds_toArray, List.set_cons_zero, List.set_cons_succ, List.getElem_toArray, List.getElem_cons_zero, List.getElem_cons_succ]
    refine wpAnyH_take (i := 20) (v := ?vb20) rfl (by kernel_rfl) (by kernel_rfl) (by kernel_rfl) (fun _ _ _ h => h) (Or.inl ⟨by rfl, ?hyb20⟩) (by assumption) ?restb20
    case hyb20 =>
      intro w hSw
      try dsimp only at hSw
      go_simp
      try with_reducible rfl
    try simp only [Act.put, List.setIfInBounds_toArray, List.set_cons_zero, List.set_cons_succ, List.getElem_toArray, List.getElem_cons_zero, List.getElem_cons_succ]
    refine wpAnyH_take (i := 21) (v := ?vb21) rfl (by kernel_rfl) (by kernel_rfl) (by kernel_rfl) (fun _ _ _ h => h) (Or.inl ⟨by rfl, ?hyb21⟩) (by assumption) ?restb21
    case hyb21 =>
      intro w hSw
      try dsimp only at hSw
      go_simp
      try with_reducible rfl
    try simp only [Act.put, List.setIfInBounds_toArray, List.set_cons_zero, List.set_cons_succ, List.getElem_toArray, List.getElem_cons_zero, List.getElem_cons_succ]
    refine wpAnyH_ready (rs := [17]) (by kernel_rfl) (by simp) ?_
    refine AllReadyH.cons rfl (fun K hK => ?_) AllReadyH.nil
    go_simp
    go_at_call 22
    obtain ⟨FF, hm, hbk⟩ := Two.bk2Row HT17.out
    refine (lpmRoutes_any G _ _ FF w17 (Nat.le_trans hG HB17.out.size) hm).mono ?_
    rintro e w18 ⟨v, rfl, ht, hb⟩
    obtain ⟨ro18, rc18, rfl, hk2⟩ := hbk _ _ ht
    have HT18 := Lib.hid hk2
    have HB18 := Lib.hid (HB17.out.trans hb)
    have HST18 := Lib.hid (twoCells HT18.out)
    clear hm hbk ht hk2 hb HT17 HB17 HST17
    go_wp2_with fail
    refine hK.out _ _ ?_ (fun hHeld17 => ?_)
    · exact HST18.out
    clear hK K
    try simp only [Act.put, List.setIfInBounds_toArray, List.set_cons_zero, List.set_cons_succ, List.getElem_toArray, List.getElem_cons_zero, List.getElem_cons_succ]
    refine wpAnyH_ready (rs := [22]) (by kernel_rfl) (by simp) ?_
    refine AllReadyH.cons rfl (fun K hK => ?_) AllReadyH.nil
    go_simp
    go_at_call 22
    obtain ⟨FF, hm, hbk⟩ := Two.oneRow HT18.out
    refine (lpmRoutes_any G _ _ FF w18 (Nat.le_trans hG HB18.out.size) hm).mono ?_
    rintro e w19 ⟨v, rfl, ht, hb⟩
    obtain ⟨ro19, rc19, rfl, hk2⟩ := hbk _ _ ht
    have HT19 := Lib.hid hk2
    have HB19 := Lib.hid (HB18.out.trans hb)
    have HST19 := Lib.hid (twoCells HT19.out)
    clear hm hbk ht hk2 hb HT18 HB18 HST18
    go_wp2_with fail
    refine hK.out _ _ ?_ (fun hHeld22 => ?_)
    · exact HST19.out
    clear hK K
    try simp only [Act.put, List.setIfInBounds_toArray, List.set_cons_zero, List.set_cons_succ, List.getElem_toArray, List.getElem_cons_zero, List.getElem_cons_succ]
    refine wpAnyH_ready (rs := [23]) (by kernel_rfl) (by simp) ?_
    refine AllReadyH.cons rfl (fun K hK => ?_) AllReadyH.nil
    go_simp
    go_at_call 21
    refine (routesSame_any _ _ _ _ _ _ _ w19 (Two.rows HT19.out).1 (Two.rows HT19.out).2 (Nat.le_trans (Two.few HT19.out) (by decide))).mono ?_
    rintro e w20 ⟨rfl, hd⟩
    have hb := below_of_drew hd
    have HT20 := Lib.hid (Two.kept HT19.out hb)
    have HB20 := Lib.hid (HB19.out.trans (hb.mono (Nat.le_trans hG HB19.out.size)))
    have HST20 := Lib.hid (twoCells HT20.out)
    clear hd hb HT19 HB19 HST19
    go_wp2_with fail
    refine hK.out _ _ ?_ (fun hHeld23 => ?_)
    · exact HST20.out
    clear hK K
    try simp only [Act.put, List.setIfInBounds_toArray, List.set_cons_zero, List.set_cons_succ, List.getElem_toArray, List.getElem_cons_zero, List.getElem_cons_succ]
    refine wpAnyH_take (i := 24) (v := ?vb24) rfl (by kernel_rfl) (by kernel_rfl) (by kernel_rfl) (fun _ _ _ h => h) (Or.inl ⟨by rfl, ?hyb24⟩) (by assumption) ?restb24
    case hyb24 =>
      intro w hSw
      try dsimp only at hSw
      go_simp
      try with_reducible rfl
    try simp only [Act.put, List.setIfInBounds_toArray, List.set_cons_zero, List.set_cons_succ, List.getElem_toArray, List.getElem_cons_zero, List.getElem_cons_succ]
    refine wpAnyH_take (i := 25) (v := ?vb25) rfl (by kernel_rfl) (by kernel_rfl) (by kernel_rfl) (fun _ _ _ h => h) (Or.inl ⟨by rfl, ?hyb25⟩) (by assumption) ?restb25
    case hyb25 =>
      intro w hSw
      try dsimp only at hSw
      go_simp
      try with_reducible rfl
    try simp only [Act.put, List.setIfInBounds_toArray, List.set_cons_zero, List.set_cons_succ, List.getElem_toArray, List.getElem_cons_zero, List.getElem_cons_succ]
    refine wpAnyH_done (by kernel_rfl) ?_ _
    go_wp2
    go_ret
    exact ⟨rfl, HB20.out⟩
  · rw [errV_not hz] at HSET
    clear hz
    go_wp2_with fail
    obtain ⟨FF, hm, hbk⟩ := Two.one HT12.out
    refine (HSET.out bb tb FF w12 (Nat.le_trans hG HB12.out.size) hm (HDOOR.out.below HB12.out HLB.out).pow).mono ?_
    rintro e w13 ⟨rfl, ht, hb⟩
    have HT13 := Lib.hid (hbk _ _ ht)
    have HB13 := Lib.hid (HB12.out.trans hb)
    have p0 := Two.mem HT13.out (g := g0) (e := 40) (cs := [.int .i64 a, .int .i64 n, .int .i64 x]) (by simp) 0 _ rfl
    have p1 := Two.mem HT13.out (g := g0) (e := 40) (cs := [.int .i64 a, .int .i64 n, .int .i64 x]) (by simp) 1 _ rfl
    have p2 := Two.mem HT13.out (g := g0) (e := 40) (cs := [.int .i64 a, .int .i64 n, .int .i64 x]) (by simp) 2 _ rfl
    clear hm hbk ht hb HT12 HB12
    go_wp2_with fail
    obtain ⟨FF, hm, hbk⟩ := Two.bk2 HT13.out
    refine (HSET.out ob ot FF w13 (Nat.le_trans hG HB13.out.size) hm (HDOOR.out.below HB13.out HLB.out).pow).mono ?_
    rintro e w14 ⟨rfl, ht, hb⟩
    have HT14 := Lib.hid (hbk _ _ ht)
    have HB14 := Lib.hid (HB13.out.trans hb)
    clear hm hbk ht hb HT13 HB13 HSET p0 p1 p2
    go_upto_region 10 with fail
    obtain ⟨w15, hw15⟩ : ∃ w15, w15 = w14.drew := ⟨_, rfl⟩
    have HT15 := Lib.hid (show Two G w15 bb tb _ (BkE ob ot _) _ by rw [hw15]; exact Two.kept HT14.out (below_drew _ _))
    have HB15 := Lib.hid (show Below G w w15 by rw [hw15]; exact HB14.out.drew)
    have HST15 := Lib.hid (twoCells HT15.out)
    refine wp_region_held_drew (S := fun w' => w'.cell? ⟨bb, 0, none⟩ = some (.pointer (some ⟨tb, 0, none⟩)) ∧ w'.cell? ⟨ob, 0, none⟩ = some (.pointer (some ⟨ot, 0, none⟩))) (by kernel_rfl) (by simp only [← hw15]; exact HST15.out) (fun hHeld => ?_)
    rw [← hw15] at hHeld ⊢
    clear HT14 HB14 hw15
    refine wpAnyH_take (i := 0) (v := ?vc0) rfl (by kernel_rfl) (by kernel_rfl) (by kernel_rfl) (fun _ _ _ h => h) (Or.inl ⟨by rfl, ?hyc0⟩) (by assumption) ?restc0
    case hyc0 =>
      intro w hSw
      try dsimp only at hSw
      go_simp
      try with_reducible rfl
    try simp only [Act.put, List.setIfInBounds_toArray, List.set_cons_zero, List.set_cons_succ, List.getElem_toArray, List.getElem_cons_zero]
    refine wpAnyH_take (i := 1) (v := ?vc1) rfl (by kernel_rfl) (by kernel_rfl) (by kernel_rfl) (fun _ _ _ h => h) (Or.inl ⟨by rfl, ?hyc1⟩) (by assumption) ?restc1
    case hyc1 =>
      intro w hSw
      try dsimp only at hSw
      go_simp
      try with_reducible rfl
    try simp only [Act.put, List.setIfInBounds_toArray, List.set_cons_zero, List.set_cons_succ, List.getElem_toArray, List.getElem_cons_zero, List.getElem_cons_succ]
    refine wpAnyH_take (i := 2) (v := ?vc2) rfl (by kernel_rfl) (by kernel_rfl) (by kernel_rfl) (fun _ _ _ h => h) (Or.inl ⟨by rfl, ?hyc2⟩) (by assumption) ?restc2
    case hyc2 =>
      intro w hSw
      try dsimp only at hSw
      go_simp
      try with_reducible rfl
    try simp only [Act.put, List.setIfInBounds_toArray, List.set_cons_zero, List.set_cons_succ, List.getElem_toArray, List.getElem_cons_zero, List.getElem_cons_succ]
    refine wpAnyH_take (i := 3) (v := ?vc3) rfl (by kernel_rfl) (by kernel_rfl) (by kernel_rfl) (fun _ _ _ h => h) (Or.inl ⟨by rfl, ?hyc3⟩) (by assumption) ?restc3
    case hyc3 =>
      intro w hSw
      try dsimp only at hSw
      go_simp
      try with_reducible rfl
    try simp only [Act.put, List.setIfInBounds_toArray, List.set_cons_zero, List.set_cons_succ, List.getElem_toArray, List.getElem_cons_zero, List.getElem_cons_succ]
    refine wpAnyH_take (i := 4) (v := ?vc4) rfl (by kernel_rfl) (by kernel_rfl) (by kernel_rfl) (fun _ _ _ h => h) (Or.inl ⟨by rfl, ?hyc4⟩) (by assumption) ?restc4
    case hyc4 =>
      intro w hSw
      try dsimp only at hSw
      go_simp
      try with_reducible rfl
    try simp only [Act.put, List.setIfInBounds_toArray, List.set_cons_zero, List.set_cons_succ, List.getElem_toArray, List.getElem_cons_zero, List.getElem_cons_succ]
    refine wpAnyH_take (i := 5) (v := ?vc5) rfl (by kernel_rfl) (by kernel_rfl) (by kernel_rfl) (fun _ _ _ h => h) (Or.inl ⟨by rfl, ?hyc5⟩) (by assumption) ?restc5
    case hyc5 =>
      intro w hSw
      try dsimp only at hSw
      go_simp
      try with_reducible rfl
    try simp only [Act.put, List.setIfInBounds_toArray, List.set_cons_zero, List.set_cons_succ, List.getElem_toArray, List.getElem_cons_zero, List.getElem_cons_succ]
    refine wpAnyH_take (i := 6) (v := ?vc6) rfl (by kernel_rfl) (by kernel_rfl) (by kernel_rfl) (fun _ _ _ h => h) (Or.inl ⟨by rfl, ?hyc6⟩) (by assumption) ?restc6
    case hyc6 =>
      intro w hSw
      try dsimp only at hSw
      go_simp
      try with_reducible rfl
    try simp only [Act.put, List.setIfInBounds_toArray, List.set_cons_zero, List.set_cons_succ, List.getElem_toArray, List.getElem_cons_zero, List.getElem_cons_succ]
    refine wpAnyH_take (i := 8) (v := ?vc8) rfl (by kernel_rfl) (by kernel_rfl) (by kernel_rfl) (fun _ _ _ h => h) (Or.inl ⟨by rfl, ?hyc8⟩) (by assumption) ?restc8
    case hyc8 =>
      intro w hSw
      try dsimp only at hSw
      go_simp
      try with_reducible rfl
    try simp only [Act.put, List.setIfInBounds_toArray, List.set_cons_zero, List.set_cons_succ, List.getElem_toArray, List.getElem_cons_zero, List.getElem_cons_succ]
    refine wpAnyH_ready (rs := [7]) (by kernel_rfl) (by simp) ?_
    refine AllReadyH.cons rfl (fun K hK => ?_) AllReadyH.nil
    go_simp
    go_at_call 15
    obtain ⟨FF, hm, hbk⟩ := Two.bk2 HT15.out
    refine (text_any hm).mono ?_
    rintro e w16 ⟨rfl, ht, hb⟩
    have HT16 := Lib.hid (hbk _ _ ht)
    have HB16 := Lib.hid (HB15.out.trans hb)
    have HST16 := Lib.hid (twoCells HT16.out)
    clear hm hbk ht hb HT15 HB15 HST15
    go_wp2_with fail
    refine hK.out _ _ ?_ (fun hHeld7 => ?_)
    · exact HST16.out
    clear hK K
    try simp only [Act.put, List.setIfInBounds_toArray, List.set_cons_zero, List.set_cons_succ, List.getElem_toArray, List.getElem_cons_zero, List.getElem_cons_succ]
    refine wpAnyH_ready (rs := [9]) (by kernel_rfl) (by simp) ?_
    refine AllReadyH.cons rfl (fun K hK => ?_) AllReadyH.nil
    go_simp
    go_at_call 15
    obtain ⟨FF, hm, hbk⟩ := Two.one HT16.out
    refine (text_any hm).mono ?_
    rintro e w17 ⟨rfl, ht, hb⟩
    have HT17 := Lib.hid (hbk _ _ ht)
    have HB17 := Lib.hid (HB16.out.trans hb)
    have HST17 := Lib.hid (twoCells HT17.out)
    clear hm hbk ht hb HT16 HB16 HST16
    go_wp2_with fail
    refine hK.out _ _ ?_ (fun hHeld9 => ?_)
    · exact HST17.out
    clear hK K
    try simp only [Act.put, List.setIfInBounds_toArray, List.set_cons_zero, List.set_cons_succ, List.getElem_toArray, List.getElem_cons_zero, List.getElem_cons_succ]
    refine wpAnyH_take (i := 10) (v := ?vc10) rfl (by kernel_rfl) (by kernel_rfl) (by kernel_rfl) (fun _ _ _ h => h) (Or.inl ⟨by rfl, ?hyc10⟩) (by assumption) ?restc10
    case hyc10 =>
      intro w hSw
      try dsimp only at hSw
      go_simp
      try with_reducible rfl
    try simp only [Act.put, List.setIfInBounds_toArray, List.set_cons_zero, List.set_cons_succ, List.getElem_toArray, List.getElem_cons_zero, List.getElem_cons_succ]
    refine wpAnyH_take (i := 11) (v := ?vc11) rfl (by kernel_rfl) (by kernel_rfl) (by kernel_rfl) (fun _ _ _ h => h) (Or.inl ⟨by rfl, ?hyc11⟩) (by assumption) ?restc11
    case hyc11 =>
      intro w hSw
      try dsimp only at hSw
      go_simp
      try with_reducible rfl
    try simp only [Act.put, List.setIfInBounds_toArray, List.set_cons_zero, List.set_cons_succ, List.getElem_toArray, List.getElem_cons_zero, List.getElem_cons_succ]
    refine wpAnyH_take (i := 12) (v := ?vc12) rfl (by kernel_rfl) (by kernel_rfl) (by kernel_rfl) (fun _ _ _ h => h) (Or.inl ⟨by rfl, ?hyc12⟩) (by assumption) ?restc12
    case hyc12 =>
      intro w hSw
      try dsimp only at hSw
      go_simp
      try with_reducible rfl
    try simp only [Act.put, List.setIfInBounds_toArray, List.set_cons_zero, List.set_cons_succ, List.getElem_toArray, List.getElem_cons_zero, List.getElem_cons_succ]
    refine wpAnyH_take (i := 13) (v := ?vc13) rfl (by kernel_rfl) (by kernel_rfl) (by kernel_rfl) (fun _ _ _ h => h) (Or.inl ⟨by rfl, ?hyc13⟩) (by assumption) ?restc13
    case hyc13 =>
      intro w hSw
      try dsimp only at hSw
      go_simp
      try with_reducible rfl
    try simp only [Act.put, List.setIfInBounds_toArray, List.set_cons_zero, List.set_cons_succ, List.getElem_toArray, List.getElem_cons_zero, List.getElem_cons_succ]
    refine wpAnyH_take (i := 14) (v := ?vc14) rfl (by kernel_rfl) (by kernel_rfl) (by kernel_rfl) (fun _ _ _ h => h) (Or.inl ⟨by rfl, ?hyc14⟩) (by assumption) ?restc14
    case hyc14 =>
      intro w hSw
      try dsimp only at hSw
      go_simp
      try with_reducible rfl
    try simp only [Act.put, List.setIfInBounds_toArray, List.set_cons_zero, List.set_cons_succ, List.getElem_toArray, List.getElem_cons_zero, List.getElem_cons_succ]
    refine wpAnyH_take (i := 15) (v := ?vc15) rfl (by kernel_rfl) (by kernel_rfl) (by kernel_rfl) (fun _ _ _ h => h) (Or.inl ⟨by rfl, ?hyc15⟩) (by assumption) ?restc15
    case hyc15 =>
      intro w hSw
      try dsimp only at hSw
      go_simp
      try with_reducible rfl
    try simp only [Act.put, List.setIfInBounds_toArray, List.set_cons_zero, List.set_cons_succ, List.getElem_toArray, List.getElem_cons_zero, List.getElem_cons_succ]
    refine wpAnyH_take (i := 16) (v := ?vc16) rfl (by kernel_rfl) (by kernel_rfl) (by kernel_rfl) (fun _ _ _ h => h) (Or.inl ⟨by rfl, ?hyc16⟩) (by assumption) ?restc16
    case hyc16 =>
      intro w hSw
      try dsimp only at hSw
      go_simp
      try with_reducible rfl
    try simp only [Act.put, List.setIfInBounds_toArray, List.set_cons_zero, List.set_cons_succ, List.getElem_toArray, List.getElem_cons_zero, List.getElem_cons_succ]
    refine wpAnyH_take (i := 18) (v := ?vc18) rfl (by kernel_rfl) (by kernel_rfl) (by kernel_rfl) (fun _ _ _ h => h) (Or.inl ⟨by rfl, ?hyc18⟩) (by assumption) ?restc18
    case hyc18 =>
      intro w hSw
      try dsimp only at hSw
      go_simp
      try with_reducible rfl
    try simp only [Act.put, List.setIfInBounds_toArray, List.set_cons_zero, List.set_cons_succ, List.getElem_toArray, List.getElem_cons_zero, List.getElem_cons_succ]
    refine wpAnyH_take (i := 19) (v := ?vc19) rfl (by kernel_rfl) (by kernel_rfl) (by kernel_rfl) (fun _ _ _ h => h) (Or.inl ⟨by rfl, ?hyc19⟩) (by assumption) ?restc19
    case hyc19 =>
      intro w hSw
      try dsimp only at hSw
      go_simp
      try with_reducible rfl
    try simp only [Act.put, List.setIfInBounds_toArray, List.set_cons_zero, List.set_cons_succ, List.getElem_toArray, List.getElem_cons_zero, List.getElem_cons_succ]
    refine wpAnyH_take (i := 20) (v := ?vc20) rfl (by kernel_rfl) (by kernel_rfl) (by kernel_rfl) (fun _ _ _ h => h) (Or.inl ⟨by rfl, ?hyc20⟩) (by assumption) ?restc20
    case hyc20 =>
      intro w hSw
      try dsimp only at hSw
      go_simp
      try with_reducible rfl
    try simp only [Act.put, List.setIfInBounds_toArray, List.set_cons_zero, List.set_cons_succ, List.getElem_toArray, List.getElem_cons_zero, List.getElem_cons_succ]
    refine wpAnyH_take (i := 21) (v := ?vc21) rfl (by kernel_rfl) (by kernel_rfl) (by kernel_rfl) (fun _ _ _ h => h) (Or.inl ⟨by rfl, ?hyc21⟩) (by assumption) ?restc21
    case hyc21 =>
      intro w hSw
      try dsimp only at hSw
      go_simp
      try with_reducible rfl
    try simp only [Act.put, List.setIfInBounds_toArray, List.set_cons_zero, List.set_cons_succ, List.getElem_toArray, List.getElem_cons_zero, List.getElem_cons_succ]
    refine wpAnyH_ready (rs := [17]) (by kernel_rfl) (by simp) ?_
    refine AllReadyH.cons rfl (fun K hK => ?_) AllReadyH.nil
    go_simp
    go_at_call 22
    obtain ⟨FF, hm, hbk⟩ := Two.bk2Row HT17.out
    refine (lpmRoutes_any G _ _ FF w17 (Nat.le_trans hG HB17.out.size) hm).mono ?_
    rintro e w18 ⟨v, rfl, ht, hb⟩
    obtain ⟨ro18, rc18, rfl, hk2⟩ := hbk _ _ ht
    have HT18 := Lib.hid hk2
    have HB18 := Lib.hid (HB17.out.trans hb)
    have HST18 := Lib.hid (twoCells HT18.out)
    clear hm hbk ht hk2 hb HT17 HB17 HST17
    go_wp2_with fail
    refine hK.out _ _ ?_ (fun hHeld17 => ?_)
    · exact HST18.out
    clear hK K
    try simp only [Act.put, List.setIfInBounds_toArray, List.set_cons_zero, List.set_cons_succ, List.getElem_toArray, List.getElem_cons_zero, List.getElem_cons_succ]
    refine wpAnyH_ready (rs := [22]) (by kernel_rfl) (by simp) ?_
    refine AllReadyH.cons rfl (fun K hK => ?_) AllReadyH.nil
    go_simp
    go_at_call 22
    obtain ⟨FF, hm, hbk⟩ := Two.oneRow HT18.out
    refine (lpmRoutes_any G _ _ FF w18 (Nat.le_trans hG HB18.out.size) hm).mono ?_
    rintro e w19 ⟨v, rfl, ht, hb⟩
    obtain ⟨ro19, rc19, rfl, hk2⟩ := hbk _ _ ht
    have HT19 := Lib.hid hk2
    have HB19 := Lib.hid (HB18.out.trans hb)
    have HST19 := Lib.hid (twoCells HT19.out)
    clear hm hbk ht hk2 hb HT18 HB18 HST18
    go_wp2_with fail
    refine hK.out _ _ ?_ (fun hHeld22 => ?_)
    · exact HST19.out
    clear hK K
    try simp only [Act.put, List.setIfInBounds_toArray, List.set_cons_zero, List.set_cons_succ, List.getElem_toArray, List.getElem_cons_zero, List.getElem_cons_succ]
    refine wpAnyH_ready (rs := [23]) (by kernel_rfl) (by simp) ?_
    refine AllReadyH.cons rfl (fun K hK => ?_) AllReadyH.nil
    go_simp
    go_at_call 21
    refine (routesSame_any _ _ _ _ _ _ _ w19 (Two.rows HT19.out).1 (Two.rows HT19.out).2 (Nat.le_trans (Two.few HT19.out) (by decide))).mono ?_
    rintro e w20 ⟨rfl, hd⟩
    have hb := below_of_drew hd
    have HT20 := Lib.hid (Two.kept HT19.out hb)
    have HB20 := Lib.hid (HB19.out.trans (hb.mono (Nat.le_trans hG HB19.out.size)))
    have HST20 := Lib.hid (twoCells HT20.out)
    clear hd hb HT19 HB19 HST19
    go_wp2_with fail
    refine hK.out _ _ ?_ (fun hHeld23 => ?_)
    · exact HST20.out
    clear hK K
    try simp only [Act.put, List.setIfInBounds_toArray, List.set_cons_zero, List.set_cons_succ, List.getElem_toArray, List.getElem_cons_zero, List.getElem_cons_succ]
    refine wpAnyH_take (i := 24) (v := ?vc24) rfl (by kernel_rfl) (by kernel_rfl) (by kernel_rfl) (fun _ _ _ h => h) (Or.inl ⟨by rfl, ?hyc24⟩) (by assumption) ?restc24
    case hyc24 =>
      intro w hSw
      try dsimp only at hSw
      go_simp
      try with_reducible rfl
    try simp only [Act.put, List.setIfInBounds_toArray, List.set_cons_zero, List.set_cons_succ, List.getElem_toArray, List.getElem_cons_zero, List.getElem_cons_succ]
    refine wpAnyH_take (i := 25) (v := ?vc25) rfl (by kernel_rfl) (by kernel_rfl) (by kernel_rfl) (fun _ _ _ h => h) (Or.inl ⟨by rfl, ?hyc25⟩) (by assumption) ?restc25
    case hyc25 =>
      intro w hSw
      try dsimp only at hSw
      go_simp
      try with_reducible rfl
    try simp only [Act.put, List.setIfInBounds_toArray, List.set_cons_zero, List.set_cons_succ, List.getElem_toArray, List.getElem_cons_zero, List.getElem_cons_succ]
    refine wpAnyH_done (by kernel_rfl) ?_ _
    go_wp2
    go_ret
    exact ⟨rfl, HB20.out⟩
end Go.Proofs.YtbcfcjecobihnaaGreatDoor
