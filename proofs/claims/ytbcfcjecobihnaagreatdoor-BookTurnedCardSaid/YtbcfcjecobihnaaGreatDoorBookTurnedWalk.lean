/- BookTurned returns true: a byte that was turned is told, in its line. -/
import Derived.Test.YtbcfcjecobihnaaGreatDoorPk10
import Derived.Test.YtbcfcjecobihnaaGreatDoorBkTorn
import Derived.Test.YtbcfcjecobihnaaGreatDoorBkTurn
import Derived.Test.YtbcfcjecobihnaaGreatDoorPk9
import Derived.Test.YtbcfcjecobihnaaGreatDoorDoorLaw8
import Derived.BigQuiet
namespace Go.Proofs.YtbcfcjecobihnaaGreatDoor
open Go.RowKit
set_option linter.unusedVariables false
set_option linter.unusedSimpArgs false
set_option maxRecDepth 100000



set_option maxHeartbeats 8000000 in
theorem bookTurned_walk (ao : Option Addr) (ac : Nat) (rs : List Stp) (n : Int) (cv : Int) (w : World) (hdoor8 : Door8 w)
    (hA : RowSl w.heap.size w ao 1 (rs.map stpC)) (hac : rs.length ≤ ac) (hmax : ac ≤ maxLen) (hr : StpsB w.heap.size w rs) (hn : -9223372036854775808 ≤ n ∧ n ≤ 9223372036854775807) (hcv : 0 ≤ cv ∧ cv ≤ 255) :
    Calls Tryz.prog 3 #[.slice ao rs.length ac, .int .i64 n, .int .u8 cv] w fun e w' => e = .returned (.bool true) ∧ Below w.heap.size w w' := by
  obtain ⟨hd0, hdoor⟩ := hdoor8
  obtain ⟨c, rfl⟩ : ∃ c : UInt8, cv = (c.toNat : Int) := ⟨UInt8.ofNat cv.toNat, by rw [UInt8.toNat_ofNat']; omega⟩
  clear hcv
  have HD := Lib.hid (fun (w' : World) (h : Below w.heap.size w w') => (show Door w' from hd0.below h hd0.pos))
  have HDOOR := Lib.hid (show LibT w from hdoor)
  have HLB := Lib.hid (LibT.libB hdoor)
  obtain ⟨G, hG'⟩ : ∃ G, G = w.heap.size := ⟨_, rfl⟩
  have hG : G ≤ w.heap.size := Nat.le_of_eq hG'
  rw [← hG'] at hA hr HLB HD ⊢
  have HA := Lib.hid hA
  have HR := Lib.hid hr
  have HFACT := Lib.hid (bookFact_any G [] w hG (Sep.nil _ _) (HDOOR.out).pow HLB.out.1)
  have HTOLD := Lib.hid (fun (w1 : World) (hb : Below G w w1) (hs : Sep G w1 []) => toldBk_any G _ ao ac rs w1 (Nat.le_trans hG hb.size) hs (hA.below hb) hac hmax (fun r hm => ⟨⟨(hr r hm).1.1.below hb, (hr r hm).1.2⟩, (hr r hm).2⟩) (HDOOR.out.below hb HLB.out).pow HLB.out.1)
  have hok := foldB_ok ((numsOf rs).take 70)
  obtain ⟨ops, hmade⟩ := foldB_made ((numsOf rs).take 70)
  obtain ⟨b0, hb0⟩ : ∃ b0, b0 = foldB ((numsOf rs).take 70) := ⟨_, rfl⟩
  rw [← hb0] at hok hmade HTOLD
  have HOK := Lib.hid hok
  have HALL := Lib.hid (fun (A B : List UInt8) (x : UInt8) (h1 : b0.2.1 = A ++ x :: B) (h2 : c ≠ x) (h3 : x ≠ 10) (h4 : c ≠ 10) => turned_text hmade hok.2 h1 h2 h3 h4)
  unfold maxLen at hmax
  clear hdoor hA hr hG' hok hmade hb0 hd0
  go_enter Tryz.func3, Tryz.ntmps3
  go_wp2_with fail
  refine HFACT.out.mono ?_
  rintro e w1 ⟨rfl, hs, hb⟩
  have HS1 := Lib.hid hs
  have HB1 := Lib.hid hb
  clear hs hb HFACT
  go_wp2_with fail
  refine (HTOLD.out w1 HB1.out HS1.out).mono ?_
  rintro e w2 ⟨bb0, tb0, rfl, ht, hb⟩
  have HT2 := Lib.hid ht
  have HB2 := Lib.hid (HB1.out.trans hb)
  clear ht hb HTOLD HS1 HB1
  go_wp2_with fail
  refine (text_any HT2.out).mono ?_
  rintro e w3 ⟨rfl, -, hb⟩
  have HB3 := Lib.hid (HB2.out.trans hb)
  have hl60 : b0.2.1.length ≤ 6000 := by have := HOK.out.1; have := HOK.out.2; omega
  have hsz : (⟨b0.2.1.toArray⟩ : ByteArray).size = b0.2.1.length := rfl
  clear hb HT2 HB2
  by_cases hneg : n < 0
  · have hd1 : decide (n < 0) = true := decide_eq_true hneg
    go_wp2
    go_ret
    exact ⟨rfl, HB3.out⟩
  have hd1 : decide (n < 0) = false := decide_eq_false hneg
  obtain ⟨m, rfl⟩ := Int.eq_ofNat_of_zero_le (Int.not_lt.1 hneg)
  clear hneg
  by_cases hlong : b0.2.1.length ≤ m
  · have hd2 : decide ((b0.2.1.length : Int) ≤ (m : Int)) = true := decide_eq_true (by omega)
    have hd2n : decide (b0.2.1.length ≤ m) = true := decide_eq_true hlong
    go_wp2
    go_ret
    exact ⟨rfl, HB3.out⟩
  have hd2 : decide ((b0.2.1.length : Int) ≤ (m : Int)) = false := decide_eq_false (by omega)
  have hd2n : decide (b0.2.1.length ≤ m) = false := decide_eq_false hlong
  have hml : m < b0.2.1.length := by omega
  clear hlong
  obtain ⟨t, ht⟩ : ∃ t, t = (⟨b0.2.1.toArray⟩ : ByteArray) := ⟨_, rfl⟩
  have HAT := Lib.hid (fun (k : Nat) (c : UInt8) (h : b0.2.1[k]? = some c) => (show t[k]? = some c by rw [ht]; exact bytes_at h))
  have HEX := Lib.hid (show t.extract 0 m = bytesOf (b0.2.1.take m) ∧ t.extract (m + 1) b0.2.1.length = bytesOf (b0.2.1.drop (m + 1)) by rw [ht]; exact ⟨ext_take _ _, ext_drop _ _⟩)
  rw [← ht] at hsz ⊢
  clear ht
  obtain ⟨l, hl⟩ : ∃ l, l = b0.2.1 := ⟨_, rfl⟩
  rw [← hl] at HAT HEX hsz hd2 hd2n hml hl60 HALL
  clear hl
  obtain ⟨x, hx⟩ : ∃ x, l[m]? = some x := ⟨_, List.getElem?_eq_getElem hml⟩
  have hm0 : (0 : Int) ≤ (m : Int) := by omega
  have hmt : (m : Int) < (l.length : Int) := by omega
  have hms : m < t.size := by omega
  have htm := byte_at (HAT.out m x hx) hms
  by_cases hx10 : x = 10
  · subst hx10
    have h10 : (((10 : UInt8).toNat : Int) == 10) = true := by decide
    go_wp2
    go_ret
    exact ⟨rfl, HB3.out⟩
  have h10 : ((x.toNat : Int) == 10) = false := beq_eq_false_iff_ne.2 (fun h => hx10 (UInt8.toNat_inj.1 (show x.toNat = (10 : UInt8).toNat by simpa using (by omega : x.toNat = 10))))
  by_cases hc10 : c = 10
  · have hcc : ((c.toNat : Int) == 10) = true := by rw [hc10]; decide
    clear hc10 hx10
    go_wp2
    go_ret
    exact ⟨rfl, HB3.out⟩
  have hcc : ((c.toNat : Int) == 10) = false := beq_eq_false_iff_ne.2 (fun h => hc10 (UInt8.toNat_inj.1 (show c.toNat = (10 : UInt8).toNat by simpa using (by omega : c.toNat = 10))))
  by_cases hxc : c = x
  · have hcx : ((x.toNat : Int) == (c.toNat : Int)) = true := by rw [hxc]; simp
    clear hc10 hx10 hxc
    go_wp2
    go_ret
    exact ⟨rfl, HB3.out⟩
  have hcx : ((x.toNat : Int) == (c.toNat : Int)) = false := beq_eq_false_iff_ne.2 (fun h => hxc (UInt8.toNat_inj.1 (by omega)).symm)
  have hspl : l = l.take m ++ x :: l.drop (m + 1) := by
    obtain ⟨h1, h2⟩ := List.getElem?_eq_some_iff.1 hx
    conv => lhs; rw [← List.take_append_drop m l, List.drop_eq_getElem_cons h1, h2]
  obtain ⟨er, hop, her⟩ := HALL.out _ _ _ hspl hxc hx10 hc10
  have HER := Lib.hid her
  have HOPEN := Lib.hid (fun (w1 : World) (h : G ≤ w1.heap.size) (hT : LibT w1) => bookOpen_any G [] (l.take m ++ c :: l.drop (m + 1)) w1 h (Sep.nil _ _) hT HLB.out)
  rw [hop] at HOPEN
  clear hxc hx10 hc10 hspl HALL hop her hx
  go_upto_region 7 with fail
  clear h10 hcc hcx htm
  go_wp2
  go_loopg [9, 10] m (fun gk vc vi wr => ∃ (k : Nat), gk + k = m ∧ vi = .int .i64 k ∧ vc = .int .i64 ((l.take k).count 10 + 1 : Nat) ∧ Below G w wr)
  case atStart => exact ⟨0, rfl, rfl, rfl, HB3.out⟩
  case round =>
    obtain ⟨gi, rfl⟩ : ∃ gi, gi = gk := ⟨_, rfl⟩
    obtain ⟨k, hgi, rfl, rfl, hbel⟩ := hrel
    clear HB3
    have HB4 := Lib.hid hbel
    obtain ⟨w4, hw4⟩ : ∃ w4, w4 = wr := ⟨_, rfl⟩
    obtain rfl := hw4
    clear hbel
    by_cases hlt : k < m
    · have hki : decide ((k : Int) < (m : Int)) = true := decide_eq_true (by omega)
      have hk0 : (0 : Int) ≤ (k : Int) := by omega
      obtain ⟨z, hz⟩ : ∃ z, l[k]? = some z := ⟨_, List.getElem?_eq_getElem (by omega)⟩
      have hks : k < t.size := by omega
      have htk := byte_at (HAT.out k z hz) hks
      have HCN := Lib.hid (count_next hz)
      have hcb : (l.take k).count 10 ≤ k := Nat.le_trans List.count_le_length (by rw [List.length_take]; omega)
      obtain ⟨cn, hcn⟩ : ∃ cn, cn = (l.take k).count 10 := ⟨_, rfl⟩
      rw [← hcn] at HCN hcb ⊢
      clear hz hcn
      by_cases hct : z = 10
      · have HC1 := Lib.hid (show (l.take (k + 1)).count 10 = cn + 1 by rw [HCN.out, if_pos hct])
        clear HCN
        subst hct
        have h10 : (((10 : UInt8).toNat : Int) == 10) = true := by decide
        go_wp2
        go_roundg (gi - 1)
        case measure => omega
        case rel => exact ⟨k + 1, by omega, by go_num, by rw [HC1.out]; go_num, HB4.out⟩
      · have h10 : ((z.toNat : Int) == 10) = false := beq_eq_false_iff_ne.2 (fun h => hct (UInt8.toNat_inj.1 (show z.toNat = (10 : UInt8).toNat by simpa using (by omega : z.toNat = 10))))
        have HC1 := Lib.hid (show (l.take (k + 1)).count 10 = cn by rw [HCN.out, if_neg hct]; rfl)
        clear hct HCN
        go_wp2
        go_roundg (gi - 1)
        case measure => omega
        case rel => exact ⟨k + 1, by omega, by go_num, by rw [HC1.out], HB4.out⟩
    · have hkm : k = m := by omega
      rw [hkm]
      have hki : decide ((m : Int) < (m : Int)) = false := by simp
      obtain ⟨ln, hln⟩ : ∃ ln, ln = (l.take m).count 10 + 1 := ⟨_, rfl⟩
      rw [← hln] at HOPEN ⊢
      clear hlt hgi hkm HAT hln
      go_upto_region 13 with fail
      obtain ⟨w5, hw5⟩ : ∃ w5, w5 = w4.drew := ⟨_, rfl⟩
      have HB5 := Lib.hid (show Below G w w5 by rw [hw5]; exact HB4.out.drew)
      have hg5 : G ≤ w5.heap.size := Nat.le_trans hG HB5.out.size
      obtain ⟨m1, hm1E⟩ : ∃ m1, m1 = m + 1 := ⟨_, rfl⟩
      have hm1 : ((m : Int) + 1) = (m1 : Int) := by omega
      have hmle : m ≤ l.length := by omega
      have hm1le : m1 ≤ l.length := by omega
      have hm10 : (0 : Int) ≤ (m1 : Int) := by omega
      have hm1I : (m1 : Int) ≤ (l.length : Int) := by omega
      have hm1w : IntKind.i64.wrap (m1 : Int) = (m1 : Int) := by simp [IntKind.wrap, IntKind.bits, IntKind.signed]; omega
      obtain ⟨bt, hbt⟩ : ∃ bt, bt = bytesOf (l.take m) := ⟨_, rfl⟩
      obtain ⟨bd, hbd⟩ : ∃ bd, bd = bytesOf (l.drop m1) := ⟨_, rfl⟩
      have hx1 := HEX.out.1
      have hx2 := HEX.out.2
      rw [← hbt] at hx1
      rw [← hm1E, ← hbd] at hx2
      have hbts : bt.size ≤ 6000 := by rw [hbt]; show (l.take m).length ≤ 6000; rw [List.length_take]; omega
      have hbds : bd.size ≤ 6000 := by rw [hbd]; show (l.drop m1).length ≤ 6000; rw [List.length_drop]; omega
      have hsn : ∀ (w' : World), w'.cell? ⟨w5.heap.size, 0, none⟩ = w'.cell? ⟨w5.heap.size, 0, none⟩ := fun _ => rfl
      clear hsn
      have hs6 := Sep.blkNew (Sep.nil G w5) hg5 #[.int .u8 (c.toNat : Int)] 5
      obtain ⟨c6, _⟩ := Sep.blkAt (A := []) hs6 (j := 0) rfl
      have hcv := run_string_of_bytes (P := Tryz.prog) (w := w5.alloc (.cells #[.int .u8 (c.toNat : Int)] 5)) 1 Tryz.underlying31 Tryz.underlying5 Tryz.underlying9 (b := w5.heap.size) (off := 0) (len := 1) (bs := [c]) rfl (fun j y hj => by
        match j, hj with
        | 0, hj => simp at hj; subst hj; exact c6)
      have HB6 := Lib.hid (HB5.out.alloc hg5 (.cells #[.int .u8 (c.toNat : Int)] 5))
      have k0 : ¬ 9223372036854775807 < bt.size + 1 := by omega
      have k1 : ¬ 9223372036854775807 < bt.size + 1 + bd.size := by omega
      have HCAT := Lib.hid (show bt ++ ⟨#[c]⟩ ++ bd = bytesOf (l.take m ++ c :: l.drop (m + 1)) by
        rw [hbt, hbd, hm1E]
        apply ByteArray.ext
        simp [bytesOf, ByteArray.data_append])
      clear hbt hbd hm1E hbts hbds
      refine wp_region_held_drew (S := fun _ => True) (by kernel_rfl) trivial (fun hHeld => ?_)
      rw [← hw5]
      clear hw5 HB4 hs6 c6 HB5
      refine wpAnyH_take (i := 0) (v := ?vp0) rfl (by kernel_rfl) (by kernel_rfl) (by kernel_rfl) (fun _ _ _ h => h) (Or.inl ⟨by rfl, ?hyp0⟩) (by assumption) ?restp0
      case hyp0 =>
        intro w hSw
        try dsimp only at hSw
        go_simp
        try rw [if_pos hmle]
        try rw [if_pos hm1le]
        try with_reducible rfl
      try simp only [Act.put, List.setIfInBounds_toArray, List.set_cons_zero, List.set_cons_succ, List.getElem_toArray, List.getElem_cons_zero]
      refine wpAnyH_take (i := 1) (v := ?vp1) rfl (by kernel_rfl) (by kernel_rfl) (by kernel_rfl) (fun _ _ _ h => h) (Or.inl ⟨by rfl, ?hyp1⟩) (by assumption) ?restp1
      case hyp1 =>
        intro w hSw
        try dsimp only at hSw
        go_simp
        try rw [if_pos hmle]
        try rw [if_pos hm1le]
        try with_reducible rfl
      try simp only [Act.put, List.setIfInBounds_toArray, List.set_cons_zero, List.set_cons_succ, List.getElem_toArray, List.getElem_cons_zero, List.getElem_cons_succ]
      refine wpAnyH_take (i := 2) (v := ?vp2) rfl (by kernel_rfl) (by kernel_rfl) (by kernel_rfl) (fun _ _ _ h => h) (Or.inl ⟨by rfl, ?hyp2⟩) (by assumption) ?restp2
      case hyp2 =>
        intro w hSw
        try dsimp only at hSw
        go_simp
        try rw [if_pos hmle]
        try rw [if_pos hm1le]
        try with_reducible rfl
      try simp only [Act.put, List.setIfInBounds_toArray, List.set_cons_zero, List.set_cons_succ, List.getElem_toArray, List.getElem_cons_zero, List.getElem_cons_succ]
      refine wpAnyH_take (i := 3) (v := ?vp3) rfl (by kernel_rfl) (by kernel_rfl) (by kernel_rfl) (fun _ _ _ h => h) (Or.inl ⟨by rfl, ?hyp3⟩) (by assumption) ?restp3
      case hyp3 =>
        intro w hSw
        try dsimp only at hSw
        go_simp
        try rw [if_pos hmle]
        try rw [if_pos hm1le]
        try with_reducible rfl
      try simp only [Act.put, List.setIfInBounds_toArray, List.set_cons_zero, List.set_cons_succ, List.getElem_toArray, List.getElem_cons_zero, List.getElem_cons_succ]
      refine wpAnyH_take (i := 7) (v := ?vp7) rfl (by kernel_rfl) (by kernel_rfl) (by kernel_rfl) (fun _ _ _ h => h) (Or.inl ⟨by rfl, ?hyp7⟩) (by assumption) ?restp7
      case hyp7 =>
        intro w hSw
        try dsimp only at hSw
        go_simp
        try rw [if_pos hmle]
        try rw [if_pos hm1le]
        try with_reducible rfl
      try simp only [Act.put, List.setIfInBounds_toArray, List.set_cons_zero, List.set_cons_succ, List.getElem_toArray, List.getElem_cons_zero, List.getElem_cons_succ]
      refine wpAnyH_take (i := 8) (v := ?vp8) rfl (by kernel_rfl) (by kernel_rfl) (by kernel_rfl) (fun _ _ _ h => h) (Or.inl ⟨by rfl, ?hyp8⟩) (by assumption) ?restp8
      case hyp8 =>
        intro w hSw
        try dsimp only at hSw
        go_simp
        try rw [if_pos hmle]
        try rw [if_pos hm1le]
        try with_reducible rfl
      try simp only [Act.put, List.setIfInBounds_toArray, List.set_cons_zero, List.set_cons_succ, List.getElem_toArray, List.getElem_cons_zero, List.getElem_cons_succ]
      refine wpAnyH_take (i := 9) (v := ?vp9) rfl (by kernel_rfl) (by kernel_rfl) (by kernel_rfl) (fun _ _ _ h => h) (Or.inl ⟨by rfl, ?hyp9⟩) (by assumption) ?restp9
      case hyp9 =>
        intro w hSw
        try dsimp only at hSw
        go_simp
        try rw [if_pos hmle]
        try rw [if_pos hm1le]
        try with_reducible rfl
      try simp only [Act.put, List.setIfInBounds_toArray, List.set_cons_zero, List.set_cons_succ, List.getElem_toArray, List.getElem_cons_zero, List.getElem_cons_succ]
      refine wpAnyH_take (i := 10) (v := ?vp10) rfl (by kernel_rfl) (by kernel_rfl) (by kernel_rfl) (fun _ _ _ h => h) (Or.inl ⟨by rfl, ?hyp10⟩) (by assumption) ?restp10
      case hyp10 =>
        intro w hSw
        try dsimp only at hSw
        go_simp
        try rw [if_pos hmle]
        try rw [if_pos hm1le]
        try with_reducible rfl
      try simp only [Act.put, List.setIfInBounds_toArray, List.set_cons_zero, List.set_cons_succ, List.getElem_toArray, List.getElem_cons_zero, List.getElem_cons_succ]
      refine wpAnyH_ready (rs := [4]) (by kernel_rfl) (by simp) ?_
      refine AllReadyH.cons rfl (fun K hK => ?_) AllReadyH.nil
      go_simp
      go_wp2_with fail
      refine hK.out _ _ ?_ (fun hHeld4 => ?_)
      · trivial
      clear hK K
      try simp only [Act.put, List.setIfInBounds_toArray, List.set_cons_zero, List.set_cons_succ, List.getElem_toArray, List.getElem_cons_zero, List.getElem_cons_succ]
      refine wpAnyH_ready (rs := [5]) (by kernel_rfl) (by simp) ?_
      refine AllReadyH.cons rfl (fun K hK => ?_) AllReadyH.nil
      go_simp
      go_wp2_with fail
      refine hK.out _ _ ?_ (fun hHeld5 => ?_)
      · trivial
      clear hK K
      try simp only [Act.put, List.setIfInBounds_toArray, List.set_cons_zero, List.set_cons_succ, List.getElem_toArray, List.getElem_cons_zero, List.getElem_cons_succ]
      refine wpAnyH_take (i := 6) (v := ?vp6) rfl (by kernel_rfl) (by kernel_rfl) (by kernel_rfl) (fun _ _ _ h => h) (Or.inl ⟨by rfl, ?hyp6⟩) (by assumption) ?restp6
      case hyp6 =>
        intro w hSw
        go_simp
        try rw [if_neg k0]
        try rw [if_neg k1]
        try with_reducible rfl
      try simp only [Act.put, List.setIfInBounds_toArray, List.set_cons_zero, List.set_cons_succ, List.getElem_toArray, List.getElem_cons_zero, List.getElem_cons_succ]
      refine wpAnyH_take (i := 11) (v := ?vp11) rfl (by kernel_rfl) (by kernel_rfl) (by kernel_rfl) (fun _ _ _ h => h) (Or.inl ⟨by rfl, ?hyp11⟩) (by assumption) ?restp11
      case hyp11 =>
        intro w hSw
        go_simp
        try rw [if_neg k0]
        try rw [if_neg k1]
        try with_reducible rfl
      try simp only [Act.put, List.setIfInBounds_toArray, List.set_cons_zero, List.set_cons_succ, List.getElem_toArray, List.getElem_cons_zero, List.getElem_cons_succ]
      refine wpAnyH_ready (rs := [12]) (by kernel_rfl) (by simp) ?_
      refine AllReadyH.cons rfl (fun K hK => ?_) AllReadyH.nil
      go_simp
      go_at_call 16
      rw [HCAT.out]
      refine (HOPEN.out _ (Nat.le_trans hG HB6.out.size) (HDOOR.out.below HB6.out HLB.out)).mono ?_
      rintro e w7 ⟨rfl, -, hb⟩
      have HB7 := Lib.hid (HB6.out.trans hb)
      clear hb HOPEN HB6 HCAT
      go_wp2_with fail
      refine hK.out _ _ ?_ (fun hHeld12 => ?_)
      · trivial
      clear hK K
      try simp only [Act.put, List.setIfInBounds_toArray, List.set_cons_zero, List.set_cons_succ, List.getElem_toArray, List.getElem_cons_zero, List.getElem_cons_succ]
      refine wpAnyH_take (i := 13) (v := ?vq13) rfl (by kernel_rfl) (by kernel_rfl) (by kernel_rfl) (fun _ _ _ h => h) (Or.inl ⟨by rfl, ?hyq13⟩) (by assumption) ?restq13
      case hyq13 =>
        intro w hSw
        try dsimp only at hSw
        go_simp
        try rw [if_pos hmle]
        try rw [if_pos hm1le]
        try with_reducible rfl
      try simp only [Act.put, List.setIfInBounds_toArray, List.set_cons_zero, List.set_cons_succ, List.getElem_toArray, List.getElem_cons_zero, List.getElem_cons_succ]
      refine wpAnyH_take (i := 14) (v := ?vq14) rfl (by kernel_rfl) (by kernel_rfl) (by kernel_rfl) (fun _ _ _ h => h) (Or.inl ⟨by rfl, ?hyq14⟩) (by assumption) ?restq14
      case hyq14 =>
        intro w hSw
        try dsimp only at hSw
        go_simp
        try rw [if_pos hmle]
        try rw [if_pos hm1le]
        try with_reducible rfl
      try simp only [Act.put, List.setIfInBounds_toArray, List.set_cons_zero, List.set_cons_succ, List.getElem_toArray, List.getElem_cons_zero, List.getElem_cons_succ]
      refine wpAnyH_take (i := 15) (v := ?vq15) rfl (by kernel_rfl) (by kernel_rfl) (by kernel_rfl) (fun _ _ _ h => h) (Or.inl ⟨by rfl, ?hyq15⟩) (by assumption) ?restq15
      case hyq15 =>
        intro w hSw
        try dsimp only at hSw
        go_simp
        try rw [if_pos hmle]
        try rw [if_pos hm1le]
        try with_reducible rfl
      try simp only [Act.put, List.setIfInBounds_toArray, List.set_cons_zero, List.set_cons_succ, List.getElem_toArray, List.getElem_cons_zero, List.getElem_cons_succ]
      refine wpAnyH_take (i := 16) (v := ?vq16) rfl (by kernel_rfl) (by kernel_rfl) (by kernel_rfl) (fun _ _ _ h => h) (Or.inl ⟨by rfl, ?hyq16⟩) (by assumption) ?restq16
      case hyq16 =>
        intro w hSw
        try dsimp only at hSw
        go_simp
        try rw [if_pos hmle]
        try rw [if_pos hm1le]
        try with_reducible rfl
      try simp only [Act.put, List.setIfInBounds_toArray, List.set_cons_zero, List.set_cons_succ, List.getElem_toArray, List.getElem_cons_zero, List.getElem_cons_succ]
      refine wpAnyH_take (i := 17) (v := ?vq17) rfl (by kernel_rfl) (by kernel_rfl) (by kernel_rfl) (fun _ _ _ h => h) (Or.inl ⟨by rfl, ?hyq17⟩) (by assumption) ?restq17
      case hyq17 =>
        intro w hSw
        try dsimp only at hSw
        go_simp
        try rw [if_pos hmle]
        try rw [if_pos hm1le]
        try with_reducible rfl
      try simp only [Act.put, List.setIfInBounds_toArray, List.set_cons_zero, List.set_cons_succ, List.getElem_toArray, List.getElem_cons_zero, List.getElem_cons_succ]
      refine wpAnyH_take (i := 18) (v := ?vq18) rfl (by kernel_rfl) (by kernel_rfl) (by kernel_rfl) (fun _ _ _ h => h) (Or.inl ⟨by rfl, ?hyq18⟩) (by assumption) ?restq18
      case hyq18 =>
        intro w hSw
        try dsimp only at hSw
        go_simp
        try rw [if_pos hmle]
        try rw [if_pos hm1le]
        try with_reducible rfl
      try simp only [Act.put, List.setIfInBounds_toArray, List.set_cons_zero, List.set_cons_succ, List.getElem_toArray, List.getElem_cons_zero, List.getElem_cons_succ]
      refine wpAnyH_take (i := 19) (v := ?vq19) rfl (by kernel_rfl) (by kernel_rfl) (by kernel_rfl) (fun _ _ _ h => h) (Or.inl ⟨by rfl, ?hyq19⟩) (by assumption) ?restq19
      case hyq19 =>
        intro w hSw
        try dsimp only at hSw
        go_simp
        try rw [if_pos hmle]
        try rw [if_pos hm1le]
        try with_reducible rfl
      try simp only [Act.put, List.setIfInBounds_toArray, List.set_cons_zero, List.set_cons_succ, List.getElem_toArray, List.getElem_cons_zero, List.getElem_cons_succ]
      refine wpAnyH_done (by kernel_rfl) ?_ _
      clear hx1 hx2 k0 k1 hcv
      rcases HER.out with he | he
      · rw [he]
        go_wp2_with fail
        refine (same_any 2 2 true w7 (HD.out _ HB7.out) (by decide)).mono ?_
        rintro e w8 ⟨rfl, hb⟩
        have HB8 := Lib.hid (HB7.out.trans (hb.mono (Nat.le_trans hG HB7.out.size)))
        clear hb HB7
        go_wp2
        go_ret
        exact ⟨rfl, HB8.out⟩
      · rw [he]
        go_wp2_with fail
        refine (same_any 6 2 false w7 (HD.out _ HB7.out) (by decide)).mono ?_
        rintro e w8 ⟨rfl, hb⟩
        have HB8 := Lib.hid (HB7.out.trans (hb.mono (Nat.le_trans hG HB7.out.size)))
        clear hb HB7
        go_wp2_with fail
        refine (same_any 6 6 true w8 (HD.out _ HB8.out) (by decide)).mono ?_
        rintro e w9 ⟨rfl, hb⟩
        have HB9 := Lib.hid (HB8.out.trans (hb.mono (Nat.le_trans hG HB8.out.size)))
        clear hb HB8
        go_wp2
        go_ret
        exact ⟨rfl, HB9.out⟩
end Go.Proofs.YtbcfcjecobihnaaGreatDoor
