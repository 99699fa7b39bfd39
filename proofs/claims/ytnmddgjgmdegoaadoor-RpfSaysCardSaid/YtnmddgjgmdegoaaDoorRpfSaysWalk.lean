/- RpfSays returns true: of any links and a point how many copies come to each one, how many are sent, and who would go over one, are as the document says. -/
import Derived.Test.YtnmddgjgmdegoaaDoorTold
import Derived.Test.YtnmddgjgmdegoaaDoorLinksRef
import Derived.Test.YtnmddgjgmdegoaaDoorRpfRef
import Derived.Test.YtnmddgjgmdegoaaDoorFlood
import Derived.Test.YtnmddgjgmdegoaaDoorKids
import Derived.Test.YtnmddgjgmdegoaaDoorInts
import Derived.Test.YtnmddgjgmdegoaaDoorIn3
namespace Go.Proofs.YtnmddgjgmdegoaaDoor
open Go.RowKit
set_option linter.unusedVariables false

set_option maxHeartbeats 4000000 in
set_option maxRecDepth 100000 in
theorem rpfSays_walk (n : Int) (ao : Option Addr) (ac : Nat) (L : List Lnk) (f t : Int) (w : World) (hdoor : Door w) (hnb : -9223372036854775808 ≤ n ∧ n ≤ 9223372036854775807) (hA : RowSl w.heap.size w ao 3 (L.map lnkC)) (hac : L.length ≤ ac) (hmax : ac ≤ maxLen) (hgood : ∀ x ∈ L, LnkGood x)
    (hfb : -9223372036854775808 ≤ f ∧ f ≤ 9223372036854775807) (htb : -9223372036854775808 ≤ t ∧ t ≤ 9223372036854775807) :
    Calls Tryd.prog 7 #[.int .i64 n, .slice ao L.length ac, .int .i64 f, .int .i64 t] w fun e w' => e = .returned (.bool true) ∧ Below w.heap.size w w' := by
  unfold maxLen at hmax
  have HA := Lib.hid hA; clear hA hgood
  have HD := Lib.hid hdoor; clear hdoor
  obtain ⟨g, hg⟩ : ∃ g, g = w.heap.size := ⟨_, rfl⟩
  rw [← hg] at HA
  have HG := Lib.hid hg; clear hg
  have hdoor' : ∀ w', Below g w w' → Door w' := fun w' h => HD.out.below h (by rw [HG.out]; exact HD.out.pos)
  have HDOOR := Lib.hid hdoor'; clear hdoor' HD
  have hci : Tryd.prog.cellsOf 3 = 1 := by kernel_rfl
  obtain ⟨c, hc⟩ : ∃ c, c = vCode n L := ⟨_, rfl⟩
  have HREF := Lib.hid (linksRef_any n ao _ ac _ L w HA.out rfl (by omega) (Nat.le_of_eq HG.out))
  by_cases hc0 : c = 0
  · obtain ⟨m, rfl, hok⟩ := vCode_zero.1 (hc.symm.trans hc0)
    have hc' : vCode (m : Int) L = 0 := by rw [← hc, hc0]
    rw [hc'] at HREF
    clear hc hc0
    have hn8 := hok.n8
    have hn1 := hok.n1
    have hl32 := hok.few
    have HOK := Lib.hid hok; clear hok
    have HC' := Lib.hid hc'; clear hc'
    have hm0 : (0 : Int) < (m : Int) := by omega
    by_cases hfin : 0 ≤ f ∧ f ≤ (m : Int) - 1
    · obtain ⟨hf0, hf1⟩ := hfin
      obtain ⟨o, rfl⟩ := Int.eq_ofNat_of_zero_le hf0
      have hom : o < m := by omega
      have hsame : ∀ w', Below g w w' → Calls Tryd.prog 16 #[.nilIface, .int .i64 0] w' fun x w'' => x = .returned (.bool true) ∧ Below w'.heap.size w' w'' := fun w' h => by
        have := same_any 0 0 true w' (HDOOR.out _ h) rfl
        rw [errV_zero] at this
        exact this
      have HSAME := Lib.hid hsame; clear hsame
      go_enter Tryd.func7, Tryd.ntmps7
      go_wp2_with fail
      refine HREF.out.mono ?_
      rintro e w1 ⟨rfl, hb⟩
      have HB1 := Lib.hid (show Below g w w1 by rw [HG.out]; exact hb); clear hb HREF
      have hg1 : g ≤ w1.heap.size := by have := HB1.out.size; rw [← HG.out] at this; exact this
      go_wp2_with fail
      refine (in3_yes _ _ _ _ hf0 hf1).mono ?_
      rintro e w' ⟨rfl, rfl⟩
      go_wp2_with fail
      refine (floodRef_ok m _ _ _ g L o _ (HA.out.below HB1.out) rfl hg1 HOK.out hom).mono ?_
      rintro e w2 ⟨v1, rfl, hs, hb⟩
      obtain ⟨a1, c1, rfl, -, -⟩ := hs.intsShape (A := []) (C := [])
      have HX := Lib.hid (hs.intSl (A := []) (C := []))
      rw [arr_len]
      obtain ⟨sn, hsn⟩ : ∃ sn, sn = sentOf m L o := ⟨_, rfl⟩
      rw [← hsn]
      have HSN := Lib.hid hsn
      clear hs hsn
      have HB2 := Lib.hid (HB1.out.trans (hb.mono hg1))
      have hg2 : g ≤ w2.heap.size := by have := HB2.out.size; rw [← HG.out] at this; exact this
      clear hb
      go_wp2_with fail
      refine (flood_ok m _ _ _ g L o _ (HA.out.below HB2.out) rfl hg2 HOK.out hom).mono ?_
      rintro e w3 ⟨v2, rfl, hs, hb⟩
      obtain ⟨a2, c2, rfl, -, -⟩ := hs.intsShape (A := []) (C := [])
      have HY := Lib.hid (hs.intSl (A := []) (C := []))
      rw [arr_len, ← HSN.out]
      have HX3 := Lib.hid ((HX.out.below hb).mono hb.size)
      clear hs HX
      have HB3 := Lib.hid (HB2.out.trans (hb.mono hg2))
      have hg3 : g ≤ w3.heap.size := by have := HB3.out.size; rw [← HG.out] at this; exact this
      clear hb
      go_wp2_with fail
      refine (HSAME.out _ HB3.out).mono ?_
      rintro e w4 ⟨rfl, hb⟩
      have HX4 := Lib.hid ((HX3.out.below hb).mono hb.size)
      have HY4 := Lib.hid ((HY.out.below hb).mono hb.size)
      clear HX3 HY
      have HB4 := Lib.hid (HB3.out.trans (hb.mono hg3))
      have hg4 : g ≤ w4.heap.size := by have := HB4.out.size; rw [← HG.out] at this; exact this
      clear hb
      go_wp2_with fail
      refine (ints_any _ _ _ _ _ _ _ _ _ _ true _ HY4.out HX4.out (arr_len _ _).symm (arr_len _ _).symm (by rw [arr_len]; omega) (by simp)).mono ?_
      rintro e w5 ⟨rfl, hd⟩
      have hb := below_of_drew hd
      clear hd HX4 HY4
      have HB5 := Lib.hid (HB4.out.trans (hb.mono hg4))
      have hg5 : g ≤ w5.heap.size := by have := HB5.out.size; rw [← HG.out] at this; exact this
      clear hb
      have hee : ((sn : Int) == (sn : Int)) = true := by simp
      by_cases htin : 0 ≤ t ∧ t ≤ (m : Int) - 1
      · obtain ⟨ht0, ht1⟩ := htin
        obtain ⟨a, rfl⟩ := Int.eq_ofNat_of_zero_le ht0
        have ham : a < m := by omega
        go_wp2_with fail
        refine (in3_yes _ _ _ _ ht0 ht1).mono ?_
        rintro e w' ⟨rfl, rfl⟩
        have HS5 := Lib.hid ((Sep.nil g w5).intsNil 3)
        go_wp2
        go_loopg [11, 17] m (fun gk ov iv wr => ∃ (i : Nat) (a5 : Option Addr) (n5 c5 : Nat), gk + i = m ∧ ov = .slice a5 n5 c5 ∧ iv = .int .i64 i ∧ Sep g wr [Ent.ints 3 (.slice a5 n5 c5) (kidI m L o a i)] ∧ Below g w wr)
        case atStart => exact ⟨0, none, 0, 0, by omega, rfl, rfl, HS5.out, HB5.out⟩
        case round =>
          obtain ⟨gi, rfl⟩ : ∃ gi, gi = gk := ⟨_, rfl⟩
          obtain ⟨i, a5, n5, c5, hgi, rfl, rfl, hs, hb⟩ := hrel
          have HS6 := Lib.hid hs
          have HB6 := Lib.hid hb
          clear hs hb HS5 HB5 hg5 HB4 hg4 HB3 hg3 HB2 hg2 HB1 hg1
          obtain ⟨w6, hw6⟩ : ∃ w6, w6 = wr := ⟨_, rfl⟩
          obtain rfl := hw6
          have hg6 : g ≤ w6.heap.size := by have := HB6.out.size; rw [← HG.out] at this; exact this
          by_cases hlt : i < m
          · have hii : (i : Int) < (m : Int) := by omega
            have hi0 : (0 : Int) ≤ (i : Int) := by omega
            have hll := kidI_len m L o a i
            by_cases hio : i = o
            · have hq : ((i : Int) != (o : Int)) = false := by simp [hio]
              have hnx := kidI_no (n := m) (L := L) (o := o) (a := a) (k := i) (by unfold kidB; simp [hio])
              have HNX := Lib.hid hnx
              clear hnx hio hll
              go_wp2
              go_roundg (gi - 1)
              case measure => omega
              case rel => exact ⟨i + 1, _, _, _, by omega, rfl, by go_num, by rw [HNX.out]; exact HS6.out, HB6.out⟩
            · have hq : ((i : Int) != (o : Int)) = true := by simp; omega
              go_wp2_with fail
              refine (hopRef_ok m _ _ _ g L i o _ (HA.out.below HB6.out) rfl hg6 HOK.out hlt hom).mono ?_
              rintro e w7 ⟨rfl, hb⟩
              obtain ⟨u, hu⟩ : ∃ u, u = byOf m L o i := ⟨_, rfl⟩
              have hu' : hopOf m (edges L) i o = u := hu.symm
              rw [hu']
              clear hu'
              have HS7 := Lib.hid (HS6.out.kept hb)
              clear HS6
              have HB7 := Lib.hid (HB6.out.trans (hb.mono hg6))
              have hg7 : g ≤ w7.heap.size := by have := HB7.out.size; rw [← HG.out] at this; exact this
              clear hb
              by_cases hua : u = (a : Int)
              · have hq2 : (u == (a : Int)) = true := by simp [hua]
                have hnx := kidI_yes (n := m) (L := L) (o := o) (a := a) (k := i) (by unfold kidB; rw [← hu]; simp [hio, hua])
                have HNX := Lib.hid hnx
                clear hnx hu hio hua
                go_wp2_with (at_builtin; refine wpList_append_int (A := []) rfl (.tmp 91) (.tmp 93) rfl elemInt8 rfl HS7.out hg7 rfl (by omega) ?_)
                intro v8 w8 hs hb
                obtain ⟨a8, n8, c8, rfl⟩ : ∃ b n c, v8 = .slice b n c := by
                  obtain ⟨b, c, h, -⟩ := Sep.intsShape (A := []) (C := []) hs
                  exact ⟨b, _, c, h⟩
                rw [← HNX.out] at hs
                have HS8 := Lib.hid hs
                have HB8 := Lib.hid (HB7.out.trans hb)
                clear hs hb HS7 HB7 hg7 hll
                go_wp2
                go_roundg (gi - 1)
                case measure => omega
                case rel => exact ⟨i + 1, _, _, _, by omega, rfl, by go_num, HS8.out, HB8.out⟩
              · have hq2 : (u == (a : Int)) = false := by simp [hua]
                have hnx := kidI_no (n := m) (L := L) (o := o) (a := a) (k := i) (by unfold kidB; rw [← hu]; simp [hua])
                have HNX := Lib.hid hnx
                clear hnx hu hio hua hll
                go_wp2
                go_roundg (gi - 1)
                case measure => omega
                case rel => exact ⟨i + 1, _, _, _, by omega, rfl, by go_num, by rw [HNX.out]; exact HS7.out, HB7.out⟩
          · have hii : decide ((i : Int) < (m : Int)) = false := decide_eq_false (by omega)
            have him : i = m := by omega
            have hs9 := HS6.out
            rw [him] at hs9
            obtain ⟨a6, c6, he, -, -⟩ := Sep.intsShape (A := []) (C := []) hs9
            simp only [Value.slice.injEq] at he
            obtain ⟨rfl, hn5, rfl⟩ := he
            have hx6 : IntSl w6.heap.size w6 a5 (kidI m L o a m) := Sep.intSl (A := []) (C := []) (by rw [hn5] at hs9; exact hs9)
            have HX6 := Lib.hid hx6
            have HN5 := Lib.hid hn5
            clear hs9 hx6 him HS6 hn5
            go_wp2_with fail
            refine (kids_ok m _ _ _ g L o a _ (HA.out.below HB6.out) rfl hg6 HOK.out hom ham).mono ?_
            rintro e w7 ⟨vk, rfl, hs, hb⟩
            obtain ⟨ak, ck, rfl, -, -⟩ := hs.intsShape (A := []) (C := [])
            have HY := Lib.hid (hs.intSl (A := []) (C := []))
            have HX7 := Lib.hid ((HX6.out.below hb).mono hb.size)
            clear hs HX6
            obtain ⟨nk, hnk⟩ : ∃ nk, nk = (kidI m L o a m).length := ⟨_, rfl⟩
            rw [← hnk]
            have HNK := Lib.hid hnk
            clear hnk
            have HB7 := Lib.hid (HB6.out.trans (hb.mono hg6))
            have hg7 : g ≤ w7.heap.size := by have := HB7.out.size; rw [← HG.out] at this; exact this
            clear hb
            go_wp2_with fail
            refine (HSAME.out _ HB7.out).mono ?_
            rintro e w8 ⟨rfl, hb⟩
            have HX8 := Lib.hid ((HX7.out.below hb).mono hb.size)
            have HY8 := Lib.hid ((HY.out.below hb).mono hb.size)
            clear HX7 HY
            have HB8 := Lib.hid (HB7.out.trans (hb.mono hg7))
            have hg8 : g ≤ w8.heap.size := by have := HB8.out.size; rw [← HG.out] at this; exact this
            clear hb
            go_wp2_with fail
            refine (ints_any _ _ _ _ _ _ _ _ _ _ true _ HY8.out HX8.out HNK.out HN5.out (by have := kidI_len m L o a m; omega) (by simp)).mono ?_
            rintro e w9 ⟨rfl, hd⟩
            have hb := below_of_drew hd
            clear hd
            have HB9 := Lib.hid (HB8.out.trans (hb.mono hg8))
            have hg9 : g ≤ w9.heap.size := by have := HB9.out.size; rw [← HG.out] at this; exact this
            clear hb
            go_wp2
            go_ret
            exact ⟨rfl, by have := HB9.out; rw [HG.out] at this; exact this⟩
      · have hkc : (1 : Int) = kCode (m : Int) L (o : Int) t := by unfold kCode; rw [if_pos HC'.out, if_neg (fun h => htin h.2)]
        have HKC := Lib.hid hkc
        have HTN := Lib.hid htin
        clear hkc htin
        have hsamey : ∀ w', Below g w w' → Calls Tryd.prog 16 #[.iface 64 (.int .i64 1), .int .i64 1] w' fun x w'' => x = .returned (.bool true) ∧ Below w'.heap.size w' w'' := fun w' h => by
          have := same_any 1 1 true w' (HDOOR.out _ h) (by simp)
          rw [errV_not (by decide)] at this
          exact this
        have HSAMEy := Lib.hid hsamey
        clear hsamey
        go_wp2_with fail
        refine (in3_no _ _ _ _ HTN.out).mono ?_
        rintro e w' ⟨rfl, rfl⟩
        go_wp2
        go_loopg [11, 17] 0 (fun gk ov iv wr => ov = .slice none 0 0 ∧ iv = .int .i64 0 ∧ wr = w5)
        case atStart => exact ⟨rfl, rfl, rfl⟩
        case round =>
          obtain ⟨rfl, rfl, hwx⟩ := hrel
          subst hwx
          go_wp2_with fail
          refine (kids_err _ _ _ _ g L _ _ 1 _ (HA.out.below HB5.out) rfl (by omega) hg5 HKC.out (by decide)).mono ?_
          rintro e w20 ⟨rfl, hb⟩
          have HB20 := Lib.hid (HB5.out.trans (hb.mono hg5))
          have hg20 : g ≤ w20.heap.size := by have := HB20.out.size; rw [← HG.out] at this; exact this
          clear hb
          go_wp2_with fail
          refine (HSAMEy.out _ HB20.out).mono ?_
          rintro e w21 ⟨rfl, hb⟩
          have HB21 := Lib.hid (HB20.out.trans (hb.mono hg20))
          have hg21 : g ≤ w21.heap.size := by have := HB21.out.size; rw [← HG.out] at this; exact this
          clear hb
          go_wp2_with fail
          refine (ints_any _ _ _ _ _ _ 0 0 [] [] true _ (IntSl.nil _ _ _) (IntSl.nil _ _ _) rfl rfl (by decide) (by decide)).mono ?_
          rintro e w22 ⟨rfl, hd⟩
          have hb := below_of_drew hd
          clear hd
          have HB22 := Lib.hid (HB21.out.trans (hb.mono hg21))
          have hg22 : g ≤ w22.heap.size := by have := HB22.out.size; rw [← HG.out] at this; exact this
          clear hb
          go_wp2
          go_ret
          exact ⟨rfl, by have := HB22.out; rw [HG.out] at this; exact this⟩
    · have hfc : (1 : Int) = fCode (m : Int) L f := by unfold fCode; rw [if_pos HC'.out, if_neg hfin]
      have hkc : (1 : Int) = kCode (m : Int) L f t := by unfold kCode; rw [if_pos HC'.out, if_neg (fun h => hfin h.1)]
      have HFC := Lib.hid hfc
      have HKC := Lib.hid hkc
      have HFN := Lib.hid hfin
      clear hfc hkc hfin
      have hsamey : ∀ w', Below g w w' → Calls Tryd.prog 16 #[.iface 64 (.int .i64 1), .int .i64 1] w' fun x w'' => x = .returned (.bool true) ∧ Below w'.heap.size w' w'' := fun w' h => by
        have := same_any 1 1 true w' (HDOOR.out _ h) (by simp)
        rw [errV_not (by decide)] at this
        exact this
      have HSAMEy := Lib.hid hsamey
      clear hsamey
      go_enter Tryd.func7, Tryd.ntmps7
      go_wp2_with fail
      refine HREF.out.mono ?_
      rintro e w1 ⟨rfl, hb⟩
      have HB1 := Lib.hid (show Below g w w1 by rw [HG.out]; exact hb); clear hb HREF
      have hg1 : g ≤ w1.heap.size := by have := HB1.out.size; rw [← HG.out] at this; exact this
      go_wp2_with fail
      refine (in3_no _ _ _ _ HFN.out).mono ?_
      rintro e w' ⟨rfl, rfl⟩
      go_wp2_with fail
      refine (flood_err _ _ _ _ g L _ 1 _ (HA.out.below HB1.out) rfl (by omega) hg1 HFC.out (by decide)).mono ?_
      rintro e w10 ⟨rfl, hb⟩
      have HB10 := Lib.hid (HB1.out.trans (hb.mono hg1))
      have hg10 : g ≤ w10.heap.size := by have := HB10.out.size; rw [← HG.out] at this; exact this
      clear hb
      go_wp2_with fail
      refine (HSAMEy.out _ HB10.out).mono ?_
      rintro e w11 ⟨rfl, hb⟩
      have HB11 := Lib.hid (HB10.out.trans (hb.mono hg10))
      have hg11 : g ≤ w11.heap.size := by have := HB11.out.size; rw [← HG.out] at this; exact this
      clear hb
      go_wp2_with fail
      refine (ints_any _ _ _ _ _ _ 0 0 [] [] true _ (IntSl.nil _ _ _) (IntSl.nil _ _ _) rfl rfl (by decide) (by decide)).mono ?_
      rintro e w12 ⟨rfl, hd⟩
      have hb := below_of_drew hd
      clear hd
      have HB12 := Lib.hid (HB11.out.trans (hb.mono hg11))
      have hg12 : g ≤ w12.heap.size := by have := HB12.out.size; rw [← HG.out] at this; exact this
      clear hb
      go_wp2
      go_loopg [11, 17] 0 (fun gk ov iv wr => ov = .slice none 0 0 ∧ iv = .int .i64 0 ∧ wr = w12)
      case atStart => exact ⟨rfl, rfl, rfl⟩
      case round =>
        obtain ⟨rfl, rfl, hwx⟩ := hrel
        subst hwx
        go_wp2_with fail
        refine (kids_err _ _ _ _ g L _ _ 1 _ (HA.out.below HB12.out) rfl (by omega) hg12 HKC.out (by decide)).mono ?_
        rintro e w20 ⟨rfl, hb⟩
        have HB20 := Lib.hid (HB12.out.trans (hb.mono hg12))
        have hg20 : g ≤ w20.heap.size := by have := HB20.out.size; rw [← HG.out] at this; exact this
        clear hb
        go_wp2_with fail
        refine (HSAMEy.out _ HB20.out).mono ?_
        rintro e w21 ⟨rfl, hb⟩
        have HB21 := Lib.hid (HB20.out.trans (hb.mono hg20))
        have hg21 : g ≤ w21.heap.size := by have := HB21.out.size; rw [← HG.out] at this; exact this
        clear hb
        go_wp2_with fail
        refine (ints_any _ _ _ _ _ _ 0 0 [] [] true _ (IntSl.nil _ _ _) (IntSl.nil _ _ _) rfl rfl (by decide) (by decide)).mono ?_
        rintro e w22 ⟨rfl, hd⟩
        have hb := below_of_drew hd
        clear hd
        have HB22 := Lib.hid (HB21.out.trans (hb.mono hg21))
        have hg22 : g ≤ w22.heap.size := by have := HB22.out.size; rw [← HG.out] at this; exact this
        clear hb
        go_wp2
        go_ret
        exact ⟨rfl, by have := HB22.out; rw [HG.out] at this; exact this⟩
  · have hcb : (c == 0) = false := by simp [hc0]
    rw [← hc] at HREF
    have HC := Lib.hid hc; clear hc
    have H0 := Lib.hid hc0; clear hc0
    have hsamey : ∀ w', Below g w w' → Calls Tryd.prog 16 #[.iface 64 (.int .i64 c), .int .i64 c] w' fun x w'' => x = .returned (.bool true) ∧ Below w'.heap.size w' w'' := fun w' h => by
      have := same_any c c true w' (HDOOR.out _ h) (by simp)
      rw [errV_not H0.out] at this
      exact this
    have HSAMEy := Lib.hid hsamey
    clear hsamey
    have hfc : c = fCode n L f := by unfold fCode; rw [if_neg (by rw [← HC.out]; exact H0.out)]; exact HC.out
    have hkc : c = kCode n L f t := by unfold kCode; rw [if_neg (by rw [← HC.out]; exact H0.out)]; exact HC.out
    have HFC := Lib.hid hfc
    have HKC := Lib.hid hkc
    clear hfc hkc
    go_enter Tryd.func7, Tryd.ntmps7
    go_wp2_with fail
    refine HREF.out.mono ?_
    rintro e w1 ⟨rfl, hb⟩
    have HB1 := Lib.hid (show Below g w w1 by rw [HG.out]; exact hb); clear hb HREF
    have hg1 : g ≤ w1.heap.size := by have := HB1.out.size; rw [← HG.out] at this; exact this
    go_wp2_with fail
    refine (flood_err n _ _ _ g L f c _ (HA.out.below HB1.out) rfl (by omega) hg1 HFC.out H0.out).mono ?_
    rintro e w10 ⟨rfl, hb⟩
    have HB10 := Lib.hid (HB1.out.trans (hb.mono hg1))
    have hg10 : g ≤ w10.heap.size := by have := HB10.out.size; rw [← HG.out] at this; exact this
    clear hb
    go_wp2_with fail
    refine (HSAMEy.out _ HB10.out).mono ?_
    rintro e w11 ⟨rfl, hb⟩
    have HB11 := Lib.hid (HB10.out.trans (hb.mono hg10))
    have hg11 : g ≤ w11.heap.size := by have := HB11.out.size; rw [← HG.out] at this; exact this
    clear hb
    go_wp2_with fail
    refine (ints_any _ _ _ _ _ _ 0 0 [] [] true _ (IntSl.nil _ _ _) (IntSl.nil _ _ _) rfl rfl (by decide) (by decide)).mono ?_
    rintro e w12 ⟨rfl, hd⟩
    have hb := below_of_drew hd
    clear hd
    have HB12 := Lib.hid (HB11.out.trans (hb.mono hg11))
    have hg12 : g ≤ w12.heap.size := by have := HB12.out.size; rw [← HG.out] at this; exact this
    clear hb
    by_cases hn0 : 0 < n
    · go_wp2
      go_loopg [11, 17] 0 (fun gk ov iv wr => ov = .slice none 0 0 ∧ iv = .int .i64 0 ∧ wr = w12)
      case atStart => exact ⟨rfl, rfl, rfl⟩
      case round =>
        obtain ⟨rfl, rfl, hwx⟩ := hrel
        subst hwx
        go_wp2_with fail
        refine (kids_err n _ _ _ g L f t c _ (HA.out.below HB12.out) rfl (by omega) hg12 HKC.out H0.out).mono ?_
        rintro e w20 ⟨rfl, hb⟩
        have HB20 := Lib.hid (HB12.out.trans (hb.mono hg12))
        have hg20 : g ≤ w20.heap.size := by have := HB20.out.size; rw [← HG.out] at this; exact this
        clear hb
        go_wp2_with fail
        refine (HSAMEy.out _ HB20.out).mono ?_
        rintro e w21 ⟨rfl, hb⟩
        have HB21 := Lib.hid (HB20.out.trans (hb.mono hg20))
        have hg21 : g ≤ w21.heap.size := by have := HB21.out.size; rw [← HG.out] at this; exact this
        clear hb
        go_wp2_with fail
        refine (ints_any _ _ _ _ _ _ 0 0 [] [] true _ (IntSl.nil _ _ _) (IntSl.nil _ _ _) rfl rfl (by decide) (by decide)).mono ?_
        rintro e w22 ⟨rfl, hd⟩
        have hb := below_of_drew hd
        clear hd
        have HB22 := Lib.hid (HB21.out.trans (hb.mono hg21))
        have hg22 : g ≤ w22.heap.size := by have := HB22.out.size; rw [← HG.out] at this; exact this
        clear hb
        go_wp2
        go_ret
        exact ⟨rfl, by have := HB22.out; rw [HG.out] at this; exact this⟩
    · have hnd : decide (0 < n) = false := decide_eq_false hn0
      go_wp2
      go_loopg [11, 17] 0 (fun gk ov iv wr => ov = .slice none 0 0 ∧ iv = .int .i64 0 ∧ wr = w12)
      case atStart => exact ⟨rfl, rfl, rfl⟩
      case round =>
        obtain ⟨rfl, rfl, hwx⟩ := hrel
        subst hwx
        go_wp2_with fail
        refine (kids_err n _ _ _ g L f t c _ (HA.out.below HB12.out) rfl (by omega) hg12 HKC.out H0.out).mono ?_
        rintro e w20 ⟨rfl, hb⟩
        have HB20 := Lib.hid (HB12.out.trans (hb.mono hg12))
        have hg20 : g ≤ w20.heap.size := by have := HB20.out.size; rw [← HG.out] at this; exact this
        clear hb
        go_wp2_with fail
        refine (HSAMEy.out _ HB20.out).mono ?_
        rintro e w21 ⟨rfl, hb⟩
        have HB21 := Lib.hid (HB20.out.trans (hb.mono hg20))
        have hg21 : g ≤ w21.heap.size := by have := HB21.out.size; rw [← HG.out] at this; exact this
        clear hb
        go_wp2_with fail
        refine (ints_any _ _ _ _ _ _ 0 0 [] [] true _ (IntSl.nil _ _ _) (IntSl.nil _ _ _) rfl rfl (by decide) (by decide)).mono ?_
        rintro e w22 ⟨rfl, hd⟩
        have hb := below_of_drew hd
        clear hd
        have HB22 := Lib.hid (HB21.out.trans (hb.mono hg21))
        have hg22 : g ≤ w22.heap.size := by have := HB22.out.size; rw [← HG.out] at this; exact this
        clear hb
        go_wp2
        go_ret
        exact ⟨rfl, by have := HB22.out; rw [HG.out] at this; exact this⟩
end Go.Proofs.YtnmddgjgmdegoaaDoor
