/- SpfSays returns true: of any links how far each point is from one, over which neighbour, and the way to one, are as the document says. -/
import Derived.Test.YtciolkmhafdlpaaDoorTold
import Derived.Test.YtciolkmhafdlpaaDoorLinksRef
import Derived.Test.YtciolkmhafdlpaaDoorHopRef
import Derived.Test.YtciolkmhafdlpaaDoorWay
import Derived.Test.YtciolkmhafdlpaaDoorSegU
import Derived.Test.YtciolkmhafdlpaaDoorInts
import Derived.Test.YtciolkmhafdlpaaDoorIn3
namespace Go.Proofs.YtciolkmhafdlpaaDoor
open Go.RowKit
set_option linter.unusedVariables false

theorem arr_more {α : Type} (f : Nat → α) (n : Nat) : arr f n ++ [f n] = arr f (n + 1) := by unfold arr; rw [List.range_succ, List.map_append]; rfl
theorem Sep.arrSl {B : Nat} {w : World} {A C : List Ent} {e : TypeId} {ao : Option Addr} {n cap : Nat} {f : Nat → Int} (h : Sep B w (A ++ Ent.ints e (.slice ao n cap) (arr f n) :: C)) : IntSl w.heap.size w ao (arr f n) := by
  have h' : Sep B w (A ++ Ent.ints e (.slice ao (arr f n).length cap) (arr f n) :: C) := by rw [arr_len]; exact h
  exact h'.intSl
theorem hop_spec {n : Nat} {E : List Edge} (hn : Net n E) (h8 : n ≤ 8) {u v : Nat} (hv : v < n) : IsHop n E u v (hopOf n E u v) := by
  by_cases h1 : u = v ∨ far E u v = 1000
  · exact .inl ⟨h1, by unfold hopOf; rw [if_pos h1]⟩
  · have h2 : u ≠ v := fun e => h1 (.inl e)
    have hle := far_le hn (u := u) (v := v)
    have h3 : far E u v < 1000 := by
      rcases Int.lt_or_eq_of_le hle with h | h
      · exact h
      · exact absurd (Or.inr h) h1
    obtain ⟨w, c, he, hc⟩ := far_first hn h8 hv h2 h3
    let P : Nat → Prop := fun w => ∃ c, (u, w, c) ∈ E ∧ c + far E w v = far E u v
    have hP : P w := ⟨c, he, hc⟩
    have least : ∀ k, P k → ∃ m, P m ∧ ∀ j, j < m → ¬ P j := by
      intro k
      induction k using Nat.strongRecOn with
      | _ k ih =>
        intro hk
        by_cases hx : ∃ j, j < k ∧ P j
        · obtain ⟨j, h1, h2⟩ := hx
          exact ih j h1 h2
        · exact ⟨k, hk, fun j hj hp => hx ⟨j, hj, hp⟩⟩
    obtain ⟨m, ⟨c', he', hc'⟩, hm⟩ := least w hP
    have hI : IsHop n E u v (m : Int) := .inr ⟨⟨h2, h3⟩, m, rfl, (hn.dom _ _ _ he').2.1, ⟨c', he', hc'⟩, fun w' c'' h5 h6 => by
      rcases Nat.lt_or_ge w' m with hl | hl
      · exact absurd (show P w' from ⟨c'', h5, h6⟩) (hm w' hl)
      · exact hl⟩
    rw [← hopOf_of hI]
    exact hI

set_option maxHeartbeats 2000000 in
set_option maxRecDepth 100000 in
theorem spfSays_walk (n : Int) (ao : Option Addr) (ac : Nat) (L : List Lnk) (f t : Int) (w : World) (hdoor : Door w) (hnb : -9223372036854775808 ≤ n ∧ n ≤ 9223372036854775807) (hA : RowSl w.heap.size w ao 3 (L.map lnkC)) (hac : L.length ≤ ac) (hmax : ac ≤ maxLen) (hgood : ∀ x ∈ L, LnkGood x) (hfb : -9223372036854775808 ≤ f ∧ f ≤ 9223372036854775807) (htb : -9223372036854775808 ≤ t ∧ t ≤ 9223372036854775807) :
    Calls Tryd.prog 4 #[.int .i64 n, .slice ao L.length ac, .int .i64 f, .int .i64 t] w fun e w' => e = .returned (.bool true) ∧ Below w.heap.size w w' := by
  unfold maxLen at hmax
  have HA := Lib.hid hA; clear hA hgood
  have HD := Lib.hid hdoor; clear hdoor
  obtain ⟨g, hg⟩ : ∃ g, g = w.heap.size := ⟨_, rfl⟩
  rw [← hg] at HA
  have HG := Lib.hid hg; clear hg
  have hdoor' : ∀ w', Below g w w' → Door w' := fun w' h => HD.out.below h (by rw [HG.out]; exact HD.out.pos)
  have HDOOR := Lib.hid hdoor'; clear hdoor' HD
  have hci : Tryd.prog.cellsOf 3 = 1 := by kernel_rfl
  obtain ⟨c, hc⟩ : ∃ c, c = vCode n L := ⟨_, rfl⟩
  have HREF := Lib.hid (linksRef_any n ao _ ac _ L w HA.out rfl (by omega) (Nat.le_of_eq HG.out))
  by_cases hc0 : c = 0
  · obtain ⟨m, rfl, hok⟩ := vCode_zero.1 (hc.symm.trans hc0)
    have hc' : vCode (m : Int) L = 0 := by rw [← hc, hc0]
    rw [hc'] at HREF
    clear hc hc0
    have hn8 := hok.n8
    have hn1 := hok.n1
    have hl32 := hok.few
    have HOK := Lib.hid hok; clear hok
    have HC' := Lib.hid hc'; clear hc'
    by_cases hfin : 0 ≤ f ∧ f ≤ (m : Int) - 1
    · obtain ⟨hf0, hf1⟩ := hfin
      obtain ⟨u, rfl⟩ := Int.eq_ofNat_of_zero_le hf0
      have hum : u < m := by omega
      have hsame : ∀ w', Below g w w' → Calls Tryd.prog 6 #[.nilIface, .int .i64 0] w' fun x w'' => x = .returned (.bool true) ∧ Below w'.heap.size w' w'' := fun w' h => by
        have := same_any 0 0 true w' (HDOOR.out _ h) rfl
        rw [errV_zero] at this
        exact this
      have HSAME := Lib.hid hsame; clear hsame
      obtain ⟨F, hF⟩ : ∃ F, F = far (edges L) u := ⟨_, rfl⟩
      obtain ⟨H, hH⟩ : ∃ H, H = hopOf m (edges L) u := ⟨_, rfl⟩
      have HF := Lib.hid hF
      have HH := Lib.hid hH
      clear hF hH
      go_enter Tryd.func4, Tryd.ntmps4
      go_wp2_with fail
      refine HREF.out.mono ?_
      rintro e w1 ⟨rfl, hb⟩
      have HB1 := Lib.hid (show Below g w w1 by rw [HG.out]; exact hb); clear hb HREF
      have hg1 : g ≤ w1.heap.size := by have := HB1.out.size; rw [← HG.out] at this; exact this
      go_wp2_with fail
      refine (in3_yes _ _ _ _ hf0 hf1).mono ?_
      rintro e w' ⟨rfl, rfl⟩
      go_wp2_with fail
      refine (farRef_ok m _ _ _ g L u _ (HA.out.below HB1.out) rfl hg1 HOK.out hum).mono ?_
      rintro e w2 ⟨vd, rfl, hs, hb⟩
      rw [← HF.out] at hs
      obtain ⟨aq, cq, rfl, -⟩ := hs.intsShape (A := []) (C := [])
      rw [arr_len] at hs ⊢
      obtain ⟨gq, oq, rfl, -⟩ := arrI_at (A := []) hs hum
      rw [HG.out] at HB1 hg1
      have hs' := (hs.mono (show g ≤ w1.heap.size by rw [HG.out]; exact hg1)).intsNil 3
      rw [← HG.out] at HB1 hg1
      have HS2 := Lib.hid hs'
      clear hs hs'
      have HB2 := Lib.hid (HB1.out.trans (hb.mono hg1))
      have hg2 : g ≤ w2.heap.size := by have := HB2.out.size; rw [← HG.out] at this; exact this
      clear hb
      go_wp2
      go_loopw [11, 12] (fun vv iv wr => ∃ (i : Nat) (v : Value), i ≤ m ∧ v = vv ∧ iv = .int .i64 i ∧ Sep g wr [Ent.ints 3 v (arr H i), Ent.ints 3 (.slice (some ⟨gq, oq, none⟩) m cq) (arr F m)] ∧ Below g w wr) (fun _ iv _ => m - (intOf iv).toNat)
      case atStart => exact ⟨0, _, Nat.zero_le _, rfl, rfl, HS2.out, HB2.out⟩
      case round =>
        obtain ⟨i, v, hi, rfl, rfl, hsep, hbel⟩ := hrel
        have HS3 := Lib.hid hsep; clear hsep
        have HB3 := Lib.hid hbel; clear hbel
        clear HS2 HB2 hg2 HB1 hg1
        obtain ⟨w3, hw3⟩ : ∃ w3, w3 = wr := ⟨_, rfl⟩
        obtain rfl := hw3
        have hg3 : g ≤ w3.heap.size := by have := HB3.out.size; rw [← HG.out] at this; exact this
        by_cases hlt : i < m
        · have hii : (i : Int) < (m : Int) := by omega
          have hhop := hopRef_ok m ao L.length ac g L u i w3 (HA.out.below HB3.out) rfl hg3 HOK.out hum hlt
          obtain ⟨h, hh⟩ : ∃ h, h = H i := ⟨_, rfl⟩
          rw [show hopOf m (edges L) u i = h by rw [hh, HH.out]] at hhop
          have HHOP := Lib.hid hhop
          have HHE := Lib.hid hh
          clear hhop hh
          go_wp2_with fail
          refine HHOP.out.mono ?_
          rintro e w4 ⟨rfl, hb⟩
          have HS4 := Lib.hid (HS3.out.kept hb)
          have HB4 := Lib.hid (HB3.out.trans (hb.mono hg3))
          have hg4 : g ≤ w4.heap.size := by have := HB4.out.size; rw [← HG.out] at this; exact this
          clear hb
          have hle : (arr H i).length ≤ 1000000000 := by rw [arr_len]; omega
          have HLE := Lib.hid hle; clear hle
          go_wp2_with (at_builtin; refine wpList_append_int rfl (.tmp 43) (.tmp 49) rfl elemInt8 (A := []) (C := [_]) rfl HS4.out hg4 rfl HLE.out ?_)
          intro v5 w5 hs hb
          rw [show arr H i ++ [h] = arr H (i + 1) by rw [HHE.out]; exact arr_more H i] at hs
          have HS5 := Lib.hid hs
          have HB5 := Lib.hid (HB4.out.trans hb)
          clear hs hb
          go_wp2
          go_roundw
          case rel => exact ⟨i + 1, _, by omega, rfl, by go_num, HS5.out, HB5.out⟩
          case measure => simp [intOf]; omega
        · obtain rfl : i = m := by omega
          have hii : decide ((i : Int) < (i : Int)) = false := by simp
          have hs := HS3.out
          obtain ⟨a1, k1, rfl, -⟩ := hs.intsShape (A := []) (C := [_])
          rw [arr_len] at hs ⊢
          have HL3 := Lib.hid hs
          clear hs HS3
          go_wp2_with fail
          refine (from_ok i _ _ _ g L u _ (HA.out.below HB3.out) rfl hg3 HOK.out hum).mono ?_
          rintro e w4 ⟨vf, vh, hf, rfl, hhop, hs, hb⟩
          rw [← HF.out, show arr hf i = arr H i from arr_congr fun x hx => by rw [HH.out]; exact (hhop x hx).unique (hop_spec HOK.out.net hn8 hx)] at hs
          obtain ⟨a2, k2, rfl, -⟩ := hs.intsShape (A := []) (C := [_])
          obtain ⟨a3, k3, rfl, -⟩ := hs.intsShape (A := [_]) (C := [])
          rw [arr_len, arr_len] at hs ⊢
          have HP4 := Lib.hid hs
          have HL4 := Lib.hid (HL3.out.kept hb)
          clear hs hhop HL3
          have HB4 := Lib.hid (HB3.out.trans (hb.mono hg3))
          have hg4 : g ≤ w4.heap.size := by have := HB4.out.size; rw [← HG.out] at this; exact this
          clear hb
          go_wp2_with fail
          refine (HSAME.out _ HB4.out).mono ?_
          rintro e w5 ⟨rfl, hb⟩
          have HP5 := Lib.hid (HP4.out.kept hb)
          have HL5 := Lib.hid (HL4.out.kept hb)
          clear HP4 HL4
          have HB5 := Lib.hid (HB4.out.trans (hb.mono hg4))
          have hg5 : g ≤ w5.heap.size := by have := HB5.out.size; rw [← HG.out] at this; exact this
          clear hb
          go_wp2_with fail
          refine (ints_any _ _ _ _ _ _ _ _ _ _ true _ (HP5.out.arrSl (A := []) (C := [_])) (HL5.out.arrSl (A := [_]) (C := [])) (arr_len _ _).symm (arr_len _ _).symm (by rw [arr_len]; omega) (by rw [decide_eq_true]; rfl)).mono ?_
          rintro e w6 ⟨rfl, hd⟩
          have hb := below_of_drew hd
          clear hd
          have HP6 := Lib.hid (HP5.out.kept hb)
          have HL6 := Lib.hid (HL5.out.kept hb)
          clear HP5 HL5
          have HB6 := Lib.hid (HB5.out.trans (hb.mono hg5))
          have hg6 : g ≤ w6.heap.size := by have := HB6.out.size; rw [← HG.out] at this; exact this
          clear hb
          go_wp2_with fail
          refine (ints_any _ _ _ _ _ _ _ _ _ _ true _ (HP6.out.arrSl (A := [_]) (C := [])) (HL6.out.arrSl (A := []) (C := [_])) (arr_len _ _).symm (arr_len _ _).symm (by rw [arr_len]; omega) (by rw [decide_eq_true]; rfl)).mono ?_
          rintro e w7 ⟨rfl, hd⟩
          have hb := below_of_drew hd
          clear hd
          have HP7 := Lib.hid (HP6.out.kept hb)
          have HL7 := Lib.hid (HL6.out.kept hb)
          clear HP6 HL6
          have HB7 := Lib.hid (HB6.out.trans (hb.mono hg6))
          have hg7 : g ≤ w7.heap.size := by have := HB7.out.size; rw [← HG.out] at this; exact this
          clear hb
          clear HP7
          by_cases htin : 0 ≤ t ∧ t ≤ (i : Int) - 1
          · obtain ⟨ht0, ht1⟩ := htin
            obtain ⟨v, rfl⟩ := Int.eq_ofNat_of_zero_le ht0
            have hvm : v < i := by omega
            have hvi : (v : Int) < (i : Int) := by omega
            have hyall : ∀ y ∈ [(u : Int), (v : Int)], 0 ≤ y ∧ y ≤ (i : Int) - 1 := by
              intro y hy
              simp only [List.mem_cons, List.not_mem_nil, or_false] at hy
              rcases hy with rfl | rfl <;> omega
            have HYA := Lib.hid hyall; clear hyall
            go_wp2_with fail
            refine (in3_yes _ _ _ _ ht0 ht1).mono ?_
            rintro e w' ⟨rfl, rfl⟩
            obtain ⟨_, _, he, _, d1, -⟩ := arrI_at (A := [_]) (C := []) HL7.out hvm
            simp only [Option.some.injEq, Addr.mk.injEq, and_true] at he
            obtain ⟨rfl, rfl⟩ := he
            obtain ⟨d, hd⟩ : ∃ d, d = F v := ⟨_, rfl⟩
            rw [← hd] at d1
            have HDV := Lib.hid hd; clear hd
            by_cases hdf : d = 1000
            · have hde : (d == 1000) = true := by simp [hdf]
              have hsamey : ∀ w', Below g w w' → Calls Tryd.prog 6 #[.iface 45 (.int .i64 5), .int .i64 5] w' fun x w'' => x = .returned (.bool true) ∧ Below w'.heap.size w' w'' := fun w' h => by
                have := same_any 5 5 true w' (HDOOR.out _ h) (by simp)
                rw [errV_not (by decide)] at this
                exact this
              have HSAMEy := Lib.hid hsamey
              clear hsamey
              have hyc : (5 : Int) = yCode (i : Int) L (u : Int) (v : Int) := by
                unfold yCode
                rw [if_pos HC'.out, if_pos HYA.out, if_pos (by simp only [Int.toNat_natCast]; rw [← HF.out, ← HDV.out]; exact hdf)]
              have HYC := Lib.hid hyc
              clear hyc hdf
              go_wp2_with fail
              refine (way_err _ _ _ _ g L _ _ 5 _ (HA.out.below HB7.out) rfl (by omega) hg7 HYC.out (by decide)).mono ?_
              rintro e w20 ⟨rfl, hb⟩
              have HB20 := Lib.hid (HB7.out.trans (hb.mono hg7))
              have hg20 : g ≤ w20.heap.size := by have := HB20.out.size; rw [← HG.out] at this; exact this
              clear hb
              go_wp2_with fail
              refine (HSAMEy.out _ HB20.out).mono ?_
              rintro e w21 ⟨rfl, hb⟩
              have HB21 := Lib.hid (HB20.out.trans (hb.mono hg20))
              have hg21 : g ≤ w21.heap.size := by have := HB21.out.size; rw [← HG.out] at this; exact this
              clear hb
              go_wp2_with fail
              refine (ints_any _ _ _ _ _ _ 0 0 [] [] true _ (IntSl.nil _ _ _) (IntSl.nil _ _ _) rfl rfl (by decide) (by decide)).mono ?_
              rintro e w22 ⟨rfl, hd⟩
              have hb := below_of_drew hd
              clear hd
              have HB22 := Lib.hid (HB21.out.trans (hb.mono hg21))
              have hg22 : g ≤ w22.heap.size := by have := HB22.out.size; rw [← HG.out] at this; exact this
              clear hb
              go_wp2
              go_ret
              exact ⟨rfl, by have := HB22.out; rw [HG.out] at this; exact this⟩
            · have hde : (d == 1000) = false := by simp [hdf]
              have hfl : far (edges L) u v < 1000 := by
                have h1 := far_le HOK.out.net (u := u) (v := v)
                rw [HDV.out, HF.out] at hdf
                omega
              have HFL := Lib.hid hfl
              have hs := HL7.out.intsNil 3
              have HS7 := Lib.hid (hs.sub (L' := [_]) (List.Sublist.cons_cons _ (List.nil_sublist _)))
              clear hdf hfl hs
              go_wp2_with (at_builtin; refine wpList_append_int rfl (.tmp 93) (.tmp 95) rfl elemInt8 (A := []) (C := []) (xs := []) rfl HS7.out hg7 rfl (by decide) ?_)
              intro v8 w8 hs hb
              have hs8 : Sep g w8 [Ent.ints 3 v8 (segL [] u)] := hs
              have HS8 := Lib.hid hs8
              have HB8 := Lib.hid (HB7.out.trans hb)
              clear hs hb hs8 HS7 HL7 d1 hde
              go_wp2
              go_loopg [17, 18] 1000 (fun gk vv av wr => ∃ (l : List Nat) (x : Nat) (vw : Value), vw = vv ∧ av = .int .i64 x ∧ x < i ∧ l.length + gk = 1000 ∧ Hid (Seg i (edges L) v u l x) ∧ Hid (far (edges L) x v < 1000 ∧ far (edges L) x v ≤ (gk : Int)) ∧ Sep g wr [Ent.ints 3 vw (segL l x)] ∧ Below g w wr)
              case atStart => exact ⟨[], u, _, rfl, rfl, hum, by simp, Lib.hid (Seg.nil u), Lib.hid ⟨HFL.out, by have := HFL.out; omega⟩, HS8.out, HB8.out⟩
              case round =>
                obtain ⟨gi, rfl⟩ : ∃ gi, gi = gk := ⟨_, rfl⟩
                obtain ⟨l, x, vw, rfl, rfl, hxm, hlg, HSEG, HFX, hsep, hbel⟩ := hrel
                have HS9 := Lib.hid hsep; clear hsep
                have HB9 := Lib.hid hbel; clear hbel
                clear HS8 HB8 HB7 hg7
                obtain ⟨w9, hw9⟩ : ∃ w9, w9 = wr := ⟨_, rfl⟩
                obtain rfl := hw9
                have hg9 : g ≤ w9.heap.size := by have := HB9.out.size; rw [← HG.out] at this; exact this
                by_cases hxv : x = v
                · have hxe : ((x : Int) != (v : Int)) = false := by simp [hxv]
                  subst hxv
                  go_wp2_with fail
                  refine (way_ok i _ _ _ g L u x _ (HA.out.below HB9.out) rfl hg9 HOK.out hum hvm HFL.out).mono ?_
                  rintro e w10 ⟨v10, l10, rfl, hseg, hl10, hs, hb⟩
                  obtain rfl := seg_uniq hseg HSEG.out
                  have hq := HS9.out
                  obtain ⟨b1, j1, rfl, -⟩ := hq.intsShape (A := []) (C := [])
                  obtain ⟨b2, j2, rfl, -⟩ := hs.intsShape (A := []) (C := [])
                  have HP10 := Lib.hid hs
                  have HL10 := Lib.hid ((HS9.out.kept hb))
                  have HSL := Lib.hid (segL_len l10 x)
                  clear hs hq hseg HS9
                  have HB10 := Lib.hid (HB9.out.trans (hb.mono hg9))
                  have hg10 : g ≤ w10.heap.size := by have := HB10.out.size; rw [← HG.out] at this; exact this
                  clear hb
                  go_wp2_with fail
                  refine (HSAME.out _ HB10.out).mono ?_
                  rintro e w11 ⟨rfl, hb⟩
                  have HP11 := Lib.hid (HP10.out.kept hb)
                  have HL11 := Lib.hid (HL10.out.kept hb)
                  clear HP10 HL10
                  have HB11 := Lib.hid (HB10.out.trans (hb.mono hg10))
                  have hg11 : g ≤ w11.heap.size := by have := HB11.out.size; rw [← HG.out] at this; exact this
                  clear hb
                  go_wp2_with fail
                  refine (ints_any _ _ _ _ _ _ _ _ (segL l10 x) (segL l10 x) true _ (HP11.out.intSl (A := []) (C := [])) (HL11.out.intSl (A := []) (C := [])) rfl rfl (by rw [HSL.out]; omega) (by rw [decide_eq_true]; rfl)).mono ?_
                  rintro e w12 ⟨rfl, hd⟩
                  have hb := below_of_drew hd
                  clear hd
                  have HB12 := Lib.hid (HB11.out.trans (hb.mono hg11))
                  have hg12 : g ≤ w12.heap.size := by have := HB12.out.size; rw [← HG.out] at this; exact this
                  clear hb
                  go_wp2
                  go_ret
                  exact ⟨rfl, by have := HB12.out; rw [HG.out] at this; exact this⟩
                · have hxe : ((x : Int) != (v : Int)) = true := by simp; omega
                  rcases hop_spec HOK.out.net hn8 (u := x) hvm with ⟨h1, _⟩ | ⟨⟨h1, h1'⟩, y, h2, h3, ⟨cc, h4, h5⟩, h6⟩
                  · exfalso
                    rcases h1 with h1 | h1
                    · exact hxv h1
                    · have := HFX.out.1; omega
                  · have hd := HOK.out.net.dom _ _ _ h4
                    have hyfar : far (edges L) y v < 1000 ∧ far (edges L) y v + 1 ≤ (gi : Int) := by have := HFX.out; omega
                    have hyn := far_nonneg HOK.out.net (u := y) (v := v)
                    have hg1 : 1 ≤ gi := by omega
                    have hseg : Seg i (edges L) v u (l ++ [x]) y := Seg.snoc HSEG.out hxv h1' (.inr ⟨⟨h1, h1'⟩, y, rfl, h3, ⟨cc, h4, h5⟩, h6⟩)
                    have hhop := hopRef_ok i ao L.length ac g L x v w9 (HA.out.below HB9.out) rfl hg9 HOK.out hxm hvm
                    rw [h2] at hhop
                    have HHOP := Lib.hid hhop
                    have HSG := Lib.hid hseg
                    have HYF := Lib.hid hyfar
                    have hle : (segL l x).length ≤ 1000000000 := by rw [segL_len]; omega
                    have HLE := Lib.hid hle
                    clear hhop hseg hyfar hyn h1 h1' h2 h4 h5 h6 hd hxv hle
                    go_wp2_with fail
                    refine HHOP.out.mono ?_
                    rintro e w10 ⟨rfl, hb⟩
                    have HS10 := Lib.hid (HS9.out.kept hb)
                    have HB10 := Lib.hid (HB9.out.trans (hb.mono hg9))
                    have hg10 : g ≤ w10.heap.size := by have := HB10.out.size; rw [← HG.out] at this; exact this
                    clear hb
                    go_wp2_with (at_builtin; refine wpList_append_int rfl (.tmp 105) (.tmp 107) rfl elemInt8 (A := []) (C := []) rfl HS10.out hg10 rfl HLE.out ?_)
                    intro v11 w11 hs hb
                    rw [← segL_snoc] at hs
                    have HS11 := Lib.hid hs
                    have HB11 := Lib.hid (HB10.out.trans hb)
                    clear hs hb
                    go_wp2
                    go_roundg (gi - 1)
                    case measure => omega
                    case rel => exact ⟨l ++ [x], y, _, rfl, rfl, h3, by simp; omega, Lib.hid HSG.out, Lib.hid ⟨HYF.out.1, by have := HYF.out.2; omega⟩, HS11.out, HB11.out⟩
          · have hsamey : ∀ w', Below g w w' → Calls Tryd.prog 6 #[.iface 45 (.int .i64 1), .int .i64 1] w' fun x w'' => x = .returned (.bool true) ∧ Below w'.heap.size w' w'' := fun w' h => by
              have := same_any 1 1 true w' (HDOOR.out _ h) (by simp)
              rw [errV_not (by decide)] at this
              exact this
            have HSAMEy := Lib.hid hsamey
            clear hsamey
            have hyc : (1 : Int) = yCode (i : Int) L (u : Int) t := by
              unfold yCode
              rw [if_pos HC'.out, if_neg (fun h => htin (h t (by simp)))]
            have HYC := Lib.hid hyc
            have HTN := Lib.hid htin
            clear hyc htin
            go_wp2_with fail
            refine (in3_no _ _ _ _ HTN.out).mono ?_
            rintro e w' ⟨rfl, rfl⟩
            go_wp2_with fail
            refine (way_err _ _ _ _ g L _ _ 1 _ (HA.out.below HB7.out) rfl (by omega) hg7 HYC.out (by decide)).mono ?_
            rintro e w20 ⟨rfl, hb⟩
            have HB20 := Lib.hid (HB7.out.trans (hb.mono hg7))
            have hg20 : g ≤ w20.heap.size := by have := HB20.out.size; rw [← HG.out] at this; exact this
            clear hb
            go_wp2_with fail
            refine (HSAMEy.out _ HB20.out).mono ?_
            rintro e w21 ⟨rfl, hb⟩
            have HB21 := Lib.hid (HB20.out.trans (hb.mono hg20))
            have hg21 : g ≤ w21.heap.size := by have := HB21.out.size; rw [← HG.out] at this; exact this
            clear hb
            go_wp2_with fail
            refine (ints_any _ _ _ _ _ _ 0 0 [] [] true _ (IntSl.nil _ _ _) (IntSl.nil _ _ _) rfl rfl (by decide) (by decide)).mono ?_
            rintro e w22 ⟨rfl, hd⟩
            have hb := below_of_drew hd
            clear hd
            have HB22 := Lib.hid (HB21.out.trans (hb.mono hg21))
            have hg22 : g ≤ w22.heap.size := by have := HB22.out.size; rw [← HG.out] at this; exact this
            clear hb
            go_wp2
            go_ret
            exact ⟨rfl, by have := HB22.out; rw [HG.out] at this; exact this⟩
    · have hsamey : ∀ w', Below g w w' → Calls Tryd.prog 6 #[.iface 45 (.int .i64 1), .int .i64 1] w' fun x w'' => x = .returned (.bool true) ∧ Below w'.heap.size w' w'' := fun w' h => by
        have := same_any 1 1 true w' (HDOOR.out _ h) (by simp)
        rw [errV_not (by decide)] at this
        exact this
      have HSAMEy := Lib.hid hsamey
      clear hsamey
      have hfc : (1 : Int) = fCode (m : Int) L f := by unfold fCode; rw [if_pos HC'.out, if_neg hfin]
      have hyc : (1 : Int) = yCode (m : Int) L f t := by
        unfold yCode
        rw [if_pos HC'.out, if_neg (fun h => hfin (h f (by simp)))]
      have HFC := Lib.hid hfc
      have HYC := Lib.hid hyc
      have HFN := Lib.hid hfin
      clear hfc hyc hfin
      go_enter Tryd.func4, Tryd.ntmps4
      go_wp2_with fail
      refine HREF.out.mono ?_
      rintro e w1 ⟨rfl, hb⟩
      have HB1 := Lib.hid (show Below g w w1 by rw [HG.out]; exact hb); clear hb HREF
      have hg1 : g ≤ w1.heap.size := by have := HB1.out.size; rw [← HG.out] at this; exact this
      go_wp2_with fail
      refine (in3_no _ _ _ _ HFN.out).mono ?_
      rintro e w' ⟨rfl, rfl⟩
      go_wp2_with fail
      refine (from_err _ _ _ _ g L _ 1 _ (HA.out.below HB1.out) rfl (by omega) hg1 HFC.out (by decide)).mono ?_
      rintro e w10 ⟨rfl, hb⟩
      have HB10 := Lib.hid (HB1.out.trans (hb.mono hg1))
      have hg10 : g ≤ w10.heap.size := by have := HB10.out.size; rw [← HG.out] at this; exact this
      clear hb
      go_wp2_with fail
      refine (HSAMEy.out _ HB10.out).mono ?_
      rintro e w11 ⟨rfl, hb⟩
      have HB11 := Lib.hid (HB10.out.trans (hb.mono hg10))
      have hg11 : g ≤ w11.heap.size := by have := HB11.out.size; rw [← HG.out] at this; exact this
      clear hb
      go_wp2_with fail
      refine (ints_any _ _ _ _ _ _ 0 0 [] [] true _ (IntSl.nil _ _ _) (IntSl.nil _ _ _) rfl rfl (by decide) (by decide)).mono ?_
      rintro e w12 ⟨rfl, hd⟩
      have hb := below_of_drew hd
      clear hd
      have HB12 := Lib.hid (HB11.out.trans (hb.mono hg11))
      have hg12 : g ≤ w12.heap.size := by have := HB12.out.size; rw [← HG.out] at this; exact this
      clear hb
      go_wp2_with fail
      refine (ints_any _ _ _ _ _ _ 0 0 [] [] true _ (IntSl.nil _ _ _) (IntSl.nil _ _ _) rfl rfl (by decide) (by decide)).mono ?_
      rintro e w13 ⟨rfl, hd⟩
      have hb := below_of_drew hd
      clear hd
      have HB13 := Lib.hid (HB12.out.trans (hb.mono hg12))
      have hg13 : g ≤ w13.heap.size := by have := HB13.out.size; rw [← HG.out] at this; exact this
      clear hb
      go_wp2_with fail
      refine (way_err _ _ _ _ g L _ _ 1 _ (HA.out.below HB13.out) rfl (by omega) hg13 HYC.out (by decide)).mono ?_
      rintro e w20 ⟨rfl, hb⟩
      have HB20 := Lib.hid (HB13.out.trans (hb.mono hg13))
      have hg20 : g ≤ w20.heap.size := by have := HB20.out.size; rw [← HG.out] at this; exact this
      clear hb
      go_wp2_with fail
      refine (HSAMEy.out _ HB20.out).mono ?_
      rintro e w21 ⟨rfl, hb⟩
      have HB21 := Lib.hid (HB20.out.trans (hb.mono hg20))
      have hg21 : g ≤ w21.heap.size := by have := HB21.out.size; rw [← HG.out] at this; exact this
      clear hb
      go_wp2_with fail
      refine (ints_any _ _ _ _ _ _ 0 0 [] [] true _ (IntSl.nil _ _ _) (IntSl.nil _ _ _) rfl rfl (by decide) (by decide)).mono ?_
      rintro e w22 ⟨rfl, hd⟩
      have hb := below_of_drew hd
      clear hd
      have HB22 := Lib.hid (HB21.out.trans (hb.mono hg21))
      have hg22 : g ≤ w22.heap.size := by have := HB22.out.size; rw [← HG.out] at this; exact this
      clear hb
      go_wp2
      go_ret
      exact ⟨rfl, by have := HB22.out; rw [HG.out] at this; exact this⟩
  · have hcb : (c == 0) = false := by simp [hc0]
    rw [← hc] at HREF
    have HC := Lib.hid hc; clear hc
    have H0 := Lib.hid hc0; clear hc0
    have hsamey : ∀ w', Below g w w' → Calls Tryd.prog 6 #[.iface 45 (.int .i64 c), .int .i64 c] w' fun x w'' => x = .returned (.bool true) ∧ Below w'.heap.size w' w'' := fun w' h => by
      have := same_any c c true w' (HDOOR.out _ h) (by simp)
      rw [errV_not H0.out] at this
      exact this
    have HSAMEy := Lib.hid hsamey
    clear hsamey
    have hfc : c = fCode n L f := by unfold fCode; rw [if_neg (by rw [← HC.out]; exact H0.out)]; exact HC.out
    have hyc : c = yCode n L f t := by unfold yCode; rw [if_neg (by rw [← HC.out]; exact H0.out)]; exact HC.out
    have HFC := Lib.hid hfc
    have HYC := Lib.hid hyc
    clear hfc hyc
    go_enter Tryd.func4, Tryd.ntmps4
    go_wp2_with fail
    refine HREF.out.mono ?_
    rintro e w1 ⟨rfl, hb⟩
    have HB1 := Lib.hid (show Below g w w1 by rw [HG.out]; exact hb); clear hb HREF
    have hg1 : g ≤ w1.heap.size := by have := HB1.out.size; rw [← HG.out] at this; exact this
    go_wp2_with fail
    refine (from_err n _ _ _ g L _ c _ (HA.out.below HB1.out) rfl (by omega) hg1 HFC.out H0.out).mono ?_
    rintro e w10 ⟨rfl, hb⟩
    have HB10 := Lib.hid (HB1.out.trans (hb.mono hg1))
    have hg10 : g ≤ w10.heap.size := by have := HB10.out.size; rw [← HG.out] at this; exact this
    clear hb
    go_wp2_with fail
    refine (HSAMEy.out _ HB10.out).mono ?_
    rintro e w11 ⟨rfl, hb⟩
    have HB11 := Lib.hid (HB10.out.trans (hb.mono hg10))
    have hg11 : g ≤ w11.heap.size := by have := HB11.out.size; rw [← HG.out] at this; exact this
    clear hb
    go_wp2_with fail
    refine (ints_any _ _ _ _ _ _ 0 0 [] [] true _ (IntSl.nil _ _ _) (IntSl.nil _ _ _) rfl rfl (by decide) (by decide)).mono ?_
    rintro e w12 ⟨rfl, hd⟩
    have hb := below_of_drew hd
    clear hd
    have HB12 := Lib.hid (HB11.out.trans (hb.mono hg11))
    have hg12 : g ≤ w12.heap.size := by have := HB12.out.size; rw [← HG.out] at this; exact this
    clear hb
    go_wp2_with fail
    refine (ints_any _ _ _ _ _ _ 0 0 [] [] true _ (IntSl.nil _ _ _) (IntSl.nil _ _ _) rfl rfl (by decide) (by decide)).mono ?_
    rintro e w13 ⟨rfl, hd⟩
    have hb := below_of_drew hd
    clear hd
    have HB13 := Lib.hid (HB12.out.trans (hb.mono hg12))
    have hg13 : g ≤ w13.heap.size := by have := HB13.out.size; rw [← HG.out] at this; exact this
    clear hb
    go_wp2_with fail
    refine (way_err n _ _ _ g L _ _ c _ (HA.out.below HB13.out) rfl (by omega) hg13 HYC.out H0.out).mono ?_
    rintro e w20 ⟨rfl, hb⟩
    have HB20 := Lib.hid (HB13.out.trans (hb.mono hg13))
    have hg20 : g ≤ w20.heap.size := by have := HB20.out.size; rw [← HG.out] at this; exact this
    clear hb
    go_wp2_with fail
    refine (HSAMEy.out _ HB20.out).mono ?_
    rintro e w21 ⟨rfl, hb⟩
    have HB21 := Lib.hid (HB20.out.trans (hb.mono hg20))
    have hg21 : g ≤ w21.heap.size := by have := HB21.out.size; rw [← HG.out] at this; exact this
    clear hb
    go_wp2_with fail
    refine (ints_any _ _ _ _ _ _ 0 0 [] [] true _ (IntSl.nil _ _ _) (IntSl.nil _ _ _) rfl rfl (by decide) (by decide)).mono ?_
    rintro e w22 ⟨rfl, hd⟩
    have hb := below_of_drew hd
    clear hd
    have HB22 := Lib.hid (HB21.out.trans (hb.mono hg21))
    have hg22 : g ≤ w22.heap.size := by have := HB22.out.size; rw [← HG.out] at this; exact this
    clear hb
    go_wp2
    go_ret
    exact ⟨rfl, by have := HB22.out; rw [HG.out] at this; exact this⟩
end Go.Proofs.YtciolkmhafdlpaaDoor
