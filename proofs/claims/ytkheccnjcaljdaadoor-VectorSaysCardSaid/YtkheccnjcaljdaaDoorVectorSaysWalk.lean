/- VectorSays returns true: of any links what each point knows behind some rounds, and how many rounds it takes, are as the document says. -/
import Derived.Test.YtkheccnjcaljdaaDoorTold
import Derived.Test.YtkheccnjcaljdaaDoorLinksRef
import Derived.Test.YtkheccnjcaljdaaDoorFarRef
import Derived.Test.YtkheccnjcaljdaaDoorSettle
import Derived.Test.YtkheccnjcaljdaaDoorRowsSame
import Derived.Test.YtkheccnjcaljdaaDoorVRoundsOk
import Derived.Test.YtkheccnjcaljdaaDoorInts
import Derived.Test.YtkheccnjcaljdaaDoorIn3
namespace Go.Proofs.YtkheccnjcaljdaaDoor
open Go.RowKit
set_option linter.unusedVariables false

theorem least_of {P : Nat → Prop} (n : Nat) (h : P n) : ∃ k, k ≤ n ∧ P k ∧ ∀ j, j < k → ¬ P j := by
  induction n using Nat.strongRecOn with
  | _ n ih =>
    by_cases hx : ∃ j, j < n ∧ P j
    · obtain ⟨j, h1, h2⟩ := hx
      obtain ⟨k, k1, k2, k3⟩ := ih j h1 h2
      exact ⟨k, by omega, k2, k3⟩
    · exact ⟨n, Nat.le_refl _, h, fun j hj hp => hx ⟨j, hj, hp⟩⟩
theorem bell_swap {n : Nat} {E : List Edge} (hn : Net n E) (t i j : Nat) : bell E t i j = bell E t j i := (bell_lst hn t i j).unique ((bell_lst hn t j i).swap hn)
/-- Of one point all is known. -/
def Known (n : Nat) (E : List Edge) (s i : Nat) : Prop := ∀ x, x < n → bell E s x i = far E i x
theorem known_ints {n : Nat} {E : List Edge} {s i : Nat} : arr (fun x => bell E s x i) n = arr (far E i) n ↔ Known n E s i := arr_eq_iff
theorem far_low {n : Nat} {E : List Edge} (hn : Net n E) (h8 : n ≤ 8) {t i j : Nat} (hj : j < n) : far E i j ≤ bell E t i j := by
  rcases Nat.lt_or_ge t 8 with h | h
  · exact Lst.mono (by omega) (bell_lst hn t i j) (bell_lst hn 8 i j)
  · rw [bell_far hn h8 (by omega) hj]; exact Int.le_refl _
theorem known_next {n : Nat} {E : List Edge} (hn : Net n E) (h8 : n ≤ 8) {s i : Nat} (hi : i < n) (h : Known n E s i) : Known n E (s + 1) i := fun x hx => by
  have h1 := bell_falls hn s x i
  have h2 := far_low hn h8 (t := s + 1) (i := x) hi
  have h3 := h x hx
  have h4 := far_swap hn (u := x) (v := i)
  omega
theorem known_quiet {n : Nat} {E : List Edge} (hn : Net n E) (h8 : n ≤ 8) (h1 : 1 ≤ n) {K : Nat} (h : Quiet n E K) {i : Nat} (hi : i < n) : Known n E K i := fun x hx => by
  have hq := quiet_from hn h
  have hs : ∀ t, bell E K x i = bell E (K + t) x i := fun t => by
    induction t with
    | zero => rfl
    | succ t ih => rw [ih]; exact hq t x i hx hi
  rw [hs n, bell_far hn h8 (by omega) hi, far_swap hn]
theorem quiet_known {n : Nat} {E : List Edge} (hn : Net n E) (h8 : n ≤ 8) {s : Nat} (h : ∀ i, i < n → Known n E s i) : Quiet n E s := fun x i hx hi => by
  have h1 := bell_falls hn s x i
  have h2 := far_low hn h8 (t := s + 1) (i := x) hi
  have h3 := h i hi x hx
  have h4 := far_swap hn (u := x) (v := i)
  omega

theorem rows_nil (w : World) : Calls Tryd.prog 15 #[.slice none 0 0, .slice none 0 0] w fun e w' => e = .returned (.bool true) ∧ ∃ q, w' = w.drewN q := by
  have h : MatR 0 w none (fun _ => (0, 0, 0)) 0 0 (fun _ _ => 0) := fun i hi => absurd hi (Nat.not_lt_zero _)
  have hr : true = true ↔ ∀ i j : Nat, i < 0 → j < 0 → (0 : Int) = 0 := ⟨fun _ _ _ _ _ => rfl, fun _ => rfl⟩
  exact rowsSame_any none none 0 0 0 0 0 0 (fun _ => (0, 0, 0)) (fun _ => (0, 0, 0)) (fun _ _ => 0) (fun _ _ => 0) true w h h (by omega) (by omega) hr

set_option maxHeartbeats 2500000 in
set_option maxRecDepth 100000 in
theorem vectorSays_walk (n : Int) (ao : Option Addr) (ac : Nat) (L : List Lnk) (r : Int) (w : World) (hdoor : Door w) (hnb : -9223372036854775808 ≤ n ∧ n ≤ 9223372036854775807) (hA : RowSl w.heap.size w ao 3 (L.map lnkC)) (hac : L.length ≤ ac) (hmax : ac ≤ maxLen) (hgood : ∀ x ∈ L, LnkGood x) (hrb : -9223372036854775808 ≤ r ∧ r ≤ 9223372036854775807) :
    Calls Tryd.prog 3 #[.int .i64 n, .slice ao L.length ac, .int .i64 r] w fun e w' => e = .returned (.bool true) ∧ Below w.heap.size w w' := by
  unfold maxLen at hmax
  have HA := Lib.hid hA; clear hA hgood
  have HD := Lib.hid hdoor; clear hdoor
  obtain ⟨g, hg⟩ : ∃ g, g = w.heap.size := ⟨_, rfl⟩
  rw [← hg] at HA
  have HG := Lib.hid hg; clear hg
  have hdoor' : ∀ w', Below g w w' → Door w' := fun w' h => HD.out.below h (by rw [HG.out]; exact HD.out.pos)
  have HDOOR := Lib.hid hdoor'; clear hdoor' HD
  have hci : Tryd.prog.cellsOf 3 = 1 := by kernel_rfl
  obtain ⟨c, hc⟩ : ∃ c, c = vCode n L := ⟨_, rfl⟩
  have HREF := Lib.hid (linksRef_any n ao _ ac _ L w HA.out rfl (by omega) (Nat.le_of_eq HG.out))
  by_cases hc0 : c = 0
  · obtain ⟨m, rfl, hok⟩ := vCode_zero.1 (hc.symm.trans hc0)
    have hc' : vCode (m : Int) L = 0 := by rw [← hc, hc0]
    rw [hc'] at HREF
    clear hc hc0
    have hn8 := hok.n8
    have hn1 := hok.n1
    have hl32 := hok.few
    have HOK := Lib.hid hok; clear hok
    have HC' := Lib.hid hc'; clear hc'
    have hsame : ∀ w', Below g w w' → Calls Tryd.prog 7 #[.nilIface, .int .i64 0] w' fun x w'' => x = .returned (.bool true) ∧ Below w'.heap.size w' w'' := fun w' h => by
      have := same_any 0 0 true w' (HDOOR.out _ h) rfl
      rw [errV_zero] at this
      exact this
    have HSAME := Lib.hid hsame; clear hsame
    obtain ⟨K, hK1, hK2, hK3⟩ := least_of (P := Quiet m (edges L)) (m - 1) (quiet_end HOK.out.net hn1)
    have hKm : K < m := by omega
    have HK2 := Lib.hid hK2
    have HK3 := Lib.hid hK3
    clear hK1 hK2 hK3
    go_enter Tryd.func3, Tryd.ntmps3
    go_wp2_with fail
    refine HREF.out.mono ?_
    rintro e w1 ⟨rfl, hb⟩
    have HB1 := Lib.hid (show Below g w w1 by rw [HG.out]; exact hb); clear hb HREF
    have hg1 : g ≤ w1.heap.size := by have := HB1.out.size; rw [← HG.out] at this; exact this
    have HCHK := Lib.hid (vCheck_any (m : Int) ao L.length ac g L w1 (HA.out.below HB1.out) rfl (by omega) hg1)
    rw [HC'.out, errV_zero] at HCHK
    go_wp2_with fail
    refine HCHK.out.mono ?_
    rintro e w2 ⟨rfl, hb⟩
    have HB2 := Lib.hid (HB1.out.trans (hb.mono hg1)); clear hb HCHK
    have hg2 : g ≤ w2.heap.size := by have := HB2.out.size; rw [← HG.out] at this; exact this
    go_wp2_with fail
    refine (HSAME.out _ HB2.out).mono ?_
    rintro e w3 ⟨rfl, hb⟩
    have HB3 := Lib.hid (HB2.out.trans (hb.mono hg2)); clear hb
    have hg3 : g ≤ w3.heap.size := by have := HB3.out.size; rw [← HG.out] at this; exact this
    go_wp2
    go_loopw [9, 10] (fun sv iv wr => ∃ s i : Nat, i ≤ m ∧ s ≤ K ∧ sv = .int .i64 s ∧ iv = .int .i64 i ∧ Hid (∀ i', i' < i → Known m (edges L) s i') ∧ Below g w wr) (fun _ iv _ => m - (intOf iv).toNat)
    case atStart => exact ⟨0, 0, Nat.zero_le _, Nat.zero_le _, rfl, rfl, Lib.hid (fun i' h => absurd h (Nat.not_lt_zero _)), HB3.out⟩
    case round =>
      obtain ⟨s, i, hi, hs, rfl, rfl, HKN, hbel⟩ := hrel
      have HB4 := Lib.hid hbel; clear hbel
      clear HB1 HB2 HB3 hg1 hg2 hg3
      by_cases hlt : i < m
      · have hii : (i : Int) < (m : Int) := by omega
        have hi0 : (0 : Int) ≤ (i : Int) := by omega
        go_wp2
        go_loopw [9] (fun sv wr => ∃ s : Nat, s ≤ K ∧ sv = .int .i64 s ∧ Hid (∀ i', i' < i → Known m (edges L) s i') ∧ Below g w wr) (fun sv _ => K - (intOf sv).toNat)
        case atStart => exact ⟨s, hs, rfl, HKN, HB4.out⟩
        case round =>
          clear HKN hs
          obtain ⟨s, hs, rfl, HKN, hbel⟩ := hrel
          have HB5 := Lib.hid hbel; clear hbel
          clear HB4
          obtain ⟨w5, hw5⟩ : ∃ w5, w5 = wr := ⟨_, rfl⟩
          obtain rfl := hw5
          have hg5 : g ≤ w5.heap.size := by have := HB5.out.size; rw [← HG.out] at this; exact this
          have hsm : (s : Int) < (m : Int) := by omega
          have hs20 : s ≤ 20 := by omega
          have HWK := Lib.hid (walks_ok m ao L.length ac g L i s w5 (HA.out.below HB5.out) rfl hg5 HOK.out hlt hs20)
          go_wp2_with fail
          refine HWK.out.mono ?_
          rintro e w6 ⟨v1, rfl, hs1, hb⟩
          obtain ⟨a1, k1, rfl, -⟩ := hs1.intsShape (A := []) (C := [])
          have HX := Lib.hid (hs1.intSl (A := []) (C := []))
          have HB6 := Lib.hid (HB5.out.trans (hb.mono hg5))
          have hg6 : g ≤ w6.heap.size := by have := HB6.out.size; rw [← HG.out] at this; exact this
          rw [arr_len] at hs1 ⊢
          clear hs1 hb HWK
          have HFR := Lib.hid (farRef_ok m ao L.length ac g L i w6 (HA.out.below HB6.out) rfl hg6 HOK.out hlt)
          go_wp2_with fail
          refine HFR.out.mono ?_
          rintro e w7 ⟨v2, rfl, hs2, hb⟩
          obtain ⟨a2, k2, rfl, -⟩ := hs2.intsShape (A := []) (C := [])
          have HY := Lib.hid (hs2.intSl (A := []) (C := []))
          have HX7 := Lib.hid (HX.out.below hb)
          have HB7 := Lib.hid (HB6.out.trans (hb.mono hg6))
          have hg7 : g ≤ w7.heap.size := by have := HB7.out.size; rw [← HG.out] at this; exact this
          rw [arr_len] at hs2 ⊢
          clear hs2 hb HFR HX
          by_cases hkn : Known m (edges L) s i
          · have HT := Lib.hid (show true = decide (arr (fun x => bell (edges L) s x i) m = arr (far (edges L) i) m) from (decide_eq_true (known_ints.2 hkn)).symm)
            have HKI := Lib.hid hkn
            clear hkn
            go_wp2_with fail
            refine (ints_any _ _ _ _ _ _ _ _ _ _ true _ HX7.out HY.out (arr_len _ _).symm (arr_len _ _).symm (by rw [arr_len]; omega) HT.out).mono ?_
            rintro e w8 ⟨rfl, hd⟩
            have hb := below_of_drew hd
            have HB8 := Lib.hid (HB7.out.trans (hb.mono hg7))
            clear hd hb
            go_wp2
            go_roundw
            case rel => exact ⟨s, i + 1, by omega, hs, rfl, by go_num, Lib.hid (fun i' h => by
              by_cases e : i' = i
              · subst e; exact HKI.out
              · exact HKN.out i' (by omega)), HB8.out⟩
            case measure => simp [intOf]; omega
          · have HT := Lib.hid (show false = decide (arr (fun x => bell (edges L) s x i) m = arr (far (edges L) i) m) from (decide_eq_false (fun h => hkn (known_ints.1 h))).symm)
            have hsk : s < K := by
              rcases Nat.lt_or_ge s K with h | h
              · exact h
              · exfalso
                obtain rfl : s = K := by omega
                exact hkn (known_quiet HOK.out.net hn8 hn1 HK2.out hlt)
            clear hkn
            go_wp2_with fail
            refine (ints_any _ _ _ _ _ _ _ _ _ _ false _ HX7.out HY.out (arr_len _ _).symm (arr_len _ _).symm (by rw [arr_len]; omega) HT.out).mono ?_
            rintro e w8 ⟨rfl, hd⟩
            have hb := below_of_drew hd
            have HB8 := Lib.hid (HB7.out.trans (hb.mono hg7))
            clear hd hb
            go_wp2
            go_roundw
            case rel => exact ⟨s + 1, by omega, by go_num, Lib.hid (fun i' h => known_next HOK.out.net hn8 (by omega) (HKN.out i' h)), HB8.out⟩
            case measure => simp [intOf]; omega
      · obtain rfl : i = m := by omega
        have hii : decide ((i : Int) < (i : Int)) = false := by simp
        have hsK : s = K := by
          have hq := quiet_known HOK.out.net hn8 HKN.out
          rcases Nat.lt_or_ge s K with h | h
          · exact absurd hq (HK3.out s h)
          · omega
        subst hsK
        clear HKN hs
        obtain ⟨w4, hw4⟩ : ∃ w4, w4 = wr := ⟨_, rfl⟩
        obtain rfl := hw4
        have hg4 : g ≤ w4.heap.size := by have := HB4.out.size; rw [← HG.out] at this; exact this
        go_wp2_with fail
        refine (settle_ok i _ _ _ g L _ (HA.out.below HB4.out) rfl hg4 HOK.out).mono ?_
        rintro e w5 ⟨k, rfl, k1, k2, k3, hb⟩
        have hks : k = s := by
          rcases Nat.lt_trichotomy k s with h | h | h
          · exact absurd k2 (HK3.out k h)
          · exact h
          · exact absurd HK2.out (k3 s h)
        subst hks
        have HB5 := Lib.hid (HB4.out.trans (hb.mono hg4)); clear hb k1 k2 k3
        have hg5 : g ≤ w5.heap.size := by have := HB5.out.size; rw [← HG.out] at this; exact this
        have hkk : ((k : Int) == (k : Int)) = true := by simp
        go_wp2_with fail
        refine (HSAME.out _ HB5.out).mono ?_
        rintro e w6 ⟨rfl, hb⟩
        have HB6 := Lib.hid (HB5.out.trans (hb.mono hg5)); clear hb
        have hg6 : g ≤ w6.heap.size := by have := HB6.out.size; rw [← HG.out] at this; exact this
        clear HB4 HB5 hg4 hg5
        by_cases hr : 0 ≤ r ∧ r ≤ 20
        · obtain ⟨hr0, hr20⟩ := hr
          obtain ⟨t, rfl⟩ := Int.eq_ofNat_of_zero_le hr0
          have ht : t ≤ 20 := by omega
          go_wp2_with fail
          refine (in3_yes _ _ _ _ hr0 hr20).mono ?_
          rintro e w7 ⟨rfl, rfl⟩
          have HNIL := Lib.hid ((Sep.nil g w6).rowNil 1 29)
          go_wp2
          go_loopg [14, 15] i (fun gk vv xv wr => ∃ (x : Nat) (v : Value) (P : Nat → Nat × Nat × Nat), gk + x = i ∧ v = vv ∧ xv = .int .i64 x ∧ Sep g wr (matE v P x i (fun a b => bell (edges L) t b a)) ∧ Below g w wr)
          case atStart => exact ⟨0, _, fun _ => (0, 0, 0), by omega, rfl, rfl, HNIL.out, HB6.out⟩
          case round =>
            obtain ⟨gi, rfl⟩ : ∃ gi, gi = gk := ⟨_, rfl⟩
            obtain ⟨x, v, P, hgx, rfl, rfl, hsep, hbel⟩ := hrel
            have HS7 := Lib.hid hsep; clear hsep
            have HB7 := Lib.hid hbel; clear hbel
            clear HB6 hg6
            obtain ⟨w7, hw7⟩ : ∃ w7, w7 = wr := ⟨_, rfl⟩
            obtain rfl := hw7
            have hg7 : g ≤ w7.heap.size := by have := HB7.out.size; rw [← HG.out] at this; exact this
            by_cases hxl : x < i
            · have hxi : (x : Int) < (i : Int) := by omega
              have HWK := Lib.hid (walks_ok i ao L.length ac g L x t w7 (HA.out.below HB7.out) rfl hg7 HOK.out hxl ht)
              go_wp2_with fail
              refine HWK.out.mono ?_
              rintro e w8 ⟨v1, rfl, hs1, hb⟩
              obtain ⟨a1, k1, rfl, -⟩ := hs1.intsShape (A := []) (C := [])
              rw [arr_len] at hs1 ⊢
              obtain ⟨gr, orr, rfl, -⟩ := arrI_at (A := []) hs1 hxl
              have hj := (Sep.join (L := [_]) HS7.out hg7 hb hs1).perm (List.perm_append_comm (l₁ := [_]) (l₂ := matE v P x i (fun a b => bell (edges L) t b a)))
              have hj' : Sep g w8 ([] ++ Ent.row v x 1 29 (arr (rowV P i) x) :: ((List.range x).map (matRow P i (fun a b => bell (edges L) t b a)) ++ [Ent.ints 3 (.slice (some ⟨gr, orr, none⟩) i k1) (arr (fun b => bell (edges L) t b x) i)])) := hj
              have HS8 := Lib.hid hj'
              have HB8 := Lib.hid (HB7.out.trans (hb.mono hg7))
              have hg8 : g ≤ w8.heap.size := by have := HB8.out.size; rw [← HG.out] at this; exact this
              clear hs1 hb hj hj' HWK HS7
              go_wp2_with (at_builtin; refine wpList_append_one (A := []) (v := v) (n := x) (y := .slice (some ⟨gr, orr, none⟩) i k1) (z := .slice none 0 0) (size := 1) (xs := arr (rowV P i) x) ?_ (.tmp 80) (.tmp 86) ?_ elemRow ?_ HS8.out ?_ ?_ ?_ ?_ ?_ ?_; rfl; rfl; rfl; exact hg8; rfl; rfl; omega; decide)
              intro v' w9 hs hb
              have hs9 := mat_push (p := (gr, orr, k1)) hs
              have HS9 := Lib.hid hs9
              have HB9 := Lib.hid (HB8.out.trans hb)
              clear hs hb hs9
              go_wp2
              go_roundg (gi - 1)
              case measure => omega
              case rel => exact ⟨x + 1, _, _, by omega, rfl, by first | rfl | go_num, HS9.out, HB9.out⟩
            · obtain rfl : x = i := by omega
              have hxi : decide ((x : Int) < (x : Int)) = false := by simp
              have hs7 := HS7.out
              obtain ⟨a1, k1, rfl, -⟩ := mat_out (F := []) (C := []) (by simpa using hs7)
              have HM := Lib.hid (mat_read (F := []) (C := []) (by simpa using hs7) (show 0 < x by omega))
              clear hs7 HS7
              go_wp2_with fail
              refine (rounds_ok x _ _ _ g L t _ (HA.out.below HB7.out) rfl hg7 HOK.out ht).mono ?_
              rintro e w8 ⟨v2, P2, rfl, hs, hb⟩
              obtain ⟨a2, k2, rfl, -⟩ := mat_out (F := []) (C := []) (by simpa using hs)
              have HM2 := Lib.hid (mat_read (F := []) (C := []) (by simpa using hs) (show 0 < x by omega))
              have HM1 := Lib.hid ((HM.out.below hb).mono hb.size)
              have HB8 := Lib.hid (HB7.out.trans (hb.mono hg7))
              have hg8 : g ≤ w8.heap.size := by have := HB8.out.size; rw [← HG.out] at this; exact this
              clear hs hb HM
              go_wp2_with fail
              refine (HSAME.out _ HB8.out).mono ?_
              rintro e w9 ⟨rfl, hb⟩
              have HM4 := Lib.hid (HM2.out.below hb)
              have HM3 := Lib.hid (HM1.out.below hb)
              have HB9 := Lib.hid (HB8.out.trans (hb.mono hg8)); clear hb
              have hg9 : g ≤ w9.heap.size := by have := HB9.out.size; rw [← HG.out] at this; exact this
              clear HM1 HM2
              go_wp2_with fail
              refine (rowsSame_any _ _ _ _ _ _ _ _ _ _ _ _ true _ HM4.out HM3.out (by omega) (by omega) ⟨fun _ i j hi hj => bell_swap HOK.out.net t i j, fun _ => rfl⟩).mono ?_
              rintro e w10 ⟨rfl, hd⟩
              have hb := below_of_drew hd
              have HB10 := Lib.hid (HB9.out.trans (hb.mono hg9))
              clear hd hb
              go_wp2
              go_ret
              exact ⟨rfl, by have := HB10.out; rw [HG.out] at this; exact this⟩
        · have HR := Lib.hid hr; clear hr
          have hrc : (1 : Int) = rCode (i : Int) L r := by unfold rCode; rw [HC'.out, if_pos rfl, if_neg HR.out]
          have HRC := Lib.hid hrc; clear hrc
          have hsame : ∀ w', Below g w w' → Calls Tryd.prog 7 #[.iface 60 (.int .i64 1), .int .i64 1] w' fun x w'' => x = .returned (.bool true) ∧ Below w'.heap.size w' w'' := fun w' h => by
            have := same_any 1 1 true w' (HDOOR.out _ h) rfl
            rw [errV_not (by decide)] at this
            exact this
          have HSAME2 := Lib.hid hsame; clear hsame
          have HB5 := HB6
          clear HB6 hg6
          have h0n : (0 : Int) < (i : Int) := by omega
          go_wp2_with fail
          refine (in3_no _ _ _ _ HR.out).mono ?_
          rintro e w7 ⟨rfl, rfl⟩
          go_wp2
          go_loopg [14, 15] 0 (fun _ vv iv wr => vv = .slice none 0 0 ∧ iv = .int .i64 0 ∧ Below g w wr)
          case atStart => exact ⟨rfl, rfl, HB5.out⟩
          case round =>
            obtain ⟨rfl, rfl, hbel⟩ := hrel
            have HB6 := Lib.hid hbel; clear hbel
            obtain ⟨w6, hw6⟩ : ∃ w6, w6 = wr := ⟨_, rfl⟩
            obtain rfl := hw6
            have hg6 : g ≤ w6.heap.size := by have := HB6.out.size; rw [← HG.out] at this; exact this
            go_wp2_with fail
            refine (rounds_err _ _ _ _ g L r 1 _ (HA.out.below HB6.out) rfl (by omega) hg6 HRC.out (by decide)).mono ?_
            rintro e w7 ⟨rfl, hb⟩
            have HB7 := Lib.hid (HB6.out.trans (hb.mono hg6)); clear hb
            have hg7 : g ≤ w7.heap.size := by have := HB7.out.size; rw [← HG.out] at this; exact this
            go_wp2_with fail
            refine (HSAME2.out _ HB7.out).mono ?_
            rintro e w8 ⟨rfl, hb⟩
            have HB8 := Lib.hid (HB7.out.trans (hb.mono hg7)); clear hb
            have hg8 : g ≤ w8.heap.size := by have := HB8.out.size; rw [← HG.out] at this; exact this
            go_wp2_with fail
            refine (rows_nil _).mono ?_
            rintro e w9 ⟨rfl, hd⟩
            have hb := below_of_drew hd
            have HB9 := Lib.hid (HB8.out.trans (hb.mono hg8))
            clear hd hb
            go_wp2
            go_ret
            exact ⟨rfl, by have := HB9.out; rw [HG.out] at this; exact this⟩
  · have hcb : (c == 0) = false := by simp [hc0]
    rw [← hc] at HREF
    have HC := Lib.hid hc; clear hc
    have H0 := Lib.hid hc0; clear hc0
    have hsame : ∀ w', Below g w w' → Calls Tryd.prog 7 #[.iface 60 (.int .i64 c), .int .i64 c] w' fun x w'' => x = .returned (.bool true) ∧ Below w'.heap.size w' w'' := fun w' h => by
      have := same_any c c true w' (HDOOR.out _ h) (by simp)
      rw [errV_not H0.out] at this
      exact this
    have HSAME := Lib.hid hsame; clear hsame
    have HSAME2 := HSAME
    have hrc : c = rCode n L r := by unfold rCode; rw [if_neg (by rw [← HC.out]; exact H0.out)]; exact HC.out
    have HRC := Lib.hid hrc; clear hrc
    go_enter Tryd.func3, Tryd.ntmps3
    go_wp2_with fail
    refine HREF.out.mono ?_
    rintro e w1 ⟨rfl, hb⟩
    have HB1 := Lib.hid (show Below g w w1 by rw [HG.out]; exact hb); clear hb HREF
    have hg1 : g ≤ w1.heap.size := by have := HB1.out.size; rw [← HG.out] at this; exact this
    have HCHK := Lib.hid (vCheck_any n ao L.length ac g L w1 (HA.out.below HB1.out) rfl (by omega) hg1)
    rw [← HC.out, errV_not H0.out] at HCHK
    go_wp2_with fail
    refine HCHK.out.mono ?_
    rintro e w2 ⟨rfl, hb⟩
    have HB2 := Lib.hid (HB1.out.trans (hb.mono hg1)); clear hb HCHK
    have hg2 : g ≤ w2.heap.size := by have := HB2.out.size; rw [← HG.out] at this; exact this
    go_wp2_with fail
    refine (HSAME.out _ HB2.out).mono ?_
    rintro e w3 ⟨rfl, hb⟩
    have HB3 := Lib.hid (HB2.out.trans (hb.mono hg2)); clear hb
    have hg3 : g ≤ w3.heap.size := by have := HB3.out.size; rw [← HG.out] at this; exact this
    go_wp2_with fail
    refine (settle_err n _ _ _ g L c _ hnb (HA.out.below HB3.out) rfl (by omega) hg3 HC.out H0.out).mono ?_
    rintro e w4 ⟨rfl, hb⟩
    have HB4 := Lib.hid (HB3.out.trans (hb.mono hg3)); clear hb
    have hg4 : g ≤ w4.heap.size := by have := HB4.out.size; rw [← HG.out] at this; exact this
    go_wp2_with fail
    refine (HSAME.out _ HB4.out).mono ?_
    rintro e w5 ⟨rfl, hb⟩
    have HB5 := Lib.hid (HB4.out.trans (hb.mono hg4)); clear hb
    have hg5 : g ≤ w5.heap.size := by have := HB5.out.size; rw [← HG.out] at this; exact this
    by_cases h0n : (0 : Int) < n
    · go_wp2
      go_loopg [14, 15] 0 (fun _ vv iv wr => vv = .slice none 0 0 ∧ iv = .int .i64 0 ∧ Below g w wr)
      case atStart => exact ⟨rfl, rfl, HB5.out⟩
      case round =>
        obtain ⟨rfl, rfl, hbel⟩ := hrel
        have HB6 := Lib.hid hbel; clear hbel
        obtain ⟨w6, hw6⟩ : ∃ w6, w6 = wr := ⟨_, rfl⟩
        obtain rfl := hw6
        have hg6 : g ≤ w6.heap.size := by have := HB6.out.size; rw [← HG.out] at this; exact this
        go_wp2_with fail
        refine (rounds_err n _ _ _ g L r c _ (HA.out.below HB6.out) rfl (by omega) hg6 HRC.out H0.out).mono ?_
        rintro e w7 ⟨rfl, hb⟩
        have HB7 := Lib.hid (HB6.out.trans (hb.mono hg6)); clear hb
        have hg7 : g ≤ w7.heap.size := by have := HB7.out.size; rw [← HG.out] at this; exact this
        go_wp2_with fail
        refine (HSAME2.out _ HB7.out).mono ?_
        rintro e w8 ⟨rfl, hb⟩
        have HB8 := Lib.hid (HB7.out.trans (hb.mono hg7)); clear hb
        have hg8 : g ≤ w8.heap.size := by have := HB8.out.size; rw [← HG.out] at this; exact this
        go_wp2_with fail
        refine (rows_nil _).mono ?_
        rintro e w9 ⟨rfl, hd⟩
        have hb := below_of_drew hd
        have HB9 := Lib.hid (HB8.out.trans (hb.mono hg8))
        clear hd hb
        go_wp2
        go_ret
        exact ⟨rfl, by have := HB9.out; rw [HG.out] at this; exact this⟩
    · have h0n' : decide ((0 : Int) < n) = false := decide_eq_false h0n
      go_wp2
      go_loopg [14, 15] 0 (fun _ vv iv wr => vv = .slice none 0 0 ∧ iv = .int .i64 0 ∧ Below g w wr)
      case atStart => exact ⟨rfl, rfl, HB5.out⟩
      case round =>
        obtain ⟨rfl, rfl, hbel⟩ := hrel
        have HB6 := Lib.hid hbel; clear hbel
        obtain ⟨w6, hw6⟩ : ∃ w6, w6 = wr := ⟨_, rfl⟩
        obtain rfl := hw6
        have hg6 : g ≤ w6.heap.size := by have := HB6.out.size; rw [← HG.out] at this; exact this
        go_wp2_with fail
        refine (rounds_err n _ _ _ g L r c _ (HA.out.below HB6.out) rfl (by omega) hg6 HRC.out H0.out).mono ?_
        rintro e w7 ⟨rfl, hb⟩
        have HB7 := Lib.hid (HB6.out.trans (hb.mono hg6)); clear hb
        have hg7 : g ≤ w7.heap.size := by have := HB7.out.size; rw [← HG.out] at this; exact this
        go_wp2_with fail
        refine (HSAME2.out _ HB7.out).mono ?_
        rintro e w8 ⟨rfl, hb⟩
        have HB8 := Lib.hid (HB7.out.trans (hb.mono hg7)); clear hb
        have hg8 : g ≤ w8.heap.size := by have := HB8.out.size; rw [← HG.out] at this; exact this
        go_wp2_with fail
        refine (rows_nil _).mono ?_
        rintro e w9 ⟨rfl, hd⟩
        have hb := below_of_drew hd
        have HB9 := Lib.hid (HB8.out.trans (hb.mono hg8))
        clear hd hb
        go_wp2
        go_ret
        exact ⟨rfl, by have := HB9.out; rw [HG.out] at this; exact this⟩
end Go.Proofs.YtkheccnjcaljdaaDoor
