/- slices.symMergeCmpFunc at rounds.item, where the second side is one thing. -/
import Derived.Test.YtpfpaheafpibiaaDoorSymL
namespace Go.Proofs.YtpfpaheafpibiaaDoor
open Go.RowKit
set_option linter.unusedVariables false
set_option linter.unusedSimpArgs false
set_option maxRecDepth 100000

theorem bs_le {Bs : List Itm} (hs : Srt Bs) {x y : Itm} {h : Nat} (hy : Bs[h]? = some y) (hl : leI y x) : ∀ u ∈ Bs.take (h + 1), leI u x := fun u hu => by
  obtain ⟨i, hi, he⟩ := mem_take_at hu
  exact leI_trans (hs.get he hy (by omega)) hl
theorem bs_gt {Bs : List Itm} (hs : Srt Bs) {x y : Itm} {h : Nat} (hy : Bs[h]? = some y) (hl : ltI x y) : ∀ u ∈ Bs.drop h, ltI x u := fun u hu => by
  obtain ⟨i, hi, he⟩ := mem_drop_at hu
  exact lt_leI hl (hs.get hy he hi)
set_option maxHeartbeats 4000000 in
theorem symR_any (B g off N cap : Nat) (P A R : List Itm) (x : Itm) (a m b : Nat) (F : List Ent) (w : World) (hX : (P ++ A ++ [x] ++ R).length = N) (hN : N ≤ 1000) (ha : a = P.length) (hm : m = a + A.length) (hb : b = m + 1) (h2 : 2 ≤ A.length) (hst : Srt A) (hB : B ≤ w.heap.size) (hsep : Sep B w (itN g off N cap (P ++ A ++ [x] ++ R) :: F)) :
    Calls Tryd.prog 31 #[.slice (some ⟨g, off, none⟩) N cap, .int .i64 a, .int .i64 m, .int .i64 b, cmpV] w fun e w' => e = .returned (.tuple #[]) ∧ (∃ C, C.Perm (A ++ [x]) ∧ Srt C ∧ Sep B w' (itN g off N cap (P ++ C ++ R) :: F)) ∧ Below B w w' := by
  have hX2 : P.length + A.length + 1 + R.length = N := by rw [← hX]; simp only [List.length_append, List.length_singleton]
  have haN : a ≤ 1000 := by omega
  have hbN : b ≤ 1000 := by omega
  have hmN : m ≤ 1000 := by omega
  obtain ⟨d, hd⟩ : ∃ d, d = A.length := ⟨_, rfl⟩
  have hma : (m : Int) - (a : Int) = (d : Int) := by omega
  have hd1 : ((d : Int) == 1) = false := by simp; omega
  have hdN : d ≤ 1000 := by omega
  have hbm : (b : Int) - (m : Int) = 1 := by omega
  have hma2 : a ≤ m := by omega
  have HS0 := Lib.hid hsep
  have HAe := Lib.hid ha
  have HME := Lib.hid hm
  have HX := Lib.hid hX
  have HX2 := Lib.hid hX2
  have HST := Lib.hid hst
  clear hsep hX hX2 ha hm hb hst h2 hd
  go_enter Tryd.func31, Tryd.ntmps31
  go_wp2
  clear hma hbm hd1
  go_loopg [14, 15] (m - a) (fun gk iv jv wr => ∃ i j : Nat, gk = j - i ∧ iv = .int .i64 i ∧ jv = .int .i64 j ∧ a ≤ i ∧ i ≤ j ∧ j ≤ m ∧ (∀ u ∈ A.take (i - a), leI u x) ∧ (∀ u ∈ A.drop (j - a), ltI x u) ∧ Sep B wr (itN g off N cap (P ++ A ++ [x] ++ R) :: F) ∧ Below B w wr)
  case atStart => exact ⟨a, m, rfl, rfl, rfl, Nat.le_refl _, hma2, Nat.le_refl _, by simp, by rw [List.drop_of_length_le (by have := HME.out; omega)]; simp, HS0.out, Below.refl _ _⟩
  case round =>
    obtain ⟨gi, hgi0⟩ : ∃ gi, gi = gk := ⟨_, rfl⟩
    obtain ⟨i, j, hgk, rfl, rfl, hmi, hij, hjb, ht, hd, hs, hbl⟩ := hrel
    have HT := Lib.hid ht
    have HD := Lib.hid hd
    have HS1 := Lib.hid hs
    have HB1 := Lib.hid hbl
    have hgw : B ≤ wr.heap.size := Nat.le_trans hB hbl.size
    clear ht hd hs hbl HS0
    by_cases hlt : i < j
    · have hii : (i : Int) < (j : Int) := by omega
      obtain ⟨s, hs⟩ : ∃ s, s = i + j := ⟨_, rfl⟩
      obtain ⟨h, hh⟩ : ∃ h, h = s / 2 := ⟨_, rfl⟩
      have hsI : (i : Int) + (j : Int) = (s : Int) := by omega
      have hsN : s ≤ 3000 := by omega
      have hhI : (s : Int) / 2 = (h : Int) := by omega
      have hhi : i ≤ h := by omega
      have hhj : h < j := by omega
      obtain ⟨y, hy⟩ : ∃ y, A[h - a]? = some y := ⟨_, List.getElem?_eq_getElem (by have := HME.out; omega)⟩
      have hxy : (P ++ A ++ [x] ++ R)[h]? = some y := by
        rw [List.append_assoc, List.append_assoc, List.getElem?_append_right (by rw [← HAe.out]; omega), ← HAe.out, List.getElem?_append_left (by have := (List.getElem?_eq_some_iff.1 hy).1; omega)]
        exact hy
      have hxm : (P ++ A ++ [x] ++ R)[m]? = some x := by
        have hl : (P ++ A).length = m := by rw [List.length_append, HME.out, HAe.out]
        rw [List.append_assoc, ← hl]
        exact at_app (P ++ A) x R
      have hhN : h < N := by have := (List.getElem?_eq_some_iff.1 hxy).1; rw [HX.out] at this; exact this
      have hmN2 : m < N := by have := (List.getElem?_eq_some_iff.1 hxm).1; rw [HX.out] at this; exact this
      have hhl : (h : Int) < (N : Int) := by omega
      have hml : (m : Int) < (N : Int) := by omega
      have hh0 : (0 : Int) ≤ (h : Int) := by omega
      have hm0 : (0 : Int) ≤ (m : Int) := by omega
      have HFA := Lib.hid (itN_two HS1.out HX.out hxm hxy)
      obtain ⟨cv, hcv⟩ : ∃ cv, cv = cmpT x y := ⟨_, rfl⟩
      have hcd := cmpT_lt x y
      rw [← hcv] at hcd
      have HCV := Lib.hid hcv
      have HCD := Lib.hid hcd
      have HY := Lib.hid hy
      have HGK := Lib.hid hgk
      have HH := Lib.hid hh
      clear hcv hcd hy hxy hxm hgk hgi0 hs hh
      go_upto_region 17 with fail
      refine wp_region_held_drew (S := fun w' => Below wr.heap.size wr w' ∧ (w'.cell? ⟨g, off + m * 4, none⟩ = some (.int .i64 x.1) ∧ w'.cell? ⟨g, off + m * 4 + 1, none⟩ = some (.int .i64 x.2.1) ∧ w'.cell? ⟨g, off + m * 4 + 2, none⟩ = some (.int .i64 x.2.2.1) ∧ w'.cell? ⟨g, off + m * 4 + 3, none⟩ = some (.int .i64 x.2.2.2)) ∧ (w'.cell? ⟨g, off + h * 4, none⟩ = some (.int .i64 y.1) ∧ w'.cell? ⟨g, off + h * 4 + 1, none⟩ = some (.int .i64 y.2.1) ∧ w'.cell? ⟨g, off + h * 4 + 2, none⟩ = some (.int .i64 y.2.2.1) ∧ w'.cell? ⟨g, off + h * 4 + 3, none⟩ = some (.int .i64 y.2.2.2))) (by kernel_rfl) ?hS0 (fun hHeld => ?start0)
      case hS0 => exact HFA.out _ (below_drew _ _)
      refine wpAnyH_take (i := 0) (v := ?va0) rfl (by kernel_rfl) (by kernel_rfl) (by kernel_rfl) (fun _ _ _ h => h) (Or.inl ⟨by rfl, ?hya0⟩) (by assumption) ?resta0
      case hya0 =>
        intro w hSw
        try dsimp only at hSw
        go_simp
        try with_reducible rfl
      try simp only [Act.put, List.setIfInBounds_toArray, List.set_cons_zero, List.set_cons_succ, List.getElem_toArray, List.getElem_cons_zero]
      refine wpAnyH_take (i := 1) (v := ?va1) rfl (by kernel_rfl) (by kernel_rfl) (by kernel_rfl) (fun _ _ _ h => h) (Or.inl ⟨by rfl, ?hya1⟩) (by assumption) ?resta1
      case hya1 =>
        intro w hSw
        try dsimp only at hSw
        go_simp
        try with_reducible rfl
      try simp only [Act.put, List.setIfInBounds_toArray, List.set_cons_zero, List.set_cons_succ, List.getElem_toArray, List.getElem_cons_zero, List.getElem_cons_succ]
      refine wpAnyH_take (i := 2) (v := ?va2) rfl (by kernel_rfl) (by kernel_rfl) (by kernel_rfl) (fun _ _ _ h => h) (Or.inl ⟨by rfl, ?hya2⟩) (by assumption) ?resta2
      case hya2 =>
        intro w hSw
        try dsimp only at hSw
        go_simp
        try with_reducible rfl
      try simp only [Act.put, List.setIfInBounds_toArray, List.set_cons_zero, List.set_cons_succ, List.getElem_toArray, List.getElem_cons_zero, List.getElem_cons_succ]
      refine wpAnyH_take (i := 3) (v := ?va3) rfl (by kernel_rfl) (by kernel_rfl) (by kernel_rfl) (fun _ _ _ h => h) (Or.inl ⟨by rfl, ?hya3⟩) (by assumption) ?resta3
      case hya3 =>
        intro w hSw
        try dsimp only at hSw
        go_simp
        try with_reducible rfl
      try simp only [Act.put, List.setIfInBounds_toArray, List.set_cons_zero, List.set_cons_succ, List.getElem_toArray, List.getElem_cons_zero, List.getElem_cons_succ]
      refine wpAnyH_take (i := 4) (v := ?va4) rfl (by kernel_rfl) (by kernel_rfl) (by kernel_rfl) (fun _ _ _ h => h) (Or.inl ⟨by rfl, ?hya4⟩) (by assumption) ?resta4
      case hya4 =>
        intro w hSw
        try dsimp only at hSw
        go_simp
        try with_reducible rfl
      try simp only [Act.put, List.setIfInBounds_toArray, List.set_cons_zero, List.set_cons_succ, List.getElem_toArray, List.getElem_cons_zero, List.getElem_cons_succ]
      refine wpAnyH_take (i := 5) (v := ?va5) rfl (by kernel_rfl) (by kernel_rfl) (by kernel_rfl) (fun _ _ _ h => h) (Or.inl ⟨by rfl, ?hya5⟩) (by assumption) ?resta5
      case hya5 =>
        intro w hSw
        try dsimp only at hSw
        go_simp
        try with_reducible rfl
      try simp only [Act.put, List.setIfInBounds_toArray, List.set_cons_zero, List.set_cons_succ, List.getElem_toArray, List.getElem_cons_zero, List.getElem_cons_succ]
      refine wpAnyH_take (i := 6) (v := ?va6) rfl (by kernel_rfl) (by kernel_rfl) (by kernel_rfl) (fun _ _ _ h => h) (Or.inl ⟨by rfl, ?hya6⟩) (by assumption) ?resta6
      case hya6 =>
        intro w hSw
        try dsimp only at hSw
        go_simp
        try with_reducible rfl
      try simp only [Act.put, List.setIfInBounds_toArray, List.set_cons_zero, List.set_cons_succ, List.getElem_toArray, List.getElem_cons_zero, List.getElem_cons_succ]
      refine wpAnyH_take (i := 7) (v := ?va7) rfl (by kernel_rfl) (by kernel_rfl) (by kernel_rfl) (fun _ _ _ h => h) (Or.inl ⟨by rfl, ?hya7⟩) (by assumption) ?resta7
      case hya7 =>
        intro w hSw
        try dsimp only at hSw
        go_simp
        try with_reducible rfl
      try simp only [Act.put, List.setIfInBounds_toArray, List.set_cons_zero, List.set_cons_succ, List.getElem_toArray, List.getElem_cons_zero, List.getElem_cons_succ]
      refine wpAnyH_take (i := 8) (v := ?va8) rfl (by kernel_rfl) (by kernel_rfl) (by kernel_rfl) (fun _ _ _ h => h) (Or.inl ⟨by rfl, ?hya8⟩) (by assumption) ?resta8
      case hya8 =>
        intro w hSw
        try dsimp only at hSw
        go_simp
        try with_reducible rfl
      try simp only [Act.put, List.setIfInBounds_toArray, List.set_cons_zero, List.set_cons_succ, List.getElem_toArray, List.getElem_cons_zero, List.getElem_cons_succ]
      refine wpAnyH_ready (rs := [9]) (by kernel_rfl) (by simp) ?_
      refine AllReadyH.cons rfl (fun K hK => ?_) AllReadyH.nil
      go_simp
      refine (itcmp_agg x y _).mono ?_
      rintro e w3 ⟨rfl, hb⟩
      rw [← HCV.out]
      have hb3 : Below wr.heap.size wr w3 := (below_drew _ _).trans hb
      have HB3 := Lib.hid hb3
      have HKa := Lib.hid (HFA.out _ hb3)
      clear hb hb3
      go_wp2_with fail
      refine hK.out _ _ ?_ (fun hHeldb0 => ?_)
      · exact HKa.out
      clear hK K
      try simp only [Act.put, List.setIfInBounds_toArray, List.set_cons_zero, List.set_cons_succ, List.getElem_toArray, List.getElem_cons_zero, List.getElem_cons_succ]
      refine wpAnyH_take (i := 10) (v := ?vb10) rfl (by kernel_rfl) (by kernel_rfl) (by kernel_rfl) (fun _ _ _ h => h) (Or.inl ⟨by rfl, ?hyb10⟩) (by assumption) ?restb10
      case hyb10 =>
        intro w hSw
        try dsimp only at hSw
        go_simp
        try with_reducible rfl
      try simp only [Act.put, List.setIfInBounds_toArray, List.set_cons_zero, List.set_cons_succ, List.getElem_toArray, List.getElem_cons_zero, List.getElem_cons_succ]
      refine wpAnyH_take (i := 11) (v := ?vb11) rfl (by kernel_rfl) (by kernel_rfl) (by kernel_rfl) (fun _ _ _ h => h) (Or.inl ⟨by rfl, ?hyb11⟩) (by assumption) ?restb11
      case hyb11 =>
        intro w hSw
        try dsimp only at hSw
        go_simp
        try with_reducible rfl
      try simp only [Act.put, List.setIfInBounds_toArray, List.set_cons_zero, List.set_cons_succ, List.getElem_toArray, List.getElem_cons_zero, List.getElem_cons_succ]
      refine wpAnyH_done (by kernel_rfl) ?_ _
      have HS3 := Lib.hid (HS1.out.kept HB3.out)
      have HB4 := Lib.hid (HB1.out.trans (HB3.out.mono hgw))
      clear HKa HFA HB1 HS1
      by_cases hyx : ltI x y
      · have hcd : decide (cv < 0) = true := by rw [HCD.out]; exact decide_eq_true hyx
        have hcn : cv < 0 := by simpa using hcd
        have hcn2 : decide (0 ≤ cv) = false := decide_eq_false (by omega)
        have HD2 := Lib.hid (bs_gt HST.out HY.out hyx)
        clear hyx hcn2
        simp only [hcd, Bool.not_true]
        go_wp2
        go_roundg (h - i)
        case measure => have := HGK.out; omega
        case rel => exact ⟨i, h, rfl, rfl, rfl, hmi, hhi, by omega, HT.out, HD2.out, HS3.out, HB4.out⟩
      · have hcd : decide (cv < 0) = false := by rw [HCD.out]; exact decide_eq_false hyx
        have hcn : ¬ cv < 0 := by simpa using hcd
        have hcn2 : decide (0 ≤ cv) = true := decide_eq_true (by omega)
        have HT2 := Lib.hid (bs_le HST.out HY.out hyx)
        have HE : Hid (h + 1 - a = h - a + 1) := Lib.hid (by omega)
        clear hyx hcn2
        simp only [hcd, Bool.not_false]
        go_wp2
        go_roundg (j - (h + 1))
        case measure => have := HGK.out; omega
        case rel => exact ⟨h + 1, j, rfl, by go_num, rfl, by omega, by omega, hjb, by rw [HE.out]; exact HT2.out, HD.out, HS3.out, HB4.out⟩
    · have hij' : i = j := by omega
      subst hij'
      have hii : decide ((i : Int) < (i : Int)) = false := by simp
      obtain ⟨A1, hA1⟩ : ∃ A1, A1 = A.take (i - a) := ⟨_, rfl⟩
      obtain ⟨A2, hA2⟩ : ∃ A2, A2 = A.drop (i - a) := ⟨_, rfl⟩
      have hAA : A = A1 ++ A2 := by rw [hA1, hA2, List.take_append_drop]
      have hl1 : A1.length = i - a := by rw [hA1, List.length_take]; have := HME.out; omega
      have hl2 : A2.length = m - i := by rw [hA2, List.length_drop]; have := HME.out; omega
      have hs5 := HS1.out
      rw [hAA] at hs5
      have hso : Srt (A1 ++ x :: A2) := ins_done (by rw [← hAA]; exact HST.out) (fun u hu => HD.out u (by rw [← hA2]; exact hu)) (fun u hu => HT.out u (by rw [← hA1]; exact hu))
      have hPl : (P ++ A1).length = i := by rw [List.length_append, hl1, ← HAe.out]; omega
      have HSO := Lib.hid hso
      have HAA := Lib.hid hAA
      have HPL := Lib.hid hPl
      have HL2 := Lib.hid hl2
      have HS5 : Hid (Sep B wr (itN g off N cap ((P ++ A1) ++ A2 ++ x :: [] ++ [] ++ R) :: F)) := Lib.hid (by simpa using hs5)
      clear hso hAA hPl hs5 hl1 hl2 hA1 hA2 hgk hgi0 HS1 HT HD hij
      go_wp2
      clear hii
      go_loopg [17] A2.length (fun gk kv wr => ∃ (k : Nat) (Aa Ab : List Itm), gk = Aa.length ∧ kv = .int .i64 k ∧ k = i + Aa.length ∧ Aa ++ Ab = A2 ∧ Sep B wr (itN g off N cap ((P ++ A1) ++ Aa ++ x :: Ab ++ [] ++ R) :: F) ∧ Below B w wr)
      case atStart => exact ⟨m, A2, [], rfl, rfl, by have := HL2.out; omega, List.append_nil _, HS5.out, HB1.out⟩
      case round =>
        obtain ⟨gj, hgj0⟩ : ∃ gj, gj = gk := ⟨_, rfl⟩
        obtain ⟨k, Aa, Ab, hgk, rfl, hk, hab, hs, hbl⟩ := hrel
        have HS6 := Lib.hid hs
        have HB6 := Lib.hid hbl
        have hablen := congrArg List.length hab
        rw [List.length_append] at hablen
        have HAB := Lib.hid hab
        clear hs hbl hab HS5 HB1
        rcases List.eq_nil_or_concat Aa with h0 | ⟨Aa', y, h1⟩
        · subst h0
          simp only [List.length_nil, Nat.add_zero] at hk
          have hkt : decide ((i : Int) < (k : Int)) = false := decide_eq_false (by omega)
          have hktN : decide (i < k) = false := decide_eq_false (by omega)
          have hs9 : Sep B wr (itN g off N cap (P ++ (A1 ++ x :: A2) ++ R) :: F) := by
            have h1 := HS6.out
            have h2 := HAB.out
            rw [List.nil_append] at h2
            rw [h2] at h1
            simpa using h1
          have hpe : (A1 ++ x :: A2).Perm (A ++ [x]) := by
            rw [HAA.out]
            refine List.perm_middle.trans ?_
            exact (List.perm_append_comm (l₁ := [x]) (l₂ := A1 ++ A2))
          have HS9 := Lib.hid hs9
          have HPE := Lib.hid hpe
          clear hs9 hpe hablen hk hgk hgj0
          go_wp2
          try simp only [Exit.inBlock, Exit.then]
          refine bodyPost_ret (results_none rfl _ _ _) rfl ?_
          exact ⟨rfl, ⟨_, HPE.out, HSO.out, HS9.out⟩, HB6.out⟩
        · rw [List.concat_eq_append] at h1
          subst h1
          simp only [List.length_append, List.length_singleton] at hk hgk hablen
          have hkt : decide ((i : Int) < (k : Int)) = true := decide_eq_true (by omega)
          have hktI : (i : Int) < (k : Int) := by omega
          obtain ⟨g1, g2, g3⟩ := nb_form (P := P ++ A1) (S1 := Aa') (S2 := Ab) (T := []) (R := R) (y := y) (z := x)
          have hlen : ((P ++ A1) ++ (Aa' ++ [y]) ++ x :: Ab ++ [] ++ R).length = N := by
            rw [← HX.out, HAA.out, ← HAB.out]
            simp only [List.length_append, List.length_cons, List.length_nil]; omega
          rw [HPL.out] at g1 g2 g3
          obtain ⟨q, hq⟩ : ∃ q, q = i + Aa'.length := ⟨_, rfl⟩
          have hkq : k = q + 1 := by omega
          rw [← hq] at g1 g2 g3
          rw [← hkq] at g2 g3
          have hkN : k < N := by have := (List.getElem?_eq_some_iff.1 g2).1; omega
          have hqN : q < N := by have := (List.getElem?_eq_some_iff.1 g1).1; omega
          have hne : k ≠ q := by omega
          have hqI : (k : Int) - 1 = (q : Int) := by omega
          have hkl : (k : Int) < (N : Int) := by omega
          have hql : (q : Int) < (N : Int) := by omega
          have hk0 : (0 : Int) ≤ (k : Int) := by omega
          have hq0 : (0 : Int) ≤ (q : Int) := by omega
          have hqw : IntKind.i64.wrap (q : Int) = (q : Int) := by simp [IntKind.wrap, IntKind.bits, IntKind.signed]; omega
          obtain ⟨hBg, ⟨c0, c1, c2, c3⟩, hf⟩ := itN_at (A := []) HS6.out hlen g2
          obtain ⟨-, ⟨d0, d1, d2, d3⟩, -⟩ := itN_at (A := []) HS6.out hlen g1
          have s1 := itN_put (A := []) HS6.out hlen hkN y
          have s2 := itN_put (A := []) s1 (by rw [List.length_set]; exact hlen) hqN x
          obtain ⟨-, ⟨e0, e1, e2, e3⟩, ef⟩ := itN_at (A := []) s1 (by rw [List.length_set]; exact hlen) (show (((P ++ A1) ++ (Aa' ++ [y]) ++ x :: Ab ++ [] ++ R).set k y)[q]? = some y by rw [List.getElem?_set_ne hne]; exact g1)
          rw [g3] at s2
          have b2 := put_below (put_below HB6.out hBg y (o := off + k * 4)) hBg x (o := off + q * 4)
          unfold putIt at s2 b2 e0 e1 e2 e3 ef
          have HS7 := Lib.hid s2.drew
          have HB7 := Lib.hid b2.drew
          have hab2 : Aa' ++ y :: Ab = A2 := by rw [← HAB.out]; simp
          have HAB2 := Lib.hid hab2
          have HQK := Lib.hid hq
          have HGK := Lib.hid hgk
          clear s1 s2 b2 hab2 hq hk hkq hlen g1 g2 g3 hne HS6 HB6 hgk hgj0 hablen
          go_wp2_with fail
          go_region
          all_goals
            go_wp2
            go_roundg Aa'.length
            case measure => have := HGK.out; omega
            case rel => exact ⟨q, Aa', y :: Ab, rfl, by go_num, HQK.out, HAB2.out, HS7.out, HB7.out⟩
end Go.Proofs.YtpfpaheafpibiaaDoor
