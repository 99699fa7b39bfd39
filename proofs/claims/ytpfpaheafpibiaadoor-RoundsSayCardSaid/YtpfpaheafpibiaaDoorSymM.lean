/- slices.symMergeCmpFunc at rounds.item: two sorted rows side by side become one. -/
import Derived.Test.YtpfpaheafpibiaaDoorSymV
namespace Go.Proofs.YtpfpaheafpibiaaDoor
open Go.RowKit
set_option linter.unusedVariables false
set_option linter.unusedSimpArgs false
set_option maxRecDepth 100000

theorem at_mid {P A C : List Itm} {a i : Nat} {v : Itm} (ha : a = P.length) (h : A[i]? = some v) : (P ++ A ++ C)[a + i]? = some v := by
  have hi := (List.getElem?_eq_some_iff.1 h).1
  rw [List.append_assoc, List.getElem?_append_right (by omega), show a + i - P.length = i by omega, List.getElem?_append_left hi]
  exact h
set_option maxHeartbeats 4000000 in
theorem symM_any (B g off N cap : Nat) (F : List Ent) (D : Nat) (IH : SymOk B g off N cap F D) (P A Bs R : List Itm) (a m b : Nat) (w : World) (hX : (P ++ A ++ Bs ++ R).length = N) (hN : N ≤ 1000) (ha : a = P.length) (hm : m = a + A.length) (hb : b = m + Bs.length) (hD : A.length + Bs.length ≤ D + 1)
    (hA2 : 2 ≤ A.length) (hB2 : 2 ≤ Bs.length) (hsA : Srt A) (hsB : Srt Bs) (hB : B ≤ w.heap.size) (hsep : Sep B w (itN g off N cap (P ++ A ++ Bs ++ R) :: F)) :
    Calls Tryd.prog 31 #[.slice (some ⟨g, off, none⟩) N cap, .int .i64 a, .int .i64 m, .int .i64 b, cmpV] w fun e w' => e = .returned (.tuple #[]) ∧ (∃ C, C.Perm (A ++ Bs) ∧ Srt C ∧ Sep B w' (itN g off N cap (P ++ C ++ R) :: F)) ∧ Below B w w' := by
  have hX2 : P.length + A.length + Bs.length + R.length = N := by rw [← hX]; simp only [List.length_append]
  have haN : a ≤ 1000 := by omega
  have hbN : b ≤ 1000 := by omega
  have hmN : m ≤ 1000 := by omega
  obtain ⟨d1, hd1⟩ : ∃ d, d = A.length := ⟨_, rfl⟩
  obtain ⟨d2, hd2⟩ : ∃ d, d = Bs.length := ⟨_, rfl⟩
  have hma : (m : Int) - (a : Int) = (d1 : Int) := by omega
  have hbm : (b : Int) - (m : Int) = (d2 : Int) := by omega
  have he1 : ((d1 : Int) == 1) = false := by simp; omega
  have he2 : ((d2 : Int) == 1) = false := by simp; omega
  have hd1N : d1 ≤ 1000 := by omega
  have hd2N : d2 ≤ 1000 := by omega
  obtain ⟨s0, hs0⟩ : ∃ s, s = a + b := ⟨_, rfl⟩
  obtain ⟨mid, hmid⟩ : ∃ h, h = s0 / 2 := ⟨_, rfl⟩
  have hs0I : (a : Int) + (b : Int) = (s0 : Int) := by omega
  have hs0N : s0 ≤ 3000 := by omega
  have hmidI : (s0 : Int) / 2 = (mid : Int) := by omega
  obtain ⟨n, hn⟩ : ∃ n, n = mid + m := ⟨_, rfl⟩
  have hnI : (mid : Int) + (m : Int) = (n : Int) := by omega
  have hnN : n ≤ 3000 := by omega
  have ham : a + 1 < m := by omega
  have hmb : m + 1 < b := by omega
  have hmida : a < mid := by omega
  have hmidb : mid < b := by omega
  have hmid1 : mid ≤ 1000 := by omega
  obtain ⟨lo, hlo⟩ : ∃ lo, lo = if mid < m then n - b else a := ⟨_, rfl⟩
  obtain ⟨r0, hr0⟩ : ∃ r0, r0 = if mid < m then mid else m := ⟨_, rfl⟩
  have hbounds : a ≤ lo ∧ lo ≤ r0 ∧ r0 ≤ m ∧ r0 ≤ mid ∧ n ≤ lo + b ∧ (lo = a ∨ n = lo + b) ∧ (r0 = m ∨ r0 = mid) := by
    by_cases h : mid < m
    · rw [if_pos h] at hlo hr0; omega
    · rw [if_neg h] at hlo hr0; omega
  obtain ⟨p, hp⟩ : ∃ p, p = n - 1 := ⟨_, rfl⟩
  have hpI : (n : Int) - 1 = (p : Int) := by omega
  have hpN : p ≤ 3000 := by omega
  have HS0 := Lib.hid hsep
  have HAe := Lib.hid ha
  have HME := Lib.hid hm
  have HBE := Lib.hid hb
  have HX := Lib.hid hX
  have HX2 := Lib.hid hX2
  have HSA := Lib.hid hsA
  have HSB := Lib.hid hsB
  have HIH := Lib.hid IH
  have HD := Lib.hid hD
  have HLO := Lib.hid hlo
  have HR0 := Lib.hid hr0
  have HBO := Lib.hid hbounds
  have HNE := Lib.hid hn
  have HPE := Lib.hid hp
  have HMI := Lib.hid (And.intro hs0 hmid)
  clear hsep hX hX2 ha hm hb hsA hsB IH hD hlo hr0 hbounds hn hp hs0 hmid hA2 hB2 hd1 hd2
  go_enter Tryd.func31, Tryd.ntmps31
  go_upto_if 140 with fail
  clear hma hbm he1 he2 hs0I hmidI hnI
  go_cut [20, 21] (fun s20 s21 wx => s20 = .int .i64 lo ∧ s21 = .int .i64 r0 ∧ wx = w)
  case first =>
    by_cases h : mid < m
    · have hi : (mid : Int) < (m : Int) := by omega
      have hloI : (n : Int) - (b : Int) = (lo : Int) := by have h1 := HLO.out; have h2 := HBO.out; rw [if_pos h] at h1; have := HNE.out; have h3 := HMI.out; omega
      have hr0' : r0 = mid := by have h1 := HR0.out; rw [if_pos h] at h1; exact h1
      have HR := Lib.hid hr0'
      have hloN : lo ≤ 3000 := by have := HBO.out; omega
      clear hr0'
      go_wp2_with fail
      go_meet
      exact ⟨rfl, by rw [HR.out], rfl⟩
    · have hi : decide ((mid : Int) < (m : Int)) = false := decide_eq_false (by omega)
      have hiN : decide (mid < m) = false := decide_eq_false h
      have hlo' : lo = a := by have h1 := HLO.out; rw [if_neg h] at h1; exact h1
      have hr0' : r0 = m := by have h1 := HR0.out; rw [if_neg h] at h1; exact h1
      have HL := Lib.hid hlo'
      have HR := Lib.hid hr0'
      clear hr0' hlo'
      go_wp2_with fail
      go_meet
      exact ⟨by rw [HL.out], by rw [HR.out], rfl⟩
  case rest =>
    obtain ⟨rfl, rfl, hwc⟩ := hcut
    subst hwc
    obtain ⟨w0, hw0⟩ : ∃ w0, w0 = wc := ⟨_, rfl⟩
    obtain rfl := hw0
    go_wp2
    clear hpI
    go_loopg [20, 21] (r0 - lo) (fun gk sv rv wr => ∃ s r : Nat, gk = r - s ∧ sv = .int .i64 s ∧ rv = .int .i64 r ∧ lo ≤ s ∧ s ≤ r ∧ r ≤ r0 ∧ (s = lo ∨ ∃ x y, A[s - 1 - a]? = some x ∧ Bs[n - s - m]? = some y ∧ leI x y) ∧ (r = r0 ∨ ∃ x y, Bs[n - 1 - r - m]? = some x ∧ A[r - a]? = some y ∧ leI x y) ∧ Sep B wr (itN g off N cap (P ++ A ++ Bs ++ R) :: F) ∧ Below B w0 wr)
    case atStart => exact ⟨lo, r0, rfl, rfl, rfl, Nat.le_refl _, HBO.out.2.1, Nat.le_refl _, .inl rfl, .inl rfl, HS0.out, Below.refl _ _⟩
    case round =>
      obtain ⟨gi, hgi0⟩ : ∃ gi, gi = gk := ⟨_, rfl⟩
      obtain ⟨s, r, hgk, rfl, rfl, hls, hsr, hrr, hd1, hd2, hs, hbl⟩ := hrel
      have HS1 := Lib.hid hs
      have HB1 := Lib.hid hbl
      have HD1 := Lib.hid hd1
      have HD2 := Lib.hid hd2
      have hgw : B ≤ wr.heap.size := Nat.le_trans hB hbl.size
      clear hs hbl hd1 hd2 HS0
      by_cases hlt : s < r
      · have hii : (s : Int) < (r : Int) := by omega
        obtain ⟨t, ht⟩ : ∃ t, t = s + r := ⟨_, rfl⟩
        obtain ⟨c, hc⟩ : ∃ c, c = t / 2 := ⟨_, rfl⟩
        have hbo := HBO.out
        have hme := HME.out
        have hbe := HBE.out
        have hne := HNE.out
        have hpe := HPE.out
        have htI : (s : Int) + (r : Int) = (t : Int) := by omega
        have htN : t ≤ 3000 := by omega
        have hcI : (t : Int) / 2 = (c : Int) := by omega
        have hsc : s ≤ c := by omega
        have hcr : c < r := by omega
        obtain ⟨pc, hpc⟩ : ∃ pc, pc = p - c := ⟨_, rfl⟩
        have hpcI : (p : Int) - (c : Int) = (pc : Int) := by omega
        obtain ⟨v, hv⟩ : ∃ v, A[c - a]? = some v := ⟨_, List.getElem?_eq_getElem (by omega)⟩
        obtain ⟨u, hu⟩ : ∃ u, Bs[pc - m]? = some u := ⟨_, List.getElem?_eq_getElem (by omega)⟩
        have hvX : (P ++ A ++ Bs ++ R)[c]? = some v := by
          have := at_mid (C := Bs ++ R) HAe.out hv
          rw [show a + (c - a) = c by omega] at this
          simpa using this
        have huX : (P ++ A ++ Bs ++ R)[pc]? = some u := by
          have := at_mid (P := P ++ A) (C := R) (a := m) (by rw [List.length_append, hme, HAe.out]) hu
          rw [show m + (pc - m) = pc by omega] at this
          exact this
        have hcN : c < N := by have := (List.getElem?_eq_some_iff.1 hvX).1; rw [HX.out] at this; exact this
        have hpcN : pc < N := by have := (List.getElem?_eq_some_iff.1 huX).1; rw [HX.out] at this; exact this
        have hcl : (c : Int) < (N : Int) := by omega
        have hpcl : (pc : Int) < (N : Int) := by omega
        have hc0 : (0 : Int) ≤ (c : Int) := by omega
        have hpc0 : (0 : Int) ≤ (pc : Int) := by omega
        have hpcw : IntKind.i64.wrap (pc : Int) = (pc : Int) := by simp [IntKind.wrap, IntKind.bits, IntKind.signed]; omega
        have HFA := Lib.hid (itN_two HS1.out HX.out huX hvX)
        obtain ⟨cv, hcv⟩ : ∃ cv, cv = cmpT u v := ⟨_, rfl⟩
        have hcd := cmpT_lt u v
        rw [← hcv] at hcd
        have HCV := Lib.hid hcv
        have HCD := Lib.hid hcd
        have HU := Lib.hid hu
        have HV := Lib.hid hv
        have HGK := Lib.hid hgk
        have HE1 : Hid (n - (c + 1) - m = pc - m) := Lib.hid (by omega)
        have HE2 : Hid (n - 1 - c - m = pc - m) := Lib.hid (by omega)
        clear hcv hcd hu hv huX hvX hgk hgi0 ht hc hpc hbo hme hbe hne hpe
        go_upto_region 35 with fail
        refine wp_region_held_drew (S := fun w' => Below wr.heap.size wr w' ∧ (w'.cell? ⟨g, off + pc * 4, none⟩ = some (.int .i64 u.1) ∧ w'.cell? ⟨g, off + pc * 4 + 1, none⟩ = some (.int .i64 u.2.1) ∧ w'.cell? ⟨g, off + pc * 4 + 2, none⟩ = some (.int .i64 u.2.2.1) ∧ w'.cell? ⟨g, off + pc * 4 + 3, none⟩ = some (.int .i64 u.2.2.2)) ∧ (w'.cell? ⟨g, off + c * 4, none⟩ = some (.int .i64 v.1) ∧ w'.cell? ⟨g, off + c * 4 + 1, none⟩ = some (.int .i64 v.2.1) ∧ w'.cell? ⟨g, off + c * 4 + 2, none⟩ = some (.int .i64 v.2.2.1) ∧ w'.cell? ⟨g, off + c * 4 + 3, none⟩ = some (.int .i64 v.2.2.2))) (by kernel_rfl) ?hS0 (fun hHeld => ?start0)
        case hS0 => exact HFA.out _ (below_drew _ _)
        refine wpAnyH_take (i := 0) (v := ?va0) rfl (by kernel_rfl) (by kernel_rfl) (by kernel_rfl) (fun _ _ _ h => h) (Or.inl ⟨by rfl, ?hya0⟩) (by assumption) ?resta0
        case hya0 =>
          intro w hSw
          try dsimp only at hSw
          go_simp
          try with_reducible rfl
        try simp only [Act.put, List.setIfInBounds_toArray, List.set_cons_zero, List.set_cons_succ, List.getElem_toArray, List.getElem_cons_zero]
        refine wpAnyH_take (i := 1) (v := ?va1) rfl (by kernel_rfl) (by kernel_rfl) (by kernel_rfl) (fun _ _ _ h => h) (Or.inl ⟨by rfl, ?hya1⟩) (by assumption) ?resta1
        case hya1 =>
          intro w hSw
          try dsimp only at hSw
          go_simp
          try with_reducible rfl
        try simp only [Act.put, List.setIfInBounds_toArray, List.set_cons_zero, List.set_cons_succ, List.getElem_toArray, List.getElem_cons_zero, List.getElem_cons_succ]
        refine wpAnyH_take (i := 2) (v := ?va2) rfl (by kernel_rfl) (by kernel_rfl) (by kernel_rfl) (fun _ _ _ h => h) (Or.inl ⟨by rfl, ?hya2⟩) (by assumption) ?resta2
        case hya2 =>
          intro w hSw
          try dsimp only at hSw
          go_simp
          try with_reducible rfl
        try simp only [Act.put, List.setIfInBounds_toArray, List.set_cons_zero, List.set_cons_succ, List.getElem_toArray, List.getElem_cons_zero, List.getElem_cons_succ]
        refine wpAnyH_take (i := 3) (v := ?va3) rfl (by kernel_rfl) (by kernel_rfl) (by kernel_rfl) (fun _ _ _ h => h) (Or.inl ⟨by rfl, ?hya3⟩) (by assumption) ?resta3
        case hya3 =>
          intro w hSw
          try dsimp only at hSw
          go_simp
          try with_reducible rfl
        try simp only [Act.put, List.setIfInBounds_toArray, List.set_cons_zero, List.set_cons_succ, List.getElem_toArray, List.getElem_cons_zero, List.getElem_cons_succ]
        refine wpAnyH_take (i := 4) (v := ?va4) rfl (by kernel_rfl) (by kernel_rfl) (by kernel_rfl) (fun _ _ _ h => h) (Or.inl ⟨by rfl, ?hya4⟩) (by assumption) ?resta4
        case hya4 =>
          intro w hSw
          try dsimp only at hSw
          go_simp
          try with_reducible rfl
        try simp only [Act.put, List.setIfInBounds_toArray, List.set_cons_zero, List.set_cons_succ, List.getElem_toArray, List.getElem_cons_zero, List.getElem_cons_succ]
        refine wpAnyH_take (i := 5) (v := ?va5) rfl (by kernel_rfl) (by kernel_rfl) (by kernel_rfl) (fun _ _ _ h => h) (Or.inl ⟨by rfl, ?hya5⟩) (by assumption) ?resta5
        case hya5 =>
          intro w hSw
          try dsimp only at hSw
          go_simp
          try with_reducible rfl
        try simp only [Act.put, List.setIfInBounds_toArray, List.set_cons_zero, List.set_cons_succ, List.getElem_toArray, List.getElem_cons_zero, List.getElem_cons_succ]
        refine wpAnyH_take (i := 6) (v := ?va6) rfl (by kernel_rfl) (by kernel_rfl) (by kernel_rfl) (fun _ _ _ h => h) (Or.inl ⟨by rfl, ?hya6⟩) (by assumption) ?resta6
        case hya6 =>
          intro w hSw
          try dsimp only at hSw
          go_simp
          try with_reducible rfl
        try simp only [Act.put, List.setIfInBounds_toArray, List.set_cons_zero, List.set_cons_succ, List.getElem_toArray, List.getElem_cons_zero, List.getElem_cons_succ]
        refine wpAnyH_take (i := 7) (v := ?va7) rfl (by kernel_rfl) (by kernel_rfl) (by kernel_rfl) (fun _ _ _ h => h) (Or.inl ⟨by rfl, ?hya7⟩) (by assumption) ?resta7
        case hya7 =>
          intro w hSw
          try dsimp only at hSw
          go_simp
          try with_reducible rfl
        try simp only [Act.put, List.setIfInBounds_toArray, List.set_cons_zero, List.set_cons_succ, List.getElem_toArray, List.getElem_cons_zero, List.getElem_cons_succ]
        refine wpAnyH_take (i := 8) (v := ?va8) rfl (by kernel_rfl) (by kernel_rfl) (by kernel_rfl) (fun _ _ _ h => h) (Or.inl ⟨by rfl, ?hya8⟩) (by assumption) ?resta8
        case hya8 =>
          intro w hSw
          try dsimp only at hSw
          go_simp
          try with_reducible rfl
        try simp only [Act.put, List.setIfInBounds_toArray, List.set_cons_zero, List.set_cons_succ, List.getElem_toArray, List.getElem_cons_zero, List.getElem_cons_succ]
        refine wpAnyH_take (i := 9) (v := ?va9) rfl (by kernel_rfl) (by kernel_rfl) (by kernel_rfl) (fun _ _ _ h => h) (Or.inl ⟨by rfl, ?hya9⟩) (by assumption) ?resta9
        case hya9 =>
          intro w hSw
          try dsimp only at hSw
          go_simp
          try with_reducible rfl
        try simp only [Act.put, List.setIfInBounds_toArray, List.set_cons_zero, List.set_cons_succ, List.getElem_toArray, List.getElem_cons_zero, List.getElem_cons_succ]
        refine wpAnyH_take (i := 10) (v := ?va10) rfl (by kernel_rfl) (by kernel_rfl) (by kernel_rfl) (fun _ _ _ h => h) (Or.inl ⟨by rfl, ?hya10⟩) (by assumption) ?resta10
        case hya10 =>
          intro w hSw
          try dsimp only at hSw
          go_simp
          try with_reducible rfl
        try simp only [Act.put, List.setIfInBounds_toArray, List.set_cons_zero, List.set_cons_succ, List.getElem_toArray, List.getElem_cons_zero, List.getElem_cons_succ]
        refine wpAnyH_ready (rs := [11]) (by kernel_rfl) (by simp) ?_
        refine AllReadyH.cons rfl (fun K hK => ?_) AllReadyH.nil
        go_simp
        refine (itcmp_agg u v _).mono ?_
        rintro e w3 ⟨rfl, hb⟩
        rw [← HCV.out]
        have hb3 : Below wr.heap.size wr w3 := (below_drew _ _).trans hb
        have HB3 := Lib.hid hb3
        have HKa := Lib.hid (HFA.out _ hb3)
        clear hb hb3
        go_wp2_with fail
        refine hK.out _ _ ?_ (fun hHeldb0 => ?_)
        · exact HKa.out
        clear hK K
        try simp only [Act.put, List.setIfInBounds_toArray, List.set_cons_zero, List.set_cons_succ, List.getElem_toArray, List.getElem_cons_zero, List.getElem_cons_succ]
        refine wpAnyH_take (i := 12) (v := ?vb12) rfl (by kernel_rfl) (by kernel_rfl) (by kernel_rfl) (fun _ _ _ h => h) (Or.inl ⟨by rfl, ?hyb12⟩) (by assumption) ?restb12
        case hyb12 =>
          intro w hSw
          try dsimp only at hSw
          go_simp
          try with_reducible rfl
        try simp only [Act.put, List.setIfInBounds_toArray, List.set_cons_zero, List.set_cons_succ, List.getElem_toArray, List.getElem_cons_zero, List.getElem_cons_succ]
        refine wpAnyH_take (i := 13) (v := ?vb13) rfl (by kernel_rfl) (by kernel_rfl) (by kernel_rfl) (fun _ _ _ h => h) (Or.inl ⟨by rfl, ?hyb13⟩) (by assumption) ?restb13
        case hyb13 =>
          intro w hSw
          try dsimp only at hSw
          go_simp
          try with_reducible rfl
        try simp only [Act.put, List.setIfInBounds_toArray, List.set_cons_zero, List.set_cons_succ, List.getElem_toArray, List.getElem_cons_zero, List.getElem_cons_succ]
        refine wpAnyH_done (by kernel_rfl) ?_ _
        have HS3 := Lib.hid (HS1.out.kept HB3.out)
        have HB4 := Lib.hid (HB1.out.trans (HB3.out.mono hgw))
        clear HKa HFA HB1 HS1
        by_cases hyx : ltI u v
        · have hcd : decide (cv < 0) = true := by rw [HCD.out]; exact decide_eq_true hyx
          have HL := Lib.hid (ltI_le hyx)
          clear hyx
          simp only [hcd, Bool.not_true]
          go_wp2
          go_roundg (c - s)
          case measure => have := HGK.out; omega
          case rel => exact ⟨s, c, rfl, rfl, rfl, hls, hsc, by omega, HD1.out, .inr ⟨u, v, by rw [HE2.out]; exact HU.out, HV.out, HL.out⟩, HS3.out, HB4.out⟩
        · have hcd : decide (cv < 0) = false := by rw [HCD.out]; exact decide_eq_false hyx
          have HL : Hid (leI v u) := Lib.hid hyx
          clear hyx
          simp only [hcd, Bool.not_false]
          go_wp2
          go_roundg (r - (c + 1))
          case measure => have := HGK.out; omega
          case rel => exact ⟨c + 1, r, rfl, by go_num, rfl, by omega, by omega, hrr, .inr ⟨v, u, HV.out, by rw [HE1.out]; exact HU.out, HL.out⟩, HD2.out, HS3.out, HB4.out⟩
      · have hsr' : s = r := by omega
        subst hsr'
        have hii : decide ((s : Int) < (s : Int)) = false := by simp
        obtain ⟨en, A1, A2, B1, B2, hen, hAA, hBB, hl, hnums, hso, hj⟩ := sym_cut HSA.out HSB.out HME.out HBE.out HNE.out HBO.out hls hrr HD1.out HD2.out
        have hlen : P.length + A1.length + A2.length + B1.length + B2.length + R.length = N := by have := HX2.out; rw [hAA, hBB] at this; simp only [List.length_append] at this; omega
        have hs5 := HS1.out
        rw [hAA, hBB] at hs5
        have HS5 : Hid (Sep B wr (itN g off N cap ((P ++ A1) ++ A2 ++ B1 ++ (B2 ++ R)) :: F)) := Lib.hid (by simpa using hs5)
        have hab : (b : Nat) = a + (A.length + Bs.length) := by rw [HBE.out, HME.out]; omega
        have HT : SymF P A Bs R A1 A2 B1 B2 N a m b s mid n en D := ⟨hlen, hN, HAe.out, hl, hnums, hmida, hmidb, hen, hab, HD.out, hso, hj⟩
        clear hAA hBB hl hnums hso hj hlen hs5 hgk hgi0 hsr hls hrr HS1 HD1 HD2 hen hab
        go_upto_if 151 with fail
        refine wp_cond_split rfl (fun h => ?_) (fun h => ?_)
        · exact absurd h (by simp)
        apply wp_exit
        simp only [Exit.inBlock, Exit.then]
        rw [if_pos trivial]
        refine (by assumption : ∀ a w, Code.wp _ _ _ a w → _) _ _ ?_
        exact sym38 B g off N cap F D HIH HT w0 hB wr HS5 HB1 _ _ _ _ _ _ _ _ _ _ _ _ _ _ _ _ _ _ _ _ _ _ _ _ _ _ _ _ _ _ _ _ _ _ _ _ _ _ _ _ _ _ _ _ _ _ _ _ _ _ _ _ _ _ _ _ _ _ _ _ _ _ _ _ _ _ _ _ _ _ _ _ _ _ _ _ _ _ _ _ _ _ _ _ _ _ _ _ _ _ _ _ _ _ _ _ _ _ _ _ _ _ _ _ _ _ _ _ _ _ _ _ _ _ _ _ _ _ _ _ _ _ _ _ _ _ _ _ _ _ _ _ _ _ _ _ _ _ _ _ _ _ _ _ _ _ _ _ _ _ _ _ _ _ _ _ _ _ _ _ _ _ _ _ _ _ _ _ _ _ _ _ _ _ _ _ _ _ _ _ _ _ _ _ _ _ _ _ _ _ _ _ _ _ _ _ _ _ _ _ _ _ _ _ _ _ _ _ _ _ _ _
/-- Two sorted rows side by side become one. -/
theorem sym_any (B g off N cap : Nat) (F : List Ent) : ∀ D : Nat, SymOk B g off N cap F D
  | 0 => fun P A Bs R a m b w _ _ _ _ _ hD hA _ _ _ _ _ => by omega
  | D + 1 => fun P A Bs R a m b w hX hN ha hm hb hD hA hBs hsA hsB hB hsep => by
    rcases Nat.lt_or_ge A.length 2 with h1 | h1
    · match A, h1, hA with
      | [x], _, _ => exact symL_any B g off N cap P Bs R x a m b F w hX hN ha hm hb hsB hB hsep
      | [], _, h => exact absurd h (by simp)
      | _ :: _ :: _, h, _ => exact absurd h (by simp)
    · rcases Nat.lt_or_ge Bs.length 2 with h2 | h2
      · match Bs, h2, hBs with
        | [x], _, _ => exact symR_any B g off N cap P A R x a m b F w hX hN ha hm hb h1 hsA hB hsep
        | [], _, h => exact absurd h (by simp)
        | _ :: _ :: _, h, _ => exact absurd h (by simp)
      · exact symM_any B g off N cap F D (sym_any B g off N cap F D) P A Bs R a m b w hX hN ha hm hb hD h1 h2 hsA hsB hB hsep
end Go.Proofs.YtpfpaheafpibiaaDoor
