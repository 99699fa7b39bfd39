/- slices.symMergeCmpFunc at rounds.item, where one side is one thing. -/
import Derived.Test.YtpfpaheafpibiaaDoorInsR
namespace Go.Proofs.YtpfpaheafpibiaaDoor
open Go.RowKit
set_option linter.unusedVariables false
set_option linter.unusedSimpArgs false
set_option maxRecDepth 100000

theorem itN_two {B : Nat} {wr : World} {X : List Itm} {F : List Ent} {g off N cap p q : Nat} {u v : Itm} (h : Sep B wr (itN g off N cap X :: F)) (hN : X.length = N) (hp : X[p]? = some u) (hq : X[q]? = some v) :
    ∀ w' : World, Below wr.heap.size wr w' → Below wr.heap.size wr w' ∧ (w'.cell? ⟨g, off + p * 4, none⟩ = some (.int .i64 u.1) ∧ w'.cell? ⟨g, off + p * 4 + 1, none⟩ = some (.int .i64 u.2.1) ∧ w'.cell? ⟨g, off + p * 4 + 2, none⟩ = some (.int .i64 u.2.2.1) ∧ w'.cell? ⟨g, off + p * 4 + 3, none⟩ = some (.int .i64 u.2.2.2)) ∧
      (w'.cell? ⟨g, off + q * 4, none⟩ = some (.int .i64 v.1) ∧ w'.cell? ⟨g, off + q * 4 + 1, none⟩ = some (.int .i64 v.2.1) ∧ w'.cell? ⟨g, off + q * 4 + 2, none⟩ = some (.int .i64 v.2.2.1) ∧ w'.cell? ⟨g, off + q * 4 + 3, none⟩ = some (.int .i64 v.2.2.2)) := fun w' hb =>
  ⟨hb, (itN_at (A := []) (h.kept hb) hN hp).2.1, (itN_at (A := []) (h.kept hb) hN hq).2.1⟩
theorem leI_lt {x y z : Itm} (h : leI x y) (g : ltI y z) : ltI x z := by unfold leI ltI at *; omega
theorem lt_leI {x y z : Itm} (h : ltI x y) (g : leI y z) : ltI x z := by unfold leI ltI at *; omega
theorem ins_le {S1 S2 : List Itm} {z : Itm} (h : Srt (S1 ++ S2)) (h2 : ∀ y ∈ S2, leI z y) (h1 : ∀ y ∈ S1, leI y z) : Srt (S1 ++ z :: S2) := by
  obtain ⟨g1, g2, g3⟩ := Srt.app.1 h
  refine Srt.app.2 ⟨g1, Srt.cons.2 ⟨h2, g2⟩, fun x hx y hy => ?_⟩
  rcases List.mem_cons.1 hy with rfl | hy
  · exact h1 x hx
  · exact g3 x hx y hy
/-- One against a row: how many of the row are before it. -/
theorem bs_less {Bs : List Itm} (hs : Srt Bs) {x y : Itm} {h : Nat} (hy : Bs[h]? = some y) (hl : ltI y x) : ∀ u ∈ Bs.take (h + 1), ltI u x := fun u hu => by
  obtain ⟨i, hi, he⟩ := mem_take_at hu
  exact leI_lt (hs.get he hy (by omega)) hl
theorem bs_more {Bs : List Itm} (hs : Srt Bs) {x y : Itm} {h : Nat} (hy : Bs[h]? = some y) (hl : leI x y) : ∀ u ∈ Bs.drop h, leI x u := fun u hu => by
  obtain ⟨i, hi, he⟩ := mem_drop_at hu
  exact leI_trans hl (hs.get hy he hi)
theorem nb_form2 {P S1 S2 T R : List Itm} {y z : Itm} : ((P ++ (S1 ++ [y]) ++ z :: S2 ++ T ++ R).set (P.length + S1.length) z).set (P.length + S1.length + 1) y = P ++ S1 ++ z :: (y :: S2) ++ T ++ R := by
  rw [List.set_comm _ _ (by omega)]
  exact nb_form.2.2
set_option maxHeartbeats 4000000 in
theorem symL_any (B g off N cap : Nat) (P Bs R : List Itm) (x : Itm) (a m b : Nat) (F : List Ent) (w : World) (hX : (P ++ [x] ++ Bs ++ R).length = N) (hN : N ≤ 1000) (ha : a = P.length) (hm : m = a + 1) (hb : b = m + Bs.length) (hst : Srt Bs) (hB : B ≤ w.heap.size) (hsep : Sep B w (itN g off N cap (P ++ [x] ++ Bs ++ R) :: F)) :
    Calls Tryd.prog 31 #[.slice (some ⟨g, off, none⟩) N cap, .int .i64 a, .int .i64 m, .int .i64 b, cmpV] w fun e w' => e = .returned (.tuple #[]) ∧ (∃ C, C.Perm ([x] ++ Bs) ∧ Srt C ∧ Sep B w' (itN g off N cap (P ++ C ++ R) :: F)) ∧ Below B w w' := by
  have hX2 : P.length + 1 + Bs.length + R.length = N := by rw [← hX]; simp only [List.length_append, List.length_singleton]
  have haN : a ≤ 1000 := by omega
  have hbN : b ≤ 1000 := by omega
  have hmN : m ≤ 1000 := by omega
  have hma : (m : Int) - (a : Int) = 1 := by omega
  have hmb : m ≤ b := by omega
  have HS0 := Lib.hid hsep
  have HAe := Lib.hid ha
  have HME := Lib.hid hm
  have HBE := Lib.hid hb
  have HX := Lib.hid hX
  have HX2 := Lib.hid hX2
  have HST := Lib.hid hst
  clear hsep hX hX2 ha hm hb hst
  go_enter Tryd.func31, Tryd.ntmps31
  go_wp2
  clear hma
  go_loopg [10, 11] (b - m) (fun gk iv jv wr => ∃ i j : Nat, gk = j - i ∧ iv = .int .i64 i ∧ jv = .int .i64 j ∧ m ≤ i ∧ i ≤ j ∧ j ≤ b ∧ (∀ u ∈ Bs.take (i - m), ltI u x) ∧ (∀ u ∈ Bs.drop (j - m), leI x u) ∧ Sep B wr (itN g off N cap (P ++ [x] ++ Bs ++ R) :: F) ∧ Below B w wr)
  case atStart => exact ⟨m, b, rfl, rfl, rfl, Nat.le_refl _, hmb, Nat.le_refl _, by simp, by rw [List.drop_of_length_le (by have := HBE.out; omega)]; simp, HS0.out, Below.refl _ _⟩
  case round =>
    obtain ⟨gi, hgi0⟩ : ∃ gi, gi = gk := ⟨_, rfl⟩
    obtain ⟨i, j, hgk, rfl, rfl, hmi, hij, hjb, ht, hd, hs, hbl⟩ := hrel
    have HT := Lib.hid ht
    have HD := Lib.hid hd
    have HS1 := Lib.hid hs
    have HB1 := Lib.hid hbl
    have hgw : B ≤ wr.heap.size := Nat.le_trans hB hbl.size
    clear ht hd hs hbl HS0
    by_cases hlt : i < j
    · have hii : (i : Int) < (j : Int) := by omega
      obtain ⟨s, hs⟩ : ∃ s, s = i + j := ⟨_, rfl⟩
      obtain ⟨h, hh⟩ : ∃ h, h = s / 2 := ⟨_, rfl⟩
      have hsI : (i : Int) + (j : Int) = (s : Int) := by omega
      have hsN : s ≤ 3000 := by omega
      have hhI : (s : Int) / 2 = (h : Int) := by omega
      have hhi : i ≤ h := by omega
      have hhj : h < j := by omega
      obtain ⟨y, hy⟩ : ∃ y, Bs[h - m]? = some y := ⟨_, List.getElem?_eq_getElem (by have := HBE.out; omega)⟩
      have hxy : (P ++ [x] ++ Bs ++ R)[h]? = some y := by
        have hl : (P ++ [x]).length = m := by rw [List.length_append, HME.out, HAe.out]; rfl
        rw [List.append_assoc, List.getElem?_append_right (by omega), hl, List.getElem?_append_left (by have := (List.getElem?_eq_some_iff.1 hy).1; omega)]
        exact hy
      have hxa : (P ++ [x] ++ Bs ++ R)[a]? = some x := by
        rw [List.append_assoc, List.append_assoc, HAe.out]
        exact at_app P x (Bs ++ R)
      have hhN : h < N := by have := (List.getElem?_eq_some_iff.1 hxy).1; rw [HX.out] at this; exact this
      have haN2 : a < N := by have := (List.getElem?_eq_some_iff.1 hxa).1; rw [HX.out] at this; exact this
      have hhl : (h : Int) < (N : Int) := by omega
      have hal : (a : Int) < (N : Int) := by omega
      have hh0 : (0 : Int) ≤ (h : Int) := by omega
      have ha0 : (0 : Int) ≤ (a : Int) := by omega
      have HFA := Lib.hid (itN_two HS1.out HX.out hxy hxa)
      obtain ⟨cv, hcv⟩ : ∃ cv, cv = cmpT y x := ⟨_, rfl⟩
      have hcd := cmpT_lt y x
      rw [← hcv] at hcd
      have HCV := Lib.hid hcv
      have HCD := Lib.hid hcd
      have HY := Lib.hid hy
      have HGK := Lib.hid hgk
      have HH := Lib.hid hh
      clear hcv hcd hy hxy hxa hgk hgi0 hs hh
      go_upto_region 5 with fail
      refine wp_region_held_drew (S := fun w' => Below wr.heap.size wr w' ∧ (w'.cell? ⟨g, off + h * 4, none⟩ = some (.int .i64 y.1) ∧ w'.cell? ⟨g, off + h * 4 + 1, none⟩ = some (.int .i64 y.2.1) ∧ w'.cell? ⟨g, off + h * 4 + 2, none⟩ = some (.int .i64 y.2.2.1) ∧ w'.cell? ⟨g, off + h * 4 + 3, none⟩ = some (.int .i64 y.2.2.2)) ∧ (w'.cell? ⟨g, off + a * 4, none⟩ = some (.int .i64 x.1) ∧ w'.cell? ⟨g, off + a * 4 + 1, none⟩ = some (.int .i64 x.2.1) ∧ w'.cell? ⟨g, off + a * 4 + 2, none⟩ = some (.int .i64 x.2.2.1) ∧ w'.cell? ⟨g, off + a * 4 + 3, none⟩ = some (.int .i64 x.2.2.2))) (by kernel_rfl) ?hS0 (fun hHeld => ?start0)
      case hS0 => exact HFA.out _ (below_drew _ _)
      refine wpAnyH_take (i := 0) (v := ?va0) rfl (by kernel_rfl) (by kernel_rfl) (by kernel_rfl) (fun _ _ _ h => h) (Or.inl ⟨by rfl, ?hya0⟩) (by assumption) ?resta0
      case hya0 =>
        intro w hSw
        try dsimp only at hSw
        go_simp
        try with_reducible rfl
      try simp only [Act.put, List.setIfInBounds_toArray, List.set_cons_zero, List.set_cons_succ, List.getElem_toArray, List.getElem_cons_zero]
      refine wpAnyH_take (i := 1) (v := ?va1) rfl (by kernel_rfl) (by kernel_rfl) (by kernel_rfl) (fun _ _ _ h => h) (Or.inl ⟨by rfl, ?hya1⟩) (by assumption) ?resta1
      case hya1 =>
        intro w hSw
        try dsimp only at hSw
        go_simp
        try with_reducible rfl
      try simp only [Act.put, List.setIfInBounds_toArray, List.set_cons_zero, List.set_cons_succ, List.getElem_toArray, List.getElem_cons_zero, List.getElem_cons_succ]
      refine wpAnyH_take (i := 2) (v := ?va2) rfl (by kernel_rfl) (by kernel_rfl) (by kernel_rfl) (fun _ _ _ h => h) (Or.inl ⟨by rfl, ?hya2⟩) (by assumption) ?resta2
      case hya2 =>
        intro w hSw
        try dsimp only at hSw
        go_simp
        try with_reducible rfl
      try simp only [Act.put, List.setIfInBounds_toArray, List.set_cons_zero, List.set_cons_succ, List.getElem_toArray, List.getElem_cons_zero, List.getElem_cons_succ]
      refine wpAnyH_take (i := 3) (v := ?va3) rfl (by kernel_rfl) (by kernel_rfl) (by kernel_rfl) (fun _ _ _ h => h) (Or.inl ⟨by rfl, ?hya3⟩) (by assumption) ?resta3
      case hya3 =>
        intro w hSw
        try dsimp only at hSw
        go_simp
        try with_reducible rfl
      try simp only [Act.put, List.setIfInBounds_toArray, List.set_cons_zero, List.set_cons_succ, List.getElem_toArray, List.getElem_cons_zero, List.getElem_cons_succ]
      refine wpAnyH_take (i := 4) (v := ?va4) rfl (by kernel_rfl) (by kernel_rfl) (by kernel_rfl) (fun _ _ _ h => h) (Or.inl ⟨by rfl, ?hya4⟩) (by assumption) ?resta4
      case hya4 =>
        intro w hSw
        try dsimp only at hSw
        go_simp
        try with_reducible rfl
      try simp only [Act.put, List.setIfInBounds_toArray, List.set_cons_zero, List.set_cons_succ, List.getElem_toArray, List.getElem_cons_zero, List.getElem_cons_succ]
      refine wpAnyH_take (i := 5) (v := ?va5) rfl (by kernel_rfl) (by kernel_rfl) (by kernel_rfl) (fun _ _ _ h => h) (Or.inl ⟨by rfl, ?hya5⟩) (by assumption) ?resta5
      case hya5 =>
        intro w hSw
        try dsimp only at hSw
        go_simp
        try with_reducible rfl
      try simp only [Act.put, List.setIfInBounds_toArray, List.set_cons_zero, List.set_cons_succ, List.getElem_toArray, List.getElem_cons_zero, List.getElem_cons_succ]
      refine wpAnyH_take (i := 6) (v := ?va6) rfl (by kernel_rfl) (by kernel_rfl) (by kernel_rfl) (fun _ _ _ h => h) (Or.inl ⟨by rfl, ?hya6⟩) (by assumption) ?resta6
      case hya6 =>
        intro w hSw
        try dsimp only at hSw
        go_simp
        try with_reducible rfl
      try simp only [Act.put, List.setIfInBounds_toArray, List.set_cons_zero, List.set_cons_succ, List.getElem_toArray, List.getElem_cons_zero, List.getElem_cons_succ]
      refine wpAnyH_take (i := 7) (v := ?va7) rfl (by kernel_rfl) (by kernel_rfl) (by kernel_rfl) (fun _ _ _ h => h) (Or.inl ⟨by rfl, ?hya7⟩) (by assumption) ?resta7
      case hya7 =>
        intro w hSw
        try dsimp only at hSw
        go_simp
        try with_reducible rfl
      try simp only [Act.put, List.setIfInBounds_toArray, List.set_cons_zero, List.set_cons_succ, List.getElem_toArray, List.getElem_cons_zero, List.getElem_cons_succ]
      refine wpAnyH_take (i := 8) (v := ?va8) rfl (by kernel_rfl) (by kernel_rfl) (by kernel_rfl) (fun _ _ _ h => h) (Or.inl ⟨by rfl, ?hya8⟩) (by assumption) ?resta8
      case hya8 =>
        intro w hSw
        try dsimp only at hSw
        go_simp
        try with_reducible rfl
      try simp only [Act.put, List.setIfInBounds_toArray, List.set_cons_zero, List.set_cons_succ, List.getElem_toArray, List.getElem_cons_zero, List.getElem_cons_succ]
      refine wpAnyH_ready (rs := [9]) (by kernel_rfl) (by simp) ?_
      refine AllReadyH.cons rfl (fun K hK => ?_) AllReadyH.nil
      go_simp
      refine (itcmp_agg y x _).mono ?_
      rintro e w3 ⟨rfl, hb⟩
      rw [← HCV.out]
      have hb3 : Below wr.heap.size wr w3 := (below_drew _ _).trans hb
      have HB3 := Lib.hid hb3
      have HKa := Lib.hid (HFA.out _ hb3)
      clear hb hb3
      go_wp2_with fail
      refine hK.out _ _ ?_ (fun hHeldb0 => ?_)
      · exact HKa.out
      clear hK K
      try simp only [Act.put, List.setIfInBounds_toArray, List.set_cons_zero, List.set_cons_succ, List.getElem_toArray, List.getElem_cons_zero, List.getElem_cons_succ]
      refine wpAnyH_take (i := 10) (v := ?vb10) rfl (by kernel_rfl) (by kernel_rfl) (by kernel_rfl) (fun _ _ _ h => h) (Or.inl ⟨by rfl, ?hyb10⟩) (by assumption) ?restb10
      case hyb10 =>
        intro w hSw
        try dsimp only at hSw
        go_simp
        try with_reducible rfl
      try simp only [Act.put, List.setIfInBounds_toArray, List.set_cons_zero, List.set_cons_succ, List.getElem_toArray, List.getElem_cons_zero, List.getElem_cons_succ]
      refine wpAnyH_done (by kernel_rfl) ?_ _
      have HS3 := Lib.hid (HS1.out.kept HB3.out)
      have HB4 := Lib.hid (HB1.out.trans (HB3.out.mono hgw))
      clear HKa HFA HB1 HS1
      by_cases hyx : ltI y x
      · have hcd : decide (cv < 0) = true := by rw [HCD.out]; exact decide_eq_true hyx
        have hcn : cv < 0 := by simpa using hcd
        have HT2 := Lib.hid (bs_less HST.out HY.out hyx)
        have HE : Hid (h + 1 - m = h - m + 1) := Lib.hid (by omega)
        clear hyx
        go_wp2
        go_roundg (j - (h + 1))
        case measure => have := HGK.out; omega
        case rel => exact ⟨h + 1, j, rfl, by go_num, rfl, by omega, by omega, hjb, by rw [HE.out]; exact HT2.out, HD.out, HS3.out, HB4.out⟩
      · have hcd : decide (cv < 0) = false := by rw [HCD.out]; exact decide_eq_false hyx
        have hcn : ¬ cv < 0 := by simpa using hcd
        have HD2 := Lib.hid (bs_more HST.out HY.out hyx)
        clear hyx
        go_wp2
        go_roundg (h - i)
        case measure => have := HGK.out; omega
        case rel => exact ⟨i, h, rfl, rfl, rfl, hmi, hhi, by omega, HT.out, HD2.out, HS3.out, HB4.out⟩
    · have hij' : i = j := by omega
      subst hij'
      have hii : decide ((i : Int) < (i : Int)) = false := by simp
      obtain ⟨B1, hB1⟩ : ∃ B1, B1 = Bs.take (i - m) := ⟨_, rfl⟩
      obtain ⟨B2, hB2⟩ : ∃ B2, B2 = Bs.drop (i - m) := ⟨_, rfl⟩
      have hBB : Bs = B1 ++ B2 := by rw [hB1, hB2, List.take_append_drop]
      have hl1 : B1.length = i - m := by rw [hB1, List.length_take]; have := HBE.out; omega
      have hs5 := HS1.out
      rw [hBB] at hs5
      obtain ⟨t, ht⟩ : ∃ t, t = i - 1 := ⟨_, rfl⟩
      have htI : (i : Int) - 1 = (t : Int) := by have := HME.out; omega
      have htN : t ≤ 1000 := by omega
      have htl : t = a + B1.length := by rw [hl1, ht]; have := HME.out; omega
      have hso : Srt (B1 ++ x :: B2) := ins_le (by rw [← hBB]; exact HST.out) (fun u hu => HD.out u (by rw [← hB2]; exact hu)) (fun u hu => ltI_le (HT.out u (by rw [← hB1]; exact hu)))
      have HSO := Lib.hid hso
      have HBB := Lib.hid hBB
      have HTL := Lib.hid htl
      have HS5 : Hid (Sep B wr (itN g off N cap (P ++ [] ++ x :: B1 ++ B2 ++ R) :: F)) := Lib.hid (by simpa using hs5)
      clear hso hBB htl hs5 hl1 hB1 hB2 ht hgk hgi0 HS1 HT HD hij
      go_wp2
      clear hii
      go_loopg [13] B1.length (fun gk kv wr => ∃ (k : Nat) (Ba Bb : List Itm), gk = Bb.length ∧ kv = .int .i64 k ∧ k = a + Ba.length ∧ Ba ++ Bb = B1 ∧ Sep B wr (itN g off N cap (P ++ Ba ++ x :: Bb ++ B2 ++ R) :: F) ∧ Below B w wr)
      case atStart => exact ⟨a, [], B1, rfl, rfl, rfl, rfl, HS5.out, HB1.out⟩
      case round =>
        obtain ⟨gj, hgj0⟩ : ∃ gj, gj = gk := ⟨_, rfl⟩
        obtain ⟨k, Ba, Bb, hgk, rfl, hk, hab, hs, hbl⟩ := hrel
        have HS6 := Lib.hid hs
        have HB6 := Lib.hid hbl
        have hablen := congrArg List.length hab
        rw [List.length_append] at hablen
        have HAB := Lib.hid hab
        clear hs hbl hab HS5 HB1
        have htl := HTL.out
        cases Bb with
        | nil =>
          simp only [List.length_nil] at hablen
          have hkt : decide ((k : Int) < (t : Int)) = false := decide_eq_false (by omega)
          have hktN : decide (k < t) = false := decide_eq_false (by omega)
          have hs9 : Sep B wr (itN g off N cap (P ++ (B1 ++ x :: B2) ++ R) :: F) := by
            have h1 := HS6.out
            have h2 := HAB.out
            rw [List.append_nil] at h2
            rw [h2] at h1
            simpa using h1
          have hpe : (B1 ++ x :: B2).Perm ([x] ++ Bs) := by rw [HBB.out]; exact List.perm_middle
          have HS9 := Lib.hid hs9
          have HPE := Lib.hid hpe
          clear hs9 hpe hablen htl hk hgk hgj0
          go_wp2
          try simp only [Exit.inBlock, Exit.then]
          refine bodyPost_ret (results_none rfl _ _ _) rfl ?_
          exact ⟨rfl, ⟨_, HPE.out, HSO.out, HS9.out⟩, HB6.out⟩
        | cons y Bb =>
          simp only [List.length_cons] at hablen hgk
          have hkt : (k : Int) < (t : Int) := by omega
          obtain ⟨g1, g2, -⟩ := nb_form (P := P) (S1 := Ba) (S2 := Bb) (T := B2) (R := R) (y := x) (z := y)
          have g3 := nb_form2 (P := P) (S1 := Ba) (S2 := Bb) (T := B2) (R := R) (y := x) (z := y)
          have hs6 : Sep B wr (itN g off N cap (P ++ (Ba ++ [x]) ++ y :: Bb ++ B2 ++ R) :: F) := by have := HS6.out; simpa using this
          have hlen : (P ++ (Ba ++ [x]) ++ y :: Bb ++ B2 ++ R).length = N := by
            rw [← HX.out, HBB.out, ← HAB.out]
            simp only [List.length_append, List.length_cons, List.length_nil]; omega
          have hkp : k = P.length + Ba.length := by rw [hk, HAe.out]
          rw [← hkp] at g1 g2 g3
          obtain ⟨q, hq⟩ : ∃ q, q = k + 1 := ⟨_, rfl⟩
          rw [← hq] at g2 g3
          have hkN : k < N := by have := (List.getElem?_eq_some_iff.1 g1).1; omega
          have hqN : q < N := by have := (List.getElem?_eq_some_iff.1 g2).1; omega
          have hne : k ≠ q := by omega
          have hqI : (k : Int) + 1 = (q : Int) := by omega
          have hkl : (k : Int) < (N : Int) := by omega
          have hql : (q : Int) < (N : Int) := by omega
          have hk0 : (0 : Int) ≤ (k : Int) := by omega
          have hq0 : (0 : Int) ≤ (q : Int) := by omega
          have hqw : IntKind.i64.wrap (q : Int) = (q : Int) := by simp [IntKind.wrap, IntKind.bits, IntKind.signed]; omega
          obtain ⟨hBg, ⟨c0, c1, c2, c3⟩, hf⟩ := itN_at (A := []) hs6 hlen g1
          obtain ⟨-, ⟨d0, d1, d2, d3⟩, -⟩ := itN_at (A := []) hs6 hlen g2
          have s1 := itN_put (A := []) hs6 hlen hkN y
          have s2 := itN_put (A := []) s1 (by rw [List.length_set]; exact hlen) hqN x
          obtain ⟨-, ⟨e0, e1, e2, e3⟩, ef⟩ := itN_at (A := []) s1 (by rw [List.length_set]; exact hlen) (show ((P ++ (Ba ++ [x]) ++ y :: Bb ++ B2 ++ R).set k y)[q]? = some y by rw [List.getElem?_set_ne hne]; exact g2)
          rw [g3] at s2
          have b2 := put_below (put_below HB6.out hBg y (o := off + k * 4)) hBg x (o := off + q * 4)
          unfold putIt at s2 b2 e0 e1 e2 e3 ef
          have s3 := s2.drew
          rw [show P ++ Ba ++ y :: (x :: Bb) ++ B2 ++ R = P ++ (Ba ++ [y]) ++ x :: Bb ++ B2 ++ R by simp] at s3
          have HS7 := Lib.hid s3
          have HB7 := Lib.hid b2.drew
          have hab2 : (Ba ++ [y]) ++ Bb = B1 := by rw [← HAB.out]; simp
          have HAB2 := Lib.hid hab2
          have HQK : Hid (q = a + (Ba ++ [y]).length) := Lib.hid (by rw [hq, hk, List.length_append]; rfl)
          have HGK := Lib.hid hgk
          clear s1 s2 s3 b2 hab2 hq hk hkp hlen g1 g2 g3 hs6 hne HS6 HB6 hgk hgj0 hablen htl
          go_wp2_with fail
          go_region
          all_goals
            go_wp2
            go_roundg Bb.length
            case measure => have := HGK.out; omega
            case rel => exact ⟨q, Ba ++ [y], Bb, rfl, by go_num, HQK.out, HAB2.out, HS7.out, HB7.out⟩
end Go.Proofs.YtpfpaheafpibiaaDoor
