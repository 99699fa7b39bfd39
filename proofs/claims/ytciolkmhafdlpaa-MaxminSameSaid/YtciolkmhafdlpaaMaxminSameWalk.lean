/- MaxminSame returns true: who goes the same way has as much; the order of the ways is no matter. -/
import Derived.Test.YtciolkmhafdlpaaMaxFact
import Derived.Test.YtciolkmhafdlpaaRws
import Derived.Test.YtciolkmhafdlpaaTurned
import Derived.Test.YtciolkmhafdlpaaRising
import Derived.Test.YtciolkmhafdlpaaIn3
import Derived.Deep.LoopGhost
import Derived.Deep.RegionWith
import Derived.Deep.RegionHeld3
namespace Go.Proofs.Ytciolkmhafdlpaa
open Go.RowKit
set_option linter.unusedVariables false

theorem arr_reverse {α : Type} (f : Nat → α) (n : Nat) : (arr f n).reverse = arr (fun i => f (n - 1 - i)) n := by
  refine List.ext_getElem? fun i => ?_
  rcases Nat.lt_or_ge i n with h | h
  · rw [List.getElem?_reverse (by rw [arr_len]; exact h), arr_len, arr_get (by omega), arr_get h]
  · rw [List.getElem?_eq_none (by rw [List.length_reverse, arr_len]; exact h), List.getElem?_eq_none (by rw [arr_len]; exact h)]
theorem rows_reverse (rs : List Stp) : rowsOf rs.reverse = (rowsOf rs).reverse := by simp [rowsOf]
theorem MmOk.reverse {room : List Int} {ways : List (List Int)} (h : MmOk room ways) : MmOk room ways.reverse :=
  ⟨h.links, by rw [List.length_reverse]; exact h.few, h.rooms, fun w hw => h.each w (List.mem_reverse.1 hw)⟩
theorem mmOut_reverse (room : List Int) (ways : List (List Int)) : (mmOut room ways.reverse).reverse = mmOut room ways := by
  unfold mmOut
  rw [arr_reverse, List.length_reverse]
  refine arr_congr fun i hi => ?_
  congr 1
  rw [mmShare_rev (W := wayOf ways) (fun j hj => by
    unfold wayOf
    rw [List.getD_eq_getElem?_getD, List.getD_eq_getElem?_getD, List.getElem?_reverse hj]) (by omega)]
  congr 1; omega
theorem way_short {m : Nat} {w : List Int} (hm : m ≤ 6) (h : ∀ x ∈ w, 0 ≤ x ∧ x ≤ (m : Int) - 1) (hn : w.Nodup) : w.length ≤ 1000 := by
  have := nodup_len m (w.map Int.toNat) (toNat_nodup h hn) (fun x hx => by
    obtain ⟨z, hz, rfl⟩ := List.mem_map.1 hx
    have := h z hz; omega)
  rw [List.length_map] at this; omega

set_option maxHeartbeats 4000000 in
set_option maxRecDepth 100000 in
theorem maxminSame_walk (ro : Option Addr) (rc : Nat) (room : List Int) (ao : Option Addr) (ac : Nat) (rs : List Stp) (a b : Int) (w : World) (hM : IntSl w.heap.size w ro room) (hrc : room.length ≤ rc) (hrx : rc ≤ maxLen) (_ : ∀ x ∈ room, -9223372036854775808 ≤ x ∧ x ≤ 9223372036854775807)
    (hA : RowSl w.heap.size w ao 1 (rs.map stpC)) (hac : rs.length ≤ ac) (hmax : ac ≤ maxLen) (hr : StpsOk w.heap.size w rs) (_ : -9223372036854775808 ≤ a ∧ a ≤ 9223372036854775807) (_ : -9223372036854775808 ≤ b ∧ b ≤ 9223372036854775807) :
    Calls Try.prog 5 #[.slice ro room.length rc, .slice ao rs.length ac, .int .i64 a, .int .i64 b] w fun e w' => e = .returned (.bool true) ∧ Below w.heap.size w w' := by
  unfold maxLen at hmax hrx
  have HM := Lib.hid hM; clear hM
  have HA := Lib.hid hA; clear hA
  have HR := Lib.hid hr; clear hr
  obtain ⟨c, hc⟩ : ∃ c, c = mmCode room (rowsOf rs) := ⟨_, rfl⟩
  by_cases hc0 : c = 0
  · have hok := mmCode_zero.1 (hc.symm.trans hc0)
    clear hc hc0
    have hm6 := hok.links
    have hn5 : rs.length ≤ 5 := by rw [← rowsOf_len]; exact hok.few
    obtain ⟨n, hn⟩ : ∃ n, n = rs.length := ⟨_, rfl⟩
    obtain ⟨ls, hls⟩ : ∃ ls, ls = mmOut room (rowsOf rs) := ⟨_, rfl⟩
    have hll : ls.length = n := by rw [hls, mmOut, arr_len, rowsOf_len, hn]
    have HLS := Lib.hid hls; clear hls
    have HOK := Lib.hid hok; clear hok
    rw [← hn] at hn5 hac ⊢
    have HN := Lib.hid hn; clear hn
    go_enter Try.func5, Try.ntmps5
    go_wp2_with fail
    refine (mmFact_any _).mono ?_
    rintro e w1 ⟨rfl, hb⟩
    have HB := Lib.hid hb; clear hb
    go_wp2_with fail
    refine (mmShare_ok _ _ _ room _ _ _ _ rs _ (HM.out.below HB.out) rfl (HA.out.below HB.out) (HR.out.below HB.out) HN.out HB.out.size HOK.out).mono ?_
    rintro e w2 ⟨va, rfl, hs, hb⟩
    rw [← HLS.out] at hs
    have HB2 := Lib.hid (HB.out.trans (hb.mono HB.out.size)); clear hb
    obtain ⟨ao1, c1, rfl, hc1, _⟩ := hs.intsShape (A := []) (C := [])
    have hX := hs.intSl (A := []) (C := [])
    rw [hll] at hc1 ⊢
    have HX := Lib.hid hX
    have HLL := Lib.hid hll
    clear hX hs hll
    have hnn : ((n : Int) != (n : Int)) = false := by simp
    obtain ⟨g, hg⟩ : ∃ g, g = w2.heap.size := ⟨_, rfl⟩
    have hwg : w.heap.size ≤ g := by rw [hg]; exact HB2.out.size
    have HG := Lib.hid hg; clear hg
    have HA2 := Lib.hid (HA.out.below HB2.out)
    go_wp2
    go_loopg [12, 13] n (fun gk v i wr => ∃ (m : Nat) (vv : Value), gk + m = n ∧ vv = v ∧ i = .int .i64 ((gk : Int) - 1) ∧ Sep g wr [Ent.row vv m 1 22 ((rs.drop gk).reverse.map stpV)] ∧ Below g w2 wr)
    case atStart => exact ⟨0, _, by omega, rfl, by first | rfl | go_num, by rw [HN.out, List.drop_length]; exact (Sep.nil g w2).rowNil 1 _, Below.refl g w2⟩
    case round =>
      obtain ⟨gi, rfl⟩ : ∃ gi, gi = gk := ⟨_, rfl⟩
      obtain ⟨m, v, hgm, rfl, rfl, hsep, hbel⟩ := hrel
      have HS := Lib.hid hsep; clear hsep
      have HBE := Lib.hid hbel; clear hbel
      have hgr : g ≤ wr.heap.size := by rw [HG.out]; exact HBE.out.size
      rcases Nat.eq_zero_or_pos gi with h0 | h0
      · subst h0
        obtain rfl : m = n := by omega
        have hs0 := HS.out
        rw [List.drop_zero] at hs0
        obtain ⟨av, cv, rfl, hcv⟩ : ∃ av cv, v = .slice av m cv ∧ m ≤ cv := by
          obtain ⟨_, a, c, h1, h2, _⟩ := Sep.rowShape (A := []) hs0
          exact ⟨a, c, h1, h2⟩
        have hR := Sep.rowRows (A := []) hs0 (by rw [List.length_reverse, HN.out])
        have hbw : Below w.heap.size w wr := HB2.out.trans (HBE.out.mono hwg)
        have hS : StpsOk wr.heap.size wr rs.reverse := fun r hr => by
          have := (HR.out.below hbw) r (List.mem_reverse.1 hr)
          exact ⟨this.1.mono hbw.size, this.2⟩
        have HRW := Lib.hid hR
        have HSW := Lib.hid hS
        have HBW := Lib.hid hbw
        clear hR hS hbw hs0 HS
        have hokr := HOK.out.reverse
        rw [← rows_reverse] at hokr
        have HOKR := Lib.hid hokr; clear hokr
        have HX4 := Lib.hid (HX.out.below (by rw [← HG.out]; exact HBE.out))
        go_wp2_with fail
        refine (mmShare_ok _ _ _ room _ _ _ wr.heap.size rs.reverse _ ((HM.out.below HBW.out).mono HBW.out.size) rfl HRW.out HSW.out (by rw [List.length_reverse, HN.out]) (Nat.le_refl _) HOKR.out).mono ?_
        rintro e w5 ⟨vm, rfl, hs5, hb5⟩
        obtain ⟨am, cm, rfl, hcm, _⟩ := hs5.intsShape (A := []) (C := [])
        have hq := hs5.intSl (A := []) (C := [])
        rw [rows_reverse] at hq
        obtain ⟨ms, hms⟩ : ∃ ms, ms = mmOut room (rowsOf rs).reverse := ⟨_, rfl⟩
        have hml : ms.length = m := by rw [hms, mmOut, arr_len, List.length_reverse, rowsOf_len, HN.out]
        have hmr : ms.reverse = ls := by rw [hms, mmOut_reverse, HLS.out]
        rw [rows_reverse, ← hms, hml] at hcm ⊢
        rw [← hms] at hq
        have HQ := Lib.hid hq
        have HML := Lib.hid hml
        have HMR := Lib.hid hmr
        have hg5 : g ≤ w5.heap.size := Nat.le_trans hgr hb5.size
        have HB5 := Lib.hid (HBW.out.trans (hb5.mono HBW.out.size))
        have HX5 := Lib.hid (HX4.out.below (hb5.mono (by rw [← HG.out]; exact hgr)))
        clear hq hml hmr hb5 hs5 hms
        go_wp2_with fail
        refine (turned_any _ _ _ _ ms _ HQ.out HML.out.symm (Nat.le_refl _) (by rw [HML.out]; omega)).mono ?_
        rintro e w6 ⟨vt, rfl, hs6, hb6⟩
        rw [HMR.out] at hs6
        obtain ⟨ax, cx, rfl, hcx, _⟩ := hs6.intsShape (A := []) (C := [])
        have hq := hs6.intSl (A := []) (C := [])
        rw [HLL.out] at hcx ⊢
        have HQ6 := Lib.hid hq
        have HB6 := Lib.hid (HB5.out.trans (hb6.mono HB5.out.size))
        have hg6 : g ≤ w6.heap.size := Nat.le_trans hg5 hb6.size
        have HX6 := Lib.hid (HX5.out.below (hb6.mono (by rw [← HG.out]; exact hg5)))
        clear hq hb6 hs6
        go_wp2_with fail
        refine (ints_any _ _ _ _ _ _ _ _ ls ls true _ HQ6.out HX6.out HLL.out.symm HLL.out.symm (by rw [HLL.out]; omega) (by simp)).mono ?_
        rintro e w7 ⟨rfl, hd⟩
        have HB7 := Lib.hid (HB6.out.trans ((below_of_drew hd).mono HB6.out.size))
        have HX7 := Lib.hid (HX6.out.below ((below_of_drew hd).mono (by rw [← HG.out]; exact hg6)))
        have hg7 : w2.heap.size ≤ w7.heap.size := by rw [← HG.out]; exact Nat.le_trans hg6 (below_of_drew hd).size
        clear hd
        by_cases ha : 0 ≤ a ∧ a ≤ (m : Int) - 1
        · by_cases hb : 0 ≤ b ∧ b ≤ (m : Int) - 1
          · obtain ⟨A, rfl⟩ := Int.eq_ofNat_of_zero_le ha.1
            obtain ⟨B, rfl⟩ := Int.eq_ofNat_of_zero_le hb.1
            have hAm : A < m := by omega
            have hBm : B < m := by omega
            go_wp2_with fail
            refine (in3_yes (A : Int) 0 ((m : Int) - 1) _ ha.1 ha.2).mono ?_
            rintro e w' ⟨rfl, rfl⟩
            go_wp2_with fail
            refine (in3_yes (B : Int) 0 ((m : Int) - 1) _ hb.1 hb.2).mono ?_
            rintro e w' ⟨rfl, rfl⟩
            obtain ⟨⟨ra, ca, xa⟩, hra⟩ : ∃ r, rs[A]? = some r := ⟨_, List.getElem?_eq_getElem (by rw [← HN.out]; exact hAm)⟩
            obtain ⟨⟨rb, cb, xb⟩, hrb⟩ : ∃ r, rs[B]? = some r := ⟨_, List.getElem?_eq_getElem (by rw [← HN.out]; exact hBm)⟩
            have hxa : xa.length ≤ 1000 := by
              have := HOK.out.each xa (List.mem_iff_getElem?.2 ⟨A, rowsOf_get hra⟩)
              exact way_short hm6 this.2.1 this.2.2
            have hxb : xb.length ≤ 1000 := by
              have := HOK.out.each xb (List.mem_iff_getElem?.2 ⟨B, rowsOf_get hrb⟩)
              exact way_short hm6 this.2.1 this.2.2
            obtain ⟨hia, hla1, hla2⟩ := (HR.out.below HB7.out) _ (List.mem_iff_getElem?.2 ⟨A, hra⟩)
            obtain ⟨hib, hlb1, hlb2⟩ := (HR.out.below HB7.out) _ (List.mem_iff_getElem?.2 ⟨B, hrb⟩)
            simp only at hia hla1 hla2 hib hlb1 hlb2
            obtain ⟨la, hla⟩ : ∃ x, ls[A]? = some x := ⟨_, List.getElem?_eq_getElem (by rw [HLL.out]; exact hAm)⟩
            obtain ⟨lb, hlb⟩ : ∃ x, ls[B]? = some x := ⟨_, List.getElem?_eq_getElem (by rw [HLL.out]; exact hBm)⟩
            obtain ⟨bb, off, rfl, hbb, ca0⟩ := rows_at (HA.out.below HB7.out) hra
            obtain ⟨bb2, off2, he, _, cb0⟩ := rows_at (HA.out.below HB7.out) hrb
            simp only [Option.some.injEq, Addr.mk.injEq, and_true] at he
            obtain ⟨rfl, rfl⟩ := he
            obtain ⟨bl, ol, rfl, hbl, cla⟩ := HX7.out A la hla
            obtain ⟨bl2, ol2, he, _, clb⟩ := HX7.out B lb hlb
            simp only [Option.some.injEq, Addr.mk.injEq, and_true] at he
            obtain ⟨rfl, rfl⟩ := he
            simp only at ca0 cb0
            have hz1 := HB7.out.size
            have hz2 := hg7
            have hstat : ∀ W, Below w7.heap.size w7 W → W.cell? ⟨bb, off + A, none⟩ = some (.slice ra xa.length ca) ∧ W.cell? ⟨bb, off + B, none⟩ = some (.slice rb xb.length cb) ∧ W.cell? ⟨bl, ol + A, none⟩ = some (.int .i64 la) ∧ W.cell? ⟨bl, ol + B, none⟩ = some (.int .i64 lb) := fun W hW =>
              ⟨(hW.cell (p := ⟨bb, off + A, none⟩) (Nat.lt_of_lt_of_le hbb hz1)).trans ca0, (hW.cell (p := ⟨bb, off + B, none⟩) (Nat.lt_of_lt_of_le hbb hz1)).trans cb0,
                (hW.cell (p := ⟨bl, ol + A, none⟩) (Nat.lt_of_lt_of_le hbl hz2)).trans cla, (hW.cell (p := ⟨bl, ol + B, none⟩) (Nat.lt_of_lt_of_le hbl hz2)).trans clb⟩
            have HSTAT := Lib.hid hstat; clear hstat
            have hsame : rise xa = rise xb → la = lb := fun h => by
              have hp : xa.Perm xb := (rise_perm xa).symm.trans (h ▸ rise_perm xb)
              rw [HLS.out] at hla hlb
              unfold mmOut at hla hlb
              rw [arr_get (by rw [rowsOf_len, ← HN.out]; exact hAm)] at hla
              rw [arr_get (by rw [rowsOf_len, ← HN.out]; exact hBm)] at hlb
              simp only [Option.some.injEq] at hla hlb
              rw [← hla, ← hlb]
              congr 1
              refine mmShare_same fun x => ?_
              rw [wayOf_get (rowsOf_get hra), wayOf_get (rowsOf_get hrb)]
              exact (hp.map Int.toNat).mem_iff
            have hca : ∀ (r : Option Addr) (c : Nat) (x : List Int), IntSl w.heap.size w7 r x → x.length ≤ 1000 → ∀ W, Below w7.heap.size w7 W → Calls Try.prog 18 #[.slice r x.length c] W fun e W' => ∃ vo vc, e = .returned (.slice vo (rise x).length vc) ∧ IntSl W'.heap.size W' vo (rise x) ∧ Below W.heap.size W W' ∧ Below w7.heap.size w7 W' := fun r c x hi hx W hW => by
              refine (rising_any r _ c _ x W (hi.below (hW.mono hz1)) rfl (Nat.le_trans hz1 hW.size) hx).mono ?_
              rintro e W' ⟨v, ys, rfl, hs, hb, hp, hy⟩
              obtain ⟨vo, vc, rfl, _, _⟩ := hs.intsShape (A := []) (C := [])
              subst hy
              exact ⟨vo, vc, rfl, hs.intSl (A := []) (C := []), hb, hW.trans (hb.mono hW.size)⟩
            have HCA := Lib.hid (hca ra ca xa hia hxa)
            have HCB := Lib.hid (hca rb cb xb hib hxb)
            have hya : (rise xa).length ≤ 1000 := by rw [(rise_perm xa).length_eq]; exact hxa
            have hyb : (rise xb).length ≤ 1000 := by rw [(rise_perm xb).length_eq]; exact hxb
            obtain ⟨ya, hyae⟩ : ∃ y, y = rise xa := ⟨_, rfl⟩
            obtain ⟨yb, hybe⟩ : ∃ y, y = rise xb := ⟨_, rfl⟩
            rw [← hyae, ← hybe] at hsame
            rw [← hyae] at HCA hya
            rw [← hybe] at HCB hyb
            clear hyae hybe hca hia hib hra hrb hla hlb hbb hbl cla clb ca0 cb0 hz1 hz2 hxa hxb
            obtain ⟨d1, d2, d3, d4⟩ := HSTAT.out _ (Below.refl _ _)
            by_cases hyy : ya = yb
            · obtain rfl := hsame hyy
              have HYY := Lib.hid (show true = decide (ya = yb) by simp [hyy])
              have hll : (la == la) = true := by simp
              clear hsame hyy
              go_wp2_with fail
              first
              | go_region_held3 (fun w' => Below w7.heap.size w7 w' ∧ w'.cell? ⟨bb, off + A, none⟩ = some (.slice ra xa.length ca) ∧ w'.cell? ⟨bb, off + B, none⟩ = some (.slice rb xb.length cb) ∧ w'.cell? ⟨bl, ol + A, none⟩ = some (.int .i64 la) ∧ w'.cell? ⟨bl, ol + B, none⟩ = some (.int .i64 la)) (first | exact HKI.out | exact HKA.out | exact HKB.out | exact ⟨below_drew _ _, HSTAT.out _ (below_drew _ _)⟩) (first
                | (go_at_call_of 18 xa; refine (HCA.out _ ?_).mono ?_; (first | exact HKB.out.1 | exact below_drew _ _); rintro e wA ⟨voa, vca, rfl, hia, hpa, hba⟩; have HKA := Lib.hid (And.intro hba (HSTAT.out _ hba)); have HIA := Lib.hid hia; have HPA := Lib.hid hpa; clear hia hpa hba)
                | (go_at_call_of 18 xb; refine (HCB.out _ ?_).mono ?_; (first | exact HKA.out.1 | exact below_drew _ _); rintro e wB ⟨vob, vcb, rfl, hib, hpb, hbb⟩; have HKB := Lib.hid (And.intro hbb (HSTAT.out _ hbb)); have HIB := Lib.hid hib; have HPB := Lib.hid hpb; clear hib hpb hbb)
                | (go_at_call 15; (first | have qa := HIA.out.below HPB.out | have qa := HIA.out); (first | have qb := HIB.out.below HPA.out | have qb := HIB.out); refine (ints_any _ _ _ _ _ _ _ _ ya yb true _ qa qb rfl rfl ?_ ?_).mono ?_; omega; exact HYY.out; clear qa qb; rintro e wI ⟨rfl, hd⟩; (first | have hbi := HKA.out.1.trans ((below_of_drew hd).mono HKA.out.1.size) | have hbi := HKB.out.1.trans ((below_of_drew hd).mono HKB.out.1.size)); have HKI := Lib.hid (And.intro hbi (HSTAT.out _ hbi)); clear hd hbi))
              | fail
              all_goals
                go_wp2
                go_ret
                exact ⟨rfl, HB7.out.trans (HKI.out.1.mono HB7.out.size)⟩
            · have HYY := Lib.hid (show false = decide (ya = yb) by simp [hyy])
              clear hsame hyy
              go_wp2_with fail
              refine wp_region_held_drew (S := fun w' => Below w7.heap.size w7 w' ∧ w'.cell? ⟨bb, off + A, none⟩ = some (.slice ra xa.length ca) ∧ w'.cell? ⟨bb, off + B, none⟩ = some (.slice rb xb.length cb) ∧ w'.cell? ⟨bl, ol + A, none⟩ = some (.int .i64 la) ∧ w'.cell? ⟨bl, ol + B, none⟩ = some (.int .i64 lb)) (by kernel_rfl) ?hS0 (fun hHeld => ?start0)
              case hS0 => exact ⟨below_drew _ _, HSTAT.out _ (below_drew _ _)⟩
              refine wpAnyH_take (i := 0) (v := ?v0) rfl (by kernel_rfl) (by kernel_rfl) (by kernel_rfl) (fun _ _ _ h => h) (Or.inl ⟨by rfl, ?hy0⟩) (by assumption) ?rest0
              case hy0 =>
                intro w hSw
                try dsimp only at hSw
                go_simp
                try with_reducible rfl
              try simp only [Act.put, List.setIfInBounds_toArray, List.set_cons_zero, List.set_cons_succ, List.getElem_toArray, List.getElem_cons_zero]
              refine wpAnyH_take (i := 1) (v := ?v1) rfl (by kernel_rfl) (by kernel_rfl) (by kernel_rfl) (fun _ _ _ h => h) (Or.inl ⟨by rfl, ?hy1⟩) (by assumption) ?rest1
              case hy1 =>
                intro w hSw
                try dsimp only at hSw
                go_simp
                try with_reducible rfl
              try simp only [Act.put, List.setIfInBounds_toArray, List.set_cons_zero, List.set_cons_succ, List.getElem_toArray, List.getElem_cons_zero, List.getElem_cons_succ]
              refine wpAnyH_take (i := 2) (v := ?v2) rfl (by kernel_rfl) (by kernel_rfl) (by kernel_rfl) (fun _ _ _ h => h) (Or.inl ⟨by rfl, ?hy2⟩) (by assumption) ?rest2
              case hy2 =>
                intro w hSw
                try dsimp only at hSw
                go_simp
                try with_reducible rfl
              try simp only [Act.put, List.setIfInBounds_toArray, List.set_cons_zero, List.set_cons_succ, List.getElem_toArray, List.getElem_cons_zero, List.getElem_cons_succ]
              refine wpAnyH_take (i := 3) (v := ?v3) rfl (by kernel_rfl) (by kernel_rfl) (by kernel_rfl) (fun _ _ _ h => h) (Or.inl ⟨by rfl, ?hy3⟩) (by assumption) ?rest3
              case hy3 =>
                intro w hSw
                try dsimp only at hSw
                go_simp
                try with_reducible rfl
              try simp only [Act.put, List.setIfInBounds_toArray, List.set_cons_zero, List.set_cons_succ, List.getElem_toArray, List.getElem_cons_zero, List.getElem_cons_succ]
              refine wpAnyH_take (i := 5) (v := ?v5) rfl (by kernel_rfl) (by kernel_rfl) (by kernel_rfl) (fun _ _ _ h => h) (Or.inl ⟨by rfl, ?hy5⟩) (by assumption) ?rest5
              case hy5 =>
                intro w hSw
                try dsimp only at hSw
                go_simp
                try with_reducible rfl
              try simp only [Act.put, List.setIfInBounds_toArray, List.set_cons_zero, List.set_cons_succ, List.getElem_toArray, List.getElem_cons_zero, List.getElem_cons_succ]
              refine wpAnyH_take (i := 6) (v := ?v6) rfl (by kernel_rfl) (by kernel_rfl) (by kernel_rfl) (fun _ _ _ h => h) (Or.inl ⟨by rfl, ?hy6⟩) (by assumption) ?rest6
              case hy6 =>
                intro w hSw
                try dsimp only at hSw
                go_simp
                try with_reducible rfl
              try simp only [Act.put, List.setIfInBounds_toArray, List.set_cons_zero, List.set_cons_succ, List.getElem_toArray, List.getElem_cons_zero, List.getElem_cons_succ]
              refine wpAnyH_take (i := 7) (v := ?v7) rfl (by kernel_rfl) (by kernel_rfl) (by kernel_rfl) (fun _ _ _ h => h) (Or.inl ⟨by rfl, ?hy7⟩) (by assumption) ?rest7
              case hy7 =>
                intro w hSw
                try dsimp only at hSw
                go_simp
                try with_reducible rfl
              try simp only [Act.put, List.setIfInBounds_toArray, List.set_cons_zero, List.set_cons_succ, List.getElem_toArray, List.getElem_cons_zero, List.getElem_cons_succ]
              refine wpAnyH_take (i := 8) (v := ?v8) rfl (by kernel_rfl) (by kernel_rfl) (by kernel_rfl) (fun _ _ _ h => h) (Or.inl ⟨by rfl, ?hy8⟩) (by assumption) ?rest8
              case hy8 =>
                intro w hSw
                try dsimp only at hSw
                go_simp
                try with_reducible rfl
              try simp only [Act.put, List.setIfInBounds_toArray, List.set_cons_zero, List.set_cons_succ, List.getElem_toArray, List.getElem_cons_zero, List.getElem_cons_succ]
              refine wpAnyH_ready (rs := [4]) (by kernel_rfl) (by simp) ?_
              refine AllReadyH.cons rfl (fun K hK => ?_) AllReadyH.nil
              go_simp
              go_at_call_of 18 xa
              refine (HCA.out _ hHeld.1).mono ?_
              rintro e wA ⟨voa, vca, rfl, hia, hpa, hba⟩
              have HKA := Lib.hid (And.intro hba (HSTAT.out _ hba))
              have HIA := Lib.hid hia
              have HPA := Lib.hid hpa
              clear hia hpa hba
              go_wp2_with fail
              refine hK.out _ _ ?_ (fun hHeld1 => ?_)
              · exact HKA.out
              clear hK K
              try simp only [Act.put, List.setIfInBounds_toArray, List.set_cons_zero, List.set_cons_succ, List.getElem_toArray, List.getElem_cons_zero, List.getElem_cons_succ]
              refine wpAnyH_ready (rs := [9]) (by kernel_rfl) (by simp) ?_
              refine AllReadyH.cons rfl (fun K hK => ?_) AllReadyH.nil
              go_simp
              go_at_call_of 18 xb
              refine (HCB.out _ hHeld1.1).mono ?_
              rintro e wB ⟨vob, vcb, rfl, hib, hpb, hbb⟩
              have HKB := Lib.hid (And.intro hbb (HSTAT.out _ hbb))
              have HIB := Lib.hid hib
              have HPB := Lib.hid hpb
              clear hib hpb hbb
              go_wp2_with fail
              refine hK.out _ _ ?_ (fun hHeld2 => ?_)
              · exact HKB.out
              clear hK K
              try simp only [Act.put, List.setIfInBounds_toArray, List.set_cons_zero, List.set_cons_succ, List.getElem_toArray, List.getElem_cons_zero, List.getElem_cons_succ]
              refine wpAnyH_ready (rs := [10]) (by kernel_rfl) (by simp) ?_
              refine AllReadyH.cons rfl (fun K hK => ?_) AllReadyH.nil
              go_simp
              go_at_call 15
              refine (ints_any _ _ _ _ _ _ _ _ ya yb false _ (HIA.out.below HPB.out) HIB.out rfl rfl (by omega) HYY.out).mono ?_
              rintro e wI ⟨rfl, hd⟩
              have hbi := HKB.out.1.trans ((below_of_drew hd).mono HKB.out.1.size)
              have HKI := Lib.hid (And.intro hbi (HSTAT.out _ hbi))
              clear hd hbi
              go_wp2_with fail
              refine hK.out _ _ ?_ (fun hHeld3 => ?_)
              · exact HKI.out
              clear hK K
              try simp only [Act.put, List.setIfInBounds_toArray, List.set_cons_zero, List.set_cons_succ, List.getElem_toArray, List.getElem_cons_zero, List.getElem_cons_succ]
              refine wpAnyH_take (i := 11) (v := ?v11) rfl (by kernel_rfl) (by kernel_rfl) (by kernel_rfl) (fun _ _ _ h => h) (Or.inl ⟨by rfl, ?hy11⟩) (by assumption) ?rest11
              case hy11 =>
                intro w hSw
                try dsimp only at hSw
                go_simp
                try with_reducible rfl
              try simp only [Act.put, List.setIfInBounds_toArray, List.set_cons_zero, List.set_cons_succ, List.getElem_toArray, List.getElem_cons_zero, List.getElem_cons_succ]
              refine wpAnyH_take (i := 12) (v := ?v12) rfl (by kernel_rfl) (by kernel_rfl) (by kernel_rfl) (fun _ _ _ h => h) (Or.inl ⟨by rfl, ?hy12⟩) (by assumption) ?rest12
              case hy12 =>
                intro w hSw
                try dsimp only at hSw
                go_simp
                try with_reducible rfl
              try simp only [Act.put, List.setIfInBounds_toArray, List.set_cons_zero, List.set_cons_succ, List.getElem_toArray, List.getElem_cons_zero, List.getElem_cons_succ]
              refine wpAnyH_take (i := 13) (v := undef) rfl (by kernel_rfl) (by kernel_rfl) (by kernel_rfl) (fun _ _ _ h => h) (Or.inr ⟨by rfl, rfl⟩) (by assumption) ?_
              try simp only [Act.put, List.setIfInBounds_toArray, List.set_cons_zero, List.set_cons_succ, List.getElem_toArray, List.getElem_cons_zero, List.getElem_cons_succ]
              refine wpAnyH_take (i := 14) (v := undef) rfl (by kernel_rfl) (by kernel_rfl) (by kernel_rfl) (fun _ _ _ h => h) (Or.inr ⟨by rfl, rfl⟩) (by assumption) ?_
              try simp only [Act.put, List.setIfInBounds_toArray, List.set_cons_zero, List.set_cons_succ, List.getElem_toArray, List.getElem_cons_zero, List.getElem_cons_succ]
              refine wpAnyH_take (i := 15) (v := undef) rfl (by kernel_rfl) (by kernel_rfl) (by kernel_rfl) (fun _ _ _ h => h) (Or.inr ⟨by rfl, rfl⟩) (by assumption) ?_
              try simp only [Act.put, List.setIfInBounds_toArray, List.set_cons_zero, List.set_cons_succ, List.getElem_toArray, List.getElem_cons_zero, List.getElem_cons_succ]
              refine wpAnyH_take (i := 16) (v := undef) rfl (by kernel_rfl) (by kernel_rfl) (by kernel_rfl) (fun _ _ _ h => h) (Or.inr ⟨by rfl, rfl⟩) (by assumption) ?_
              try simp only [Act.put, List.setIfInBounds_toArray, List.set_cons_zero, List.set_cons_succ, List.getElem_toArray, List.getElem_cons_zero, List.getElem_cons_succ]
              refine wpAnyH_take (i := 17) (v := undef) rfl (by kernel_rfl) (by kernel_rfl) (by kernel_rfl) (fun _ _ _ h => h) (Or.inr ⟨by rfl, rfl⟩) (by assumption) ?_
              try simp only [Act.put, List.setIfInBounds_toArray, List.set_cons_zero, List.set_cons_succ, List.getElem_toArray, List.getElem_cons_zero, List.getElem_cons_succ]
              refine wpAnyH_take (i := 18) (v := undef) rfl (by kernel_rfl) (by kernel_rfl) (by kernel_rfl) (fun _ _ _ h => h) (Or.inr ⟨by rfl, rfl⟩) (by assumption) ?_
              try simp only [Act.put, List.setIfInBounds_toArray, List.set_cons_zero, List.set_cons_succ, List.getElem_toArray, List.getElem_cons_zero, List.getElem_cons_succ]
              refine wpAnyH_take (i := 19) (v := undef) rfl (by kernel_rfl) (by kernel_rfl) (by kernel_rfl) (fun _ _ _ h => h) (Or.inr ⟨by rfl, rfl⟩) (by assumption) ?_
              try simp only [Act.put, List.setIfInBounds_toArray, List.set_cons_zero, List.set_cons_succ, List.getElem_toArray, List.getElem_cons_zero, List.getElem_cons_succ]
              refine wpAnyH_take (i := 20) (v := undef) rfl (by kernel_rfl) (by kernel_rfl) (by kernel_rfl) (fun _ _ _ h => h) (Or.inr ⟨by rfl, rfl⟩) (by assumption) ?_
              try simp only [Act.put, List.setIfInBounds_toArray, List.set_cons_zero, List.set_cons_succ, List.getElem_toArray, List.getElem_cons_zero, List.getElem_cons_succ]
              refine wpAnyH_take (i := 21) (v := undef) rfl (by kernel_rfl) (by kernel_rfl) (by kernel_rfl) (fun _ _ _ h => h) (Or.inr ⟨by rfl, rfl⟩) (by assumption) ?_
              try simp only [Act.put, List.setIfInBounds_toArray, List.set_cons_zero, List.set_cons_succ, List.getElem_toArray, List.getElem_cons_zero, List.getElem_cons_succ]
              refine wpAnyH_take (i := 22) (v := ?v22) rfl (by kernel_rfl) (by kernel_rfl) (by kernel_rfl) (fun _ _ _ h => h) (Or.inl ⟨by rfl, ?hy22⟩) (by assumption) ?rest22
              case hy22 =>
                intro w hSw
                try dsimp only at hSw
                go_simp
                try with_reducible rfl
              try simp only [Act.put, List.setIfInBounds_toArray, List.set_cons_zero, List.set_cons_succ, List.getElem_toArray, List.getElem_cons_zero, List.getElem_cons_succ]
              refine wpAnyH_take (i := 23) (v := ?v23) rfl (by kernel_rfl) (by kernel_rfl) (by kernel_rfl) (fun _ _ _ h => h) (Or.inl ⟨by rfl, ?hy23⟩) (by assumption) ?rest23
              case hy23 =>
                intro w hSw
                try dsimp only at hSw
                go_simp
                try with_reducible rfl
              try simp only [Act.put, List.setIfInBounds_toArray, List.set_cons_zero, List.set_cons_succ, List.getElem_toArray, List.getElem_cons_zero, List.getElem_cons_succ]
              refine wpAnyH_done (by kernel_rfl) ?_ _
              go_wp2
              go_ret
              exact ⟨rfl, HB7.out.trans (HKI.out.1.mono HB7.out.size)⟩
          · have HNB := Lib.hid hb; clear hb
            go_wp2_with fail
            refine (in3_yes a 0 ((m : Int) - 1) _ ha.1 ha.2).mono ?_
            rintro e w' ⟨rfl, rfl⟩
            go_wp2_with fail
            refine (in3_no b 0 ((m : Int) - 1) _ HNB.out).mono ?_
            rintro e w' ⟨rfl, rfl⟩
            go_wp2
            go_ret
            exact ⟨rfl, HB7.out⟩
        · have HNA := Lib.hid ha; clear ha
          go_wp2_with fail
          refine (in3_no a 0 ((m : Int) - 1) _ HNA.out).mono ?_
          rintro e w' ⟨rfl, rfl⟩
          go_wp2
          go_ret
          exact ⟨rfl, HB7.out⟩
      · obtain ⟨k, hk⟩ : ∃ k, gi = k + 1 := ⟨gi - 1, by omega⟩
        have hk1 : (gi : Int) - 1 = (k : Int) := by omega
        have hkn : k < n := by omega
        obtain ⟨⟨ra, rc', xs⟩, hrk⟩ : ∃ r, rs[k]? = some r := ⟨_, List.getElem?_eq_getElem (by rw [← HN.out]; exact hkn)⟩
        obtain ⟨bb, off, rfl, hbb, c0⟩ := rows_at (HA2.out.below (HBE.out.mono hwg)) hrk
        obtain ⟨cs, hcs⟩ : ∃ cs, cs = (rs.drop gi).reverse.map stpV := ⟨_, rfl⟩
        have hs0 := HS.out
        rw [← hcs] at hs0
        have HS0 := Lib.hid hs0; clear hs0
        have hnew : (rs.drop k).reverse.map stpV = cs ++ [Value.slice ra xs.length rc'] := by rw [hcs, rev_drop_step hrk, hk, List.map_append]; rfl
        clear hcs
        have HNW := Lib.hid hnew; clear hnew hrk
        have HK := Lib.hid hk; clear hk
        simp only at c0
        rw [hk1]
        clear hk1
        go_wp2_with (at_builtin; refine wpList_append_one (A := []) (z := .slice none 0 0) (size := 1) ?_ (.tmp 41) (.tmp 46) ?_ elemRow ?_ HS0.out ?_ ?_ ?_ ?_ ?_ ?_; rfl; rfl; rfl; exact hgr; rfl; rfl; omega; decide)
        intro v' w6 hs hb
        rw [← HNW.out] at hs
        have HS2 := Lib.hid hs
        have HB6 := Lib.hid (HBE.out.trans hb)
        clear hs hb
        go_wp2
        go_roundg k
        case measure => have := HK.out; omega
        case rel => exact ⟨m + 1, _, by have := HK.out; omega, rfl, by first | rfl | go_num, HS2.out, HB6.out⟩
  · have HC := Lib.hid hc; clear hc
    have H0 := Lib.hid hc0; clear hc0
    go_enter Try.func5, Try.ntmps5
    go_wp2_with fail
    refine (mmFact_any _).mono ?_
    rintro e w1 ⟨rfl, hb⟩
    have HB := Lib.hid hb; clear hb
    go_wp2_with fail
    refine (mmShare_err _ _ _ room _ _ _ _ rs c _ (HM.out.below HB.out) rfl (by omega) (HA.out.below HB.out) (HR.out.below HB.out) rfl (by omega) HC.out H0.out).mono ?_
    rintro e w' ⟨rfl, rfl⟩
    go_wp2
    go_ret
    exact ⟨rfl, HB.out⟩
end Go.Proofs.Ytciolkmhafdlpaa
