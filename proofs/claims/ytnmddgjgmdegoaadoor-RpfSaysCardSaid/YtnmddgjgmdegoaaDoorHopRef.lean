/- ferryhytheref3.Hop: the least neighbour of one point over which a shortest way to another one goes. -/
import Derived.Test.YtnmddgjgmdegoaaDoorFarRef
import Derived.Test.YtnmddgjgmdegoaaDoorVia
namespace Go.Proofs.YtnmddgjgmdegoaaDoor
open Go.RowKit
set_option linter.unusedVariables false

theorem IntSl.at' {B : Nat} {w : World} {g o n k : Nat} {f : Nat → Int} (h : IntSl B w (some ⟨g, o, none⟩) (arr f n)) (hk : k < n) : w.cell? ⟨g, o + k, none⟩ = some (.int .i64 (f k)) := by
  obtain ⟨b, off, e, _, hc⟩ := h k (f k) (arr_get hk)
  simp only [Option.some.injEq, Addr.mk.injEq, and_true] at e
  obtain ⟨rfl, rfl⟩ := e
  exact hc
set_option maxHeartbeats 4000000 in
set_option maxRecDepth 100000 in
theorem hopRef_ok (n : Nat) (ao : Option Addr) (len ac B0 : Nat) (L : List Lnk) (u v : Nat) (w : World) (hA : RowSl B0 w ao 3 (L.map lnkC)) (hlen : len = L.length) (hB : B0 ≤ w.heap.size) (hok : VOk n L) (hu : u < n) (hv : v < n) :
    Calls Tryd.prog 26 #[.int .i64 n, .slice ao len ac, .int .i64 u, .int .i64 v] w fun e w' => e = .returned (.int .i64 (hopOf n (edges L) u v)) ∧ Below w.heap.size w w' := by
  subst hlen
  have HA := Lib.hid hA; clear hA
  have hn8 := hok.n8
  have hl32 := hok.few
  have HOK := Lib.hid hok; clear hok
  have hci : Tryd.prog.cellsOf 3 = 1 := by kernel_rfl
  have HFAR := Lib.hid (farRef_ok n ao L.length ac B0 L v w HA.out rfl hB HOK.out hv)
  have hui : (u : Int) < (n : Int) := by omega
  have hu0 : (0 : Int) ≤ (u : Int) := by omega
  go_enter Tryd.func26, Tryd.ntmps26
  go_wp2_with fail
  refine HFAR.out.mono ?_
  rintro e w1 ⟨vq, rfl, hs, hb⟩
  obtain ⟨aq, cq, rfl, -⟩ := hs.intsShape (A := []) (C := [])
  have hx := hs.intSl (A := []) (C := [])
  rw [arr_len] at hs ⊢
  obtain ⟨gq, oq, rfl, -⟩ := arrI_at (A := []) hs hu
  have HX := Lib.hid hx
  have HB1 := Lib.hid hb
  clear hs hb hx HFAR
  obtain ⟨fu, hfu⟩ : ∃ fu, fu = far (edges L) v u := ⟨_, rfl⟩
  have d1 := HX.out.at' hu
  rw [← hfu] at d1
  have HFU := Lib.hid hfu
  clear hfu
  by_cases he : u = v
  · have hbe : ((u : Int) == (v : Int)) = true := by simp [he]
    have hop : hopOf n (edges L) u v = -1 := by unfold hopOf; rw [if_pos (.inl he)]
    have HOP := Lib.hid hop; clear hop he
    go_wp2
    go_ret
    exact ⟨ret_int HOP.out.symm, HB1.out⟩
  · have hbe : ((u : Int) == (v : Int)) = false := by simp; omega
    by_cases hf : fu = 1000
    · have hfe : (fu == 1000) = true := by simp [hf]
      have hop : hopOf n (edges L) u v = -1 := by unfold hopOf; rw [if_pos (.inr (by rw [far_swap HOK.out.net, ← HFU.out]; exact hf))]
      have HOP := Lib.hid hop; clear hop he hf
      go_wp2
      go_ret
      exact ⟨ret_int HOP.out.symm, HB1.out⟩
    · have hfe : (fu == 1000) = false := by simp [hf]
      have HNE := Lib.hid he
      have HNF := Lib.hid hf
      clear he hf
      go_wp2
      clear d1 hbe hfe
      go_loopw [10] (fun iv wr => ∃ x : Nat, x ≤ n ∧ iv = .int .i64 x ∧ Hid (∀ y, y < x → ¬ Via L u v y) ∧ Below w1.heap.size w1 wr) (fun iv _ => n - (intOf iv).toNat)
      case atStart => exact ⟨0, Nat.zero_le _, rfl, Lib.hid (fun y h => absurd h (Nat.not_lt_zero _)), Below.refl _ _⟩
      case round =>
        obtain ⟨x, hxn, rfl, HLE, hbel⟩ := hrel
        have HB2 := Lib.hid hbel; clear hbel
        by_cases hlt : x < n
        · have hxi : (x : Int) < (n : Int) := by omega
          have hx0 : (0 : Int) ≤ (x : Int) := by omega
          have hnext : ¬ Via L u v x → ∀ y, y < x + 1 → ¬ Via L u v y := fun h y hy => by
            by_cases e : y = x
            · subst e; exact h
            · exact HLE.out y (by omega)
          have HNEXT := Lib.hid hnext; clear hnext
          by_cases hxu : x = u
          · have hbe : ((x : Int) != (u : Int)) = false := by simp [hxu]
            have hno : ¬ Via L u v x := by rw [hxu]; exact via_self HOK.out
            have HNO := Lib.hid hno; clear hno hxu
            go_wp2_with fail
            go_quiet (fail)
            have HB3 := Lib.hid (HB2.out.trans (below_drewN w1.heap.size wr nq))
            generalize wr.drewN nq = wn at *
            go_wp2
            go_roundw
            case rel => exact ⟨x + 1, by omega, by go_num, Lib.hid (HNEXT.out HNO.out), HB3.out⟩
            case measure => simp [intOf]; omega
          · have hbe : ((x : Int) != (u : Int)) = true := by simp; omega
            have hr := cst_rng HOK.out u x
            obtain ⟨y, hy⟩ : ∃ y, y = cst L u x := ⟨_, rfl⟩
            have hbw := HB1.out.trans (HB2.out.mono HB1.out.size)
            have hcost : ∀ q, Calls Tryd.prog 35 #[.slice ao L.length ac, .int .i64 u, .int .i64 x] (wr.drewN q) fun e w' => e = .returned (.int .i64 y) ∧ wr.drewN q = w' := fun q => by
              rw [hy]
              exact cost_any ao _ ac B0 L u x _ ((HA.out.below (hbw.mono hB)).below (below_drewN _ wr q)) rfl (by omega)
            have HCA := Lib.hid hcost
            rw [← hy] at hr
            have HY := Lib.hid hy
            clear hcost hy hbw hxu
            have d1 := (HX.out.below HB2.out).at' hu
            have d2 := (HX.out.below HB2.out).at' hlt
            rw [← HFU.out] at d1
            have hfr := far_nonneg HOK.out.net (u := v) (v := x)
            have hfl := far_le HOK.out.net (u := v) (v := x)
            obtain ⟨fx, hfx⟩ : ∃ fx, fx = far (edges L) v x := ⟨_, rfl⟩
            rw [← hfx] at d2 hfr hfl
            have HFX := Lib.hid hfx
            clear hfx
            by_cases hy : y < 1000
            · have hyd : decide (y < 1000) = true := decide_eq_true hy
              obtain ⟨s, hs⟩ : ∃ s, s = y + fx := ⟨_, rfl⟩
              have hw : IntKind.i64.wrap (y + fx) = s := by rw [hs]; simp [IntKind.wrap, IntKind.bits, IntKind.signed]; omega
              have HSS := Lib.hid hs
              by_cases hsf : s = fu
              · have hse : (s == fu) = true := by simp [hsf]
                have hvia : Via L u v x := ⟨by rw [← HY.out]; exact hy, by rw [← HY.out, ← HFX.out, ← HFU.out, ← HSS.out]; exact hsf⟩
                have hop := via_hop HOK.out hv hlt HNE.out (by rw [← HFU.out]; exact HNF.out) hvia HLE.out
                have HOP := Lib.hid hop
                clear hop hvia hsf hs hr hfr hfl hy
                go_wp2_with fail
                go_quiet (first | (go_at_call 35; exact quiet_id (HCA.out _) ⟨_, rfl⟩))
                have HB3 := Lib.hid (HB1.out.trans ((HB2.out.trans (below_drewN w1.heap.size wr nq)).mono HB1.out.size))
                clear d1 d2 HCA
                generalize wr.drewN nq = wn at *
                go_wp2
                go_ret
                exact ⟨ret_int HOP.out.symm, HB3.out⟩
              · have hse : (s == fu) = false := by simp [hsf]
                have hno : ¬ Via L u v x := fun h => hsf (by have := h.2; rw [← HY.out, ← HFX.out, ← HFU.out, ← HSS.out] at this; exact this)
                have HNO := Lib.hid hno
                clear hno hsf hs hr hfr hfl hy
                go_wp2_with fail
                go_quiet (first | (go_at_call 35; exact quiet_id (HCA.out _) ⟨_, rfl⟩))
                have HB3 := Lib.hid (HB2.out.trans (below_drewN w1.heap.size wr nq))
                clear d1 d2 HCA
                generalize wr.drewN nq = wn at *
                go_wp2
                go_roundw
                case rel => exact ⟨x + 1, by omega, by go_num, Lib.hid (HNEXT.out HNO.out), HB3.out⟩
                case measure => simp [intOf]; omega
            · have hyd : decide (y < 1000) = false := decide_eq_false hy
              have hno : ¬ Via L u v x := fun h => hy (by rw [HY.out]; exact h.1)
              have HNO := Lib.hid hno
              clear hno hr hfr hfl hy
              go_wp2_with fail
              go_quiet (first | (go_at_call 35; exact quiet_id (HCA.out _) ⟨_, rfl⟩))
              have HB3 := Lib.hid (HB2.out.trans (below_drewN w1.heap.size wr nq))
              clear d1 d2 HCA
              generalize wr.drewN nq = wn at *
              go_wp2
              go_roundw
              case rel => exact ⟨x + 1, by omega, by go_num, Lib.hid (HNEXT.out HNO.out), HB3.out⟩
              case measure => simp [intOf]; omega
        · obtain rfl : x = n := by omega
          exfalso
          obtain ⟨y, hy, hvia⟩ := via_some HOK.out hv HNE.out (by rw [← HFU.out]; exact HNF.out)
          exact HLE.out y hy hvia
end Go.Proofs.YtnmddgjgmdegoaaDoor
