/- RoundsSoon returns true: nothing ends later than bit by bit. -/
import Derived.Test.YtpfpaheafpibiaaRndFact
import Derived.Test.YtpfpaheafpibiaaThings
import Derived.BigQuiet
namespace Go.Proofs.Ytpfpaheafpibiaa
open Go.RowKit
set_option linter.unusedVariables false
set_option linter.unusedSimpArgs false
set_option maxRecDepth 100000

theorem rnd_tot {rs : List Stp} : (rnd (nsOf (rowsOf rs))).length = drrTot (rowsOf rs) := by
  have key : ∀ (qs : List (List Int)) k, k ≤ qs.length → (rawTo (nsOf qs) k).length = psum (fun i => (qs.getD i []).length) k := fun qs k => by
    induction k with
    | zero => intro _; simp [rawTo, psum]
    | succ k ih =>
      intro h
      obtain ⟨q, hq⟩ : ∃ q, qs[k]? = some q := ⟨_, List.getElem?_eq_getElem (by omega)⟩
      rw [rawTo_succ, List.length_append, ih (by omega), psum, nsOf_get hq, List.getD_eq_getElem?_getD, hq]
      simp [rawQ]
  rw [(rnd_perm _).length_eq]; unfold raw drrTot; rw [nsOf_len]; exact key _ _ (Nat.le_refl _)
theorem endsOf_get {S : List Itm} {k : Nat} (h : k < S.length) : (endsOf S)[k]? = some ((endAt S (k + 1) : Nat) : Int) := by
  unfold endsOf; rw [List.getElem?_map, List.getElem?_range h]; rfl
theorem bitsOf_get {ns : List (List Nat)} {S : List Itm} {k : Nat} {x : Itm} (h : S[k]? = some x) : (bitsOf ns S)[k]? = some ((bitOf ns x.2.2.1 : Nat) : Int) := by
  unfold bitsOf; rw [List.getElem?_map, h]; rfl
theorem endsOf_len (S : List Itm) : (endsOf S).length = S.length := by simp [endsOf]
theorem bitsOf_len (ns : List (List Nat)) (S : List Itm) : (bitsOf ns S).length = S.length := by simp [bitsOf]
theorem ordOf_len (S : List Itm) : (ordOf S).length = S.length := by simp [ordOf]
/-- What RoundsSoon asks of two lists. -/
def SoonOk (E D : List Int) : Prop := ∀ k, k < E.length → ∃ a b, E[k]? = some a ∧ D[k]? = some b ∧ a ≤ b ∧ 0 ≤ a ∧ b ≤ 100000 ∧ ∀ j, k = j + 1 → ∃ c d, E[j]? = some c ∧ D[j]? = some d ∧ c < a ∧ d ≤ b ∧ 0 ≤ c ∧ 0 ≤ d
theorem bitOf_le (ns : List (List Nat)) (r : Nat) : bitOf ns r ≤ ns.length * r := by
  unfold bitOf
  induction ns with
  | nil => simp
  | cons l ns ih => simp only [List.map_cons, List.sum_cons, List.length_cons, Nat.add_mul]; omega
theorem soon_ok {qs : List (List Int)} (h : QsOk qs) : SoonOk (endsOf (rnd (nsOf qs))) (bitsOf (nsOf qs) (rnd (nsOf qs))) := by
  intro k hk
  rw [endsOf_len] at hk
  obtain ⟨x, hx⟩ : ∃ x, (rnd (nsOf qs))[k]? = some x := ⟨_, List.getElem?_eq_getElem hk⟩
  have h1 := end_bit hx
  have h2 := rnd_bd h hx
  have h3 := bitOf_le (nsOf qs) x.2.2.1
  rw [nsOf_len] at h3
  have h4 : qs.length * x.2.2.1 ≤ 5 * 160 := Nat.mul_le_mul h.few h2.2.1
  refine ⟨_, _, endsOf_get hk, bitsOf_get hx, by omega, by omega, by omega, ?_⟩
  rintro j rfl
  obtain ⟨y, hy⟩ : ∃ y, (rnd (nsOf qs))[j]? = some y := ⟨_, List.getElem?_eq_getElem (by omega)⟩
  have h5 := end_succ hx
  have h6 := (rnd_srt (nsOf qs)).get hy hx (by omega)
  have h7 := bit_mono (nsOf qs) (show y.2.2.1 ≤ x.2.2.1 by unfold leI ltI at h6; omega)
  exact ⟨_, _, endsOf_get (by omega), bitsOf_get hy, by omega, by omega, by omega, by omega⟩

set_option maxHeartbeats 2000000 in
theorem roundsSoon_walk (ao : Option Addr) (ac : Nat) (rs : List Stp) (w : World) (hA : RowSl w.heap.size w ao 1 (rs.map stpC)) (hac : rs.length ≤ ac) (hmax : ac ≤ maxLen) (hr : StpsOk w.heap.size w rs) :
    Calls Try.prog 3 #[.slice ao rs.length ac] w fun e w' => e = .returned (.bool true) ∧ Below w.heap.size w w' := by
  unfold maxLen at hmax
  have HA := Lib.hid hA; clear hA
  have HR := Lib.hid hr; clear hr
  obtain ⟨c, hc⟩ : ∃ c, c = checkCode (rowsOf rs) := ⟨_, rfl⟩
  by_cases hc0 : c = 0
  · have hok := checkCode_zero.1 (hc.symm.trans hc0)
    clear hc hc0
    obtain ⟨S, hS⟩ : ∃ S, S = rnd (nsOf (rowsOf rs)) := ⟨_, rfl⟩
    have hl40 : S.length ≤ 40 := by rw [hS]; exact rnd_len40 hok
    obtain ⟨E, hE⟩ : ∃ E, E = endsOf S := ⟨_, rfl⟩
    obtain ⟨D, hD⟩ : ∃ D, D = bitsOf (nsOf (rowsOf rs)) S := ⟨_, rfl⟩
    obtain ⟨O, hO⟩ : ∃ O, O = ordOf S := ⟨_, rfl⟩
    obtain ⟨n, hn⟩ : ∃ n, n = S.length := ⟨_, rfl⟩
    have hEl : E.length = n := by rw [hE, endsOf_len, hn]
    have hDl : D.length = n := by rw [hD, bitsOf_len, hn]
    have hOl : O.length = n := by rw [hO, ordOf_len, hn]
    have htot : drrTot (rowsOf rs) = n := by rw [hn, hS, rnd_tot]
    have hso : SoonOk E D := by rw [hE, hD, hS]; exact soon_ok hok
    rw [← hn] at hl40
    have HRUN : Hid (∀ w1, Below w.heap.size w w1 → Calls Try.prog 7 #[.slice ao rs.length ac] w1 fun e w' => ∃ va vb, e = .returned (.tuple #[va, vb, .nilIface]) ∧ Sep w1.heap.size w' [Ent.ints 3 vb E, Ent.ints 3 va O] ∧ Below w1.heap.size w1 w') := Lib.hid (fun w1 hb => by
      have := rndRun_ok ao rs.length ac _ rs w1 (HA.out.below hb) (HR.out.below hb) rfl hb.size hok
      rw [← hS, ← hE, ← hO] at this; exact this)
    have HBIT : Hid (∀ w1, Below w.heap.size w w1 → Calls Try.prog 8 #[.slice ao rs.length ac] w1 fun e w' => ∃ va, e = .returned (.tuple #[va, .nilIface]) ∧ Sep w1.heap.size w' [Ent.ints 3 va D] ∧ Below w1.heap.size w1 w') := Lib.hid (fun w1 hb => by
      have := rndBits_ok ao rs.length ac _ rs w1 (HA.out.below hb) (HR.out.below hb) rfl hb.size hok
      rw [← hS, ← hD] at this; exact this)
    have HTH : Hid (∀ w1, Below w.heap.size w w1 → Calls Try.prog 9 #[.slice ao rs.length ac] w1 fun e w' => e = .returned (.int .i64 n) ∧ w1 = w') := Lib.hid (fun w1 hb => by
      have := things_any ao rs.length ac _ rs w1 (HA.out.below hb) rfl hok
      rw [htot] at this; exact this)
    have HSO := Lib.hid hso
    have HEL := Lib.hid hEl
    have HDL := Lib.hid hDl
    have HOL := Lib.hid hOl
    clear hok hS hE hD hO hn hEl hDl hOl htot hso HA HR
    go_enter Try.func3, Try.ntmps3
    go_wp2_with fail
    refine (rndFact_any _).mono ?_
    rintro e w1 ⟨rfl, hb⟩
    have HB1 := Lib.hid hb
    clear hb
    go_wp2_with fail
    refine (HRUN.out _ HB1.out).mono ?_
    rintro e w2 ⟨va, vb, rfl, hs, hb⟩
    obtain ⟨ao1, c1, rfl, _, _⟩ := hs.intsShape (A := [])
    obtain ⟨ao2, c2, rfl, _, _⟩ := hs.intsShape (A := [_]) (C := [])
    have HX := Lib.hid (hs.intSl (A := []))
    have HB2 := Lib.hid (HB1.out.trans (hb.mono HB1.out.size))
    rw [HEL.out, HOL.out]
    clear hs hb
    go_wp2_with fail
    refine (HBIT.out _ HB2.out).mono ?_
    rintro e w3 ⟨va, rfl, hs, hb⟩
    obtain ⟨ao3, c3, rfl, _, _⟩ := hs.intsShape (A := []) (C := [])
    have HX3 := Lib.hid (HX.out.below hb)
    have HY3 := Lib.hid (hs.intSl (A := []) (C := []))
    have HB3 := Lib.hid (HB2.out.trans (hb.mono HB2.out.size))
    rw [HDL.out]
    clear hs hb HX HRUN HBIT
    have heq : ((n : Int) != (n : Int)) = false := by simp
    go_wp2_with fail
    refine (HTH.out _ HB3.out).mono ?_
    rintro e w' ⟨rfl, rfl⟩
    clear HTH
    go_wp2
    go_loopg [9] n (fun gk i wr => ∃ (k m : Nat), gk + k = n ∧ i = .int .i64 k ∧ wr = w3.drewN m)
    case atStart => exact ⟨0, 0, by omega, rfl, rfl⟩
    case round =>
      obtain ⟨gi, hgi0⟩ : ∃ gi, gi = gk := ⟨_, rfl⟩
      obtain ⟨k, m, hgk, rfl, hwr⟩ := hrel
      subst hwr
      by_cases hlt : k < n
      · obtain ⟨a, b, ha, hb, hab, ha0, hb0, hj⟩ := HSO.out k (by rw [HEL.out]; exact hlt)
        obtain ⟨g1, o1, rfl, hg1, ca⟩ := HX3.out k a ha
        obtain ⟨g3, o3, rfl, hg3, cb⟩ := HY3.out k b hb
        have HGK := Lib.hid hgk
        have hki : (k : Int) < (n : Int) := by omega
        have hk0 : (0 : Int) ≤ (k : Int) := by omega
        have d1 : decide (b < a) = false := decide_eq_false (by omega)
        by_cases hk : 0 < k
        · obtain ⟨j, hkj⟩ : ∃ j, k = j + 1 := ⟨k - 1, by omega⟩
          obtain ⟨c, d, hc, hd, hca, hdb, hc0, hd0⟩ := hj j hkj
          obtain ⟨g1', o1', he, hg1', cc⟩ := HX3.out j c hc
          simp only [Option.some.injEq, Addr.mk.injEq, and_true] at he
          obtain ⟨rfl, rfl⟩ := he
          obtain ⟨g3', o3', he, hg3', cd⟩ := HY3.out j d hd
          simp only [Option.some.injEq, Addr.mk.injEq, and_true] at he
          obtain ⟨rfl, rfl⟩ := he
          have hjI : (k : Int) - 1 = (j : Int) := by omega
          have hjw : IntKind.i64.wrap (j : Int) = (j : Int) := by simp [IntKind.wrap, IntKind.bits, IntKind.signed]; omega
          have hj0 : (0 : Int) ≤ (j : Int) := by omega
          have hjn : (j : Int) < (n : Int) := by omega
          have hkI : (0 : Int) < (k : Int) := by omega
          have d0 : decide ((0 : Int) < (k : Int)) = true := decide_eq_true (by omega)
          have d2 : decide (a ≤ c) = false := decide_eq_false (by omega)
          have d3 : decide (b < d) = false := decide_eq_false (by omega)
          clear ha hb hc hd hj hgk hgi0 hkj
          go_upto_region 13 with fail
          go_quiet (fail)
          go_wp2
          go_roundg (n - (k + 1))
          case measure => have := HGK.out; omega
          case rel => exact ⟨k + 1, _, by omega, by go_num, rfl⟩
        · have d0 : decide ((0 : Int) < (k : Int)) = false := decide_eq_false (by omega)
          have d0N : decide (0 < k) = false := decide_eq_false hk
          clear ha hb hj hgk hgi0
          go_upto_region 13 with fail
          go_quiet (fail)
          go_wp2
          go_roundg (n - (k + 1))
          case measure => have := HGK.out; omega
          case rel => exact ⟨k + 1, _, by omega, by go_num, rfl⟩
      · clear hgk hgi0
        go_wp2
        go_ret
        exact ⟨rfl, HB3.out.trans (below_drewN _ _ _)⟩
  · have hcc : Hid (c = checkCode (rowsOf rs)) := Lib.hid hc
    have HC0 := Lib.hid hc0
    clear hc hc0
    go_enter Try.func3, Try.ntmps3
    go_wp2_with fail
    refine (rndFact_any _).mono ?_
    rintro e w1 ⟨rfl, hb⟩
    have HB1 := Lib.hid hb
    clear hb
    go_wp2_with fail
    refine (rndRun_err _ _ _ _ rs c _ (HA.out.below HB1.out) (HR.out.below HB1.out) rfl (by omega) hcc.out HC0.out).mono ?_
    rintro e w' ⟨rfl, rfl⟩
    rw [errV_not HC0.out]
    go_wp2_with fail
    refine (rndBits_err _ _ _ _ rs c _ (HA.out.below HB1.out) (HR.out.below HB1.out) rfl (by omega) hcc.out HC0.out).mono ?_
    rintro e w' ⟨rfl, rfl⟩
    rw [errV_not HC0.out]
    go_wp2
    go_ret
    exact ⟨rfl, HB1.out⟩
end Go.Proofs.Ytpfpaheafpibiaa
