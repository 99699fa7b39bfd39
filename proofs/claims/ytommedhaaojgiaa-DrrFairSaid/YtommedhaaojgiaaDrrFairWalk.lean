/- DrrFair returns true: no queue is far ahead of another one. -/
import Derived.Test.YtommedhaaojgiaaDrrFact
import Derived.Test.YtommedhaaojgiaaDrrLaw
import Derived.Test.YtommedhaaojgiaaIn3
import Derived.Deep.DeepCutAuto
import Derived.StillTailTactics
namespace Go.Proofs.Ytommedhaaojgiaa
open Go.RowKit
set_option linter.unusedVariables false

def sums (qs : List (List Int)) (l : List Int) (t : Nat) : List Int := (List.range qs.length).map fun (j : Nat) => ((qs.getD j []).take ((l.take t).count (j : Int))).sum
theorem sums_len (qs : List (List Int)) (l : List Int) (t : Nat) : (sums qs l t).length = qs.length := by simp [sums]
theorem sums_get {qs : List (List Int)} {l : List Int} {t j : Nat} (h : j < qs.length) : (sums qs l t)[j]? = some ((qs.getD j []).take ((l.take t).count (j : Int))).sum := by
  rw [sums, List.getElem?_map, List.getElem?_range h]; rfl
theorem sums_zero (qs : List (List Int)) (l : List Int) : sums qs l 0 = List.replicate qs.length 0 := by
  refine List.ext_getElem? fun i => ?_
  rw [List.getElem?_replicate]
  by_cases h : i < qs.length
  · rw [sums_get h, if_pos h]; simp
  · rw [if_neg h, List.getElem?_eq_none (by rw [sums_len]; omega)]
theorem sums_step {qs : List (List Int)} {l : List Int} {t y : Nat} {x : Int} (hy : l[t]? = some (y : Int)) (hn : y < qs.length) (hx : (qs.getD y [])[(l.take t).count (y : Int)]? = some x) :
    (sums qs l t).set y (((qs.getD y []).take ((l.take t).count (y : Int))).sum + x) = sums qs l (t + 1) := by
  refine List.ext_getElem? fun i => ?_
  by_cases hi : i < qs.length
  · rw [sums_get hi, List.take_add_one, hy, List.count_append]
    by_cases e : i = y
    · subst e
      rw [List.getElem?_set_self (by rw [sums_len]; exact hn)]
      simp only [Option.toList_some, List.count_singleton_self]
      rw [take_sum_succ hx]
    · rw [List.getElem?_set_ne (by omega), sums_get hi]
      have : ¬ ((y : Int) == (i : Int)) = true := by simp; omega
      simp [List.count_cons, this]
  · rw [List.getElem?_eq_none (by rw [List.length_set, sums_len]; omega), List.getElem?_eq_none (by rw [sums_len]; omega)]

section
variable {B : Nat} {W : World} {gs gt n j : Nat} {S C : List Int}
theorem two_first (h : Sep B W [Ent.ints 3 (.slice (some ⟨gs, 0, none⟩) n n) S, Ent.ints 3 (.slice (some ⟨gt, 0, none⟩) n n) C]) (hS : S.length = n) {x : Int} (hx : S[j]? = some x) :
    W.cell? ⟨gs, j, none⟩ = some (.int .i64 x) ∧ W.frozen? ⟨gs, j, none⟩ = false ∧ ∀ y, Sep B (W.setCell ⟨gs, j, none⟩ (.int .i64 y)) [Ent.ints 3 (.slice (some ⟨gs, 0, none⟩) n n) (S.set j y), Ent.ints 3 (.slice (some ⟨gt, 0, none⟩) n n) C] := by
  subst hS
  have h1 : Sep B W ([] ++ Ent.ints 3 (.slice (some ⟨gs, 0, none⟩) S.length S.length) S :: [Ent.ints 3 (.slice (some ⟨gt, 0, none⟩) S.length S.length) C]) := h
  obtain ⟨g1, o1, he, d1, d2⟩ := h1.intsAt hx
  simp only [Option.some.injEq, Addr.mk.injEq, and_true] at he
  obtain ⟨rfl, rfl⟩ := he
  simp only [Nat.zero_add] at d1 d2
  refine ⟨d1, d2, fun y => ?_⟩
  have h3 := h1.intsSet j y
  rw [Nat.zero_add] at h3
  exact h3
theorem two_second (h : Sep B W [Ent.ints 3 (.slice (some ⟨gs, 0, none⟩) n n) S, Ent.ints 3 (.slice (some ⟨gt, 0, none⟩) n n) C]) (hC : C.length = n) {x : Int} (hx : C[j]? = some x) :
    W.cell? ⟨gt, j, none⟩ = some (.int .i64 x) ∧ W.frozen? ⟨gt, j, none⟩ = false ∧ ∀ y, Sep B (W.setCell ⟨gt, j, none⟩ (.int .i64 y)) [Ent.ints 3 (.slice (some ⟨gs, 0, none⟩) n n) S, Ent.ints 3 (.slice (some ⟨gt, 0, none⟩) n n) (C.set j y)] := by
  subst hC
  have h1 : Sep B W ([Ent.ints 3 (.slice (some ⟨gs, 0, none⟩) C.length C.length) S] ++ Ent.ints 3 (.slice (some ⟨gt, 0, none⟩) C.length C.length) C :: []) := h
  obtain ⟨g1, o1, he, d1, d2⟩ := h1.intsAt hx
  simp only [Option.some.injEq, Addr.mk.injEq, and_true] at he
  obtain ⟨rfl, rfl⟩ := he
  simp only [Nat.zero_add] at d1 d2
  refine ⟨d1, d2, fun y => ?_⟩
  have h3 := h1.intsSet j y
  rw [Nat.zero_add] at h3
  exact h3
end

set_option maxHeartbeats 4000000 in
set_option maxRecDepth 100000 in
theorem drrFair_walk (ao : Option Addr) (ac : Nat) (rs : List Stp) (Q a b : Int) (w : World) (hA : RowSl w.heap.size w ao 1 (rs.map stpC)) (hac : rs.length ≤ ac) (hmax : ac ≤ maxLen) (hr : StpsOk w.heap.size w rs)
    (_ : -9223372036854775808 ≤ Q ∧ Q ≤ 9223372036854775807) (_ : -9223372036854775808 ≤ a ∧ a ≤ 9223372036854775807) (_ : -9223372036854775808 ≤ b ∧ b ≤ 9223372036854775807) :
    Calls Try.prog 7 #[.slice ao rs.length ac, .int .i64 Q, .int .i64 a, .int .i64 b] w fun e w' => e = .returned (.bool true) ∧ Below w.heap.size w w' := by
  unfold maxLen at hmax
  have HA := Lib.hid hA; clear hA
  have HR := Lib.hid hr; clear hr
  obtain ⟨c, hc⟩ : ∃ c, c = runCode (rowsOf rs) Q := ⟨_, rfl⟩
  by_cases hc0 : c = 0
  · obtain ⟨hok, hq1, hq2⟩ := runCode_zero.1 (hc.symm.trans hc0)
    clear hc hc0
    obtain ⟨Q, rfl⟩ := Int.eq_ofNat_of_zero_le (by omega : 0 ≤ Q)
    have hn5 : rs.length ≤ 5 := by rw [← rowsOf_len]; exact hok.few
    obtain ⟨l, hl⟩ : ∃ l, l = drrOut (rowsOf rs) Q := ⟨_, rfl⟩
    have htot : l.length = drrTot (rowsOf rs) := by rw [hl]; exact drr_total hok (by omega)
    have hll : l.length ≤ 40 := by rw [htot]; exact drrTot_le hok
    clear htot
    have HL := Lib.hid hl; clear hl
    have HOK := Lib.hid hok; clear hok
    go_enter Try.func7, Try.ntmps7
    go_wp2_with fail
    refine (drrFact_any _).mono ?_
    rintro e w1 ⟨rfl, hb⟩
    have HB := Lib.hid hb; clear hb
    go_wp2_with fail
    refine (drrRun_ok _ _ _ _ rs Q _ (HA.out.below HB.out) (HR.out.below HB.out) rfl HB.out.size HOK.out ⟨hq1, hq2⟩).mono ?_
    rintro e w2 ⟨va, rfl, hs, hb⟩
    rw [Int.toNat_natCast, ← HL.out] at hs
    have HB2 := Lib.hid (HB.out.trans (hb.mono HB.out.size)); clear hb
    obtain ⟨ao1, c1, rfl, hc1, _⟩ := hs.intsShape (A := []) (C := [])
    have hX := hs.intSl (A := []) (C := [])
    have HX := Lib.hid hX
    clear hX hs
    have HA2 := Lib.hid (HA.out.below HB2.out)
    have HR2 := Lib.hid (HR.out.below HB2.out)
    by_cases hin : (0 ≤ a ∧ a ≤ (rs.length : Int) - 1) ∧ (0 ≤ b ∧ b ≤ (rs.length : Int) - 1)
    · obtain ⟨⟨ha1, ha2⟩, hb1, hb2⟩ := hin
      obtain ⟨a, rfl⟩ := Int.eq_ofNat_of_zero_le ha1
      obtain ⟨b, rfl⟩ := Int.eq_ofNat_of_zero_le hb1
      have han : a < rs.length := by omega
      have hbn : b < rs.length := by omega
      obtain ⟨⟨aa, ca, xa⟩, hrka⟩ : ∃ r, rs[a]? = some r := ⟨_, List.getElem?_eq_getElem han⟩
      obtain ⟨⟨ab, cb, xb⟩, hrkb⟩ : ∃ r, rs[b]? = some r := ⟨_, List.getElem?_eq_getElem hbn⟩
      obtain ⟨b0, off0, rfl, hb0, sa⟩ := rows_at HA2.out hrka
      obtain ⟨b0', off0', he, _, sb⟩ := rows_at HA2.out hrkb
      simp only [Option.some.injEq, Addr.mk.injEq, and_true] at he
      obtain ⟨rfl, rfl⟩ := he
      have hga : (rowsOf rs).getD a [] = xa := by rw [List.getD_eq_getElem?_getD, rowsOf_get hrka]; rfl
      have hgb : (rowsOf rs).getD b [] = xb := by rw [List.getD_eq_getElem?_getD, rowsOf_get hrkb]; rfl
      have hxa8 := (HOK.out.at a).1
      have hxb8 := (HOK.out.at b).1
      rw [hga] at hxa8
      rw [hgb] at hxb8
      simp only at sa sb
      have HGA := Lib.hid hga; clear hga hrka
      have HGB := Lib.hid hgb; clear hgb hrkb
      have SA := Lib.hid sa; clear sa
      have SB := Lib.hid sb; clear sb
      go_wp2_with (go_at_call 17; refine (in3_yes _ _ _ _ (by omega) (by omega)).mono ?_; rintro e w' ⟨rfl, rfl⟩)
      go_loop [12, 13] (fun m x => ∃ (k : Nat) (y : Int), k ≤ rs.length ∧ x = .int .i64 k ∧ m = .int .i64 y ∧ 0 ≤ y ∧ y ≤ 20 ∧ Hid (∀ j, j < k → ∀ x ∈ (rowsOf rs).getD j [], x ≤ y)) (fun _ x => rs.length - (intOf x).toNat)
      case atStart => exact ⟨0, 0, Nat.zero_le _, rfl, rfl, by omega, by omega, fun j hj => by omega⟩
      case round =>
        obtain ⟨k, y, hk, rfl, rfl, hy0, hy20, hall⟩ := hrel
        by_cases hlt : k < rs.length
        · obtain ⟨⟨ra, rc, xs⟩, hrk⟩ : ∃ r, rs[k]? = some r := ⟨_, List.getElem?_eq_getElem hlt⟩
          obtain ⟨b', off', he, _, c0⟩ := rows_at HA2.out hrk
          simp only [Option.some.injEq, Addr.mk.injEq, and_true] at he
          obtain ⟨rfl, rfl⟩ := he
          have hg : (rowsOf rs).getD k [] = xs := by rw [List.getD_eq_getElem?_getD, rowsOf_get hrk]; rfl
          have hx8 := (HOK.out.at k)
          rw [hg] at hx8
          obtain ⟨hx8l, hx8a⟩ := hx8
          have hix := (HR2.out _ (List.mem_iff_getElem?.2 ⟨k, hrk⟩)).1
          simp only at c0 hix
          have HG := Lib.hid hg; clear hg hrk
          have HIX := Lib.hid hix; clear hix
          have HX8 := Lib.hid hx8a; clear hx8a
          go_wp2
          go_loop [12, 14] (fun m x => ∃ (s : Nat) (z : Int), s ≤ xs.length ∧ x = .int .i64 s ∧ m = .int .i64 z ∧ y ≤ z ∧ z ≤ 20 ∧ Hid (∀ u ∈ xs.take s, u ≤ z)) (fun _ x => xs.length - (intOf x).toNat)
          case atStart => exact ⟨0, y, Nat.zero_le _, rfl, rfl, by omega, hy20, fun y hy => by simp at hy⟩
          case round =>
            obtain ⟨s, z, hs, rfl, rfl, hyz, hz20, hle⟩ := hrel
            by_cases hsl : s < xs.length
            · obtain ⟨u, hu⟩ : ∃ u, xs[s]? = some u := ⟨_, List.getElem?_eq_getElem hsl⟩
              obtain ⟨b2, o2, rfl, _, cy⟩ := HIX.out s u hu
              have hub := HX8.out u (List.mem_iff_getElem?.2 ⟨s, hu⟩)
              have HU := Lib.hid hu; clear hu
              by_cases hzu : z < u
              · go_wp2
                go_round
                case rel =>
                  refine ⟨s + 1, u, by omega, by go_num, rfl, by omega, by omega, ?_⟩
                  intro v hv
                  rw [List.take_add_one, HU.out] at hv
                  simp at hv
                  rcases hv with hv | rfl
                  · have := hle.out v hv; omega
                  · omega
                case measure => simp [intOf]; omega
              · go_wp2
                go_round
                case rel =>
                  refine ⟨s + 1, z, by omega, by go_num, rfl, by omega, by omega, ?_⟩
                  intro v hv
                  rw [List.take_add_one, HU.out] at hv
                  simp at hv
                  rcases hv with hv | rfl
                  · exact hle.out v hv
                  · omega
                case measure => simp [intOf]; omega
            · go_wp2
              go_round
              case rel =>
                refine ⟨k + 1, z, by omega, by go_num, rfl, by omega, hz20, ?_⟩
                intro j hj v hv
                rcases Nat.lt_or_ge j k with h1 | h1
                · have := hall.out j h1 v hv; omega
                · rw [show j = k by omega, HG.out] at hv
                  have h2 := hle.out
                  rw [List.take_of_length_le (by omega)] at h2
                  exact h2 v hv
              case measure => simp [intOf]; omega
        · have hle : ∀ q ∈ rowsOf rs, ∀ x ∈ q, x ≤ y := by
            intro q hq x hx
            obtain ⟨j, hj⟩ := List.mem_iff_getElem?.1 hq
            have hjl := (List.getElem?_eq_some_iff.1 hj).1
            rw [rowsOf_len] at hjl
            exact hall.out j (by omega) x (by rw [List.getD_eq_getElem?_getD, hj]; exact hx)
          have HLE := Lib.hid hle; clear hle hall
          have hfair : ∀ t, (l.take t).count (a : Int) < ((rowsOf rs).getD a []).length → (l.take t).count (b : Int) < ((rowsOf rs).getD b []).length →
              (((rowsOf rs).getD a []).take ((l.take t).count (a : Int))).sum - (((rowsOf rs).getD b []).take ((l.take t).count (b : Int))).sum ≤ (Q : Int) + 2 * y := by
            rw [HL.out]
            exact fun t h1 h2 => drr_fair HOK.out (by omega) (by rw [rowsOf_len]; exact han) (by rw [rowsOf_len]; exact hbn) HLE.out hy0 h1 h2
          have HFAIR := Lib.hid hfair; clear hfair
          have hcap : ∀ t j, j < rs.length → (l.take t).count ((j : Nat) : Int) ≤ ((rowsOf rs).getD j []).length := fun t j hj => by
            rw [← drr_once HOK.out (Q := Q) (by omega) (by rw [rowsOf_len]; exact hj), ← HL.out]
            exact (List.take_sublist _ _).count_le _
          have HCAP := Lib.hid hcap; clear hcap
          have hplace : ∀ t (j : Nat), j < rs.length → l[t]? = some (j : Int) → (l.take t).count (j : Int) < ((rowsOf rs).getD j []).length := by
            rw [HL.out]
            exact fun t j hj ht => drr_place HOK.out (by omega) (by rw [rowsOf_len]; exact hj) ht
          have HPLACE := Lib.hid hplace; clear hplace
          have hmem : ∀ x ∈ l, ∃ i, i < rs.length ∧ x = ((i : Nat) : Int) := by
            rw [HL.out]
            exact fun x hx => by obtain ⟨i, hi, e⟩ := drrOut_mem hx; exact ⟨i, by rwa [rowsOf_len] at hi, e⟩
          have HMEM := Lib.hid hmem; clear hmem
          have HNIL := Lib.hid (Sep.nil w2.heap.size w2)
          go_wp2_with (at_make; refine wpList_make_sep rfl _ _ rfl elemInt9 .i64 .i64 rs.length rs.length rs.length rfl rfl rfl rfl (by omega) (by unfold maxLen; omega) HNIL.out (Nat.le_refl _) ?_)
          intro w3 hsep3 hbel3 hsz3
          have HS3 := Lib.hid hsep3; clear hsep3
          have HB3 := Lib.hid hbel3; clear hbel3
          have hg3 : w2.heap.size ≤ w3.heap.size := HB3.out.size
          have HSZ3 := Lib.hid hsz3; clear hsz3
          go_wp2_with (at_make; refine wpList_make_sep rfl _ _ rfl elemInt9 .i64 .i64 rs.length rs.length rs.length rfl rfl rfl rfl (by omega) (by unfold maxLen; omega) HS3.out hg3 ?_)
          intro w4 hsep4 hbel4 hsz4
          obtain ⟨gs, hgs⟩ : ∃ gs, gs = w3.heap.size := ⟨_, rfl⟩
          obtain ⟨gt, hgt⟩ : ∃ gt, gt = w2.heap.size := ⟨_, rfl⟩
          have hggs : gt ≤ gs := by rw [hgs, hgt]; exact hg3
          have hs4 : Sep gt w4 [Ent.ints 3 (.slice (some ⟨gs, 0, none⟩) rs.length rs.length) (sums (rowsOf rs) l 0), Ent.ints 3 (.slice (some ⟨gt, 0, none⟩) rs.length rs.length) (cnts l rs.length 0)] := by
            unfold Ent.ints
            rw [sums_len, cnts_len, sums_zero, cnts_zero, rowsOf_len, ← madeInts, hgs, hgt]
            exact hsep4
          have HB4 : Hid (Below gt w2 w4) := Lib.hid (by rw [hgt]; exact HB3.out.trans (hbel4.mono hg3))
          rw [← hgs, ← hgt]
          have HS4 := Lib.hid hs4; clear hs4 hsep4 hbel4 hsz4 HS3
          have HGT := Lib.hid hgt; clear hgt hgs hg3
          go_wp2
          go_loopw [17, 18] (fun x _ wr => ∃ t : Nat, t ≤ l.length ∧ x = .int .i64 t ∧ Sep gt wr [Ent.ints 3 (.slice (some ⟨gs, 0, none⟩) rs.length rs.length) (sums (rowsOf rs) l t), Ent.ints 3 (.slice (some ⟨gt, 0, none⟩) rs.length rs.length) (cnts l rs.length t)] ∧ Below gt w2 wr) (fun x _ _ => l.length - (intOf x).toNat)
          case atStart => exact ⟨0, Nat.zero_le _, rfl, HS4.out, HB4.out⟩
          case round =>
            obtain ⟨t, ht, rfl, hsep, hbel⟩ := hrel
            by_cases htl : t < l.length
            · obtain ⟨x, hx⟩ : ∃ x, l[t]? = some x := ⟨_, List.getElem?_eq_getElem htl⟩
              obtain ⟨k2, hk2, rfl⟩ := HMEM.out x (List.mem_iff_getElem?.2 ⟨t, hx⟩)
              obtain ⟨⟨rk, ck, xk⟩, hrkk⟩ : ∃ r, rs[k2]? = some r := ⟨_, List.getElem?_eq_getElem hk2⟩
              have hgk : (rowsOf rs).getD k2 [] = xk := by rw [List.getD_eq_getElem?_getD, rowsOf_get hrkk]; rfl
              have hxk8 := (HOK.out.at k2).1
              have hxka := (HOK.out.at k2).2
              rw [hgk] at hxk8 hxka
              obtain ⟨cn, hcn⟩ : ∃ cn, cn = (l.take t).count (k2 : Int) := ⟨_, rfl⟩
              have hpl := HPLACE.out t k2 hk2 hx
              rw [hgk, ← hcn] at hpl
              obtain ⟨z, hz⟩ : ∃ z, xk[cn]? = some z := ⟨_, List.getElem?_eq_getElem hpl⟩
              have hzb := hxka z (List.mem_iff_getElem?.2 ⟨cn, hz⟩)
              have hix := (HR2.out _ (List.mem_iff_getElem?.2 ⟨k2, hrkk⟩)).1
              obtain ⟨bk, ok, rfl, hbk, sz⟩ := hix cn z hz
              obtain ⟨bl, ol, rfl, hbl, sl⟩ := HX.out t k2 hx
              obtain ⟨b0', off0', he, _, sk⟩ := rows_at HA2.out hrkk
              simp only [Option.some.injEq, Addr.mk.injEq, and_true] at he
              obtain ⟨rfl, rfl⟩ := he
              simp only at sk
              obtain ⟨s0, hs0⟩ : ∃ s0, s0 = (xk.take cn).sum := ⟨_, rfl⟩
              have hs0b : 0 ≤ s0 ∧ s0 ≤ 160 := by
                rw [hs0]
                have h1 := getD_sum_le HOK.out k2 cn
                rw [hgk] at h1
                exact ⟨sum_take_nonneg xk cn (fun x hx => by have := hxka x hx; omega), h1⟩
              have hcnl := cnts_get (l := l) (k := t) hk2
              have hsml := sums_get (qs := rowsOf rs) (l := l) (t := t) (j := k2) (by rw [rowsOf_len]; exact hk2)
              rw [hgk, ← hcn, ← hs0] at hsml
              rw [← hcn] at hcnl
              have hcst := cnts_step hx hk2
              have hsst := sums_step (qs := rowsOf rs) hx (by rw [rowsOf_len]; exact hk2) (x := z) (by rw [hgk, ← hcn]; exact hz)
              rw [← hcn] at hcst
              rw [hgk, ← hcn, ← hs0] at hsst
              have hwg : w.heap.size ≤ gt := by rw [HGT.out]; exact HB2.out.size
              have hgw : w2.heap.size = gt := HGT.out.symm
              rw [hgw] at hbl
              have hstat : ∀ W, Below gt w2 W → W.cell? ⟨b0, off0 + k2, none⟩ = some (.slice (some ⟨bk, ok, none⟩) xk.length ck) ∧ W.cell? ⟨bk, ok + cn, none⟩ = some (.int .i64 z) ∧ W.cell? ⟨bl, ol + t, none⟩ = some (.int .i64 k2) ∧
                  W.cell? ⟨b0, off0 + a, none⟩ = some (.slice aa xa.length ca) ∧ W.cell? ⟨b0, off0 + b, none⟩ = some (.slice ab xb.length cb) := fun W hW =>
                ⟨(hW.cell (p := ⟨b0, off0 + k2, none⟩) (Nat.lt_of_lt_of_le hb0 hwg)).trans sk, (hW.cell (p := ⟨bk, ok + cn, none⟩) (Nat.lt_of_lt_of_le hbk hwg)).trans sz, (hW.cell (p := ⟨bl, ol + t, none⟩) hbl).trans sl,
                  (hW.cell (p := ⟨b0, off0 + a, none⟩) (Nat.lt_of_lt_of_le hb0 hwg)).trans SA.out, (hW.cell (p := ⟨b0, off0 + b, none⟩) (Nat.lt_of_lt_of_le hb0 hwg)).trans SB.out⟩
              have HSTAT := Lib.hid hstat; clear hstat sk sz sl hix hx hz hrkk hgw hbl
              have HCNL := Lib.hid hcnl; clear hcnl
              have HSML := Lib.hid hsml; clear hsml
              have HCST := Lib.hid hcst; clear hcst
              have HSST := Lib.hid hsst; clear hsst
              have HGK := Lib.hid hgk; clear hgk
              have HXKA := Lib.hid hxka; clear hxka
              have HCN := Lib.hid hcn; clear hcn
              have HS0 := Lib.hid hs0; clear hs0
              have hslen : (sums (rowsOf rs) l t).length = rs.length := by rw [sums_len, rowsOf_len]
              have hclen : (cnts l rs.length t).length = rs.length := cnts_len ..
              have HSL := Lib.hid hslen; clear hslen
              have HCL := Lib.hid hclen; clear hclen
              obtain ⟨c1x, c2x, c3x, c4x, c5x⟩ := HSTAT.out wr hbel
              obtain ⟨d3x, _, _⟩ := two_second hsep HCL.out HCNL.out
              have HS5 := Lib.hid hsep; clear hsep
              have HB5 := Lib.hid hbel; clear hbel
              have hge : decide ((xk.length : Int) ≤ (cn : Int)) = false := decide_eq_false (by omega)
              have hge2 : decide (xk.length ≤ cn) = false := decide_eq_false (by omega)
              go_wp2_with fail
              go_quiet (first | (go_at_call 17; exact quiet_id (in3_yes _ _ _ _ (by omega) (by omega)) ⟨_, rfl⟩))
              have HSA := Lib.hid (HS5.out.drewN nq)
              have HBA := Lib.hid (HB5.out.trans (below_drewN gt wr nq))
              clear c1x c2x c3x c4x c5x d3x HS5 HB5
              generalize wr.drewN nq = wA at *
              obtain ⟨c1x, c2x, c3x, c4x, c5x⟩ := HSTAT.out wA HBA.out
              obtain ⟨d3x, _, _⟩ := two_second HSA.out HCL.out HCNL.out
              obtain ⟨d1x, d2x, _⟩ := two_first HSA.out HSL.out HSML.out
              go_wp2_with fail
              go_still_tail 18, (by kernel_rfl)
              change wpList _ _ _ _ _ wA.drew
              have HSB := Lib.hid HSA.out.drew
              have HBB := Lib.hid (HBA.out.trans (below_drew gt wA))
              clear c1x c2x c3x c4x c5x d1x d2x d3x HSA HBA
              generalize wA.drew = wB at *
              obtain ⟨d1x, d2x, hset⟩ := two_first HSB.out HSL.out HSML.out
              have hsC := hset (s0 + z)
              rw [HSST.out] at hsC
              have hbC := HBB.out.setCell (p := ⟨gs, k2, none⟩) hggs (.int .i64 (s0 + z))
              have HSC := Lib.hid hsC
              have HBC := Lib.hid hbC
              clear hsC hbC hset
              go_upto_region 25 with fail
              clear d1x d2x HSB HBB
              generalize wB.setCell ⟨gs, k2, none⟩ (.int .i64 (s0 + z)) = wC at *
              obtain ⟨d3x, d4x, hset⟩ := two_second HSC.out HCL.out HCNL.out
              have hsD := hset ((cn : Int) + 1)
              rw [HCST.out] at hsD
              have hbD := HBC.out.setCell (p := ⟨gt, k2, none⟩) (Nat.le_refl _) (.int .i64 ((cn : Int) + 1))
              have HSD := Lib.hid hsD
              have HBD := Lib.hid hbD
              clear hsD hbD hset
              go_wp2_with fail
              clear d3x d4x HSC HBC
              generalize wC.setCell ⟨gt, k2, none⟩ (.int .i64 ((cn : Int) + 1)) = wD at *
              have hfa := HFAIR.out (t + 1)
              have hca := HCAP.out (t + 1) a han
              have hcb := HCAP.out (t + 1) b hbn
              rw [HGA.out] at hca hfa
              rw [HGB.out] at hcb hfa
              obtain ⟨na, hna⟩ : ∃ na, na = (l.take (t + 1)).count (a : Int) := ⟨_, rfl⟩
              obtain ⟨nb, hnb⟩ : ∃ nb, nb = (l.take (t + 1)).count (b : Int) := ⟨_, rfl⟩
              have hga2 := cnts_get (l := l) (k := t + 1) han
              have hgb2 := cnts_get (l := l) (k := t + 1) hbn
              have hsa2 := sums_get (qs := rowsOf rs) (l := l) (t := t + 1) (j := a) (by rw [rowsOf_len]; exact han)
              have hsb2 := sums_get (qs := rowsOf rs) (l := l) (t := t + 1) (j := b) (by rw [rowsOf_len]; exact hbn)
              rw [HGA.out] at hsa2
              rw [HGB.out] at hsb2
              rw [← hna] at hca hfa hga2 hsa2
              rw [← hnb] at hcb hfa hgb2 hsb2
              obtain ⟨ta, hta⟩ : ∃ ta, ta = (xa.take na).sum := ⟨_, rfl⟩
              obtain ⟨tb, htb⟩ : ∃ tb, tb = (xb.take nb).sum := ⟨_, rfl⟩
              have htab : 0 ≤ ta ∧ ta ≤ 160 := by
                have h1 := getD_sum_le HOK.out a na
                have h2 := sum_take_nonneg _ na (HOK.out.nn a)
                rw [HGA.out] at h1 h2
                rw [hta]; exact ⟨h2, h1⟩
              have htbb : 0 ≤ tb ∧ tb ≤ 160 := by
                have h1 := getD_sum_le HOK.out b nb
                have h2 := sum_take_nonneg _ nb (HOK.out.nn b)
                rw [HGB.out] at h1 h2
                rw [htb]; exact ⟨h2, h1⟩
              rw [← hta] at hfa hsa2
              rw [← htb] at hfa hsb2
              have HFA := Lib.hid hfa
              have HGA2 := Lib.hid hga2
              have HGB2 := Lib.hid hgb2
              have HSA2 := Lib.hid hsa2
              have HSB2 := Lib.hid hsb2
              clear hfa hga2 hgb2 hsa2 hsb2 hna hnb hta htb
              have hslen2 : (sums (rowsOf rs) l (t + 1)).length = rs.length := by rw [sums_len, rowsOf_len]
              have hclen2 : (cnts l rs.length (t + 1)).length = rs.length := cnts_len ..
              have HSL2 := Lib.hid hslen2; clear hslen2
              have HCL2 := Lib.hid hclen2; clear hclen2
              obtain ⟨_, _, _, e1x, e2x⟩ := HSTAT.out wD HBD.out
              obtain ⟨e3x, _, _⟩ := two_second HSD.out HCL2.out HGA2.out
              obtain ⟨e4x, _, _⟩ := two_second HSD.out HCL2.out HGB2.out
              by_cases hea : na = xa.length
              · have hq1 : ((na : Int) == (xa.length : Int)) = true := by simp [hea]
                have HEA := Lib.hid hea; clear hea
                go_quiet (fail)
                go_wp2
                go_ret
                exact ⟨rfl, HB2.out.trans ((HBD.out.mono hwg).trans (below_drewN _ _ _))⟩
              · have hq1 : ((na : Int) == (xa.length : Int)) = false := by simp; omega
                by_cases heb : nb = xb.length
                · have hq2 : ((nb : Int) == (xb.length : Int)) = true := by simp [heb]
                  have HEA := Lib.hid hea; clear hea
                  have HEB := Lib.hid heb; clear heb
                  go_quiet (fail)
                  go_wp2
                  go_ret
                  exact ⟨rfl, HB2.out.trans ((HBD.out.mono hwg).trans (below_drewN _ _ _))⟩
                · have hq2 : ((nb : Int) == (xb.length : Int)) = false := by simp; omega
                  have hfin := HFA.out (by omega) (by omega)
                  have hq3 : decide ((Q : Int) + 2 * y < ta - tb) = false := decide_eq_false (by omega)
                  have HFI := Lib.hid hfin; clear hfin
                  have HEA := Lib.hid hea; clear hea
                  have HEB := Lib.hid heb; clear heb
                  go_quiet (fail)
                  have HSE := Lib.hid (HSD.out.drewN nq)
                  have HBE := Lib.hid (HBD.out.trans (below_drewN gt wD nq))
                  clear e1x e2x e3x e4x HSD HBD
                  generalize wD.drewN nq = wE at *
                  obtain ⟨e5x, _, _⟩ := two_first HSE.out HSL2.out HSA2.out
                  obtain ⟨e6x, _, _⟩ := two_first HSE.out HSL2.out HSB2.out
                  go_wp2_with fail
                  go_quiet (fail)
                  have HSF := Lib.hid (HSE.out.drewN nq)
                  have HBF := Lib.hid (HBE.out.trans (below_drewN gt wE nq))
                  clear e5x e6x HSE HBE
                  generalize wE.drewN nq = wF at *
                  go_wp2
                  go_roundw
                  case rel => exact ⟨t + 1, by omega, by go_num, HSF.out, HBF.out⟩
                  case measure => simp [intOf]; omega
            · go_wp2
              go_ret
              exact ⟨rfl, HB2.out.trans (by have h9 := hbel; rw [HGT.out] at h9; exact h9.mono HB2.out.size)⟩
    · by_cases hina : 0 ≤ a ∧ a ≤ (rs.length : Int) - 1
      · have hinb : ¬ ((0 : Int) ≤ b ∧ b ≤ (rs.length : Int) - 1) := fun h => hin ⟨hina, h⟩
        obtain ⟨ha1, ha2⟩ := hina
        have HIN := Lib.hid hinb; clear hin hinb
        go_wp2_with fail
        refine (in3_yes _ _ _ _ (by omega) (by omega)).mono ?_
        rintro e w' ⟨rfl, rfl⟩
        go_wp2_with fail
        refine (in3_no _ _ _ _ HIN.out).mono ?_
        rintro e w' ⟨rfl, rfl⟩
        go_wp2
        go_ret
        exact ⟨rfl, HB2.out⟩
      · have HIN := Lib.hid hina; clear hin hina
        go_wp2_with fail
        refine (in3_no _ _ _ _ HIN.out).mono ?_
        rintro e w' ⟨rfl, rfl⟩
        go_wp2
        go_ret
        exact ⟨rfl, HB2.out⟩
  · have HC := Lib.hid hc; clear hc
    have H0 := Lib.hid hc0; clear hc0
    go_enter Try.func7, Try.ntmps7
    go_wp2_with fail
    refine (drrFact_any _).mono ?_
    rintro e w1 ⟨rfl, hb⟩
    have HB := Lib.hid hb; clear hb
    go_wp2_with fail
    refine (drrRun_err _ _ _ _ rs Q c _ (HA.out.below HB.out) (HR.out.below HB.out) rfl (by omega) HC.out H0.out).mono ?_
    rintro e w' ⟨rfl, rfl⟩
    go_wp2
    go_ret
    exact ⟨rfl, HB.out⟩
end Go.Proofs.Ytommedhaaojgiaa
