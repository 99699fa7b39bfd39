/- (*lpm.Table).Find. -/
import Derived.Test.YtbcfcjecobihnaaDoorLpmOps
namespace Go.Proofs.YtbcfcjecobihnaaDoor
open Go.RowKit
set_option linter.unusedVariables false
set_option linter.unusedSimpArgs false
set_option maxRecDepth 100000

def fHop : Option (Nat × Nat) → Int
  | none => -1
  | some x => x.1
def fLen : Option (Nat × Nat) → Int
  | none => 0
  | some x => x.2
/-- Hop, length, what is wrong. -/
def findR (L : List Rte) (a : Int) : Int × Int × Int :=
  if ¬ (0 ≤ a ∧ a ≤ 65535) then (0, 0, 1) else match findL L a.toNat 17 with | some x => ((x.1 : Int), (x.2 : Int), 0) | none => (0, 0, 5)
theorem at_trunc {T : LT} (h : TabOk T) {a i : Nat} (ha : a ≤ 65535) (hi : i ≤ 16) : lookL (T.rts []) (a - a % 2 ^ (16 - i)) i = T.at (lpPath a i) := by
  have h1 := lpAddr_path (a := a) (n := i) (by omega) hi
  rw [← h1]
  have hk : lpOk (lpAddr (lpPath a i)) i := by have := lpAddr_isOk (π := lpPath a i) (by rw [lpPath_len]; exact hi); rwa [lpPath_len] at this
  have h2 := lpPath_addr (π := lpPath a i) (by rw [lpPath_len]; exact hi)
  rw [lpPath_len] at h2
  have h3 := at_look h.deep hk (h.low _)
  rw [h2] at h3
  exact h3.symm
theorem findL_next {T : LT} (h : TabOk T) {a i : Nat} (ha : a ≤ 65535) (hi : i ≤ 16) : findL (T.rts []) a (i + 1) = if 0 ≤ T.at (lpPath a i) then some ((T.at (lpPath a i)).toNat, i) else findL (T.rts []) a i := by
  rw [findL, at_trunc h ha hi]
theorem path_take {a k n : Nat} (h : k ≤ n) : lpPath a n = lpPath a k ++ (lpPath a n).drop k := by
  have h1 : (lpPath a n).take k = lpPath a k := by unfold lpPath; rw [← List.map_take, List.take_range, Nat.min_eq_left h]
  rw [← h1, List.take_append_drop]
theorem findL_stop {T : LT} (h : TabOk T) {a k : Nat} (ha : a ≤ 65535) (hn : T.sub (lpPath a k) = .nil) : ∀ m, k + m ≤ 17 → findL (T.rts []) a (k + m) = findL (T.rts []) a k
  | 0, _ => rfl
  | m + 1, hm => by
    rw [← Nat.add_assoc, findL_next h ha (by omega), if_neg, findL_stop h ha hn m (by omega)]
    unfold LT.at
    rw [path_take (show k ≤ k + m by omega), LT.sub_app, hn, LT.sub_nil]
    decide
theorem findL_bd {T : LT} (h : TabOk T) {a : Nat} (ha : a ≤ 65535) : ∀ k, k ≤ 17 → -1 ≤ fHop (findL (T.rts []) a k) ∧ fHop (findL (T.rts []) a k) ≤ 9 ∧ 0 ≤ fLen (findL (T.rts []) a k) ∧ fLen (findL (T.rts []) a k) ≤ 16
  | 0, _ => by simp [findL, fHop, fLen]
  | k + 1, hk => by
    rw [findL_next h ha (by omega)]
    have h1 := h.high (lpPath a k)
    split
    · simp only [fHop, fLen]; omega
    · exact findL_bd h ha k (by omega)

set_option maxHeartbeats 2000000 in
theorem lpmFind_in (B tb : Nat) (L : List Rte) (F : List Ent) (a : Nat) (w : World) (ha : a ≤ 65535) (hs : TabS B w tb L F) :
    Calls Tryd.prog 14 #[.pointer (some ⟨tb, 0, none⟩), .int .i64 a] w fun e w' => e = .returned (.tuple #[.int .i64 (findR L a).1, .int .i64 (findR L a).2.1, errV (findR L a).2.2]) ∧ Below w.heap.size w w' := by
  obtain ⟨T, hT, hTL, hs⟩ := hs
  obtain ⟨t0, -⟩ := lpt_cells hs
  have hbd := fun k (hk : k ≤ 17) => findL_bd hT ha k hk
  have hnx := fun k (hk : k ≤ 16) => findL_next hT ha (i := k) hk
  have hst := fun k m (hn : T.sub (lpPath a k) = .nil) (hm : k + m ≤ 17) => findL_stop hT ha hn m hm
  rw [hTL] at hbd hnx hst
  have HBD := Lib.hid hbd
  have HNX := Lib.hid hnx
  have HST := Lib.hid hst
  have HS := Lib.hid hs
  have HT := Lib.hid hT
  have ha1 : (0 : Int) ≤ (a : Int) := by omega
  have ha2 : (a : Int) ≤ 65535 := by omega
  clear hs hTL hbd hnx hst hT
  go_enter Tryd.func14, Tryd.ntmps14
  go_wp2_with fail
  refine (within_yes _ _ _ _ ha1 ha2).mono ?_
  rintro e w' ⟨rfl, rfl⟩
  go_upto_region 4 with fail
  go_quiet (fail)
  go_wp2
  go_loopg [4, 5, 7, 8] 17 (fun gk h4 l5 i p wr => ∃ (k x : Nat) (hp lg : Int), gk + k = 17 ∧ k ≤ 16 ∧ i = .int .i64 k ∧ p = (T.sub (lpPath a k)).ptr ∧ h4 = .int .i64 hp ∧ l5 = .int .i64 lg ∧ Hid (hp = fHop (findL L a k) ∧ lg = fLen (findL L a k)) ∧ wr = w.drewN x)
  case atStart => exact ⟨0, _, -1, 0, rfl, by omega, rfl, rfl, rfl, rfl, ⟨rfl, rfl⟩, rfl⟩
  case round =>
    obtain ⟨gi, hgi0⟩ : ∃ gi, gi = gk := ⟨_, rfl⟩
    obtain ⟨k, x, hp, lg, hgk, hk16, rfl, hpt, rfl, rfl, hbest, hwr⟩ := hrel
    subst hwr
    have HGK := Lib.hid hgk
    have hb := HBD.out k (by omega)
    rw [← hbest.out.1, ← hbest.out.2] at hb
    obtain ⟨hb1, hb2, hb3, hb4⟩ := hb
    have HBW := Lib.hid (below_drewN w.heap.size w x)
    clear hgk hgi0
    cases hk : T.sub (lpPath a k) with
    | nil =>
      rw [hk] at hpt
      obtain rfl : _ = Value.pointer none := hpt
      have hfin : hp = fHop (findL L a 17) ∧ lg = fLen (findL L a 17) := by
        have h1 := HST.out k (17 - k) hk (by omega)
        rw [show k + (17 - k) = 17 by omega] at h1
        rw [h1]; exact hbest.out
      have HFIN := Lib.hid hfin
      clear hk hfin
      by_cases hneg : hp < 0
      · have d3 : decide (hp < 0) = true := decide_eq_true hneg
        have hres : findR L (a : Int) = (0, 0, 5) := by
          unfold findR
          rw [if_neg (by omega), Int.toNat_natCast]
          have hf := HFIN.out
          cases hc : findL L a 17 with
          | none => rfl
          | some x => rw [hc] at hf; have : hp = (x.1 : Int) := hf.1; omega
        have HRES := Lib.hid hres
        clear hres hneg
        go_wp2
        go_ret3
        exact ⟨by rw [HRES.out]; rfl, HBW.out⟩
      · have d3 : decide (hp < 0) = false := decide_eq_false hneg
        have hres : findR L (a : Int) = (hp, lg, 0) := by
          unfold findR
          rw [if_neg (by omega), Int.toNat_natCast]
          have hf := HFIN.out
          cases hc : findL L a 17 with
          | none => rw [hc] at hf; have : hp = -1 := hf.1; omega
          | some x => rw [hc] at hf; have h1 : hp = (x.1 : Int) := hf.1; have h2 : lg = (x.2 : Int) := hf.2; simp only [h1, h2]
        have HRES := Lib.hid hres
        clear hres hneg
        go_wp2
        go_ret3
        exact ⟨by rw [HRES.out]; rfl, HBW.out⟩
    | node b h l r =>
      rw [hk] at hpt
      obtain rfl : _ = Value.pointer (some ⟨b, 0, none⟩) := hpt
      obtain ⟨⟨c0, c1, c2⟩, -, -⟩ := nod_cells HS.out hk
      have hat : T.at (lpPath a k) = h := by unfold LT.at; rw [hk]; rfl
      have hh1 := HT.out.low (lpPath a k)
      have hh2 := HT.out.high (lpPath a k)
      have hn := HNX.out k hk16
      rw [hat] at hh1 hh2 hn
      have HN := Lib.hid hn
      clear hat hn
      by_cases h0 : 0 ≤ h
      · have hnw : h = fHop (findL L a (k + 1)) ∧ (k : Int) = fLen (findL L a (k + 1)) := by
          rw [HN.out, if_pos h0]; exact ⟨(Int.toNat_of_nonneg h0).symm, rfl⟩
        have HNW := Lib.hid hnw
        have d0 : decide (0 ≤ h) = true := decide_eq_true h0
        clear hnw
        by_cases h16 : k = 16
        · have e16 : ((k : Int) == 16) = true := by simp; omega
          have HFIN : Hid (h = fHop (findL L a 17) ∧ (k : Int) = fLen (findL L a 17)) := Lib.hid (by have := HNW.out; rw [h16] at this ⊢; exact this)
          obtain ⟨hp2, hhp⟩ : ∃ z, z = h := ⟨_, rfl⟩
          obtain ⟨lg2, hlg⟩ : ∃ z, z = (k : Int) := ⟨_, rfl⟩
          have d3 : decide (h < 0) = false := decide_eq_false (by omega)
          have hres : findR L (a : Int) = (h, (k : Int), 0) := by
            unfold findR
            rw [if_neg (by omega), Int.toNat_natCast]
            have hf := HFIN.out
            cases hc : findL L a 17 with
            | none => rw [hc] at hf; have : h = -1 := hf.1; omega
            | some x => rw [hc] at hf; have h1 : h = (x.1 : Int) := hf.1; have h2 : (k : Int) = (x.2 : Int) := hf.2; simp only [h1, h2]
          have HRES := Lib.hid hres
          clear hhp hlg hres hk h16
          go_wp2
          go_ret3
          exact ⟨by rw [HRES.out]; rfl, HBW.out⟩
        · have e16 : ((k : Int) == 16) = false := by simp; omega
          have ck := kid_cell (h := h) c0 c1 (lpb a k)
          have hkn : T.sub (lpPath a (k + 1)) = (LT.node b h l r).kid (lpb a k) := by rw [path_next, hk]
          rw [← hkn] at ck
          have HBIT := Lib.hid (fun w' => lpbit_any a k w' ha (by omega))
          rw [lpb_nat] at HBIT
          obtain ⟨y, hy⟩ : ∃ y, y = (lpb a k).toNat := ⟨_, rfl⟩
          have hy2 : y < 2 := by rw [hy]; cases lpb a k <;> decide
          rw [← hy] at HBIT ck
          obtain ⟨pv, hpv⟩ : ∃ pv, pv = (T.sub (lpPath a (k + 1))).ptr := ⟨_, rfl⟩
          rw [← hpv] at ck
          have HPV := Lib.hid hpv
          have hy0 : (0 : Int) ≤ (y : Int) := by omega
          have hy1 : (y : Int) < 2 := by omega
          clear hk hkn hy c0 c1 hpv
          go_upto_region 10 with fail
          go_quiet (first | (go_at_call 33; exact quiet_id (HBIT.out _) ⟨_, rfl⟩))
          go_wp2
          go_roundg (17 - (k + 1))
          case measure => have := HGK.out; omega
          case rel => exact ⟨k + 1, _, h, k, by omega, by omega, by go_num, HPV.out, rfl, rfl, HNW, rfl⟩
      · have hnw : hp = fHop (findL L a (k + 1)) ∧ lg = fLen (findL L a (k + 1)) := by rw [HN.out, if_neg h0]; exact hbest.out
        have HNW := Lib.hid hnw
        have d0 : decide (0 ≤ h) = false := decide_eq_false h0
        clear hnw
        by_cases h16 : k = 16
        · have e16 : ((k : Int) == 16) = true := by simp; omega
          have HFIN : Hid (hp = fHop (findL L a 17) ∧ lg = fLen (findL L a 17)) := Lib.hid (by have := HNW.out; rw [h16] at this; exact this)
          clear hk h16
          by_cases hneg : hp < 0
          · have d3 : decide (hp < 0) = true := decide_eq_true hneg
            have hres : findR L (a : Int) = (0, 0, 5) := by
              unfold findR
              rw [if_neg (by omega), Int.toNat_natCast]
              have hf := HFIN.out
              cases hc : findL L a 17 with
              | none => rfl
              | some x => rw [hc] at hf; have : hp = (x.1 : Int) := hf.1; omega
            have HRES := Lib.hid hres
            clear hres hneg
            go_wp2
            go_ret3
            exact ⟨by rw [HRES.out]; rfl, HBW.out⟩
          · have d3 : decide (hp < 0) = false := decide_eq_false hneg
            have hres : findR L (a : Int) = (hp, lg, 0) := by
              unfold findR
              rw [if_neg (by omega), Int.toNat_natCast]
              have hf := HFIN.out
              cases hc : findL L a 17 with
              | none => rw [hc] at hf; have : hp = -1 := hf.1; omega
              | some x => rw [hc] at hf; have h1 : hp = (x.1 : Int) := hf.1; have h2 : lg = (x.2 : Int) := hf.2; simp only [h1, h2]
            have HRES := Lib.hid hres
            clear hres hneg
            go_wp2
            go_ret3
            exact ⟨by rw [HRES.out]; rfl, HBW.out⟩
        · have e16 : ((k : Int) == 16) = false := by simp; omega
          have ck := kid_cell (h := h) c0 c1 (lpb a k)
          have hkn : T.sub (lpPath a (k + 1)) = (LT.node b h l r).kid (lpb a k) := by rw [path_next, hk]
          rw [← hkn] at ck
          have HBIT := Lib.hid (fun w' => lpbit_any a k w' ha (by omega))
          rw [lpb_nat] at HBIT
          obtain ⟨y, hy⟩ : ∃ y, y = (lpb a k).toNat := ⟨_, rfl⟩
          have hy2 : y < 2 := by rw [hy]; cases lpb a k <;> decide
          rw [← hy] at HBIT ck
          obtain ⟨pv, hpv⟩ : ∃ pv, pv = (T.sub (lpPath a (k + 1))).ptr := ⟨_, rfl⟩
          rw [← hpv] at ck
          have HPV := Lib.hid hpv
          have hy0 : (0 : Int) ≤ (y : Int) := by omega
          have hy1 : (y : Int) < 2 := by omega
          clear hk hkn hy c0 c1 hpv
          go_upto_region 10 with fail
          go_quiet (first | (go_at_call 33; exact quiet_id (HBIT.out _) ⟨_, rfl⟩))
          go_wp2
          go_roundg (17 - (k + 1))
          case measure => have := HGK.out; omega
          case rel => exact ⟨k + 1, _, hp, lg, by omega, by omega, by go_num, HPV.out, rfl, rfl, HNW, rfl⟩
set_option maxHeartbeats 400000 in
theorem lpmFind_any (B tb : Nat) (L : List Rte) (F : List Ent) (a : Int) (w : World) (hs : TabS B w tb L F) :
    Calls Tryd.prog 14 #[.pointer (some ⟨tb, 0, none⟩), .int .i64 a] w fun e w' => e = .returned (.tuple #[.int .i64 (findR L a).1, .int .i64 (findR L a).2.1, errV (findR L a).2.2]) ∧ Below w.heap.size w w' := by
  by_cases h : 0 ≤ a ∧ a ≤ 65535
  · obtain ⟨x, rfl⟩ := Int.eq_ofNat_of_zero_le h.1
    exact lpmFind_in B tb L F x w (by omega) hs
  · have hr : findR L a = (0, 0, 1) := by unfold findR; rw [if_pos h]
    rw [hr]
    have HN := Lib.hid h
    clear h hs hr
    go_enter Tryd.func14, Tryd.ntmps14
    go_wp2_with fail
    refine (within_no _ _ _ _ HN.out).mono ?_
    rintro e w' ⟨rfl, rfl⟩
    go_wp2
    go_ret3
    exact ⟨rfl, Below.refl _ _⟩
end Go.Proofs.YtbcfcjecobihnaaDoor
