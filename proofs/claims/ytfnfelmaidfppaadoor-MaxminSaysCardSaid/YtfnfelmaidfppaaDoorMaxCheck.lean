/- maxmin.Check; slices.Contains. -/
import Derived.Test.YtfnfelmaidfppaaDoorMaxPlain
import Derived.Test.YtfnfelmaidfppaaDoorStp
import Derived.Test.YtfnfelmaidfppaaDoorWithin
import Derived.Test.YtfnfelmaidfppaaDoorAll
namespace Go.Proofs.YtfnfelmaidfppaaDoor
open Go.RowKit
set_option linter.unusedVariables false

theorem mem_take_next {xs : List Int} {k : Nat} {x y : Int} (h : ¬ y ∈ xs.take k) (hx : xs[k]? = some x) (hne : ¬ y = x) : ¬ y ∈ xs.take (k + 1) := by
  rw [List.take_add_one, hx]; simp; exact ⟨h, hne⟩

set_option maxHeartbeats 400000 in
theorem index_any (ao : Option Addr) (len ac B : Nat) (xs : List Int) (y : Int) (w : World) (hA : IntSl B w ao xs) (hlen : len = xs.length) (hl : xs.length ≤ 9223372036854775807) :
    Calls Tryd.prog 24 #[.slice ao len ac, .int .i64 y] w fun e w' => (∃ r : Int, e = .returned (.int .i64 r) ∧ decide (0 ≤ r) = decide (y ∈ xs)) ∧ w = w' := by
  subst hlen
  have HA := Lib.hid hA; clear hA
  go_enter Tryd.func24, Tryd.ntmps24
  go_wp2
  go_loop [8] (fun i => ∃ k : Nat, k ≤ xs.length ∧ i = .int .i64 k ∧ Hid (¬ y ∈ xs.take k)) (fun i => xs.length - (intOf i).toNat)
  case atStart => exact ⟨0, Nat.zero_le _, rfl, by simp [Hid]⟩
  case round =>
    obtain ⟨k, hk, rfl, htake⟩ := hrel
    by_cases hlt : k < xs.length
    · obtain ⟨x, hx⟩ : ∃ x, xs[k]? = some x := ⟨_, List.getElem?_eq_getElem hlt⟩
      obtain ⟨b, off, rfl, _, c1⟩ := HA.out k x hx
      have Hx := Lib.hid hx; clear hx
      by_cases hxy : y = x
      · subst hxy
        have hb : (y == y) = true := by simp
        go_wp2
        go_ret
        refine ⟨⟨_, rfl, ?_⟩, rfl⟩
        have : y ∈ xs := List.mem_iff_getElem?.2 ⟨k, Hx.out⟩
        simp [this]
      · have hb : (y == x) = false := by simp [hxy]
        go_wp2
        go_round
        case rel => exact ⟨k + 1, by omega, by go_num, mem_take_next htake.out Hx.out hxy⟩
        case measure => simp [intOf]; omega
    · have hn := htake.out
      rw [List.take_of_length_le (by omega)] at hn
      have HN := Lib.hid hn; clear hn
      go_wp2
      go_ret
      refine ⟨⟨_, rfl, ?_⟩, rfl⟩
      have := HN.out
      simp [this]

theorem contains_any (ao : Option Addr) (len ac B : Nat) (xs : List Int) (y : Int) (r : Bool) (w : World) (hA : IntSl B w ao xs) (hlen : len = xs.length) (hl : xs.length ≤ 9223372036854775807) (hr : r = decide (y ∈ xs)) :
    Calls Tryd.prog 14 #[.slice ao len ac, .int .i64 y] w fun e w' => e = .returned (.bool r) ∧ w = w' := by
  subst hlen
  have HA := Lib.hid hA; clear hA
  have HR := Lib.hid hr; clear hr
  go_enter Tryd.func14, Tryd.ntmps14
  go_wp2_with fail
  refine (index_any _ _ _ _ xs y _ HA.out rfl hl).mono ?_
  rintro e w' ⟨⟨z, rfl, hz⟩, rfl⟩
  have HZ := Lib.hid hz; clear hz
  go_wp2
  go_ret
  exact ⟨ret_bool (HZ.out.trans HR.out.symm), rfl⟩

set_option maxHeartbeats 400000 in
theorem indexB_any (g off n cap : Nat) (op : Nat → Bool) (w : World) (hc : ∀ j, j < n → w.cell? ⟨g, off + j, none⟩ = some (.bool (op j))) (hl : n ≤ 1000000) :
    Calls Tryd.prog 25 #[.slice (some ⟨g, off, none⟩) n cap, .bool true] w fun e w' => (∃ r : Int, e = .returned (.int .i64 r) ∧ decide (0 ≤ r) = (List.range n).any op) ∧ w = w' := by
  have HC := Lib.hid hc; clear hc
  go_enter Tryd.func25, Tryd.ntmps25
  go_wp2
  go_loop [8] (fun i => ∃ k : Nat, k ≤ n ∧ i = .int .i64 k ∧ Hid (∀ j, j < k → op j = false)) (fun i => n - (intOf i).toNat)
  case atStart => exact ⟨0, Nat.zero_le _, rfl, fun j hj => by omega⟩
  case round =>
    obtain ⟨k, hk, rfl, hno⟩ := hrel
    by_cases hlt : k < n
    · have c1 := HC.out k hlt
      cases ho : op k with
      | true =>
        rw [ho] at c1
        have HO := Lib.hid ho; clear ho
        go_wp2
        go_ret
        refine ⟨⟨_, rfl, ?_⟩, rfl⟩
        have : (List.range n).any op = true := by simp; exact ⟨k, hlt, HO.out⟩
        rw [this]; simp
      | false =>
        rw [ho] at c1
        have HO := Lib.hid ho; clear ho
        go_wp2
        go_round
        case rel =>
          refine ⟨k + 1, by omega, by go_num, ?_⟩
          intro j hj
          rcases Nat.lt_or_ge j k with h1 | h1
          · exact hno.out j h1
          · rw [show j = k by omega]; exact HO.out
        case measure => simp [intOf]; omega
    · have hn : (List.range n).any op = false := by
        simp
        intro j hj
        exact hno.out j (by omega)
      have HN := Lib.hid hn; clear hn
      go_wp2
      go_ret
      refine ⟨⟨_, rfl, ?_⟩, rfl⟩
      rw [HN.out]; simp

theorem containsB_any (g off n cap : Nat) (op : Nat → Bool) (r : Bool) (w : World) (hc : ∀ j, j < n → w.cell? ⟨g, off + j, none⟩ = some (.bool (op j))) (hl : n ≤ 1000000) (hr : r = (List.range n).any op) :
    Calls Tryd.prog 18 #[.slice (some ⟨g, off, none⟩) n cap, .bool true] w fun e w' => e = .returned (.bool r) ∧ w = w' := by
  have HC := Lib.hid hc; clear hc
  have HR := Lib.hid hr; clear hr
  go_enter Tryd.func18, Tryd.ntmps18
  go_wp2_with fail
  refine (indexB_any g off n cap op _ HC.out hl).mono ?_
  rintro e w' ⟨⟨z, rfl, hz⟩, rfl⟩
  have HZ := Lib.hid hz; clear hz
  go_wp2
  go_ret
  exact ⟨ret_bool (HZ.out.trans HR.out.symm), rfl⟩

/-- What is wrong with a way; with ways. -/
def wCode (m : Nat) (w : List Int) : Int := if w.length = 0 then 5 else if ¬ (∀ x ∈ w, 0 ≤ x ∧ x ≤ (m : Int) - 1) then 1 else if w.Nodup then 0 else 6
def wsCode (m : Nat) : List (List Int) → Int
  | [] => 0
  | w :: r => if wCode m w = 0 then wsCode m r else wCode m w
def mmCode (room : List Int) (ways : List (List Int)) : Int := if 6 < room.length ∨ 5 < ways.length then 4 else if ¬ (∀ x ∈ room, 0 ≤ x ∧ x ≤ 1000) then 1 else wsCode room.length ways
theorem wCode_zero {m : Nat} {w : List Int} : wCode m w = 0 ↔ w.length ≠ 0 ∧ (∀ x ∈ w, 0 ≤ x ∧ x ≤ (m : Int) - 1) ∧ w.Nodup := by
  unfold wCode
  by_cases h1 : w.length = 0
  · rw [if_pos h1]; constructor
    · intro h; omega
    · intro h; exact absurd h1 h.1
  · rw [if_neg h1]
    by_cases h2 : ∀ x ∈ w, 0 ≤ x ∧ x ≤ (m : Int) - 1
    · rw [if_neg (by simpa using h2)]
      by_cases h3 : w.Nodup
      · rw [if_pos h3]; exact ⟨fun _ => ⟨h1, h2, h3⟩, fun _ => rfl⟩
      · rw [if_neg h3]; exact ⟨fun h => by omega, fun h => absurd h.2.2 h3⟩
    · rw [if_pos h2]; exact ⟨fun h => by omega, fun h => absurd h.2.1 h2⟩
theorem wsCode_zero {m : Nat} : ∀ {ws : List (List Int)}, wsCode m ws = 0 ↔ ∀ w ∈ ws, w.length ≠ 0 ∧ (∀ x ∈ w, 0 ≤ x ∧ x ≤ (m : Int) - 1) ∧ w.Nodup
  | [] => by simp [wsCode]
  | w :: r => by
    rw [wsCode, List.forall_mem_cons]
    by_cases h : wCode m w = 0
    · rw [if_pos h, wsCode_zero]; exact ⟨fun h2 => ⟨wCode_zero.1 h, h2⟩, fun h2 => h2.2⟩
    · rw [if_neg h]; exact ⟨fun h2 => absurd h2 h, fun h2 => absurd (wCode_zero.2 h2.1) h⟩
theorem wsCode_step {m : Nat} {ws : List (List Int)} {k : Nat} {w : List Int} (hw : ws[k]? = some w) : wsCode m (ws.drop k) = if wCode m w = 0 then wsCode m (ws.drop (k + 1)) else wCode m w := by
  have hk := List.getElem?_eq_some_iff.1 hw
  rw [List.drop_eq_getElem_cons hk.1, hk.2, wsCode]
/-- The arguments that Share takes. -/
structure MmOk (room : List Int) (ways : List (List Int)) : Prop where
  links : room.length ≤ 6
  few : ways.length ≤ 5
  rooms : ∀ x ∈ room, 0 ≤ x ∧ x ≤ 1000
  each : ∀ w ∈ ways, w.length ≠ 0 ∧ (∀ x ∈ w, 0 ≤ x ∧ x ≤ (room.length : Int) - 1) ∧ w.Nodup
theorem mmCode_zero {room : List Int} {ways : List (List Int)} : mmCode room ways = 0 ↔ MmOk room ways := by
  unfold mmCode
  by_cases h1 : 6 < room.length ∨ 5 < ways.length
  · rw [if_pos h1]; exact ⟨fun h => by omega, fun h => by have := h.links; have := h.few; omega⟩
  · rw [if_neg h1]
    by_cases h2 : ∀ x ∈ room, 0 ≤ x ∧ x ≤ 1000
    · rw [if_neg (by simpa using h2), wsCode_zero]
      exact ⟨fun h => ⟨by omega, by omega, h2, h⟩, fun h => h.each⟩
    · rw [if_pos h2]; exact ⟨fun h => by omega, fun h => absurd h.rooms h2⟩
theorem nodup_take_succ {xs : List Int} {k : Nat} {x : Int} (h : (xs.take k).Nodup) (hx : xs[k]? = some x) (hn : ¬ x ∈ xs.take k) : (xs.take (k + 1)).Nodup := by
  rw [List.take_add_one, hx, List.nodup_append]
  exact ⟨h, by simp, fun a ha b hb => by simp at hb; subst hb; exact fun e => hn (e ▸ ha)⟩
theorem not_nodup {xs : List Int} {k : Nat} {x : Int} (hx : xs[k]? = some x) (hn : x ∈ xs.take k) : ¬ xs.Nodup := by
  intro h
  have h2 : (xs.take (k + 1)).Nodup := h.sublist (List.take_sublist _ _)
  rw [List.take_add_one, hx, List.nodup_append] at h2
  exact h2.2.2 x hn x (by simp) rfl

set_option maxHeartbeats 1000000 in
theorem mmCheck_any (ro : Option Addr) (rl rc : Nat) (room : List Int) (ao : Option Addr) (len ac B : Nat) (rs : List Stp) (w : World) (hM : IntSl B w ro room) (hrl : rl = room.length) (hrm : room.length ≤ 9223372036854775807)
    (hA : RowSl B w ao 1 (rs.map stpC)) (hr : StpsOk B w rs) (hlen : len = rs.length) (hl : rs.length ≤ 9223372036854775807) :
    Calls Tryd.prog 6 #[.slice ro rl rc, .slice ao len ac] w fun e w' => e = .returned (errV (mmCode room (rowsOf rs))) ∧ w = w' := by
  subst hlen hrl
  have HM := Lib.hid hM; clear hM
  have HA := Lib.hid hA; clear hA
  have HR := Lib.hid hr; clear hr
  obtain ⟨c, hc⟩ : ∃ c, c = mmCode room (rowsOf rs) := ⟨_, rfl⟩
  rw [← hc]
  unfold mmCode at hc
  rw [rowsOf_len] at hc
  by_cases h6 : 6 < room.length
  · rw [if_pos (Or.inl h6)] at hc
    subst hc
    rw [errV_not (by decide)]
    have hd : decide ((6 : Int) < (room.length : Int)) = true := decide_eq_true (by omega)
    go_enter Tryd.func6, Tryd.ntmps6
    go_wp2
    go_ret
    exact ⟨rfl, rfl⟩
  by_cases h5 : 5 < rs.length
  · rw [if_pos (Or.inr h5)] at hc
    subst hc
    rw [errV_not (by decide)]
    have hd : decide ((6 : Int) < (room.length : Int)) = false := decide_eq_false (by omega)
    have hd2 : decide ((5 : Int) < (rs.length : Int)) = true := decide_eq_true (by omega)
    go_enter Tryd.func6, Tryd.ntmps6
    go_wp2
    go_ret
    exact ⟨rfl, rfl⟩
  rw [if_neg (by omega)] at hc
  have hd : decide ((6 : Int) < (room.length : Int)) = false := decide_eq_false (by omega)
  have hd2 : decide ((5 : Int) < (rs.length : Int)) = false := decide_eq_false (by omega)
  by_cases hall : ∀ x ∈ room, 0 ≤ x ∧ x ≤ 1000
  · rw [if_neg (by simpa using hall)] at hc
    have HC := Lib.hid hc; clear hc
    have HAL := Lib.hid hall; clear hall
    obtain ⟨v, hv⟩ : ∃ v, v = errV c := ⟨_, rfl⟩
    rw [← hv]
    have HV := Lib.hid hv; clear hv
    go_enter Tryd.func6, Tryd.ntmps6
    go_wp2_with (go_at_call 13; refine (all_any _ _ _ _ room 0 1000 true _ HM.out rfl hrm (by simpa using HAL.out)).mono ?_; rintro e w' ⟨rfl, rfl⟩)
    go_loop [24] (fun i => ∃ k : Nat, k ≤ rs.length ∧ i = .int .i64 k ∧ Hid (wsCode room.length ((rowsOf rs).drop k) = c)) (fun i => rs.length - (intOf i).toNat)
    case atStart => exact ⟨0, Nat.zero_le _, rfl, by rw [HC.out]; rfl⟩
    case round =>
      obtain ⟨k, hk, rfl, hcode⟩ := hrel
      by_cases hlt : k < rs.length
      · obtain ⟨⟨ra, rc', xs⟩, hrk⟩ : ∃ r, rs[k]? = some r := ⟨_, List.getElem?_eq_getElem hlt⟩
        obtain ⟨b, off, rfl, hbb, c0⟩ := rows_at HA.out hrk
        obtain ⟨hi, hrl, hrm2⟩ := HR.out _ (List.mem_iff_getElem?.2 ⟨k, hrk⟩)
        simp only at hi hrl hrm2 c0
        unfold maxLen at hrm2
        have hst := hcode.out
        rw [wsCode_step (rowsOf_get hrk)] at hst
        simp only at hst
        have HI := Lib.hid hi; clear hi
        have HRK := Lib.hid hrk; clear hrk
        by_cases h0 : xs.length = 0
        · have hq : wCode room.length xs = 5 := if_pos h0
          rw [hq, if_neg (by decide)] at hst
          have hve : v = .iface 36 (.int .i64 5) := by rw [HV.out, ← hst, errV_not (by decide)]
          have HVE := Lib.hid hve; clear hve hst hq
          have hd8 : ((xs.length : Int) == 0) = true := by simp [h0]
          have H0 := Lib.hid h0; clear h0
          go_wp2
          go_ret
          exact ⟨by first | exact HVE.out.symm | exact congrArg _ HVE.out.symm, rfl⟩
        · have hd8 : ((xs.length : Int) == 0) = false := by simp; intro e; simp [e] at h0
          by_cases hal : ∀ x ∈ xs, 0 ≤ x ∧ x ≤ (room.length : Int) - 1
          · have hq2 : wCode room.length xs = if xs.Nodup then 0 else 6 := by unfold wCode; rw [if_neg h0, if_neg (by simpa using hal)]
            rw [hq2] at hst
            have HST := Lib.hid hst; clear hst hq2
            have HAL2 := Lib.hid hal; clear hal
            have H0 := Lib.hid h0; clear h0
            go_wp2_with (go_at_call 13; refine (all_any _ _ _ _ xs 0 ((room.length : Int) - 1) true _ HI.out rfl (by omega) (by have := HAL2.out; simpa using this)).mono ?_; rintro e w' ⟨rfl, rfl⟩)
            go_loop [41] (fun i => ∃ j : Nat, j ≤ xs.length ∧ i = .int .i64 j ∧ Hid ((xs.take j).Nodup)) (fun i => xs.length - (intOf i).toNat)
            case atStart => exact ⟨0, Nat.zero_le _, rfl, by simp [Hid]⟩
            case round =>
              obtain ⟨j, hj, rfl, hnd⟩ := hrel
              by_cases hjl : j < xs.length
              · obtain ⟨x, hx⟩ : ∃ x, xs[j]? = some x := ⟨_, List.getElem?_eq_getElem hjl⟩
                obtain ⟨b2, o2, rfl, _, cx⟩ := HI.out j x hx
                have HX := Lib.hid hx; clear hx
                have HTK := Lib.hid (HI.out.take (k := j))
                have hjc : j ≤ rc' := by omega
                by_cases hm : x ∈ xs.take j
                · have hnn := not_nodup HX.out hm
                  have hst := HST.out
                  rw [if_neg hnn, if_neg (by decide)] at hst
                  have hve : v = .iface 36 (.int .i64 6) := by rw [HV.out, ← hst, errV_not (by decide)]
                  have HVE := Lib.hid hve; clear hve hst hnn
                  have HM2 := Lib.hid hm; clear hm
                  go_wp2_with (go_at_call 14; refine (contains_any _ _ _ _ (xs.take j) x true _ HTK.out (by simp; omega) (by simp; omega) (by have := HM2.out; simpa using this)).mono ?_; rintro e w' ⟨rfl, rfl⟩)
                  go_ret
                  exact ⟨by first | exact HVE.out.symm | exact congrArg _ HVE.out.symm, rfl⟩
                · have HM2 := Lib.hid hm; clear hm
                  go_wp2_with (go_at_call 14; refine (contains_any _ _ _ _ (xs.take j) x false _ HTK.out (by simp; omega) (by simp; omega) (by have := HM2.out; simpa using this)).mono ?_; rintro e w' ⟨rfl, rfl⟩)
                  go_round
                  case rel => exact ⟨j + 1, by omega, by go_num, nodup_take_succ hnd.out HX.out HM2.out⟩
                  case measure => simp [intOf]; omega
              · have hst := HST.out
                have hn := hnd.out
                rw [List.take_of_length_le (by omega)] at hn
                rw [if_pos hn, if_pos rfl] at hst
                have HST2 := Lib.hid hst; clear hst hn
                go_wp2
                go_round
                case rel => exact ⟨k + 1, by omega, by go_num, HST2.out⟩
                case measure => simp [intOf]; omega
          · have hq : wCode room.length xs = 1 := by unfold wCode; rw [if_neg h0, if_pos hal]
            rw [hq, if_neg (by decide)] at hst
            have hve : v = .iface 36 (.int .i64 1) := by rw [HV.out, ← hst, errV_not (by decide)]
            have HVE := Lib.hid hve; clear hve hst hq
            have HAL2 := Lib.hid hal; clear hal
            have H0 := Lib.hid h0; clear h0
            go_wp2_with (go_at_call 13; refine (all_any _ _ _ _ xs 0 ((room.length : Int) - 1) false _ HI.out rfl (by omega) (by have := HAL2.out; simpa using this)).mono ?_; rintro e w' ⟨rfl, rfl⟩)
            go_ret
            exact ⟨by first | exact HVE.out.symm | exact congrArg _ HVE.out.symm, rfl⟩
      · have hc0 : c = 0 := by
          have := hcode.out
          rw [List.drop_of_length_le (by rw [rowsOf_len]; omega)] at this
          exact this.symm
        have hve : v = .nilIface := by rw [HV.out, hc0]; rfl
        have HVE := Lib.hid hve; clear hve
        have HC0 := Lib.hid hc0; clear hc0
        go_wp2
        go_ret
        exact ⟨by first | exact HVE.out.symm | exact congrArg _ HVE.out.symm, rfl⟩
  · rw [if_pos hall] at hc
    subst hc
    rw [errV_not (by decide)]
    have HAL := Lib.hid hall; clear hall
    go_enter Tryd.func6, Tryd.ntmps6
    go_wp2_with (go_at_call 13; refine (all_any _ _ _ _ room 0 1000 false _ HM.out rfl hrm (by have := HAL.out; simpa using this)).mono ?_; rintro e w' ⟨rfl, rfl⟩)
    go_ret
    exact ⟨rfl, rfl⟩
end Go.Proofs.YtfnfelmaidfppaaDoor
