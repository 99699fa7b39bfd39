/- ring.Gap: how many others send between two things of one station. -/
import Derived.Test.YtommedhaaojgiaaDoorRingRun
import Derived.Maps.OwnSet
import Derived.WalkKit
namespace Go.Proofs.YtommedhaaojgiaaDoor
open Go.RowKit Go.Maps
set_option linter.unusedVariables false

theorem keyInt : Keyed Tryd.prog 3 := int_keyed Tryd.underlying3
theorem zeroInt (w : World) : (zeroValue 3).run Tryd.prog w = .ok (.int .i64 0) w := by kernel_rfl

/-- What the map holds: the last place of each. -/
def LastIs (D : DataW Unit) (last : Int → Option Nat) (k : Nat) : Prop :=
  ∀ y : Int, match last y with
    | some q => q < k ∧ Maps.has D (.int .i64 y) = true ∧ D.atKey (.int .i64 y) (.lit (.int .i64 0)) = .lit (.int .i64 (q : Int))
    | none => Maps.has D (.int .i64 y) = false

theorem LastIs.put {D : DataW Unit} {last : Int → Option Nat} {k : Nat} {x : Int} (h : LastIs D last k) (hD : IsMap D) : LastIs (D.put (.int .i64 x) (.lit (.int .i64 (k : Int)))) (fun y => if y = x then some k else last y) (k + 1) := by
  intro y
  have hy := h y
  by_cases e : y = x
  · subst e
    simp only [if_pos]
    exact ⟨by omega, has_put_same hD (show WideAt.IsKeyLit (.int .i64 y) from trivial) _, atKey_put_same hD (show WideAt.IsKeyLit (.int .i64 y) from trivial) _ _⟩
  · simp only [if_neg e]
    have hne : Lit.int .i64 y ≠ Lit.int .i64 x := by simpa using e
    rw [has_put_other hne, atKey_put_other hne]
    cases hl : last y with
    | none => rw [hl] at hy; exact hy
    | some q => rw [hl] at hy; exact ⟨by have := hy.1; omega, hy.2.1, hy.2.2⟩

theorem gap_fst (l : List Int) : ∀ s, (l.foldl gstep s).1 = s.1 + l.length := by
  induction l with
  | nil => intro s; rfl
  | cons x r ih => intro s; rw [List.foldl_cons, ih]; simp [gstep]; omega

theorem ringOut_mem {ws : List Int} {h : Nat} {x : Int} (hx : x ∈ ringOut ws h) : 0 ≤ x ∧ x < ws.length := by
  obtain ⟨i, hi, rfl⟩ := turns_mem hx; omega
theorem ringOut_len {ws : List Int} {h : Nat} (hw : ∀ x ∈ ws, 0 ≤ x ∧ x ≤ 20) (hn : ws.length ≤ 8) : (ringOut ws h).length ≤ 320 := by
  rw [ringOut_now]; exact ringNow_len hw hn (Nat.zero_le _)

theorem ringGap_err (ao : Option Addr) (len ac B : Nat) (ws : List Int) (h c : Int) (w : World) (hA : IntSl B w ao ws) (hlen : len = ws.length) (hl : ws.length ≤ 9223372036854775807) (hb : RingBad ws h c) :
    Calls Tryd.prog 30 #[.slice ao len ac, .int .i64 h] w fun e w' => e = .returned (.tuple #[.int .i64 0, .iface 62 (.int .i64 c)]) ∧ w = w' := by
  subst hlen
  have HA := Lib.hid hA; clear hA
  have HB := Lib.hid hb; clear hb
  go_enter Tryd.func30, Tryd.ntmps30
  go_wp2_with fail
  refine (ringRun_err _ _ _ _ ws h c _ HA.out rfl hl HB.out).mono ?_
  rintro e w' ⟨rfl, rfl⟩
  go_wp2
  go_ret2
  exact ⟨rfl, rfl⟩

set_option maxRecDepth 100000 in
set_option maxHeartbeats 1000000 in
theorem ringGap_ok (ao : Option Addr) (len ac B : Nat) (ws : List Int) (h : Int) (w : World) (hA : IntSl B w ao ws) (hlen : len = ws.length) (hB : B ≤ w.heap.size) (hok : RingOk ws h) :
    Calls Tryd.prog 30 #[.slice ao len ac, .int .i64 h] w fun e w' => e = .returned (.tuple #[.int .i64 (gapOf (ringOut ws h.toNat)), .nilIface]) ∧ Below w.heap.size w w' := by
  subst hlen
  have HA := Lib.hid hA; clear hA
  have HOK := Lib.hid hok; clear hok
  have hmm := @run_makeMap Tryd.prog
  obtain ⟨l, hl⟩ : ∃ l, l = ringOut ws h.toNat := ⟨_, rfl⟩
  have hll : l.length ≤ 320 := by rw [hl]; exact ringOut_len HOK.out.all HOK.out.few
  have hlm : ∀ x ∈ l, 0 ≤ x ∧ x < 8 := fun x hx => by rw [hl] at hx; have := ringOut_mem hx; have := HOK.out.few; omega
  rw [← hl]
  have HL := Lib.hid hl; clear hl
  have HLM := Lib.hid hlm; clear hlm
  go_enter Tryd.func30, Tryd.ntmps30
  go_wp2_with fail
  refine (ringRun_ok _ _ _ _ ws h _ HA.out rfl hB HOK.out).mono ?_
  rintro e w1 ⟨va, rfl, hs, hb⟩
  rw [← HL.out] at hs
  obtain ⟨ao1, c1, rfl, _, _⟩ := hs.intsShape (A := []) (C := [])
  have hX := hs.intSl (A := []) (C := [])
  have HX := Lib.hid hX; clear hX hs
  have HB := Lib.hid hb; clear hb
  go_wp2
  go_loopw [9, 26] (fun mo i wr => ∃ (k g : Nat) (last : Int → Option Nat) (D : DataW Unit), k ≤ l.length ∧ i = .int .i64 k ∧ mo = .int .i64 g ∧ g ≤ k ∧ Hid ((l.take k).foldl gstep (0, fun _ => none, 0) = (k, last, g)) ∧
    Hid (LastIs D last k) ∧ wr.ownsMap Tryd.prog 3 (plainElem (H := Unit) Tryd.prog 3) w1.heap.size k D ∧ Below w1.heap.size w1 wr) (fun _ i _ => l.length - (intOf i).toNat)
  case atStart =>
    exact ⟨0, 0, fun _ => none, .map [], Nat.zero_le _, rfl, rfl, Nat.le_refl _, rfl, fun y => rfl, World.ownsMap_made _ _ _ _, (Below.refl _ _).alloc (Nat.le_refl _) _⟩
  case round =>
    obtain ⟨k, g, last, D, hk, rfl, rfl, hg, hst, hla, hown, hbel⟩ := hrel
    by_cases hlt : k < l.length
    · obtain ⟨x, hx⟩ : ∃ x, l[k]? = some x := ⟨_, List.getElem?_eq_getElem hlt⟩
      obtain ⟨b, off, rfl, hbb, hc⟩ := HX.out k x hx
      have hcx : wr.cell? ⟨b, off + k, none⟩ = some (.int .i64 x) := (hbel.cell (p := ⟨b, off + k, none⟩) hbb).trans hc
      have hxb := HLM.out x (List.mem_iff_getElem?.2 ⟨k, hx⟩)
      have hwf : (Lit.int .i64 x).wf = true := WalkArith.wf_i64 (by omega)
      have hwk : (Lit.int .i64 (k : Int)).wf = true := WalkArith.wf_i64 (by omega)
      have hkey : keyOf Tryd.prog 3 (.int .i64 x) = some (.int .i64 x) := keyOf_int_mk Tryd.underlying3 hwf
      have hnext : (l.take (k + 1)).foldl gstep (0, fun _ => none, 0) = gstep (k, last, g) x := by
        rw [List.take_add_one, hx, List.foldl_append, hst.out]; rfl
      have HN := Lib.hid hnext; clear hnext
      have HKEY := Lib.hid hkey; clear hkey
      have HWF := Lib.hid hwf; clear hwf
      have HWK := Lib.hid hwk; clear hwk
      have HP := Lib.hid (hla.out.put (x := x) (hown.isMap)); 
      have hlx := hla.out x
      have HO := Lib.hid hown; clear hown
      have HBL := Lib.hid hbel; clear hbel
      have Hx := Lib.hid hx; clear hx
      cases hq : last x with
      | none =>
        rw [hq] at hlx
        have hlx2 : Maps.has D (.int .i64 x) = false := hlx
        have Hq := Lib.hid hq; clear hq hlx
        go_wp2_with (first
          | (at_lookup; refine wpList_lookup_own_ok_int _ rfl _ _ 73 rfl 3 3 .i64 keyInt Tryd.underlying73 Tryd.underlying3 (zeroInt _) w1.heap.size k _ rfl HO.out _ _ rfl HKEY.out ?_; intro c hat hwc)
          | (at_mapUpdate; refine wpList_mapUpdate_own _ rfl _ _ _ 73 rfl 3 3 keyInt Tryd.underlying73 _ w1.heap.size k _ rfl HO.out (by unfold maxLen; omega) _ _ _ rfl rfl HKEY.out _ [] (plainElem_int Tryd.underlying3 HWK.out) ?_; intro w2 hown2 hgrow2))
        go_roundw
        case rel =>
          refine ⟨k + 1, g, _, _, by omega, by go_num, rfl, by omega, ?_, HP.out, hown2, HBL.out.grown hgrow2 HBL.out.size (fun j hj => by cases hj; exact Nat.le_refl _)⟩
          show _ = _
          rw [HN.out]; simp [gstep, Hq.out]
        case measure => simp [intOf]; omega
      | some q =>
        rw [hq] at hlx
        obtain ⟨q1, q2, q3⟩ := hlx
        have Hq := Lib.hid hq; clear hq
        have Q3 := Lib.hid q3; clear q3
        go_wp2_with (first
          | (at_lookup; refine wpList_lookup_own_ok_int _ rfl _ _ 73 rfl 3 3 .i64 keyInt Tryd.underlying73 Tryd.underlying3 (zeroInt _) w1.heap.size k _ rfl HO.out _ _ rfl HKEY.out ?_; intro c hat hwc; rw [Q3.out] at hat; obtain rfl : (q : Int) = c := by simpa using hat)
          | (at_mapUpdate; refine wpList_mapUpdate_own _ rfl _ _ _ 73 rfl 3 3 keyInt Tryd.underlying73 _ w1.heap.size k _ rfl HO.out (by unfold maxLen; omega) _ _ _ rfl rfl HKEY.out _ [] (plainElem_int Tryd.underlying3 HWK.out) ?_; intro w2 hown2 hgrow2))
        go_roundw
        case rel =>
          refine ⟨k + 1, max g (k - q - 1), _, _, by omega, by go_num, ?_, by omega, ?_, HP.out, hown2, HBL.out.grown hgrow2 HBL.out.size (fun j hj => by cases hj; exact Nat.le_refl _)⟩
          · congr 1
            by_cases hgk : (g : Int) < (k : Int) - (q : Int) - 1
            · rw [if_pos hgk]; omega
            · rw [if_neg hgk]; omega
          · show _ = _
            rw [HN.out]; simp [gstep, Hq.out]
        case measure => simp [intOf]; omega
    · have hfin : gapOf l = g := by
        have h1 := hst.out
        rw [List.take_of_length_le (by omega)] at h1
        unfold gapOf; rw [h1]
      have HF := Lib.hid hfin; clear hfin
      go_wp2
      go_ret2
      exact ⟨by have := HF.out; simp [this], HB.out.trans (hbel.mono HB.out.size)⟩
end Go.Proofs.YtommedhaaojgiaaDoor
