/- A switch that has heard some: of whatever steps a table that is in order. -/
import Derived.Test.YtommedhaaojgiaaDoorLearnDown
import Derived.Test.YtommedhaaojgiaaDoorStp
namespace Go.Proofs.YtommedhaaojgiaaDoor
open Go.RowKit
set_option linter.unusedVariables false

structure Good (T : Tab) : Prop where
  len : T.length ≤ 8
  nd : (T.map (·.1)).Nodup
  bd : ∀ x ∈ T, (0 ≤ x.1 ∧ x.1 ≤ 65535) ∧ 0 ≤ x.2 ∧ x.2 ≤ 3

theorem gone_sub (T : Tab) (a : Int) : (gone T a).Sublist T := by
  unfold gone
  cases tfind T a with
  | none => exact List.Sublist.refl _
  | some k =>
    have h : (T.drop (k + 1)).Sublist (T.drop k) := by
      rw [← List.drop_drop]
      exact List.drop_sublist _ _
    have h2 := (List.Sublist.refl (T.take k)).append h
    rwa [List.take_append_drop] at h2
/-- Where no address stands twice none is left of the one that is taken out. -/
theorem gone_not {T : Tab} {a : Int} (h : (T.map (·.1)).Nodup) : ∀ x ∈ gone T a, x.1 ≠ a := by
  unfold gone
  cases hf : tfind T a with
  | none => exact tfind_none.1 hf
  | some k =>
    obtain ⟨p, h1, _, h3⟩ := tfind_some hf
    intro x hx
    rcases List.mem_append.1 hx with h2 | h2
    · obtain ⟨j, hj⟩ := List.mem_iff_getElem?.1 h2
      rw [List.getElem?_take] at hj
      split at hj
      · exact h3 j x ‹_› hj
      · cases hj
    · obtain ⟨j, hj⟩ := List.mem_iff_getElem?.1 h2
      rw [List.getElem?_drop] at hj
      intro e
      have g1 : (T.map (·.1))[k]? = some a := by rw [List.getElem?_map, h1]; rfl
      have g2 : (T.map (·.1))[k + 1 + j]? = some a := by rw [List.getElem?_map, hj]; simp [e]
      have hlt : k < (T.map (·.1)).length := (List.getElem?_eq_some_iff.1 g1).1
      have := (List.getElem?_inj hlt h).1 (g1.trans g2.symm)
      omega
theorem Good.nil : Good [] := ⟨by decide, by decide, by simp⟩
theorem Good.heard {T : Tab} (h : Good T) {a t p : Int} (hv : Valid a t p) : Good (heardT T a p) := by
  have hs := gone_sub T a
  have hn := gone_not (a := a) h.nd
  have hl : (gone T a).length ≤ 8 := Nat.le_trans hs.length_le h.len
  have hnd : ((gone T a ++ [(a, p)]).map (·.1)).Nodup := by
    rw [List.map_append, List.nodup_append]
    refine ⟨(hs.map _).nodup h.nd, by simp, ?_⟩
    intro x hx y hy
    obtain ⟨z, hz, rfl⟩ := List.mem_map.1 hx
    simp at hy
    subst hy
    exact hn z hz
  have hbd : ∀ x ∈ gone T a ++ [(a, p)], (0 ≤ x.1 ∧ x.1 ≤ 65535) ∧ 0 ≤ x.2 ∧ x.2 ≤ 3 := by
    intro x hx
    rcases List.mem_append.1 hx with h1 | h1
    · exact h.bd x (hs.mem h1)
    · simp at h1; subst h1; exact ⟨hv.1, hv.2.2⟩
  unfold heardT
  split
  · refine ⟨by rw [List.length_drop, List.length_append]; simp; omega, ?_, fun x hx => hbd x (List.mem_of_mem_drop hx)⟩
    rw [List.map_drop]
    exact (List.drop_sublist _ _).nodup hnd
  · rename_i hlt
    exact ⟨by omega, hnd, hbd⟩
theorem Good.down {T : Tab} (h : Good T) (p : Int) : Good (downT T p) :=
  ⟨Nat.le_trans (downT_len T p) h.len, ((List.filter_sublist).map _).nodup h.nd, fun x hx => h.bd x (List.mem_filter.1 hx).1⟩

set_option maxRecDepth 100000 in
set_option maxHeartbeats 1000000 in
theorem heard_any (ao : Option Addr) (ac : Nat) (rs : List Stp) (w : World) (hA : RowSl w.heap.size w ao 1 (rs.map stpC)) (hac : rs.length ≤ ac) (hmax : ac ≤ 9223372036854775807) (hr : StpsOk w.heap.size w rs) :
    Calls Tryd.prog 8 #[.slice ao rs.length ac] w fun e w' => ∃ g v T, e = .returned (.pointer (some ⟨g, 0, none⟩)) ∧ Good T ∧ Sep w.heap.size w' (swE g v T) ∧ Below w.heap.size w w' := by
  have HA := Lib.hid hA; clear hA
  have HR := Lib.hid hr; clear hr
  go_enter Tryd.func8, Tryd.ntmps8
  go_wp2_with fail
  refine (learnNew_any _).mono ?_
  rintro e w1 ⟨g, rfl, hs, hb⟩
  have HS1 := Lib.hid hs; clear hs
  have HB1 := Lib.hid hb; clear hb
  go_wp2_with fail
  go_loopw [4] (fun x wr => ∃ (k : Nat) (v : Value) (T : Tab), k ≤ rs.length ∧ x = .int .i64 k ∧ Hid (Good T) ∧ Sep w.heap.size wr (swE g v T ++ []) ∧ Below w.heap.size w wr) (fun x _ => rs.length - (intOf x).toNat)
  case atStart => exact ⟨0, _, [], Nat.zero_le _, rfl, Good.nil, HS1.out, HB1.out⟩
  case round =>
    obtain ⟨k, v, T, hk, rfl, hg, hs, hb⟩ := hrel
    have HS := Lib.hid hs; clear hs
    have HB := Lib.hid hb; clear hb
    by_cases hlt : k < rs.length
    · by_cases h60 : k < 60
      · have hd60 : decide ((k : Int) < 60) = true := by simp; omega
        obtain ⟨r, hrk⟩ : ∃ r, rs[k]? = some r := ⟨_, List.getElem?_eq_getElem hlt⟩
        obtain ⟨hi, hrl, hrm⟩ := (HR.out.below HB.out) r (List.mem_iff_getElem?.2 ⟨k, hrk⟩)
        obtain ⟨b, off, rfl, hbb, hc⟩ := (HA.out.below HB.out) k (stpC r) (by rw [List.getElem?_map, hrk]; rfl)
        have c0 := hc 0 _ rfl
        clear hc
        simp only [Nat.mul_one, Nat.add_zero] at c0
        obtain ⟨ra, rc, xs⟩ := r
        simp only at hi hrl hrm c0
        have HI := Lib.hid hi; clear hi
        have HRK := Lib.hid hrk; clear hrk
        by_cases h3 : xs.length = 3
        · obtain ⟨x0, x1, x2, rfl⟩ : ∃ x0 x1 x2, xs = [x0, x1, x2] := by
            match xs, h3 with
            | [x0, x1, x2], _ => exact ⟨x0, x1, x2, rfl⟩
          simp only [List.length_cons, List.length_nil, Nat.zero_add, Nat.reduceAdd] at c0
          obtain ⟨b2, off2, rfl, _, i0⟩ := HI.out 0 x0 rfl
          obtain ⟨b2', off2', he1, _, i1⟩ := HI.out 1 x1 rfl
          obtain ⟨b2'', off2'', he2, _, i2⟩ := HI.out 2 x2 rfl
          simp only [Option.some.injEq, Addr.mk.injEq, and_true] at he1 he2
          obtain ⟨rfl, rfl⟩ := he1
          obtain ⟨rfl, rfl⟩ := he2
          simp only [Nat.add_zero] at i0
          clear h3
          go_wp2_with fail
          go_still_tail 19, (by kernel_rfl)
          change wpList _ _ _ _ _ wr.drew
          have HSD := Lib.hid HS.out.drew
          have HWD := Lib.hid (below_drew w.heap.size wr)
          have HBD := Lib.hid (HB.out.trans HWD.out)
          generalize wr.drew = w2 at *
          by_cases hv : Valid x0 x1 x2
          · have HV := Lib.hid hv; clear hv
            go_wp2_with fail
            refine (frame_ok _ g v T [] x0 x1 x2 _ HV.out.1 HV.out.2.1 HV.out.2.2 hg.out.len HSD.out HBD.out.size).mono ?_
            rintro e w3 ⟨lv, v', rfl, hs3, hb3⟩
            have HS3 := Lib.hid (hs3.sub (List.sublist_cons_self _ _)); clear hs3
            have c0' := ((HWD.out.trans hb3).cell (p := ⟨b, off + k, none⟩) hbb).trans c0
            have HB3 := Lib.hid (HBD.out.trans hb3); clear hb3
            go_wp2
            go_roundw
            case rel => exact ⟨k + 1, v', _, by omega, by go_num, hg.out.heard HV.out, HS3.out, HB3.out⟩
            case measure => simp [intOf]; omega
          · have HV := Lib.hid hv; clear hv
            go_wp2_with fail
            refine (frame_no _ x0 x1 x2 _ HV.out).mono ?_
            rintro e w3 ⟨rfl, rfl⟩
            have c0' := (HWD.out.cell (p := ⟨b, off + k, none⟩) hbb).trans c0
            go_wp2
            go_roundw
            case rel => exact ⟨k + 1, v, T, by omega, by go_num, hg, HSD.out, HBD.out⟩
            case measure => simp [intOf]; omega
        · have hq3 : ((xs.length : Int) == 3) = false := by simp; omega
          by_cases h1 : xs.length = 1
          · obtain ⟨x0, rfl⟩ : ∃ x0, xs = [x0] := by
              match xs, h1 with
              | [x0], _ => exact ⟨x0, rfl⟩
            simp only [List.length_cons, List.length_nil, Nat.zero_add] at c0
            obtain ⟨b2, off2, rfl, _, i0⟩ := HI.out 0 x0 rfl
            simp only [Nat.add_zero] at i0
            clear h3 h1 hq3
            by_cases hv : 0 ≤ x0 ∧ x0 ≤ 3
            · have HV := Lib.hid hv; clear hv
              go_wp2_with fail
              refine (down_ok _ g v T [] x0 _ HV.out hg.out.len HS.out HB.out.size).mono ?_
              rintro e w3 ⟨rfl, ⟨v', hs3⟩, hb3⟩
              have HS3 := Lib.hid hs3; clear hs3
              have HB3 := Lib.hid (HB.out.trans hb3); clear hb3
              go_wp2
              go_roundw
              case rel => exact ⟨k + 1, v', _, by omega, by go_num, hg.out.down x0, HS3.out, HB3.out⟩
              case measure => simp [intOf]; omega
            · have HV := Lib.hid hv; clear hv
              go_wp2_with fail
              refine (down_no _ x0 _ HV.out).mono ?_
              rintro e w3 ⟨rfl, rfl⟩
              go_wp2
              go_roundw
              case rel => exact ⟨k + 1, v, T, by omega, by go_num, hg, HS.out, HB.out⟩
              case measure => simp [intOf]; omega
          · have hq1 : ((xs.length : Int) == 1) = false := by simp; omega
            go_wp2
            go_roundw
            case rel => exact ⟨k + 1, v, T, by omega, by go_num, hg, HS.out, HB.out⟩
            case measure => simp [intOf]; omega
      · have hd60 : decide ((k : Int) < 60) = false := by simp; omega
        go_wp2
        go_ret
        exact ⟨g, v, T, rfl, hg.out, by simpa using HS.out, HB.out⟩
    · have hkn : ¬ k < rs.length := hlt
      go_wp2
      go_ret
      exact ⟨g, v, T, rfl, hg.out, by simpa using HS.out, HB.out⟩
end Go.Proofs.YtommedhaaojgiaaDoor
