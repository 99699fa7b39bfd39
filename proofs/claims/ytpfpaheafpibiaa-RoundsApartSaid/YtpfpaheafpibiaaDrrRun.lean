/- drr.Check, drr.Run: what the call gives is what the plain text says. -/
import Derived.Test.YtpfpaheafpibiaaDrrPlain
import Derived.Test.YtpfpaheafpibiaaDrrQueues
import Derived.Test.YtpfpaheafpibiaaStp
import Derived.Test.YtpfpaheafpibiaaWithin
import Derived.Test.YtpfpaheafpibiaaAll
import Derived.Test.YtpfpaheafpibiaaCnts
import Derived.Deep.LoopGhost
import Derived.BigQuiet
namespace Go.Proofs.Ytpfpaheafpibiaa
open Go.RowKit
set_option linter.unusedVariables false
set_option maxRecDepth 100000

set_option maxHeartbeats 400000 in
theorem drrCheck_any (ao : Option Addr) (len ac B : Nat) (rs : List Stp) (w : World) (hA : RowSl B w ao 1 (rs.map stpC)) (hr : StpsOk B w rs) (hlen : len = rs.length) (hl : rs.length ≤ 9223372036854775807) :
    Calls Try.prog 18 #[.slice ao len ac] w fun e w' => e = .returned (errV (checkCode (rowsOf rs))) ∧ w = w' := by
  subst hlen
  have HA := Lib.hid hA; clear hA
  have HR := Lib.hid hr; clear hr
  obtain ⟨c, hc⟩ : ∃ c, c = checkCode (rowsOf rs) := ⟨_, rfl⟩
  rw [← hc]
  unfold checkCode at hc
  rw [rowsOf_len] at hc
  by_cases h5 : 5 < rs.length
  · rw [if_pos h5] at hc
    subst hc
    rw [errV_not (by decide)]
    have hd : decide ((5 : Int) < (rs.length : Int)) = true := by simp; omega
    go_enter Try.func18, Try.ntmps18
    go_wp2
    go_ret
    exact ⟨rfl, rfl⟩
  · rw [if_neg h5] at hc
    have HC := Lib.hid hc; clear hc
    have hd : decide ((5 : Int) < (rs.length : Int)) = false := by simp; omega
    obtain ⟨v, hv⟩ : ∃ v, v = errV c := ⟨_, rfl⟩
    rw [← hv]
    have HV := Lib.hid hv; clear hv
    go_enter Try.func18, Try.ntmps18
    go_wp2
    go_loop [11] (fun i => ∃ k : Nat, k ≤ rs.length ∧ i = .int .i64 k ∧ Hid (qsCode ((rowsOf rs).drop k) = c)) (fun i => rs.length - (intOf i).toNat)
    case atStart => exact ⟨0, Nat.zero_le _, rfl, by rw [HC.out]; rfl⟩
    case round =>
      obtain ⟨k, hk, rfl, hcode⟩ := hrel
      by_cases hlt : k < rs.length
      · obtain ⟨⟨ra, rc, xs⟩, hrk⟩ : ∃ r, rs[k]? = some r := ⟨_, List.getElem?_eq_getElem hlt⟩
        obtain ⟨b, off, rfl, hbb, c0⟩ := rows_at HA.out hrk
        obtain ⟨hi, hrl, hrm⟩ := HR.out _ (List.mem_iff_getElem?.2 ⟨k, hrk⟩)
        simp only at hi hrl hrm c0
        unfold maxLen at hrm
        have hst := hcode.out
        rw [qsCode_step (rowsOf_get hrk)] at hst
        simp only at hst
        have HI := Lib.hid hi; clear hi
        have HRK := Lib.hid hrk; clear hrk
        by_cases h8 : 8 < xs.length
        · have hq : qCode xs = 4 := if_pos h8
          rw [hq, if_neg (by decide)] at hst
          have hve : v = .iface 47 (.int .i64 4) := by rw [HV.out, ← hst, errV_not (by decide)]
          have HVE := Lib.hid hve; clear hve hst hq
          have hd8 : decide ((8 : Int) < (xs.length : Int)) = true := by simp; omega
          go_wp2
          go_ret
          exact ⟨by first | exact HVE.out.symm | exact congrArg _ HVE.out.symm, rfl⟩
        · have hd8 : decide ((8 : Int) < (xs.length : Int)) = false := by simp; omega
          by_cases hall : ∀ x ∈ xs, 1 ≤ x ∧ x ≤ 20
          · have hq : qCode xs = 0 := qCode_zero.2 ⟨by omega, hall⟩
            rw [hq, if_pos rfl] at hst
            have HST := Lib.hid hst; clear hst hq
            have HAL := Lib.hid hall; clear hall
            go_wp2_with (go_at_call 29; refine (all_any _ _ _ _ xs 1 20 true _ HI.out rfl (by omega) (by simpa using HAL.out)).mono ?_; rintro e w' ⟨rfl, rfl⟩)
            go_round
            case rel => exact ⟨k + 1, by omega, by go_num, HST.out⟩
            case measure => simp [intOf]; omega
          · have hq : qCode xs = 1 := by unfold qCode; rw [if_neg h8, if_neg hall]
            rw [hq, if_neg (by decide)] at hst
            have hve : v = .iface 47 (.int .i64 1) := by rw [HV.out, ← hst, errV_not (by decide)]
            have HVE := Lib.hid hve; clear hve hst hq
            have HAL := Lib.hid hall; clear hall
            go_wp2_with (go_at_call 29; refine (all_any _ _ _ _ xs 1 20 false _ HI.out rfl (by omega) (by have := HAL.out; simpa using this)).mono ?_; rintro e w' ⟨rfl, rfl⟩)
            go_ret
            exact ⟨by first | exact HVE.out.symm | exact congrArg _ HVE.out.symm, rfl⟩
      · have hc0 : c = 0 := by
          have := hcode.out
          rw [List.drop_of_length_le (by rw [rowsOf_len]; omega)] at this
          exact this.symm
        have hve : v = .nilIface := by rw [HV.out, hc0]; rfl
        have HVE := Lib.hid hve; clear hve
        have HC0 := Lib.hid hc0; clear hc0
        go_wp2
        go_ret
        exact ⟨by first | exact HVE.out.symm | exact congrArg _ HVE.out.symm, rfl⟩

theorem elemQ : ElemTy Try.prog 48 50 1 24 (.agg #[.slice none 0 0]) := ⟨Try.underlying48, info_parts (by kernel_rfl), rfl, by decide⟩

theorem qs_made {B : Nat} {w : World} (n g : Nat) (h : Sep B w [Ent.row (.slice (some ⟨g, 0, none⟩) n n) n 1 50 (madeCells #[.slice none 0 0] n).toList]) : QSep B w [] g n (List.replicate n (.slice none 0 0, [])) := by
  have hm : (madeCells #[.slice none 0 0] n).toList = (List.replicate n ((.slice none 0 0, []) : Qv)).map (·.1) := by
    rw [madeOne, List.map_replicate]
  rw [hm] at h
  unfold QSep
  have key : ∀ m, Sep B w (quEnts (List.replicate m (.slice none 0 0, [])) ++ [Ent.row (.slice (some ⟨g, 0, none⟩) n n) n 1 50 ((List.replicate n ((.slice none 0 0, []) : Qv)).map (·.1))]) := by
    intro m
    induction m with
    | zero => exact h
    | succ m ih =>
      have := ih.addFree (P := ∃ ao c, Value.slice none 0 0 = .slice ao 0 c) ⟨none, 0, rfl⟩
      rw [← quEnt_nil] at this
      exact this
  exact (key n).perm (List.perm_append_comm)

/-- The second row beside the queues. -/
theorem QSep.second {B : Nat} {w : World} {E : Ent} {e : TypeId} {gd n g m : Nat} {ds : List Int} {qv : List Qv} (h : QSep B w [E, Ent.ints e (.slice (some ⟨gd, 0, none⟩) n n) ds] g m qv) (hl : ds.length = n) {a : Nat} {d : Int} (hd : ds[a]? = some d) :
    w.cell? ⟨gd, a, none⟩ = some (.int .i64 d) ∧ w.frozen? ⟨gd, a, none⟩ = false ∧ ∀ y, QSep B (w.setCell ⟨gd, a, none⟩ (.int .i64 y)) [E, Ent.ints e (.slice (some ⟨gd, 0, none⟩) n n) (ds.set a y)] g m qv := by
  subst hl
  have h2 : Sep B w ([E] ++ Ent.ints e (.slice (some ⟨gd, 0, none⟩) ds.length ds.length) ds :: (Ent.row (.slice (some ⟨g, 0, none⟩) m m) m 1 50 (qv.map (·.1)) :: quEnts qv)) := h
  obtain ⟨g', o', he, c1, c2⟩ := h2.intsAt hd
  simp only [Option.some.injEq, Addr.mk.injEq, and_true] at he
  obtain ⟨rfl, rfl⟩ := he
  simp only [Nat.zero_add] at c1 c2
  refine ⟨c1, c2, fun y => ?_⟩
  have h3 := h2.intsSet a y
  rw [Nat.zero_add] at h3
  exact h3

theorem qv_at {qv : List Qv} {l : List (List Int)} {a : Nat} {xs : List Int} (hm : qv.map (·.2) = l) (ha : l[a]? = some xs) : ∃ v, qv[a]? = some (v, xs) := by
  rw [← hm, List.getElem?_map] at ha
  cases hz : qv[a]? with
  | none => rw [hz] at ha; cases ha
  | some z => rw [hz] at ha; exact ⟨z.1, by have h2 : z.2 = xs := by simpa using ha
                                            rw [← h2]⟩

theorem QSep.drewN {B : Nat} {w : World} {A : List Ent} {g n : Nat} {qv : List Qv} (h : QSep B w A g n qv) (k : Nat) : QSep B (w.drewN k) A g n qv := Sep.drewN h k

theorem drrRun_err (ao : Option Addr) (len ac B : Nat) (rs : List Stp) (Q c : Int) (w : World) (hA : RowSl B w ao 1 (rs.map stpC)) (hr : StpsOk B w rs) (hlen : len = rs.length) (hl : rs.length ≤ 9223372036854775807) (hc : c = runCode (rowsOf rs) Q) (h0 : ¬ c = 0) :
    Calls Try.prog 13 #[.slice ao len ac, .int .i64 Q] w fun e w' => e = .returned (.tuple #[.slice none 0 0, .iface 47 (.int .i64 c)]) ∧ w = w' := by
  subst hlen
  have HA := Lib.hid hA; clear hA
  have HR := Lib.hid hr; clear hr
  unfold runCode at hc
  by_cases h1 : checkCode (rowsOf rs) = 0
  · rw [if_pos h1] at hc
    by_cases h2 : 1 ≤ Q ∧ Q ≤ 20
    · rw [if_pos h2] at hc; exact absurd hc h0
    · rw [if_neg h2] at hc
      subst hc
      have hcall := fun W : World => fun h => drrCheck_any ao rs.length ac B rs W h
      have H1 := Lib.hid h1; clear h1
      have H2 := Lib.hid h2; clear h2
      go_enter Try.func13, Try.ntmps13
      go_wp2_with fail
      refine (drrCheck_any _ _ _ _ rs _ HA.out HR.out rfl hl).mono ?_
      rintro e w' ⟨rfl, rfl⟩
      rw [H1.out, errV_zero]
      go_wp2_with (go_at_call 20; refine (within_no _ _ _ _ H2.out).mono ?_; rintro e w' ⟨rfl, rfl⟩)
      go_ret2
      exact ⟨rfl, rfl⟩
  · rw [if_neg h1] at hc
    have HC := Lib.hid hc; clear hc
    have H0 := Lib.hid h0; clear h0 h1
    go_enter Try.func13, Try.ntmps13
    go_wp2_with fail
    refine (drrCheck_any _ _ _ _ rs _ HA.out HR.out rfl hl).mono ?_
    rintro e w' ⟨rfl, rfl⟩
    rw [← HC.out, errV_not H0.out]
    go_wp2
    go_ret2
    exact ⟨rfl, rfl⟩

/-- The first k queues are filled. -/
structure Filled (qs : List (List Int)) (k : Nat) (qv : List Qv) : Prop where
  rest : qv.map (·.2) = qs.take k ++ List.replicate (qs.length - k) []
  fresh : ∀ i, k ≤ i → i < qs.length → qv[i]? = some (.slice none 0 0, [])
theorem Filled.zero (qs : List (List Int)) : Filled qs 0 (List.replicate qs.length (.slice none 0 0, [])) :=
  ⟨by simp, fun i _ hi => by rw [List.getElem?_replicate, if_pos hi]⟩
theorem Filled.len {qs : List (List Int)} {k : Nat} {qv : List Qv} (h : Filled qs k qv) (hk : k ≤ qs.length) : qv.length = qs.length := by
  have := congrArg List.length h.rest
  simp at this; omega
theorem Filled.next {qs : List (List Int)} {k : Nat} {qv : List Qv} {q : List Int} {v : Value} (h : Filled qs k qv) (hq : qs[k]? = some q) : Filled qs (k + 1) (qv.set k (v, q)) := by
  have hk := (List.getElem?_eq_some_iff.1 hq).1
  refine ⟨?_, fun i h1 h2 => by rw [List.getElem?_set_ne (by omega)]; exact h.fresh i (by omega) h2⟩
  rw [List.map_set, h.rest, List.set_append_right _ _ (by simp; omega), List.take_add_one, hq]
  rw [show k - (qs.take k).length = 0 by simp; omega, show qs.length - k = (qs.length - (k + 1)) + 1 by omega, List.replicate_succ, List.set_cons_zero]
  simp
theorem Filled.all {qs : List (List Int)} {qv : List Qv} (h : Filled qs qs.length qv) : qv.map (·.2) = qs := by
  have := h.rest
  simpa using this

set_option maxHeartbeats 2000000 in
set_option maxRecDepth 100000 in
theorem drrRun_ok (ao : Option Addr) (len ac B : Nat) (rs : List Stp) (Q : Int) (w : World) (hA : RowSl B w ao 1 (rs.map stpC)) (hr : StpsOk B w rs) (hlen : len = rs.length) (hB : B ≤ w.heap.size) (hok : QsOk (rowsOf rs)) (hQ : 1 ≤ Q ∧ Q ≤ 20) :
    Calls Try.prog 13 #[.slice ao len ac, .int .i64 Q] w fun e w' =>
      ∃ va, e = .returned (.tuple #[va, .nilIface]) ∧ Sep w.heap.size w' [Ent.ints 3 va (drrOut (rowsOf rs) Q.toNat)] ∧ Below w.heap.size w w' := by
  subst hlen
  obtain ⟨hq1, hq2⟩ := hQ
  obtain ⟨Q, rfl⟩ := Int.eq_ofNat_of_zero_le (by omega : 0 ≤ Q)
  rw [Int.toNat_natCast]
  have hn5 : rs.length ≤ 5 := by rw [← rowsOf_len]; exact hok.few
  obtain ⟨out, hout⟩ : ∃ out, out = drrOut (rowsOf rs) Q := ⟨_, rfl⟩
  rw [← hout]
  have HOUT := Lib.hid hout; clear hout
  have HA := Lib.hid hA; clear hA
  have HR := Lib.hid hr; clear hr
  have HOK := Lib.hid hok; clear hok
  go_enter Try.func13, Try.ntmps13
  go_wp2_with fail
  refine (drrCheck_any _ _ _ _ rs _ HA.out HR.out rfl (by omega)).mono ?_
  rintro e w' ⟨rfl, rfl⟩
  rw [checkCode_zero.2 HOK.out, errV_zero]
  go_wp2_with (first
    | (go_at_call 20; refine (within_yes _ _ _ _ (by omega) (by omega)).mono ?_; rintro e w' ⟨rfl, rfl⟩)
    | (at_make; refine wpList_make_sep rfl _ _ rfl elemQ .i64 .i64 rs.length rs.length rs.length rfl rfl rfl rfl (by omega) (by unfold maxLen; omega) (Sep.nil w.heap.size w) (Nat.le_refl _) ?_))
  intro w1 hsep hbel hsz
  have HQ1 := Lib.hid (qs_made _ _ hsep); clear hsep
  have HB1 := Lib.hid hbel; clear hbel
  have HSZ := Lib.hid hsz; clear hsz
  obtain ⟨g, hg⟩ : ∃ g, g = w.heap.size := ⟨_, rfl⟩
  rw [← hg] at HQ1 HB1 HSZ hB ⊢
  have HG := Lib.hid hg; clear hg
  go_wp2
  go_loopw [8, 32] (fun m i wr => ∃ (k p : Nat) (qv : List Qv), k ≤ rs.length ∧ i = .int .i64 k ∧ m = .int .i64 p ∧ p ≤ 8 * k ∧ Hid (p = psum (fun j => ((rowsOf rs).getD j []).length) k) ∧
    QSep g wr [] g rs.length qv ∧ Hid (Filled (rowsOf rs) k qv) ∧ Below g w wr) (fun _ i _ => rs.length - (intOf i).toNat)
  case atStart =>
    refine ⟨0, 0, _, Nat.zero_le _, rfl, rfl, by omega, rfl, HQ1.out, ?_, HB1.out⟩
    have := Filled.zero (rowsOf rs)
    rw [rowsOf_len] at this
    exact this
  case round =>
    obtain ⟨k, p, qv, hk, rfl, rfl, hp, hps, hq, hfi, hbel⟩ := hrel
    have hA2 := HA.out.below (hbel.mono hB)
    have hR2 := HR.out.below (hbel.mono hB)
    have HQ2 := Lib.hid hq; clear hq
    have HB2 := Lib.hid hbel; clear hbel
    by_cases hlt : k < rs.length
    · obtain ⟨⟨ra, rc, xs⟩, hrk⟩ : ∃ r, rs[k]? = some r := ⟨_, List.getElem?_eq_getElem hlt⟩
      obtain ⟨b, off, rfl, hbb, c0⟩ := rows_at hA2 hrk
      have hrg := rowsOf_get hrk
      have hx8 := HOK.out.all xs (List.mem_iff_getElem?.2 ⟨k, hrg⟩)
      have hx8l := hx8.1
      have hx8a := hx8.2
      have hfresh := hfi.out.fresh k (Nat.le_refl _) (by rw [rowsOf_len]; exact hlt)
      have hql := hfi.out.len (by rw [rowsOf_len]; exact hk)
      rw [rowsOf_len] at hql
      have hset0 : qv.set k (.slice none 0 0, []) = qv := by
        refine List.ext_getElem? fun i => ?_
        by_cases hi : i = k
        · subst hi; rw [List.getElem?_set_self (by omega), hfresh]
        · rw [List.getElem?_set_ne (by omega)]
      have hnext := hfi.out.next (v := .slice none 0 0) hrg
      obtain ⟨hi, hrl, hrm⟩ := HR.out _ (List.mem_iff_getElem?.2 ⟨k, hrk⟩)
      simp only at hi hrl hrm c0
      unfold maxLen at hrm
      have hps2 : p + xs.length = psum (fun j => ((rowsOf rs).getD j []).length) (k + 1) := by
        rw [psum, ← hps.out]
        rw [List.getD_eq_getElem?_getD, hrg]; rfl
      have HPS := Lib.hid hps2; clear hps2
      have HI := Lib.hid hi; clear hi
      have HX8 := Lib.hid hx8a; clear hx8a hx8
      have HRG := Lib.hid hrg; clear hrg
      have HFR := Lib.hid hfresh; clear hfresh
      have HS0 := Lib.hid hset0; clear hset0 hnext
      clear hrk
      have HA2 := Lib.hid hA2; clear hA2
      have HR2 := Lib.hid hR2; clear hR2
      go_wp2
      go_loopw [39] (fun j wr => ∃ (j' : Nat) (v : Value), j' ≤ xs.length ∧ j = .int .i64 j' ∧ QSep g wr [] g rs.length (qv.set k (v, xs.take j')) ∧ Hid (j' = 0 → v = .slice none 0 0) ∧ Below g w wr) (fun j _ => xs.length - (intOf j).toNat)
      case atStart => exact ⟨0, .slice none 0 0, Nat.zero_le _, rfl, by rw [List.take_zero, HS0.out]; exact HQ2.out, fun _ => rfl, HB2.out⟩
      case round =>
        obtain ⟨j, v, hj, rfl, hq, hv, hbel⟩ := hrel
        have hi2 := HI.out.below (hbel.mono hB)
        have HQ3 := Lib.hid hq; clear hq
        have HB3 := Lib.hid hbel; clear hbel
        by_cases hjl : j < xs.length
        · obtain ⟨y, hy⟩ : ∃ y, xs[j]? = some y := ⟨_, List.getElem?_eq_getElem hjl⟩
          obtain ⟨b', off', rfl, _, cy⟩ := hi2 j y hy
          have hyt : xs.take j ++ [y] = xs.take (j + 1) := by rw [List.take_add_one, hy]; rfl
          have HY := Lib.hid hyt; clear hyt hy
          clear hi2
          go_wp2_with fail
          have hgl : g ≤ wr.heap.size := Nat.le_trans (Nat.le_of_eq HG.out) HB3.out.size
          refine (qsPush y HQ3.out (List.getElem?_set_self (by omega)) (fun he => hv.out (by have := congrArg List.length he; rw [List.length_take, List.length_nil] at this; omega)) (by simp; omega) hgl).mono ?_
          rintro e w3 ⟨rfl, v', hq3, hb3⟩
          rw [List.set_set, HY.out] at hq3
          have HQ4 := Lib.hid hq3; clear hq3
          have HB4 := Lib.hid (HB3.out.trans hb3); clear hb3 hgl
          go_wp2
          go_roundw
          case rel => exact ⟨j + 1, v', by omega, by go_num, HQ4.out, fun h => by omega, HB4.out⟩
          case measure => simp [intOf]; omega
        · have hjx : xs.take j = xs := List.take_of_length_le (by omega)
          have HJX := Lib.hid hjx; clear hjx
          clear hi2
          go_wp2
          go_roundw
          case rel =>
            have hq5 := HQ3.out
            rw [HJX.out] at hq5
            exact ⟨k + 1, p + xs.length, _, by omega, by go_num, by go_num, by omega, HPS.out, hq5, hfi.out.next HRG.out, HB3.out⟩
          case measure => simp [intOf]; omega
    · have hkn : k = rs.length := by omega
      have hall := hfi.out
      rw [hkn, ← rowsOf_len] at hall
      have hmap := hall.all
      rw [hkn, ← rowsOf_len] at hps
      have HMAP := Lib.hid hmap; clear hmap hall hfi
      have HTOT : Hid (p = drrTot (rowsOf rs)) := Lib.hid hps.out
      clear hps hA2 hR2
      have HKN := Lib.hid hkn; clear hkn
      have hgl : g ≤ wr.heap.size := Nat.le_trans (Nat.le_of_eq HG.out) HB2.out.size
      have HS2 : Hid (Sep g wr (Ent.row (.slice (some ⟨g, 0, none⟩) rs.length rs.length) rs.length 1 50 (qv.map (·.1)) :: quEnts qv)) := HQ2.out
      clear HQ2
      go_wp2_with (at_make; refine wpList_make_sep rfl _ _ rfl elemInt9 .i64 .i64 rs.length rs.length rs.length rfl rfl rfl rfl (by omega) (by unfold maxLen; omega) HS2.out hgl ?_)
      intro w4 hsep hbel hsz
      obtain ⟨gd, hgd⟩ : ∃ gd, gd = wr.heap.size := ⟨_, rfl⟩
      rw [← hgd] at hsep
      have hggd : g ≤ gd := by rw [hgd]; exact hgl
      have HB4 := Lib.hid (HB2.out.trans (hbel.mono hgl)); clear hbel hsz
      have hs4 : Sep g w4 (Ent.ints 3 (.slice none 0 0) (drrNow (rowsOf rs) Q 0 0) :: Ent.ints 3 (.slice (some ⟨gd, 0, none⟩) rs.length rs.length) (defAt (rowsOf rs) Q 0 0) ::
          Ent.row (.slice (some ⟨g, 0, none⟩) rs.length rs.length) rs.length 1 50 (qv.map (·.1)) :: quEnts qv) := by
        have h5 : Ent.ints 3 (.slice (some ⟨gd, 0, none⟩) rs.length rs.length) (defAt (rowsOf rs) Q 0 0) = Ent.row (.slice (some ⟨gd, 0, none⟩) rs.length rs.length) rs.length 1 3 (madeCells #[.int .i64 0] rs.length).toList := by
          unfold Ent.ints
          rw [defAt_len, defAt_zero HOK.out, rowsOf_len, madeInts]
        rw [h5, drrNow_zero]
        exact hsep.intsNil _
      have HQ4 : Hid (QSep g w4 [Ent.ints 3 (.slice none 0 0) (drrNow (rowsOf rs) Q 0 0), Ent.ints 3 (.slice (some ⟨gd, 0, none⟩) rs.length rs.length) (defAt (rowsOf rs) Q 0 0)] g rs.length qv) := hs4
      clear hs4 hsep HS2
      have hrest0 : qv.map (·.2) = restAt (rowsOf rs) Q 0 0 := by rw [HMAP.out, restAt_zero HOK.out]
      have HREST := Lib.hid hrest0; clear hrest0
      rw [← hgd]
      have HGD := Lib.hid hgd; clear hgd hgl
      go_wp2
      go_loopg [14] 161 (fun gk vo wr => ∃ (r : Nat) (qv : List Qv), gk + r = 161 ∧ r ≤ 160 ∧ QSep g wr [Ent.ints 3 vo (drrNow (rowsOf rs) Q r 0), Ent.ints 3 (.slice (some ⟨gd, 0, none⟩) rs.length rs.length) (defAt (rowsOf rs) Q r 0)] g rs.length qv ∧
        Hid (qv.map (·.2) = restAt (rowsOf rs) Q r 0) ∧ Below g w wr)
      case atStart => exact ⟨0, qv, rfl, by omega, HQ4.out, HREST.out, HB4.out⟩
      case round =>
        obtain ⟨go, rfl⟩ : ∃ go, go = gk := ⟨_, rfl⟩
        obtain ⟨r, qv, hgk, hr, hq, hrest, hbel⟩ := hrel
        have hs : Sep g wr (Ent.ints 3 _ (drrNow (rowsOf rs) Q r 0) :: _) := hq
        obtain ⟨ao3, c3, rfl, hc3, _⟩ := hs.intsShape (A := [])
        have hnl := drrNow_len HOK.out Q r (Nat.zero_le _)
        have HQ5 := Lib.hid hq; clear hq hs
        have HB5 := Lib.hid hbel; clear hbel
        by_cases hmore : (drrNow (rowsOf rs) Q r 0).length < p
        · have hr160 := drr_more HOK.out (Q := Q) (by omega) (by rw [← HTOT.out]; exact hmore)
          have hd1 : decide (((drrNow (rowsOf rs) Q r 0).length : Int) < (p : Int)) = true := by simp; omega
          have hd2 : decide ((drrNow (rowsOf rs) Q r 0).length < p) = true := by simp; omega
          have HHM := Lib.hid hmore; clear hmore
          go_wp2
          go_loopg [14, 63] rs.length (fun gn vo i wr => ∃ (a : Nat) (qv : List Qv), gn + a = rs.length ∧ i = .int .i64 a ∧ QSep g wr [Ent.ints 3 vo (drrNow (rowsOf rs) Q r a), Ent.ints 3 (.slice (some ⟨gd, 0, none⟩) rs.length rs.length) (defAt (rowsOf rs) Q r a)] g rs.length qv ∧
            Hid (qv.map (·.2) = restAt (rowsOf rs) Q r a) ∧ Below g w wr)
          case atStart => exact ⟨0, qv, rfl, rfl, HQ5.out, hrest, HB5.out⟩
          case round =>
            obtain ⟨gn, rfl⟩ : ∃ gn, gn = gk := ⟨_, rfl⟩
            obtain ⟨a, qv, hga, rfl, hq, hrest, hbel⟩ := hrel
            have hs : Sep g wr (Ent.ints 3 _ (drrNow (rowsOf rs) Q r a) :: _) := hq
            obtain ⟨ao6, c6, rfl, hc6, _⟩ := hs.intsShape (A := [])
            have hnl6 := drrNow_len HOK.out Q r (a := a) (by rw [rowsOf_len]; omega)
            have HQ6 := Lib.hid hq; clear hq hs
            have HB6 := Lib.hid hbel; clear hbel
            by_cases hal : a < rs.length
            · obtain ⟨q, hqa⟩ : ∃ q, (rowsOf rs)[a]? = some q := ⟨_, List.getElem?_eq_getElem (by rw [rowsOf_len]; exact hal)⟩
              have hrg := restAt_get (Q := Q) (r := r) (a := a) hqa
              rw [if_neg (by omega)] at hrg
              rw [← hrest.out, List.getElem?_map] at hrg
              obtain ⟨⟨v, xs⟩, hqv, hxs⟩ : ∃ z, qv[a]? = some z ∧ z.2 = q.drop (drrSrv (rowsOf rs) Q a r) := by
                cases hz : qv[a]? with
                | none => rw [hz] at hrg; cases hrg
                | some z => rw [hz] at hrg; exact ⟨z, rfl, by simpa using hrg⟩
              simp only at hxs
              have hq8 := (HOK.out.all q (List.mem_iff_getElem?.2 ⟨a, hqa⟩)).1
              have hxl : xs.length ≤ 8 := by rw [hxs]; simp; omega
              have HXS := Lib.hid hxs; clear hxs
              have HQV := Lib.hid hqv; clear hqv hrg
              have HQA := Lib.hid hqa; clear hqa
              go_wp2_with fail
              refine (qsLen HQ6.out HQV.out (by omega)).mono ?_
              rintro e w7 ⟨rfl, rfl⟩
              by_cases hidle : q.length ≤ drrSrv (rowsOf rs) Q a r
              · have hxe : ((xs.length : Int) == 0) = true := by
                  have : xs = [] := by rw [HXS.out]; exact List.drop_of_length_le hidle
                  simp [this]
                obtain ⟨i1, i2, i3⟩ := drr_idle HOK.out HQA.out hidle
                have I1 := Lib.hid i1
                have I2 := Lib.hid i2
                have I3 := Lib.hid i3
                clear i1 i2 i3
                have HID := Lib.hid hidle; clear hidle
                go_wp2
                go_roundg (gn - 1)
                case measure => omega
                case rel => exact ⟨a + 1, qv, by omega, by go_num, by rw [I2.out, I3.out]; exact HQ6.out, by simp only [Hid]; rw [I1.out]; exact hrest.out, HB6.out⟩
              · have hxe : ((xs.length : Int) == 0) = false := by
                  have h1 : xs.length = q.length - drrSrv (rowsOf rs) Q a r := by rw [HXS.out]; simp
                  simp; intro h2; simp [h2] at h1; omega
                have ht := Turn.start (Q := Q) (r := r) HOK.out HQA.out (by omega)
                have hdg := defAt_get (Q := Q) (r := r) (a := a) HQA.out
                rw [if_neg (by omega)] at hdg
                obtain ⟨d0, hd0⟩ : ∃ d0, d0 = dOf (rowsOf rs) Q a r := ⟨_, rfl⟩
                rw [← hd0] at ht hdg
                have htl := ht.lo HOK.out HQA.out
                have hth := ht.hi HOK.out HQA.out hr (by omega)
                obtain ⟨cd, fd, hset⟩ := QSep.second HQ6.out (by rw [defAt_len, rowsOf_len]) hdg
                have HQ8 := Lib.hid (hset (d0 + (Q : Int)))
                have hb8 := HB6.out.setCell (p := ⟨gd, a, none⟩) hggd (.int .i64 (d0 + (Q : Int)))
                have HB8 := Lib.hid hb8; clear hb8 hset
                have HT := Lib.hid ht; clear ht
                have HDG := Lib.hid hdg; clear hdg
                have HD0 := Lib.hid hd0; clear hd0
                have HID := Lib.hid hidle; clear hidle
                have hsame : (restAt (rowsOf rs) Q r a).set a (q.drop (drrSrv (rowsOf rs) Q a r + 0)) = restAt (rowsOf rs) Q r a := by
                  refine List.ext_getElem? fun i => ?_
                  by_cases hi : i = a
                  · subst hi
                    rw [List.getElem?_set_self (by rw [restAt_len, rowsOf_len]; exact hal), restAt_get HQA.out, if_neg (by omega)]; rfl
                  · rw [List.getElem?_set_ne (by omega)]
                have HSAME := Lib.hid hsame; clear hsame
                obtain ⟨m, hm⟩ : ∃ m, drrSrv (rowsOf rs) Q a r + m = drrSrv (rowsOf rs) Q a (r + 1) := ⟨drrSrv (rowsOf rs) Q a (r + 1) - drrSrv (rowsOf rs) Q a r, by have := HT.out.le; omega⟩
                have ham : amt (drrSrv (rowsOf rs) Q) r a = m := by unfold amt; omega
                have hm8 : m ≤ 8 := by
                  have h1 := drrSrv_le (rowsOf rs) Q a (r + 1)
                  have h2 := (HOK.out.at a).1
                  omega
                have HM := Lib.hid hm; clear hm
                have HAM := Lib.hid ham; clear ham
                go_wp2
                go_loopg [14] m (fun gm vo wr => ∃ (j : Nat) (d : Int) (qv' : List Qv), gm + j = m ∧ Hid (Turn (rowsOf rs) Q r a q j d) ∧ -200 ≤ d ∧ d ≤ 4000 ∧
                  QSep g wr [Ent.ints 3 vo (drrNow (rowsOf rs) Q r a ++ List.replicate j (a : Int)), Ent.ints 3 (.slice (some ⟨gd, 0, none⟩) rs.length rs.length) ((defAt (rowsOf rs) Q r a).set a d)] g rs.length qv' ∧
                  Hid (qv'.map (·.2) = (restAt (rowsOf rs) Q r a).set a (q.drop (drrSrv (rowsOf rs) Q a r + j))) ∧ Below g w wr)
                case atStart =>
                  refine ⟨0, d0 + (Q : Int), qv, by omega, HT.out, htl, hth, ?_, ?_, HB8.out⟩
                  · rw [List.replicate_zero, List.append_nil]; exact HQ8.out
                  · simp only [Hid]; rw [HSAME.out]; exact hrest.out
                case round =>
                  obtain ⟨gm, rfl⟩ : ∃ gm, gm = gk := ⟨_, rfl⟩
                  obtain ⟨j, d, qv', hgm, ht, hdl, hdh, hq, hrest', hbel⟩ := hrel
                  obtain ⟨T, hT⟩ : ∃ T, T = drrNow (rowsOf rs) Q r a ++ List.replicate j (a : Int) := ⟨_, rfl⟩
                  have hTl : T.length ≤ 90 := by rw [hT, List.length_append, List.length_replicate]; omega
                  rw [← hT] at hq
                  have HT9 := Lib.hid hT; clear hT
                  have hs : Sep g wr (Ent.ints 3 _ T :: _) := hq
                  obtain ⟨ao9, c9, rfl, hc9, _⟩ := hs.intsShape (A := [])
                  obtain ⟨v9, hv9⟩ := qv_at hrest'.out (List.getElem?_set_self (by rw [restAt_len, rowsOf_len]; exact hal))
                  have hdg9 : ((defAt (rowsOf rs) Q r a).set a d)[a]? = some d := List.getElem?_set_self (by rw [defAt_len, rowsOf_len]; exact hal)
                  have hdl9 : ((defAt (rowsOf rs) Q r a).set a d).length = rs.length := by rw [List.length_set, defAt_len, rowsOf_len]
                  have HDG9 := Lib.hid hdg9; clear hdg9
                  have HDL9 := Lib.hid hdl9; clear hdl9
                  have HQ9 := Lib.hid hq; clear hq hs
                  have HB9 := Lib.hid hbel; clear hbel
                  by_cases hlt9 : drrSrv (rowsOf rs) Q a r + j < drrSrv (rowsOf rs) Q a (r + 1)
                  · obtain ⟨x, hx1, hx2, hx3, hx4, hx5⟩ := ht.out.more HOK.out HQA.out hlt9
                    have hgm0 : j < m := by have := HM.out; omega
                    have HLT := Lib.hid hlt9; clear hlt9
                    obtain ⟨xs9, hxs9⟩ : ∃ xs9, xs9 = q.drop (drrSrv (rowsOf rs) Q a r + (j + 1)) := ⟨_, rfl⟩
                    have hxl9 : xs9.length ≤ 8 := by rw [hxs9, List.length_drop]; omega
                    rw [hx1, ← hxs9] at hv9
                    have HV9 := Lib.hid hv9; clear hv9 hx1
                    have HXS9 := Lib.hid hxs9; clear hxs9
                    have HX5 := Lib.hid hx5; clear hx5
                    obtain ⟨cd9, fd9, _⟩ := QSep.second HQ9.out HDL9.out HDG9.out
                    have hd9 : decide ((0 : Int) < (xs9.length : Int) + 1) = true := decide_eq_true (by omega)
                    have hd10 : decide (x ≤ d) = true := by simp; omega
                    have HC9 : Hid (∀ k : Nat, QSep g (wr.drewN k) _ g rs.length qv') := Lib.hid (fun k => HQ9.out.drewN k)
                    go_wp2_with fail
                    go_quiet (first
                      | (go_at_call 22; exact quiet_id (qsLen (HC9.out _) HV9.out (by rw [List.length_cons]; omega)) ⟨_, rfl⟩)
                      | (go_at_call 23; exact quiet_id (qsFirst (HC9.out _) HV9.out) ⟨_, rfl⟩))
                    have HQD := Lib.hid (HC9.out nq)
                    have HBD := Lib.hid (HB9.out.trans (below_drewN g wr nq))
                    clear HC9 HQ9 HB9 cd9 fd9
                    generalize wr.drewN nq = wq at *
                    go_wp2_with fail
                    refine (qsPop HQD.out HV9.out (by omega)).mono ?_
                    rintro e w10 ⟨rfl, v10, hq10, hb10⟩
                    have HB10 := Lib.hid (HBD.out.trans hb10); clear hb10
                    obtain ⟨cd10, fd10, hset10⟩ := QSep.second hq10 HDL9.out HDG9.out
                    have hq11 := hset10 (d - x)
                    rw [List.set_set] at hq11
                    have HQ11 : Hid (Sep g (w10.setCell ⟨gd, a, none⟩ (.int .i64 (d - x))) (Ent.ints 3 (.slice ao9 T.length c9) T :: Ent.ints 3 (.slice (some ⟨gd, 0, none⟩) rs.length rs.length) ((defAt (rowsOf rs) Q r a).set a (d - x)) ::
                      Ent.row (.slice (some ⟨g, 0, none⟩) rs.length rs.length) rs.length 1 50 ((qv'.set a (v10, xs9)).map (·.1)) :: quEnts (qv'.set a (v10, xs9)))) := hq11
                    have hb11 := HB10.out.setCell (p := ⟨gd, a, none⟩) hggd (.int .i64 (d - x))
                    have HB11 := Lib.hid hb11; clear hb11 hq11 hset10 hq10
                    have hgl11 : g ≤ (w10.setCell ⟨gd, a, none⟩ (.int .i64 (d - x))).heap.size := Nat.le_trans (Nat.le_of_eq HG.out) HB11.out.size
                    have HGL11 := Lib.hid hgl11; clear hgl11
                    go_wp2_with (at_builtin; refine wpList_append_int rfl (.tmp 108) (.tmp 110) rfl elemInt9 (A := []) rfl HQ11.out HGL11.out ((show _ = Value.slice (some ⟨w10.heap.size, 0, none⟩) 1 1 from rfl).trans (by rw [show (w10.setCell ⟨gd, a, none⟩ (.int .i64 (d - x))).heap.size = w10.heap.size by simp [World.setCell]])) (by omega) ?_)
                    intro v12 w12 hs12 hb12
                    have HS12 := Lib.hid hs12; clear hs12
                    have HB12 := Lib.hid (HB11.out.trans hb12); clear hb12
                    go_wp2
                    go_roundg (gm - 1)
                    case measure => omega
                    case rel =>
                      refine ⟨j + 1, d - x, qv'.set a (v10, xs9), by omega, HX5.out, by omega, by omega, ?_, ?_, HB12.out⟩
                      · have h13 := HS12.out
                        rw [HT9.out, List.append_assoc, ← List.replicate_succ'] at h13
                        unfold QSep
                        rw [List.map_set]
                        exact h13
                      · simp only [Hid]
                        rw [List.map_set, hrest'.out, List.set_set, HXS9.out]
                  · obtain ⟨hfin, hcase⟩ := ht.out.stop HOK.out HQA.out hlt9
                    have hjm : j = m := by have := HM.out; omega
                    have hT9 : T = drrNow (rowsOf rs) Q r (a + 1) := by rw [HT9.out, drrNow_turn, HAM.out, hjm]
                    have hr9 : qv'.map (·.2) = restAt (rowsOf rs) Q r (a + 1) := by
                      rw [hrest'.out, hfin, restAt_turn HQA.out]
                    have hD9 : ∀ y, y = dOf (rowsOf rs) Q a (r + 1) → (defAt (rowsOf rs) Q r a).set a y = defAt (rowsOf rs) Q r (a + 1) := fun y hy => by rw [hy, defAt_turn HQA.out]
                    have HTF := Lib.hid hT9; clear hT9
                    have HRF := Lib.hid hr9; clear hr9
                    have HDF := Lib.hid hD9; clear hD9
                    have HC9 : Hid (∀ k : Nat, QSep g (wr.drewN k) _ g rs.length qv') := Lib.hid (fun k => HQ9.out.drewN k)
                    obtain ⟨cd9, fd9, _⟩ := QSep.second HQ9.out HDL9.out HDG9.out
                    clear hjm
                    have HLT := Lib.hid hlt9; clear hlt9
                    have HFIN := Lib.hid hfin; clear hfin
                    rcases hcase with ⟨hnil, hdz⟩ | ⟨x, r', hcons, hdx, hrl, hde⟩
                    · rw [hnil] at hv9
                      have HV9 := Lib.hid hv9; clear hv9 hnil
                      have HDZ := Lib.hid hdz; clear hdz
                      go_wp2_with fail
                      go_quiet (first | (go_at_call 22; exact quiet_id (qsLen (HC9.out _) HV9.out (by simp)) ⟨_, rfl⟩))
                      have HQD := Lib.hid (HC9.out nq)
                      have HBD := Lib.hid (HB9.out.trans (below_drewN g wr nq))
                      clear HC9 HQ9 HB9 cd9 fd9
                      generalize wr.drewN nq = wq at *
                      go_wp2_with fail
                      refine (qsLen HQD.out HV9.out (by simp)).mono ?_
                      rintro e w10 ⟨rfl, rfl⟩
                      obtain ⟨cd9, fd9, hset9⟩ := QSep.second HQD.out HDL9.out HDG9.out
                      have hq11 := hset9 0
                      rw [List.set_set, HDF.out 0 HDZ.out.symm] at hq11
                      have hb11 := HBD.out.setCell (p := ⟨gd, a, none⟩) hggd (.int .i64 0)
                      have HQ11 := Lib.hid hq11; clear hq11 hset9
                      have HB11 := Lib.hid hb11; clear hb11
                      go_wp2
                      go_roundg (gn - 1)
                      case measure => omega
                      case rel => exact ⟨a + 1, qv', by omega, by go_num, by rw [← HTF.out]; exact HQ11.out, HRF.out, HB11.out⟩
                    · rw [hcons] at hv9
                      have HV9 := Lib.hid hv9; clear hv9 hcons
                      have HDE := Lib.hid hde; clear hde
                      have hd9 : decide ((0 : Int) < (r'.length : Int) + 1) = true := decide_eq_true (by omega)
                      have hd10 : decide (x ≤ d) = false := decide_eq_false (by omega)
                      have hd11 : ((r'.length : Int) + 1 == 0) = false := by simp; omega
                      go_wp2_with fail
                      go_quiet (first
                        | (go_at_call 22; exact quiet_id (qsLen (HC9.out _) HV9.out (by rw [List.length_cons]; omega)) ⟨_, rfl⟩)
                        | (go_at_call 23; exact quiet_id (qsFirst (HC9.out _) HV9.out) ⟨_, rfl⟩))
                      have HQD := Lib.hid (HC9.out nq)
                      have HBD := Lib.hid (HB9.out.trans (below_drewN g wr nq))
                      clear HC9 HQ9 HB9 cd9 fd9
                      generalize wr.drewN nq = wq at *
                      go_wp2_with fail
                      refine (qsLen HQD.out HV9.out (by rw [List.length_cons]; omega)).mono ?_
                      rintro e w10 ⟨rfl, rfl⟩
                      go_wp2
                      go_roundg (gn - 1)
                      case measure => omega
                      case rel =>
                        have h12 := HQD.out
                        rw [HTF.out, HDF.out d HDE.out.symm] at h12
                        exact ⟨a + 1, qv', by omega, by go_num, by rw [HTF.out]; exact h12, HRF.out, HBD.out⟩
            · have haeq : a = rs.length := by omega
              have hw1 := drrNow_wrap (rowsOf rs) Q r
              have hw2 := defAt_wrap (rowsOf rs) Q r
              have hw3 := restAt_wrap (rowsOf rs) Q r
              rw [rowsOf_len, ← haeq] at hw1 hw2 hw3
              have W1 := Lib.hid hw1
              have W2 := Lib.hid hw2
              have W3 := Lib.hid hw3
              clear hw1 hw2 hw3
              have HAE := Lib.hid haeq; clear haeq
              go_wp2
              go_roundg (go - 1)
              case measure => omega
              case rel => exact ⟨r + 1, qv, by omega, by omega, by rw [← W1.out, ← W2.out]; exact HQ6.out, by simp only [Hid]; rw [← W3.out]; exact hrest.out, HB6.out⟩
        · have hdone := drr_done HOK.out (Q := Q) (by omega) hr (by rw [← HTOT.out]; exact hmore)
          have hd1 : decide (((drrNow (rowsOf rs) Q r 0).length : Int) < (p : Int)) = false := by simp; omega
          have HD := Lib.hid hdone; clear hdone
          have HHM := Lib.hid hmore; clear hmore
          go_wp2
          go_ret2
          refine ⟨_, rfl, ?_, by have h7 := HB5.out; rw [HG.out] at h7; exact h7⟩
          have hs : Sep g wr (Ent.ints 3 _ (drrNow (rowsOf rs) Q r 0) :: _) := HQ5.out
          have h6 := hs.sub (List.Sublist.cons_cons _ (List.nil_sublist _))
          rw [HOUT.out, ← HD.out]
          rw [HG.out] at h6
          exact h6
end Go.Proofs.Ytpfpaheafpibiaa
