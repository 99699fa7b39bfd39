/- ferryhytheref3.Rounds: the order, and of each thing its round, as the document says. -/
import Derived.Test.YtpfpaheafpibiaaDoorRndRefPlain
import Derived.Test.YtpfpaheafpibiaaDoorDrrRef
import Derived.Test.YtpfpaheafpibiaaDoorArrI
import Derived.Test.YtpfpaheafpibiaaDoorIntsHere
import Derived.Test.YtpfpaheafpibiaaDoorElem
import Derived.Deep.LoopGhost
import Derived.BigQuiet
import Derived.StillTailTactics
namespace Go.Proofs.YtpfpaheafpibiaaDoor
open Go.RowKit
set_option linter.unusedVariables false
set_option linter.unusedSimpArgs false
set_option maxRecDepth 100000

def rndsOf (S : List Itm) : List Int := S.map fun x => (x.2.2.1 : Int)
theorem rnd_totD {rs : List Stp} : (rnd (nsOf (rowsOf rs))).length = drrTot (rowsOf rs) := by
  have key : ∀ (qs : List (List Int)) k, k ≤ qs.length → (rawTo (nsOf qs) k).length = psum (fun i => (qs.getD i []).length) k := fun qs k => by
    induction k with
    | zero => intro _; simp [rawTo, psum]
    | succ k ih =>
      intro h
      obtain ⟨q, hq⟩ : ∃ q, qs[k]? = some q := ⟨_, List.getElem?_eq_getElem (by omega)⟩
      rw [rawTo_succ, List.length_append, ih (by omega), psum, nsOf_get hq, List.getD_eq_getElem?_getD, hq]
      simp [rawQ]
  rw [(rnd_perm _).length_eq]; unfold raw drrTot; rw [nsOf_len]; exact key _ _ (Nat.le_refl _)
/-- What is known of one queue at one step. -/
structure QAt (ns : List (List Nat)) (S : List Itm) (t i : Nat) (q : List Int) : Prop where
  le : cntS S t i ≤ q.length
  sum : sumS ns S t i ≤ 160
  has : hasS ns S t i ↔ cntS S t i < q.length
  head : ∀ x, q[cntS S t i]? = some x → headR ns S t i = sumS ns S t i + x.toNat ∧ 1 ≤ x ∧ x ≤ 20
theorem qAt {qs : List (List Int)} (h : QsOk qs) {t i : Nat} {q : List Int} (hq : qs[i]? = some q) : QAt (nsOf qs) (rnd (nsOf qs)) t i q := by
  have hg := nsOf_get hq
  have hq8 := h.all q (List.mem_iff_getElem?.2 ⟨i, hq⟩)
  have hil : i < (nsOf qs).length := by rw [nsOf_len]; exact (List.getElem?_eq_some_iff.1 hq).1
  have hc : cntS (rnd (nsOf qs)) t i ≤ q.length := by
    have h1 := filter_rnd (nsOf_pos h) hil
    have h2 : cntS (rnd (nsOf qs)) t i ≤ (rnd (nsOf qs)).countP fun y => y.1 == i := (List.take_sublist _ _).countP_le
    rw [List.countP_eq_length_filter, h1, hg] at h2
    simpa [rawQ] using h2
  have hb := sum_bd hq8.2
  refine ⟨hc, ?_, ?_, fun x hx => ?_⟩
  · unfold sumS; rw [hg]; have := hb (cntS (rnd (nsOf qs)) t i); omega
  · unfold hasS; rw [hg, List.length_map]
  · have hl := (List.getElem?_eq_some_iff.1 hx).1
    refine ⟨?_, hq8.2 x (List.mem_iff_getElem?.2 ⟨_, hx⟩)⟩
    rw [headR_eq (by unfold hasS; rw [hg, List.length_map]; exact hl), hg, List.getD_eq_getElem?_getD, List.getElem?_map, hx]; rfl
theorem arr_zero (n : Nat) : arr (fun _ => (0 : Int)) n = List.replicate n 0 := by unfold arr; simp [List.map_const']

set_option maxHeartbeats 4000000 in
theorem rndRef_ok (ao : Option Addr) (len ac B : Nat) (rs : List Stp) (w : World) (hA : RowSl B w ao 1 (rs.map stpC)) (hr : StpsOk B w rs) (hlen : len = rs.length) (hB : B ≤ w.heap.size) (hok : QsOk (rowsOf rs)) :
    Calls Tryd.prog 5 #[.slice ao len ac] w fun e w' =>
      ∃ va vb, e = .returned (.tuple #[va, vb]) ∧ Sep w.heap.size w' [Ent.ints 3 vb (rndsOf (rnd (nsOf (rowsOf rs)))), Ent.ints 3 va (ordOf (rnd (nsOf (rowsOf rs))))] ∧ Below w.heap.size w w' := by
  subst hlen
  have hn5 : rs.length ≤ 5 := by rw [← rowsOf_len]; exact hok.few
  obtain ⟨ns, hns⟩ : ∃ ns, ns = nsOf (rowsOf rs) := ⟨_, rfl⟩
  obtain ⟨S, hS⟩ : ∃ S, S = rnd ns := ⟨_, rfl⟩
  rw [← hns, ← hS]
  have hpos : Pos ns := by rw [hns]; exact nsOf_pos hok
  have hqa : ∀ t i q, (rowsOf rs)[i]? = some q → QAt ns S t i q := fun t i q h => by rw [hS, hns]; exact qAt hok h
  have htot : drrTot (rowsOf rs) = S.length := by rw [hS, hns, rnd_totD]
  have hl40 : S.length ≤ 40 := by rw [hS, hns]; exact rnd_len40 hok
  have hnl : ns.length = rs.length := by rw [hns, nsOf_len, rowsOf_len]
  obtain ⟨g, hg⟩ : ∃ g, g = w.heap.size := ⟨_, rfl⟩
  rw [← hg]
  have hgw : g ≤ w.heap.size := by omega
  have hBg : B ≤ g := by omega
  have HA := Lib.hid hA
  have HR := Lib.hid hr
  have HOK := Lib.hid hok
  have HPOS := Lib.hid hpos
  have HQA := Lib.hid hqa
  have HTOT := Lib.hid htot
  have HS := Lib.hid hS
  have HNL := Lib.hid hnl
  have HG := Lib.hid hg
  have HN0 := Lib.hid (Sep.nil g w)
  clear hA hr hok hpos hqa htot hS hns hnl hg
  go_enter Tryd.func5, Tryd.ntmps5
  go_wp2_with (at_make; refine wpList_make_sep rfl _ _ rfl elemInt8 .i64 .i64 rs.length rs.length rs.length rfl rfl rfl rfl (by omega) (by unfold maxLen; omega) HN0.out hgw ?_)
  intro w1 hs hb hsz
  obtain ⟨gt, hgt⟩ : ∃ gt, gt = w.heap.size := ⟨_, rfl⟩
  rw [← hgt] at hs ⊢
  have hs1 : Sep g w1 [Ent.ints 3 (.slice (some ⟨gt, 0, none⟩) rs.length rs.length) (arr (fun _ => 0) rs.length)] := by
    unfold Ent.ints
    rw [arr_zero, List.length_replicate, ← madeInts']
    simpa [Value.cells] using hs
  have HS1 := Lib.hid hs1
  have HB1 := Lib.hid (show Below g w w1 from (hb.mono hgw))
  have hg1 : g ≤ w1.heap.size := Nat.le_trans hgw HB1.out.size
  clear hs hb hsz hs1 hgt
  go_wp2_with (at_make; refine wpList_make_sep rfl _ _ rfl elemInt8 .i64 .i64 rs.length rs.length rs.length rfl rfl rfl rfl (by omega) (by unfold maxLen; omega) HS1.out hg1 ?_)
  intro w2 hs hb hsz
  obtain ⟨gc, hgc⟩ : ∃ gc, gc = w1.heap.size := ⟨_, rfl⟩
  rw [← hgc] at hs ⊢
  have hs2 : Sep g w2 [Ent.ints 3 (.slice (some ⟨gc, 0, none⟩) rs.length rs.length) (arr (fun _ => 0) rs.length), Ent.ints 3 (.slice (some ⟨gt, 0, none⟩) rs.length rs.length) (arr (fun _ => 0) rs.length)] := by
    have e : Ent.ints 3 (.slice (some ⟨gc, 0, none⟩) rs.length rs.length) (arr (fun _ => 0) rs.length) = Ent.row (.slice (some ⟨gc, 0, none⟩) rs.length rs.length) rs.length 1 3 (madeCells #[.int .i64 0] rs.length).toList := by
      unfold Ent.ints
      rw [arr_zero, List.length_replicate, ← madeInts']
    rw [e]
    simpa [Value.cells] using hs
  have hz1 : (fun _ => (0 : Int)) = fun i => ((sumS ns S 0 i : Nat) : Int) := by funext i; simp [sumS, cnt_zero]
  have hz2 : (fun _ => (0 : Int)) = fun i => ((cntS S 0 i : Nat) : Int) := by funext i; simp [cnt_zero]
  have hs3 : Sep g w2 [Ent.ints 3 (.slice none 0 0) [], Ent.ints 3 (.slice none 0 0) [], Ent.ints 3 (.slice (some ⟨gc, 0, none⟩) rs.length rs.length) (arr (fun i => ((sumS ns S 0 i : Nat) : Int)) rs.length), Ent.ints 3 (.slice (some ⟨gt, 0, none⟩) rs.length rs.length) (arr (fun i => ((cntS S 0 i : Nat) : Int)) rs.length)] := by
    rw [← hz1, ← hz2]; exact (hs2.intsNil _).intsNil _
  have HS2 := Lib.hid hs3
  have HB2 := Lib.hid (HB1.out.trans (hb.mono hg1))
  clear hs hb hsz hs2 hs3 hgc hz1 hz2 HS1 HB1 hg1 HN0
  go_wp2
  go_loopg [6, 7, 8, 9] S.length (fun gk o r b9 i9 wr => ∃ (t : Nat) (vo vr : Value) (eo er : List Int), gk + t = S.length ∧ vo = o ∧ vr = r ∧ Hid (eo = ordOf (S.take t)) ∧ Hid (er = rndsOf (S.take t)) ∧ Hid (eo.length = t) ∧ Hid (er.length = t) ∧
    Sep g wr [Ent.ints 3 vr er, Ent.ints 3 vo eo, Ent.ints 3 (.slice (some ⟨gc, 0, none⟩) rs.length rs.length) (arr (fun i => ((sumS ns S t i : Nat) : Int)) rs.length), Ent.ints 3 (.slice (some ⟨gt, 0, none⟩) rs.length rs.length) (arr (fun i => ((cntS S t i : Nat) : Int)) rs.length)] ∧ Below g w wr)
  case atStart => exact ⟨0, _, _, [], [], by omega, rfl, rfl, by simp [Hid, ordOf], by simp [Hid, rndsOf], rfl, rfl, HS2.out, HB2.out⟩
  case round =>
    obtain ⟨gi, hgi0⟩ : ∃ gi, gi = gk := ⟨_, rfl⟩
    obtain ⟨t, vo, vr, eo, er, hgk, rfl, rfl, heo, her, hlo, hlr, hs, hbl⟩ := hrel
    have hgw1 : g ≤ wr.heap.size := Nat.le_trans hgw hbl.size
    obtain ⟨ao3, c3, rfl, -⟩ := hs.intsShape (A := [_])
    rw [hlo.out] at hs ⊢
    have HS3 := Lib.hid hs
    have HB3 := Lib.hid hbl
    have HGK := Lib.hid hgk
    clear hs hbl HS2 HB2 hgk hgi0
    go_wp2_with fail
    refine (thingsH_any _ _ _ _ rs _ (HA.out.below (HB3.out.mono hBg)) (HR.out.below (HB3.out.mono hBg)) rfl HOK.out hn5).mono ?_
    rintro e w' ⟨rfl, rfl⟩
    rw [HTOT.out]
    obtain ⟨w3, hw3⟩ : ∃ w3, w3 = wr := ⟨_, rfl⟩
    obtain rfl := hw3
    by_cases hlt : t < S.length
    · obtain ⟨x, hx⟩ : ∃ x, S[t]? = some x := ⟨_, List.getElem?_eq_getElem hlt⟩
      have HX := Lib.hid hx
      have hd1 : decide ((t : Int) < (S.length : Int)) = true := decide_eq_true (by omega)
      clear hx
      go_wp2
      clear hd1
      go_loopg [8, 9] rs.length (fun gk b8 i9 wr => ∃ (i m : Nat) (b : Int), gk + i = rs.length ∧ i9 = .int .i64 i ∧ b8 = .int .i64 b ∧ Hid (BestI ns S t i b) ∧ wr = w3.drewN m)
      case atStart => exact ⟨0, 0, -1, by omega, rfl, rfl, .inl ⟨rfl, fun j hj => absurd hj (by omega)⟩, rfl⟩
      case round =>
        obtain ⟨gj, hgj0⟩ : ∃ gj, gj = gk := ⟨_, rfl⟩
        obtain ⟨i, m, b, hgk, rfl, rfl, hbest, hwr⟩ := hrel
        subst hwr
        have HGJ := Lib.hid hgk
        have hii : i ≤ rs.length := by omega
        clear hgk hgj0
        by_cases hli : i < rs.length
        · obtain ⟨⟨ra, rc, q⟩, hrk⟩ : ∃ r, rs[i]? = some r := ⟨_, List.getElem?_eq_getElem hli⟩
          obtain ⟨b0, o0, rfl, hbb, c0⟩ := rows_at (HA.out.below (HB3.out.mono hBg)) hrk
          have hqi := HQA.out t i q (rowsOf_get hrk)
          obtain ⟨hinner, hrl, hrm⟩ := HR.out _ (List.mem_iff_getElem?.2 ⟨i, hrk⟩)
          have hq8 := (HOK.out.all q (List.mem_iff_getElem?.2 ⟨i, rowsOf_get hrk⟩)).1
          simp only at hinner c0
          obtain ⟨p, hp⟩ : ∃ p, p = cntS S t i := ⟨_, rfl⟩
          obtain ⟨s, hs⟩ : ∃ s, s = sumS ns S t i := ⟨_, rfl⟩
          obtain ⟨ta, -⟩ := ints_here (A := [_, _, _]) (C := []) HS3.out (arr_len _ _) (arr_get hli)
          obtain ⟨tc, -⟩ := ints_here (A := [_, _]) (C := [_]) HS3.out (arr_len _ _) (arr_get hli)
          have hle := hqi.le
          have hsl := hqi.sum
          rw [← hp] at ta hle
          rw [← hs] at tc hsl
          have hiI : (i : Int) < (rs.length : Int) := by omega
          have hi0 : (0 : Int) ≤ (i : Int) := by omega
          have HIN := Lib.hid (hinner.below (HB3.out.mono hBg))
          have HQI := Lib.hid hqi
          have HP := Lib.hid hp
          have HSS := Lib.hid hs
          clear hqi hinner hrl hrm hrk hp hs
          by_cases hh : p < q.length
          · obtain ⟨y, hy⟩ : ∃ y, q[p]? = some y := ⟨_, List.getElem?_eq_getElem hh⟩
            obtain ⟨hhd, hy1, hy2⟩ := HQI.out.head y (by rw [← HP.out]; exact hy)
            obtain ⟨b1, o1, rfl, hb1, cy⟩ := HIN.out p y hy
            obtain ⟨y, rfl⟩ := Int.eq_ofNat_of_zero_le (by omega : 0 ≤ y)
            rw [Int.toNat_natCast, ← HSS.out] at hhd
            obtain ⟨R, hR⟩ : ∃ R, R = headR ns S t i := ⟨_, rfl⟩
            rw [← hR] at hhd
            have hRI : (s : Int) + (y : Int) = (R : Int) := by omega
            have hRw : IntKind.i64.wrap (R : Int) = (R : Int) := by simp [IntKind.wrap, IntKind.bits, IntKind.signed]; omega
            have hhas : hasS ns S t i := HQI.out.has.2 (by rw [← HP.out]; exact hh)
            have hpI : (p : Int) < (q.length : Int) := by omega
            have hp0 : (0 : Int) ≤ (p : Int) := by omega
            have hd1 : decide ((p : Int) < (q.length : Int)) = true := decide_eq_true hpI
            have hd1N : decide (p < q.length) = true := decide_eq_true hh
            have HHAS := Lib.hid hhas
            have HRR := Lib.hid hR
            clear hy hhd hR hhas
            have hbc : b = -1 ∨ ∃ k : Nat, b = (k : Int) ∧ k < i ∧ hasS ns S t k := by
              rcases hbest.out with ⟨h1, _⟩ | ⟨k, h1, h2, h3, _⟩
              · exact .inl h1
              · exact .inr ⟨k, h1, h2, h3⟩
            rcases hbc with hb | ⟨k, hb, hki, hhk⟩
            · subst hb
              have HNX := Lib.hid (BestI.first hbest.out HHAS.out)
              clear hRI hRw
              go_upto_region 9 with fail
              go_quiet (fail)
              go_wp2
              go_roundg (rs.length - (i + 1))
              case measure => have := HGJ.out; omega
              case rel => exact ⟨i + 1, _, _, by omega, by go_num, rfl, HNX, rfl⟩
            · subst hb
              have hlk : k < rs.length := by omega
              obtain ⟨⟨ra2, rc2, q2⟩, hrk2⟩ : ∃ r, rs[k]? = some r := ⟨_, List.getElem?_eq_getElem hlk⟩
              obtain ⟨b0', o0', he, -, c2⟩ := rows_at (HA.out.below (HB3.out.mono hBg)) hrk2
              simp only [Option.some.injEq, Addr.mk.injEq, and_true] at he
              obtain ⟨rfl, rfl⟩ := he
              have hqk := HQA.out t k q2 (rowsOf_get hrk2)
              have hin2 := (HR.out _ (List.mem_iff_getElem?.2 ⟨k, hrk2⟩)).1
              have hq82 := (HOK.out.all q2 (List.mem_iff_getElem?.2 ⟨k, rowsOf_get hrk2⟩)).1
              simp only at hin2 c2
              obtain ⟨p2, hp2⟩ : ∃ p, p = cntS S t k := ⟨_, rfl⟩
              obtain ⟨s2, hs2⟩ : ∃ s, s = sumS ns S t k := ⟨_, rfl⟩
              obtain ⟨ta2, -⟩ := ints_here (A := [_, _, _]) (C := []) HS3.out (arr_len _ _) (arr_get hlk)
              obtain ⟨tc2, -⟩ := ints_here (A := [_, _]) (C := [_]) HS3.out (arr_len _ _) (arr_get hlk)
              have hsl2 := hqk.sum
              have hh2 := hqk.has.1 hhk
              rw [← hp2] at ta2 hh2
              rw [← hs2] at tc2 hsl2
              obtain ⟨y2, hy2'⟩ : ∃ y, q2[p2]? = some y := ⟨_, List.getElem?_eq_getElem hh2⟩
              obtain ⟨hhd2, hy3, hy4⟩ := hqk.head y2 (by rw [← hp2]; exact hy2')
              obtain ⟨b2, o2, rfl, -, cy2⟩ := (hin2.below (HB3.out.mono hBg)) p2 y2 hy2'
              obtain ⟨y2, rfl⟩ := Int.eq_ofNat_of_zero_le (by omega : 0 ≤ y2)
              rw [Int.toNat_natCast, ← hs2] at hhd2
              obtain ⟨R2, hR2⟩ : ∃ R, R = headR ns S t k := ⟨_, rfl⟩
              rw [← hR2] at hhd2
              have hRI2 : (s2 : Int) + (y2 : Int) = (R2 : Int) := by omega
              have hRw2 : IntKind.i64.wrap (R2 : Int) = (R2 : Int) := by simp [IntKind.wrap, IntKind.bits, IntKind.signed]; omega
              have hp2I : (p2 : Int) < (q2.length : Int) := by omega
              have hp20 : (0 : Int) ≤ (p2 : Int) := by omega
              have hkI : (k : Int) < (rs.length : Int) := by omega
              have hk0 : (0 : Int) ≤ (k : Int) := by omega
              have hkd : decide ((k : Int) < 0) = false := decide_eq_false (by omega)
              have HRR2 := Lib.hid hR2
              clear hy2' hhd2 hR2 hqk hrk2 hin2 hp2 hs2 hhk
              by_cases hcmp : R < R2
              · have hd3 : decide ((R : Int) < (R2 : Int)) = true := decide_eq_true (by omega)
                have hd3N : decide (R < R2) = true := decide_eq_true hcmp
                have HNX := Lib.hid (BestI.less hbest.out HHAS.out (by rw [← HRR.out, ← HRR2.out]; exact hcmp))
                clear hcmp
                go_upto_region 9 with fail
                go_quiet (fail)
                go_wp2
                go_roundg (rs.length - (i + 1))
                case measure => have := HGJ.out; omega
                case rel => exact ⟨i + 1, _, _, by omega, by go_num, rfl, HNX, rfl⟩
              · have hd3 : decide ((R : Int) < (R2 : Int)) = false := decide_eq_false (by omega)
                have hd3N : decide (R < R2) = false := decide_eq_false hcmp
                have HNX := Lib.hid (BestI.keep hbest.out (by rw [← HRR.out, ← HRR2.out]; omega))
                clear hcmp
                go_upto_region 9 with fail
                go_quiet (fail)
                go_wp2
                go_roundg (rs.length - (i + 1))
                case measure => have := HGJ.out; omega
                case rel => exact ⟨i + 1, _, _, by omega, by go_num, rfl, HNX, rfl⟩
          · have hd1 : decide ((p : Int) < (q.length : Int)) = false := decide_eq_false (by omega)
            have hd1N : decide (p < q.length) = false := decide_eq_false hh
            have HNX := Lib.hid (BestI.skip hbest.out (fun h => hh (by have := HQI.out.has.1 h; rw [← HP.out] at this; exact this)))
            clear hh
            go_upto_region 9 with fail
            go_quiet (fail)
            go_wp2
            go_roundg (rs.length - (i + 1))
            case measure => have := HGJ.out; omega
            case rel => exact ⟨i + 1, _, _, by omega, by go_num, rfl, HNX, rfl⟩
        · have hin : i = ns.length := by rw [HNL.out]; omega
          have hbx : b = (x.1 : Int) := BestI.ends HPOS.out (by rw [← HS.out]; exact HX.out) (by rw [← HS.out, ← hin]; exact hbest.out)
          subst hbx
          obtain ⟨gx1, -, -⟩ := next_has HPOS.out (x := x) (t := t) (by rw [← HS.out]; exact HX.out)
          rw [HNL.out] at gx1
          obtain ⟨k, hk⟩ : ∃ k, k = x.1 := ⟨_, rfl⟩
          obtain ⟨R, hR⟩ : ∃ R, R = x.2.2.1 := ⟨_, rfl⟩
          have hnr : R = headR ns S t k := by rw [hR, hk, HS.out]; exact next_round HPOS.out (by rw [← HS.out]; exact HX.out)
          rw [← hk] at gx1 ⊢
          obtain ⟨⟨ra, rc, q⟩, hrk⟩ : ∃ r, rs[k]? = some r := ⟨_, List.getElem?_eq_getElem gx1⟩
          have HS4 := Lib.hid (HS3.out.drewN m)
          have HB4 := Lib.hid (HB3.out.trans (below_drewN g _ m))
          generalize w3.drewN m = w4 at *
          obtain ⟨b0, o0, rfl, hbb, c0⟩ := rows_at (HA.out.below (HB4.out.mono hBg)) hrk
          have hqi := HQA.out t k q (rowsOf_get hrk)
          have hinner := (HR.out _ (List.mem_iff_getElem?.2 ⟨k, hrk⟩)).1
          have hq8 := (HOK.out.all q (List.mem_iff_getElem?.2 ⟨k, rowsOf_get hrk⟩)).1
          simp only at hinner c0
          obtain ⟨p, hp⟩ : ∃ p, p = cntS S t k := ⟨_, rfl⟩
          obtain ⟨s, hs⟩ : ∃ s, s = sumS ns S t k := ⟨_, rfl⟩
          obtain ⟨ta, -⟩ := ints_here (A := [_, _, _]) (C := []) HS4.out (arr_len _ _) (arr_get gx1)
          obtain ⟨tc, tcf, tcg, tset⟩ := ints_here (A := [_, _]) (C := [_]) HS4.out (arr_len _ _) (arr_get gx1)
          have hhas : hasS ns S t k := by rw [hk, HS.out]; exact (next_has HPOS.out (by rw [← HS.out]; exact HX.out)).2.1
          have hh := hqi.has.1 hhas
          have hsl := hqi.sum
          rw [← hp] at ta hh
          rw [← hs] at tc hsl
          obtain ⟨y, hy⟩ : ∃ y, q[p]? = some y := ⟨_, List.getElem?_eq_getElem hh⟩
          obtain ⟨hhd, hy1, hy2⟩ := hqi.head y (by rw [← hp]; exact hy)
          obtain ⟨b1, o1, rfl, hb1, cy⟩ := (hinner.below (HB4.out.mono hBg)) p y hy
          obtain ⟨y, rfl⟩ := Int.eq_ofNat_of_zero_le (by omega : 0 ≤ y)
          rw [Int.toNat_natCast, ← hs, ← hnr] at hhd
          have hRI : (s : Int) + (y : Int) = (R : Int) := by omega
          have hR1 : R ≤ 200 := by omega
          have hkI : (k : Int) < (rs.length : Int) := by omega
          have hk0 : (0 : Int) ≤ (k : Int) := by omega
          have hpI : (p : Int) < (q.length : Int) := by omega
          have hp0 : (0 : Int) ≤ (p : Int) := by omega
          have HS5 := Lib.hid (tset (R : Int))
          have HB5 := Lib.hid (HB4.out.setCell (p := ⟨gc, k, none⟩) tcg (.int .i64 (R : Int)))
          have ha1 : (arr (fun i => ((sumS ns S t i : Nat) : Int)) rs.length).set k (R : Int) = arr (fun i => ((sumS ns S (t + 1) i : Nat) : Int)) rs.length := by
            rw [arr_set]
            refine arr_congr fun i _ => ?_
            rw [sum_succS HX.out, ← hk]
            by_cases h : i = k
            · subst h; rw [if_pos rfl, if_pos rfl, hnr]
            · rw [if_neg h, if_neg h]
          have ha2 : (arr (fun i => ((cntS S t i : Nat) : Int)) rs.length).set k ((p : Int) + 1) = arr (fun i => ((cntS S (t + 1) i : Nat) : Int)) rs.length := by
            rw [arr_set]
            refine arr_congr fun i _ => ?_
            rw [cnt_succ HX.out, ← hk]
            by_cases h : i = k
            · subst h; rw [if_pos rfl, if_pos rfl, hp]; omega
            · rw [if_neg h, if_neg h]
          have HA1 := Lib.hid ha1
          have HA2 := Lib.hid ha2
          have HP := Lib.hid hp
          have hrx : ((sumS ns S (t + 1) k : Nat) : Int) = (R : Int) := by rw [sum_succS HX.out, ← hk, if_pos rfl, hnr]
          have HRX := Lib.hid hrx
          have hox : ordOf (S.take (t + 1)) = eo ++ [(k : Int)] := by rw [List.take_add_one, HX.out, heo.out, hk]; simp [ordOf]
          have hrx2 : rndsOf (S.take (t + 1)) = er ++ [(R : Int)] := by rw [List.take_add_one, HX.out, her.out, hR]; simp [rndsOf]
          have HOX := Lib.hid hox
          have HRX2 := Lib.hid hrx2
          clear hqi hinner hrk hs hhd hy ha1 ha2 hrx hox hrx2 hnr hR hk hhas hbest HGJ hin hp HS3 HB3 tset
          go_wp2_with fail
          go_region
          have HS6 := Lib.hid HS5.out.drew
          have HB6 := Lib.hid HB5.out.drew
          rw [HA1.out] at HS6
          clear ta tc tcf tcg c0 cy HS5 HB5 HS4 HB4
          generalize (w4.setCell ⟨gc, k, none⟩ (.int .i64 (R : Int))).drew = w6 at *
          obtain ⟨ta, taf, tag, tset⟩ := ints_here (A := [_, _, _]) (C := []) HS6.out (arr_len _ _) (arr_get gx1)
          rw [← HP.out] at ta
          have HS7 := Lib.hid (tset ((p : Int) + 1))
          have HB7 := Lib.hid (HB6.out.setCell (p := ⟨gt, k, none⟩) tag (.int .i64 ((p : Int) + 1)))
          rw [HA2.out] at HS7
          clear tset HS6 HB6 hRI
          go_upto_region 13 with fail
          generalize w6.setCell ⟨gt, k, none⟩ (.int .i64 ((p : Int) + 1)) = w7 at *
          clear ta taf tag
          have hg7 : g ≤ w7.heap.size := Nat.le_trans hgw HB7.out.size
          have hlo9 : eo.length ≤ 1000000000 := by rw [hlo.out]; omega
          have hlr9 : er.length ≤ 1000000000 := by rw [hlr.out]; omega
          have HLO9 := Lib.hid hlo9
          have HLR9 := Lib.hid hlr9
          clear hlo9 hlr9
          go_wp2_with (at_builtin; refine wpList_append_int (B := g) (w := w7) (v := .slice ao3 t c3) (y := (k : Int)) (xs := eo) (A := [_]) (C := [_, _]) ?_ (.tmp 101) (.tmp 103) ?_ elemInt8 ?_ HS7.out hg7 ?_ HLO9.out ?_; rfl; rfl; rfl; rfl)
          intro v8 w8 h1 h2
          have HS8 := Lib.hid h1
          have HB8 := Lib.hid (HB7.out.trans h2)
          have hg8 : g ≤ w8.heap.size := Nat.le_trans hgw HB8.out.size
          obtain ⟨tc, tcf, -, -⟩ := ints_here (A := [_, _]) (C := [_]) HS8.out (arr_len _ _) (arr_get gx1)
          rw [HRX.out] at tc
          clear h1 h2 HS7 HB7
          go_wp2_with (at_builtin; refine wpList_append_int (B := g) (w := w8) (v := vr) (y := (R : Int)) (xs := er) (A := []) (C := [_, _, _]) ?_ (.tmp 105) (.tmp 110) ?_ elemInt8 ?_ HS8.out hg8 ?_ HLR9.out ?_; rfl; rfl; rfl; rfl)
          intro v9 w9 h1 h2
          have HS9 := Lib.hid h1
          have HB9 := Lib.hid (HB8.out.trans h2)
          clear h1 h2 tc tcf HS8 HB8
          go_wp2
          go_roundg (S.length - (t + 1))
          case measure => have := HGK.out; omega
          case rel => exact ⟨t + 1, _, _, _, _, by omega, rfl, rfl, HOX.out.symm, HRX2.out.symm, by show _ = _; rw [List.length_append, hlo.out]; rfl, by show _ = _; rw [List.length_append, hlr.out]; rfl, HS9.out, HB9.out⟩
    · have htn : t = S.length := by have := HGK.out; omega
      have hd1 : decide ((t : Int) < (S.length : Int)) = false := decide_eq_false (by omega)
      have hd1N : decide (t < S.length) = false := decide_eq_false hlt
      have h1 := HS3.out.sub (L' := [_, _]) (List.Sublist.cons_cons _ (List.Sublist.cons_cons _ (List.nil_sublist _)))
      have h2 : eo = ordOf S := by rw [heo.out, htn, List.take_length]
      have h3 : er = rndsOf S := by rw [her.out, htn, List.take_length]
      have H2 := Lib.hid h2
      have H3 := Lib.hid h3
      have H1 := Lib.hid h1
      have hvr := HS3.out.intsShape (A := [])
      have HT := Lib.hid htn
      clear h1 h2 h3 htn hlt hvr
      go_wp2
      go_ret2
      refine ⟨_, _, rfl, ?_, HB3.out⟩
      have := H1.out
      rw [H2.out, H3.out] at this
      exact this
end Go.Proofs.YtpfpaheafpibiaaDoor
