/- RoundsSay returns true: of any queues the order, when each thing ends, and when it would end bit by bit, are as the document says. -/
import Derived.Test.YtpfpaheafpibiaaDoorRndRef
import Derived.Test.YtpfpaheafpibiaaDoorRndBits
import Derived.Test.YtpfpaheafpibiaaDoorSays
import Derived.Test.YtpfpaheafpibiaaDoorInts
import Derived.Test.YtpfpaheafpibiaaDoorAll3
namespace Go.Proofs.YtpfpaheafpibiaaDoor
open Go.RowKit
set_option linter.unusedVariables false
set_option linter.unusedSimpArgs false
set_option maxRecDepth 100000

theorem sum_toNat : ∀ {xs : List Int}, (∀ x ∈ xs, 0 ≤ x) → xs.sum = (((xs.map Int.toNat).sum : Nat) : Int)
  | [], _ => rfl
  | x :: xs, h => by
    have h1 := h x (by simp)
    have h2 := sum_toNat (xs := xs) fun y hy => h y (by simp [hy])
    rw [List.sum_cons, List.map_cons, List.sum_cons, h2]; omega
set_option maxHeartbeats 1000000 in
theorem roundsSay_wrong (ao : Option Addr) (ac g : Nat) (rs : List Stp) (c : Int) (w : World) (hG : g = w.heap.size) (hc : (c == 0) = false) (hs : SaysC g w c) (hA : RowSl g w ao 1 (rs.map stpC)) (hr : StpsOk g w rs) (hl : rs.length ≤ 9223372036854775807) (hw : checkCode (rowsOf rs) = c) :
    Calls Tryd.prog 3 #[.slice ao rs.length ac] w fun e w' => e = .returned (.bool true) ∧ Below w.heap.size w w' := by
  have hc0 : ¬ c = 0 := by simpa using hc
  have HC0 := Lib.hid hc0; clear hc0
  have HA := Lib.hid hA; clear hA
  have HR := Lib.hid hr; clear hr
  have HG := Lib.hid hG; clear hG
  have HSAME := Lib.hid hs; clear hs
  have HW := Lib.hid hw; clear hw
  have HLN := Lib.hid hl; clear hl
  have HB1 := Lib.hid (Below.refl g w)
  have hg1 : g ≤ w.heap.size := by have := HG.out; omega
  go_enter Tryd.func3, Tryd.ntmps3
  go_wp2_with fail
  refine (queuesH_any _ _ _ _ rs _ HA.out HR.out rfl HLN.out).mono ?_
  rintro e w' ⟨rfl, rfl⟩
  rw [HW.out]
  go_wp2_with fail
  refine (rndRun_err _ _ _ _ rs c _ HA.out HR.out rfl HLN.out HW.out.symm HC0.out).mono ?_
  rintro e w' ⟨rfl, rfl⟩
  rw [errV_not HC0.out]
  go_wp2_with fail
  refine (HSAME.out _ HB1.out).mono ?_
  rintro e w2 ⟨rfl, hb⟩
  have HB2 := Lib.hid (HB1.out.trans (hb.mono hg1))
  have hg2 : g ≤ w2.heap.size := by have := HB2.out.size; rw [← HG.out] at this; exact this
  clear hb
  go_wp2_with fail
  refine (ints_any _ _ _ _ _ _ 0 0 [] [] true _ (IntSl.nil _ _ _) (IntSl.nil _ _ _) rfl rfl (by decide) (by decide)).mono ?_
  rintro e w3 ⟨rfl, hd⟩
  have hb := below_of_drew hd
  clear hd
  have HB3 := Lib.hid (HB2.out.trans (hb.mono hg2))
  have hg3 : g ≤ w3.heap.size := by have := HB3.out.size; rw [← HG.out] at this; exact this
  clear hb
  go_wp2_with fail
  refine (ints_any _ _ _ _ _ _ 0 0 [] [] true _ (IntSl.nil _ _ _) (IntSl.nil _ _ _) rfl rfl (by decide) (by decide)).mono ?_
  rintro e w4 ⟨rfl, hd⟩
  have hb := below_of_drew hd
  clear hd
  have HB4 := Lib.hid (HB3.out.trans (hb.mono hg3))
  have hg4 : g ≤ w4.heap.size := by have := HB4.out.size; rw [← HG.out] at this; exact this
  clear hb
  go_wp2_with fail
  refine (rndBits_err _ _ _ _ rs c _ (HA.out.below HB4.out) (HR.out.below HB4.out) rfl HLN.out HW.out.symm HC0.out).mono ?_
  rintro e w' ⟨rfl, rfl⟩
  rw [errV_not HC0.out]
  go_wp2_with fail
  refine (HSAME.out _ HB4.out).mono ?_
  rintro e w5 ⟨rfl, hb⟩
  have HB5 := Lib.hid (HB4.out.trans (hb.mono hg4))
  have hg5 : g ≤ w5.heap.size := by have := HB5.out.size; rw [← HG.out] at this; exact this
  clear hb
  go_wp2_with fail
  refine (ints_any _ _ _ _ _ _ 0 0 [] [] true _ (IntSl.nil _ _ _) (IntSl.nil _ _ _) rfl rfl (by decide) (by decide)).mono ?_
  rintro e w6 ⟨rfl, hd⟩
  have hb := below_of_drew hd
  clear hd
  have HB6 := Lib.hid (HB5.out.trans (hb.mono hg5))
  have hg6 : g ≤ w6.heap.size := by have := HB6.out.size; rw [← HG.out] at this; exact this
  clear hb
  go_wp2
  go_ret
  exact ⟨rfl, by have := HB6.out; rw [HG.out] at this; exact this⟩
set_option maxHeartbeats 4000000 in
theorem roundsSay_ok (ao : Option Addr) (ac g : Nat) (rs : List Stp) (w : World) (hG : g = w.heap.size) (hs0 : Says0 g w) (hA : RowSl g w ao 1 (rs.map stpC)) (hr : StpsOk g w rs) (hl : rs.length ≤ 9223372036854775807) (hw : checkCode (rowsOf rs) = 0) :
    Calls Tryd.prog 3 #[.slice ao rs.length ac] w fun e w' => e = .returned (.bool true) ∧ Below w.heap.size w w' := by
  have hok := checkCode_zero.1 hw
  have hn5 : rs.length ≤ 5 := by rw [← rowsOf_len]; exact hok.few
  have HA := Lib.hid hA; clear hA
  have HR := Lib.hid hr; clear hr
  have HG := Lib.hid hG; clear hG
  have HSAME := Lib.hid hs0; clear hs0
  have HW := Lib.hid hw; clear hw
  have HLN := Lib.hid hl; clear hl
  obtain ⟨ns, hns⟩ : ∃ ns, ns = nsOf (rowsOf rs) := ⟨_, rfl⟩
  obtain ⟨S, hS⟩ : ∃ S, S = rnd ns := ⟨_, rfl⟩
  have hl40 : S.length ≤ 40 := by rw [hS, hns]; exact rnd_len40 hok
  have hpos : Pos ns := by rw [hns]; exact nsOf_pos hok
  have hqa : ∀ t i q, (rowsOf rs)[i]? = some q → QAt ns S t i q := fun t i q h => by rw [hS, hns]; exact qAt hok h
  have hbd : ∀ (i : Nat) (x : Itm), S[i]? = some x → x.2.2.2 ≤ 20 ∧ x.2.2.1 ≤ 160 ∧ x.1 < rs.length ∧ x.2.1 < 8 ∧ 1 ≤ x.2.2.2 := fun i x hx => by
    rw [hS, hns] at hx; have := rnd_bd hok hx; rw [rowsOf_len] at this; exact this
  have hREF := rndRef_ok ao rs.length ac g rs w HA.out HR.out rfl (Nat.le_of_eq HG.out) hok
  rw [← HG.out, ← hns, ← hS] at hREF
  have hRUN : ∀ w1, Below g w w1 → Calls Tryd.prog 7 #[.slice ao rs.length ac] w1 fun e w' => ∃ va vb, e = .returned (.tuple #[va, vb, .nilIface]) ∧ Sep w1.heap.size w' [Ent.ints 3 vb (endsOf S), Ent.ints 3 va (ordOf S)] ∧ Below w1.heap.size w1 w' := fun w1 hb => by
    have := rndRun_ok ao rs.length ac _ rs w1 (HA.out.below hb) (HR.out.below hb) rfl (by have := hb.size; rw [← HG.out] at this; exact this) hok
    rw [← hns, ← hS] at this; exact this
  have hBIT : ∀ w1, Below g w w1 → Calls Tryd.prog 10 #[.slice ao rs.length ac] w1 fun e w' => ∃ va, e = .returned (.tuple #[va, .nilIface]) ∧ Sep w1.heap.size w' [Ent.ints 3 va (bitsOf ns S)] ∧ Below w1.heap.size w1 w' := fun w1 hb => by
    have := rndBits_ok ao rs.length ac _ rs w1 (HA.out.below hb) (HR.out.below hb) rfl (by have := hb.size; rw [← HG.out] at this; exact this) hok
    rw [← hns, ← hS] at this; exact this
  have HREF := Lib.hid hREF
  have HRUN := Lib.hid hRUN
  have HBIT := Lib.hid hBIT
  have HOK := Lib.hid hok
  have HPOS := Lib.hid hpos
  have HQA := Lib.hid hqa
  have HBD := Lib.hid hbd
  have HNS := Lib.hid hns
  have HS := Lib.hid hS
  have HB1 := Lib.hid (Below.refl g w)
  have hg1 : g ≤ w.heap.size := by have := HG.out; omega
  clear hREF hRUN hBIT hok hpos hqa hbd hns hS
  go_enter Tryd.func3, Tryd.ntmps3
  go_wp2_with fail
  refine (queuesH_any _ _ _ _ rs _ HA.out HR.out rfl HLN.out).mono ?_
  rintro e w' ⟨rfl, rfl⟩
  rw [HW.out]
  go_wp2_with fail
  refine HREF.out.mono ?_
  rintro e w2 ⟨va, vb, rfl, hs, hb⟩
  obtain ⟨a1, c1, rfl, -, -⟩ := hs.intsShape (A := [_]) (C := [])
  obtain ⟨a2, c2, rfl, -, -⟩ := hs.intsShape (A := []) (C := [_])
  have HS2 := Lib.hid hs
  have HB2 := Lib.hid hb
  have hg2 : g ≤ w2.heap.size := Nat.le_trans hg1 hb.size
  obtain ⟨O, hO⟩ : ∃ O, O = ordOf S := ⟨_, rfl⟩
  obtain ⟨RR, hRR⟩ : ∃ RR, RR = rndsOf S := ⟨_, rfl⟩
  obtain ⟨N, hN⟩ : ∃ N, N = S.length := ⟨_, rfl⟩
  have hOl : O.length = N := by rw [hO, hN]; simp [ordOf]
  have hRl : RR.length = N := by rw [hRR, hN]; simp [rndsOf]
  rw [← hO, ← hRR] at HS2
  rw [← hO, ← hRR]
  have HO := Lib.hid (And.intro hO (And.intro hRR hN))
  have HOL := Lib.hid (And.intro hOl hRl)
  have hl40N : N ≤ 40 := by omega
  clear hs hb HREF hO hRR hN hOl hRl
  rw [HOL.out.1] at HS2 ⊢
  rw [HOL.out.2] at HS2 ⊢
  go_wp2_with (at_make; refine wpList_make_sep rfl _ _ rfl elemInt8 .i64 .i64 rs.length rs.length rs.length rfl rfl rfl rfl (by omega) (by unfold maxLen; omega) HS2.out hg2 ?_)
  intro w3 hs hb hsz
  obtain ⟨gt, hgt⟩ : ∃ gt, gt = w2.heap.size := ⟨_, rfl⟩
  rw [← hgt] at hs ⊢
  have hz2 : (fun _ => (0 : Int)) = fun i => ((cntS S 0 i : Nat) : Int) := by funext i; simp [cnt_zero]
  have hs3 : Sep g w3 [Ent.ints 3 (.slice none 0 0) [], Ent.ints 3 (.slice none 0 0) [], Ent.ints 3 (.slice (some ⟨gt, 0, none⟩) rs.length rs.length) (arr (fun i => ((cntS S 0 i : Nat) : Int)) rs.length), Ent.ints 3 (.slice a2 N c2) RR, Ent.ints 3 (.slice a1 N c1) O] := by
    have e : Ent.ints 3 (.slice (some ⟨gt, 0, none⟩) rs.length rs.length) (arr (fun _ => (0 : Int)) rs.length) = Ent.row (.slice (some ⟨gt, 0, none⟩) rs.length rs.length) rs.length 1 3 (madeCells #[.int .i64 0] rs.length).toList := by
      unfold Ent.ints
      rw [arr_zero, List.length_replicate, ← madeInts']
    rw [← hz2, e]
    refine (Sep.intsNil (Sep.intsNil ?_ _) _)
    simpa [Value.cells] using hs
  have HS3 := Lib.hid hs3
  have HB3 := Lib.hid (HB2.out.trans (hb.mono hg2))
  clear hs hb hsz hgt hz2 hs3 HS2
  go_wp2
  go_loopg [5, 6, 10, 11, 12, 13, 14] N (fun gk e b nw i s12 s13 s14 wr => ∃ (t nn : Nat) (ve vb : Value) (ee eb : List Int), gk + t = N ∧ i = .int .i64 t ∧ nw = .int .i64 nn ∧ nn ≤ 20 * t ∧ Hid (nn = endAt S t) ∧ ve = e ∧ vb = b ∧ Hid (ee = (endsOf S).take t) ∧ Hid (eb = (bitsOf ns S).take t) ∧ Hid (ee.length = t) ∧ Hid (eb.length = t) ∧
    Sep g wr [Ent.ints 3 ve ee, Ent.ints 3 vb eb, Ent.ints 3 (.slice (some ⟨gt, 0, none⟩) rs.length rs.length) (arr (fun i => ((cntS S t i : Nat) : Int)) rs.length), Ent.ints 3 (.slice a2 N c2) RR, Ent.ints 3 (.slice a1 N c1) O] ∧ Below g w wr)
  case atStart => exact ⟨0, 0, _, _, [], [], by omega, rfl, rfl, by omega, by simp [Hid, endAt], rfl, rfl, by simp [Hid], by simp [Hid], rfl, rfl, HS3.out, HB3.out⟩
  case round =>
    obtain ⟨gi, hgi0⟩ : ∃ gi, gi = gk := ⟨_, rfl⟩
    obtain ⟨t, nn, ve, vb, ee, eb, hgk, rfl, rfl, hnn, hnv, rfl, rfl, hee, heb, hel, hbl2, hs, hbl⟩ := hrel
    have hgw1 : g ≤ wr.heap.size := Nat.le_trans hg1 hbl.size
    have HGK := Lib.hid hgk
    have HS4 := Lib.hid hs
    have HB4 := Lib.hid hbl
    have htN : t ≤ N := by omega
    clear hs hbl HS3 HB3 hgk hgi0
    by_cases hlt : t < N
    · obtain ⟨x, hx⟩ : ∃ x, S[t]? = some x := ⟨_, List.getElem?_eq_getElem (by rw [← HO.out.2.2]; exact hlt)⟩
      obtain ⟨hb1, hb2, hb3, hb4, hb5⟩ := HBD.out t x hx
      obtain ⟨gx1, gx2, gx3⟩ := next_has HPOS.out (x := x) (t := t) (by rw [← HS.out]; exact hx)
      have hpl := rnd_place HPOS.out (i := t) (x := x) (by rw [← HS.out]; exact hx)
      have hsz := (rnd_size HPOS.out (i := t) (x := x) (by rw [← HS.out]; exact hx)).2
      obtain ⟨k, hk⟩ : ∃ k, k = x.1 := ⟨_, rfl⟩
      obtain ⟨p, hp⟩ : ∃ p, p = cntS S t k := ⟨_, rfl⟩
      obtain ⟨R, hR⟩ : ∃ R, R = x.2.2.1 := ⟨_, rfl⟩
      obtain ⟨y, hy⟩ : ∃ y, y = x.2.2.2 := ⟨_, rfl⟩
      have hpx : x.2.1 = p := by rw [hp, hk, HS.out]; exact hpl.1.symm
      rw [← hk] at hb3 hsz
      rw [← hy] at hb1 hb5 hsz
      rw [← hR] at hb2
      rw [hpx] at hsz hb4
      obtain ⟨⟨ra, rc, q⟩, hrk⟩ : ∃ r, rs[k]? = some r := ⟨_, List.getElem?_eq_getElem hb3⟩
      have hq8 := HOK.out.all q (List.mem_iff_getElem?.2 ⟨k, rowsOf_get hrk⟩)
      have hqi := HQA.out t k q (rowsOf_get hrk)
      have hq8l := hq8.1
      have hpq : p < q.length := by
        have := hqi.has.1 (by rw [hk, HS.out]; exact gx2)
        rw [← hp] at this; exact this
      obtain ⟨yi, hyi⟩ : ∃ yi, q[p]? = some yi := ⟨_, List.getElem?_eq_getElem hpq⟩
      have hyI : yi = (y : Int) := by
        have h1 := (hq8.2 yi (List.mem_iff_getElem?.2 ⟨p, hyi⟩)).1
        rw [HNS.out, nsOf_get (rowsOf_get hrk), List.getD_eq_getElem?_getD, List.getElem?_map, hyi] at hsz
        simp at hsz; omega
      subst hyI
      have hinner := (HR.out _ (List.mem_iff_getElem?.2 ⟨k, hrk⟩)).1
      simp only at hinner
      have hOx : O[t]? = some (k : Int) := by rw [HO.out.1, hk]; unfold ordOf; rw [List.getElem?_map, hx]; rfl
      have hRx : RR[t]? = some (R : Int) := by rw [HO.out.2.1, hR]; unfold rndsOf; rw [List.getElem?_map, hx]; rfl
      have hen : nn + y = endAt S (t + 1) := by rw [end_succ hx, ← hnv.out, hy]
      have hal : (arr (fun i => ((cntS S t i : Nat) : Int)) rs.length).length = rs.length := arr_len _ _
      have hcnt : (arr (fun i => ((cntS S t i : Nat) : Int)) rs.length).set k ((p : Int) + 1) = arr (fun i => ((cntS S (t + 1) i : Nat) : Int)) rs.length := by
        rw [arr_set]
        refine arr_congr fun i _ => ?_
        rw [cnt_succ hx, ← hk]
        by_cases h : i = k
        · subst h; rw [if_pos rfl, if_pos rfl, hp]; omega
        · rw [if_neg h, if_neg h]
      have hee2 : (endsOf S).take (t + 1) = ee ++ [((nn + y : Nat) : Int)] := by
        have hl : t < S.length := by rw [← HO.out.2.2]; exact hlt
        rw [List.take_add_one, hee.out, hen]
        unfold endsOf
        rw [List.getElem?_map, List.getElem?_range hl]; rfl
      have heb2 : (bitsOf ns S).take (t + 1) = eb ++ [((bitOf ns R : Nat) : Int)] := by
        rw [List.take_add_one, heb.out]
        unfold bitsOf
        rw [List.getElem?_map, hx, hR]; rfl
      have ht0 : (0 : Int) ≤ (t : Int) := by omega
      have htI : (t : Int) < (N : Int) := by omega
      have hk0 : (0 : Int) ≤ (k : Int) := by omega
      have hkI : (k : Int) < (rs.length : Int) := by omega
      have hp0 : (0 : Int) ≤ (p : Int) := by omega
      have hpI : (p : Int) < (q.length : Int) := by omega
      obtain ⟨n2, hn2⟩ : ∃ n2, n2 = nn + y := ⟨_, rfl⟩
      have hnI : (nn : Int) + (y : Int) = (n2 : Int) := by omega
      have hnw : IntKind.i64.wrap (n2 : Int) = (n2 : Int) := by simp [IntKind.wrap, IntKind.bits, IntKind.signed]; omega
      have hn2l : n2 ≤ 20 * (t + 1) := by omega
      rw [← hn2] at hee2 hen
      have hd1 : decide ((t : Int) < (N : Int)) = true := decide_eq_true htI
      have HX := Lib.hid hx
      have HRK := Lib.hid hrk
      have HIN := Lib.hid hinner
      have HYI := Lib.hid hyi
      have HOX := Lib.hid hOx
      have HRX := Lib.hid hRx
      have HCNT := Lib.hid hcnt
      have HEE2 := Lib.hid hee2
      have HEB2 := Lib.hid heb2
      have HEN := Lib.hid hen
      have HPP := Lib.hid hp
      have hpe : ((cntS S t k : Nat) : Int) = (p : Int) := by rw [hp]
      have HPE := Lib.hid hpe
      obtain ⟨b0, o0, rfl, hbb, c0⟩ := rows_at (HA.out.below HB4.out) hrk
      simp only at c0
      obtain ⟨b1, o1, rfl, -, cy⟩ := (hinner.below HB4.out) p _ hyi
      obtain ⟨ga, oa, rfl, cO, -⟩ := Sep.intsAt (A := [_, _, _, _]) (C := []) (by rw [HOL.out.1]; exact HS4.out) hOx
      obtain ⟨ta, -⟩ := ints_here (A := [_, _]) (C := [_, _]) HS4.out (arr_len _ _) (arr_get hb3)
      rw [HPE.out] at ta
      clear hx hpl hsz hk hp hR hy hpx hrk hq8 hqi hyi hinner hOx hRx hen hal hcnt hee2 heb2 hn2 hpe gx1 gx2 gx3 hlt
      go_upto_region 11 with fail
      go_quiet (fail)
      have HS5 := Lib.hid (HS4.out.drewN nq)
      have HB5 := Lib.hid (HB4.out.trans (below_drewN g _ nq))
      clear hnI hnw ta cO cy c0 HS4 HB4
      generalize wr.drewN nq = w5 at *
      obtain ⟨ga', oa', he, cO, -⟩ := Sep.intsAt (A := [_, _, _, _]) (C := []) (by rw [HOL.out.1]; exact HS5.out) HOX.out
      simp only [Option.some.injEq, Addr.mk.injEq, and_true] at he
      obtain ⟨rfl, rfl⟩ := he
      obtain ⟨ta, taf, tag, tset⟩ := ints_here (A := [_, _]) (C := [_, _]) HS5.out (arr_len _ _) (arr_get hb3)
      rw [HPE.out] at ta
      have HS6 := Lib.hid (tset ((p : Int) + 1)).drew
      have HB6 := Lib.hid (HB5.out.setCell (p := ⟨gt, k, none⟩) tag (.int .i64 ((p : Int) + 1))).drew
      clear tset HS5 HB5
      rw [HCNT.out] at HS6
      go_wp2_with fail
      go_region
      clear ta taf tag cO
      generalize (w5.setCell ⟨gt, k, none⟩ (.int .i64 ((p : Int) + 1))).drew = w6 at *
      have hg6 : g ≤ w6.heap.size := Nat.le_trans hg1 HB6.out.size
      have hel9 : ee.length ≤ 1000000000 := by rw [hel.out]; omega
      have hbl9 : eb.length ≤ 1000000000 := by rw [hbl2.out]; omega
      have HEL9 := Lib.hid hel9
      have HBL9 := Lib.hid hbl9
      clear hel9 hbl9
      go_wp2_with (at_builtin; refine wpList_append_int (B := g) (w := w6) (v := ve) (y := (n2 : Int)) (xs := ee) (A := []) (C := [_, _, _, _]) ?_ (.tmp 71) (.tmp 73) ?_ elemInt8 ?_ HS6.out hg6 ?_ HEL9.out ?_; rfl; rfl; rfl; rfl)
      intro v7 w7 h1 h2
      have HS7 := Lib.hid h1
      have HB7 := Lib.hid (HB6.out.trans h2)
      have hg7 : g ≤ w7.heap.size := Nat.le_trans hg1 HB7.out.size
      clear h1 h2 HS6 HB6
      obtain ⟨g2, o2, rfl, cR, -⟩ := Sep.intsAt (A := [_, _, _]) (C := [_]) (by rw [HOL.out.2]; exact HS7.out) HRX.out
      have HA7 := Lib.hid (HA.out.below HB7.out)
      have HR7 := Lib.hid (HR.out.below HB7.out)
      obtain ⟨w8, hw8⟩ : ∃ w8, w8 = w7 := ⟨_, rfl⟩
      have HW8 := Lib.hid hw8
      clear hw8
      go_wp2
      clear hd1
      go_loopg [12, 13, 14] rs.length (fun gk sm j al wx => ∃ (j' a : Nat), gk + j' = rs.length ∧ j = .int .i64 j' ∧ sm = .int .i64 a ∧ a ≤ 160 * j' ∧ Hid (a = bitTo (nsOf (rowsOf rs)) R j') ∧ wx = w8)
      case atStart => exact ⟨0, 0, by omega, rfl, rfl, by omega, by simp [Hid, bitTo], HW8.out.symm⟩
      case round =>
        obtain ⟨gj, hgj0⟩ : ∃ gj, gj = gk := ⟨_, rfl⟩
        obtain ⟨j, a, hgk, rfl, rfl, ha, hav, hwx⟩ := hrel
        rw [HW8.out] at hwx
        subst hwx
        have HGJ := Lib.hid hgk
        have hjj : j ≤ rs.length := by omega
        clear hgk hgj0
        by_cases hlj : j < rs.length
        · obtain ⟨⟨rb, rcb, xs⟩, hrj⟩ : ∃ r, rs[j]? = some r := ⟨_, List.getElem?_eq_getElem hlj⟩
          obtain ⟨b0', o0', he, hbb', cj⟩ := rows_at HA7.out hrj
          simp only [Option.some.injEq, Addr.mk.injEq, and_true] at he
          obtain ⟨rfl, rfl⟩ := he
          have hq8 := HOK.out.all xs (List.mem_iff_getElem?.2 ⟨j, rowsOf_get hrj⟩)
          have hi := (HR7.out _ (List.mem_iff_getElem?.2 ⟨j, hrj⟩)).1
          simp only at hi cj
          obtain ⟨T, hT⟩ : ∃ T, T = (xs.map Int.toNat).sum := ⟨_, rfl⟩
          have hsT : xs.sum = (T : Int) := by rw [hT]; exact sum_toNat fun x hx => by have := (hq8.2 x hx).1; omega
          have hTb : T ≤ 160 := by
            have h1 := sum_bd hq8.2 xs.length
            rw [List.take_of_length_le (by simp), ← hT] at h1
            have := hq8.1; omega
          have hnx := bitTo_succ (r := R) (rowsOf_get hrj)
          rw [← hav.out, ← hT] at hnx
          have hall := all3_any rb xs.length rcb _ xs wr hi rfl (by have := hq8.1; omega) (fun x hx => by have := hq8.2 x hx; omega)
          rw [hsT] at hall
          have HALL := Lib.hid hall
          have HNX := Lib.hid hnx
          clear hrj hq8 hi hT hsT hnx hall
          have hjI : (j : Int) < (rs.length : Int) := by omega
          go_wp2_with fail
          refine HALL.out.mono ?_
          rintro e w' ⟨rfl, rfl⟩
          by_cases hTR : T < R
          · have hd3 : decide ((T : Int) < (R : Int)) = true := decide_eq_true (by omega)
            have hd3N : decide (T < R) = true := decide_eq_true hTR
            have hm : a + min T R = a + T := by omega
            have HM := Lib.hid hm
            have hab : a + T ≤ 160 * (j + 1) := by omega
            clear hm hTR
            go_wp2
            go_roundg (rs.length - (j + 1))
            case measure => have := HGJ.out; omega
            case rel => exact ⟨j + 1, a + T, by omega, by go_num, by go_num, hab, by show _ = _; rw [HNX.out, HM.out], HW8.out.symm⟩
          · have hd3 : decide ((T : Int) < (R : Int)) = false := decide_eq_false (by omega)
            have hd3N : decide (T < R) = false := decide_eq_false hTR
            have hm : a + min T R = a + R := by omega
            have HM := Lib.hid hm
            have hab : a + R ≤ 160 * (j + 1) := by omega
            clear hm hTR
            go_wp2
            go_roundg (rs.length - (j + 1))
            case measure => have := HGJ.out; omega
            case rel => exact ⟨j + 1, a + R, by omega, by go_num, by go_num, hab, by show _ = _; rw [HNX.out, HM.out], HW8.out.symm⟩
        · have hjn : j = rs.length := by omega
          have hfin : a = bitOf ns R := by
            rw [hav.out, hjn, HNS.out]; unfold bitTo bitOf
            rw [List.take_of_length_le (by rw [nsOf_len, rowsOf_len]; exact Nat.le_refl _)]
          have HF := Lib.hid hfin
          have hjI : decide ((j : Int) < (rs.length : Int)) = false := decide_eq_false (by omega)
          have hjN : decide (j < rs.length) = false := decide_eq_false hlj
          clear hjn hfin hlj
          go_wp2_with (at_builtin; refine wpList_append_int (B := g) (w := wr) (v := vb) (y := (a : Int)) (xs := eb) (A := [_]) (C := [_, _, _]) ?_ (.tmp 101) (.tmp 103) ?_ elemInt8 ?_ HS7.out hg7 ?_ HBL9.out ?_; rfl; rfl; rfl; rfl)
          intro v9 w9 h1 h2
          have HS9 := Lib.hid h1
          have HB9 := Lib.hid (HB7.out.trans h2)
          clear h1 h2
          go_wp2
          go_roundg (N - (t + 1))
          case measure => have := HGK.out; omega
          case rel =>
            refine ⟨t + 1, n2, _, _, _, _, by omega, by go_num, rfl, hn2l, HEN.out, rfl, rfl, HEE2.out.symm, ?_, ?_, ?_, HS9.out, HB9.out⟩
            · show _ = _
              rw [HEB2.out, HF.out]
            · show _ = _
              rw [List.length_append, hel.out]; rfl
            · show _ = _
              rw [List.length_append, hbl2.out]; rfl
    · have htn : t = N := by omega
      have htS : t = S.length := by rw [htn, HO.out.2.2]
      have e1 : ee = endsOf S := by rw [hee.out, List.take_of_length_le (by rw [htS]; simp [endsOf])]
      have e2 : eb = bitsOf ns S := by rw [heb.out, List.take_of_length_le (by rw [htS]; simp [bitsOf])]
      obtain ⟨a5, c5, rfl, -, -⟩ := HS4.out.intsShape (A := [])
      obtain ⟨a6, c6, rfl, -, -⟩ := HS4.out.intsShape (A := [_])
      have HX1 := Lib.hid (HS4.out.intSl (A := []))
      have HX2 := Lib.hid (HS4.out.intSl (A := [_]))
      have HX3 := Lib.hid (Sep.intSl (A := [_, _, _, _]) (C := []) (xs := O) (ao := a1) (cap := c1) (by rw [HOL.out.1]; exact HS4.out))
      have hel40 : ee.length ≤ 40 := by rw [hel.out]; omega
      have hbl40 : eb.length ≤ 40 := by rw [hbl2.out]; omega
      have hol40 : O.length ≤ 40 := by rw [HOL.out.1]; omega
      have E1 := Lib.hid e1
      have E2 := Lib.hid e2
      have hd1 : decide ((t : Int) < (N : Int)) = false := decide_eq_false (by omega)
      have hd1N : decide (t < N) = false := decide_eq_false hlt
      have hz4 := hgw1
      clear e1 e2 htn htS hlt HS4
      go_wp2_with fail
      refine (HRUN.out _ HB4.out).mono ?_
      rintro e w5 ⟨va, vd, rfl, hs, hb⟩
      rw [← E1.out, ← HO.out.1] at hs
      obtain ⟨b1, d1, rfl, -, -⟩ := hs.intsShape (A := [_]) (C := [])
      obtain ⟨b2, d2, rfl, -, -⟩ := hs.intsShape (A := []) (C := [_])
      have HP := Lib.hid hs
      have HB5 := Lib.hid (HB4.out.trans (hb.mono hgw1))
      have HY1 := Lib.hid (HX1.out.below (hb.mono (Nat.le_refl _)))
      have HY2 := Lib.hid (HX2.out.below hb)
      have HY3 := Lib.hid (HX3.out.below hb)
      have hz5 := hb.size
      have HQ1 := Lib.hid (hs.intSl (A := []) (C := [_]))
      have HQ2 := Lib.hid (hs.intSl (A := [_]) (C := []))
      clear hs hb HX1 HX2 HX3 HP
      go_wp2_with fail
      refine (HSAME.out _ HB5.out).mono ?_
      rintro e w6 ⟨rfl, hb⟩
      have HB6 := Lib.hid (HB5.out.trans (hb.mono (Nat.le_trans hgw1 hz5)))
      have HR2 := Lib.hid (HQ2.out.below hb)
      have HR1 := Lib.hid (HQ1.out.below hb)
      have HZ1 := Lib.hid (HY1.out.below (hb.mono hz5))
      have HZ2 := Lib.hid (HY2.out.below (hb.mono hz5))
      have HZ3 := Lib.hid (HY3.out.below (hb.mono hz5))
      have hz6 := Nat.le_trans hz5 hb.size
      have hz56 := hb.size
      clear hb HY1 HY2 HY3 HQ1 HQ2
      go_wp2_with fail
      refine (ints_any _ _ _ _ _ _ _ _ O O true _ HR2.out HZ3.out rfl HOL.out.1.symm (by omega) (decide_eq_true rfl).symm).mono ?_
      rintro e w7 ⟨rfl, hd⟩
      have hb := below_of_drew hd
      have HB7 := Lib.hid (HB6.out.trans (hb.mono (Nat.le_trans hgw1 hz6)))
      have HR1b := Lib.hid (HR1.out.below (hb.mono hz56))
      have HZ1b := Lib.hid (HZ1.out.below (hb.mono hz6))
      have HZ2b := Lib.hid (HZ2.out.below (hb.mono hz6))
      have hz7 := Nat.le_trans hz6 hb.size
      clear hd hb HR1 HR2 HZ1 HZ2 HZ3
      go_wp2_with fail
      refine (ints_any _ _ _ _ _ _ _ _ ee ee true _ HR1b.out HZ1b.out rfl rfl (by omega) (decide_eq_true rfl).symm).mono ?_
      rintro e w8 ⟨rfl, hd⟩
      have hb := below_of_drew hd
      have HB8 := Lib.hid (HB7.out.trans (hb.mono (Nat.le_trans hgw1 hz7)))
      have HZ2c := Lib.hid (HZ2b.out.below (hb.mono hz7))
      have hz8 := Nat.le_trans hz7 hb.size
      clear hd hb HR1b HZ1b HZ2b
      go_wp2_with fail
      refine (HBIT.out _ HB8.out).mono ?_
      rintro e w9 ⟨vc, rfl, hs, hb⟩
      rw [← E2.out] at hs
      obtain ⟨b3, d3, rfl, -, -⟩ := hs.intsShape (A := []) (C := [])
      have HR3 := Lib.hid (hs.intSl (A := []) (C := []))
      have HB9 := Lib.hid (HB8.out.trans (hb.mono (Nat.le_trans hgw1 hz8)))
      have HZ2d := Lib.hid (HZ2c.out.below (hb.mono hz8))
      have hz9 := Nat.le_trans hz8 hb.size
      clear hs hb HZ2c
      go_wp2_with fail
      refine (HSAME.out _ HB9.out).mono ?_
      rintro e w10 ⟨rfl, hb⟩
      have HB10 := Lib.hid (HB9.out.trans (hb.mono (Nat.le_trans hgw1 hz9)))
      have HR4 := Lib.hid (HR3.out.below hb)
      have HZ2e := Lib.hid (HZ2d.out.below (hb.mono hz9))
      have hz10 := Nat.le_trans hz9 hb.size
      clear hb HR3 HZ2d
      go_wp2_with fail
      refine (ints_any _ _ _ _ _ _ _ _ eb eb true _ HR4.out HZ2e.out rfl rfl (by omega) (decide_eq_true rfl).symm).mono ?_
      rintro e w11 ⟨rfl, hd⟩
      have HB11 := Lib.hid (HB10.out.trans ((below_of_drew hd).mono (Nat.le_trans hgw1 hz10)))
      clear hd
      go_wp2
      go_ret
      exact ⟨rfl, by have := HB11.out; rw [HG.out] at this; exact this⟩
theorem roundsSay_walk (ao : Option Addr) (ac : Nat) (rs : List Stp) (w : World) (hdoor : Door w) (hA : RowSl w.heap.size w ao 1 (rs.map stpC)) (hac : rs.length ≤ ac) (hmax : ac ≤ maxLen) (hr : StpsOk w.heap.size w rs) :
    Calls Tryd.prog 3 #[.slice ao rs.length ac] w fun e w' => e = .returned (.bool true) ∧ Below w.heap.size w w' := by
  unfold maxLen at hmax
  by_cases h0 : checkCode (rowsOf rs) = 0
  · exact roundsSay_ok ao ac _ rs w rfl (says0 w hdoor) hA hr (by omega) h0
  · exact roundsSay_wrong ao ac _ rs _ w rfl (by simpa using h0) (saysC _ h0 w hdoor) hA hr (by omega) rfl
end Go.Proofs.YtpfpaheafpibiaaDoor
