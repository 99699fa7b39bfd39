/- rounds.Bits: when each would be served bit by bit. -/
import Derived.Test.YtpfpaheafpibiaaDoorRndRun
namespace Go.Proofs.YtpfpaheafpibiaaDoor
open Go.RowKit
set_option linter.unusedVariables false
set_option linter.unusedSimpArgs false
set_option maxRecDepth 100000

set_option maxHeartbeats 1000000 in
theorem rndBits_err (ao : Option Addr) (len ac B : Nat) (rs : List Stp) (c : Int) (w : World) (hA : RowSl B w ao 1 (rs.map stpC)) (hr : StpsOk B w rs) (hlen : len = rs.length) (hl : rs.length ≤ 9223372036854775807) (hc : c = checkCode (rowsOf rs)) (h0 : ¬ c = 0) :
    Calls Tryd.prog 10 #[.slice ao len ac] w fun e w' => e = .returned (.tuple #[.slice none 0 0, errV c]) ∧ w = w' := by
  have HC := Lib.hid (drrCheck_any ao len ac B rs w hA hr hlen hl)
  rw [errV_not h0]
  have HE : Hid (errV (checkCode (rowsOf rs)) = .iface 43 (.int .i64 c)) := Lib.hid (by rw [← hc, errV_not h0])
  clear hA hr hlen hc
  go_enter Tryd.func10, Tryd.ntmps10
  go_wp2_with fail
  refine HC.out.mono ?_
  rintro e w' ⟨rfl, rfl⟩
  rw [HE.out]
  go_wp2
  go_ret2
  exact ⟨rfl, rfl⟩

/-- What queues below k have had by round r. -/
def bitTo (ns : List (List Nat)) (r k : Nat) : Nat := ((ns.take k).map fun l => min l.sum r).sum
theorem bitTo_succ {qs : List (List Int)} {r k : Nat} {q : List Int} (h : qs[k]? = some q) : bitTo (nsOf qs) r (k + 1) = bitTo (nsOf qs) r k + min (q.map Int.toNat).sum r := by
  unfold bitTo
  have e : (nsOf qs)[k]? = some (q.map Int.toNat) := by simp [nsOf, h]
  rw [List.take_add_one, e, List.map_append, List.sum_append]; simp

set_option maxHeartbeats 4000000 in
theorem rndBits_ok (ao : Option Addr) (len ac B : Nat) (rs : List Stp) (w : World) (hA : RowSl B w ao 1 (rs.map stpC)) (hr : StpsOk B w rs) (hlen : len = rs.length) (hB : B ≤ w.heap.size) (hok : QsOk (rowsOf rs)) :
    Calls Tryd.prog 10 #[.slice ao len ac] w fun e w' => ∃ va, e = .returned (.tuple #[va, .nilIface]) ∧ Sep w.heap.size w' [Ent.ints 3 va (bitsOf (nsOf (rowsOf rs)) (rnd (nsOf (rowsOf rs))))] ∧ Below w.heap.size w w' := by
  have hn5 : rs.length ≤ 5 := by rw [← rowsOf_len]; exact hok.few
  have HC := Lib.hid (drrCheck_any ao len ac B rs w hA hr hlen (by omega))
  have HI := Lib.hid (items_any ao len ac B rs w hA hr hlen hB hok)
  rw [checkCode_zero.2 hok, errV_zero] at HC
  subst hlen
  obtain ⟨g, hg⟩ : ∃ g, g = w.heap.size := ⟨_, rfl⟩
  rw [← hg] at HI ⊢
  have hBg : B ≤ g := by omega
  have HG := Lib.hid hg
  obtain ⟨S, hS⟩ : ∃ S, S = rnd (nsOf (rowsOf rs)) := ⟨_, rfl⟩
  have hbd : ∀ (i : Nat) (x : Itm), S[i]? = some x → x.2.2.1 ≤ 160 := fun i x hx => by
    rw [hS] at hx; have := rnd_bd hok hx; omega
  have hl40 : S.length ≤ 40 := by rw [hS]; exact rnd_len40 hok
  rw [← hS] at HI ⊢
  have HBD := Lib.hid hbd
  have HA := Lib.hid hA
  have HR := Lib.hid hr
  have HOK := Lib.hid hok
  obtain ⟨ns, hns⟩ : ∃ ns, ns = nsOf (rowsOf rs) := ⟨_, rfl⟩
  rw [← hns]
  have HNS := Lib.hid hns
  clear hA hr hok hS hbd hg hns
  go_enter Tryd.func10, Tryd.ntmps10
  go_wp2_with fail
  refine HC.out.mono ?_
  rintro e w' ⟨rfl, rfl⟩
  go_wp2_with fail
  refine HI.out.mono ?_
  rintro e w1 ⟨v1, rfl, hs, hb⟩
  obtain ⟨-, a1, c1, rfl, -, -⟩ := hs.rowShape (A := [])
  have HS1 := Lib.hid (hs.intsNil 3)
  have HB1 := Lib.hid hb
  have hgw : g ≤ w.heap.size := Nat.le_of_eq HG.out
  clear hs hb HC HI
  go_wp2
  go_loopg [5, 22] S.length (fun gk o i wr => ∃ (k : Nat) (vo : Value) (eo : List Int), gk + k = S.length ∧ i = .int .i64 k ∧ vo = o ∧ Hid (eo = (S.take k).map fun x => ((bitOf ns x.2.2.1 : Nat) : Int)) ∧ Sep g wr [Ent.ints 3 vo eo, itE (.slice a1 S.length c1) S] ∧ Below g w wr)
  case atStart => exact ⟨0, _, [], by omega, rfl, rfl, by simp [Hid], HS1.out, HB1.out⟩
  case round =>
    obtain ⟨gi, hgi0⟩ : ∃ gi, gi = gk := ⟨_, rfl⟩
    obtain ⟨k, vo, eo, hgk, rfl, rfl, heo, hs, hbl⟩ := hrel
    have hgw1 : g ≤ wr.heap.size := Nat.le_trans hgw hbl.size
    have HS2 := Lib.hid hs
    have HB2 := Lib.hid hbl
    clear hs hbl HS1 HB1
    by_cases hlt : k < S.length
    · obtain ⟨⟨q, p, r, s⟩, hx⟩ : ∃ x, S[k]? = some x := ⟨_, List.getElem?_eq_getElem hlt⟩
      have hr160 := HBD.out k _ hx
      try dsimp only at hr160
      obtain ⟨g1, off, rfl, hgg, ⟨c0, c1', c2, c3⟩, hf⟩ := it_at (A := [_]) HS2.out hx
      try dsimp only at c0 c1' c2 c3
      have HX := Lib.hid hx
      have HGK := Lib.hid hgk
      have hlo : eo.length ≤ 1000000000 := by rw [heo.out]; simp; omega
      have HLO := Lib.hid hlo
      obtain ⟨W1, hW1⟩ : ∃ W1, W1 = wr.alloc (.cells #[.int .i64 (q : Int), .int .i64 (p : Int), .int .i64 (r : Int), .int .i64 (s : Int)] 42) := ⟨_, rfl⟩
      have HSW : Hid (Sep g W1 [Ent.ints 3 vo eo, itE (.slice (some ⟨g1, off, none⟩) S.length c1) S]) := Lib.hid (by rw [hW1]; exact HS2.out.alloc _)
      have HBW : Hid (Below g w W1) := Lib.hid (by rw [hW1]; exact HB2.out.alloc hgw1 _)
      have hgW : g ≤ W1.heap.size := Nat.le_trans hgw HBW.out.size
      have hbox : W1.cell? ⟨wr.heap.size, 2, none⟩ = some (.int .i64 (r : Int)) := by rw [hW1, World.cell?_alloc_mark]; rfl
      have HAW := HA.out.below (HBW.out.mono hBg)
      have HRW := HR.out.below (HBW.out.mono hBg)
      have HAW := Lib.hid HAW
      have HRW := Lib.hid HRW
      have HW1 := Lib.hid hW1
      clear hx hgk hgi0 hlo hgg hW1 hf
      go_wp2
      clear c0 c1' c2 c3
      go_loopg [8, 10, 11, 13, 28] rs.length (fun gk at_ l10 l11 l13 i wx => ∃ (j a : Nat), gk + j = rs.length ∧ i = .int .i64 j ∧ at_ = .int .i64 a ∧ a ≤ 160 * j ∧ Hid (a = bitTo (nsOf (rowsOf rs)) r j) ∧ wx = W1)
      case atStart => exact ⟨0, 0, by omega, rfl, rfl, by omega, by simp [Hid, bitTo], HW1.out.symm⟩
      case round =>
        obtain ⟨gj, hgj0⟩ : ∃ gj, gj = gk := ⟨_, rfl⟩
        obtain ⟨j, a, hgk, rfl, rfl, ha, hav, hwx⟩ := hrel
        subst hwx
        have HAV := hav
        clear hav
        by_cases hlt2 : j < rs.length
        · obtain ⟨⟨ra, rc, xs⟩, hrk⟩ : ∃ r, rs[j]? = some r := ⟨_, List.getElem?_eq_getElem hlt2⟩
          obtain ⟨b, off2, rfl, hbb, cr⟩ := rows_at HAW.out hrk
          have hrg := rowsOf_get hrk
          have hx8 := HOK.out.all xs (List.mem_iff_getElem?.2 ⟨j, hrg⟩)
          have hxl := hx8.1
          have hi := (HRW.out _ (List.mem_iff_getElem?.2 ⟨j, hrk⟩)).1
          simp only at hi
          have HIX := Lib.hid hi
          have HX8 := Lib.hid hx8.2
          have hnx := bitTo_succ (r := r) hrg
          rw [← HAV.out] at hnx
          have HNX := Lib.hid hnx
          have HGJ := Lib.hid hgk
          have hsb := sum_bd hx8.2 xs.length
          rw [List.take_of_length_le (by simp)] at hsb
          obtain ⟨T, hT⟩ : ∃ T, T = (xs.map Int.toNat).sum := ⟨_, rfl⟩
          rw [← hT] at hsb
          have HT := Lib.hid hT
          clear hrk hrg hx8 hi hgk hgj0 hnx hT
          go_wp2
          go_loopg [11, 13, 34] xs.length (fun gk al l13 i wx => ∃ (t sm : Nat), gk + t = xs.length ∧ i = .int .i64 t ∧ al = .int .i64 sm ∧ sm ≤ 20 * t ∧ Hid (sm = ((xs.map Int.toNat).take t).sum) ∧ wx = wr)
          case atStart => exact ⟨0, 0, by omega, rfl, rfl, by omega, by simp [Hid], rfl⟩
          case round =>
            obtain ⟨gl, hgl0⟩ : ∃ gl, gl = gk := ⟨_, rfl⟩
            obtain ⟨t, sm, hgk, rfl, rfl, hsm, hsv, hwx⟩ := hrel
            subst hwx
            by_cases hlt3 : t < xs.length
            · obtain ⟨x, hx⟩ : ∃ x, xs[t]? = some x := ⟨_, List.getElem?_eq_getElem hlt3⟩
              obtain ⟨b2, off3, rfl, hb2, cx⟩ := HIX.out t x hx
              obtain ⟨h1x, h2x⟩ := HX8.out x (List.mem_iff_getElem?.2 ⟨t, hx⟩)
              obtain ⟨y, rfl⟩ := Int.eq_ofNat_of_zero_le (by omega : 0 ≤ x)
              have HNY : Hid (sm + y = ((xs.map Int.toNat).take (t + 1)).sum) := Lib.hid (by
                rw [take_sum_succN (by simpa using hlt3), ← hsv.out, List.getD_eq_getElem?_getD, List.getElem?_map, hx]; rfl)
              have HGL := Lib.hid hgk
              clear hx hgk hgl0
              go_wp2
              go_roundg (xs.length - (t + 1))
              case measure => have := HGL.out; omega
              case rel => exact ⟨t + 1, sm + y, by omega, by go_num, by go_num, by omega, HNY.out, rfl⟩
            · have htn : t = xs.length := by omega
              have hsT : sm = T := by rw [HT.out, hsv.out, htn, List.take_of_length_le (by simp)]
              subst hsT
              have HNX2 : Hid (a + min sm r = bitTo (nsOf (rowsOf rs)) r (j + 1)) := Lib.hid (by rw [HNX.out, HT.out])
              have hmin : a + min sm r ≤ 160 * (j + 1) := by omega
              clear htn hgk hgl0
              go_wp2
              all_goals
                go_roundg (rs.length - (j + 1))
                case measure => have := HGJ.out; omega
                case rel => exact ⟨j + 1, a + min sm r, by omega, by go_num, by first | rfl | go_num | (congr 1; omega), hmin, HNX2.out, rfl⟩
        · have hjn : j = rs.length := by omega
          have hfin : a = bitOf (nsOf (rowsOf rs)) r := by
            rw [HAV.out, hjn]; unfold bitTo bitOf
            rw [List.take_of_length_le (by rw [nsOf_len, rowsOf_len]; exact Nat.le_refl _)]
          have HF := Lib.hid hfin
          clear hjn hfin hgk hgj0
          go_wp2_with (at_builtin; refine wpList_append_int (B := g) (w := wr) (v := vo) (y := (a : Int)) (xs := eo) (A := []) (C := [itE (.slice (some ⟨g1, off, none⟩) S.length c1) S]) ?_ (.tmp 49) (.tmp 51) ?_ elemInt8 ?_ HSW.out hgW ?_ HLO.out ?_; rfl; rfl; rfl; rfl)
          intro v' w3 h1 h2
          have HS3 := Lib.hid h1
          have HB3 := Lib.hid (HBW.out.trans h2)
          clear h1 h2
          go_wp2
          go_roundg (S.length - (k + 1))
          case measure => have := HGK.out; omega
          case rel =>
            refine ⟨k + 1, _, _, by omega, by go_num, rfl, ?_, HS3.out, HB3.out⟩
            show _ = _
            rw [List.take_add_one, HX.out, List.map_append, ← heo.out, HNS.out, HF.out]; rfl
    · have hkn : k = S.length := by omega
      have hs9 := HS2.out
      rw [heo.out, hkn, List.take_length] at hs9
      have HS9 := Lib.hid (hs9.sub (List.Sublist.cons_cons _ (List.nil_sublist _)))
      clear hs9 hkn hgk hgi0
      go_wp2
      go_ret2
      exact ⟨_, rfl, HS9.out, HB2.out⟩
end Go.Proofs.YtpfpaheafpibiaaDoor
