/- ferryhytheref3.Drr: the order, as the document says. -/
import Derived.Test.YtommedhaaojgiaaDoorDrrRef
import Derived.Test.YtommedhaaojgiaaDoorDrrAtPlain
import Derived.Test.YtommedhaaojgiaaDoorIntsHere
import Derived.Test.YtommedhaaojgiaaDoorElem
import Derived.Deep.LoopGhost
import Derived.BigQuiet
import Derived.StillTailTactics
import Derived.Deep.DeepCutAuto
namespace Go.Proofs.YtommedhaaojgiaaDoor
open Go.RowKit
set_option linter.unusedVariables false
set_option maxRecDepth 100000

set_option maxHeartbeats 2000000 in
theorem drrRef_ok (ao : Option Addr) (len ac B : Nat) (rs : List Stp) (Q : Int) (w : World) (hA : RowSl B w ao 1 (rs.map stpC)) (hr : StpsOk B w rs) (hlen : len = rs.length) (hB : B ≤ w.heap.size) (hok : QsOk (rowsOf rs)) (hQ : 1 ≤ Q ∧ Q ≤ 20) :
    Calls Tryd.prog 22 #[.slice ao len ac, .int .i64 Q] w fun e w' =>
      ∃ va, e = .returned va ∧ Sep w.heap.size w' [Ent.ints 3 va (drrOut (rowsOf rs) Q.toNat)] ∧ Below w.heap.size w w' := by
  subst hlen
  obtain ⟨hq1, hq2⟩ := hQ
  obtain ⟨Q, rfl⟩ := Int.eq_ofNat_of_zero_le (by omega : 0 ≤ Q)
  rw [Int.toNat_natCast]
  have hn5 : rs.length ≤ 5 := by rw [← rowsOf_len]; exact hok.few
  obtain ⟨m, hm⟩ : ∃ m, m = rs.length := ⟨_, rfl⟩
  have HA := Lib.hid hA; clear hA
  have HR := Lib.hid hr; clear hr
  have HOK := Lib.hid hok; clear hok
  obtain ⟨g, hg⟩ : ∃ g, g = w.heap.size := ⟨_, rfl⟩
  have hgw : g ≤ w.heap.size := by omega
  have hBg : B ≤ g := by omega
  have HG := Lib.hid hg; clear hg
  have HN0 := Lib.hid (Sep.nil g w)
  go_enter Tryd.func22, Tryd.ntmps22
  go_wp2_with (at_make; refine wpList_make_sep rfl _ _ rfl elemInt8 .i64 .i64 rs.length rs.length rs.length rfl rfl rfl rfl (by omega) (by unfold maxLen; omega) HN0.out hgw ?_)
  intro w1 hs hb hsz
  obtain ⟨gt, hgt⟩ : ∃ gt, gt = w.heap.size := ⟨_, rfl⟩
  rw [← hgt] at hs ⊢
  have hs1 : Sep g w1 [Ent.ints 3 (.slice (some ⟨gt, 0, none⟩) rs.length rs.length) (List.replicate rs.length 0)] := by
    unfold Ent.ints
    rw [List.length_replicate, ← madeInts']
    simpa [Value.cells] using hs
  have HS1 := Lib.hid hs1
  have HB1 := Lib.hid (show Below g w w1 from (hb.mono hgw))
  have hg1 : g ≤ w1.heap.size := by have := HB1.out.size; rw [← HG.out] at this; exact this
  clear hs hb hsz hs1 hgt
  go_wp2_with (at_make; refine wpList_make_sep rfl _ _ rfl elemInt8 .i64 .i64 rs.length rs.length rs.length rfl rfl rfl rfl (by omega) (by unfold maxLen; omega) HS1.out hg1 ?_)
  intro w2 hs hb hsz
  obtain ⟨gc, hgc⟩ : ∃ gc, gc = w1.heap.size := ⟨_, rfl⟩
  rw [← hgc] at hs ⊢
  have hs2 : Sep g w2 [Ent.ints 3 (.slice (some ⟨gc, 0, none⟩) rs.length rs.length) (List.replicate rs.length 0), Ent.ints 3 (.slice (some ⟨gt, 0, none⟩) rs.length rs.length) (List.replicate rs.length 0)] := by
    have e : Ent.ints 3 (.slice (some ⟨gc, 0, none⟩) rs.length rs.length) (List.replicate rs.length 0) = Ent.row (.slice (some ⟨gc, 0, none⟩) rs.length rs.length) rs.length 1 3 (madeCells #[.int .i64 0] rs.length).toList := by
      unfold Ent.ints
      rw [List.length_replicate, ← madeInts']
    rw [e]
    simpa [Value.cells] using hs
  have hs3 := (hs2.perm (List.Perm.swap _ _ _)).intsNil 3
  have HS2 := Lib.hid hs3
  have HB2 := Lib.hid (HB1.out.trans (hb.mono hg1))
  clear hs hb hsz hs2 hs3 hgc HS1 HB1 hg1 hgw HN0
  have hs4 : Sep g w2 [Ent.ints 3 (.slice none 0 0) (drrNow (rowsOf rs) Q 0 0), Ent.ints 3 (.slice (some ⟨gt, 0, none⟩) rs.length rs.length) (atL (rowsOf rs) Q 0 0), Ent.ints 3 (.slice (some ⟨gc, 0, none⟩) rs.length rs.length) (List.replicate rs.length 0)] := by
    rw [atL_zero HOK.out, rowsOf_len, drrNow_zero]; exact HS2.out
  have HS3 := Lib.hid hs4
  have hcr := CredIs.zero HOK.out Q
  rw [rowsOf_len] at hcr
  have HCR0 := Lib.hid hcr
  clear hs4 HS2 hcr
  go_wp2
  go_loopg [7] 161 (fun gk vo wr => ∃ (r : Nat) (cs : List Int), gk + r = 161 ∧ r ≤ 160 ∧ Sep g wr [Ent.ints 3 vo (drrNow (rowsOf rs) Q r 0), Ent.ints 3 (.slice (some ⟨gt, 0, none⟩) rs.length rs.length) (atL (rowsOf rs) Q r 0), Ent.ints 3 (.slice (some ⟨gc, 0, none⟩) rs.length rs.length) cs] ∧ Hid (CredIs (rowsOf rs) Q r 0 cs) ∧ Below g w wr)
  case atStart => exact ⟨0, _, rfl, by omega, HS3.out, HCR0, HB2.out⟩
  case round =>
    obtain ⟨go, rfl⟩ : ∃ go, go = gk := ⟨_, rfl⟩
    obtain ⟨r, cs, hgk, hr, hs, HCR, hbel⟩ := hrel
    clear HS3 HB2 HCR0
    obtain ⟨ao3, c3, rfl, -⟩ := hs.intsShape (A := []) (C := [_, _])
    have hnl := drrNow_len HOK.out Q r (Nat.zero_le _)
    have HS5 := Lib.hid hs; clear hs
    have HB5 := Lib.hid hbel; clear hbel
    go_wp2_with fail
    refine (thingsH_any _ _ _ _ rs _ (HA.out.below (HB5.out.mono hBg)) (HR.out.below (HB5.out.mono hBg)) rfl HOK.out hn5).mono ?_
    rintro e w' ⟨rfl, rfl⟩
    by_cases hmore : (drrNow (rowsOf rs) Q r 0).length < drrTot (rowsOf rs)
    · have hr160 := drr_more HOK.out (Q := Q) (by omega) hmore
      have hd1 : decide (((drrNow (rowsOf rs) Q r 0).length : Int) < (drrTot (rowsOf rs) : Int)) = true := by simp; omega
      have hd2 : decide ((drrNow (rowsOf rs) Q r 0).length < drrTot (rowsOf rs)) = true := by simp; omega
      clear hmore
      go_wp2
      clear hd1 hd2
      go_loopg [7, 8] rs.length (fun gn vo i wr => ∃ (a : Nat) (cs : List Int), gn + a = rs.length ∧ i = .int .i64 a ∧ Sep g wr [Ent.ints 3 vo (drrNow (rowsOf rs) Q r a), Ent.ints 3 (.slice (some ⟨gt, 0, none⟩) rs.length rs.length) (atL (rowsOf rs) Q r a), Ent.ints 3 (.slice (some ⟨gc, 0, none⟩) rs.length rs.length) cs] ∧ Hid (CredIs (rowsOf rs) Q r a cs) ∧ Below g w wr)
      case atStart => exact ⟨0, cs, rfl, rfl, HS5.out, HCR, HB5.out⟩
      case round =>
        obtain ⟨gn, rfl⟩ : ∃ gn, gn = gk := ⟨_, rfl⟩
        obtain ⟨a, cs, hga, rfl, hs, HCR, hbel⟩ := hrel
        clear HS5 HB5
        obtain ⟨ao6, c6, rfl, -⟩ := hs.intsShape (A := []) (C := [_, _])
        have hnl6 := drrNow_len HOK.out Q r (a := a) (by rw [rowsOf_len]; omega)
        have HS6 := Lib.hid hs; clear hs
        have HB6 := Lib.hid hbel; clear hbel
        by_cases hal : a < rs.length
        · obtain ⟨⟨ra, rc, q⟩, hrk⟩ : ∃ r, rs[a]? = some r := ⟨_, List.getElem?_eq_getElem hal⟩
          have hA6 := HA.out.below (HB6.out.mono hBg)
          have hR6 := HR.out.below (HB6.out.mono hBg)
          obtain ⟨b, off, rfl, hbb, cw⟩ := rows_at HA.out hrk
          obtain ⟨hi, hrl, hrm⟩ := HR.out _ (List.mem_iff_getElem?.2 ⟨a, hrk⟩)
          have hqa := rowsOf_get hrk
          simp only at hi hrl hrm cw hqa
          have hc0 : ∀ w', Below g w w' → w'.cell? ⟨b, off + a, none⟩ = some (.slice ra q.length rc) := fun w' h => (h.cell (p := ⟨b, off + a, none⟩) (by show b < g; omega)).trans cw
          have c0 := hc0 _ HB6.out
          have HC0 := Lib.hid hc0
          have hq8 := (HOK.out.all q (List.mem_iff_getElem?.2 ⟨a, hqa⟩)).1
          obtain ⟨p, hp⟩ : ∃ p, p = drrSrv (rowsOf rs) Q a r := ⟨_, rfl⟩
          have hat := atL_get (Q := Q) (r := r) (a := a) hqa
          rw [if_neg (by omega), ← hp] at hat
          obtain ⟨t0, tf, tg, tset⟩ := ints_here (A := [_]) (C := [_]) HS6.out (by rw [atL_len, rowsOf_len]) hat
          have hpl := drrSrv_le (rowsOf rs) Q a r
          rw [show (rowsOf rs).getD a [] = q by rw [List.getD_eq_getElem?_getD, hqa]; rfl, ← hp] at hpl
          have hali : (a : Int) < (rs.length : Int) := by omega
          have ha0 : (0 : Int) ≤ (a : Int) := by omega
          have HQA := Lib.hid hqa
          have HP := Lib.hid hp
          have HI := Lib.hid hi
          have HAT := Lib.hid hat
          clear hqa hrk hA6 hR6 hi hp hat tset hc0 cw
          by_cases hidle : q.length ≤ p
          · obtain rfl : p = q.length := by omega
            have hxe : ((q.length : Int) == (q.length : Int)) = true := by simp
            obtain ⟨i1, i2⟩ := at_idle HOK.out HQA.out (by rw [← HP.out]; omega) HCR.out
            obtain ⟨-, -, i3⟩ := drr_idle HOK.out HQA.out (Q := Q) (r := r) (by rw [← HP.out]; omega)
            have I1 := Lib.hid i1
            have I2 := Lib.hid i2
            have I3 := Lib.hid i3
            clear i1 i2 i3 hidle hpl
            go_wp2_with fail
            go_quiet (fail)
            have HS7 := Lib.hid (HS6.out.drewN nq)
            have HB7 := Lib.hid (HB6.out.trans (below_drewN g wr nq))
            clear t0 c0 tf tg hxe HS6 HB6
            generalize wr.drewN nq = w7 at *
            go_wp2
            go_roundg (gn - 1)
            case measure => omega
            case rel => exact ⟨a + 1, cs, by omega, by go_num, by rw [I1.out, I3.out]; exact HS7.out, I2, HB7.out⟩
          · have hxe : ((p : Int) == (q.length : Int)) = false := beq_eq_false_iff_ne.2 (by omega)
            have hplt : p < q.length := by omega
            have ht := Turn.start (Q := Q) (r := r) HOK.out HQA.out (by rw [← HP.out]; exact hplt)
            have hcv := HCR.out.val a q HQA.out
            rw [if_neg (by omega)] at hcv
            have hcg := hcv (by rw [← HP.out]; exact hplt)
            obtain ⟨d0, hd0⟩ : ∃ d0, d0 = dOf (rowsOf rs) Q a r := ⟨_, rfl⟩
            rw [← hd0] at ht hcg
            have htl := ht.lo HOK.out HQA.out
            have hth := ht.hi HOK.out HQA.out hr (by omega)
            have hcl := HCR.out.len.trans (rowsOf_len rs)
            have HT0 := Lib.hid ht
            have HCG := Lib.hid hcg
            have HCL := Lib.hid hcl
            clear ht hcv hcg hcl hd0 hidle
            go_wp2_with fail
            go_quiet (fail)
            have HS7 := Lib.hid (HS6.out.drewN nq)
            have HB7 := Lib.hid (HB6.out.trans (below_drewN g wr nq))
            clear t0 c0 tf tg hxe HS6 HB6
            generalize wr.drewN nq = w7 at *
            obtain ⟨k0, kf, kg, kset⟩ := ints_here (A := [_, _]) (C := []) HS7.out HCL.out HCG.out
            have HS8 := Lib.hid (kset (d0 + (Q : Int)))
            have HB8 := Lib.hid (HB7.out.setCell (p := ⟨gc, a, none⟩) kg (.int .i64 (d0 + (Q : Int))))
            clear kset HS7 HB7
            have hgo : (atL (rowsOf rs) Q r a).set a (p : Int) = atL (rowsOf rs) Q r a := by
              refine List.ext_getElem? fun i => ?_
              by_cases hi : i = a
              · subst hi; rw [List.getElem?_set_self (List.getElem?_eq_some_iff.1 HAT.out).1, HAT.out]
              · rw [List.getElem?_set_ne (by omega)]
            have HGO := Lib.hid hgo
            clear hgo
            have hh := ints_here (A := [_]) (C := [_]) HS8.out (by rw [atL_len, rowsOf_len]) HAT.out
            go_wp2_with fail
            go_loopg [7] 9 (fun gm vo wr => ∃ (j : Nat) (d : Int), gm + j = 9 ∧ p + j ≤ q.length ∧ Hid (Turn (rowsOf rs) Q r a q j d) ∧ -200 ≤ d ∧ d ≤ 4000 ∧
              Sep g wr [Ent.ints 3 vo (drrNow (rowsOf rs) Q r a ++ List.replicate j (a : Int)), Ent.ints 3 (.slice (some ⟨gt, 0, none⟩) rs.length rs.length) ((atL (rowsOf rs) Q r a).set a ((p + j : Nat) : Int)), Ent.ints 3 (.slice (some ⟨gc, 0, none⟩) rs.length rs.length) (cs.set a d)] ∧ Below g w wr)
            case atStart =>
              refine ⟨0, d0 + (Q : Int), by omega, by omega, HT0.out, htl, hth, ?_, HB8.out⟩
              rw [List.replicate_zero, List.append_nil, Nat.add_zero, HGO.out]; exact HS8.out
            case round =>
              obtain ⟨gm, rfl⟩ : ∃ gm, gm = gk := ⟨_, rfl⟩
              obtain ⟨j, d, hgm, hpj, HT, hdl, hdh, hs, hbel⟩ := hrel
              clear HS8 HB8 HT0 HGO hh
              obtain ⟨T, hT⟩ : ∃ T, T = drrNow (rowsOf rs) Q r a ++ List.replicate j (a : Int) := ⟨_, rfl⟩
              rw [← hT] at hs
              have hTl : T.length ≤ 90 := by rw [hT, List.length_append, List.length_replicate]; omega
              obtain ⟨s, hs'⟩ : ∃ s, s = p + j := ⟨_, rfl⟩
              rw [← hs'] at hs hpj
              obtain ⟨ao9, c9, rfl, -⟩ := hs.intsShape (A := []) (C := [_, _])
              have HS9 := Lib.hid hs
              have HB9 := Lib.hid hbel
              have HTD := Lib.hid hT
              have HSE := Lib.hid hs'
              have hat9 : ((atL (rowsOf rs) Q r a).set a (s : Int))[a]? = some (s : Int) := List.getElem?_set_self (by rw [atL_len, rowsOf_len]; exact hal)
              have hcg9 : (cs.set a d)[a]? = some d := List.getElem?_set_self (by rw [HCL.out]; exact hal)
              have hal9 : ((atL (rowsOf rs) Q r a).set a (s : Int)).length = rs.length := by rw [List.length_set, atL_len, rowsOf_len]
              have hcl9 : (cs.set a d).length = rs.length := by rw [List.length_set]; exact HCL.out
              have HAT9 := Lib.hid hat9
              have HCG9 := Lib.hid hcg9
              have HAL9 := Lib.hid hal9
              have HCL9 := Lib.hid hcl9
              clear hs hbel hT hs' hat9 hcg9 hal9 hcl9
              obtain ⟨t0, -⟩ := ints_here (A := [_]) (C := [_]) HS9.out HAL9.out HAT9.out
              obtain ⟨k0, -⟩ := ints_here (A := [_, _]) (C := []) HS9.out HCL9.out HCG9.out
              have c0 := HC0.out _ HB9.out
              by_cases hlt : s < drrSrv (rowsOf rs) Q a (r + 1)
              · obtain ⟨x, hx1, hx2, hx3, hx4, hx5⟩ := HT.out.more HOK.out HQA.out (by rw [← HP.out, ← HSE.out]; exact hlt)
                rw [← HP.out, ← HSE.out] at hx1
                have hx : q[s]? = some x := by
                  have := congrArg (fun l => l[0]?) hx1
                  simpa [List.getElem?_drop] using this
                have hsl : s < q.length := (List.getElem?_eq_some_iff.1 hx).1
                obtain ⟨bx, ox, rfl, hbx, cx⟩ := HI.out s x hx
                have hcx : ∀ w', Below g w w' → w'.cell? ⟨bx, ox + s, none⟩ = some (.int .i64 x) := fun w' h => (h.cell (p := ⟨bx, ox + s, none⟩) (by show bx < g; omega)).trans cx
                have x0 := hcx _ HB9.out
                have HCX := Lib.hid hcx
                have HX5 := Lib.hid hx5
                have hd1 : decide ((s : Int) < (q.length : Int)) = true := decide_eq_true (by omega)
                have hd2 : decide (x ≤ d) = true := decide_eq_true hx2
                have hsi : (s : Int) < (q.length : Int) := by omega
                have hs0 : (0 : Int) ≤ (s : Int) := by omega
                clear hcx cx hx hx1 hx5 hlt
                go_wp2_with fail
                go_quiet (fail)
                have HS10 := Lib.hid (HS9.out.drewN nq)
                have HB10 := Lib.hid (HB9.out.trans (below_drewN g wr nq))
                clear t0 k0 c0 x0 hd1 hd2 HS9 HB9
                generalize wr.drewN nq = w10 at *
                obtain ⟨t0, -⟩ := ints_here (A := [_]) (C := [_]) HS10.out HAL9.out HAT9.out
                obtain ⟨k0, kf, kg, kset⟩ := ints_here (A := [_, _]) (C := []) HS10.out HCL9.out HCG9.out
                have c0 := HC0.out _ HB10.out
                have x0 := HCX.out _ HB10.out
                have HS11 := Lib.hid (kset (d - x))
                have HB11 := Lib.hid (HB10.out.setCell (p := ⟨gc, a, none⟩) kg (.int .i64 (d - x)))
                clear kset HS10 HB10
                go_wp2_with fail
                go_region
                have HS12 := Lib.hid HS11.out.drew
                have HB12 := Lib.hid HB11.out.drew
                clear t0 k0 kf kg c0 x0 HS11 HB11
                generalize (w10.setCell ⟨gc, a, none⟩ (.int .i64 (d - x))).drew = w12 at *
                have hal12 : ((cs.set a d).set a (d - x)).length = rs.length := by rw [List.length_set]; exact HCL9.out
                obtain ⟨t0, tf, tg, tset⟩ := ints_here (A := [_]) (C := [_]) HS12.out HAL9.out HAT9.out
                have HS13 := Lib.hid (tset ((s : Int) + 1))
                have HB13 := Lib.hid (HB12.out.setCell (p := ⟨gt, a, none⟩) tg (.int .i64 ((s : Int) + 1)))
                clear tset HS12 HB12 hal12
                go_upto_region 13 with fail
                generalize w12.setCell ⟨gt, a, none⟩ (.int .i64 ((s : Int) + 1)) = w13 at *
                clear t0 tf tg
                have hg13 : g ≤ w13.heap.size := by have := HB13.out.size; rw [← HG.out] at this; exact this
                have hTl2 : T.length ≤ 1000000000 := by omega
                have HTL2 := Lib.hid hTl2
                clear hTl2
                go_wp2_with (at_builtin; refine wpList_append_int rfl (.tmp 98) (.tmp 100) rfl elemInt8 (A := []) (C := [_, _]) rfl HS13.out hg13 rfl HTL2.out ?_)
                intro v14 w14 hs hb
                have HS14 := Lib.hid hs
                have HB14 := Lib.hid (HB13.out.trans hb)
                clear hs hb
                go_wp2
                go_roundg (gm - 1)
                case measure => have := HSE.out; omega
                case rel =>
                  refine ⟨j + 1, d - x, by have := HSE.out; omega, by have := HSE.out; omega, HX5, by omega, by omega, ?_, HB14.out⟩
                  have h := HS14.out
                  rw [HTD.out, List.append_assoc, ← List.replicate_succ'] at h
                  rw [show ((p + (j + 1) : Nat) : Int) = (s : Int) + 1 by have := HSE.out; omega]
                  exact h
              · obtain ⟨hfin, hcase⟩ := HT.out.stop HOK.out HQA.out (by rw [← HP.out, ← HSE.out]; exact hlt)
                rw [← HP.out, ← HSE.out] at hfin hcase
                have hT2 : T = drrNow (rowsOf rs) Q r (a + 1) := by
                  rw [HTD.out, drrNow_turn, show amt (drrSrv (rowsOf rs) Q) r a = j by unfold amt; have h1 := HSE.out; have h2 := HP.out; omega]
                have hA2 : (atL (rowsOf rs) Q r a).set a (s : Int) = atL (rowsOf rs) Q r (a + 1) := by rw [hfin]; exact atL_turn HQA.out
                have hC2 : CredIs (rowsOf rs) Q r (a + 1) (cs.set a d) := HCR.out.turn HQA.out ⟨hdl, hdh⟩ (fun hl => by
                  rcases hcase with ⟨hnil, -⟩ | ⟨x, r', -, -, -, hde⟩
                  · have := congrArg List.length hnil
                    simp at this; omega
                  · exact hde.symm)
                have HT2 := Lib.hid hT2
                have HA2 := Lib.hid hA2
                have HC2 := Lib.hid hC2
                have HLT := Lib.hid hlt
                have HFIN := Lib.hid hfin
                clear hT2 hA2 hC2 hfin hlt
                rcases hcase with ⟨hnil, -⟩ | ⟨x, r', hcons, hdx, -, -⟩
                · have hsl : s = q.length := by have := congrArg List.length hnil; simp at this; omega
                  have hd1 : decide ((s : Int) < (q.length : Int)) = false := decide_eq_false (by omega)
                  have hd3 : decide (s < q.length) = false := decide_eq_false (by omega)
                  clear hnil
                  have HSL := Lib.hid hsl; clear hsl
                  go_wp2_with fail
                  go_quiet (fail)
                  have HS10 := Lib.hid (HS9.out.drewN nq)
                  have HB10 := Lib.hid (HB9.out.trans (below_drewN g wr nq))
                  clear t0 k0 c0 hd1 HS9 HB9
                  generalize wr.drewN nq = w10 at *
                  go_wp2
                  go_roundg (gn - 1)
                  case measure => omega
                  case rel =>
                    have h := HS10.out
                    rw [HA2.out] at h
                    exact ⟨a + 1, cs.set a d, by omega, by go_num, by rw [← HT2.out]; exact h, HC2, HB10.out⟩
                · have hx : q[s]? = some x := by
                    have := congrArg (fun l => l[0]?) hcons
                    simpa [List.getElem?_drop] using this
                  have hsl : s < q.length := (List.getElem?_eq_some_iff.1 hx).1
                  obtain ⟨bx, ox, rfl, hbx, cx⟩ := HI.out s x hx
                  have x0 : wr.cell? ⟨bx, ox + s, none⟩ = some (.int .i64 x) := (HB9.out.cell (p := ⟨bx, ox + s, none⟩) (by show bx < g; omega)).trans cx
                  have hd1 : decide ((s : Int) < (q.length : Int)) = true := decide_eq_true (by omega)
                  have hd2 : decide (x ≤ d) = false := decide_eq_false (by omega)
                  have hsi : (s : Int) < (q.length : Int) := by omega
                  have hs0 : (0 : Int) ≤ (s : Int) := by omega
                  clear cx hx hcons
                  go_wp2_with fail
                  go_quiet (fail)
                  clear x0 hd2
                  have HS10 := Lib.hid (HS9.out.drewN nq)
                  have HB10 := Lib.hid (HB9.out.trans (below_drewN g wr nq))
                  clear t0 k0 c0 hd1 HS9 HB9
                  generalize wr.drewN nq = w10 at *
                  go_wp2
                  go_roundg (gn - 1)
                  case measure => omega
                  case rel =>
                    have h := HS10.out
                    rw [HA2.out] at h
                    exact ⟨a + 1, cs.set a d, by omega, by go_num, by rw [← HT2.out]; exact h, HC2, HB10.out⟩
        · have hae : a = (rowsOf rs).length := by rw [rowsOf_len]; omega
          have hai : decide ((a : Int) < (rs.length : Int)) = false := decide_eq_false (by omega)
          have hs2 := HS6.out
          have hc2 := HCR.out
          rw [hae] at hs2 hc2
          rw [drrNow_wrap, atL_wrap] at hs2
          have HS7 := Lib.hid (show Sep g wr [Ent.ints 3 (.slice ao6 (drrNow (rowsOf rs) Q r a).length c6) (drrNow (rowsOf rs) Q (r + 1) 0), _, _] by rw [hae, drrNow_wrap]; exact hs2)
          have HC7 := Lib.hid hc2.wrap
          clear hs2 hc2 hae HS6
          go_wp2
          go_roundg (go - 1)
          case measure => omega
          case rel => exact ⟨r + 1, cs, by omega, by omega, HS7.out, HC7, HB6.out⟩
    · have hd1 : decide (((drrNow (rowsOf rs) Q r 0).length : Int) < (drrTot (rowsOf rs) : Int)) = false := by simp; omega
      have hd2 : decide ((drrNow (rowsOf rs) Q r 0).length < drrTot (rowsOf rs)) = false := by simp; omega
      have hend := drr_done HOK.out (Q := Q) (by omega) hr hmore
      have hs2 := HS5.out
      have hs3 := hs2.sub (L' := [_]) (List.Sublist.cons_cons _ (List.nil_sublist _))
      have HSX := Lib.hid (show Sep g wr [Ent.ints 3 (.slice ao3 (drrNow (rowsOf rs) Q r 0).length c3) (drrOut (rowsOf rs) Q)] by rw [← hend]; exact hs3)
      clear hend hs2 hs3 hmore
      go_wp2
      go_ret
      exact ⟨_, rfl, by have := HSX.out; rw [HG.out] at this; exact this, by have := HB5.out; rw [HG.out] at this; exact this⟩
end Go.Proofs.YtommedhaaojgiaaDoor
