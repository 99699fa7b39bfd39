/- MaxminNeck returns true: who has little has it for a reason. -/
import Derived.Test.YtciolkmhafdlpaaMaxFact
import Derived.StillTailTactics
import Derived.Deep.DeepCutAuto
import Derived.Test.YtciolkmhafdlpaaHas1
import Derived.BigQuiet
import Derived.Test.YtciolkmhafdlpaaMaxminRoomWalk
namespace Go.Proofs.Ytciolkmhafdlpaa
open Go.RowKit
set_option linter.unusedVariables false

/-- On x nobody has more than i; x has less left than ways go over it. -/
def mostB (ways : List (List Int)) (out : Nat → Nat) (i : Nat) (y : Int) (k : Nat) : Bool := (List.range k).all fun j => !(decide (y ∈ ways.getD j [])) || decide (out j ≤ out i)
theorem mostB_succ (ways : List (List Int)) (out : Nat → Nat) (i : Nat) (y : Int) (k : Nat) : mostB ways out i y (k + 1) = (mostB ways out i y k && (!(decide (y ∈ ways.getD k [])) || decide (out k ≤ out i))) := by
  unfold mostB; rw [List.range_succ, List.all_append]; simp
theorem usedOne (W : Nat → List Nat) (n x : Nat) : usedP W (fun _ => 1) n x = many n W x := by
  unfold usedP many; exact psum_congr fun i _ => Nat.one_mul _

set_option maxHeartbeats 4000000 in
set_option maxRecDepth 100000 in
theorem maxminNeck_walk (ro : Option Addr) (rc : Nat) (room : List Int) (ao : Option Addr) (ac : Nat) (rs : List Stp) (w : World) (hM : IntSl w.heap.size w ro room) (hrc : room.length ≤ rc) (hrx : rc ≤ maxLen) (_ : ∀ x ∈ room, -9223372036854775808 ≤ x ∧ x ≤ 9223372036854775807)
    (hA : RowSl w.heap.size w ao 1 (rs.map stpC)) (hac : rs.length ≤ ac) (hmax : ac ≤ maxLen) (hr : StpsOk w.heap.size w rs) :
    Calls Try.prog 4 #[.slice ro room.length rc, .slice ao rs.length ac] w fun e w' => e = .returned (.bool true) ∧ Below w.heap.size w w' := by
  unfold maxLen at hmax hrx
  have HM := Lib.hid hM; clear hM
  have HA := Lib.hid hA; clear hA
  have HR := Lib.hid hr; clear hr
  obtain ⟨c, hc⟩ : ∃ c, c = mmCode room (rowsOf rs) := ⟨_, rfl⟩
  by_cases hc0 : c = 0
  · have hok := mmCode_zero.1 (hc.symm.trans hc0)
    clear hc hc0
    have hm6 := hok.links
    have hn5 : rs.length ≤ 5 := by rw [← rowsOf_len]; exact hok.few
    obtain ⟨fin, hfin⟩ : ∃ fin, fin = mmShare rs.length (wayOf (rowsOf rs)) (roomOf room) := ⟨_, rfl⟩
    have hwok := hok.wok
    rw [rowsOf_len] at hwok
    have hend := mmShare_end hn5 hwok hok.room_bd
    have hoe : ∀ i, i < rs.length → fin.out i ≤ 1000 := fun i hi => by rw [hfin]; exact mmShare_out_le hn5 hwok hok.room_bd hi
    rw [← hfin] at hend
    have hl : mmOut room (rowsOf rs) = arr (fun i => ((fin.out i : Nat) : Int)) rs.length := by unfold mmOut; rw [rowsOf_len, hfin]
    have HW := Lib.hid hwok; clear hwok
    have HEND := Lib.hid hend; clear hend
    have HOE := Lib.hid hoe; clear hoe
    have HL := Lib.hid hl; clear hl hfin
    have HOK := Lib.hid hok; clear hok
    go_enter Try.func4, Try.ntmps4
    go_wp2_with fail
    refine (mmFact_any _).mono ?_
    rintro e w1 ⟨rfl, hb⟩
    have HB := Lib.hid hb; clear hb
    go_wp2_with fail
    refine (mmShare_ok _ _ _ room _ _ _ _ rs _ (HM.out.below HB.out) rfl (HA.out.below HB.out) (HR.out.below HB.out) rfl HB.out.size HOK.out).mono ?_
    rintro e w2 ⟨va, rfl, hs, hb⟩
    rw [HL.out] at hs
    have HB2 := Lib.hid (HB.out.trans (hb.mono HB.out.size)); clear hb
    obtain ⟨ao1, c1, rfl, hc1, _⟩ := hs.intsShape (A := []) (C := [])
    have hX := hs.intSl (A := []) (C := [])
    have hXl : (arr (fun i => ((fin.out i : Nat) : Int)) rs.length).length = rs.length := arr_len ..
    rw [hXl] at hc1
    rw [show (arr (fun i => ((fin.out i : Nat) : Int)) rs.length).length = rs.length from hXl]
    have HX := Lib.hid hX
    clear hX hs hXl
    have hnn : ((rs.length : Int) != (rs.length : Int)) = false := by simp
    have HM2 := Lib.hid (HM.out.below HB2.out)
    have HNN := Lib.hid hnn
    go_wp2_with fail
    refine (behind_any _ _ _ _ room 0 _ HM2.out rfl HB2.out.size (by omega)).mono ?_
    rintro e w3 ⟨vl, rfl, hs3, hb3⟩
    rw [room_more] at hs3
    obtain ⟨M, hMM⟩ : ∃ M, M = room.length + 1 := ⟨_, rfl⟩
    rw [← hMM] at hs3
    have hmM : room.length < M := by omega
    have hM7 : M ≤ 7 := by omega
    have HMM := Lib.hid hMM; clear hMM
    obtain ⟨al, cl, rfl, hcl, hz1⟩ := hs3.intsShape (A := []) (C := [])
    rw [arr_len] at hs3 hcl
    obtain ⟨gl, ol, rfl, hgl, _, _, _⟩ := arrI_at (A := []) (C := []) hs3 (Nat.lt_of_le_of_lt (Nat.zero_le _) hmM)
    rw [arr_len]
    obtain ⟨g, hg⟩ : ∃ g, g = w2.heap.size := ⟨_, rfl⟩
    rw [← hg] at hs3 hb3 hgl
    have hwg : w.heap.size ≤ g := by rw [hg]; exact HB2.out.size
    have HX3 : Hid (IntSl g w2 ao1 (arr (fun i => ((fin.out i : Nat) : Int)) rs.length)) := Lib.hid (by rw [hg]; exact HX.out)
    have HG := Lib.hid hg; clear hg
    have HS3 := Lib.hid hs3; clear hs3
    have HB3 := Lib.hid hb3; clear hb3
    have HA2 := Lib.hid (HA.out.below HB2.out)
    have HR2 := Lib.hid (HR.out.below HB2.out)
    clear hz1
    have h0 : arr (roomOf room) M = arr (fun x => roomOf room x - ((usedP (wayOf (rowsOf rs)) fin.out 0 x : Nat) : Int)) M := arr_congr fun x _ => by simp [usedP, psum]
    have H0 := Lib.hid h0; clear h0
    have hg3 : g ≤ w3.heap.size := Nat.le_trans (by rw [HG.out]; exact Nat.le_refl _) HB3.out.size
    have hM1 : (room.length : Int) + 1 = (M : Int) := by rw [HMM.out]; omega
    have HM1 := Lib.hid hM1; clear hM1
    go_wp2_with (at_make; refine wpList_make_sep rfl _ _ rfl elemInt8 .i64 .i64 ((room.length : Int) + 1) ((room.length : Int) + 1) M rfl rfl HM1.out HM1.out (by omega) (by unfold maxLen; omega) HS3.out hg3 ?_)
    intro w4 hsep4 hbel4 hsz4
    obtain ⟨gm, hgm⟩ : ∃ gm, gm = w3.heap.size := ⟨_, rfl⟩
    have hggm : g ≤ gm := by rw [hgm]; exact hg3
    have hs4 : Sep g w4 [Ent.ints 3 (.slice (some ⟨gm, 0, none⟩) M M) (arr (fun x => ((usedP (wayOf (rowsOf rs)) (fun _ => 1) 0 x : Nat) : Int)) M), Ent.ints 3 (.slice (some ⟨gl, ol, none⟩) M cl) (arr (fun x => roomOf room x - ((usedP (wayOf (rowsOf rs)) fin.out 0 x : Nat) : Int)) M)] := by
      have e2 : Ent.ints 3 (.slice (some ⟨gm, 0, none⟩) M M) (arr (fun x => ((usedP (wayOf (rowsOf rs)) (fun _ => 1) 0 x : Nat) : Int)) M) = Ent.row (.slice (some ⟨gm, 0, none⟩) M M) M 1 3 (madeCells #[.int .i64 0] M).toList := by
        unfold Ent.ints
        rw [arr_len, show arr (fun x => ((usedP (wayOf (rowsOf rs)) (fun _ => 1) 0 x : Nat) : Int)) M = arr (fun _ => (0 : Int)) M from rfl, ← arr_const, madeInts]
      rw [e2, ← H0.out, hgm]
      exact hsep4
    have HS4 := Lib.hid hs4
    have HB4 := Lib.hid (HB3.out.trans (hbel4.mono hg3))
    rw [← hgm]
    clear hs4 hsep4 hbel4 hsz4 hgm hg3
    go_wp2
    go_loopg [10] rs.length (fun gk i wr => ∃ k : Nat, gk + k = rs.length ∧ i = .int .i64 k ∧ Sep g wr [Ent.ints 3 (.slice (some ⟨gm, 0, none⟩) M M) (arr (fun x => ((usedP (wayOf (rowsOf rs)) (fun _ => 1) k x : Nat) : Int)) M), Ent.ints 3 (.slice (some ⟨gl, ol, none⟩) M cl) (arr (fun x => roomOf room x - ((usedP (wayOf (rowsOf rs)) fin.out k x : Nat) : Int)) M)] ∧ Below g w2 wr)
    case atStart => exact ⟨0, rfl, rfl, HS4.out, HB4.out⟩
    case round =>
      obtain ⟨gi, rfl⟩ : ∃ gi, gi = gk := ⟨_, rfl⟩
      obtain ⟨k, hgk, rfl, hsep, hbel⟩ := hrel
      have HS5 := Lib.hid hsep; clear hsep
      have HB5 := Lib.hid hbel; clear hbel
      by_cases hlt : k < rs.length
      · obtain ⟨⟨ra, rc', xs⟩, hrk⟩ : ∃ r, rs[k]? = some r := ⟨_, List.getElem?_eq_getElem hlt⟩
        obtain ⟨b, off, rfl, hbb, c0⟩ := rows_at HA2.out hrk
        obtain ⟨hi, hrl, hrm2⟩ := HR2.out _ (List.mem_iff_getElem?.2 ⟨k, hrk⟩)
        have hwk := wayOf_get (rowsOf_get hrk)
        have hxm := (HOK.out.each xs (List.mem_iff_getElem?.2 ⟨k, rowsOf_get hrk⟩)).2.1
        simp only at hi hrl hrm2 c0 hwk
        unfold maxLen at hrm2
        obtain ⟨bl, o1, rfl, hbl, cl1⟩ := HX3.out k _ (arr_get hlt)
        obtain ⟨ov, hov⟩ : ∃ ov, ov = fin.out k := ⟨_, rfl⟩
        rw [← hov] at cl1
        have hovb : ov ≤ 1000 := by rw [hov]; exact HOE.out k hlt
        have HI := Lib.hid hi; clear hi
        have HWK := Lib.hid hwk; clear hwk
        have HXM := Lib.hid hxm; clear hxm hrk
        have hstat : ∀ W, Below g w2 W → W.cell? ⟨b, off + k, none⟩ = some (.slice ra xs.length rc') ∧ W.cell? ⟨bl, o1 + k, none⟩ = some (.int .i64 ov) := fun W hW =>
          ⟨(hW.cell (p := ⟨b, off + k, none⟩) (Nat.lt_of_lt_of_le hbb hwg)).trans c0, (hW.cell (p := ⟨bl, o1 + k, none⟩) hbl).trans cl1⟩
        have HSTAT := Lib.hid hstat; clear hstat c0 cl1
        obtain ⟨s1, s2⟩ := HSTAT.out wr HB5.out
        have h1 : arr (fun x => roomOf room x - ((usedP (wayOf (rowsOf rs)) fin.out k x : Nat) : Int)) M = arr (fun x => roomOf room x - ((usedJ (wayOf (rowsOf rs)) fin.out k 0 x : Nat) : Int)) M := arr_congr fun x _ => by rw [usedJ_zero]
        have h2 : arr (fun x => ((usedP (wayOf (rowsOf rs)) (fun _ => 1) k x : Nat) : Int)) M = arr (fun x => ((usedJ (wayOf (rowsOf rs)) (fun _ => 1) k 0 x : Nat) : Int)) M := arr_congr fun x _ => by rw [usedJ_zero]
        have hs6 := HS5.out
        rw [h1, h2] at hs6
        have HS6 := Lib.hid hs6; clear hs6 h1 h2
        have HOV := Lib.hid hov; clear hov
        go_wp2
        go_loopg [11] xs.length (fun gk i wr => ∃ j : Nat, gk + j = xs.length ∧ i = .int .i64 j ∧ Sep g wr [Ent.ints 3 (.slice (some ⟨gm, 0, none⟩) M M) (arr (fun x => ((usedJ (wayOf (rowsOf rs)) (fun _ => 1) k j x : Nat) : Int)) M), Ent.ints 3 (.slice (some ⟨gl, ol, none⟩) M cl) (arr (fun x => roomOf room x - ((usedJ (wayOf (rowsOf rs)) fin.out k j x : Nat) : Int)) M)] ∧ Below g w2 wr)
        case atStart => exact ⟨0, rfl, rfl, HS6.out, HB5.out⟩
        case round =>
          obtain ⟨gj, rfl⟩ : ∃ gj, gj = gk := ⟨_, rfl⟩
          obtain ⟨j, hgj, rfl, hsep, hbel⟩ := hrel
          have HS7 := Lib.hid hsep; clear hsep
          have HB7 := Lib.hid hbel; clear hbel
          clear s1 s2
          obtain ⟨s1, s2⟩ := HSTAT.out wr HB7.out
          by_cases hjl : j < xs.length
          · obtain ⟨x, hx⟩ : ∃ x, xs[j]? = some x := ⟨_, List.getElem?_eq_getElem hjl⟩
            obtain ⟨b2, o4, rfl, hb2, cx0⟩ := HI.out j x hx
            have hxb := HXM.out x (List.mem_iff_getElem?.2 ⟨j, hx⟩)
            obtain ⟨y, rfl⟩ := Int.eq_ofNat_of_zero_le hxb.1
            have hym : y < room.length := by omega
            have hym2 : y < M := by omega
            have htk : (wayOf (rowsOf rs) k).take (j + 1) = (wayOf (rowsOf rs) k).take j ++ [y] := by
              rw [HWK.out, List.take_add_one, List.getElem?_map, hx]; rfl
            have hxc : ∀ W, Below g w2 W → W.cell? ⟨b2, o4 + j, none⟩ = some (.int .i64 y) := fun W hW => (hW.cell (p := ⟨b2, o4 + j, none⟩) (Nat.lt_of_lt_of_le hb2 hwg)).trans cx0
            have HXC := Lib.hid hxc; clear hxc cx0 hx
            have cx := HXC.out wr HB7.out
            obtain ⟨nv, hnv⟩ : ∃ nv : Int, nv = roomOf room y - ((usedJ (wayOf (rowsOf rs)) fin.out k j y : Nat) : Int) := ⟨_, rfl⟩
            have hnvb : -10000 ≤ nv ∧ nv ≤ 1000 := by
              have h1 := usedJ_le HW.out HOE.out hlt j y
              have h2 := HOK.out.room_bd y hym
              rw [hnv]; omega
            obtain ⟨mv, hmv⟩ : ∃ mv : Nat, mv = usedJ (wayOf (rowsOf rs)) (fun _ => 1) k j y := ⟨_, rfl⟩
            have hmvb : mv ≤ 1000 := by
              have h1 := usedJ_le HW.out (out := fun _ => 1) (b := 1) (fun _ _ => Nat.le_refl _) hlt j y
              rw [hmv]; omega
            obtain ⟨g2, o3, he, _, n1, _, _⟩ := arrI_at (A := [_]) (C := []) HS7.out hym2
            simp only [Option.some.injEq, Addr.mk.injEq, and_true] at he
            obtain ⟨rfl, rfl⟩ := he
            rw [← hnv] at n1
            have hfun : arr (fun i => if i = y then nv - (ov : Int) else roomOf room i - ((usedJ (wayOf (rowsOf rs)) fin.out k j i : Nat) : Int)) M = arr (fun x => roomOf room x - ((usedJ (wayOf (rowsOf rs)) fin.out k (j + 1) x : Nat) : Int)) M := arr_congr fun x _ => by
              rw [usedJ_step htk x]
              by_cases e : x = y
              · rw [if_pos e, if_pos e, hnv, e, HOV.out]; omega
              · rw [if_neg e, if_neg e]
            have hfun2 : arr (fun i => if i = y then ((mv : Int) + 1) else ((usedJ (wayOf (rowsOf rs)) (fun _ => 1) k j i : Nat) : Int)) M = arr (fun x => ((usedJ (wayOf (rowsOf rs)) (fun _ => 1) k (j + 1) x : Nat) : Int)) M := arr_congr fun x _ => by
              rw [usedJ_step htk x]
              by_cases e : x = y
              · rw [if_pos e, if_pos e, hmv]; omega
              · rw [if_neg e, if_neg e]
            have HFUN := Lib.hid hfun; clear hfun
            have HFUN2 := Lib.hid hfun2; clear hfun2 htk
            have HNV := Lib.hid hnv; clear hnv
            have HMV := Lib.hid hmv; clear hmv
            go_wp2_with fail
            go_still_tail 24, (by kernel_rfl)
            change wpList _ _ _ _ _ wr.drew
            have HSD := Lib.hid HS7.out.drew
            have HBD := Lib.hid (HB7.out.trans (below_drew g wr))
            clear s1 s2 cx n1 HS7 HB7
            generalize wr.drew = wd at *
            obtain ⟨g2, o3, he, hgg2, n1, n2, nset⟩ := arrI_at (A := [_]) (C := []) HSD.out hym2
            simp only [Option.some.injEq, Addr.mk.injEq, and_true] at he
            obtain ⟨rfl, rfl⟩ := he
            have hset := nset (nv - (ov : Int))
            rw [HFUN.out] at hset
            have hbs := HBD.out.setCell (p := ⟨gl, ol + y, none⟩) hgg2 (.int .i64 (nv - (ov : Int)))
            rw [← HNV.out] at n1
            have HS8 := Lib.hid hset
            have HB8 := Lib.hid hbs
            clear hset hbs nset
            go_upto_region 18 with fail
            clear n1 n2 HSD HBD
            generalize wd.setCell ⟨gl, ol + y, none⟩ (.int .i64 (nv - (ov : Int))) = we at *
            obtain ⟨s1, s2⟩ := HSTAT.out we HB8.out
            have cx := HXC.out we HB8.out
            obtain ⟨g2, o3, he, _, n1, _, _⟩ := arrI_at (A := []) HS8.out hym2
            simp only [Option.some.injEq, Addr.mk.injEq, and_true] at he
            obtain ⟨rfl, rfl⟩ := he
            rw [← HMV.out, Nat.zero_add] at n1
            go_still_tail 20, (by kernel_rfl)
            change wpList _ _ _ _ _ we.drew
            have HSE := Lib.hid HS8.out.drew
            have HBE := Lib.hid (HB8.out.trans (below_drew g we))
            clear s1 s2 cx n1 HS8 HB8
            generalize we.drew = wf at *
            obtain ⟨g2, o3, he, _, n1, n2, nset⟩ := arrI_at (A := []) HSE.out hym2
            simp only [Option.some.injEq, Addr.mk.injEq, and_true] at he
            obtain ⟨rfl, rfl⟩ := he
            simp only [Nat.zero_add] at n1 n2 nset
            have hset := nset ((mv : Int) + 1)
            rw [HFUN2.out] at hset
            have hbs := HBE.out.setCell (p := ⟨gm, y, none⟩) hggm (.int .i64 ((mv : Int) + 1))
            rw [← HMV.out] at n1
            have HS9 := Lib.hid hset
            have HB9 := Lib.hid hbs
            clear hset hbs nset
            go_wp2
            go_roundg (gj - 1)
            case measure => omega
            case rel => exact ⟨j + 1, by omega, by go_num, HS9.out, HB9.out⟩
          · have h3 : arr (fun x => roomOf room x - ((usedJ (wayOf (rowsOf rs)) fin.out k j x : Nat) : Int)) M = arr (fun x => roomOf room x - ((usedP (wayOf (rowsOf rs)) fin.out (k + 1) x : Nat) : Int)) M := arr_congr fun x _ => by
              rw [usedJ_end (by rw [HWK.out, List.length_map]; omega)]
            have h4 : arr (fun x => ((usedJ (wayOf (rowsOf rs)) (fun _ => 1) k j x : Nat) : Int)) M = arr (fun x => ((usedP (wayOf (rowsOf rs)) (fun _ => 1) (k + 1) x : Nat) : Int)) M := arr_congr fun x _ => by
              rw [usedJ_end (by rw [HWK.out, List.length_map]; omega)]
            have hs6 := HS7.out
            rw [h3, h4] at hs6
            have HS8 := Lib.hid hs6; clear hs6 h3 h4
            go_wp2
            go_roundg (gi - 1)
            case measure => omega
            case rel => exact ⟨k + 1, by omega, by go_num, HS8.out, HB7.out⟩
      · have hkn : k = rs.length := by omega
        have hs7 := HS5.out
        rw [hkn] at hs7
        have HS7 := Lib.hid hs7; clear hs7
        have HKN := Lib.hid hkn; clear hkn HS5
        have hfl : ∀ x, x < room.length → ∀ W, Below wr.heap.size wr W → W.cell? ⟨gl, ol + x, none⟩ = some (.int .i64 (fin.L x)) ∧ W.cell? ⟨gm, x, none⟩ = some (.int .i64 (many rs.length (wayOf (rowsOf rs)) x)) := fun x hx W hW => by
          obtain ⟨g2, o3, he, _, n1, _, _⟩ := arrI_at (A := [_]) (C := []) (HS7.out.kept hW) (show x < M by omega)
          simp only [Option.some.injEq, Addr.mk.injEq, and_true] at he
          obtain ⟨rfl, rfl⟩ := he
          obtain ⟨g2, o3, he, _, n2, _, _⟩ := arrI_at (A := []) (HS7.out.kept hW) (show x < M by omega)
          simp only [Option.some.injEq, Addr.mk.injEq, and_true] at he
          obtain ⟨rfl, rfl⟩ := he
          rw [Nat.zero_add, usedOne] at n2
          refine ⟨?_, n2⟩
          rw [n1, HEND.out.left x hx]; rfl
        have HFL := Lib.hid hfl; clear hfl
        have hgw5 : g ≤ wr.heap.size := Nat.le_trans (by rw [HG.out]; exact Nat.le_refl _) HB5.out.size
        obtain ⟨wz, rfl⟩ : ∃ wz, wz = wr := ⟨_, rfl⟩
        have hwz : w.heap.size ≤ wz.heap.size := Nat.le_trans hwg hgw5
        have hBW := HB2.out.trans (HB5.out.mono hwg)
        have HBW := Lib.hid hBW; clear hBW
        have hrow : ∀ W, Below wz.heap.size wz W → RowSl w.heap.size W ao 1 (rs.map stpC) ∧ StpsOk w.heap.size W rs ∧ IntSl g W ao1 (arr (fun i => ((fin.out i : Nat) : Int)) rs.length) := fun W hW =>
          ⟨HA.out.below (HBW.out.trans (hW.mono hwz)), HR.out.below (HBW.out.trans (hW.mono hwz)), HX3.out.below (HB5.out.trans (hW.mono hgw5))⟩
        have HROW := Lib.hid hrow; clear hrow
        have HREFL := Lib.hid (Below.refl wz.heap.size wz)
        go_wp2
        go_loopg [12] rs.length (fun gk i wr => ∃ k : Nat, gk + k = rs.length ∧ i = .int .i64 k ∧ Below wz.heap.size wz wr)
        case atStart => exact ⟨0, rfl, rfl, HREFL.out⟩
        case round =>
          obtain ⟨gi, rfl⟩ : ∃ gi, gi = gk := ⟨_, rfl⟩
          obtain ⟨k, hgk, rfl, hbel⟩ := hrel
          have HB6 := Lib.hid hbel; clear hbel
          by_cases hlt : k < rs.length
          · obtain ⟨⟨ra, rc', xs⟩, hrk⟩ : ∃ r, rs[k]? = some r := ⟨_, List.getElem?_eq_getElem hlt⟩
            obtain ⟨b, off, rfl, hbb, _⟩ := rows_at (HROW.out wr HB6.out).1 hrk
            have hwk := wayOf_get (rowsOf_get hrk)
            have hxm := (HOK.out.each xs (List.mem_iff_getElem?.2 ⟨k, rowsOf_get hrk⟩)).2.1
            obtain ⟨bl, o1, rfl, hbl, _⟩ := (HROW.out wr HB6.out).2.2 k _ (arr_get hlt)
            obtain ⟨ov, hov⟩ : ∃ ov, ov = fin.out k := ⟨_, rfl⟩
            have hrc := ((HROW.out wr HB6.out).2.1 _ (List.mem_iff_getElem?.2 ⟨k, hrk⟩)).2
            simp only at hwk hrc
            unfold maxLen at hrc
            obtain ⟨hrc1, hrc2⟩ := hrc
            have hstat : ∀ W, Below wz.heap.size wz W → W.cell? ⟨b, off + k, none⟩ = some (.slice ra xs.length rc') ∧ W.cell? ⟨bl, o1 + k, none⟩ = some (.int .i64 ov) ∧ IntSl w.heap.size W ra xs := fun W hW => by
              obtain ⟨h1, h2, h3⟩ := HROW.out W hW
              obtain ⟨b', off', he, _, c0⟩ := rows_at h1 hrk
              simp only [Option.some.injEq, Addr.mk.injEq, and_true] at he
              obtain ⟨rfl, rfl⟩ := he
              obtain ⟨bl', o1', he, _, c1⟩ := h3 k _ (arr_get hlt)
              simp only [Option.some.injEq, Addr.mk.injEq, and_true] at he
              obtain ⟨rfl, rfl⟩ := he
              rw [← hov] at c1
              exact ⟨c0, c1, (h2 _ (List.mem_iff_getElem?.2 ⟨k, hrk⟩)).1⟩
            have HSTAT := Lib.hid hstat; clear hstat
            have HWK := Lib.hid hwk; clear hwk
            have HXM := Lib.hid hxm; clear hxm hrk
            have HOV := Lib.hid hov; clear hov
            obtain ⟨s1, s2, _⟩ := HSTAT.out wr HB6.out
            go_wp2
            go_loopg [13, 14] xs.length (fun gk f i wr => ∃ (j : Nat) (nb : Bool), gk + j = xs.length ∧ i = .int .i64 j ∧ f = .bool nb ∧ Hid (nb = (xs.take j).any fun y => mostB (rowsOf rs) fin.out k y rs.length && decide (fin.L y.toNat < ((many rs.length (wayOf (rowsOf rs)) y.toNat : Nat) : Int))) ∧ Below wz.heap.size wz wr)
            case atStart => exact ⟨0, false, rfl, rfl, rfl, by simp [Hid], HB6.out⟩
            case round =>
              obtain ⟨gj, rfl⟩ : ∃ gj, gj = gk := ⟨_, rfl⟩
              obtain ⟨j, nb, hgj, rfl, rfl, hnb, hbel⟩ := hrel
              have HB7 := Lib.hid hbel; clear hbel
              clear s1 s2
              obtain ⟨s1, s2, hix⟩ := HSTAT.out wr HB7.out
              by_cases hjl : j < xs.length
              · obtain ⟨x, hx⟩ : ∃ x, xs[j]? = some x := ⟨_, List.getElem?_eq_getElem hjl⟩
                obtain ⟨b2, o4, rfl, hb2, cx⟩ := hix j x hx
                have hxb := HXM.out x (List.mem_iff_getElem?.2 ⟨j, hx⟩)
                obtain ⟨y, rfl⟩ := Int.eq_ofNat_of_zero_le hxb.1
                have hym : y < room.length := by omega
                have hym2 : y < M := by omega
                obtain ⟨tg, htg⟩ : ∃ tg, tg = mostB (rowsOf rs) fin.out k (y : Int) rs.length := ⟨_, rfl⟩
                obtain ⟨lv, hlv⟩ : ∃ lv, lv = fin.L y := ⟨_, rfl⟩
                obtain ⟨mv, hmv⟩ : ∃ mv, mv = many rs.length (wayOf (rowsOf rs)) y := ⟨_, rfl⟩
                have hnext : ((xs.take (j + 1)).any fun y => mostB (rowsOf rs) fin.out k y rs.length && decide (fin.L y.toNat < ((many rs.length (wayOf (rowsOf rs)) y.toNat : Nat) : Int))) = (nb || (tg && decide (lv < (mv : Int)))) := by
                  rw [List.take_add_one, hx, List.any_append, ← hnb.out, hlv, hmv, htg]; simp
                have hfl : ∀ W, Below wz.heap.size wz W → W.cell? ⟨gl, ol + y, none⟩ = some (.int .i64 lv) ∧ W.cell? ⟨gm, y, none⟩ = some (.int .i64 mv) := fun W hW => by
                  rw [hlv, hmv]; exact HFL.out y hym W hW
                have HNX := Lib.hid hnext
                have HLY := Lib.hid hfl
                have HTG := Lib.hid htg
                clear hnext hfl hix hx hlv hmv htg
                go_wp2
                go_loopg [16, 17] rs.length (fun gk f i wr => ∃ (q : Nat) (mb : Bool), gk + q = rs.length ∧ i = .int .i64 q ∧ f = .bool mb ∧ Hid (mb = mostB (rowsOf rs) fin.out k (y : Int) q) ∧ Below wz.heap.size wz wr)
                case atStart => exact ⟨0, true, rfl, rfl, rfl, rfl, HB7.out⟩
                case round =>
                  obtain ⟨gq, rfl⟩ : ∃ gq, gq = gk := ⟨_, rfl⟩
                  obtain ⟨q, mb, hgq, rfl, rfl, hmb, hbel⟩ := hrel
                  have HB9 := Lib.hid hbel; clear hbel
                  clear s1 s2 cx
                  obtain ⟨s1, s2, _⟩ := HSTAT.out wr HB9.out
                  by_cases hql : q < rs.length
                  · obtain ⟨⟨rq, rcq, zs⟩, hrq⟩ : ∃ r, rs[q]? = some r := ⟨_, List.getElem?_eq_getElem hql⟩
                    obtain ⟨h1, h2, h3⟩ := HROW.out wr HB9.out
                    obtain ⟨b', off', he, _, cq⟩ := rows_at h1 hrq
                    simp only [Option.some.injEq, Addr.mk.injEq, and_true] at he
                    obtain ⟨rfl, rfl⟩ := he
                    obtain ⟨bl', o1', he, _, cl2⟩ := h3 q _ (arr_get hql)
                    simp only [Option.some.injEq, Addr.mk.injEq, and_true] at he
                    obtain ⟨rfl, rfl⟩ := he
                    obtain ⟨hiz, hz1, hz2⟩ := h2 _ (List.mem_iff_getElem?.2 ⟨q, hrq⟩)
                    obtain ⟨oq, hoq⟩ : ∃ oq, oq = fin.out q := ⟨_, rfl⟩
                    rw [← hoq] at cl2
                    simp only at cq hiz hz1 hz2
                    unfold maxLen at hz2
                    have hgz : (rowsOf rs).getD q [] = zs := by rw [List.getD_eq_getElem?_getD, rowsOf_get hrq]; rfl
                    have hsucc := mostB_succ (rowsOf rs) fin.out k (y : Int) q
                    rw [hgz, ← hmb.out, ← hoq, ← HOV.out] at hsucc
                    have HSU := Lib.hid hsucc
                    have HIZ : Hid (∀ n, IntSl w.heap.size (wr.drewN n) rq zs) := Lib.hid (fun n => hiz.below (below_drewN _ _ n))
                    clear hsucc hgz hoq hiz h1 h2 h3 hrq
                    cases mb with
                    | false =>
                      go_wp2_with fail
                      go_quiet (fail)
                      have HBD := Lib.hid (HB9.out.trans (below_drewN _ wr nq))
                      generalize wr.drewN nq = wq at *
                      go_wp2
                      go_roundg (gq - 1)
                      case measure => omega
                      case rel => exact ⟨q + 1, false, by omega, by go_num, rfl, by simp only [Hid]; rw [HSU.out]; rfl, HBD.out⟩
                    | true =>
                      by_cases hyz : (y : Int) ∈ zs
                      · have hsu := HSU.out
                        simp only [hyz, decide_true, Bool.not_true, Bool.true_and, Bool.false_or] at hsu
                        have HSU2 := Lib.hid hsu; clear hsu
                        have hde : decide ((oq : Int) ≤ (ov : Int)) = decide (oq ≤ ov) := by simp
                        have hzl : zs.length ≤ 9223372036854775807 := Nat.le_trans hz1 hz2
                        have hyt : true = decide ((y : Int) ∈ zs) := (decide_eq_true hyz).symm
                        have hcall := fun n => has1_any rq rcq zs.length w.heap.size zs (y : Int) true (wr.drewN n) (HIZ.out n) rfl hzl hyt
                        clear hyt
                        have HCA := Lib.hid hcall; clear hcall
                        have HYZ := Lib.hid hyz; clear hyz
                        go_wp2_with fail
                        go_quiet (first | (go_at_call 14; exact quiet_id (HCA.out _) ⟨_, rfl⟩))
                        have HBD := Lib.hid (HB9.out.trans (below_drewN _ wr nq))
                        generalize wr.drewN nq = wq at *
                        go_wp2
                        go_roundg (gq - 1)
                        case measure => omega
                        case rel => exact ⟨q + 1, decide (oq ≤ ov), by omega, by go_num, by first | rfl | rw [hde], by simp only [Hid]; rw [HSU2.out], HBD.out⟩
                      · have hsu := HSU.out
                        simp only [hyz, decide_false, Bool.not_false, Bool.true_and, Bool.true_or] at hsu
                        have HSU2 := Lib.hid hsu; clear hsu
                        have hzl : zs.length ≤ 9223372036854775807 := Nat.le_trans hz1 hz2
                        have hyt : false = decide ((y : Int) ∈ zs) := (decide_eq_false hyz).symm
                        have hcall := fun n => has1_any rq rcq zs.length w.heap.size zs (y : Int) false (wr.drewN n) (HIZ.out n) rfl hzl hyt
                        clear hyt
                        have HCA := Lib.hid hcall; clear hcall
                        have HYZ := Lib.hid hyz; clear hyz
                        go_wp2_with fail
                        go_quiet (first | (go_at_call 14; exact quiet_id (HCA.out _) ⟨_, rfl⟩))
                        have HBD := Lib.hid (HB9.out.trans (below_drewN _ wr nq))
                        generalize wr.drewN nq = wq at *
                        go_wp2
                        go_roundg (gq - 1)
                        case measure => omega
                        case rel => exact ⟨q + 1, true, by omega, by go_num, rfl, by simp only [Hid]; rw [HSU2.out], HBD.out⟩
                  · have hqn : q = rs.length := by omega
                    have hmbf : mb = tg := by rw [hmb.out, hqn, HTG.out]
                    subst hmbf
                    have HQN := Lib.hid hqn; clear hqn
                    obtain ⟨e1, e2⟩ := HLY.out wr HB9.out
                    cases nb with
                    | true =>
                      go_wp2_with fail
                      go_quiet (fail)
                      have HBD := Lib.hid (HB9.out.trans (below_drewN _ wr nq))
                      generalize wr.drewN nq = wq at *
                      go_wp2
                      go_roundg (gj - 1)
                      case measure => omega
                      case rel => exact ⟨j + 1, true, by omega, by go_num, rfl, by simp only [Hid]; rw [HNX.out]; rfl, HBD.out⟩
                    | false =>
                      cases mb with
                      | false =>
                        go_wp2_with fail
                        go_quiet (fail)
                        have HBD := Lib.hid (HB9.out.trans (below_drewN _ wr nq))
                        generalize wr.drewN nq = wq at *
                        go_wp2
                        go_roundg (gj - 1)
                        case measure => omega
                        case rel => exact ⟨j + 1, false, by omega, by go_num, rfl, by simp only [Hid]; rw [HNX.out]; rfl, HBD.out⟩
                      | true =>
                        go_wp2_with fail
                        go_quiet (fail)
                        have HBD := Lib.hid (HB9.out.trans (below_drewN _ wr nq))
                        generalize wr.drewN nq = wq at *
                        go_wp2
                        go_roundg (gj - 1)
                        case measure => omega
                        case rel => exact ⟨j + 1, decide (lv < (mv : Int)), by omega, by go_num, rfl, by simp only [Hid]; rw [HNX.out]; rfl, HBD.out⟩
              · have hfull : nb = true := by
                  have h1 := hnb.out
                  rw [List.take_of_length_le (by omega)] at h1
                  obtain ⟨x, hx, hlt2, hle⟩ := HEND.out.neck k hlt
                  rw [HWK.out] at hx
                  obtain ⟨z, hz, rfl⟩ := List.mem_map.1 hx
                  have hz0 := HXM.out z hz
                  rw [h1, List.any_eq_true]
                  refine ⟨z, hz, ?_⟩
                  rw [Bool.and_eq_true]
                  refine ⟨?_, by simpa using hlt2⟩
                  unfold mostB
                  rw [List.all_eq_true]
                  intro q hq
                  have hq2 : q < rs.length := by simpa using hq
                  by_cases hzq : z ∈ (rowsOf rs).getD q []
                  · have := hle q hq2 (by unfold wayOf; exact List.mem_map.2 ⟨z, hzq, rfl⟩)
                    simp [this]
                  · simp only [hzq, decide_false, Bool.not_false, Bool.true_or]
                subst hfull
                go_wp2
                go_roundg (gi - 1)
                case measure => omega
                case rel => exact ⟨k + 1, by omega, by go_num, HB7.out⟩
          · go_wp2
            go_ret
            exact ⟨rfl, HBW.out.trans (HB6.out.mono hwz)⟩
  · have HC := Lib.hid hc; clear hc
    have H0 := Lib.hid hc0; clear hc0
    go_enter Try.func4, Try.ntmps4
    go_wp2_with fail
    refine (mmFact_any _).mono ?_
    rintro e w1 ⟨rfl, hb⟩
    have HB := Lib.hid hb; clear hb
    go_wp2_with fail
    refine (mmShare_err _ _ _ room _ _ _ _ rs c _ (HM.out.below HB.out) rfl (by omega) (HA.out.below HB.out) (HR.out.below HB.out) rfl (by omega) HC.out H0.out).mono ?_
    rintro e w' ⟨rfl, rfl⟩
    go_wp2
    go_ret
    exact ⟨rfl, HB.out⟩
end Go.Proofs.Ytciolkmhafdlpaa
