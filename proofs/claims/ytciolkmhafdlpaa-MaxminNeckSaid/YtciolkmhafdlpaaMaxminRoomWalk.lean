/- MaxminRoom returns true: no link carries more than it has room for; each way goes over a link that is full. -/
import Derived.Test.YtciolkmhafdlpaaMaxFact
import Derived.StillTailTactics
namespace Go.Proofs.Ytciolkmhafdlpaa
open Go.RowKit
set_option linter.unusedVariables false

theorem room_more (room : List Int) : room ++ [0] = arr (roomOf room) (room.length + 1) := by
  have := arr_of (room ++ [0]) (roomOf room) (fun i x h => by
    unfold roomOf
    rw [List.getD_eq_getElem?_getD]
    rcases Nat.lt_or_ge i room.length with h1 | h1
    · rw [List.getElem?_append_left h1] at h; rw [h]; rfl
    · rw [List.getElem?_append_right h1] at h
      rw [List.getElem?_eq_none h1]
      match hi : i - room.length, h with
      | 0, h => simpa using h
      | k + 1, h => simp at h)
  simpa using this

set_option maxHeartbeats 4000000 in
set_option maxRecDepth 100000 in
theorem maxminRoom_walk (ro : Option Addr) (rc : Nat) (room : List Int) (ao : Option Addr) (ac : Nat) (rs : List Stp) (w : World) (hM : IntSl w.heap.size w ro room) (hrc : room.length ≤ rc) (hrx : rc ≤ maxLen) (_ : ∀ x ∈ room, -9223372036854775808 ≤ x ∧ x ≤ 9223372036854775807)
    (hA : RowSl w.heap.size w ao 1 (rs.map stpC)) (hac : rs.length ≤ ac) (hmax : ac ≤ maxLen) (hr : StpsOk w.heap.size w rs) :
    Calls Try.prog 3 #[.slice ro room.length rc, .slice ao rs.length ac] w fun e w' => e = .returned (.bool true) ∧ Below w.heap.size w w' := by
  unfold maxLen at hmax hrx
  have HM := Lib.hid hM; clear hM
  have HA := Lib.hid hA; clear hA
  have HR := Lib.hid hr; clear hr
  obtain ⟨c, hc⟩ : ∃ c, c = mmCode room (rowsOf rs) := ⟨_, rfl⟩
  by_cases hc0 : c = 0
  · have hok := mmCode_zero.1 (hc.symm.trans hc0)
    clear hc hc0
    have hm6 := hok.links
    have hn5 : rs.length ≤ 5 := by rw [← rowsOf_len]; exact hok.few
    obtain ⟨fin, hfin⟩ : ∃ fin, fin = mmShare rs.length (wayOf (rowsOf rs)) (roomOf room) := ⟨_, rfl⟩
    have hwok := hok.wok
    rw [rowsOf_len] at hwok
    have hend := mmShare_end hn5 hwok hok.room_bd
    have hoe : ∀ i, i < rs.length → fin.out i ≤ 1000 := fun i hi => by rw [hfin]; exact mmShare_out_le hn5 hwok hok.room_bd hi
    rw [← hfin] at hend
    have hl : mmOut room (rowsOf rs) = arr (fun i => ((fin.out i : Nat) : Int)) rs.length := by unfold mmOut; rw [rowsOf_len, hfin]
    have HW := Lib.hid hwok; clear hwok
    have HEND := Lib.hid hend; clear hend
    have HOE := Lib.hid hoe; clear hoe
    have HL := Lib.hid hl; clear hl hfin
    have HOK := Lib.hid hok; clear hok
    go_enter Try.func3, Try.ntmps3
    go_wp2_with fail
    refine (mmFact_any _).mono ?_
    rintro e w1 ⟨rfl, hb⟩
    have HB := Lib.hid hb; clear hb
    go_wp2_with fail
    refine (mmShare_ok _ _ _ room _ _ _ _ rs _ (HM.out.below HB.out) rfl (HA.out.below HB.out) (HR.out.below HB.out) rfl HB.out.size HOK.out).mono ?_
    rintro e w2 ⟨va, rfl, hs, hb⟩
    rw [HL.out] at hs
    have HB2 := Lib.hid (HB.out.trans (hb.mono HB.out.size)); clear hb
    obtain ⟨ao1, c1, rfl, hc1, _⟩ := hs.intsShape (A := []) (C := [])
    have hX := hs.intSl (A := []) (C := [])
    have hXl : (arr (fun i => ((fin.out i : Nat) : Int)) rs.length).length = rs.length := arr_len ..
    rw [hXl] at hc1
    rw [show (arr (fun i => ((fin.out i : Nat) : Int)) rs.length).length = rs.length from hXl]
    have HX := Lib.hid hX
    clear hX hs hXl
    have hnn : ((rs.length : Int) != (rs.length : Int)) = false := by simp
    have HM2 := Lib.hid (HM.out.below HB2.out)
    have HNN := Lib.hid hnn
    go_wp2_with fail
    refine (behind_any _ _ _ _ room 0 _ HM2.out rfl HB2.out.size (by omega)).mono ?_
    rintro e w3 ⟨vl, rfl, hs3, hb3⟩
    rw [room_more] at hs3
    obtain ⟨M, hMM⟩ : ∃ M, M = room.length + 1 := ⟨_, rfl⟩
    rw [← hMM] at hs3
    have hmM : room.length < M := by omega
    have hM7 : M ≤ 7 := by omega
    have HMM := Lib.hid hMM; clear hMM
    obtain ⟨al, cl, rfl, hcl, hz1⟩ := hs3.intsShape (A := []) (C := [])
    rw [arr_len] at hs3 hcl
    obtain ⟨gl, ol, rfl, hgl, _, _, _⟩ := arrI_at (A := []) (C := []) hs3 (Nat.lt_of_le_of_lt (Nat.zero_le _) hmM)
    rw [arr_len]
    obtain ⟨g, hg⟩ : ∃ g, g = w2.heap.size := ⟨_, rfl⟩
    rw [← hg] at hs3 hb3 hgl
    have hwg : w.heap.size ≤ g := by rw [hg]; exact HB2.out.size
    have HX3 : Hid (IntSl g w2 ao1 (arr (fun i => ((fin.out i : Nat) : Int)) rs.length)) := Lib.hid (by rw [hg]; exact HX.out)
    have HG := Lib.hid hg; clear hg
    have HS3 := Lib.hid hs3; clear hs3
    have HB3 := Lib.hid hb3; clear hb3
    have HA2 := Lib.hid (HA.out.below HB2.out)
    have HR2 := Lib.hid (HR.out.below HB2.out)
    clear hz1
    have h0 : arr (roomOf room) M = arr (fun x => roomOf room x - ((usedP (wayOf (rowsOf rs)) fin.out 0 x : Nat) : Int)) M := arr_congr fun x _ => by simp [usedP, psum]
    have H0 := Lib.hid h0; clear h0
    go_wp2
    go_loopg [9] rs.length (fun gk i wr => ∃ k : Nat, gk + k = rs.length ∧ i = .int .i64 k ∧ Sep g wr [Ent.ints 3 (.slice (some ⟨gl, ol, none⟩) M cl) (arr (fun x => roomOf room x - ((usedP (wayOf (rowsOf rs)) fin.out k x : Nat) : Int)) M)] ∧ Below g w2 wr)
    case atStart => exact ⟨0, rfl, rfl, by rw [← H0.out]; exact HS3.out, HB3.out⟩
    case round =>
      obtain ⟨gi, rfl⟩ : ∃ gi, gi = gk := ⟨_, rfl⟩
      obtain ⟨k, hgk, rfl, hsep, hbel⟩ := hrel
      have HS4 := Lib.hid hsep; clear hsep
      have HB4 := Lib.hid hbel; clear hbel
      by_cases hlt : k < rs.length
      · obtain ⟨⟨ra, rc', xs⟩, hrk⟩ : ∃ r, rs[k]? = some r := ⟨_, List.getElem?_eq_getElem hlt⟩
        obtain ⟨b, off, rfl, hbb, c0⟩ := rows_at HA2.out hrk
        obtain ⟨hi, hrl, hrm2⟩ := HR2.out _ (List.mem_iff_getElem?.2 ⟨k, hrk⟩)
        have hwk := wayOf_get (rowsOf_get hrk)
        have hxm := (HOK.out.each xs (List.mem_iff_getElem?.2 ⟨k, rowsOf_get hrk⟩)).2.1
        simp only at hi hrl hrm2 c0 hwk
        unfold maxLen at hrm2
        obtain ⟨bl, o1, rfl, hbl, cl1⟩ := HX3.out k _ (arr_get hlt)
        obtain ⟨ov, hov⟩ : ∃ ov, ov = fin.out k := ⟨_, rfl⟩
        rw [← hov] at cl1
        have hovb : ov ≤ 1000 := by rw [hov]; exact HOE.out k hlt
        have HI := Lib.hid hi; clear hi
        have HWK := Lib.hid hwk; clear hwk
        have HXM := Lib.hid hxm; clear hxm hrk
        have hstat : ∀ W, Below g w2 W → W.cell? ⟨b, off + k, none⟩ = some (.slice ra xs.length rc') ∧ W.cell? ⟨bl, o1 + k, none⟩ = some (.int .i64 ov) := fun W hW =>
          ⟨(hW.cell (p := ⟨b, off + k, none⟩) (Nat.lt_of_lt_of_le hbb hwg)).trans c0, (hW.cell (p := ⟨bl, o1 + k, none⟩) hbl).trans cl1⟩
        have HSTAT := Lib.hid hstat; clear hstat c0 cl1
        obtain ⟨s1, s2⟩ := HSTAT.out wr HB4.out
        have hlt0 : decide ((ov : Int) < 0) = false := decide_eq_false (by omega)
        have h0 : arr (fun x => roomOf room x - ((usedP (wayOf (rowsOf rs)) fin.out k x : Nat) : Int)) M = arr (fun x => roomOf room x - ((usedJ (wayOf (rowsOf rs)) fin.out k 0 x : Nat) : Int)) M := arr_congr fun x _ => by rw [usedJ_zero]
        have H1 := Lib.hid h0; clear h0
        have HOV := Lib.hid hov; clear hov
        go_wp2
        go_loopg [10] xs.length (fun gk i wr => ∃ j : Nat, gk + j = xs.length ∧ i = .int .i64 j ∧ Sep g wr [Ent.ints 3 (.slice (some ⟨gl, ol, none⟩) M cl) (arr (fun x => roomOf room x - ((usedJ (wayOf (rowsOf rs)) fin.out k j x : Nat) : Int)) M)] ∧ Below g w2 wr)
        case atStart => exact ⟨0, rfl, rfl, by rw [← H1.out]; exact HS4.out, HB4.out⟩
        case round =>
          obtain ⟨gj, rfl⟩ : ∃ gj, gj = gk := ⟨_, rfl⟩
          obtain ⟨j, hgj, rfl, hsep, hbel⟩ := hrel
          have HS5 := Lib.hid hsep; clear hsep
          have HB5 := Lib.hid hbel; clear hbel
          clear s1 s2
          obtain ⟨s1, s2⟩ := HSTAT.out wr HB5.out
          by_cases hjl : j < xs.length
          · obtain ⟨x, hx⟩ : ∃ x, xs[j]? = some x := ⟨_, List.getElem?_eq_getElem hjl⟩
            obtain ⟨b2, o4, rfl, hb2, cx0⟩ := HI.out j x hx
            have hxb := HXM.out x (List.mem_iff_getElem?.2 ⟨j, hx⟩)
            obtain ⟨y, rfl⟩ := Int.eq_ofNat_of_zero_le hxb.1
            have hym : y < room.length := by omega
            have hym2 : y < M := by omega
            have htk : (wayOf (rowsOf rs) k).take (j + 1) = (wayOf (rowsOf rs) k).take j ++ [y] := by
              rw [HWK.out, List.take_add_one, List.getElem?_map, hx]; rfl
            have hxc : ∀ W, Below g w2 W → W.cell? ⟨b2, o4 + j, none⟩ = some (.int .i64 y) := fun W hW => (hW.cell (p := ⟨b2, o4 + j, none⟩) (Nat.lt_of_lt_of_le hb2 hwg)).trans cx0
            have HXC := Lib.hid hxc; clear hxc cx0 hx
            have cx := HXC.out wr HB5.out
            obtain ⟨nv, hnv⟩ : ∃ nv : Int, nv = roomOf room y - ((usedJ (wayOf (rowsOf rs)) fin.out k j y : Nat) : Int) := ⟨_, rfl⟩
            have hnvb : -10000 ≤ nv ∧ nv ≤ 1000 := by
              have h1 := usedJ_le HW.out HOE.out hlt j y
              have h2 := HOK.out.room_bd y hym
              rw [hnv]; omega
            obtain ⟨g2, o3, he, _, n1, _, _⟩ := arrI_at (A := []) (C := []) HS5.out hym2
            simp only [Option.some.injEq, Addr.mk.injEq, and_true] at he
            obtain ⟨rfl, rfl⟩ := he
            rw [← hnv] at n1
            have hfun : arr (fun i => if i = y then nv - (ov : Int) else roomOf room i - ((usedJ (wayOf (rowsOf rs)) fin.out k j i : Nat) : Int)) M = arr (fun x => roomOf room x - ((usedJ (wayOf (rowsOf rs)) fin.out k (j + 1) x : Nat) : Int)) M := arr_congr fun x _ => by
              rw [usedJ_step htk x]
              by_cases e : x = y
              · rw [if_pos e, if_pos e, hnv, e, HOV.out]; omega
              · rw [if_neg e, if_neg e]
            have HFUN := Lib.hid hfun; clear hfun htk
            have HNV := Lib.hid hnv; clear hnv
            go_wp2_with fail
            go_still_tail 24, (by kernel_rfl)
            change wpList _ _ _ _ _ wr.drew
            have HSD := Lib.hid HS5.out.drew
            have HBD := Lib.hid (HB5.out.trans (below_drew g wr))
            clear s1 s2 cx n1 HS5 HB5
            generalize wr.drew = wd at *
            obtain ⟨g2, o3, he, hgg2, n1, n2, nset⟩ := arrI_at (A := []) (C := []) HSD.out hym2
            simp only [Option.some.injEq, Addr.mk.injEq, and_true] at he
            obtain ⟨rfl, rfl⟩ := he
            have hset := nset (nv - (ov : Int))
            rw [HFUN.out] at hset
            have hbs := HBD.out.setCell (p := ⟨gl, ol + y, none⟩) hgg2 (.int .i64 (nv - (ov : Int)))
            rw [← HNV.out] at n1
            have HSET := Lib.hid hset
            have HBS := Lib.hid hbs
            clear hset hbs nset
            go_wp2
            go_roundg (gj - 1)
            case measure => omega
            case rel => exact ⟨j + 1, by omega, by go_num, HSET.out, HBS.out⟩
          · have h3 : arr (fun x => roomOf room x - ((usedJ (wayOf (rowsOf rs)) fin.out k j x : Nat) : Int)) M = arr (fun x => roomOf room x - ((usedP (wayOf (rowsOf rs)) fin.out (k + 1) x : Nat) : Int)) M := arr_congr fun x _ => by
              rw [usedJ_end (by rw [HWK.out, List.length_map]; omega)]
            have hs6 := HS5.out
            rw [h3] at hs6
            have HS6 := Lib.hid hs6; clear hs6 h3
            go_wp2
            go_roundg (gi - 1)
            case measure => omega
            case rel => exact ⟨k + 1, by omega, by go_num, HS6.out, HB5.out⟩
      · have hkn : k = rs.length := by omega
        have hs7 := HS4.out
        rw [hkn] at hs7
        have HS7 := Lib.hid hs7; clear hs7
        have HKN := Lib.hid hkn; clear hkn HS4
        have hfl : ∀ x, x < room.length → wr.cell? ⟨gl, ol + x, none⟩ = some (.int .i64 (fin.L x)) := fun x hx => by
          obtain ⟨g2, o3, he, _, n1, _, _⟩ := arrI_at (A := []) (C := []) HS7.out (show x < M by omega)
          simp only [Option.some.injEq, Addr.mk.injEq, and_true] at he
          obtain ⟨rfl, rfl⟩ := he
          rw [n1, HEND.out.left x hx]; rfl
        have HFL := Lib.hid hfl; clear hfl
        have hBW := HB2.out.trans (HB4.out.mono hwg)
        have HBW := Lib.hid hBW; clear hBW
        have HA5 := Lib.hid (HA.out.below HBW.out)
        have HR5 := Lib.hid (HR.out.below HBW.out)
        go_wp2
        go_loop [11] (fun i => ∃ x : Nat, x ≤ room.length ∧ i = .int .i64 x) (fun i => room.length - (intOf i).toNat)
        case atStart => exact ⟨0, Nat.zero_le _, rfl⟩
        case round =>
          obtain ⟨x, hx, rfl⟩ := hrel
          by_cases hxl : x < room.length
          · have cx := HFL.out x hxl
            have hnn := HEND.out.nn x hxl
            obtain ⟨lv, hlv⟩ : ∃ lv, lv = fin.L x := ⟨_, rfl⟩
            rw [← hlv] at cx hnn
            have HLV := Lib.hid hlv; clear hlv
            have hd : decide (lv < 0) = false := decide_eq_false (by omega)
            go_wp2
            go_round
            case rel => exact ⟨x + 1, by omega, by go_num⟩
            case measure => simp [intOf]; omega
          · go_wp2
            go_loop [12] (fun i => ∃ k : Nat, k ≤ rs.length ∧ i = .int .i64 k) (fun i => rs.length - (intOf i).toNat)
            case atStart => exact ⟨0, Nat.zero_le _, rfl⟩
            case round =>
              obtain ⟨k, hk, rfl⟩ := hrel
              by_cases hlt : k < rs.length
              · obtain ⟨⟨ra, rc', xs⟩, hrk⟩ : ∃ r, rs[k]? = some r := ⟨_, List.getElem?_eq_getElem hlt⟩
                obtain ⟨b, off, rfl, hbb, c0⟩ := rows_at HA5.out hrk
                obtain ⟨hi, hrl, hrm2⟩ := HR5.out _ (List.mem_iff_getElem?.2 ⟨k, hrk⟩)
                have hwk := wayOf_get (rowsOf_get hrk)
                have hxm := (HOK.out.each xs (List.mem_iff_getElem?.2 ⟨k, rowsOf_get hrk⟩)).2.1
                simp only at hi hrl hrm2 c0 hwk
                unfold maxLen at hrm2
                have HI := Lib.hid hi; clear hi
                have HWK := Lib.hid hwk; clear hwk
                have HXM := Lib.hid hxm; clear hxm hrk
                go_wp2
                go_loop [13, 14] (fun f i => ∃ (j : Nat) (fb : Bool), j ≤ xs.length ∧ i = .int .i64 j ∧ f = .bool fb ∧ Hid (fb = (xs.take j).any fun x => decide (fin.L x.toNat < (rs.length : Int)))) (fun _ i => xs.length - (intOf i).toNat)
                case atStart => exact ⟨0, false, Nat.zero_le _, rfl, rfl, by simp [Hid]⟩
                case round =>
                  obtain ⟨j, fb, hj, rfl, rfl, hfb⟩ := hrel
                  by_cases hjl : j < xs.length
                  · obtain ⟨x, hx⟩ : ∃ x, xs[j]? = some x := ⟨_, List.getElem?_eq_getElem hjl⟩
                    obtain ⟨b2, o4, rfl, hb2, cx0⟩ := HI.out j x hx
                    have hxb := HXM.out x (List.mem_iff_getElem?.2 ⟨j, hx⟩)
                    obtain ⟨y, rfl⟩ := Int.eq_ofNat_of_zero_le hxb.1
                    have hym : y < room.length := by omega
                    have cx := HFL.out y hym
                    obtain ⟨lv, hlv⟩ : ∃ lv, lv = fin.L y := ⟨_, rfl⟩
                    rw [← hlv] at cx
                    have hnext : ((xs.take (j + 1)).any fun x => decide (fin.L x.toNat < (rs.length : Int))) = (fb || decide (lv < (rs.length : Int))) := by
                      rw [List.take_add_one, hx, List.any_append, ← hfb.out, hlv]; simp
                    have HNX := Lib.hid hnext; clear hnext hx hlv
                    cases fb with
                    | true =>
                      go_wp2
                      go_round
                      case rel => exact ⟨j + 1, true, by omega, by go_num, rfl, by simp only [Hid]; rw [HNX.out]; rfl⟩
                      case measure => simp [intOf]; omega
                    | false =>
                      go_wp2
                      go_round
                      case rel => exact ⟨j + 1, decide (lv < (rs.length : Int)), by omega, by go_num, rfl, by simp only [Hid]; rw [HNX.out]; rfl⟩
                      case measure => simp [intOf]; omega
                  · have hfull : fb = true := by
                      have h1 := hfb.out
                      rw [List.take_of_length_le (by omega)] at h1
                      obtain ⟨x, hx, hlt2, _⟩ := HEND.out.neck k hlt
                      rw [HWK.out] at hx
                      obtain ⟨z, hz, rfl⟩ := List.mem_map.1 hx
                      have h2 := many_le HW.out z.toNat
                      rw [h1, List.any_eq_true]
                      exact ⟨z, hz, by simp; omega⟩
                    subst hfull
                    go_wp2
                    go_round
                    case rel => exact ⟨k + 1, by omega, by go_num⟩
                    case measure => simp [intOf]; omega
              · go_wp2
                go_ret
                exact ⟨rfl, HBW.out⟩
  · have HC := Lib.hid hc; clear hc
    have H0 := Lib.hid hc0; clear hc0
    go_enter Try.func3, Try.ntmps3
    go_wp2_with fail
    refine (mmFact_any _).mono ?_
    rintro e w1 ⟨rfl, hb⟩
    have HB := Lib.hid hb; clear hb
    go_wp2_with fail
    refine (mmShare_err _ _ _ room _ _ _ _ rs c _ (HM.out.below HB.out) rfl (by omega) (HA.out.below HB.out) (HR.out.below HB.out) rfl (by omega) HC.out H0.out).mono ?_
    rintro e w' ⟨rfl, rfl⟩
    go_wp2
    go_ret
    exact ⟨rfl, HB.out⟩
end Go.Proofs.Ytciolkmhafdlpaa
