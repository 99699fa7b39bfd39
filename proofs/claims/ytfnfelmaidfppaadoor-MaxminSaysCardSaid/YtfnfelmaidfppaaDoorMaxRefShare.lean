/- ferryhytheref3.Share: what the reference gives is what the plain text says. -/
import Derived.Test.YtfnfelmaidfppaaDoorMaxRefPlain
import Derived.Test.YtfnfelmaidfppaaDoorMaxShare
import Derived.Test.YtfnfelmaidfppaaDoorSetR
import Derived.Deep.RegionLaw
import Derived.BigQuiet
import Derived.BigRegion
namespace Go.Proofs.YtfnfelmaidfppaaDoor
open Go.RowKit
set_option linter.unusedVariables false
set_option maxRecDepth 100000

theorem made_arrM (g n : Nat) (e : TypeId) : Ent.row (.slice (some ⟨g, 0, none⟩) n n) n 1 e (madeCells #[.int .i64 0] n).toList = Ent.ints e (.slice (some ⟨g, 0, none⟩) n n) (arr (fun _ => ((0 : Nat) : Int)) n) := by
  unfold Ent.ints
  rw [arr_len, ← arr_const, madeInts]; rfl
abbrev shR (g n : Nat) (f : Nat → Bool) : Ent := Ent.row (.slice (some ⟨g, 0, none⟩) n n) n 1 4 (arr (fun i => .bool (f i)) n)
abbrev haR (g n : Nat) (f : Nat → Nat) : Ent := Ent.ints 3 (.slice (some ⟨g, 0, none⟩) n n) (arr (fun i => ((f i : Nat) : Int)) n)
abbrev leR (gl ol M cl : Nat) (f : Nat → Int) : Ent := Ent.ints 3 (.slice (some ⟨gl, ol, none⟩) M cl) (arr f M)
theorem shR_congr (g : Nat) {n : Nat} {f f' : Nat → Bool} (h : ∀ i, i < n → f i = f' i) : shR g n f = shR g n f' := by
  unfold shR
  rw [show arr (fun i => Value.bool (f i)) n = arr (fun i => Value.bool (f' i)) n from arr_congr fun i hi => by rw [h i hi]]
theorem haR_congr (g : Nat) {n : Nat} {f f' : Nat → Nat} (h : ∀ i, i < n → f i = f' i) : haR g n f = haR g n f' := by
  unfold haR
  rw [show arr (fun i => ((f i : Nat) : Int)) n = arr (fun i => ((f' i : Nat) : Int)) n from arr_congr fun i hi => by rw [h i hi]]
theorem left_start (room : List Int) : (room ++ [0, 0]).set room.length 0 = arr (roomOf room) (room.length + 2) := by
  have hl : ((room ++ [0, 0]).set room.length 0).length = room.length + 2 := by simp
  rw [← hl]
  refine arr_of _ _ fun i x h => ?_
  rw [List.getElem?_set] at h
  unfold roomOf
  rw [List.getD_eq_getElem?_getD]
  by_cases h1 : i < room.length
  · rw [if_neg (by omega), List.getElem?_append_left h1] at h
    rw [h]; rfl
  · rw [List.getElem?_eq_none (by omega)]
    by_cases h2 : room.length = i
    · rw [if_pos h2] at h
      simp at h
      exact h
    · rw [if_neg h2] at h
      have h3 : i = room.length + 1 := by
        have := (List.getElem?_eq_some_iff.1 h).1
        simp at this; omega
      subst h3
      rw [List.getElem?_append_right (by omega)] at h
      simp at h
      exact h
def leftP (W : Nat → List Nat) (room : Nat → Int) (s : MS) (k x : Nat) : Int := room x - ((usedP W (nOf s) k x : Nat) : Int)
def leftJ (W : Nat → List Nat) (room : Nat → Int) (s : MS) (k j x : Nat) : Int := room x - ((usedJ W (nOf s) k j x : Nat) : Int)
theorem leftJ_step {W : Nat → List Nat} {room : Nat → Int} {s : MS} {k j y : Nat} (ht : (W k).take (j + 1) = (W k).take j ++ [y]) (x : Nat) : (if x = y then leftJ W room s k j y - (nOf s k : Int) else leftJ W room s k j x) = leftJ W room s k (j + 1) x := by
  unfold leftJ
  rw [usedJ_step ht x]
  by_cases e : x = y
  · rw [if_pos e, if_pos e, e]; push_cast; omega
  · rw [if_neg e, if_neg e]
theorem leftJ_zero (W : Nat → List Nat) (room : Nat → Int) (s : MS) (k x : Nat) : leftJ W room s k 0 x = leftP W room s k x := by unfold leftJ leftP; rw [usedJ_zero]
theorem leftJ_end {W : Nat → List Nat} {room : Nat → Int} {s : MS} {k j : Nat} (hj : (W k).length ≤ j) (x : Nat) : leftJ W room s k j x = leftP W room s (k + 1) x := by unfold leftJ leftP; rw [usedJ_end hj]
theorem leftP_all (n : Nat) (W : Nat → List Nat) (room : Nat → Int) (s : MS) (x : Nat) : leftP W room s n x = leftAll n W room s x := rfl
set_option maxHeartbeats 8000000 in
theorem refShare_ok (ro : Option Addr) (rl rc : Nat) (room : List Int) (ao : Option Addr) (len ac B0 : Nat) (rs : List Stp) (w : World) (hM : IntSl B0 w ro room) (hrl : rl = room.length)
    (hA : RowSl B0 w ao 1 (rs.map stpC)) (hr : StpsOk B0 w rs) (hlen : len = rs.length) (hB : B0 ≤ w.heap.size) (hok : MmOk room (rowsOf rs)) :
    Calls Tryd.prog 7 #[.slice ro rl rc, .slice ao len ac] w fun e w' => ∃ va, e = .returned va ∧ Sep w.heap.size w' [Ent.ints 3 va (mmOut room (rowsOf rs))] ∧ Below w.heap.size w w' := by
  subst hlen hrl
  have hm6 := hok.links
  have hn5 : rs.length ≤ 5 := by rw [← rowsOf_len]; exact hok.few
  have HM := Lib.hid hM; clear hM
  have HA := Lib.hid hA; clear hA
  have HR := Lib.hid hr; clear hr
  have HOK := Lib.hid hok; clear hok
  obtain ⟨g, hg⟩ : ∃ g, g = w.heap.size := ⟨_, rfl⟩
  have hBg : B0 ≤ g := by omega
  have hgw : g ≤ w.heap.size := by omega
  have HS0 := Lib.hid (Sep.nil g w)
  have HG := Lib.hid hg; clear hg
  obtain ⟨W, hWe⟩ : ∃ W, W = wayOf (rowsOf rs) := ⟨_, rfl⟩
  have hwok := HOK.out.wok
  rw [rowsOf_len, ← hWe] at hwok
  have HW := Lib.hid hwok
  have HWE := Lib.hid hWe
  obtain ⟨fin, hfin⟩ : ∃ fin, fin = mmShare rs.length W (roomOf room) := ⟨_, rfl⟩
  have HFIN := Lib.hid hfin
  clear hwok hWe hfin
  obtain ⟨M, hM2⟩ : ∃ M, M = room.length + 2 := ⟨_, rfl⟩
  have hM0 : 0 < M := by omega
  go_enter Tryd.func7, Tryd.ntmps7
  go_wp2_with (at_make; refine wpList_make_sep rfl _ _ rfl elemInt8 .i64 .i64 rs.length rs.length rs.length rfl rfl rfl rfl (by omega) (by unfold maxLen; omega) HS0.out hgw ?_)
  intro w1 hs1 hb1 hz1
  rw [← HG.out] at hs1 hz1 ⊢
  rw [made_arrM] at hs1
  have HS1 := Lib.hid hs1
  have HB1 := Lib.hid (hb1.mono hgw)
  have hg1 : g ≤ w1.heap.size := by omega
  clear hs1 hb1 hgw
  go_wp2_with (at_make; refine wpList_make_sep rfl _ _ rfl elemB .i64 .i64 rs.length rs.length rs.length rfl rfl rfl rfl (by omega) (by unfold maxLen; omega) HS1.out hg1 ?_)
  intro w2 hs2 hb2 _
  have e1 : (madeCells #[Value.bool false] rs.length).toList = arr (fun i => Value.bool (!(mmStart (roomOf room)).op i)) rs.length := by
    rw [madeOne, arr_const]; rfl
  rw [e1] at hs2
  have HS2 : Hid (Sep g w2 [shR (g + 1) rs.length (fun i => !(mmStart (roomOf room)).op i), haR g rs.length (mmStart (roomOf room)).out]) := Lib.hid hs2
  have HB2 := Lib.hid (HB1.out.trans (hb2.mono (Nat.le_succ g)))
  clear hs2 hb2 e1 hz1 hg1
  go_wp2
  go_loopg [] 1006 (fun gk wr => ∃ (s : MS) (t : Nat), Hid (MInv rs.length room.length W (roomOf room) s t) ∧ pot rs.length s t ≤ gk ∧ Hid (mmRun rs.length W gk s = fin) ∧ Sep g wr [shR (g + 1) rs.length (fun i => !s.op i), haR g rs.length s.out] ∧ Below g w wr)
  case atStart =>
    refine ⟨mmStart (roomOf room), 0, MInv.start _ _ _ _ fun x hx => (HOK.out.room_bd x hx).1, ?_, HFIN.out.symm, HS2.out, HB2.out⟩
    have := opens_le rs.length (mmStart (roomOf room))
    unfold pot; omega
  case round =>
    obtain ⟨go, rfl⟩ : ∃ go, go = gk := ⟨_, rfl⟩
    obtain ⟨s, t, hinv, hpot, hrun, hsep, hbel⟩ := hrel
    have HS3 := Lib.hid hsep; clear hsep
    have HB3 := Lib.hid hbel; clear hbel
    have HPOT := Lib.hid hpot; clear hpot
    have hg3 : g ≤ wr.heap.size := by have := HB3.out.size; rw [← HG.out] at this; exact this
    clear HS2 HB2
    go_wp2_with fail
    refine (behind_any ro room.length rc B0 room 0 _ (HM.out.below (HB3.out.mono hBg)) rfl (Nat.le_trans hBg hg3) (by omega)).mono ?_
    rintro e w4 ⟨v4, rfl, hs, hb⟩
    have hj := Sep.join HS3.out hg3 hb hs
    obtain ⟨a4, c4, rfl, -⟩ := Sep.intsShape (A := []) hj
    have HS4 : Hid (Sep g w4 (Ent.ints 3 (.slice a4 (room ++ [0]).length c4) (room ++ [0]) :: [shR (g + 1) rs.length (fun i => !s.op i), haR g rs.length s.out])) := Lib.hid hj
    obtain ⟨n4, hn4⟩ : ∃ n4, n4 = (room ++ [0]).length := ⟨_, rfl⟩
    rw [← hn4] at HS4 ⊢
    have HB4 := Lib.hid (HB3.out.trans (hb.mono hg3))
    have hg4 : g ≤ w4.heap.size := Nat.le_trans hg3 hb.size
    have hln : (room ++ [0]).length ≤ 1000000000 := by simp; omega
    have HLN := Lib.hid hln
    clear hs hb hj hn4 hln HS3 HB3
    go_wp2_with (at_builtin; refine wpList_append_int (A := []) rfl (.tmp 23) (.tmp 24) rfl elemInt8 rfl HS4.out hg4 rfl HLN.out ?_)
    intro v5 w5 hs hb
    obtain ⟨a5, c5, rfl, -⟩ := Sep.intsShape (A := []) hs
    obtain ⟨n5, hn5'⟩ : ∃ n5, n5 = (room ++ [0, 0]).length := ⟨_, rfl⟩
    have hi5 : IntSl w5.heap.size w5 a5 (room ++ [0, 0]) := Sep.intSl (A := []) hs
    rw [← hn5'] at hs ⊢
    have HS5 := Lib.hid (Sep.sub hs (List.sublist_cons_self _ _))
    have HB5 := Lib.hid (HB4.out.trans hb)
    have hg5 : g ≤ w5.heap.size := Nat.le_trans hg4 hb.size
    have HI5 := Lib.hid hi5
    have HN5 := Lib.hid hn5'
    clear hs hb hi5 hn5' HS4 HB4 hg4
    go_wp2_with fail
    refine (set_any a5 n5 c5 _ room.length (room ++ [0, 0]) 0 _ HI5.out HN5.out (Nat.le_refl _) (by simp) (by simp; omega)).mono ?_
    rintro e w6 ⟨v6, rfl, hs, hb⟩
    rw [left_start, ← hM2] at hs
    have hj := Sep.join HS5.out hg5 hb hs
    obtain ⟨a6, cl, rfl, -⟩ := Sep.intsShape (A := []) hj
    rw [arr_len] at hj ⊢
    obtain ⟨gl, ol, rfl, -⟩ := arrI_at (A := []) hj hM0
    have HS6 : Hid (Sep g w6 [leR gl ol M cl (leftP W (roomOf room) s 0), shR (g + 1) rs.length (fun i => !s.op i), haR g rs.length s.out]) := Lib.hid (by
      rw [show leftP W (roomOf room) s 0 = roomOf room from funext fun x => by simp [leftP, usedP, psum]]
      exact hj)
    have HB6 := Lib.hid (HB5.out.trans (hb.mono hg5))
    clear hs hb hj HS5 HB5 hg5 HI5 HN5
    go_wp2
    go_loopg [8] rs.length (fun gk iv wr => ∃ k : Nat, gk + k = rs.length ∧ iv = .int .i64 k ∧ Sep g wr [leR gl ol M cl (leftP W (roomOf room) s k), shR (g + 1) rs.length (fun i => !s.op i), haR g rs.length s.out] ∧ Below g w wr)
    case atStart => exact ⟨0, by omega, rfl, HS6.out, HB6.out⟩
    case round =>
      obtain ⟨gi, rfl⟩ : ∃ gi, gi = gk := ⟨_, rfl⟩
      obtain ⟨k, hgi, rfl, hs, hb⟩ := hrel
      have HS7 := Lib.hid hs
      have HB7 := Lib.hid hb
      clear hs hb HS6 HB6
      by_cases hlt : k < rs.length
      · have hki : (k : Int) < (rs.length : Int) := by omega
        have hk0 : (0 : Int) ≤ (k : Int) := by omega
        obtain ⟨⟨ra, rc', xs⟩, hrk⟩ : ∃ r, rs[k]? = some r := ⟨_, List.getElem?_eq_getElem hlt⟩
        obtain ⟨b, off, rfl, hbb, c0⟩ := rows_at (HA.out.below (HB7.out.mono hBg)) hrk
        obtain ⟨hi, hrl, hrm2⟩ := HR.out _ (List.mem_iff_getElem?.2 ⟨k, hrk⟩)
        have hwk := wayOf_get (rowsOf_get hrk)
        have hxm := HOK.out.each xs (List.mem_iff_getElem?.2 ⟨k, rowsOf_get hrk⟩)
        simp only at hi hrl hrm2 c0 hwk
        unfold maxLen at hrm2
        rw [← HWE.out] at hwk
        have HI := Lib.hid hi; clear hi
        have HWK := Lib.hid hwk; clear hwk
        have HXM := Lib.hid hxm.2.1; clear hxm
        have HRK := Lib.hid hrk; clear hrk
        obtain ⟨_, _, he, -, d1, -⟩ := arrI_at (A := [_, _]) (C := []) HS7.out hlt
        simp only [Option.some.injEq, Addr.mk.injEq, and_true] at he
        obtain ⟨rfl, rfl⟩ := he
        simp only [Nat.zero_add] at d1
        obtain ⟨ov, hov⟩ : ∃ ov, ov = s.out k := ⟨_, rfl⟩
        rw [← hov] at d1
        have hovb : ov ≤ 1000 := by rw [hov]; exact hinv.out.out_le HW.out (fun x hx => (HOK.out.room_bd x hx).2) hlt
        obtain ⟨d2, -, -⟩ := arrB_at (A := [_]) (C := [_]) HS7.out hlt
        cases ho : s.op k with
        | true =>
          rw [ho] at d2
          have d3 : wr.cell? ⟨g + 1, k, none⟩ = some (.bool false) := d2
          have HNV := Lib.hid (show ((ov : Int) + 1) = ((nOf s k : Nat) : Int) by unfold nOf; rw [if_pos ho, hov]; rfl)
          clear d2 ho hov
          go_wp2
          clear c0
          go_loopg [10] xs.length (fun gk iv wr => ∃ j : Nat, gk + j = xs.length ∧ iv = .int .i64 j ∧ Sep g wr [leR gl ol M cl (leftJ W (roomOf room) s k j), shR (g + 1) rs.length (fun i => !s.op i), haR g rs.length s.out] ∧ Below g w wr)
          case atStart => exact ⟨0, by omega, rfl, by rw [show leftJ W (roomOf room) s k 0 = leftP W (roomOf room) s k from funext fun x => leftJ_zero _ _ _ _ _]; exact HS7.out, HB7.out⟩
          case round =>
            obtain ⟨gj, rfl⟩ : ∃ gj, gj = gk := ⟨_, rfl⟩
            obtain ⟨j, hgj, rfl, hs, hb⟩ := hrel
            have HS8 := Lib.hid hs
            have HB8 := Lib.hid hb
            clear hs hb
            obtain ⟨b', off', he, hbb, c0⟩ := rows_at (HA.out.below (HB8.out.mono hBg)) HRK.out
            simp only [Option.some.injEq, Addr.mk.injEq, and_true] at he
            obtain ⟨rfl, rfl⟩ := he
            simp only at c0
            by_cases hjl : j < xs.length
            · have hji : (j : Int) < (xs.length : Int) := by omega
              have hj0 : (0 : Int) ≤ (j : Int) := by omega
              obtain ⟨x, hx⟩ : ∃ x, xs[j]? = some x := ⟨_, List.getElem?_eq_getElem hjl⟩
              obtain ⟨b2, o4, rfl, _, cx⟩ := (HI.out.below (HB8.out.mono hBg)) j x hx
              have hxb := HXM.out x (List.mem_iff_getElem?.2 ⟨j, hx⟩)
              obtain ⟨y, rfl⟩ := Int.eq_ofNat_of_zero_le hxb.1
              have hym : y < room.length := by omega
              have hyM : y < M := by omega
              have hyI : (y : Int) < (M : Int) := by omega
              have hy0 : (0 : Int) ≤ (y : Int) := by omega
              have htk : (W k).take (j + 1) = (W k).take j ++ [y] := by
                rw [HWK.out, List.take_add_one, List.getElem?_map, hx]; rfl
              obtain ⟨g2, o3, he, hgg2, n1, n2, nset⟩ := arrI_at (A := []) HS8.out hyM
              simp only [Option.some.injEq, Addr.mk.injEq, and_true] at he
              obtain ⟨rfl, rfl⟩ := he
              obtain ⟨lv, hlv⟩ : ∃ lv, lv = leftJ W (roomOf room) s k j y := ⟨_, rfl⟩
              rw [← hlv] at n1
              have hlvb : -20000 ≤ lv ∧ lv ≤ 2000 := by
                have h1 := usedJ_le HW.out (out := nOf s) (b := 1001) (fun i hi => nOf_le HW.out hinv.out (fun x hx => (HOK.out.room_bd x hx).2) hi) hlt j y
                have h2 := HOK.out.room_bd y hym
                have h3 := Nat.mul_le_mul_right 1001 hn5
                rw [hlv]; unfold leftJ; omega
              have hset := nset (lv - ((ov : Int) + 1))
              have hfun : arr (fun i => if i = y then lv - ((ov : Int) + 1) else leftJ W (roomOf room) s k j i) M = arr (leftJ W (roomOf room) s k (j + 1)) M := arr_congr fun x _ => by
                rw [← leftJ_step htk x, HNV.out, hlv]
              rw [hfun] at hset
              have HSET2 := Lib.hid hset.drew
              have HBS2 := Lib.hid ((HB8.out.setCell (p := ⟨gl, ol + y, none⟩) hgg2 (.int .i64 (lv - ((ov : Int) + 1)))).drew)
              clear hset hfun nset htk hx hlv hxb
              go_upto_region 13 with fail
              go_region
              all_goals
                go_wp2
                go_roundg (gj - 1)
                case measure => omega
                case rel => exact ⟨j + 1, by omega, by go_num, HSET2.out, HBS2.out⟩
            · have hji : decide ((j : Int) < (xs.length : Int)) = false := decide_eq_false (by omega)
              have hs9 := HS8.out
              rw [show leftJ W (roomOf room) s k j = leftP W (roomOf room) s (k + 1) from funext fun x => leftJ_end (by rw [HWK.out, List.length_map]; omega) x] at hs9
              have HS9 := Lib.hid hs9; clear hs9
              go_wp2
              go_roundg (gi - 1)
              case measure => omega
              case rel => exact ⟨k + 1, by omega, by go_num, HS9.out, HB8.out⟩
        | false =>
          rw [ho] at d2
          have d3 : wr.cell? ⟨g + 1, k, none⟩ = some (.bool true) := d2
          have HNV := Lib.hid (show (ov : Int) = ((nOf s k : Nat) : Int) by unfold nOf; rw [ho, hov]; simp)
          clear d2 ho hov
          go_wp2
          clear c0
          go_loopg [10] xs.length (fun gk iv wr => ∃ j : Nat, gk + j = xs.length ∧ iv = .int .i64 j ∧ Sep g wr [leR gl ol M cl (leftJ W (roomOf room) s k j), shR (g + 1) rs.length (fun i => !s.op i), haR g rs.length s.out] ∧ Below g w wr)
          case atStart => exact ⟨0, by omega, rfl, by rw [show leftJ W (roomOf room) s k 0 = leftP W (roomOf room) s k from funext fun x => leftJ_zero _ _ _ _ _]; exact HS7.out, HB7.out⟩
          case round =>
            obtain ⟨gj, rfl⟩ : ∃ gj, gj = gk := ⟨_, rfl⟩
            obtain ⟨j, hgj, rfl, hs, hb⟩ := hrel
            have HS8 := Lib.hid hs
            have HB8 := Lib.hid hb
            clear hs hb
            obtain ⟨b', off', he, hbb, c0⟩ := rows_at (HA.out.below (HB8.out.mono hBg)) HRK.out
            simp only [Option.some.injEq, Addr.mk.injEq, and_true] at he
            obtain ⟨rfl, rfl⟩ := he
            simp only at c0
            by_cases hjl : j < xs.length
            · have hji : (j : Int) < (xs.length : Int) := by omega
              have hj0 : (0 : Int) ≤ (j : Int) := by omega
              obtain ⟨x, hx⟩ : ∃ x, xs[j]? = some x := ⟨_, List.getElem?_eq_getElem hjl⟩
              obtain ⟨b2, o4, rfl, _, cx⟩ := (HI.out.below (HB8.out.mono hBg)) j x hx
              have hxb := HXM.out x (List.mem_iff_getElem?.2 ⟨j, hx⟩)
              obtain ⟨y, rfl⟩ := Int.eq_ofNat_of_zero_le hxb.1
              have hym : y < room.length := by omega
              have hyM : y < M := by omega
              have hyI : (y : Int) < (M : Int) := by omega
              have hy0 : (0 : Int) ≤ (y : Int) := by omega
              have htk : (W k).take (j + 1) = (W k).take j ++ [y] := by
                rw [HWK.out, List.take_add_one, List.getElem?_map, hx]; rfl
              obtain ⟨g2, o3, he, hgg2, n1, n2, nset⟩ := arrI_at (A := []) HS8.out hyM
              simp only [Option.some.injEq, Addr.mk.injEq, and_true] at he
              obtain ⟨rfl, rfl⟩ := he
              obtain ⟨lv, hlv⟩ : ∃ lv, lv = leftJ W (roomOf room) s k j y := ⟨_, rfl⟩
              rw [← hlv] at n1
              have hlvb : -20000 ≤ lv ∧ lv ≤ 2000 := by
                have h1 := usedJ_le HW.out (out := nOf s) (b := 1001) (fun i hi => nOf_le HW.out hinv.out (fun x hx => (HOK.out.room_bd x hx).2) hi) hlt j y
                have h2 := HOK.out.room_bd y hym
                have h3 := Nat.mul_le_mul_right 1001 hn5
                rw [hlv]; unfold leftJ; omega
              have hset := nset (lv - ((ov : Int)))
              have hfun : arr (fun i => if i = y then lv - ((ov : Int)) else leftJ W (roomOf room) s k j i) M = arr (leftJ W (roomOf room) s k (j + 1)) M := arr_congr fun x _ => by
                rw [← leftJ_step htk x, HNV.out, hlv]
              rw [hfun] at hset
              have HSET2 := Lib.hid hset.drew
              have HBS2 := Lib.hid ((HB8.out.setCell (p := ⟨gl, ol + y, none⟩) hgg2 (.int .i64 (lv - ((ov : Int))))).drew)
              clear hset hfun nset htk hx hlv hxb
              go_upto_region 13 with fail
              go_region
              all_goals
                go_wp2
                go_roundg (gj - 1)
                case measure => omega
                case rel => exact ⟨j + 1, by omega, by go_num, HSET2.out, HBS2.out⟩
            · have hji : decide ((j : Int) < (xs.length : Int)) = false := decide_eq_false (by omega)
              have hs9 := HS8.out
              rw [show leftJ W (roomOf room) s k j = leftP W (roomOf room) s (k + 1) from funext fun x => leftJ_end (by rw [HWK.out, List.length_map]; omega) x] at hs9
              have HS9 := Lib.hid hs9; clear hs9
              go_wp2
              go_roundg (gi - 1)
              case measure => omega
              case rel => exact ⟨k + 1, by omega, by go_num, HS9.out, HB8.out⟩
      · have hki : decide ((k : Int) < (rs.length : Int)) = false := decide_eq_false (by omega)
        have hkn : k = rs.length := by omega
        have hs9 := HS7.out
        rw [hkn, show leftP W (roomOf room) s rs.length = leftAll rs.length W (roomOf room) s from rfl] at hs9
        have HS9 := Lib.hid hs9
        clear hs9 hkn HS7
        go_wp2
        go_loopg [11, 12, 13] rs.length (fun gk sv ov iv wr => ∃ k : Nat, gk + k = rs.length ∧ sv = .bool (anyT rs.length W s k) ∧ ov = .bool (openTo s k) ∧ iv = .int .i64 k ∧ Sep g wr [leR gl ol M cl (leftAll rs.length W (roomOf room) s), shR (g + 1) rs.length (shutK rs.length W s k), haR g rs.length s.out] ∧ Below g w wr)
        case atStart =>
          refine ⟨0, by omega, by simp [anyT], by simp [openTo], rfl, ?_, HB7.out⟩
          rw [show shutK rs.length W s 0 = fun i => !s.op i from funext fun i => by unfold shutK; rw [if_neg (by omega)]]
          exact HS9.out
        case round =>
          obtain ⟨gi, rfl⟩ : ∃ gi, gi = gk := ⟨_, rfl⟩
          obtain ⟨k, hgi, rfl, rfl, rfl, hs, hb⟩ := hrel
          have HS10 := Lib.hid hs
          have HB10 := Lib.hid hb
          clear hs hb HS9 HB7
          obtain ⟨sv, hsv⟩ : ∃ sv, sv = anyT rs.length W s k := ⟨_, rfl⟩
          obtain ⟨op, hop⟩ : ∃ op, op = openTo s k := ⟨_, rfl⟩
          rw [← hsv, ← hop]
          have HSV := Lib.hid hsv
          have HOP := Lib.hid hop
          clear hsv hop
          by_cases hlt : k < rs.length
          · have hki : (k : Int) < (rs.length : Int) := by omega
            have hk0 : (0 : Int) ≤ (k : Int) := by omega
            obtain ⟨d2, -, -⟩ := arrB_at (A := [_]) (C := [_]) HS10.out hlt
            have hsk : shutK rs.length W s k k = !s.op k := by unfold shutK; rw [if_neg (Nat.lt_irrefl k)]
            rw [hsk] at d2
            cases ho : s.op k with
            | false =>
              rw [ho] at d2
              have d3 : wr.cell? ⟨g + 1, k, none⟩ = some (.bool true) := d2
              have e1 : anyT rs.length W s (k + 1) = sv := by rw [anyT_succ, ho, HSV.out]; simp
              have e2 : openTo s (k + 1) = op := by rw [openTo_succ, ho, HOP.out]; simp
              have e3 : shutK rs.length W s (k + 1) = shutK rs.length W s k := funext fun i => by
                rw [shutK_start rs.length W s k i, shutK_next (by unfold closed; rw [ho]; rfl)]
              have E1 := Lib.hid e1
              have E2 := Lib.hid e2
              have E3 := Lib.hid e3
              clear e1 e2 e3 d2 ho hsk
              go_wp2
              go_roundg (gi - 1)
              case measure => omega
              case rel => exact ⟨k + 1, by omega, by rw [E1.out], by rw [E2.out], by go_num, by rw [E3.out]; exact HS10.out, HB10.out⟩
            | true =>
              rw [ho] at d2
              have d3 : wr.cell? ⟨g + 1, k, none⟩ = some (.bool false) := d2
              obtain ⟨⟨ra, rc', xs⟩, hrk⟩ : ∃ r, rs[k]? = some r := ⟨_, List.getElem?_eq_getElem hlt⟩
              obtain ⟨b, off, rfl, hbb, c0⟩ := rows_at (HA.out.below (HB10.out.mono hBg)) hrk
              obtain ⟨hi, hrl, hrm2⟩ := HR.out _ (List.mem_iff_getElem?.2 ⟨k, hrk⟩)
              have hwk := wayOf_get (rowsOf_get hrk)
              have hxm := HOK.out.each xs (List.mem_iff_getElem?.2 ⟨k, rowsOf_get hrk⟩)
              simp only at hi hrl hrm2 c0 hwk
              unfold maxLen at hrm2
              rw [← HWE.out] at hwk
              have HI := Lib.hid hi; clear hi
              have HWK := Lib.hid hwk; clear hwk
              have HXM := Lib.hid hxm.2.1; clear hxm
              have HRK := Lib.hid hrk; clear hrk
              have HO := Lib.hid ho
              have HS11 : Hid (Sep g wr [leR gl ol M cl (leftAll rs.length W (roomOf room) s), shR (g + 1) rs.length (shutF rs.length W s k (tightTo rs.length W s (W k) 0)), haR g rs.length s.out]) := Lib.hid (by
                rw [tightTo_zero]
                rw [show shutF rs.length W s k false = shutK rs.length W s k from funext fun i => by rw [shutK_start rs.length W s k i, ho]; rfl]
                exact HS10.out)
              clear d2 ho hsk HS10
              go_wp2
              clear c0 d3
              go_loopg [11, 14] xs.length (fun gk sw iv wr => ∃ j : Nat, gk + j = xs.length ∧ sw = .bool (sv || tightTo rs.length W s (W k) j) ∧ iv = .int .i64 j ∧ Sep g wr [leR gl ol M cl (leftAll rs.length W (roomOf room) s), shR (g + 1) rs.length (shutF rs.length W s k (tightTo rs.length W s (W k) j)), haR g rs.length s.out] ∧ Below g w wr)
              case atStart => exact ⟨0, by omega, by rw [tightTo_zero, Bool.or_false], rfl, HS11.out, HB10.out⟩
              case round =>
                obtain ⟨gj, rfl⟩ : ∃ gj, gj = gk := ⟨_, rfl⟩
                obtain ⟨j, hgj, rfl, rfl, hs, hb⟩ := hrel
                have HS12 := Lib.hid hs
                have HB12 := Lib.hid hb
                clear hs hb HS11 HB10
                obtain ⟨b', off', he, hbb, c0⟩ := rows_at (HA.out.below (HB12.out.mono hBg)) HRK.out
                simp only [Option.some.injEq, Addr.mk.injEq, and_true] at he
                obtain ⟨rfl, rfl⟩ := he
                simp only at c0
                obtain ⟨tj, htj⟩ : ∃ tj, tj = tightTo rs.length W s (W k) j := ⟨_, rfl⟩
                rw [← htj] at HS12 ⊢
                have HTJ := Lib.hid htj
                clear htj
                by_cases hjl : j < xs.length
                · have hji : (j : Int) < (xs.length : Int) := by omega
                  have hj0 : (0 : Int) ≤ (j : Int) := by omega
                  obtain ⟨x, hx⟩ : ∃ x, xs[j]? = some x := ⟨_, List.getElem?_eq_getElem hjl⟩
                  obtain ⟨b2, o4, rfl, _, cx⟩ := (HI.out.below (HB12.out.mono hBg)) j x hx
                  have hxb := HXM.out x (List.mem_iff_getElem?.2 ⟨j, hx⟩)
                  obtain ⟨y, rfl⟩ := Int.eq_ofNat_of_zero_le hxb.1
                  have hym : y < room.length := by omega
                  have hyM : y < M := by omega
                  have hyI : (y : Int) < (M : Int) := by omega
                  have hy0 : (0 : Int) ≤ (y : Int) := by omega
                  have htk : (W k).take (j + 1) = (W k).take j ++ [y] := by
                    rw [HWK.out, List.take_add_one, List.getElem?_map, hx]; rfl
                  obtain ⟨g2, o3, he, hgg2, n1, n2, -⟩ := arrI_at (A := []) HS12.out hyM
                  simp only [Option.some.injEq, Addr.mk.injEq, and_true] at he
                  obtain ⟨rfl, rfl⟩ := he
                  obtain ⟨d4, d5, dset⟩ := arrB_at (A := [_]) (C := [_]) HS12.out hlt
                  have hll := left_less hinv.out hym
                  have hts := tightTo_succ (n := rs.length) (W := W) (s := s) htk
                  rw [← HTJ.out, ← hll] at hts
                  obtain ⟨lv, hlv⟩ : ∃ lv, lv = leftAll rs.length W (roomOf room) s y := ⟨_, rfl⟩
                  rw [← hlv] at n1 hts
                  by_cases hneg : lv < 0
                  · rw [decide_eq_true hneg, Bool.or_true] at hts
                    have hset := dset true
                    rw [show (arr (fun i => Value.bool (if i = k then true else shutF rs.length W s k tj i)) rs.length) = arr (fun i => Value.bool (shutF rs.length W s k true i)) rs.length from arr_congr fun i _ => by rw [shutF_set]] at hset
                    have HSET := Lib.hid hset
                    have HBS := Lib.hid (HB12.out.setCell (p := ⟨g + 1, k, none⟩) (Nat.le_succ g) (.bool true))
                    have HTS := Lib.hid hts
                    clear hset dset hts hlv hll htk hx hxb
                    go_wp2
                    go_roundg (gj - 1)
                    case measure => omega
                    case rel => exact ⟨j + 1, by omega, by rw [HTS.out, Bool.or_true], by go_num, by rw [HTS.out]; exact HSET.out, HBS.out⟩
                  · have hnd : decide (lv < 0) = false := decide_eq_false hneg
                    rw [hnd, Bool.or_false] at hts
                    have HTS := Lib.hid hts
                    clear dset hts hlv hll htk hx hxb hneg d4 d5
                    go_wp2
                    go_roundg (gj - 1)
                    case measure => omega
                    case rel => exact ⟨j + 1, by omega, by rw [HTS.out], by go_num, by rw [HTS.out]; exact HS12.out, HB12.out⟩
                · have hji : decide ((j : Int) < (xs.length : Int)) = false := decide_eq_false (by omega)
                  have htt : tj = tight s.L (need rs.length W s.op) (W k) := by rw [HTJ.out]; exact tightTo_end (by rw [HWK.out, List.length_map]; omega)
                  have e1 : anyT rs.length W s (k + 1) = (sv || tj) := by rw [anyT_succ, HO.out, HSV.out, htt, Bool.true_and]
                  have e2 : openTo s (k + 1) = true := by rw [openTo_succ, HO.out, Bool.or_true]
                  have e3 : shutF rs.length W s k tj = shutK rs.length W s (k + 1) := funext fun i => shutK_next (by unfold closed; rw [HO.out, htt]; simp) i
                  have hs13 := HS12.out
                  rw [e3] at hs13
                  have HS13 := Lib.hid hs13
                  have E1 := Lib.hid e1
                  have E2 := Lib.hid e2
                  clear hs13 e1 e2 e3 htt
                  go_wp2
                  go_roundg (gi - 1)
                  case measure => omega
                  case rel => exact ⟨k + 1, by omega, by rw [E1.out], by rw [E2.out], by go_num, HS13.out, HB12.out⟩
          · have hki : decide ((k : Int) < (rs.length : Int)) = false := decide_eq_false (by omega)
            have hkn : k = rs.length := by omega
            have hsv' : sv = anyT rs.length W s rs.length := by rw [HSV.out, hkn]
            have hop' : op = anyOpen rs.length s := by rw [HOP.out, hkn]; rfl
            have hs14 := HS10.out
            rw [hkn] at hs14
            have HSV2 := Lib.hid hsv'
            have HOP2 := Lib.hid hop'
            have HS14 := Lib.hid hs14
            clear hs14 hsv' hop' hkn HS10 HSV HOP
            cases op with
            | false =>
              have hend : s = fin := by have := hrun.out; rwa [mmRun_stop HOP2.out.symm] at this
              have HE := Lib.hid hend
              clear hend
              go_wp2
              go_ret
              have hs15 := HS14.out.sub (L' := [haR g rs.length s.out]) ((((List.Sublist.refl _).cons _).cons _))
              refine ⟨_, rfl, ?_, by have h9 := HB10.out; rw [HG.out] at h9; exact h9⟩
              unfold mmOut
              rw [rowsOf_len, ← HWE.out, ← HFIN.out, ← HE.out, ← HG.out]
              exact hs15
            | true =>
              obtain ⟨t', hinv', hlt'⟩ := hinv.out.step HW.out (fun x hx => (HOK.out.room_bd x hx).2) HOP2.out.symm
              have hpot' := HPOT.out
              obtain ⟨go', rfl⟩ : ∃ go', go = go' + 1 := ⟨go - 1, by omega⟩
              have hrun' := hrun.out
              rw [mmRun_go HOP2.out.symm] at hrun'
              have HINV := Lib.hid hinv'
              have HPG := Lib.hid (show pot rs.length (mmStep rs.length W s) t' ≤ go' by omega)
              have HRUN := Lib.hid hrun'
              have hs15 := HS14.out
              rw [shR_congr (g + 1) (f := shutK rs.length W s rs.length) (f' := fun i => !(mmStep rs.length W s).op i) (fun i hi => shut_end hi)] at hs15
              have HS15 := Lib.hid (Sep.sub hs15 (List.sublist_cons_self _ _))
              clear hinv' hlt' hpot' hrun' hs15 HS14
              cases sv with
              | true =>
                have hs16 := HS15.out
                rw [← out_step_some HSV2.out.symm] at hs16
                have HS16 := Lib.hid hs16
                clear hs16
                obtain ⟨w9, hw9⟩ : ∃ w9, w9 = wr := ⟨_, rfl⟩
                obtain rfl := hw9
                go_wp2
                go_loopg [15] 0 (fun gk iv wr => iv = .int .i64 0 ∧ wr = w9)
                case atStart => exact ⟨rfl, rfl⟩
                case round =>
                  obtain ⟨rfl, hwx⟩ := hrel
                  subst hwx
                  by_cases hn0 : 0 < rs.length
                  · have hni : (0 : Int) < (rs.length : Int) := by omega
                    go_wp2
                    go_roundg go'
                    case measure => omega
                    case rel => exact ⟨_, t', HINV.out, HPG.out, HRUN.out, HS16.out, HB10.out⟩
                  · have hni : decide ((0 : Int) < (rs.length : Int)) = false := decide_eq_false (by omega)
                    have hniN : decide (0 < rs.length) = false := decide_eq_false hn0
                    go_wp2
                    go_roundg go'
                    case measure => omega
                    case rel => exact ⟨_, t', HINV.out, HPG.out, HRUN.out, HS16.out, HB10.out⟩
              | false =>
                have hopS : (mmStep rs.length W s).op = s.op := by unfold mmStep; rw [if_neg (by rw [← HSV2.out]; simp)]
                have HOPS := Lib.hid hopS
                clear hopS
                go_wp2
                go_loopg [15] rs.length (fun gk iv wr => ∃ k : Nat, gk + k = rs.length ∧ iv = .int .i64 k ∧ Sep g wr [shR (g + 1) rs.length (fun i => !(mmStep rs.length W s).op i), haR g rs.length (fun i => if i < k then nOf s i else s.out i)] ∧ Below g w wr)
                case atStart =>
                  refine ⟨0, by omega, rfl, ?_, HB10.out⟩
                  rw [show (fun i => if i < 0 then nOf s i else s.out i) = s.out from funext fun i => by rw [if_neg (by omega)]]
                  exact HS15.out
                case round =>
                  obtain ⟨gi, rfl⟩ : ∃ gi, gi = gk := ⟨_, rfl⟩
                  obtain ⟨k, hgi, rfl, hs, hb⟩ := hrel
                  have HS17 := Lib.hid hs
                  have HB17 := Lib.hid hb
                  clear hs hb HS15 HB10
                  by_cases hlt : k < rs.length
                  · have hki : (k : Int) < (rs.length : Int) := by omega
                    have hk0 : (0 : Int) ≤ (k : Int) := by omega
                    obtain ⟨d2, -, -⟩ := arrB_at (A := []) (C := [_]) HS17.out hlt
                    rw [HOPS.out] at d2
                    obtain ⟨_, _, he, -, n1, n2, nset⟩ := arrI_at (A := [_]) (C := []) HS17.out hlt
                    simp only [Option.some.injEq, Addr.mk.injEq, and_true] at he
                    obtain ⟨rfl, rfl⟩ := he
                    simp only [Nat.zero_add, Nat.lt_irrefl, if_false] at n1 n2 nset
                    obtain ⟨ov, hov⟩ : ∃ ov, ov = s.out k := ⟨_, rfl⟩
                    rw [← hov] at n1
                    have hovb : ov ≤ 1000 := by rw [hov]; exact hinv.out.out_le HW.out (fun x hx => (HOK.out.room_bd x hx).2) hlt
                    cases ho : s.op k with
                    | true =>
                      rw [ho] at d2
                      have d3 : wr.cell? ⟨g + 1, k, none⟩ = some (.bool false) := d2
                      have hset := nset ((ov : Int) + 1)
                      have e1 : arr (fun i => if i = k then (ov : Int) + 1 else (((if i < k then nOf s i else s.out i) : Nat) : Int)) rs.length = arr (fun i => (((if i < k + 1 then nOf s i else s.out i) : Nat) : Int)) rs.length := arr_congr fun i _ => by
                        by_cases e : i = k
                        · subst e; rw [if_pos rfl, if_pos (Nat.lt_succ_self i)]; unfold nOf; rw [if_pos ho, hov]; rfl
                        · rw [if_neg e]
                          by_cases e2 : i < k
                          · rw [if_pos e2, if_pos (show i < k + 1 by omega)]
                          · rw [if_neg e2, if_neg (show ¬ i < k + 1 by omega)]
                      rw [e1] at hset
                      have HSET := Lib.hid hset
                      have HBS := Lib.hid (HB17.out.setCell (p := ⟨g, k, none⟩) (Nat.le_refl g) (.int .i64 ((ov : Int) + 1)))
                      clear hset e1 nset hov ho d2
                      go_wp2
                      go_roundg (gi - 1)
                      case measure => omega
                      case rel => exact ⟨k + 1, by omega, by go_num, HSET.out, HBS.out⟩
                    | false =>
                      rw [ho] at d2
                      have d3 : wr.cell? ⟨g + 1, k, none⟩ = some (.bool true) := d2
                      have e1 : haR g rs.length (fun i => if i < k then nOf s i else s.out i) = haR g rs.length (fun i => if i < k + 1 then nOf s i else s.out i) := haR_congr g fun i _ => by
                        by_cases e : i = k
                        · subst e; rw [if_neg (Nat.lt_irrefl i), if_pos (Nat.lt_succ_self i)]; unfold nOf; rw [ho]; simp
                        · by_cases e2 : i < k
                          · rw [if_pos e2, if_pos (show i < k + 1 by omega)]
                          · rw [if_neg e2, if_neg (show ¬ i < k + 1 by omega)]
                      have hs18 := HS17.out
                      rw [e1] at hs18
                      have HS18 := Lib.hid hs18
                      clear hs18 e1 nset hov ho d2 n1 n2
                      go_wp2
                      go_roundg (gi - 1)
                      case measure => omega
                      case rel => exact ⟨k + 1, by omega, by go_num, HS18.out, HB17.out⟩
                  · have hki : decide ((k : Int) < (rs.length : Int)) = false := decide_eq_false (by omega)
                    have e1 : haR g rs.length (fun i => if i < k then nOf s i else s.out i) = haR g rs.length (mmStep rs.length W s).out := haR_congr g fun i hi => by rw [if_pos (by omega), out_step_none HSV2.out.symm]
                    have hs18 := HS17.out
                    rw [e1] at hs18
                    have HS18 := Lib.hid hs18
                    clear hs18 e1
                    go_wp2
                    go_roundg go'
                    case measure => omega
                    case rel => exact ⟨_, t', HINV.out, HPG.out, HRUN.out, HS18.out, HB17.out⟩
end Go.Proofs.YtfnfelmaidfppaaDoor
