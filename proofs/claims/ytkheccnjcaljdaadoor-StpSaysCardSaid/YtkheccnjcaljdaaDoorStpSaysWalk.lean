/- StpSays returns true: of any bridges and links the root of each one, how far it is, over which neighbour, and which links are used, are as the document says. -/
import Derived.Test.YtkheccnjcaljdaaDoorTold
import Derived.Test.YtkheccnjcaljdaaDoorLinksRef
import Derived.Test.YtkheccnjcaljdaaDoorHopRef
import Derived.Test.YtkheccnjcaljdaaDoorUsed
import Derived.Test.YtkheccnjcaljdaaDoorBoolsSame
import Derived.Test.YtkheccnjcaljdaaDoorInts
namespace Go.Proofs.YtkheccnjcaljdaaDoor
open Go.RowKit
set_option linter.unusedVariables false

theorem usedT_neg {L : List Lnk} {O : Nat → Int} {t : Nat} (h : O t < 0) : usedT L O (t + 1) = usedT L O t := by
  conv => lhs; unfold usedT
  exact if_pos h
theorem usedT_pos {L : List Lnk} {O : Nat → Int} {t : Nat} (h : ¬ O t < 0) : usedT L O (t + 1) = updf (usedT L O t) (bestOf L t (O t)).toNat true := by
  conv => lhs; unfold usedT
  exact if_neg h
theorem arr_grow {α : Type} (f : Nat → α) (n : Nat) : arr f n ++ [f n] = arr f (n + 1) := by unfold arr; rw [List.range_succ, List.map_append]; rfl
/-- The link that is marked at a bridge that is no root. -/
theorem best_mark {n : Nat} {L : List Lnk} (h : VOk n L) {i : Nat} (hi : i < n) (ho : ¬ overR n L i < 0) :
    ∃ (j kb : Nat) (x : Lnk), overR n L i = (j : Int) ∧ i ≠ j ∧ (bestOf L i (j : Int)).toNat = kb ∧ kb < L.length ∧ L[kb]? = some x ∧ Joins i j x ∧ x.2.2 = cst L i j ∧ ∀ k x', k < kb → L[k]? = some x' → Joins i j x' → x'.2.2 ≠ cst L i j := by
  rcases hop_root h.net h.n8 hi with ⟨h1, h2⟩ | ⟨h1, j, c, h2, h3, h4, h5, h6⟩
  · exact absurd h2 (by intro e; exact ho (by unfold overR; omega))
  · obtain ⟨k, x, b1, b2, b3, b4, b5, b6, b7⟩ := bestOf_edge h h4
    refine ⟨j, k, x, h2, (h.net.dom _ _ _ h4).2.2.1, by rw [b1, Int.toNat_natCast], (List.getElem?_eq_some_iff.1 b2).1, b2, b3, b5, fun k' x' hk hx' hj' => ?_⟩
    have := (b7 k' x' hx' hj').2 hk
    omega
set_option maxHeartbeats 8000000 in
set_option maxRecDepth 100000 in
theorem stpSays_walk (n : Int) (ao : Option Addr) (ac : Nat) (L : List Lnk) (w : World) (hdoor : Door w) (hnb : -9223372036854775808 ≤ n ∧ n ≤ 9223372036854775807) (hA : RowSl w.heap.size w ao 3 (L.map lnkC)) (hac : L.length ≤ ac) (hmax : ac ≤ maxLen) (hgood : ∀ x ∈ L, LnkGood x) :
    Calls Tryd.prog 4 #[.int .i64 n, .slice ao L.length ac] w fun e w' => e = .returned (.bool true) ∧ Below w.heap.size w w' := by
  unfold maxLen at hmax
  have HA := Lib.hid hA; clear hA hgood
  have HD := Lib.hid hdoor; clear hdoor
  obtain ⟨g, hg⟩ : ∃ g, g = w.heap.size := ⟨_, rfl⟩
  rw [← hg] at HA
  have HG := Lib.hid hg; clear hg
  have hdoor' : ∀ w', Below g w w' → Door w' := fun w' h => HD.out.below h (by rw [HG.out]; exact HD.out.pos)
  have HDOOR := Lib.hid hdoor'; clear hdoor' HD
  have hci : Tryd.prog.cellsOf 3 = 1 := by kernel_rfl
  obtain ⟨c, hc⟩ : ∃ c, c = vCode n L := ⟨_, rfl⟩
  have HREF := Lib.hid (linksRef_any n ao _ ac _ L w HA.out rfl (by omega) (Nat.le_of_eq HG.out))
  by_cases hc0 : c = 0
  · obtain ⟨m, rfl, hok⟩ := vCode_zero.1 (hc.symm.trans hc0)
    have hc' : vCode (m : Int) L = 0 := by rw [← hc, hc0]
    rw [hc'] at HREF
    clear hc hc0 hc'
    have hn8 := hok.n8
    have hn1 := hok.n1
    have hl32 := hok.few
    have HOK := Lib.hid hok; clear hok
    obtain ⟨E, hE⟩ : ∃ E, E = edges L := ⟨_, rfl⟩
    obtain ⟨O, hO⟩ : ∃ O, O = overR m L := ⟨_, rfl⟩
    have HE := Lib.hid hE
    have HO := Lib.hid hO
    clear hE hO
    go_enter Tryd.func4, Tryd.ntmps4
    go_wp2_with fail
    refine HREF.out.mono ?_
    rintro e w1 ⟨rfl, hb⟩
    have HB1 := Lib.hid (show Below g w w1 by rw [HG.out]; exact hb); clear hb HREF
    have hg1 : g ≤ w1.heap.size := by have := HB1.out.size; rw [← HG.out] at this; exact this
    have HN1 := Lib.hid (Sep.nil g w1)
    go_wp2_with (at_make; refine wpList_make_sep rfl _ _ rfl elemB .i64 .i64 0 0 0 rfl rfl rfl rfl (by omega) (by unfold maxLen; omega) HN1.out hg1 ?_)
    intro w2 _ hb hsz
    have HB2 := Lib.hid (HB1.out.trans (hb.mono hg1))
    have hg2 : g ≤ w2.heap.size := by have := HB2.out.size; rw [← HG.out] at this; exact this
    have HN2 := Lib.hid (Sep.nil g w2)
    clear hb hsz
    go_wp2_with (at_make; refine wpList_make_sep rfl _ _ rfl elemB .i64 .i64 L.length L.length L.length rfl rfl rfl rfl (by omega) (by unfold maxLen; omega) HN2.out hg2 ?_)
    intro w3 hs hb hsz
    obtain ⟨gd, hgd⟩ : ∃ gd, gd = w2.heap.size := ⟨_, rfl⟩
    rw [← hgd] at hs ⊢
    have hs3 : Sep g w3 [boolsE gd L.length (usedT L O 0)] := by
      unfold boolsE
      rw [show (fun k => Value.bool (usedT L O 0 k)) = (fun _ => Value.bool false) from rfl, ← madeF]
      simpa [Value.cells] using hs
    have hs4 := (((hs3.intsNil 3).intsNil 3).intsNil 3).perm (L' := [boolsE gd L.length (usedT L O 0), Ent.ints 3 (.slice none 0 0) [], Ent.ints 3 (.slice none 0 0) [], Ent.ints 3 (.slice none 0 0) []]) (List.perm_append_comm (l₁ := [_, _, _]) (l₂ := [_]))
    have HS3 := Lib.hid hs4
    have HB3 := Lib.hid (HB2.out.trans (hb.mono hg2))
    clear hs hb hsz hs3 hs4 hgd HN1 HN2
    go_wp2
    go_loopw [6, 7, 8, 10] (fun v1 v2 v3 iv wr => ∃ (i : Nat) (vr vf vo : Value), i ≤ m ∧ vr = v1 ∧ vf = v2 ∧ vo = v3 ∧ iv = .int .i64 i ∧ Sep g wr [boolsE gd L.length (usedT L O i), Ent.ints 3 vr (arr (fun i => (rootF m E i : Int)) i), Ent.ints 3 vf (arr (fun i => far E i (rootF m E i)) i), Ent.ints 3 vo (arr O i)] ∧ Below g w wr) (fun _ _ _ iv _ => m - (intOf iv).toNat)
    case atStart => exact ⟨0, _, _, _, Nat.zero_le _, rfl, rfl, rfl, rfl, HS3.out, HB3.out⟩
    case round =>
      obtain ⟨i, vr, vf, vo, hi, rfl, rfl, rfl, rfl, hsep, hbel⟩ := hrel
      have HS4 := Lib.hid hsep; clear hsep
      have HB4 := Lib.hid hbel; clear hbel
      clear HS3 HB3 HB2 HB1 hg1 hg2
      have hg4 : g ≤ wr.heap.size := by have := HB4.out.size; rw [← HG.out] at this; exact this
      by_cases hlt : i < m
      · have hii : (i : Int) < (m : Int) := by omega
        have hi0 : (0 : Int) ≤ (i : Int) := by omega
        go_wp2_with fail
        refine (farRef_ok m _ _ _ g L i _ (HA.out.below HB4.out) rfl hg4 HOK.out hlt).mono ?_
        rintro e w5 ⟨vd, rfl, hs, hb⟩
        rw [← HE.out] at hs
        obtain ⟨aq, cq, rfl, -⟩ := hs.intsShape (A := []) (C := [])
        rw [arr_len] at hs ⊢
        have hj := Sep.join HS4.out hg4 hb hs
        obtain ⟨gq, oq, rfl, -⟩ := arrI_at (A := []) hs hlt
        have HS5 := Lib.hid hj
        have HB5 := Lib.hid (HB4.out.trans (hb.mono hg4))
        have hg5 : g ≤ w5.heap.size := by have := HB5.out.size; rw [← HG.out] at this; exact this
        clear hs hb hj HS4 HB4 hg4
        obtain ⟨a1, a2, a3⟩ := rootF_spec HOK.out.net hlt
        rw [← HE.out] at a1 a2 a3
        have a4 := far_nonneg HOK.out.net (u := i) (v := rootF m E i)
        rw [← HE.out] at a4
        obtain ⟨r, hr⟩ : ∃ r, r = rootF m E i := ⟨_, rfl⟩
        rw [← hr] at a1 a2 a3 a4
        have HR := Lib.hid hr
        have HA3 := Lib.hid a3
        clear hr a3
        go_wp2
        go_loop [12] (fun rv => ∃ q : Nat, q ≤ r ∧ rv = .int .i64 q) (fun rv => r - (intOf rv).toNat)
        case atStart => exact ⟨0, Nat.zero_le _, rfl⟩
        case round =>
          obtain ⟨q, hq, rfl⟩ := hrel
          have hqm : q < m := by omega
          have hqi : (q : Int) < (m : Int) := by omega
          have hq0 : (0 : Int) ≤ (q : Int) := by omega
          obtain ⟨_, _, he, _, d1, -⟩ := arrI_at (A := []) HS5.out hqm
          simp only [Option.some.injEq, Addr.mk.injEq, and_true] at he
          obtain ⟨rfl, rfl⟩ := he
          by_cases hqr : q < r
          · have hd : far E i q = 1000 := by
              have h1 := far_le HOK.out.net (u := i) (v := q)
              rw [← HE.out] at h1
              by_cases e : far E i q < 1000
              · have := HA3.out q hqm e; omega
              · omega
            rw [hd] at d1
            have hdd : ((1000 : Int) == 1000) = true := by decide
            clear hd
            go_wp2
            clear d1
            go_round
            case rel => exact ⟨q + 1, by omega, by go_num⟩
            case measure => simp [intOf]; omega
          · obtain rfl : q = r := by omega
            obtain ⟨d, hdd⟩ : ∃ d, d = far E i q := ⟨_, rfl⟩
            rw [← hdd] at d1 a2 a4
            have HDD := Lib.hid hdd
            have hdb : (d == 1000) = false := by simp; omega
            have hhop := hopRef_ok m ao L.length ac g L i q w5 (HA.out.below HB5.out) rfl hg5 HOK.out hlt hqm
            have hover : hopOf m (edges L) i q = O i := by rw [HO.out, HR.out, HE.out]; rfl
            rw [hover] at hhop
            have HHOP := Lib.hid hhop
            obtain ⟨up, hup⟩ : ∃ up, up = O i := ⟨_, rfl⟩
            rw [← hup] at HHOP
            have HUP := Lib.hid hup
            clear hdd hhop hover hup hq hqr
            go_wp2_with fail
            refine HHOP.out.mono ?_
            rintro e w6 ⟨rfl, hb⟩
            have HS6 := Lib.hid (HS5.out.kept hb)
            have HB6 := Lib.hid (HB5.out.trans (hb.mono hg5))
            have hg6 : g ≤ w6.heap.size := by have := HB6.out.size; rw [← HG.out] at this; exact this
            clear hb d1 hdb HS5 HB5 hg5 HHOP
            have hlr : (arr (fun i => (rootF m E i : Int)) i).length ≤ 1000000000 := by rw [arr_len]; omega
            have hlf : (arr (fun i => far E i (rootF m E i)) i).length ≤ 1000000000 := by rw [arr_len]; omega
            have hlo : (arr O i).length ≤ 1000000000 := by rw [arr_len]; omega
            have HLR := Lib.hid hlr
            have HLF := Lib.hid hlf
            have HLO := Lib.hid hlo
            clear hlr hlf hlo
            go_wp2_with (at_builtin; refine wpList_append_int rfl (.tmp 53) (.tmp 55) rfl elemInt8 (A := [_, _]) (C := [_, _]) rfl HS6.out hg6 rfl HLR.out ?_)
            intro vr7 w7 hs hb
            rw [show arr (fun i => (rootF m E i : Int)) i ++ [(q : Int)] = arr (fun i => (rootF m E i : Int)) (i + 1) by rw [HR.out]; exact arr_grow (fun i => (rootF m E i : Int)) i] at hs
            obtain ⟨_, _, he, _, d1, -⟩ := arrI_at (A := []) hs hqm
            simp only [Option.some.injEq, Addr.mk.injEq, and_true] at he
            obtain ⟨rfl, rfl⟩ := he
            rw [← HDD.out] at d1
            have HS7 := Lib.hid hs
            have HB7 := Lib.hid (HB6.out.trans hb)
            have hg7 : g ≤ w7.heap.size := by have := HB7.out.size; rw [← HG.out] at this; exact this
            clear hs hb HS6 HB6 hg6 HLR
            go_wp2_with (at_builtin; refine wpList_append_int rfl (.tmp 57) (.tmp 62) rfl elemInt8 (A := [_, _, _]) (C := [_]) rfl HS7.out hg7 rfl HLF.out ?_)
            intro vf8 w8 hs hb
            rw [show arr (fun i => far E i (rootF m E i)) i ++ [d] = arr (fun i => far E i (rootF m E i)) (i + 1) by rw [HDD.out, HR.out]; exact arr_grow (fun i => far E i (rootF m E i)) i] at hs
            have HS8 := Lib.hid hs
            have HB8 := Lib.hid (HB7.out.trans hb)
            have hg8 : g ≤ w8.heap.size := by have := HB8.out.size; rw [← HG.out] at this; exact this
            clear hs hb d1 HS7 HB7 hg7 HLF
            go_wp2_with (at_builtin; refine wpList_append_int rfl (.tmp 64) (.tmp 66) rfl elemInt8 (A := [_, _, _, _]) (C := []) rfl HS8.out hg8 rfl HLO.out ?_)
            intro vo9 w9 hs hb
            rw [show arr O i ++ [up] = arr O (i + 1) by rw [HUP.out]; exact arr_grow O i] at hs
            have HS9 := Lib.hid (hs.sub (List.sublist_cons_self _ _))
            have HB9 := Lib.hid (HB8.out.trans hb)
            clear hs hb HS8 HB8 hg8 HLO
            by_cases hneg : up < 0
            · have hd : decide (0 ≤ up) = false := decide_eq_false (by omega)
              have hnx := usedT_neg (L := L) (O := O) (t := i) (by rw [← HUP.out]; exact hneg)
              have HNX := Lib.hid hnx
              clear hnx hneg
              rcases Nat.eq_zero_or_pos L.length with hl0 | hl0
              · have hl0i : decide ((0 : Int) < (L.length : Int)) = false := decide_eq_false (by omega)
                have hl1 : decide (0 < L.length) = false := decide_eq_false (by omega)
                have HL0 := Lib.hid hl0; clear hl0
                go_wp2
                go_loopw [14, 15] (fun fv kv wr => fv = .bool false ∧ kv = .int .i64 0 ∧ Sep g wr [boolsE gd L.length (usedT L O i), Ent.ints 3 vr7 (arr (fun i => (rootF m E i : Int)) (i + 1)), Ent.ints 3 vf8 (arr (fun i => far E i (rootF m E i)) (i + 1)), Ent.ints 3 vo9 (arr O (i + 1))] ∧ Below g w wr) (fun _ _ _ => 0)
                case atStart => exact ⟨rfl, rfl, HS9.out, HB9.out⟩
                case round =>
                  obtain ⟨rfl, rfl, hsep, hbel⟩ := hrel
                  have HS10 := Lib.hid hsep; clear hsep
                  have HB10 := Lib.hid hbel; clear hbel
                  clear HS9 HB9
                  go_wp2
                  clear hd hl0i
                  go_roundw
                  case rel => exact ⟨i + 1, _, _, _, by omega, rfl, rfl, rfl, by go_num, by rw [HNX.out]; exact HS10.out, HB10.out⟩
                  case measure => simp [intOf]; omega
              · have hl0i : decide ((0 : Int) < (L.length : Int)) = true := decide_eq_true (by omega)
                go_wp2
                go_loopw [14, 15] (fun fv kv wr => fv = .bool false ∧ kv = .int .i64 0 ∧ Sep g wr [boolsE gd L.length (usedT L O i), Ent.ints 3 vr7 (arr (fun i => (rootF m E i : Int)) (i + 1)), Ent.ints 3 vf8 (arr (fun i => far E i (rootF m E i)) (i + 1)), Ent.ints 3 vo9 (arr O (i + 1))] ∧ Below g w wr) (fun _ _ _ => 0)
                case atStart => exact ⟨rfl, rfl, HS9.out, HB9.out⟩
                case round =>
                  obtain ⟨rfl, rfl, hsep, hbel⟩ := hrel
                  have HS10 := Lib.hid hsep; clear hsep
                  have HB10 := Lib.hid hbel; clear hbel
                  clear HS9 HB9
                  go_wp2
                  clear hd hl0i
                  go_roundw
                  case rel => exact ⟨i + 1, _, _, _, by omega, rfl, rfl, rfl, by go_num, by rw [HNX.out]; exact HS10.out, HB10.out⟩
                  case measure => simp [intOf]; omega
            · obtain ⟨j, kb, xk, e1, e2, e3, e4, e5, e6, e7, e8⟩ := best_mark HOK.out hlt (by rw [← HO.out, ← HUP.out]; exact hneg)
              have hupj : up = (j : Int) := by rw [HUP.out, HO.out]; exact e1
              subst hupj
              have hnx : usedT L O (i + 1) = updf (usedT L O i) kb true := by rw [usedT_pos (by rw [← HUP.out]; omega), ← HUP.out, e3]
              have HNX := Lib.hid hnx
              have HNO := Lib.hid e8
              have hj0 : (0 : Int) ≤ (j : Int) := by omega
              clear hnx e1 e3 e8 hneg
              go_wp2
              go_loopw [14, 15] (fun fv kv wr => ∃ (k : Nat) (fd : Bool), k ≤ L.length ∧ fv = .bool fd ∧ kv = .int .i64 k ∧ Hid ((fd = false ∧ k ≤ kb ∧ Sep g wr [boolsE gd L.length (usedT L O i), Ent.ints 3 vr7 (arr (fun i => (rootF m E i : Int)) (i + 1)), Ent.ints 3 vf8 (arr (fun i => far E i (rootF m E i)) (i + 1)), Ent.ints 3 vo9 (arr O (i + 1))]) ∨
                (fd = true ∧ Sep g wr [boolsE gd L.length (usedT L O (i + 1)), Ent.ints 3 vr7 (arr (fun i => (rootF m E i : Int)) (i + 1)), Ent.ints 3 vf8 (arr (fun i => far E i (rootF m E i)) (i + 1)), Ent.ints 3 vo9 (arr O (i + 1))])) ∧ Below g w wr) (fun _ kv _ => L.length - (intOf kv).toNat)
              case atStart => exact ⟨0, false, Nat.zero_le _, rfl, rfl, Lib.hid (.inl ⟨rfl, Nat.zero_le _, HS9.out⟩), HB9.out⟩
              case round =>
                obtain ⟨k, fd, hk, rfl, rfl, HST, hbel⟩ := hrel
                have HB10 := Lib.hid hbel; clear hbel
                clear HS9 HB9
                have hg10 : g ≤ wr.heap.size := by have := HB10.out.size; rw [← HG.out] at this; exact this
                rcases HST.out with ⟨rfl, hkk, hsep⟩ | ⟨rfl, hsep⟩
                · clear HST
                  have hkl : k < L.length := by omega
                  have hki : (k : Int) < (L.length : Int) := by omega
                  have hk0 : (0 : Int) ≤ (k : Int) := by omega
                  have HKB := Lib.hid hkk
                  clear hkk
                  obtain ⟨x, hx⟩ : ∃ x, L[k]? = some x := ⟨_, List.getElem?_eq_getElem hkl⟩
                  obtain ⟨b, off, rfl, hbb, c0, c1, c2⟩ := (HA.out.below HB10.out).lnk hx
                  obtain ⟨xa, xb, xc⟩ := x
                  simp only at c0 c1 c2
                  have hs8 := Sep.blkNew hsep hg10 #[.int .i64 xa, .int .i64 xb, .int .i64 xc] 43
                  have HS8 := Lib.hid hs8
                  have HB8 := Lib.hid (HB10.out.alloc hg10 (.cells #[.int .i64 xa, .int .i64 xb, .int .i64 xc] 43))
                  clear hs8 hsep
                  go_upto_region 22 with fail
                  clear c0 c1 c2
                  obtain ⟨gl, hgl⟩ : ∃ gl, gl = wr.heap.size := ⟨_, rfl⟩
                  rw [← hgl] at HS8 ⊢
                  clear hg10
                  generalize wr.alloc (.cells #[.int .i64 xa, .int .i64 xb, .int .i64 xc] 43) = w8 at *
                  obtain ⟨c0, _⟩ := Sep.blkAt (A := []) HS8.out (j := 0) rfl
                  obtain ⟨c1, _⟩ := Sep.blkAt (A := []) HS8.out (j := 1) rfl
                  obtain ⟨c2, _⟩ := Sep.blkAt (A := []) HS8.out (j := 2) rfl
                  clear hgl HB10
                  obtain ⟨y, hy⟩ : ∃ y, y = cst L i j := ⟨_, rfl⟩
                  have hg8 : g ≤ w8.heap.size := by have := HB8.out.size; rw [← HG.out] at this; exact this
                  have hcost : ∀ q, Calls Tryd.prog 17 #[.slice (some ⟨b, off, none⟩) L.length ac, .int .i64 i, .int .i64 j] (w8.drewN q) fun e w' => e = .returned (.int .i64 y) ∧ w8.drewN q = w' := fun q => by
                    rw [hy]
                    exact cost_any _ _ ac g L i j _ ((HA.out.below HB8.out).below (below_drewN _ w8 q)) rfl (by omega)
                  have HCA := Lib.hid hcost
                  have HY := Lib.hid hy
                  clear hcost hy hg8
                  by_cases hkb : k = kb
                  · subst hkb
                    rw [hx] at e5
                    obtain rfl := Option.some.inj e5
                    have hxc : xc = cst L i j := e7
                    unfold Joins at e6
                    simp only at e6
                    rcases e6 with ⟨ja, jb⟩ | ⟨ja, jb⟩
                    · have h1b : (xa == (i : Int)) = true := by simp [ja]
                      have h2b : (xb == (j : Int)) = true := by simp [jb]
                      clear ja jb
                      have hcee : (xc == y) = true := by rw [hxc, HY.out]; simp
                      clear hxc hx
                      go_wp2_with fail
                      go_quiet (first | (go_at_call 17; exact quiet_id (HCA.out _) ⟨_, rfl⟩))
                      have HSN := Lib.hid ((HS8.out.drewN nq).sub (List.sublist_cons_self _ _))
                      have HBN := Lib.hid (HB8.out.trans (below_drewN _ w8 nq))
                      clear c0 c1 c2 HS8 HB8 HCA
                      generalize w8.drewN nq = wn at *
                      obtain ⟨m1, m2, m3⟩ := arrB_at (A := []) HSN.out hkl
                      have hm3 := m3 true
                      rw [show (fun x => Value.bool (if x = k then true else usedT L O i x)) = (fun x => Value.bool (updf (usedT L O i) k true x)) from funext fun x => by
                        by_cases e : x = k
                        · subst e; rw [updf_same, if_pos rfl]
                        · rw [updf_other e, if_neg e]] at hm3
                      have HM3 := Lib.hid hm3
                      have HBS := Lib.hid (HBN.out.setCell (p := ⟨gd, k, none⟩) ((HSN.out.mem (A := [])).2 gd rfl).1 (.bool true))
                      clear m3 hm3
                      go_wp2
                      go_roundw
                      case rel => exact ⟨k + 1, true, by omega, rfl, by go_num, Lib.hid (.inr ⟨rfl, by rw [HNX.out]; exact HM3.out⟩), HBS.out⟩
                      case measure => simp [intOf]; try omega
                    · have h1b : (xa == (i : Int)) = false := by simp [ja]; omega
                      have h3b : (xa == (j : Int)) = true := by simp [ja]
                      have h4b : (xb == (i : Int)) = true := by simp [jb]
                      clear ja jb
                      have hcee : (xc == y) = true := by rw [hxc, HY.out]; simp
                      clear hxc hx
                      go_wp2_with fail
                      go_quiet (first | (go_at_call 17; exact quiet_id (HCA.out _) ⟨_, rfl⟩))
                      have HSN := Lib.hid ((HS8.out.drewN nq).sub (List.sublist_cons_self _ _))
                      have HBN := Lib.hid (HB8.out.trans (below_drewN _ w8 nq))
                      clear c0 c1 c2 HS8 HB8 HCA
                      generalize w8.drewN nq = wn at *
                      obtain ⟨m1, m2, m3⟩ := arrB_at (A := []) HSN.out hkl
                      have hm3 := m3 true
                      rw [show (fun x => Value.bool (if x = k then true else usedT L O i x)) = (fun x => Value.bool (updf (usedT L O i) k true x)) from funext fun x => by
                        by_cases e : x = k
                        · subst e; rw [updf_same, if_pos rfl]
                        · rw [updf_other e, if_neg e]] at hm3
                      have HM3 := Lib.hid hm3
                      have HBS := Lib.hid (HBN.out.setCell (p := ⟨gd, k, none⟩) ((HSN.out.mem (A := [])).2 gd rfl).1 (.bool true))
                      clear m3 hm3
                      go_wp2
                      go_roundw
                      case rel => exact ⟨k + 1, true, by omega, rfl, by go_num, Lib.hid (.inr ⟨rfl, by rw [HNX.out]; exact HM3.out⟩), HBS.out⟩
                      case measure => simp [intOf]; try omega
                  · have hkb' : k < kb := by have := HKB.out; omega
                    by_cases h1 : xa = (i : Int)
                    · have h1b : (xa == (i : Int)) = true := by simp [h1]
                      by_cases h2 : xb = (j : Int)
                      · have h2b : (xb == (j : Int)) = true := by simp [h2]
                        have hcne : (xc == y) = false := by
                          have := HNO.out k _ hkb' hx (by unfold Joins; simp only; omega)
                          simp only at this
                          rw [← HY.out] at this
                          simpa using this
                        try clear h4
                        try clear h3
                        try clear h2
                        try clear h1
                        clear hx
                        go_wp2_with fail
                        go_quiet (first | (go_at_call 17; exact quiet_id (HCA.out _) ⟨_, rfl⟩))
                        have HSN := Lib.hid ((HS8.out.drewN nq).sub (List.sublist_cons_self _ _))
                        have HBN := Lib.hid (HB8.out.trans (below_drewN _ w8 nq))
                        clear c0 c1 c2 HS8 HB8 HCA
                        generalize w8.drewN nq = wn at *
                        go_wp2
                        go_roundw
                        case rel => exact ⟨k + 1, false, by omega, rfl, by go_num, Lib.hid (.inl ⟨rfl, by have := HKB.out; omega, HSN.out⟩), HBN.out⟩
                        case measure => simp [intOf]; try omega
                      · have h2b : (xb == (j : Int)) = false := by simp [h2]
                        have h3b : (xa == (j : Int)) = false := by simp; omega
                        try clear h4
                        try clear h3
                        try clear h2
                        try clear h1
                        clear hx
                        go_wp2_with fail
                        go_quiet (first | (go_at_call 17; exact quiet_id (HCA.out _) ⟨_, rfl⟩))
                        have HSN := Lib.hid ((HS8.out.drewN nq).sub (List.sublist_cons_self _ _))
                        have HBN := Lib.hid (HB8.out.trans (below_drewN _ w8 nq))
                        clear c0 c1 c2 HS8 HB8 HCA
                        generalize w8.drewN nq = wn at *
                        go_wp2
                        go_roundw
                        case rel => exact ⟨k + 1, false, by omega, rfl, by go_num, Lib.hid (.inl ⟨rfl, by have := HKB.out; omega, HSN.out⟩), HBN.out⟩
                        case measure => simp [intOf]; try omega
                    · have h1b : (xa == (i : Int)) = false := by simp [h1]
                      by_cases h3 : xa = (j : Int)
                      · have h3b : (xa == (j : Int)) = true := by simp [h3]
                        by_cases h4 : xb = (i : Int)
                        · have h4b : (xb == (i : Int)) = true := by simp [h4]
                          have hcne : (xc == y) = false := by
                            have := HNO.out k _ hkb' hx (by unfold Joins; simp only; omega)
                            simp only at this
                            rw [← HY.out] at this
                            simpa using this
                          try clear h4
                          try clear h3
                          try clear h2
                          try clear h1
                          clear hx
                          go_wp2_with fail
                          go_quiet (first | (go_at_call 17; exact quiet_id (HCA.out _) ⟨_, rfl⟩))
                          have HSN := Lib.hid ((HS8.out.drewN nq).sub (List.sublist_cons_self _ _))
                          have HBN := Lib.hid (HB8.out.trans (below_drewN _ w8 nq))
                          clear c0 c1 c2 HS8 HB8 HCA
                          generalize w8.drewN nq = wn at *
                          go_wp2
                          go_roundw
                          case rel => exact ⟨k + 1, false, by omega, rfl, by go_num, Lib.hid (.inl ⟨rfl, by have := HKB.out; omega, HSN.out⟩), HBN.out⟩
                          case measure => simp [intOf]; try omega
                        · have h4b : (xb == (i : Int)) = false := by simp [h4]
                          try clear h4
                          try clear h3
                          try clear h2
                          try clear h1
                          clear hx
                          go_wp2_with fail
                          go_quiet (first | (go_at_call 17; exact quiet_id (HCA.out _) ⟨_, rfl⟩))
                          have HSN := Lib.hid ((HS8.out.drewN nq).sub (List.sublist_cons_self _ _))
                          have HBN := Lib.hid (HB8.out.trans (below_drewN _ w8 nq))
                          clear c0 c1 c2 HS8 HB8 HCA
                          generalize w8.drewN nq = wn at *
                          go_wp2
                          go_roundw
                          case rel => exact ⟨k + 1, false, by omega, rfl, by go_num, Lib.hid (.inl ⟨rfl, by have := HKB.out; omega, HSN.out⟩), HBN.out⟩
                          case measure => simp [intOf]; try omega
                      · have h3b : (xa == (j : Int)) = false := by simp [h3]
                        try clear h4
                        try clear h3
                        try clear h2
                        try clear h1
                        clear hx
                        go_wp2_with fail
                        go_quiet (first | (go_at_call 17; exact quiet_id (HCA.out _) ⟨_, rfl⟩))
                        have HSN := Lib.hid ((HS8.out.drewN nq).sub (List.sublist_cons_self _ _))
                        have HBN := Lib.hid (HB8.out.trans (below_drewN _ w8 nq))
                        clear c0 c1 c2 HS8 HB8 HCA
                        generalize w8.drewN nq = wn at *
                        go_wp2
                        go_roundw
                        case rel => exact ⟨k + 1, false, by omega, rfl, by go_num, Lib.hid (.inl ⟨rfl, by have := HKB.out; omega, HSN.out⟩), HBN.out⟩
                        case measure => simp [intOf]; try omega
                · clear HST
                  have HSF := Lib.hid hsep; clear hsep
                  by_cases hkl : k < L.length
                  · have hki : decide ((k : Int) < (L.length : Int)) = true := decide_eq_true (by omega)
                    go_wp2
                    go_roundw
                    case rel => exact ⟨i + 1, _, _, _, by omega, rfl, rfl, rfl, by go_num, HSF.out, HB10.out⟩
                    case measure => simp [intOf]; omega
                  · have hki : decide ((k : Int) < (L.length : Int)) = false := decide_eq_false (by omega)
                    go_wp2
                    go_roundw
                    case rel => exact ⟨i + 1, _, _, _, by omega, rfl, rfl, rfl, by go_num, HSF.out, HB10.out⟩
                    case measure => simp [intOf]; omega
      · obtain rfl : i = m := by omega
        have hii : decide ((i : Int) < (i : Int)) = false := by simp
        have hs := HS4.out
        rw [HE.out, HO.out] at hs
        obtain ⟨a1, k1, rfl, -⟩ := hs.intsShape (A := [_]) (C := [_, _])
        obtain ⟨a2, k2, rfl, -⟩ := hs.intsShape (A := [_, _]) (C := [_])
        obtain ⟨a3, k3, rfl, -⟩ := hs.intsShape (A := [_, _, _]) (C := [])
        have HX := Lib.hid (hs.intSl (A := [_]) (C := [_, _]))
        have HY := Lib.hid (hs.intSl (A := [_, _]) (C := [_]))
        have HZ := Lib.hid (hs.intSl (A := [_, _, _]) (C := []))
        have HS5 := Lib.hid (hs.sub (L' := [_]) (List.Sublist.cons_cons _ (List.nil_sublist _)))
        clear hs HS4
        simp only [arr_len]
        have hsame : ∀ w', Below g w w' → Calls Tryd.prog 7 #[.nilIface, .int .i64 0] w' fun x w'' => x = .returned (.bool true) ∧ Below w'.heap.size w' w'' := fun w' h => by
          have := same_any 0 0 true w' (HDOOR.out _ h) rfl
          rw [errV_zero] at this
          exact this
        have HSAME := Lib.hid hsame; clear hsame
        go_wp2_with fail
        refine (tree_ok i _ _ _ g L _ (HA.out.below HB4.out) rfl hg4 HOK.out).mono ?_
        rintro e w6 ⟨vr', vf', vo', rfl, hs, hb⟩
        obtain ⟨gr', fr', cr', gf', ff', cf', go', fo', co', rfl, rfl, rfl, h1, h2, h3⟩ := tree_shape hs (by omega)
        have HX6 := Lib.hid ((HX.out.below hb).mono hb.size)
        have HY6 := Lib.hid ((HY.out.below hb).mono hb.size)
        have HZ6 := Lib.hid ((HZ.out.below hb).mono hb.size)
        have HX7 := Lib.hid h1
        have HY7 := Lib.hid h2
        have HZ7 := Lib.hid h3
        have HS6 := Lib.hid (HS5.out.kept hb)
        have HB6 := Lib.hid (HB4.out.trans (hb.mono hg4))
        have hg6 : g ≤ w6.heap.size := by have := HB6.out.size; rw [← HG.out] at this; exact this
        clear hs hb h1 h2 h3 HX HY HZ HS5 HB4 hg4
        go_wp2_with fail
        refine (HSAME.out _ HB6.out).mono ?_
        rintro e w7 ⟨rfl, hb⟩
        have HX67 := Lib.hid ((HX6.out.below hb).mono hb.size)
        have HY67 := Lib.hid ((HY6.out.below hb).mono hb.size)
        have HZ67 := Lib.hid ((HZ6.out.below hb).mono hb.size)
        have HX77 := Lib.hid ((HX7.out.below hb).mono hb.size)
        have HY77 := Lib.hid ((HY7.out.below hb).mono hb.size)
        have HZ77 := Lib.hid ((HZ7.out.below hb).mono hb.size)
        have HS7 := Lib.hid (HS6.out.kept hb)
        have HB7 := Lib.hid (HB6.out.trans (hb.mono hg6))
        have hg7 : g ≤ w7.heap.size := by have := HB7.out.size; rw [← HG.out] at this; exact this
        clear hb HX6 HY6 HZ6 HX7 HY7 HZ7 HS6 HB6 hg6
        go_wp2_with fail
        refine (ints_any _ _ _ _ _ _ _ _ _ _ true _ HX77.out HX67.out (arr_len _ _).symm (by rw [arr_len]) (by rw [arr_len]; omega) (by rw [decide_eq_true]; rfl)).mono ?_
        rintro e w8 ⟨rfl, hd⟩
        have hb := below_of_drew hd
        clear hd
        have HX68 := Lib.hid ((HX67.out.below hb).mono hb.size)
        have HY68 := Lib.hid ((HY67.out.below hb).mono hb.size)
        have HZ68 := Lib.hid ((HZ67.out.below hb).mono hb.size)
        have HX78 := Lib.hid ((HX77.out.below hb).mono hb.size)
        have HY78 := Lib.hid ((HY77.out.below hb).mono hb.size)
        have HZ78 := Lib.hid ((HZ77.out.below hb).mono hb.size)
        have HS8 := Lib.hid (HS7.out.kept hb)
        have HB8 := Lib.hid (HB7.out.trans (hb.mono hg7))
        have hg8 : g ≤ w8.heap.size := by have := HB8.out.size; rw [← HG.out] at this; exact this
        clear hb HX67 HY67 HZ67 HX77 HY77 HZ77 HS7 HB7 hg7
        go_wp2_with fail
        refine (ints_any _ _ _ _ _ _ _ _ _ _ true _ HY78.out HY68.out (arr_len _ _).symm (by rw [arr_len]) (by rw [arr_len]; omega) (by rw [decide_eq_true]; rfl)).mono ?_
        rintro e w9 ⟨rfl, hd⟩
        have hb := below_of_drew hd
        clear hd
        have HX69 := Lib.hid ((HX68.out.below hb).mono hb.size)
        have HY69 := Lib.hid ((HY68.out.below hb).mono hb.size)
        have HZ69 := Lib.hid ((HZ68.out.below hb).mono hb.size)
        have HX79 := Lib.hid ((HX78.out.below hb).mono hb.size)
        have HY79 := Lib.hid ((HY78.out.below hb).mono hb.size)
        have HZ79 := Lib.hid ((HZ78.out.below hb).mono hb.size)
        have HS9 := Lib.hid (HS8.out.kept hb)
        have HB9 := Lib.hid (HB8.out.trans (hb.mono hg8))
        have hg9 : g ≤ w9.heap.size := by have := HB9.out.size; rw [← HG.out] at this; exact this
        clear hb HX68 HY68 HZ68 HX78 HY78 HZ78 HS8 HB8 hg8
        go_wp2_with fail
        refine (ints_any _ _ _ _ _ _ _ _ _ _ true _ HZ79.out HZ69.out (arr_len _ _).symm (by rw [arr_len]) (by rw [arr_len]; omega) (by rw [decide_eq_true]; rfl)).mono ?_
        rintro e w10 ⟨rfl, hd⟩
        have hb := below_of_drew hd
        have HS10 := Lib.hid (HS9.out.kept hb)
        have HB10 := Lib.hid (HB9.out.trans (hb.mono hg9))
        have hg10 : g ≤ w10.heap.size := by have := HB10.out.size; rw [← HG.out] at this; exact this
        clear hd hb HX69 HY69 HZ69 HX79 HY79 HZ79 HS9 HB9 hg9
        go_wp2_with fail
        refine (used_ok i _ _ _ g L _ (HA.out.below HB10.out) rfl hg10 HOK.out).mono ?_
        rintro e w11 ⟨gd', rfl, hs, hb⟩
        have HU11 := Lib.hid hs
        have HS11 := Lib.hid (HS10.out.kept hb)
        have HB11 := Lib.hid (HB10.out.trans (hb.mono hg10))
        have hg11 : g ≤ w11.heap.size := by have := HB11.out.size; rw [← HG.out] at this; exact this
        clear hs hb HS10 HB10 hg10
        go_wp2_with fail
        refine (HSAME.out _ HB11.out).mono ?_
        rintro e w12 ⟨rfl, hb⟩
        have HU12 := Lib.hid (HU11.out.kept hb)
        have HS12 := Lib.hid (HS11.out.kept hb)
        have HB12 := Lib.hid (HB11.out.trans (hb.mono hg11))
        have hg12 : g ≤ w12.heap.size := by have := HB12.out.size; rw [← HG.out] at this; exact this
        clear hb HU11 HS11 HB11 hg11
        go_wp2_with fail
        refine (bools_same _ _ _ _ _ (usedR i L) _ (by omega) (fun w' hw k hk => ?_)).mono ?_
        · obtain ⟨q, rfl⟩ := hw
          have d1 := (arrB_at (A := []) (HU12.out.drewN q) hk).1
          have d2 := (arrB_at (A := []) (HS12.out.drewN q) hk).1
          exact ⟨gd', 0, gd, 0, rfl, rfl, by rw [Nat.zero_add]; exact d1, by rw [Nat.zero_add]; exact d2⟩
        rintro e w13 ⟨rfl, hd⟩
        have hb := below_of_drew hd
        have HB13 := Lib.hid (HB12.out.trans (hb.mono hg12))
        clear hd hb
        go_wp2
        go_ret
        exact ⟨rfl, by have := HB13.out; rw [HG.out] at this; exact this⟩
  · have hcb : (c == 0) = false := by simp [hc0]
    rw [← hc] at HREF
    have HC := Lib.hid hc; clear hc
    have H0 := Lib.hid hc0; clear hc0
    have hsame : ∀ w', Below g w w' → Calls Tryd.prog 7 #[.iface 60 (.int .i64 c), .int .i64 c] w' fun x w'' => x = .returned (.bool true) ∧ Below w'.heap.size w' w'' := fun w' h => by
      have := same_any c c true w' (HDOOR.out _ h) (by simp)
      rw [errV_not H0.out] at this
      exact this
    have HSAME := Lib.hid hsame; clear hsame
    go_enter Tryd.func4, Tryd.ntmps4
    go_wp2_with fail
    refine HREF.out.mono ?_
    rintro e w1 ⟨rfl, hb⟩
    have HB1 := Lib.hid (show Below g w w1 by rw [HG.out]; exact hb); clear hb HREF
    have hg1 : g ≤ w1.heap.size := by have := HB1.out.size; rw [← HG.out] at this; exact this
    have HN1 := Lib.hid (Sep.nil g w1)
    go_wp2_with (at_make; refine wpList_make_sep rfl _ _ rfl elemB .i64 .i64 0 0 0 rfl rfl rfl rfl (by omega) (by unfold maxLen; omega) HN1.out hg1 ?_)
    intro w2 _ hb hsz
    have HB2 := Lib.hid (HB1.out.trans (hb.mono hg1))
    have hg2 : g ≤ w2.heap.size := by have := HB2.out.size; rw [← HG.out] at this; exact this
    clear hb hsz
    go_wp2_with fail
    refine (tree_err _ _ _ _ _ L c _ (HA.out.below HB2.out) rfl (by omega) hg2 HC.out H0.out).mono ?_
    rintro e w3 ⟨rfl, hb⟩
    have HB3 := Lib.hid (HB2.out.trans (hb.mono hg2)); clear hb
    have hg3 : g ≤ w3.heap.size := by have := HB3.out.size; rw [← HG.out] at this; exact this
    go_wp2_with fail
    refine (HSAME.out _ HB3.out).mono ?_
    rintro e w4 ⟨rfl, hb⟩
    have HB4 := Lib.hid (HB3.out.trans (hb.mono hg3)); clear hb
    have hg4 : g ≤ w4.heap.size := by have := HB4.out.size; rw [← HG.out] at this; exact this
    go_wp2_with fail
    refine (ints_any _ _ _ _ _ _ 0 0 [] [] true _ (IntSl.nil _ _ _) (IntSl.nil _ _ _) rfl rfl (by decide) (by decide)).mono ?_
    rintro e w5 ⟨rfl, hd⟩
    have hb := below_of_drew hd
    have HB5 := Lib.hid (HB4.out.trans (hb.mono hg4))
    have hg5 : g ≤ w5.heap.size := by have := HB5.out.size; rw [← HG.out] at this; exact this
    clear hd hb
    go_wp2_with fail
    refine (ints_any _ _ _ _ _ _ 0 0 [] [] true _ (IntSl.nil _ _ _) (IntSl.nil _ _ _) rfl rfl (by decide) (by decide)).mono ?_
    rintro e w6 ⟨rfl, hd⟩
    have hb := below_of_drew hd
    have HB6 := Lib.hid (HB5.out.trans (hb.mono hg5))
    have hg6 : g ≤ w6.heap.size := by have := HB6.out.size; rw [← HG.out] at this; exact this
    clear hd hb
    go_wp2_with fail
    refine (ints_any _ _ _ _ _ _ 0 0 [] [] true _ (IntSl.nil _ _ _) (IntSl.nil _ _ _) rfl rfl (by decide) (by decide)).mono ?_
    rintro e w7 ⟨rfl, hd⟩
    have hb := below_of_drew hd
    have HB7 := Lib.hid (HB6.out.trans (hb.mono hg6))
    have hg7 : g ≤ w7.heap.size := by have := HB7.out.size; rw [← HG.out] at this; exact this
    clear hd hb
    go_wp2_with fail
    refine (used_err _ _ _ _ _ L c _ (HA.out.below HB7.out) rfl (by omega) hg7 HC.out H0.out).mono ?_
    rintro e w8 ⟨rfl, hb⟩
    have HB8 := Lib.hid (HB7.out.trans (hb.mono hg7)); clear hb
    have hg8 : g ≤ w8.heap.size := by have := HB8.out.size; rw [← HG.out] at this; exact this
    go_wp2_with fail
    refine (HSAME.out _ HB8.out).mono ?_
    rintro e w9 ⟨rfl, hb⟩
    have HB9 := Lib.hid (HB8.out.trans (hb.mono hg8)); clear hb
    have hg9 : g ≤ w9.heap.size := by have := HB9.out.size; rw [← HG.out] at this; exact this
    go_wp2_with fail
    refine (bools_same _ _ _ _ 0 (fun _ => false) _ (by omega) (fun _ _ k hk => absurd hk (Nat.not_lt_zero _))).mono ?_
    rintro e w10 ⟨rfl, hd⟩
    have hb := below_of_drew hd
    have HB10 := Lib.hid (HB9.out.trans (hb.mono hg9))
    clear hd hb
    go_wp2
    go_ret
    exact ⟨rfl, by have := HB10.out; rw [HG.out] at this; exact this⟩
end Go.Proofs.YtkheccnjcaljdaaDoor
