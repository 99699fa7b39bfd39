/- RpfTree returns true: over a tree each one that can be reached gets one copy. -/
import Derived.Test.YtnmddgjgmdegoaaRpfFact
import Derived.Test.YtnmddgjgmdegoaaRpfTreePlain
import Derived.Test.YtnmddgjgmdegoaaUsed
import Derived.Test.YtnmddgjgmdegoaaIn3
import Derived.Deep.LoopGhost
import Derived.BigQuiet
namespace Go.Proofs.Ytnmddgjgmdegoaa
open Go.RowKit
set_option linter.unusedVariables false

/-- 'append(all, more)'. -/
theorem wpList_append_link2 {B : Nat} {w : World} {C : List Ent} {v : Value} {n : Nat} {xs : List Value} {xa xb xc : Int} {te : TypeId} {ops : Array Oper} {rest : List Oper} {o : Oper} {a : Act} {Q : Exit → Act → World → Prop} (hgd : Region.wanted o (yielded ops a.tmps) = true) (s x : Operand)
    (ho : o.op = .call { callee := .builtin .append, args := #[s, x], argTypes := #[58, 58] }) (hs : a.eval s = v) (hsep : Sep B w (Ent.row v n 3 71 xs :: C)) (hB : B ≤ w.heap.size)
    (hx : a.eval x = .slice (some ⟨w.heap.size, 0, none⟩) 1 1) (hn : n ≤ 40)
    (h : ∀ v' w', Sep B w' (Ent.row v' (n + 1) 3 71 (xs ++ lnkC (xa, xb, xc)) :: C) → Below B w w' → wpList Try.prog ops Q rest (a.put o.dst v') w') :
    wpList Try.prog ops Q (o :: rest) a (w.alloc (.cells #[.int .i64 xa, .int .i64 xb, .int .i64 xc] te)) := by
  refine wpList_append_sep hgd s x ho elemLnk hs (A := []) (C := C) (hsep.alloc _) (by simp; omega) ⟨w.heap.size, 0, none⟩ 1 1 [.int .i64 xa, .int .i64 xb, .int .i64 xc] hx rfl ?_ ?_ (by decide) (by omega) (by unfold maxLen; omega) ?_
  · intro j u hu
    rw [show (⟨w.heap.size, 0, none⟩ : Addr).add j = ⟨w.heap.size, 0 + j, none⟩ by unfold Addr.add; split <;> simp_all, World.cell?_alloc_mark, Nat.zero_add]
    rw [← hu]; simp
  · intro u hu
    simp only [List.mem_cons, List.not_mem_nil, or_false] at hu
    rcases hu with rfl | rfl | rfl <;> rfl
  · intro v' w' h1 h2
    exact h v' w' h1 (((Below.refl B w).alloc hB _).trans h2)
def tree1 (L : List Lnk) (o i : Nat) : Nat := if ¬ i = o ∧ Rch L o i then 1 else 0
theorem tree_sent {n : Nat} {L : List Lnk} {o : Nat} (h : VOk n L) (ho : o < n) : sentOf n (leftR n L) o = psum (tree1 L o) n := by
  unfold sentOf
  exact psum_congr fun i hi => left_copies h ho hi
set_option maxHeartbeats 4000000 in
set_option maxRecDepth 100000 in
theorem rpfTree_walk (n : Int) (ao : Option Addr) (ac : Nat) (L : List Lnk) (f : Int) (w : World) (hnb : -9223372036854775808 ≤ n ∧ n ≤ 9223372036854775807) (hA : RowSl w.heap.size w ao 3 (L.map lnkC)) (hac : L.length ≤ ac) (hmax : ac ≤ maxLen) (hgood : ∀ x ∈ L, LnkGood x)
    (_ : -9223372036854775808 ≤ f ∧ f ≤ 9223372036854775807) :
    Calls Try.prog 7 #[.int .i64 n, .slice ao L.length ac, .int .i64 f] w fun e w' => e = .returned (.bool true) ∧ Below w.heap.size w w' := by
  unfold maxLen at hmax
  have HA := Lib.hid hA; clear hA hgood
  obtain ⟨g, hg⟩ : ∃ g, g = w.heap.size := ⟨_, rfl⟩
  rw [← hg] at HA
  have HG := Lib.hid hg; clear hg
  have hci : Try.prog.cellsOf 3 = 1 := by kernel_rfl
  obtain ⟨c, hc⟩ : ∃ c, c = vCode n L := ⟨_, rfl⟩
  by_cases hc0 : c = 0
  · obtain ⟨m, rfl, hok⟩ := vCode_zero.1 (hc.symm.trans hc0)
    clear hc hc0
    have hn8 := hok.n8
    have hn1 := hok.n1
    have hl32 := hok.few
    have HOK := Lib.hid hok; clear hok
    go_enter Try.func7, Try.ntmps7
    go_wp2_with fail
    refine (rpfFact_any _).mono ?_
    rintro e w1 ⟨rfl, hb⟩
    have HB1 := Lib.hid (show Below g w w1 by rw [HG.out]; exact hb); clear hb
    have hg1 : g ≤ w1.heap.size := by have := HB1.out.size; rw [← HG.out] at this; exact this
    go_wp2_with fail
    refine (used_ok m _ _ _ g L _ (HA.out.below HB1.out) rfl hg1 HOK.out).mono ?_
    rintro e w3 ⟨gd, rfl, hs, hb⟩
    have HB3 := Lib.hid (HB1.out.trans (hb.mono hg1))
    have HS3 := Lib.hid ((hs.mono hg1).rowNil 3 71)
    clear hs hb
    have hll : ((L.length : Int) != (L.length : Int)) = false := by simp
    have hmm : ((m : Int) != (m : Int)) = false := by simp
    go_wp2
    clear hll
    go_loopg [10, 11] L.length (fun gk lv kv wr => ∃ (k : Nat) (a5 : Option Addr) (n5 c5 : Nat), gk + k = L.length ∧ lv = .slice a5 n5 c5 ∧ kv = .int .i64 k ∧ Sep g wr [Ent.row (.slice a5 n5 c5) (leftT L (usedR m L) k).length 3 71 ((leftT L (usedR m L) k).flatMap lnkC), boolsE gd L.length (usedR m L)] ∧ Below g w wr)
    case atStart => exact ⟨0, none, 0, 0, by omega, rfl, rfl, HS3.out, HB3.out⟩
    case round =>
      obtain ⟨gi, rfl⟩ : ∃ gi, gi = gk := ⟨_, rfl⟩
      obtain ⟨k, a5, n5, c5, hgi, rfl, rfl, hs, hb⟩ := hrel
      have HS5 := Lib.hid hs
      have HB5 := Lib.hid hb
      have hg5 : g ≤ wr.heap.size := by have := HB5.out.size; rw [← HG.out] at this; exact this
      clear hs hb HS3 HB3
      by_cases hlt : k < L.length
      · have hki : (k : Int) < (L.length : Int) := by omega
        have hk0 : (0 : Int) ≤ (k : Int) := by omega
        obtain ⟨d1, _, _⟩ := arrB_at (A := [_]) (C := []) HS5.out hlt
        obtain ⟨x, hx⟩ : ∃ x, L[k]? = some x := ⟨_, List.getElem?_eq_getElem hlt⟩
        cases hu : usedR m L k with
        | true =>
          rw [hu] at d1
          have hnx := leftT_yes hx hu
          have hl40 : (leftT L (usedR m L) k).length ≤ 40 := by rw [leftT_len]; have := cntD_le (usedR m L) k; omega
          obtain ⟨b, off, rfl, hbb, c0, c1, c2⟩ := (HA.out.below HB5.out).lnk hx
          obtain ⟨xa, xb, xc⟩ := x
          simp only at c0 c1 c2
          have HNX := Lib.hid hnx
          have HLL := Lib.hid hl40
          clear hnx hl40 hx hu
          go_wp2_with (at_builtin; refine wpList_append_link2 (B := g) (w := wr) (C := [boolsE gd L.length (usedR m L)]) (xa := xa) (xb := xb) (xc := xc) (v := .slice a5 n5 c5) (n := (leftT L (usedR m L) k).length) (xs := (leftT L (usedR m L) k).flatMap lnkC) ?_ (.tmp 48) (.tmp 53) ?_ ?_ ?_ ?_ ?_ ?_ ?_; rfl; rfl; rfl; exact HS5.out; exact hg5; rfl; exact HLL.out)
          intro v6 w6 hs6 hb6
          obtain ⟨_, a6, c6, rfl, -, -⟩ := Sep.rowShape (A := []) hs6
          obtain ⟨n6, hn6⟩ : ∃ n6, n6 = (leftT L (usedR m L) k).length + 1 := ⟨_, rfl⟩
          rw [← hn6] at hs6 ⊢
          have hs7 : Sep g w6 [Ent.row (.slice a6 n6 c6) (leftT L (usedR m L) (k + 1)).length 3 71 ((leftT L (usedR m L) (k + 1)).flatMap lnkC), boolsE gd L.length (usedR m L)] := by
            rw [HNX.out, List.flatMap_append, List.length_append]
            show Sep g w6 [Ent.row _ ((leftT L (usedR m L) k).length + 1) 3 _ _, _]
            rw [← hn6]
            exact hs6
          have HS7 := Lib.hid hs7
          have HB7 := Lib.hid (HB5.out.trans hb6)
          clear hs6 hb6 hs7 d1 c0 c1 c2 hn6 hg5
          go_wp2
          go_roundg (gi - 1)
          case measure => omega
          case rel => exact ⟨k + 1, _, _, _, by omega, rfl, by go_num, HS7.out, HB7.out⟩
        | false =>
          rw [hu] at d1
          have HNX := Lib.hid (leftT_no (L := L) hu)
          clear hx hu
          go_wp2
          clear d1
          go_roundg (gi - 1)
          case measure => omega
          case rel => exact ⟨k + 1, _, _, _, by omega, rfl, by go_num, by rw [HNX.out]; exact HS5.out, HB5.out⟩
      · have hki : decide ((k : Int) < (L.length : Int)) = false := decide_eq_false (by omega)
        have hkl : k = L.length := by omega
        have hs5 := HS5.out
        rw [hkl] at hs5
        obtain ⟨_, a6, c6, he, _, _⟩ := Sep.rowShape (A := []) hs5
        simp only [Value.slice.injEq] at he
        obtain ⟨rfl, hn5, rfl⟩ := he
        rw [hn5] at hs5
        have hae := Sep.lnkSl (A := []) hs5
        obtain ⟨K, hK⟩ : ∃ K, K = leftR m L := ⟨_, rfl⟩
        have hKT : leftT L (usedR m L) L.length = K := hK.symm
        rw [hKT] at hae hn5
        have HAE := Lib.hid hae
        have HK := Lib.hid hK
        have HLO := Lib.hid (show VOk m K by rw [hK]; exact left_ok HOK.out)
        have HN5 := Lib.hid hn5
        clear hs5 hae hK hKT HS5 hkl hn5
        by_cases ho : 0 ≤ f ∧ f ≤ (m : Int) - 1
        · obtain ⟨o, rfl⟩ := Int.eq_ofNat_of_zero_le ho.1
          have hom : o < m := by omega
          clear ho
          go_wp2_with fail
          refine (flood_ok m _ _ _ _ K o _ HAE.out HN5.out (Nat.le_refl _) HLO.out hom).mono ?_
          rintro e w8 ⟨vl, rfl, hs, hb⟩
          obtain ⟨al, cl, rfl, -, -⟩ := hs.intsShape (A := []) (C := [])
          have HX := Lib.hid (hs.intSl (A := []) (C := []))
          rw [arr_len]
          have HB8 := Lib.hid (HB5.out.trans (hb.mono hg5))
          have hg8 : g ≤ w8.heap.size := Nat.le_trans hg5 hb.size
          obtain ⟨sn, hsn⟩ : ∃ sn, sn = sentOf m K o := ⟨_, rfl⟩
          rw [← hsn]
          have HSN := Lib.hid hsn
          clear hs hb hsn HAE HN5
          go_wp2_with fail
          refine (from_ok m _ _ _ g L o _ (HA.out.below HB8.out) rfl hg8 HOK.out hom).mono ?_
          rintro e w9 ⟨vf, vh, hf, rfl, hhop, hs, hb⟩
          obtain ⟨af, cf, rfl, -, -⟩ := hs.intsShape (A := []) (C := [_])
          obtain ⟨ah, ch, rfl, -, -⟩ := hs.intsShape (A := [_]) (C := [])
          have HY := Lib.hid (hs.intSl (A := []) (C := [_]))
          rw [arr_len]
          have HX9 := Lib.hid ((HX.out.below hb).mono hb.size)
          have HB9 := Lib.hid (HB8.out.trans (hb.mono hg8))
          clear hs hb hhop HX
          obtain ⟨wz, hwz⟩ : ∃ wz, wz = w9 := ⟨_, rfl⟩
          obtain rfl := hwz
          go_wp2
          go_loopg [16, 17] m (fun gk pv iv wx => ∃ i : Nat, gk + i = m ∧ pv = .int .i64 ((psum (tree1 L o) i : Nat) : Int) ∧ iv = .int .i64 i ∧ wx = wz)
          case atStart => exact ⟨0, by omega, rfl, rfl, rfl⟩
          case round =>
            obtain ⟨gj, rfl⟩ : ∃ gj, gj = gk := ⟨_, rfl⟩
            obtain ⟨i, hgj, rfl, rfl, hwx⟩ := hrel
            subst hwx
            obtain ⟨pn, hpn⟩ : ∃ pn, pn = psum (tree1 L o) i := ⟨_, rfl⟩
            rw [← hpn]
            have hpb : pn ≤ 8 := by
              have := psum_le (tree1 L o) 1 (fun k => by unfold tree1; split <;> omega) i
              omega
            by_cases hil : i < m
            · have hii : (i : Int) < (m : Int) := by omega
              have hi0 : (0 : Int) ≤ (i : Int) := by omega
              obtain ⟨b1, o1, rfl, -, t1⟩ := HX9.out i _ (arr_get hil)
              obtain ⟨b2, o2, rfl, -, f1⟩ := HY.out i _ (arr_get hil)
              rw [HK.out, left_copies HOK.out hom hil] at t1
              obtain ⟨fv, hfv⟩ : ∃ fv, fv = far (edges L) o i := ⟨_, rfl⟩
              rw [← hfv] at f1
              by_cases hio : i = o
              · have hq : ((i : Int) != (o : Int)) = false := by simp [hio]
                rw [if_neg (fun h => h.1 hio)] at t1
                have HPN := Lib.hid (show pn = psum (tree1 L o) (i + 1) by rw [psum, hpn]; unfold tree1; rw [if_neg (fun h => h.1 hio)]; rfl)
                clear hfv hio hpn
                go_wp2
                go_roundg (gj - 1)
                case measure => omega
                case rel => exact ⟨i + 1, by omega, by rw [← HPN.out], by go_num, rfl⟩
              · have hq : ((i : Int) != (o : Int)) = true := by simp; omega
                by_cases hr : Rch L o i
                · have hfl : fv < 1000 := by rw [hfv, far_swap HOK.out.net]; exact hr
                  rw [if_pos ⟨hio, hr⟩] at t1
                  have HPN := Lib.hid (show pn + 1 = psum (tree1 L o) (i + 1) by rw [psum, hpn]; unfold tree1; rw [if_pos ⟨hio, hr⟩])
                  clear hfv hio hr hpn
                  go_wp2
                  go_roundg (gj - 1)
                  case measure => omega
                  case rel => exact ⟨i + 1, by omega, by rw [← HPN.out]; go_num, by go_num, rfl⟩
                · have hfl : decide (fv < 1000) = false := decide_eq_false fun h => hr (by show far (edges L) i o < 1000; rw [far_swap HOK.out.net, ← hfv]; exact h)
                  rw [if_neg (fun h => hr h.2)] at t1
                  have HPN := Lib.hid (show pn = psum (tree1 L o) (i + 1) by rw [psum, hpn]; unfold tree1; rw [if_neg (fun h => hr h.2)]; rfl)
                  clear hfv hio hr hpn
                  go_wp2
                  go_roundg (gj - 1)
                  case measure => omega
                  case rel => exact ⟨i + 1, by omega, by rw [← HPN.out], by go_num, rfl⟩
            · have hii : decide ((i : Int) < (m : Int)) = false := decide_eq_false (by omega)
              have him : i = m := by omega
              have hsp : pn = sn := by rw [hpn, HSN.out, HK.out, him, tree_sent HOK.out hom]
              clear hpn him
              subst hsp
              have hee : ((pn : Int) == (pn : Int)) = true := by simp
              go_wp2
              go_ret
              have hb9 := HB9.out
              rw [HG.out] at hb9
              exact ⟨rfl, hb9⟩
        · have hfc : (1 : Int) = fCode m K f := by unfold fCode; rw [if_pos (vCode_nat.2 HLO.out), if_neg ho]
          have HFC := Lib.hid hfc
          have HO := Lib.hid ho
          have hK32 := HLO.out.few
          clear hfc ho
          go_wp2_with fail
          refine (flood_err m _ _ _ _ K f 1 _ HAE.out HN5.out (by omega) (Nat.le_refl _) HFC.out (by decide)).mono ?_
          rintro e w8 ⟨rfl, hb⟩
          have HB8 := Lib.hid (HB5.out.trans (hb.mono hg5))
          clear hb HAE HN5
          go_wp2_with fail
          refine (in3_no _ _ _ _ HO.out).mono ?_
          rintro e w' ⟨rfl, rfl⟩
          go_wp2
          go_ret
          have hb9 := HB8.out
          rw [HG.out] at hb9
          exact ⟨rfl, hb9⟩
  · have HC := Lib.hid hc
    have HC0 := Lib.hid hc0
    clear hc hc0
    go_enter Try.func7, Try.ntmps7
    go_wp2_with fail
    refine (rpfFact_any _).mono ?_
    rintro e w1 ⟨rfl, hb⟩
    have HB1 := Lib.hid (show Below g w w1 by rw [HG.out]; exact hb); clear hb
    have hg1 : g ≤ w1.heap.size := by have := HB1.out.size; rw [← HG.out] at this; exact this
    go_wp2_with fail
    refine (used_err n _ _ _ g L c _ (HA.out.below HB1.out) rfl (by omega) hg1 HC.out HC0.out).mono ?_
    rintro e w2 ⟨rfl, hb⟩
    have HB2 := Lib.hid (HB1.out.trans (hb.mono hg1))
    clear hb
    go_wp2
    go_ret
    have hb9 := HB2.out
    rw [HG.out] at hb9
    exact ⟨rfl, hb9⟩
end Go.Proofs.Ytnmddgjgmdegoaa
