/- StpCut returns true: without a link that the tree does not go over it is the same tree. -/
import Derived.Test.YtkheccnjcaljdaaUsed
import Derived.Test.YtkheccnjcaljdaaIn3
namespace Go.Proofs.Ytkheccnjcaljdaa
open Go.RowKit
set_option linter.unusedVariables false

theorem RowSl.cut {B : Nat} {w : World} {ao : Option Addr} {rows : List (List Value)} {cap k : Nat} (h : RowSl B w ao 3 rows) (hc : rows.length ≤ cap) : RowSl B w (cutAddr ao cap k 3) 3 (rows.drop k) := by
  intro j x hx
  rw [List.getElem?_drop] at hx
  have hj : k + j < rows.length := (List.getElem?_eq_some_iff.1 hx).1
  obtain ⟨b, off, rfl, hb, hcell⟩ := h _ x hx
  refine ⟨b, off + k * 3, ?_, hb, fun t v hv => by rw [show off + k * 3 + j * 3 + t = off + (k + j) * 3 + t by omega]; exact hcell t v hv⟩
  unfold cutAddr
  rw [if_neg (by omega)]
  by_cases hk : k = 0
  · subst hk; simp [Addr.add]
  · simp [Addr.add]; omega
theorem RowSl.first {B : Nat} {w : World} {ao : Option Addr} {rows : List (List Value)} {k : Nat} (h : RowSl B w ao 3 rows) : RowSl B w ao 3 (rows.take k) := by
  intro j x hx
  rw [List.getElem?_take] at hx
  split at hx
  · exact h j x hx
  · cases hx
/-- 'append' of nothing. -/
theorem run_append_empty {P : Program} {w : World} {t e : TypeId} {size bytes : Nat} {z : Value} (T : ElemTy P t e size bytes z) (ty : TypeId) (ao bo : Option Addr) (n cap bc : Nat) (hn : n ≤ cap) :
    (Builtin.append_ #[t, t] ty #[.slice ao n cap, .slice bo 0 bc]).run P w = .ok (.slice ao n cap) w := by
  obtain ⟨ht, ⟨i, hi, hz, rfl, rfl⟩, hzs, hsz⟩ := T
  cases bo <;> cases ao <;> simp [Builtin.append_, run_underlying ht, sizeOf, typeInfo, hi, Builtin.lenOf, Builtin.firstCells, loadCells, loadCellsFrom, hn, storeCells]
/-- 'append(own, links...)'. -/
theorem wpList_append_lnks {B0 g : Nat} {w : World} {v : Value} {M L : List Lnk} {ao : Option Addr} {ac n' : Nat} {ops : Array Oper} {rest : List Oper} {o : Oper} {a : Act} {Q : Exit → Act → World → Prop} (hgd : Region.wanted o (yielded ops a.tmps) = true) (s x : Operand)
    (ho : o.op = .call { callee := .builtin .append, args := #[s, x], argTypes := #[22, 22] }) (hs : a.eval s = v) (hsep : Sep g w [Ent.row v M.length 3 36 (M.flatMap lnkC)]) (hg : g ≤ w.heap.size)
    (hx : a.eval x = .slice ao n' ac) (hn' : n' = L.length) (hA : RowSl B0 w ao 3 (L.map lnkC)) (h64 : M.length + L.length ≤ 64)
    (h : ∀ v' w', Sep g w' [Ent.row v' (M ++ L).length 3 36 ((M ++ L).flatMap lnkC)] → Below g w w' → wpList Try.prog ops Q rest (a.put o.dst v') w') : wpList Try.prog ops Q (o :: rest) a w := by
  subst hn'
  rcases Nat.eq_zero_or_pos L.length with h0 | h0
  · obtain rfl : L = [] := List.eq_nil_of_length_eq_zero h0
    obtain ⟨_, ao', cap, rfl, hc, _⟩ := Sep.rowShape (A := []) hsep
    refine wpList_wanted hgd fun K hK => ?_
    have hr := run_append_empty (w := w) elemLnk o.type ao' ao M.length cap ac hc
    unfold Oper.wp execOp
    simp only [ho, resolve, invoke, builtin, Sem.run_bind, Sem.run_pure, Result.andThen_ok, List.map_toArray, List.map_cons, List.map_nil, hs, hx, List.length_nil, hr]
    exact hK _ _ (h _ _ (by rw [List.append_nil]; exact hsep) (Below.refl _ _))
  · obtain ⟨x0, hx0⟩ : ∃ x, L[0]? = some x := ⟨_, List.getElem?_eq_getElem h0⟩
    obtain ⟨b, off, rfl, _, _⟩ := hA.lnk hx0
    refine wpList_append_sep hgd s x ho elemLnk hs (A := []) (C := []) hsep hg ⟨b, off, none⟩ L.length ac (L.flatMap lnkC) hx (lnk_len L) hA.flat lnk_one h0 (by omega) (by unfold maxLen; omega) ?_
    intro v' w' hsep hb
    refine h v' w' ?_ hb
    rw [List.length_append, List.flatMap_append]
    exact hsep

theorem cut_ok {n : Nat} {L : List Lnk} (h : VOk n L) (k : Nat) : VOk n (L.take k ++ L.drop (k + 1)) := by
  refine ⟨h.n1, h.n8, ?_, fun x hx => ?_⟩
  · have := h.few
    rw [List.length_append, List.length_take, List.length_drop]
    omega
  · rcases List.mem_append.1 hx with hx | hx
    · exact h.each x (List.mem_of_mem_take hx)
    · exact h.each x (List.mem_of_mem_drop hx)
theorem tree_cut {n : Nat} {L : List Lnk} (h : VOk n L) {k : Nat} (hk : usedR n L k = false) : arr (fun i => (rootF n (edges (L.take k ++ L.drop (k + 1))) i : Int)) n = arr (fun i => (rootF n (edges L) i : Int)) n ∧
    arr (fun i => far (edges (L.take k ++ L.drop (k + 1))) i (rootF n (edges (L.take k ++ L.drop (k + 1))) i)) n = arr (fun i => far (edges L) i (rootF n (edges L) i)) n ∧
    arr (fun i => hopOf n (edges (L.take k ++ L.drop (k + 1))) i (rootF n (edges (L.take k ++ L.drop (k + 1))) i)) n = arr (fun i => hopOf n (edges L) i (rootF n (edges L) i)) n := by
  have hr : ∀ i, i < n → _ := fun i hi => keep_used h (cut_ok h k) (fun x hx => by
    rcases List.mem_append.1 hx with hx | hx
    · exact List.mem_of_mem_take hx
    · exact List.mem_of_mem_drop hx) (fun p x hx hu => by
      have hpk : p ≠ k := fun e => by subst e; rw [hk] at hu; cases hu
      rw [List.mem_append]
      rcases Nat.lt_or_ge p k with hl | hl
      · exact .inl (List.mem_iff_getElem?.2 ⟨p, by rw [List.getElem?_take_of_lt hl]; exact hx⟩)
      · exact .inr (List.mem_iff_getElem?.2 ⟨p - (k + 1), by rw [List.getElem?_drop, show k + 1 + (p - (k + 1)) = p by omega]; exact hx⟩)) hi
  refine ⟨arr_congr fun i hi => by rw [(hr i hi).1], arr_congr fun i hi => ?_, arr_congr fun i hi => ?_⟩
  · rw [(hr i hi).1]; exact (hr i hi).2.1
  · rw [(hr i hi).1]; exact (hr i hi).2.2

set_option maxHeartbeats 4000000 in
set_option maxRecDepth 100000 in
theorem stpCut_walk (n : Int) (ao : Option Addr) (ac : Nat) (L : List Lnk) (f : Int) (w : World) (hnb : -9223372036854775808 ≤ n ∧ n ≤ 9223372036854775807) (hA : RowSl w.heap.size w ao 3 (L.map lnkC)) (hac : L.length ≤ ac) (hmax : ac ≤ maxLen) (hgood : ∀ x ∈ L, LnkGood x)
    (hfb : -9223372036854775808 ≤ f ∧ f ≤ 9223372036854775807) :
    Calls Try.prog 8 #[.int .i64 n, .slice ao L.length ac, .int .i64 f] w fun e w' => e = .returned (.bool true) ∧ Below w.heap.size w w' := by
  unfold maxLen at hmax
  have HA := Lib.hid hA; clear hA hgood
  obtain ⟨g, hg⟩ : ∃ g, g = w.heap.size := ⟨_, rfl⟩
  rw [← hg] at HA
  have HG := Lib.hid hg; clear hg
  have hci : Try.prog.cellsOf 3 = 1 := by kernel_rfl
  obtain ⟨c, hc⟩ : ∃ c, c = vCode n L := ⟨_, rfl⟩
  by_cases hc0 : c = 0
  · obtain ⟨m, rfl, hok⟩ := vCode_zero.1 (hc.symm.trans hc0)
    clear hc hc0
    have hn8 := hok.n8
    have hn1 := hok.n1
    have hl32 := hok.few
    have HOK := Lib.hid hok; clear hok
    go_enter Try.func8, Try.ntmps8
    go_wp2_with fail
    refine (stpFact_any _).mono ?_
    rintro e w1 ⟨rfl, hb⟩
    have HB1 := Lib.hid (show Below g w w1 by rw [HG.out]; exact hb); clear hb
    have hg1 : g ≤ w1.heap.size := by have := HB1.out.size; rw [← HG.out] at this; exact this
    go_wp2_with fail
    refine (tree_ok m _ _ _ g L _ (HA.out.below HB1.out) rfl hg1 HOK.out).mono ?_
    rintro e w2 ⟨vr, vf, vo, rfl, hs, hb⟩
    obtain ⟨gr, fr, cr, gf, ff, cf, go, fo, co, rfl, rfl, rfl, h1, h2, h3⟩ := tree_shape hs (by omega)
    have HX := Lib.hid h1
    have HY := Lib.hid h2
    have HZ := Lib.hid h3
    have HB2 := Lib.hid (HB1.out.trans (hb.mono hg1))
    have hg2 : g ≤ w2.heap.size := by have := HB2.out.size; rw [← HG.out] at this; exact this
    clear hs hb h1 h2 h3
    go_wp2_with fail
    refine (used_ok m _ _ _ g L _ (HA.out.below HB2.out) rfl hg2 HOK.out).mono ?_
    rintro e w3 ⟨gd, rfl, hs, hb⟩
    have HU := Lib.hid hs
    have HX3 := Lib.hid ((HX.out.below hb).mono hb.size)
    have HY3 := Lib.hid ((HY.out.below hb).mono hb.size)
    have HZ3 := Lib.hid ((HZ.out.below hb).mono hb.size)
    have HB3 := Lib.hid (HB2.out.trans (hb.mono hg2))
    have hg3 : g ≤ w3.heap.size := by have := HB3.out.size; rw [← HG.out] at this; exact this
    clear hs hb HX HY HZ
    have hll : ((L.length : Int) != (L.length : Int)) = false := by simp
    by_cases hin : 0 ≤ f ∧ f ≤ (L.length : Int) - 1
    · obtain ⟨k, rfl⟩ := Int.eq_ofNat_of_zero_le hin.1
      have hkl : k < L.length := by omega
      have hki : (k : Int) < (L.length : Int) := by omega
      have hk0 : (0 : Int) ≤ (k : Int) := by omega
      obtain ⟨d1, _, _⟩ := arrB_at (A := []) HU.out hkl
      go_wp2_with fail
      refine (in3_yes (k : Int) 0 ((L.length : Int) - 1) _ hin.1 hin.2).mono ?_
      rintro e w' ⟨rfl, rfl⟩
      clear hin hfb
      cases hu : usedR m L k with
      | true =>
        rw [hu] at d1
        clear hu
        go_wp2
        go_ret
        exact ⟨rfl, by have := HB3.out; rw [HG.out] at this; exact this⟩
      | false =>
        rw [hu] at d1
        have hcut := tree_cut HOK.out hu
        have HCUT := Lib.hid hcut
        clear hu hcut
        have hA3 := HA.out.below HB3.out
        have hT := hA3.first (k := k)
        have hD := hA3.cut (k := k + 1) (cap := ac) (by rw [List.length_map]; exact hac)
        rw [← List.map_take] at hT
        rw [← List.map_drop] at hD
        have HT := Lib.hid hT
        have HD := Lib.hid hD
        have hlt : (L.take k).length = k := by rw [List.length_take]; omega
        have hld : (L.drop (k + 1)).length = L.length - (k + 1) := by rw [List.length_drop]
        have HLT := Lib.hid hlt
        have HLD := Lib.hid hld
        have HNIL := Lib.hid ((Sep.nil w3.heap.size w3).rowNil 3 36)
        have hlen1 : ([] : List Lnk).length + (L.take k).length ≤ 64 := by rw [hlt]; simp; omega
        have hlen2 : ([] ++ L.take k : List Lnk).length + (L.drop (k + 1)).length ≤ 64 := by rw [List.nil_append, hlt, hld]; omega
        obtain ⟨M, hM⟩ : ∃ M, M = L.take k := ⟨_, rfl⟩
        obtain ⟨D, hD'⟩ : ∃ D, D = L.drop (k + 1) := ⟨_, rfl⟩
        rw [← hM] at HT HLT hlen1 hlen2
        rw [← hD'] at HD HLD hlen2
        have HM := Lib.hid hM
        have HDD := Lib.hid hD'
        rw [List.nil_append] at hlen2
        have HL1 := Lib.hid hlen1
        have HL2 := Lib.hid hlen2
        have hka : k ≤ ac := by omega
        have hkl1 : k + 1 ≤ L.length := by omega
        clear hA3 hT hD hlt hld hlen1 hlen2 hM hD'
        go_wp2_with (first | (with_reducible refine wpList_slice_to rfl (.tmp 68) (.tmp 69) rfl elemLnk _ _ _ rfl k .i64 rfl hka ?_) | (at_builtin; refine wpList_append_lnks (B0 := g) (g := w3.heap.size) (w := w3) (v := .slice none 0 0) (M := []) (L := M) (ao := ao) (ac := ac) (n' := k) ?_ (.tmp 67) (.tmp 70) ?_ ?_ ?_ ?_ ?_ ?_ ?_ ?_ ?_; rfl; rfl; rfl; exact HNIL.out; exact Nat.le_refl _; rfl; exact HLT.out.symm; exact HT.out; exact HL1.out))
        intro v4 w4 hs4 hb4
        have HS4 := Lib.hid hs4
        have HB4 := Lib.hid hb4
        have HD4 := Lib.hid (HD.out.below (hb4.mono hg3))
        have hg4 : w3.heap.size ≤ w4.heap.size := hb4.size
        clear hs4 hb4 d1
        go_wp2_with (first | (with_reducible refine wpList_slice_from rfl (.tmp 73) (.tmp 75) rfl elemLnk _ _ _ rfl (k + 1) .i64 ?_ hkl1 ?_; exact rfl) | (at_builtin; refine wpList_append_lnks (B0 := g) (g := w3.heap.size) (w := w4) (v := v4) (M := M) (L := D) (ao := cutAddr ao ac (k + 1) 3) (ac := ac - (k + 1)) (n' := L.length - (k + 1)) ?_ (.tmp 72) (.tmp 76) ?_ ?_ ?_ ?_ ?_ ?_ ?_ ?_ ?_; rfl; rfl; rfl; exact HS4.out; exact hg4; rfl; exact HLD.out.symm; exact HD4.out; exact HL2.out))
        all_goals
          intro v5 w5 hs5 hb5
          rw [HM.out, HDD.out, ← List.flatMap_append] at hs5
          have hle : (L.take k).length + (L.drop (k + 1)).length = (L.take k ++ L.drop (k + 1)).length := List.length_append.symm
          have HLE := Lib.hid hle
          clear hle
          obtain ⟨_, ae, ce, rfl, _, _⟩ := Sep.rowShape (A := []) hs5
          have HAE := Lib.hid (Sep.lnkSl (A := []) hs5)
          have hbw := HB4.out.trans hb5
          have HB6 := Lib.hid (HB3.out.trans (hbw.mono hg3))
          have hg6 : g ≤ w5.heap.size := by have := HB6.out.size; rw [← HG.out] at this; exact this
          have HX6 := Lib.hid ((HX3.out.below hbw).mono hbw.size)
          have HY6 := Lib.hid ((HY3.out.below hbw).mono hbw.size)
          have HZ6 := Lib.hid ((HZ3.out.below hbw).mono hbw.size)
          clear hs5 hb5 hbw HX3 HY3 HZ3 HS4
          go_wp2_with fail
          refine (tree_ok m _ _ _ _ (L.take k ++ L.drop (k + 1)) _ HAE.out (by first | exact HLE.out | simp) (Nat.le_refl _) (cut_ok HOK.out k)).mono ?_
          rintro e w8 ⟨vr, vf, vo, rfl, hs, hb⟩
          rw [HCUT.out.1, HCUT.out.2.1, HCUT.out.2.2] at hs
          obtain ⟨gr', fr', cr', gf', ff', cf', go', fo', co', rfl, rfl, rfl, h1, h2, h3⟩ := tree_shape hs (by omega)
          have HX8 := Lib.hid ((HX6.out.below hb).mono hb.size)
          have HY8 := Lib.hid ((HY6.out.below hb).mono hb.size)
          have HZ8 := Lib.hid ((HZ6.out.below hb).mono hb.size)
          have HX9 := Lib.hid h1
          have HY9 := Lib.hid h2
          have HZ9 := Lib.hid h3
          have HB8 := Lib.hid (HB6.out.trans (hb.mono hg6))
          have hg8 : g ≤ w8.heap.size := by have := HB8.out.size; rw [← HG.out] at this; exact this
          clear hs hb h1 h2 h3 HCUT
          go_wp2_with fail
          refine (ints_any _ _ _ _ _ _ _ _ _ _ true _ HX9.out HX8.out (arr_len _ _).symm (arr_len _ _).symm (by rw [arr_len]; omega) (by rw [decide_eq_true]; rfl)).mono ?_
          rintro e w9 ⟨rfl, hd⟩
          have hb9 := below_of_drew hd
          have HB9 := Lib.hid (HB8.out.trans (hb9.mono hg8))
          have HY10 := Lib.hid ((HY8.out.below hb9).mono hb9.size)
          have HZ10 := Lib.hid ((HZ8.out.below hb9).mono hb9.size)
          have HY11 := Lib.hid ((HY9.out.below hb9).mono hb9.size)
          have HZ11 := Lib.hid ((HZ9.out.below hb9).mono hb9.size)
          clear hd hb9
          go_wp2_with fail
          refine (ints_any _ _ _ _ _ _ _ _ _ _ true _ HY11.out HY10.out (arr_len _ _).symm (arr_len _ _).symm (by rw [arr_len]; omega) (by rw [decide_eq_true]; rfl)).mono ?_
          rintro e w10 ⟨rfl, hd⟩
          have hb10 := below_of_drew hd
          have hg9 : g ≤ w9.heap.size := by have := HB9.out.size; rw [← HG.out] at this; exact this
          have HB10 := Lib.hid (HB9.out.trans (hb10.mono hg9))
          have HZ12 := Lib.hid (HZ10.out.below hb10)
          have HZ13 := Lib.hid (HZ11.out.below hb10)
          clear hd hb10
          go_wp2_with fail
          refine (ints_any _ _ _ _ _ _ _ _ _ _ true _ HZ13.out HZ12.out (arr_len _ _).symm (arr_len _ _).symm (by rw [arr_len]; omega) (by rw [decide_eq_true]; rfl)).mono ?_
          rintro e w11 ⟨rfl, hd⟩
          have hb11 := below_of_drew hd
          have hg10 : g ≤ w10.heap.size := by have := HB10.out.size; rw [← HG.out] at this; exact this
          have HB11 := Lib.hid (HB10.out.trans (hb11.mono hg10))
          clear hd hb11
          go_wp2
          go_ret
          exact ⟨rfl, by have := HB11.out; rw [HG.out] at this; exact this⟩
    · go_wp2_with fail
      refine (in3_no f 0 ((L.length : Int) - 1) _ hin).mono ?_
      rintro e w' ⟨rfl, rfl⟩
      go_wp2
      go_ret
      exact ⟨rfl, by have := HB3.out; rw [HG.out] at this; exact this⟩
  · have HC := Lib.hid hc; clear hc
    have H0 := Lib.hid hc0; clear hc0
    go_enter Try.func8, Try.ntmps8
    go_wp2_with fail
    refine (stpFact_any _).mono ?_
    rintro e w1 ⟨rfl, hb⟩
    have HB1 := Lib.hid (show Below g w w1 by rw [HG.out]; exact hb); clear hb
    have hg1 : g ≤ w1.heap.size := by have := HB1.out.size; rw [← HG.out] at this; exact this
    go_wp2_with fail
    refine (tree_err _ _ _ _ _ L c _ (HA.out.below HB1.out) rfl (by omega) hg1 HC.out H0.out).mono ?_
    rintro e w2 ⟨rfl, hb⟩
    have HB2 := Lib.hid (HB1.out.trans (hb.mono hg1)); clear hb
    have hg2 : g ≤ w2.heap.size := by have := HB2.out.size; rw [← HG.out] at this; exact this
    go_wp2_with fail
    refine (used_err _ _ _ _ _ L c _ (HA.out.below HB2.out) rfl (by omega) hg2 HC.out H0.out).mono ?_
    rintro e w3 ⟨rfl, hb⟩
    have HB3 := Lib.hid (HB2.out.trans (hb.mono hg2)); clear hb
    go_wp2
    go_ret
    exact ⟨rfl, by have := HB3.out; rw [HG.out] at this; exact this⟩
end Go.Proofs.Ytkheccnjcaljdaa
