/- SpfLess returns true: one link more makes nothing farther; one that is no shorter changes nothing. -/
import Derived.Test.YtciolkmhafdlpaaSpfFact
import Derived.Test.YtciolkmhafdlpaaMore
import Derived.Test.YtciolkmhafdlpaaLnkRow
import Derived.Test.YtciolkmhafdlpaaIn3
namespace Go.Proofs.Ytciolkmhafdlpaa
open Go.RowKit
set_option linter.unusedVariables false

/-- 'append(nil, s...)' of an empty s. -/
theorem wpList_append_nothing {P : Program} {w : World} {t e : TypeId} {size bytes : Nat} {z : Value} {ops : Array Oper} {rest : List Oper} {o : Oper} {a : Act} {Q : Exit → Act → World → Prop} (hgd : Region.wanted o (yielded ops a.tmps) = true) (s x : Operand)
    (ho : o.op = .call { callee := .builtin .append, args := #[s, x], argTypes := #[t, t] }) (T : ElemTy P t e size bytes z) (hs : a.eval s = .slice none 0 0) (ao : Option Addr) (ac : Nat) (hx : a.eval x = .slice ao 0 ac)
    (h : wpList P ops Q rest (a.put o.dst (.slice none 0 0)) w) : wpList P ops Q (o :: rest) a w := by
  refine wpList_wanted hgd fun K hK => ?_
  obtain ⟨ht, ⟨i, hi, hz, rfl, rfl⟩, hzs, hsz⟩ := T
  have hr : (Builtin.append_ #[t, t] o.type #[.slice none 0 0, .slice ao 0 ac]).run P w = .ok (.slice none 0 0) w := by
    cases ao <;> simp [Builtin.append_, run_underlying ht, sizeOf, typeInfo, hi, Builtin.lenOf, Builtin.firstCells, loadCells, loadCellsFrom]
  unfold Oper.wp execOp
  simp only [ho, resolve, invoke, builtin, Sem.run_bind, Sem.run_pure, Result.andThen_ok, List.map_toArray, List.map_cons, List.map_nil, hs, hx, hr]
  exact hK _ _ h

/-- 'append(nil, links...)'. -/
theorem wpList_append_links {B : Nat} {w : World} {ao : Option Addr} {ac : Nat} {L : List Lnk} {ops : Array Oper} {rest : List Oper} {o : Oper} {a : Act} {Q : Exit → Act → World → Prop} (hgd : Region.wanted o (yielded ops a.tmps) = true) (s x : Operand)
    (ho : o.op = .call { callee := .builtin .append, args := #[s, x], argTypes := #[39, 39] }) (hs : a.eval s = .slice none 0 0) (hx : a.eval x = .slice ao L.length ac) (hA : RowSl B w ao 3 (L.map lnkC)) (h32 : L.length ≤ 32) (g : Nat) (hg : g ≤ w.heap.size)
    (h : ∀ v' w', Sep g w' [Ent.row v' L.length 3 46 (L.flatMap lnkC)] → Below g w w' → wpList Try.prog ops Q rest (a.put o.dst v') w') : wpList Try.prog ops Q (o :: rest) a w := by
  rcases Nat.eq_zero_or_pos L.length with h0 | h0
  · obtain rfl : L = [] := List.eq_nil_of_length_eq_zero h0
    exact wpList_append_nothing hgd s x ho elemLnk hs ao ac hx (h _ _ ((Sep.nil g w).rowNil 3 _) (Below.refl _ _))
  · obtain ⟨x0, hx0⟩ : ∃ x, L[0]? = some x := ⟨_, List.getElem?_eq_getElem h0⟩
    obtain ⟨b, off, rfl, _, _⟩ := hA.lnk hx0
    refine wpList_append_sep hgd s x ho elemLnk hs (A := []) (C := []) ((Sep.nil g w).rowNil 3 _) hg ⟨b, off, none⟩ L.length ac (L.flatMap lnkC) hx (lnk_len L) hA.flat lnk_one h0 (by omega) (by unfold maxLen; omega) ?_
    intro v' w' hsep hb
    rw [Nat.zero_add, List.nil_append] at hsep
    exact h v' w' hsep hb

/-- 'append(all, more)'. -/
theorem wpList_append_link {B : Nat} {w : World} {v : Value} {n : Nat} {xs : List Value} {xa xb xc : Int} {te : TypeId} {ops : Array Oper} {rest : List Oper} {o : Oper} {a : Act} {Q : Exit → Act → World → Prop} (hgd : Region.wanted o (yielded ops a.tmps) = true) (s x : Operand)
    (ho : o.op = .call { callee := .builtin .append, args := #[s, x], argTypes := #[39, 39] }) (hs : a.eval s = v) (hsep : Sep B w [Ent.row v n 3 46 xs]) (hB : B ≤ w.heap.size)
    (hx : a.eval x = .slice (some ⟨w.heap.size, 0, none⟩) 1 1) (hn : n ≤ 40)
    (h : ∀ v' w', Sep B w' [Ent.row v' (n + 1) 3 46 (xs ++ lnkC (xa, xb, xc))] → Below B w w' → wpList Try.prog ops Q rest (a.put o.dst v') w') :
    wpList Try.prog ops Q (o :: rest) a (w.alloc (.cells #[.int .i64 xa, .int .i64 xb, .int .i64 xc] te)) := by
  refine wpList_append_sep hgd s x ho elemLnk hs (A := []) (C := []) (hsep.alloc _) (by simp; omega) ⟨w.heap.size, 0, none⟩ 1 1 [.int .i64 xa, .int .i64 xb, .int .i64 xc] hx rfl ?_ ?_ (by decide) (by omega) (by unfold maxLen; omega) ?_
  · intro j u hu
    rw [show (⟨w.heap.size, 0, none⟩ : Addr).add j = ⟨w.heap.size, 0 + j, none⟩ by unfold Addr.add; split <;> simp_all, World.cell?_alloc_mark, Nat.zero_add]
    rw [← hu]; simp
  · intro u hu
    simp only [List.mem_cons, List.not_mem_nil, or_false] at hu
    rcases hu with rfl | rfl | rfl <;> rfl
  · intro v' w' h1 h2
    exact h v' w' h1 (((Below.refl B w).alloc hB _).trans h2)

set_option maxHeartbeats 4000000 in
set_option maxRecDepth 100000 in
theorem spfLess_walk (n : Int) (ao : Option Addr) (ac : Nat) (L : List Lnk) (f xa xb xc : Int) (w : World) (_ : -9223372036854775808 ≤ n ∧ n ≤ 9223372036854775807) (hA : RowSl w.heap.size w ao 3 (L.map lnkC)) (hac : L.length ≤ ac) (hmax : ac ≤ maxLen) (hgood : ∀ x ∈ L, LnkGood x)
    (_ : -9223372036854775808 ≤ f ∧ f ≤ 9223372036854775807) (hmore : LnkGood (xa, xb, xc)) :
    Calls Try.prog 9 #[.int .i64 n, .slice ao L.length ac, .int .i64 f, .agg #[.int .i64 xa, .int .i64 xb, .int .i64 xc]] w fun e w' => e = .returned (.bool true) ∧ Below w.heap.size w w' := by
  unfold maxLen at hmax
  have HA := Lib.hid hA; clear hA hgood
  obtain ⟨g, hg⟩ : ∃ g, g = w.heap.size := ⟨_, rfl⟩
  rw [← hg] at HA
  have hb0 : Below g w (w.alloc (.cells #[.int .i64 xa, .int .i64 xb, .int .i64 xc] 46)) := by rw [hg]; exact below_alloc w _
  have hs0 : Sep g (w.alloc (.cells #[.int .i64 xa, .int .i64 xb, .int .i64 xc] 46)) [Ent.blk1 g 46 [.int .i64 xa, .int .i64 xb, .int .i64 xc]] := by rw [hg]; exact Sep.blkNew (Sep.nil w.heap.size w) (Nat.le_refl _) _ _
  have hz0 : (w.alloc (.cells #[.int .i64 xa, .int .i64 xb, .int .i64 xc] 46)).heap.size = g + 1 := by rw [hg]; simp
  have HS0 := Lib.hid hs0
  have HB0 := Lib.hid hb0
  have HZ0 := Lib.hid hz0
  have HG := Lib.hid hg
  clear hs0 hb0 hz0
  go_enter Try.func9, Try.ntmps9
  go_upto_region 1 with fail
  rw [← hg]
  clear hg
  generalize w.alloc (.cells #[.int .i64 xa, .int .i64 xb, .int .i64 xc] 46) = w0 at *
  have hg0 : g ≤ w0.heap.size := by have := HZ0.out; omega
  go_wp2_with fail
  refine (spfFact_any _).mono ?_
  rintro e w1 ⟨rfl, hb⟩
  have HB1 := Lib.hid (HB0.out.trans (hb.mono hg0))
  have HS1 := Lib.hid (HS0.out.kept hb)
  have hg1 : g + 1 ≤ w1.heap.size := by have := hb.size; have := HZ0.out; omega
  clear hb
  obtain ⟨c, hc⟩ : ∃ c, c = fCode n L f := ⟨_, rfl⟩
  by_cases hc0 : c = 0
  · obtain ⟨m, p, rfl, rfl, hp, hok⟩ := fCode_zero.1 (hc.symm.trans hc0)
    clear hc hc0
    have hn8 := hok.n8
    have hn1 := hok.n1
    have hl32 := hok.few
    have HOK := Lib.hid hok; clear hok
    go_wp2_with fail
    refine (from_ok m _ _ _ g L p _ (HA.out.below HB1.out) rfl (by omega) HOK.out hp).mono ?_
    rintro e w2 ⟨vf, vh, hf, rfl, hhop, hs, hb⟩
    obtain ⟨af, cf, rfl, hcf, _⟩ := hs.intsShape (A := []) (C := [_])
    have hfarc := fun (k : Nat) (hk : k < m) => (hs.intSl (A := []) (C := [_])) k _ (arr_get hk)
    rw [arr_len] at hcf ⊢
    have HB2 := Lib.hid (HB1.out.trans (hb.mono (by omega)))
    have HS2 := Lib.hid (HS1.out.kept hb)
    have hg2 : g + 1 ≤ w2.heap.size := Nat.le_trans hg1 hb.size
    have hn0 : 0 < m := by omega
    obtain ⟨bf, of', rfl, hbf, _⟩ := hfarc 0 hn0
    have hfc : ∀ W, Below w2.heap.size w2 W → ∀ k, k < m → W.cell? ⟨bf, of' + k, none⟩ = some (.int .i64 (far (edges L) p k)) := fun W hW k hk => by
      obtain ⟨b', o', he, _, c1⟩ := hfarc k hk
      simp only [Option.some.injEq, Addr.mk.injEq, and_true] at he
      obtain ⟨rfl, rfl⟩ := he
      exact (hW.cell (p := ⟨bf, of' + k, none⟩) hbf).trans c1
    have HFC := Lib.hid hfc
    clear hs hb hhop hfarc hfc
    by_cases h32 : L.length = 32
    · have hl : ((L.length : Int) == 32) = true := by simp; omega
      go_wp2
      go_ret
      exact ⟨rfl, by have := HB2.out; rw [HG.out] at this; exact this⟩
    · have hl : ((L.length : Int) == 32) = false := by simp; omega
      have hA2 := HA.out.below HB2.out
      have HA2 := Lib.hid hA2; clear hA2
      obtain ⟨g2, hg2e⟩ : ∃ g2, g2 = w2.heap.size := ⟨_, rfl⟩
      have hgg : g2 ≤ w2.heap.size := Nat.le_of_eq hg2e
      have HG2 := Lib.hid hg2e; clear hg2e
      have hlr : L.length ≤ 31 := by omega
      go_wp2_with (at_builtin; refine wpList_append_links (B := g) (ao := ao) (ac := ac) (L := L) ?_ (.tmp 43) (.tmp 44) ?_ ?_ ?_ ?_ ?_ g2 ?_ ?_; rfl; rfl; rfl; rfl; exact HA2.out; exact Nat.le_trans hlr (by decide); exact hgg)
      intro v3 w3 hs hb
      have hb3 : Below w2.heap.size w2 w3 := by rw [← HG2.out]; exact hb
      have HB3 := Lib.hid (HB2.out.trans (hb3.mono (by omega)))
      have HM3 := Lib.hid (HS2.out.kept hb3)
      have HK3 := Lib.hid hb3
      have hg3 : g2 ≤ w3.heap.size := by rw [HG2.out]; exact hb3.size
      have HS3 := Lib.hid hs
      obtain ⟨m0, _⟩ := Sep.blkAt (A := []) HM3.out (j := 0) rfl
      obtain ⟨m1, _⟩ := Sep.blkAt (A := []) HM3.out (j := 1) rfl
      obtain ⟨m2, _⟩ := Sep.blkAt (A := []) HM3.out (j := 2) rfl
      clear hs hb hb3
      go_wp2_with (at_builtin; refine wpList_append_link (B := g2) (w := w3) (v := v3) (n := L.length) (xs := L.flatMap lnkC) ?_ (.tmp 48) (.tmp 50) ?_ ?_ ?_ ?_ ?_ ?_ ?_; rfl; rfl; rfl; exact HS3.out; exact hg3; rfl; exact Nat.le_trans hlr (by decide))
      intro v5 w5 hs hb
      have hfl : L.flatMap lnkC ++ lnkC (xa, xb, xc) = (L ++ [(xa, xb, xc)]).flatMap lnkC := by simp
      rw [hfl] at hs
      obtain ⟨_, ao5, c5, rfl, _, _⟩ := Sep.rowShape (A := []) hs
      have hA5 := Sep.lnkSl (A := []) hs
      have hk5 : Below w2.heap.size w2 w5 := HK3.out.trans (by rw [← HG2.out]; exact hb)
      have HA5 := Lib.hid hA5
      have HK5 := Lib.hid hk5
      have HB5 := Lib.hid (HB2.out.trans (hk5.mono (by omega)))
      have hg5 : g + 1 ≤ w5.heap.size := Nat.le_trans hg2 hk5.size
      have hll : L.length + 1 = (L ++ [(xa, xb, xc)]).length := by simp
      have HLL := Lib.hid hll
      have hl33 : (L ++ [(xa, xb, xc)]).length ≤ 33 := by simp; omega
      clear hs hb hfl hA5 hk5 hll m0 m1 m2
      obtain ⟨c, hc⟩ : ∃ c, c = fCode m (L ++ [(xa, xb, xc)]) p := ⟨_, rfl⟩
      by_cases hc0 : c = 0
      · obtain ⟨m', p', hm', hp', _, hok'⟩ := fCode_zero.1 (hc.symm.trans hc0)
        obtain rfl : m' = m := by omega
        clear hc hc0 hm' hp'
        have hlok := hok'.less
        obtain ⟨⟨la1, la2⟩, ⟨lb1, lb2⟩, ⟨lc1, lc2⟩, lne⟩ := hlok
        simp only at la1 la2 lb1 lb2 lc1 lc2 lne
        obtain ⟨A, rfl⟩ := Int.eq_ofNat_of_zero_le la1
        obtain ⟨B, rfl⟩ := Int.eq_ofNat_of_zero_le lb1
        have hAm : A < m' := by omega
        have hBm : B < m' := by omega
        have HOK' := Lib.hid hok'; clear hok'
        obtain ⟨m, hmm'⟩ : ∃ m, m = m' := ⟨_, rfl⟩
        subst hmm'
        go_wp2_with fail
        refine (from_ok m _ _ _ _ (L ++ [((A : Int), (B : Int), xc)]) p _ HA5.out HLL.out (Nat.le_refl _) HOK'.out hp).mono ?_
        rintro e w6 ⟨vf2, vh2, hf2, rfl, hhop, hs, hb⟩
        obtain ⟨af2, cf2, rfl, hcf2, _⟩ := hs.intsShape (A := []) (C := [_])
        have hfarc := fun (k : Nat) (hk : k < m) => (hs.intSl (A := []) (C := [_])) k _ (arr_get hk)
        rw [arr_len] at hcf2 ⊢
        obtain ⟨bg, og, rfl, hbg, _⟩ := hfarc 0 hn0
        have hk6 : Below w2.heap.size w2 w6 := HK5.out.trans (hb.mono HK5.out.size)
        have HB6 := Lib.hid (HB2.out.trans (hk6.mono (by omega)))
        have hg6 : g ≤ w6.heap.size := by have := hk6.size; omega
        have hcell : ∀ W, Below w6.heap.size w6 W → ∀ k, k < m → W.cell? ⟨bf, of' + k, none⟩ = some (.int .i64 (far (edges L) p k)) ∧ W.cell? ⟨bg, og + k, none⟩ = some (.int .i64 (far (edges (L ++ [((A : Int), (B : Int), xc)])) p k)) ∧
            far (edges (L ++ [((A : Int), (B : Int), xc)])) p k ≤ far (edges L) p k ∧ (far (edges L) p B ≤ far (edges L) p A + xc ∧ far (edges L) p A ≤ far (edges L) p B + xc → far (edges (L ++ [((A : Int), (B : Int), xc)])) p k = far (edges L) p k) := fun W hW k hk => by
          refine ⟨HFC.out W (hk6.trans (hW.mono hk6.size)) k hk, ?_, far_mono HOK.out.net HOK'.out.net more_edges.1, fun h => far_same HOK.out.net HOK'.out.net hn8 more_edges.1 more_edges.2 h.1 h.2 hp hk⟩
          obtain ⟨b', o', he, _, c1⟩ := hfarc k hk
          simp only [Option.some.injEq, Addr.mk.injEq, and_true] at he
          obtain ⟨rfl, rfl⟩ := he
          exact (hW.cell (p := ⟨bg, og + k, none⟩) hbg).trans c1
        have HCELL := Lib.hid hcell
        have hs6 := HS2.out.kept hk6
        obtain ⟨d0, _⟩ := Sep.blkAt (A := []) hs6 (j := 0) rfl
        obtain ⟨d1, _⟩ := Sep.blkAt (A := []) hs6 (j := 1) rfl
        obtain ⟨d2, _⟩ := Sep.blkAt (A := []) hs6 (j := 2) rfl
        have fa := (hcell w6 (Below.refl _ _) A hAm).1
        have fb := (hcell w6 (Below.refl _ _) B hBm).1
        have hnf := fun x => And.intro (far_nonneg HOK.out.net (u := p) (v := x)) (far_le HOK.out.net (u := p) (v := x))
        have ra := hnf A
        have rb := hnf B
        obtain ⟨ya, hya⟩ : ∃ ya, ya = far (edges L) p A := ⟨_, rfl⟩
        obtain ⟨yb, hyb⟩ : ∃ yb, yb = far (edges L) p B := ⟨_, rfl⟩
        rw [← hya] at fa ra
        rw [← hyb] at fb rb
        have HYA := Lib.hid hya
        have HYB := Lib.hid hyb
        obtain ⟨s1, hs1⟩ : ∃ s1, s1 = ya + xc := ⟨_, rfl⟩
        obtain ⟨s2, hs2⟩ : ∃ s2, s2 = yb + xc := ⟨_, rfl⟩
        have hw1 : IntKind.i64.wrap (ya + xc) = s1 := by rw [hs1]; simp [IntKind.wrap, IntKind.bits, IntKind.signed]; omega
        have hw2 : IntKind.i64.wrap (yb + xc) = s2 := by rw [hs2]; simp [IntKind.wrap, IntKind.bits, IntKind.signed]; omega
        have hAi : (A : Int) < (m : Int) := by omega
        have hBi : (B : Int) < (m : Int) := by omega
        have hmm : ((m : Int) != (m : Int)) = false := by simp
        clear hs hb hhop hfarc hk6 hcell hs6 hnf hya hyb ra rb
        go_wp2_with fail
        refine (in3_yes (A : Int) 0 ((m : Int) - 1) _ la1 la2).mono ?_
        rintro e w' ⟨rfl, rfl⟩
        go_wp2_with fail
        refine (in3_yes (B : Int) 0 ((m : Int) - 1) _ lb1 lb2).mono ?_
        rintro e w' ⟨rfl, rfl⟩
        by_cases h1 : yb ≤ s1
        · by_cases h2 : ya ≤ s2
          · have HSA := Lib.hid (show far (edges L) p B ≤ far (edges L) p A + xc ∧ far (edges L) p A ≤ far (edges L) p B + xc by
              rw [← HYA.out, ← HYB.out]; omega)
            have q1 : decide (yb ≤ s1) = true := decide_eq_true h1
            have q2 : decide (ya ≤ s2) = true := decide_eq_true h2
            clear hs1 hs2
            go_wp2_with fail
            go_quiet (fail)
            have HB8 := Lib.hid (below_drewN w6.heap.size w6 nq)
            clear d0 d1 d2 fa fb
            generalize w6.drewN nq = w8 at *
            go_wp2
            go_loopg [17] m (fun gk iv wr => ∃ k : Nat, gk + k = m ∧ iv = .int .i64 k ∧ Below w6.heap.size w6 wr)
            case atStart => exact ⟨0, by omega, rfl, by first | exact HB8.out | exact Below.refl _ _⟩
            case round =>
              obtain ⟨gi, rfl⟩ : ∃ gi, gi = gk := ⟨_, rfl⟩
              obtain ⟨k, hgk, rfl, hbel⟩ := hrel
              have HBW := Lib.hid hbel; clear hbel
              by_cases hlt : k < m
              · have hkm : (k : Int) < (m : Int) := by omega
                have hk0 : (0 : Int) ≤ (k : Int) := by omega
                obtain ⟨e1, e2, hle, heq⟩ := HCELL.out wr HBW.out k hlt
                obtain ⟨ak, hak⟩ : ∃ ak, ak = far (edges L) p k := ⟨_, rfl⟩
                obtain ⟨bk, hbk⟩ : ∃ bk, bk = far (edges (L ++ [((A : Int), (B : Int), xc)])) p k := ⟨_, rfl⟩
                rw [← hak] at e1 hle heq
                rw [← hbk] at e2 hle heq
                have hd1 : decide (ak < bk) = false := decide_eq_false (by omega)
                have hne : (bk != ak) = false := by have := heq HSA.out; simp; omega
                clear hak hbk heq
                go_wp2_with fail
                go_quiet (fail)
                have HBN := Lib.hid (HBW.out.trans (below_drewN _ wr nq))
                clear e1 e2 HBW
                generalize wr.drewN nq = wn at *
                go_wp2
                go_roundg (gi - 1)
                case measure => omega
                case rel => exact ⟨k + 1, by omega, by first | rfl | go_num, HBN.out⟩
              · have hkm : decide ((k : Int) < (m : Int)) = false := decide_eq_false (by omega)
                go_wp2
                go_ret
                exact ⟨rfl, by have := HB6.out.trans (HBW.out.mono hg6); rw [HG.out] at this; exact this⟩
          · have q1 : decide (yb ≤ s1) = true := decide_eq_true h1
            have q2 : decide (ya ≤ s2) = false := decide_eq_false h2
            clear hs1 hs2
            go_wp2_with fail
            go_quiet (fail)
            have HB8 := Lib.hid (below_drewN w6.heap.size w6 nq)
            clear d0 d1 d2 fa fb
            generalize w6.drewN nq = w8 at *
            go_wp2
            go_loopg [17] m (fun gk iv wr => ∃ k : Nat, gk + k = m ∧ iv = .int .i64 k ∧ Below w6.heap.size w6 wr)
            case atStart => exact ⟨0, by omega, rfl, by first | exact HB8.out | exact Below.refl _ _⟩
            case round =>
              obtain ⟨gi, rfl⟩ : ∃ gi, gi = gk := ⟨_, rfl⟩
              obtain ⟨k, hgk, rfl, hbel⟩ := hrel
              have HBW := Lib.hid hbel; clear hbel
              by_cases hlt : k < m
              · have hkm : (k : Int) < (m : Int) := by omega
                have hk0 : (0 : Int) ≤ (k : Int) := by omega
                obtain ⟨e1, e2, hle, heq⟩ := HCELL.out wr HBW.out k hlt
                obtain ⟨ak, hak⟩ : ∃ ak, ak = far (edges L) p k := ⟨_, rfl⟩
                obtain ⟨bk, hbk⟩ : ∃ bk, bk = far (edges (L ++ [((A : Int), (B : Int), xc)])) p k := ⟨_, rfl⟩
                rw [← hak] at e1 hle heq
                rw [← hbk] at e2 hle heq
                have hd1 : decide (ak < bk) = false := decide_eq_false (by omega)
                skip
                clear hak hbk heq
                go_wp2_with fail
                go_quiet (fail)
                have HBN := Lib.hid (HBW.out.trans (below_drewN _ wr nq))
                clear e1 e2 HBW
                generalize wr.drewN nq = wn at *
                go_wp2
                go_roundg (gi - 1)
                case measure => omega
                case rel => exact ⟨k + 1, by omega, by first | rfl | go_num, HBN.out⟩
              · have hkm : decide ((k : Int) < (m : Int)) = false := decide_eq_false (by omega)
                go_wp2
                go_ret
                exact ⟨rfl, by have := HB6.out.trans (HBW.out.mono hg6); rw [HG.out] at this; exact this⟩
        · have q1 : decide (yb ≤ s1) = false := decide_eq_false h1
          clear hs1 hs2
          go_wp2_with fail
          go_quiet (fail)
          have HB8 := Lib.hid (below_drewN w6.heap.size w6 nq)
          clear d0 d1 d2 fa fb
          generalize w6.drewN nq = w8 at *
          go_wp2
          go_loopg [17] m (fun gk iv wr => ∃ k : Nat, gk + k = m ∧ iv = .int .i64 k ∧ Below w6.heap.size w6 wr)
          case atStart => exact ⟨0, by omega, rfl, by first | exact HB8.out | exact Below.refl _ _⟩
          case round =>
            obtain ⟨gi, rfl⟩ : ∃ gi, gi = gk := ⟨_, rfl⟩
            obtain ⟨k, hgk, rfl, hbel⟩ := hrel
            have HBW := Lib.hid hbel; clear hbel
            by_cases hlt : k < m
            · have hkm : (k : Int) < (m : Int) := by omega
              have hk0 : (0 : Int) ≤ (k : Int) := by omega
              obtain ⟨e1, e2, hle, heq⟩ := HCELL.out wr HBW.out k hlt
              obtain ⟨ak, hak⟩ : ∃ ak, ak = far (edges L) p k := ⟨_, rfl⟩
              obtain ⟨bk, hbk⟩ : ∃ bk, bk = far (edges (L ++ [((A : Int), (B : Int), xc)])) p k := ⟨_, rfl⟩
              rw [← hak] at e1 hle heq
              rw [← hbk] at e2 hle heq
              have hd1 : decide (ak < bk) = false := decide_eq_false (by omega)
              skip
              clear hak hbk heq
              go_wp2_with fail
              go_quiet (fail)
              have HBN := Lib.hid (HBW.out.trans (below_drewN _ wr nq))
              clear e1 e2 HBW
              generalize wr.drewN nq = wn at *
              go_wp2
              go_roundg (gi - 1)
              case measure => omega
              case rel => exact ⟨k + 1, by omega, by first | rfl | go_num, HBN.out⟩
            · have hkm : decide ((k : Int) < (m : Int)) = false := decide_eq_false (by omega)
              go_wp2
              go_ret
              exact ⟨rfl, by have := HB6.out.trans (HBW.out.mono hg6); rw [HG.out] at this; exact this⟩
      · have HC := Lib.hid hc; clear hc
        have H0 := Lib.hid hc0; clear hc0
        go_wp2_with fail
        refine (from_err _ _ _ _ _ (L ++ [(xa, xb, xc)]) _ c _ HA5.out HLL.out (by omega) (Nat.le_refl _) HC.out H0.out).mono ?_
        rintro e w6 ⟨rfl, hb⟩
        have HB6 := Lib.hid (HB5.out.trans (hb.mono (by omega))); clear hb
        go_wp2
        go_ret
        exact ⟨rfl, by have := HB6.out; rw [HG.out] at this; exact this⟩
  · have HC := Lib.hid hc; clear hc
    have H0 := Lib.hid hc0; clear hc0
    go_wp2_with fail
    refine (from_err _ _ _ _ _ L _ c _ (HA.out.below HB1.out) rfl (by omega) (by omega) HC.out H0.out).mono ?_
    rintro e w2 ⟨rfl, hb⟩
    have HB2 := Lib.hid (HB1.out.trans (hb.mono (by omega))); clear hb
    go_wp2
    go_ret
    exact ⟨rfl, by have := HB2.out; rw [HG.out] at this; exact this⟩
end Go.Proofs.Ytciolkmhafdlpaa
