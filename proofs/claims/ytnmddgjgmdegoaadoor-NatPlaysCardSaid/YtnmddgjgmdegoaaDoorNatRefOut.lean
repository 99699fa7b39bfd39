/- ferryhytheref4.Nat: Out, by value. -/
import Derived.Test.YtnmddgjgmdegoaaDoorNatRef
import Derived.Test.YtnmddgjgmdegoaaDoorInB
namespace Go.Proofs.YtnmddgjgmdegoaaDoor
open Go.RowKit Go.Maps
set_option linter.unusedVariables false
set_option maxRecDepth 100000

/-- 'append(places, p)': the place lies in a new block, the last one. -/
theorem wpList_append_pl {P : Program} {B : Nat} {w : World} {A C : List Ent} {v : Value} {t e te : TypeId} {T : NatM} {y : Int × Pl} {ops : Array Oper} {rest : List Oper} {o : Oper} {a : Act} {Q : Exit → Act → World → Prop} (hgd : Region.wanted o (yielded ops a.tmps) = true) (s x : Operand)
    (ho : o.op = .call { callee := .builtin .append, args := #[s, x], argTypes := #[t, t] }) (E : ElemTy P t e 2 16 (.agg #[.int .i64 0, .int .i64 0]))
    (hs : a.eval s = v) (hsep : Sep B w (A ++ Ent.row v T.length 2 e (T.flatMap plC) :: C)) (hBw : B ≤ w.heap.size)
    (hx : a.eval x = .slice (some ⟨w.heap.size, 0, none⟩) 1 1) (hlen : T.length ≤ 1000000000)
    (h : ∀ v' w', Sep B w' (A ++ Ent.row v' (T ++ [y]).length 2 e ((T ++ [y]).flatMap plC) :: C) → Below B w w' → wpList P ops Q rest (a.put o.dst v') w') : wpList P ops Q (o :: rest) a (w.alloc (.cells #[.int .i64 y.2.1, .int .i64 y.2.2] te)) := by
  refine wpList_append_sep hgd s x ho E hs (hsep.alloc _) (by simp; omega) ⟨w.heap.size, 0, none⟩ 1 1 (plC y) hx rfl ?_ ?_ (by omega) (by omega) (by unfold maxLen; omega) ?_
  · intro j u hj
    match j, hj with
    | 0, hj => simp [plC] at hj; subst hj; simp [Addr.add]
    | 1, hj => simp [plC] at hj; subst hj; simp [Addr.add]
  · intro u hu; simp [plC] at hu; rcases hu with rfl | rfl <;> rfl
  · intro v' w' h1 h2
    refine h v' w' ?_ (((Below.refl B w).alloc hBw _).trans h2)
    simpa using h1
theorem pl_len : ∀ (M : NatM), (M.flatMap plC).length = M.length * 2
  | [] => rfl
  | x :: r => by rw [List.flatMap_cons, List.length_append, plC_len, pl_len r, List.length_cons]; omega
def outF (M : NatM) (p : Pl) : Option Int → NatM × Int × Int
  | some q => (M ++ [(q, p)], q, 0)
  | none => (M, 0, 4)
theorem natOut_free_eq {low : Int} {n : Nat} {M : NatM} {p : Pl} (hp : PlOk p) (hq : portOf M p = none) : natOut low (n : Int) M p = outF M p (freeFrom M n low) := by
  unfold natOut
  rw [if_pos hp, hq]
  simp only [Int.toNat_natCast]
  cases freeFrom M n low <;> rfl
/-- The receiver's block, the place's, the result's. -/
def outE (gb gp gr : Nat) (low many : Int) (p : Pl) (sp sq : Value) (F : List Ent) : List Ent :=
  Ent.blk1 gr 45 [.int .i64 0, .int .i64 0, .slice none 0 0, .slice none 0 0] :: Ent.blk1 gp 24 [.int .i64 p.1, .int .i64 p.2] :: Ent.blk1 gb 45 [.int .i64 low, .int .i64 many, sp, sq] :: F
theorem outE_end {B gb gp gr : Nat} {w w0 : World} {low many : Int} {p : Pl} {sp sq : Value} {M : NatM} {F : List Ent} (h : Sep B w (rwE sp sq M (outE gb gp gr low many p sp sq F))) (hb : Below B w0 w) :
    ∃ w', w' = (((w.setCell ⟨gr, 0, none⟩ (.int .i64 low)).setCell ⟨gr, 1, none⟩ (.int .i64 many)).setCell ⟨gr, 2, none⟩ sp).setCell ⟨gr, 3, none⟩ sq ∧ Sep B w' (rwE sp sq M F) ∧ Below B w0 w' ∧
      w'.cell? ⟨gr, 0, none⟩ = some (.int .i64 low) ∧ w'.cell? ⟨gr, 1, none⟩ = some (.int .i64 many) ∧ w'.cell? ⟨gr, 2, none⟩ = some sp ∧ w'.cell? ⟨gr, 3, none⟩ = some sq := by
  have h1 := Sep.blkSet (A := [_, _]) h 0 (.int .i64 low)
  have h2 := Sep.blkSet (A := [_, _]) h1 1 (.int .i64 many)
  have h3 := Sep.blkSet (A := [_, _]) h2 2 sp
  have h4 := Sep.blkSet (A := [_, _]) h3 3 sq
  have hl := (Sep.blkLt (A := [_, _]) h).1
  refine ⟨_, rfl, h4.sub (List.Sublist.cons_cons _ (List.Sublist.cons_cons _ (List.Sublist.cons _ (List.Sublist.cons _ (List.Sublist.cons _ (List.Sublist.refl _)))))), (((hb.setCell (p := ⟨gr, 0, none⟩) hl _).setCell (p := ⟨gr, 1, none⟩) hl _).setCell (p := ⟨gr, 2, none⟩) hl _).setCell (p := ⟨gr, 3, none⟩) hl _, ?_, ?_, ?_, ?_⟩
  · exact (Sep.blkAt (A := [_, _]) h4 (j := 0) rfl).1
  · exact (Sep.blkAt (A := [_, _]) h4 (j := 1) rfl).1
  · exact (Sep.blkAt (A := [_, _]) h4 (j := 2) rfl).1
  · exact (Sep.blkAt (A := [_, _]) h4 (j := 3) rfl).1
theorem outE_cells {B gb gp gr : Nat} {w : World} {low many : Int} {p : Pl} {sp sq : Value} {M : NatM} {sp' sq' : Value} {F : List Ent} (h : Sep B w (rwE sp' sq' M (outE gb gp gr low many p sp sq F))) :
    (w.cell? ⟨gb, 0, none⟩ = some (.int .i64 low) ∧ w.cell? ⟨gb, 1, none⟩ = some (.int .i64 many) ∧ w.cell? ⟨gb, 2, none⟩ = some sp ∧ w.cell? ⟨gb, 3, none⟩ = some sq) ∧ (w.cell? ⟨gp, 0, none⟩ = some (.int .i64 p.1) ∧ w.cell? ⟨gp, 1, none⟩ = some (.int .i64 p.2)) ∧
    (w.cell? ⟨gr, 0, none⟩ = some (.int .i64 0) ∧ w.cell? ⟨gr, 1, none⟩ = some (.int .i64 0) ∧ w.cell? ⟨gr, 2, none⟩ = some (.slice none 0 0) ∧ w.cell? ⟨gr, 3, none⟩ = some (.slice none 0 0)) ∧
    w.frozen? ⟨gr, 0, none⟩ = false ∧ w.frozen? ⟨gr, 1, none⟩ = false ∧ w.frozen? ⟨gr, 2, none⟩ = false ∧ w.frozen? ⟨gr, 3, none⟩ = false ∧ w.frozen? ⟨gb, 2, none⟩ = false ∧ w.frozen? ⟨gb, 3, none⟩ = false :=
  ⟨⟨(Sep.blkAt (A := [_, _, _, _]) h (j := 0) rfl).1, (Sep.blkAt (A := [_, _, _, _]) h (j := 1) rfl).1, (Sep.blkAt (A := [_, _, _, _]) h (j := 2) rfl).1, (Sep.blkAt (A := [_, _, _, _]) h (j := 3) rfl).1⟩,
    ⟨(Sep.blkAt (A := [_, _, _]) h (j := 0) rfl).1, (Sep.blkAt (A := [_, _, _]) h (j := 1) rfl).1⟩,
    ⟨(Sep.blkAt (A := [_, _]) h (j := 0) rfl).1, (Sep.blkAt (A := [_, _]) h (j := 1) rfl).1, (Sep.blkAt (A := [_, _]) h (j := 2) rfl).1, (Sep.blkAt (A := [_, _]) h (j := 3) rfl).1⟩,
    (Sep.blkAt (A := [_, _]) h (j := 0) rfl).2, (Sep.blkAt (A := [_, _]) h (j := 1) rfl).2, (Sep.blkAt (A := [_, _]) h (j := 2) rfl).2, (Sep.blkAt (A := [_, _]) h (j := 3) rfl).2, (Sep.blkAt (A := [_, _, _, _]) h (j := 2) rfl).2, (Sep.blkAt (A := [_, _, _, _]) h (j := 3) rfl).2⟩
set_option maxHeartbeats 4000000 in
theorem refOut_any (B : Nat) (low many : Int) (sp sq : Value) (M : NatM) (F : List Ent) (p : Pl) (w : World) (hok : NatOk low many M) (h : Sep B w (rwE sp sq M F)) (hB : B ≤ w.heap.size) (hl : M.length ≤ 1000) :
    Calls Tryd.prog 17 #[.agg #[.int .i64 low, .int .i64 many, sp, sq], .agg #[.int .i64 p.1, .int .i64 p.2]] w fun e w' => ∃ sp' sq', e = .returned (.tuple #[.agg #[.int .i64 low, .int .i64 many, sp', sq'], .int .i64 (natOut low many M p).2.1, .int .i64 (natOut low many M p).2.2]) ∧
      Sep B w' (rwE sp' sq' (natOut low many M p).1 F) ∧ Below B w w' := by
  obtain ⟨⟨ao, ac, rfl⟩, bo, bc, rfl⟩ := rw_shape h
  have hs1 := h.blkNew hB #[.int .i64 low, .int .i64 many, .slice ao M.length ac, .slice bo M.length bc] 45
  have hs2 := hs1.blkNew (by simp; omega) #[.int .i64 p.1, .int .i64 p.2] 24
  have hs3 := hs2.blkNew (by simp; omega) #[.int .i64 0, .int .i64 0, .slice none 0 0, .slice none 0 0] 45
  have e1 : (w.alloc (.cells #[.int .i64 low, .int .i64 many, .slice ao M.length ac, .slice bo M.length bc] 45)).heap.size = w.heap.size + 1 := by simp
  have e2 : ((w.alloc (.cells #[.int .i64 low, .int .i64 many, .slice ao M.length ac, .slice bo M.length bc] 45)).alloc (.cells #[.int .i64 p.1, .int .i64 p.2] 24)).heap.size = w.heap.size + 1 + 1 := by simp
  rw [e1, e2] at hs3
  have hb0 := (((Below.refl B w).alloc hB (.cells #[.int .i64 low, .int .i64 many, .slice ao M.length ac, .slice bo M.length bc] 45)).alloc (by simp; omega) (.cells #[.int .i64 p.1, .int .i64 p.2] 24)).alloc (by simp; omega) (.cells #[.int .i64 0, .int .i64 0, .slice none 0 0, .slice none 0 0] 45)
  obtain ⟨gr, hgr⟩ : ∃ x, x = w.heap.size + 1 + 1 := ⟨_, rfl⟩
  obtain ⟨gp, hgp⟩ : ∃ x, x = w.heap.size + 1 := ⟨_, rfl⟩
  obtain ⟨gb, hgb⟩ : ∃ x, x = w.heap.size := ⟨_, rfl⟩
  rw [← hgr, ← hgp, ← hgb] at hs3
  obtain ⟨w0, hw0⟩ : ∃ w0, w0 = ((w.alloc (.cells #[.int .i64 low, .int .i64 many, .slice ao M.length ac, .slice bo M.length bc] 45)).alloc (.cells #[.int .i64 p.1, .int .i64 p.2] 24)).alloc (.cells #[.int .i64 0, .int .i64 0, .slice none 0 0, .slice none 0 0] 45) := ⟨_, rfl⟩
  rw [← hw0] at hs3 hb0
  have HS0 : Hid (Sep B w0 (rwE (.slice ao M.length ac) (.slice bo M.length bc) M (outE gb gp gr low many p (.slice ao M.length ac) (.slice bo M.length bc) F))) := Lib.hid (hs3.perm ((List.perm_append_comm (l₁ := [_, _, _]) (l₂ := [_, _])).append_right F))
  have HB0 := Lib.hid hb0
  have HW0 := Lib.hid hw0
  have HGR := Lib.hid hgr
  have HGP := Lib.hid hgp
  have HGB := Lib.hid hgb
  have HOK := Lib.hid hok
  obtain ⟨⟨l1, l2⟩, ⟨a1, a2⟩, l3⟩ := hok.lm
  clear h hs1 hs2 hs3 e1 e2 hb0 hgr hgp hgb hw0 hok
  have hg0 : B ≤ w0.heap.size := Nat.le_trans hB HB0.out.size
  obtain ⟨⟨b0, b1, b2, b3⟩, ⟨p0, p1⟩, ⟨r0, r1, r2, r3⟩, f0, f1, f2, f3, fb2, fb3⟩ := outE_cells HS0.out
  go_enter Tryd.func17, Tryd.ntmps17
  go_upto_region 1 with fail
  rw [← HW0.out, ← HGR.out, ← HGP.out, ← HGB.out]
  clear HW0
  by_cases h1 : 0 ≤ p.1 ∧ p.1 ≤ 65535
  · by_cases h2 : 0 ≤ p.2 ∧ p.2 ≤ 65535
    · have hp : PlOk p := ⟨h1, h2⟩
      have HP := Lib.hid hp
      go_wp2_with fail
      refine (inB_yes _ _ _ _ h1.1 h1.2).mono ?_
      rintro e w' ⟨rfl, rfl⟩
      go_wp2_with fail
      refine (inB_yes _ _ _ _ h2.1 h2.2).mono ?_
      rintro e w' ⟨rfl, rfl⟩
      clear h1 h2 hp
      go_wp2_with fail
      refine (refPort_any B low many _ _ M _ p w0 HS0.out hl).mono ?_
      rintro e w1 ⟨rfl, hb⟩
      have HS1 := Lib.hid (HS0.out.kept hb)
      have HB1 := Lib.hid (HB0.out.trans (hb.mono hg0))
      have hg1 : B ≤ w1.heap.size := Nat.le_trans hB HB1.out.size
      clear b0 b1 b2 b3 p0 p1 r0 r1 r2 r3 f0 f1 f2 f3 fb2 fb3
      clear hb HS0 HB0 hg0
      obtain ⟨⟨b0, b1, b2, b3⟩, ⟨p0, p1⟩, ⟨r0, r1, r2, r3⟩, f0, f1, f2, f3, fb2, fb3⟩ := outE_cells HS1.out
      cases hq : portOf M p with
      | some q =>
        have hq0 : 0 ≤ q := by have := (HOK.out.rng _ (portOf_mem hq)).1; simp only at this; omega
        have hqd : decide ((0 : Int) ≤ q) = true := decide_eq_true hq0
        have e1 : natOut low many M p = (M, q, 0) := by unfold natOut; rw [if_pos HP.out, hq]
        have HE := Lib.hid e1
        clear e1 hq
        simp only [Option.getD_some]
        obtain ⟨wf, hwf, he1, he2, k0, k1, k2, k3⟩ := outE_end HS1.out HB1.out
        have HE1 := Lib.hid he1
        have HE2 := Lib.hid he2
        have HWF := Lib.hid hwf
        rw [hwf] at k0 k1 k2 k3
        clear he1 he2 hwf
        go_wp2
        try simp only [Exit.inBlock, Exit.then]
        refine bodyPost_ret (v := .tuple #[.agg #[.int .i64 low, .int .i64 many, .slice ao M.length ac, .slice bo M.length bc], .int .i64 q, .int .i64 0]) (by simp [results, Tryd.results17, go_sem, k0, k1, k2, k3]) rfl ?_
        rw [← HWF.out]
        rw [HE.out]
        exact ⟨_, _, rfl, HE1.out, HE2.out⟩
      | none =>
        simp only [Option.getD_none]
        obtain ⟨n, rfl⟩ := Int.eq_ofNat_of_zero_le (by omega : 0 ≤ many)
        obtain ⟨R, hR⟩ : ∃ R, R = freeFrom M n low := ⟨_, rfl⟩
        have hno := natOut_free_eq (low := low) (n := n) HP.out hq
        rw [← hR] at hno
        have HNO := Lib.hid hno
        clear hno
        have HPN := Lib.hid hq
        have HR0 := Lib.hid hR.symm
        clear hR hq
        go_wp2
        go_loopg [8] n (fun gk iv wr => ∃ k : Nat, gk + k = n ∧ iv = .int .i64 (low + (k : Int)) ∧ Hid (freeFrom M gk (low + (k : Int)) = R) ∧ Sep B wr (rwE (.slice ao M.length ac) (.slice bo M.length bc) M (outE gb gp gr low (n : Int) p (.slice ao M.length ac) (.slice bo M.length bc) F)) ∧ Below B w wr)
        case atStart => exact ⟨0, rfl, by simp, by simp only [Hid]; have := HR0.out; simpa using this, HS1.out, HB1.out⟩
        case round =>
          obtain ⟨gn, rfl⟩ : ∃ gn, gn = gk := ⟨_, rfl⟩
          obtain ⟨k, hgk, rfl, HR, hsep, hbel⟩ := hrel
          clear b0 b1 b2 b3 p0 p1 r0 r1 r2 r3 f0 f1 f2 f3 fb2 fb3
          clear HS1 HB1 hg1
          have HS2 := Lib.hid hsep
          have HB2 := Lib.hid hbel
          obtain ⟨w2, hw2⟩ : ∃ w2, w2 = wr := ⟨_, rfl⟩
          obtain rfl := hw2
          have hg2 : B ≤ w2.heap.size := Nat.le_trans hB HB2.out.size
          clear hsep hbel
          obtain ⟨⟨b0, b1, b2, b3⟩, ⟨p0, p1⟩, ⟨r0, r1, r2, r3⟩, f0, f1, f2, f3, fb2, fb3⟩ := outE_cells HS2.out
          obtain ⟨q, hq⟩ : ∃ q, q = low + (k : Int) := ⟨_, rfl⟩
          rw [← hq] at HR ⊢
          have hq1 : 0 ≤ q := by omega
          have hq2 : q ≤ 65536 := by omega
          by_cases hlt : k < n
          · have hd : decide (q < low + (n : Int)) = true := decide_eq_true (by omega)
            have HKQ := Lib.hid hq
            clear hq
            go_wp2_with fail
            refine (refAt_any B low (n : Int) _ _ M _ q w2 HS2.out hl).mono ?_
            rintro e w3 ⟨rfl, hb⟩
            have HS3 := Lib.hid (HS2.out.kept hb)
            have HB3 := Lib.hid (HB2.out.trans (hb.mono hg2))
            have hg3 : B ≤ w3.heap.size := Nat.le_trans hB HB3.out.size
            clear b0 b1 b2 b3 p0 p1 r0 r1 r2 r3 f0 f1 f2 f3 fb2 fb3
            clear hb HS2 HB2 hg2 hd
            obtain ⟨⟨b0, b1, b2, b3⟩, ⟨p0, p1⟩, ⟨r0, r1, r2, r3⟩, f0, f1, f2, f3, fb2, fb3⟩ := outE_cells HS3.out
            cases hpq : atOf M q with
            | some j =>
              have hjn : decide (((j : Nat) : Int) < 0) = false := decide_eq_false (by omega)
              obtain ⟨x, hx⟩ : ∃ x, placeOf M q = some x := by
                cases hp : placeOf M q with
                | none => rw [← atOf_none, hpq] at hp; cases hp
                | some x => exact ⟨x, rfl⟩
              have hst := freeFrom_step (n := gn - 1) hx
              rw [show gn - 1 + 1 = gn by omega, HR.out] at hst
              have HST := Lib.hid hst.symm
              simp only [idxN]
              clear hpq hx hst
              go_wp2
              go_roundg (gn - 1)
              case measure => omega
              case rel => exact ⟨k + 1, by omega, congrArg (Value.int .i64) (show q + 1 = low + ((k + 1 : Nat) : Int) by have := HKQ.out; omega), by simp only [Hid]; rw [← HST.out]; congr 1; have := HKQ.out; omega, HS3.out, HB3.out⟩
            | none =>
              have hst := freeFrom_here (n := gn - 1) (atOf_none.1 hpq)
              rw [show gn - 1 + 1 = gn by omega, HR.out] at hst
              have HST := Lib.hid hst
              simp only [idxN]
              clear hpq hst
              go_upto_region 11 with fail
              go_cut [9] (fun s wx => Sep B wx (Ent.row s M.length 2 24 (M.flatMap plC) :: rwE (.slice ao M.length ac) (.slice bo M.length bc) M (outE gb gp gr low (n : Int) p (.slice ao M.length ac) (.slice bo M.length bc) F)) ∧ Below B w wx)
              case first =>
                rcases Nat.eq_zero_or_pos M.length with h0 | h0
                · obtain rfl : M = [] := List.eq_nil_of_length_eq_zero h0
                  go_wp2_with (at_builtin; refine wpList_append_none rfl (.tmp 43) (.tmp 45) rfl elemPl rfl _ _ rfl ?_)
                  go_meet
                  exact ⟨HS3.out.rowNil 2 24, HB3.out⟩
                · obtain ⟨x, hx⟩ : ∃ x, M[0]? = some x := ⟨_, List.getElem?_eq_getElem h0⟩
                  have hsq := Sep.rowAt (A := [_]) HS3.out h0
                  obtain ⟨bq, oq, rfl, -, hc, -⟩ := hsq
                  have hnews : ∀ (j : Nat) (u : Value), (M.flatMap plC)[j]? = some u → w3.cell? ((⟨bq, oq, none⟩ : Addr).add j) = some u := by
                    intro j u hu
                    have hj : j < (M.flatMap plC).length := (List.getElem?_eq_some_iff.1 hu).1
                    have hlen := pl_len M
                    rw [show (⟨bq, oq, none⟩ : Addr).add j = ⟨bq, oq + j, none⟩ by unfold Addr.add; split <;> simp_all, hc j (by omega)]
                    exact hu
                  have hone : ∀ u ∈ M.flatMap plC, u.oneCell' = true := by
                    intro u hu
                    obtain ⟨y, -, hy⟩ := List.mem_flatMap.1 hu
                    simp [plC] at hy
                    rcases hy with rfl | rfl <;> rfl
                  have HX := Lib.hid (HS3.out.rowNil 2 24)
                  have HNW := Lib.hid hnews
                  have HON := Lib.hid hone
                  clear hnews hone hx hc
                  go_wp2_with (at_builtin; refine wpList_append_sep (A := []) rfl (.tmp 43) (.tmp 45) rfl elemPl rfl HX.out hg3 ⟨bq, oq, none⟩ M.length bc (M.flatMap plC) rfl (pl_len M) HNW.out HON.out h0 (by omega) (by unfold maxLen; omega) ?_)
                  intro v' w4 hs hb
                  have HS4 := Lib.hid hs
                  have HB4 := Lib.hid (HB3.out.trans hb)
                  clear hs hb
                  go_wp2_with fail
                  go_meet
                  exact ⟨HS4.out, HB4.out⟩
              case rest =>
                obtain ⟨hsep, hbel⟩ := hcut
                clear b0 b1 b2 b3 p0 p1 r0 r1 r2 r3 f0 f1 f2 f3 fb2 fb3
                clear HS3 HB3 hg3
                have HS4 := Lib.hid hsep
                have HB4 := Lib.hid hbel
                obtain ⟨w4, hw4⟩ : ∃ w4, w4 = wc := ⟨_, rfl⟩
                obtain rfl := hw4
                have hg4 : B ≤ w4.heap.size := Nat.le_trans hB HB4.out.size
                clear hsep hbel
                have hs4r := HS4.out.sub (List.sublist_cons_self _ _)
                have HS4R := Lib.hid hs4r
                obtain ⟨⟨b0, b1, b2, b3⟩, ⟨p0, p1⟩, ⟨r0, r1, r2, r3⟩, f0, f1, f2, f3, fb2, fb3⟩ := outE_cells HS4R.out
                have HML := Lib.hid (show M.length ≤ 1000000000 by omega)
                clear hs4r
                go_wp2_with (at_builtin; refine wpList_append_pl (y := (q, p)) rfl (.tmp 47) (.tmp 49) rfl elemPl (A := []) rfl HS4.out hg4 rfl HML.out ?_)
                intro v' w5 hs hb
                obtain ⟨b', n', c', rfl⟩ : ∃ b n c, v' = .slice b n c := by
                  obtain ⟨_, b, c, h, -⟩ := Sep.rowShape (A := []) hs
                  exact ⟨b, _, c, h⟩
                have hs6 := Sep.blkSet (A := [_, _, _, _, _]) hs 3 (.slice b' n' c')
                have hb6 := (HB4.out.trans hb).setCell (p := ⟨gb, 3, none⟩) (Sep.blkLt (A := [_, _, _, _, _]) hs).1 (.slice b' n' c')
                clear b0 b1 b2 b3 p0 p1 r0 r1 r2 r3 f0 f1 f2 f3 fb2 fb3
                obtain ⟨b2, fb2⟩ := Sep.blkAt (A := [_, _, _, _, _]) hs (j := 2) rfl
                obtain ⟨b3, fb3⟩ := Sep.blkAt (A := [_, _, _, _, _]) hs (j := 3) rfl
                have HS6 : Hid (Sep B (w5.setCell ⟨gb, 3, none⟩ (.slice b' n' c')) (Ent.row (.slice b' n' c') (M.length + 1) 2 24 (M.flatMap plC ++ plC (q, p)) :: Ent.ints 3 (.slice ao M.length ac) (M.map (·.1)) :: Ent.row (.slice bo M.length bc) M.length 2 24 (M.flatMap plC) :: outE gb gp gr low (n : Int) p (.slice ao M.length ac) (.slice b' n' c') F)) := Lib.hid hs6
                have HB6 := Lib.hid hb6
                clear hs hb hs6 hb6 HS4 HB4 hg4 HS4R
                go_upto_region 13 with fail
                clear b2 b3 fb2 fb3
                generalize w5.setCell ⟨gb, 3, none⟩ (.slice b' n' c') = w6 at *
                have hg6 : B ≤ w6.heap.size := Nat.le_trans hB HB6.out.size
                have b2 := (Sep.blkAt (A := [_, _, _, _, _]) HS6.out (j := 2) rfl).1
                have hI : IntSl w6.heap.size w6 ao (M.map (·.1)) := by
                  have h1 : Sep B w6 (Ent.row (.slice b' n' c') (M.length + 1) 2 24 (M.flatMap plC ++ plC (q, p)) :: Ent.ints 3 (.slice ao (M.map (·.1)).length ac) (M.map (·.1)) :: Ent.row (.slice bo M.length bc) M.length 2 24 (M.flatMap plC) :: outE gb gp gr low (n : Int) p (.slice ao M.length ac) (.slice b' n' c') F) := by rw [List.length_map]; exact HS6.out
                  exact Sep.intSl (A := [_]) h1
                have HBE := Lib.hid (behind_any ao M.length ac w6.heap.size (M.map (·.1)) q w6 hI (List.length_map _).symm (Nat.le_refl _) (by rw [List.length_map]; omega))
                clear hI
                go_wp2_with fail
                refine HBE.out.mono ?_
                rintro e w7 ⟨v2, rfl, hs, hb⟩
                have hj := Sep.join HS6.out hg6 hb hs
                obtain ⟨a2, n2, c2, rfl⟩ : ∃ b n c, v2 = .slice b n c := by
                  obtain ⟨b, c, h, -⟩ := Sep.intsShape (A := []) hs
                  exact ⟨b, _, c, h⟩
                have hs8 := Sep.blkSet (A := [_, _, _, _, _, _]) hj 2 (.slice a2 n2 c2)
                have hb8 := (HB6.out.trans (hb.mono hg6)).setCell (p := ⟨gb, 2, none⟩) (Sep.blkLt (A := [_, _, _, _, _, _]) hj).1 (.slice a2 n2 c2)
                clear b2
                obtain ⟨b2, fb2⟩ := Sep.blkAt (A := [_, _, _, _, _, _]) hj (j := 2) rfl
                have hs9 := hs8.sub (List.Sublist.cons_cons _ (List.Sublist.cons_cons _ (List.Sublist.cons _ (List.Sublist.cons _ (List.Sublist.refl _)))))
                have HS9 : Hid (Sep B (w7.setCell ⟨gb, 2, none⟩ (.slice a2 n2 c2)) (rwE (.slice a2 n2 c2) (.slice b' n' c') (M ++ [(q, p)]) (outE gb gp gr low (n : Int) p (.slice a2 n2 c2) (.slice b' n' c') F))) := Lib.hid (by
                  unfold rwE
                  rw [List.map_append, show (M ++ [(q, p)]).length = M.length + 1 by simp, show (M ++ [(q, p)]).flatMap plC = M.flatMap plC ++ plC (q, p) by simp]
                  exact hs9)
                have HB9 := Lib.hid hb8
                clear hj hs hb hs8 hs9 hb8 HS6 HB6 hg6 HBE
                go_upto_region 14 with fail
                clear b2 fb2
                generalize w7.setCell ⟨gb, 2, none⟩ (.slice a2 n2 c2) = w9 at *
                obtain ⟨⟨b0, b1, b2, b3⟩, ⟨p0, p1⟩, ⟨r0, r1, r2, r3⟩, f0, f1, f2, f3, fb2, fb3⟩ := outE_cells HS9.out
                have hno := HNO.out
                rw [HST.out] at hno
                have HE := Lib.hid hno
                clear hno
                obtain ⟨wf, hwf, he1, he2, k0, k1, k2, k3⟩ := outE_end HS9.out HB9.out
                have HE1 := Lib.hid he1
                have HE2 := Lib.hid he2
                have HWF := Lib.hid hwf
                rw [hwf] at k0 k1 k2 k3
                clear he1 he2 hwf
                go_wp2
                try simp only [Exit.inBlock, Exit.then]
                refine bodyPost_ret (v := .tuple #[.agg #[.int .i64 low, .int .i64 n, .slice a2 n2 c2, .slice b' n' c'], .int .i64 q, .int .i64 0]) (by simp [results, Tryd.results17, go_sem, k0, k1, k2, k3]) rfl ?_
                rw [← HWF.out]
                rw [HE.out]
                exact ⟨_, _, rfl, HE1.out, HE2.out⟩
          · have hkn : k = n := by omega
            have hd : decide (q < low + (n : Int)) = false := decide_eq_false (by omega)
            have hR : R = none := by
              have h := HR.out
              rw [show gn = 0 by omega] at h
              exact h.symm
            have hno := HNO.out
            rw [hR] at hno
            have HE := Lib.hid hno
            clear hq hkn hR hno
            obtain ⟨wf, hwf, he1, he2, k0, k1, k2, k3⟩ := outE_end HS2.out HB2.out
            have HE1 := Lib.hid he1
            have HE2 := Lib.hid he2
            have HWF := Lib.hid hwf
            rw [hwf] at k0 k1 k2 k3
            clear he1 he2 hwf
            go_wp2
            try simp only [Exit.inBlock, Exit.then]
            refine bodyPost_ret (v := .tuple #[.agg #[.int .i64 low, .int .i64 n, .slice ao M.length ac, .slice bo M.length bc], .int .i64 0, .int .i64 4]) (by simp [results, Tryd.results17, go_sem, k0, k1, k2, k3]) rfl ?_
            rw [← HWF.out]
            rw [HE.out]
            exact ⟨_, _, rfl, HE1.out, HE2.out⟩
    · have H2 := Lib.hid h2
      have e1 : natOut low many M p = (M, 0, 1) := by unfold natOut; rw [if_neg (fun h => h2 h.2)]
      have HE := Lib.hid e1
      clear e1 h2
      go_wp2_with fail
      refine (inB_yes _ _ _ _ h1.1 h1.2).mono ?_
      rintro e w' ⟨rfl, rfl⟩
      go_wp2_with fail
      refine (inB_no _ _ _ _ H2.out).mono ?_
      rintro e w' ⟨rfl, rfl⟩
      obtain ⟨wf, hwf, he1, he2, k0, k1, k2, k3⟩ := outE_end HS0.out HB0.out
      have HE1 := Lib.hid he1
      have HE2 := Lib.hid he2
      have HWF := Lib.hid hwf
      rw [hwf] at k0 k1 k2 k3
      clear he1 he2 hwf
      go_wp2
      try simp only [Exit.inBlock, Exit.then]
      refine bodyPost_ret (v := .tuple #[.agg #[.int .i64 low, .int .i64 many, .slice ao M.length ac, .slice bo M.length bc], .int .i64 0, .int .i64 1]) (by simp [results, Tryd.results17, go_sem, k0, k1, k2, k3]) rfl ?_
      rw [← HWF.out]
      rw [HE.out]
      exact ⟨_, _, rfl, HE1.out, HE2.out⟩
  · have H1 := Lib.hid h1
    have e1 : natOut low many M p = (M, 0, 1) := by unfold natOut; rw [if_neg (fun h => h1 h.1)]
    have HE := Lib.hid e1
    clear e1 h1
    go_wp2_with fail
    refine (inB_no _ _ _ _ H1.out).mono ?_
    rintro e w' ⟨rfl, rfl⟩
    obtain ⟨wf, hwf, he1, he2, k0, k1, k2, k3⟩ := outE_end HS0.out HB0.out
    have HE1 := Lib.hid he1
    have HE2 := Lib.hid he2
    have HWF := Lib.hid hwf
    rw [hwf] at k0 k1 k2 k3
    clear he1 he2 hwf
    go_wp2
    try simp only [Exit.inBlock, Exit.then]
    refine bodyPost_ret (v := .tuple #[.agg #[.int .i64 low, .int .i64 many, .slice ao M.length ac, .slice bo M.length bc], .int .i64 0, .int .i64 1]) (by simp [results, Tryd.results17, go_sem, k0, k1, k2, k3]) rfl ?_
    rw [← HWF.out]
    rw [HE.out]
    exact ⟨_, _, rfl, HE1.out, HE2.out⟩
end Go.Proofs.YtnmddgjgmdegoaaDoor
