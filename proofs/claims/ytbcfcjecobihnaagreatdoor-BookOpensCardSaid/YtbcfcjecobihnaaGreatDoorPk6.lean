/- Of the laws that the given statement is lifted from; each holds for every input that it names: (*lpm.Table).Drop. · ferryhytheref1.Routes.Set, .Drop: by value, a row of routes. · ferryhytheref1.Routes.Drop. · (*lpm.Table).Drop, whatever comes. -/
import Derived.Test.YtbcfcjecobihnaaGreatDoorPk3
import Derived.Test.YtbcfcjecobihnaaGreatDoorPk5
import Derived.Test.YtbcfcjecobihnaaGreatDoorPk4
import Derived.Test.YtbcfcjecobihnaaGreatDoorPk2

section
/- (*lpm.Table).Drop. -/
namespace Go.Proofs.YtbcfcjecobihnaaGreatDoor
open Go.RowKit
set_option linter.unusedVariables false
set_option linter.unusedSimpArgs false
set_option maxRecDepth 100000

/-- The table, and what is wrong. -/
def dropR (L : List Rte) (a n : Int) : List Rte × Int :=
  if ¬ chkP a n = 0 then (L, chkP a n) else if hasL L a.toNat n.toNat then (dropL L a.toNat n.toNat, 0) else (L, 5)

set_option maxHeartbeats 400000 in
theorem lpmDrop_bad (B tb : Nat) (L : List Rte) (F : List Ent) (a n : Int) (w : World) (hB : B ≤ w.heap.size) (hs : TabS B w tb L F) (hc : ¬ chkP a n = 0) :
    Calls Tryz.prog 31 #[.pointer (some ⟨tb, 0, none⟩), .agg #[.int .i64 a, .int .i64 n]] w fun e w' => e = .returned (errV (chkP a n)) ∧ TabS B w' tb L F ∧ Below B w w' := by
  rw [errV_not hc]
  obtain ⟨c, hcc⟩ : ∃ c, c = chkP a n := ⟨_, rfl⟩
  rw [← hcc] at hc ⊢
  have hch := fun w1 => check_any a n w1
  rw [← hcc, errV_not hc] at hch
  have HCH := Lib.hid hch
  have HS := Lib.hid hs
  clear hcc hch hs
  obtain ⟨W, hW⟩ : ∃ W, W = w.alloc (.cells #[.int .i64 a, .int .i64 n] 38) := ⟨_, rfl⟩
  have hbW : Below w.heap.size w W := by rw [hW]; exact below_alloc w _
  have hp0 : W.cell? ⟨w.heap.size, 0, none⟩ = some (.int .i64 a) := by rw [hW, World.cell?_alloc_mark]; rfl
  have hp1 : W.cell? ⟨w.heap.size, 1, none⟩ = some (.int .i64 n) := by rw [hW, World.cell?_alloc_mark]; rfl
  have hgW : w.heap.size < W.heap.size := by rw [hW]; simp
  obtain ⟨g, hg⟩ : ∃ g, g = w.heap.size := ⟨_, rfl⟩
  have HBW := Lib.hid hbW
  have HW := Lib.hid hW
  have HG := Lib.hid hg
  rw [← hg] at hp0 hp1 hgW
  clear hbW hW hg
  go_enter Tryz.func31, Tryz.ntmps31
  go_upto_region 1 with fail
  rw [← HW.out, ← HG.out]
  go_wp2_with fail
  refine (HCH.out _).mono ?_
  rintro e w1 ⟨rfl, hb⟩
  have HB1 := Lib.hid (HBW.out.trans (hb.mono HBW.out.size))
  clear hb
  go_wp2
  go_ret
  exact ⟨rfl, HS.out.kept HB1.out, HB1.out.mono hB⟩
set_option maxHeartbeats 2000000 in
theorem lpmDrop_ok (B tb : Nat) (L : List Rte) (F : List Ent) (a n : Nat) (w : World) (hB : B ≤ w.heap.size) (hs : TabS B w tb L F) (hk : lpOk a n) :
    Calls Tryz.prog 31 #[.pointer (some ⟨tb, 0, none⟩), .agg #[.int .i64 a, .int .i64 n]] w fun e w' => e = .returned (errV (if hasL L a n then 0 else 5)) ∧ TabS B w' tb (if hasL L a n then dropL L a n else L) F ∧ Below B w w' := by
  have hch := fun w1 => check_any a n w1
  rw [chkP_of hk, errV_zero] at hch
  have HCH := Lib.hid hch
  have HKK := Lib.hid hk
  have ha := hk.1
  have hn := hk.2.1
  obtain ⟨T, hT, hTL, hs⟩ := hs
  have hlook := at_look hT.deep hk (hT.low _)
  rw [hTL] at hlook
  have hhas := hasL_look (L := L) (a := a) (n := n)
  rw [← hlook] at hhas
  have HT := Lib.hid hT
  have HTL := Lib.hid hTL
  have HS := Lib.hid hs
  clear hk hch hT hTL hs hlook
  obtain ⟨W, hW⟩ : ∃ W, W = w.alloc (.cells #[.int .i64 (a : Int), .int .i64 (n : Int)] 38) := ⟨_, rfl⟩
  have hbW : Below w.heap.size w W := by rw [hW]; exact below_alloc w _
  have hp0 : W.cell? ⟨w.heap.size, 0, none⟩ = some (.int .i64 (a : Int)) := by rw [hW, World.cell?_alloc_mark]; rfl
  have hp1 : W.cell? ⟨w.heap.size, 1, none⟩ = some (.int .i64 (n : Int)) := by rw [hW, World.cell?_alloc_mark]; rfl
  have hgW : w.heap.size < W.heap.size := by rw [hW]; simp
  obtain ⟨g, hg⟩ : ∃ g, g = w.heap.size := ⟨_, rfl⟩
  have HBW := Lib.hid hbW
  have HW := Lib.hid hW
  have HG := Lib.hid hg
  rw [← hg] at hp0 hp1 hgW
  clear hbW hW hg
  cases hsub : T.sub (lpPath a n) with
  | nil =>
    have hno : hasL L a n = false := by
      cases hb : hasL L a n with
      | false => rfl
      | true => have := hhas.1 hb; unfold LT.at at this; rw [hsub] at this; exact absurd this (by simp [LT.hop])
    rw [hno]
    simp only [Bool.false_eq_true, if_false]
    rw [errV_not (by decide)]
    have HSUB := Lib.hid hsub
    clear hsub hhas hno
    go_enter Tryz.func31, Tryz.ntmps31
    go_upto_region 1 with fail
    rw [← HW.out, ← HG.out]
    go_wp2_with fail
    refine (HCH.out _).mono ?_
    rintro e w1 ⟨rfl, hb⟩
    have HB1 := Lib.hid (HBW.out.trans (hb.mono HBW.out.size))
    have q0 : w1.cell? ⟨g, 0, none⟩ = some (.int .i64 (a : Int)) := (hb.cell (p := ⟨g, 0, none⟩) hgW).trans hp0
    have q1 : w1.cell? ⟨g, 1, none⟩ = some (.int .i64 (n : Int)) := (hb.cell (p := ⟨g, 1, none⟩) hgW).trans hp1
    clear hb hp0 hp1
    go_wp2_with fail
    refine (lpmAt_any B tb L.length T F a n w1 (by omega) hn (HS.out.kept HB1.out)).mono ?_
    rintro e w2 ⟨rfl, hb⟩
    have HB2 := Lib.hid (HB1.out.trans (hb.mono HB1.out.size))
    clear hb q0 q1
    have hpv : (T.sub (lpPath a n)).ptr = .pointer none := by rw [HSUB.out]; rfl
    rw [hpv]
    clear hpv
    go_wp2
    go_ret
    exact ⟨rfl, ⟨T, HT.out, HTL.out, HS.out.kept HB2.out⟩, HB2.out.mono hB⟩
  | node b h l r =>
    have hat : T.at (lpPath a n) = h := by unfold LT.at; rw [hsub]; rfl
    rw [hat] at hhas
    by_cases h0 : h < 0
    · have hno : hasL L a n = false := by
        cases hb : hasL L a n with
        | false => rfl
        | true => have := hhas.1 hb; omega
      rw [hno]
      simp only [Bool.false_eq_true, if_false]
      rw [errV_not (by decide)]
      have HSUB := Lib.hid hsub
      have d0 : decide (h < 0) = true := decide_eq_true h0
      clear hsub hhas hno hat
      go_enter Tryz.func31, Tryz.ntmps31
      go_upto_region 1 with fail
      rw [← HW.out, ← HG.out]
      go_wp2_with fail
      refine (HCH.out _).mono ?_
      rintro e w1 ⟨rfl, hb⟩
      have HB1 := Lib.hid (HBW.out.trans (hb.mono HBW.out.size))
      have q0 : w1.cell? ⟨g, 0, none⟩ = some (.int .i64 (a : Int)) := (hb.cell (p := ⟨g, 0, none⟩) hgW).trans hp0
      have q1 : w1.cell? ⟨g, 1, none⟩ = some (.int .i64 (n : Int)) := (hb.cell (p := ⟨g, 1, none⟩) hgW).trans hp1
      clear hb hp0 hp1
      go_wp2_with fail
      refine (lpmAt_any B tb L.length T F a n w1 (by omega) hn (HS.out.kept HB1.out)).mono ?_
      rintro e w2 ⟨rfl, hb⟩
      have HB2 := Lib.hid (HB1.out.trans (hb.mono HB1.out.size))
      clear hb q0 q1
      have hpv : (T.sub (lpPath a n)).ptr = .pointer (some ⟨b, 0, none⟩) := by rw [HSUB.out]; rfl
      rw [hpv]
      clear hpv
      obtain ⟨⟨-, -, c2⟩, -, -⟩ := nod_cells (HS.out.kept HB2.out) HSUB.out
      go_wp2
      go_ret
      exact ⟨rfl, ⟨T, HT.out, HTL.out, HS.out.kept HB2.out⟩, HB2.out.mono hB⟩
    · have hyes : hasL L a n = true := hhas.2 (by omega)
      rw [hyes]
      simp only [if_true]
      rw [errV_zero]
      have HSUB := Lib.hid hsub
      have d0 : decide (h < 0) = false := decide_eq_false h0
      have hlow := HT.out.low (lpPath a n)
      have hhigh := HT.out.high (lpPath a n)
      rw [hat] at hlow hhigh
      have hfew := HT.out.few
      rw [HTL.out] at hfew
      have HYES := Lib.hid hyes
      clear hsub hhas hyes hat
      go_enter Tryz.func31, Tryz.ntmps31
      go_upto_region 1 with fail
      rw [← HW.out, ← HG.out]
      go_wp2_with fail
      refine (HCH.out _).mono ?_
      rintro e w1 ⟨rfl, hb⟩
      have HB1 := Lib.hid (HBW.out.trans (hb.mono HBW.out.size))
      have q0 : w1.cell? ⟨g, 0, none⟩ = some (.int .i64 (a : Int)) := (hb.cell (p := ⟨g, 0, none⟩) hgW).trans hp0
      have q1 : w1.cell? ⟨g, 1, none⟩ = some (.int .i64 (n : Int)) := (hb.cell (p := ⟨g, 1, none⟩) hgW).trans hp1
      clear hb hp0 hp1
      go_wp2_with fail
      refine (lpmAt_any B tb L.length T F a n w1 (by omega) hn (HS.out.kept HB1.out)).mono ?_
      rintro e w2 ⟨rfl, hb⟩
      have HB2 := Lib.hid (HB1.out.trans (hb.mono HB1.out.size))
      clear hb q0 q1
      have hpv : (T.sub (lpPath a n)).ptr = .pointer (some ⟨b, 0, none⟩) := by rw [HSUB.out]; rfl
      rw [hpv]
      clear hpv
      have HS2 := Lib.hid (HS.out.kept HB2.out)
      obtain ⟨⟨-, -, c2⟩, cf, hBb⟩ := nod_cells HS2.out HSUB.out
      have cf2 := cf 2 (by decide)
      -- the tree behind the store
      obtain ⟨T', hT'⟩ : ∃ T', T' = T.repl (lpPath a n) (.node b (-1) l r) := ⟨_, rfl⟩
      have hne : T.sub (lpPath a n) ≠ .nil := by rw [HSUB.out]; simp
      obtain ⟨A, C, hA1, hA2⟩ := LT.ents_at T (lpPath a n) hne
      obtain ⟨hA3, hA4⟩ := hA2 (.node b (-1) l r) (by rw [HSUB.out]; rfl)
      rw [← hT'] at hA3 hA4
      rw [HSUB.out] at hA1
      have hs3 : Sep B (w2.setCell ⟨b, 2, none⟩ (.int .i64 (-1))) (lptE tb L.length T' ++ F) := by
        have h1 : Sep B w2 ((Ent.blk1 tb 83 [T.ptr, .int .i64 L.length] :: A) ++ nodE b h l r :: (l.ents ++ r.ents ++ C ++ F)) := by
          have h2 := HS2.out
          unfold lptE at h2
          rw [hA1] at h2
          simpa [LT.ents] using h2
        have h3 := Sep.blkSet h1 2 (.int .i64 (-1))
        unfold lptE
        rw [hA3, hA4]
        simpa [LT.ents] using h3
      obtain ⟨k, hk⟩ : ∃ k, L.length = k + 1 := by
        have := dropL_len (L := L) (a := a) (n := n) (by rw [← HTL.out]; exact rts_sorted HT.out.deep) HYES.out
        exact ⟨(dropL L a n).length, by omega⟩
      obtain ⟨t0, t1, tf1, htb⟩ := lpt_cells hs3
      have hs4 := Sep.blkSet (A := []) hs3 1 (.int .i64 (k : Int))
      have hset := at_set (h' := -1) HSUB.out
      rw [← hT'] at hset
      have hd' : T'.deep 17 := by
        rw [hT']
        refine LT.deep_repl T _ _ 17 HT.out.deep hne ?_
        have := LT.deep_sub T (lpPath a n) 17 HT.out.deep
        rw [HSUB.out] at this
        rw [lpPath_len] at this ⊢
        rw [show 17 - n = 16 - n + 1 by omega] at this ⊢
        exact this
      have hrts : T'.rts [] = dropL L a n := by rw [← HTL.out]; exact rts_drop HT.out.deep hd' HKK.out hset.1 hset.2
      have hlen : (dropL L a n).length = k := by
        have := dropL_len (L := L) (a := a) (n := n) (by rw [← HTL.out]; exact rts_sorted HT.out.deep) HYES.out
        omega
      have hok' : TabOk T' := by
        refine ⟨?_, hd', fun π => ?_, fun π => ?_, ?_⟩
        · intro e
          have h1 := LT.sub_repl T (lpPath a n) (.node b (-1) l r) hne
          rw [← hT', e, LT.sub_nil] at h1
          cases h1
        · by_cases e : π = lpPath a n
          · rw [e, hset.2]; decide
          · rw [hset.1 π e]; exact HT.out.low π
        · by_cases e : π = lpPath a n
          · rw [e, hset.2]; decide
          · rw [hset.1 π e]; exact HT.out.high π
        · rw [hrts, hlen]; omega
      have hfin : TabS B ((w2.setCell ⟨b, 2, none⟩ (.int .i64 (-1))).setCell ⟨tb, 1, none⟩ (.int .i64 (k : Int))) tb (dropL L a n) F := by
        refine ⟨T', hok', hrts, ?_⟩
        rw [hlen]
        exact hs4
      have hbf : Below B w ((w2.setCell ⟨b, 2, none⟩ (.int .i64 (-1))).setCell ⟨tb, 1, none⟩ (.int .i64 (k : Int))) := ((HB2.out.mono hB).setCell (p := ⟨b, 2, none⟩) hBb _).setCell (p := ⟨tb, 1, none⟩) htb _
      have HFIN := Lib.hid hfin
      have HBF := Lib.hid hbf
      have hkI : (L.length : Int) - 1 = (k : Int) := by omega
      have hk33 : k ≤ 32 := by omega
      clear hT' hne hA1 hA2 hA3 hA4 hs3 hs4 hset hd' hrts hlen hok' hfin hbf cf hk
      go_wp2
      go_ret
      exact ⟨rfl, HFIN.out, HBF.out⟩
end Go.Proofs.YtbcfcjecobihnaaGreatDoor

end

section
/- ferryhytheref1.Routes.Set, .Drop: by value, a row of routes. -/
namespace Go.Proofs.YtbcfcjecobihnaaGreatDoor
open Go.RowKit
set_option linter.unusedVariables false
set_option linter.unusedSimpArgs false
set_option maxRecDepth 100000

/-- The row, the result's block, the argument's, the receiver's. -/
abbrev rsE (gs gr gb : Nat) (te : TypeId) (cs : List Value) (v sp : Value) (L : List Rte) (F : List Ent) : List Ent :=
  rteE v L :: Ent.blk1 gs 54 [.slice none 0 0] :: Ent.blk1 gr te cs :: Ent.blk1 gb 54 [sp] :: F
theorem rsE_cells {B gs gr gb : Nat} {te : TypeId} {cs : List Value} {v sp : Value} {L : List Rte} {F : List Ent} {w : World} (h : Sep B w (rsE gs gr gb te cs v sp L F)) :
    (w.cell? ⟨gb, 0, none⟩ = some sp) ∧ (∀ j u, cs[j]? = some u → w.cell? ⟨gr, j, none⟩ = some u) ∧ w.cell? ⟨gs, 0, none⟩ = some (.slice none 0 0) ∧ w.frozen? ⟨gs, 0, none⟩ = false ∧ B ≤ w.heap.size :=
  ⟨(Sep.blkAt (A := [_, _, _]) h (j := 0) rfl).1, fun j u hu => (Sep.blkAt (A := [_, _]) h (j := j) hu).1, (Sep.blkAt (A := [_]) h (j := 0) rfl).1, (Sep.blkAt (A := [_]) h (j := 0) rfl).2, by have := Sep.blkLt (A := [_]) h; omega⟩
theorem rsE_end {B gs gr gb : Nat} {te : TypeId} {cs : List Value} {v sp : Value} {L : List Rte} {F : List Ent} {w w0 : World} (u : Value) (h : Sep B w (rsE gs gr gb te cs v sp L F)) (hb : Below B w0 w) :
    ∃ w', w' = w.setCell ⟨gs, 0, none⟩ u ∧ Sep B w' (rteE v L :: F) ∧ Below B w0 w' ∧ w'.cell? ⟨gs, 0, none⟩ = some u := by
  have h1 := Sep.blkSet (A := [_]) h 0 u
  have hl := (Sep.blkLt (A := [_]) h).1
  exact ⟨_, rfl, h1.sub (List.Sublist.cons_cons _ (List.Sublist.cons _ (List.Sublist.cons _ (List.Sublist.cons _ (List.Sublist.refl _))))), hb.setCell (p := ⟨gs, 0, none⟩) hl u, (Sep.blkAt (A := [_]) h1 (j := 0) rfl).1⟩
theorem rsE_new {B : Nat} {w : World} {sp : Value} {L : List Rte} {F : List Ent} (te : TypeId) (cs : Array Value) (h : Sep B w (rteE sp L :: F)) (hB : B ≤ w.heap.size) :
    ∃ W, W = ((w.alloc (.cells #[sp] 54)).alloc (.cells cs te)).alloc (.cells #[.slice none 0 0] 54) ∧ Sep B W (rsE (w.heap.size + 1 + 1) (w.heap.size + 1) w.heap.size te cs.toList sp sp L F) ∧ Below B w W := by
  have h1 := h.blkNew hB #[sp] 54
  have h2 := h1.blkNew (by simp; omega) cs te
  have h3 := h2.blkNew (by simp; omega) #[.slice none 0 0] 54
  rw [show (w.alloc (.cells #[sp] 54)).heap.size = w.heap.size + 1 by simp] at h2 h3
  rw [show ((w.alloc (.cells #[sp] 54)).alloc (.cells cs te)).heap.size = w.heap.size + 1 + 1 by simp] at h3
  refine ⟨_, rfl, (h3.perm (List.perm_append_comm (l₁ := [_, _, _]) (l₂ := [_]) |>.append_right F)), (((Below.refl B w).alloc hB _).alloc (by simp; omega) _).alloc (by simp; omega) _⟩
set_option maxHeartbeats 1000000 in
theorem rtSet_bad (B : Nat) (sp : Value) (L : List Rte) (F : List Ent) (a n x : Int) (w : World) (h : Sep B w (rteE sp L :: F)) (hB : B ≤ w.heap.size) (hc : ¬ chkP a n = 0) :
    Calls Tryz.prog 104 #[.agg #[sp], .agg #[.int .i64 a, .int .i64 n, .int .i64 x]] w fun e w' =>
      e = .returned (.tuple #[.agg #[sp], .int .i64 (chkP a n)]) ∧ Sep B w' (rteE sp L :: F) ∧ Below B w w' := by
  have hpre := refPre_any a n
  obtain ⟨c, hcc⟩ : ∃ c, c = chkP a n := ⟨_, rfl⟩
  rw [← hcc] at hc hpre ⊢
  have hd : (c != 0) = true := by simp [hc]
  have HPRE := Lib.hid hpre
  clear hc hcc hpre
  obtain ⟨W, hW, hs0, hb0⟩ := rsE_new 40 #[.int .i64 a, .int .i64 n, .int .i64 x] h hB
  obtain ⟨⟨ao, cap, rfl, hcap⟩⟩ : Nonempty _ := ⟨rte_shape (A := []) h⟩
  obtain ⟨gs, hgs⟩ : ∃ x, x = w.heap.size + 1 + 1 := ⟨_, rfl⟩
  obtain ⟨gr, hgr⟩ : ∃ x, x = w.heap.size + 1 := ⟨_, rfl⟩
  obtain ⟨gb, hgb⟩ : ∃ x, x = w.heap.size := ⟨_, rfl⟩
  rw [← hgs, ← hgr, ← hgb] at hs0
  have HS0 := Lib.hid hs0
  have HB0 := Lib.hid hb0
  have HW := Lib.hid hW
  have HGS := Lib.hid hgs
  have HGR := Lib.hid hgr
  have HGB := Lib.hid hgb
  clear h hs0 hb0 hW hgs hgr hgb
  obtain ⟨b0, hcs, s0, f0, hg0⟩ := rsE_cells HS0.out
  have r0 := hcs 0 _ rfl
  have r1 := hcs 1 _ rfl
  have r2 := hcs 2 _ rfl
  clear hcs
  go_enter Tryz.func104, Tryz.ntmps104
  go_upto_region 1 with fail
  rw [← HW.out, ← HGS.out, ← HGR.out, ← HGB.out]
  clear HW
  go_wp2_with fail
  refine (HPRE.out W).mono ?_
  rintro e w1 ⟨rfl, hb⟩
  have HS1 := Lib.hid (HS0.out.kept hb)
  have HB1 := Lib.hid (HB0.out.trans (hb.mono hg0))
  clear hb HS0 HB0 b0 r0 r1 r2 s0 f0 hg0
  obtain ⟨b0, hcs, s0, f0, hg1⟩ := rsE_cells HS1.out
  have r0 := hcs 0 _ rfl
  have r1 := hcs 1 _ rfl
  have r2 := hcs 2 _ rfl
  clear hcs
  obtain ⟨wf, hwf, he1, he2, k0⟩ := rsE_end (.slice ao L.length cap) HS1.out HB1.out
  have HE1 := Lib.hid he1
  have HE2 := Lib.hid he2
  have HWF := Lib.hid hwf
  rw [hwf] at k0
  clear he1 he2 hwf
  go_wp2
  try simp only [Exit.inBlock, Exit.then]
  refine bodyPost_ret (v := .tuple #[.agg #[(.slice ao L.length cap)], .int .i64 c]) (by simp [results, Tryz.results104, go_sem, k0]) rfl ?_
  rw [← HWF.out]
  exact ⟨rfl, HE1.out, HE2.out⟩
set_option maxHeartbeats 1000000 in
theorem rtSet_hop (B : Nat) (sp : Value) (L : List Rte) (F : List Ent) (a n x : Int) (w : World) (h : Sep B w (rteE sp L :: F)) (hB : B ≤ w.heap.size) (hc : chkP a n = 0) (hx : ¬ (0 ≤ x ∧ x ≤ 9)) :
    Calls Tryz.prog 104 #[.agg #[sp], .agg #[.int .i64 a, .int .i64 n, .int .i64 x]] w fun e w' =>
      e = .returned (.tuple #[.agg #[sp], .int .i64 1]) ∧ Sep B w' (rteE sp L :: F) ∧ Below B w w' := by
  have hpre := refPre_any a n
  rw [hc] at hpre
  have HPRE := Lib.hid hpre
  have HX := Lib.hid hx
  clear hc hx hpre
  obtain ⟨W, hW, hs0, hb0⟩ := rsE_new 40 #[.int .i64 a, .int .i64 n, .int .i64 x] h hB
  obtain ⟨⟨ao, cap, rfl, hcap⟩⟩ : Nonempty _ := ⟨rte_shape (A := []) h⟩
  obtain ⟨gs, hgs⟩ : ∃ x, x = w.heap.size + 1 + 1 := ⟨_, rfl⟩
  obtain ⟨gr, hgr⟩ : ∃ x, x = w.heap.size + 1 := ⟨_, rfl⟩
  obtain ⟨gb, hgb⟩ : ∃ x, x = w.heap.size := ⟨_, rfl⟩
  rw [← hgs, ← hgr, ← hgb] at hs0
  have HS0 := Lib.hid hs0
  have HB0 := Lib.hid hb0
  have HW := Lib.hid hW
  have HGS := Lib.hid hgs
  have HGR := Lib.hid hgr
  have HGB := Lib.hid hgb
  clear h hs0 hb0 hW hgs hgr hgb
  obtain ⟨b0, hcs, s0, f0, hg0⟩ := rsE_cells HS0.out
  have r0 := hcs 0 _ rfl
  have r1 := hcs 1 _ rfl
  have r2 := hcs 2 _ rfl
  clear hcs
  go_enter Tryz.func104, Tryz.ntmps104
  go_upto_region 1 with fail
  rw [← HW.out, ← HGS.out, ← HGR.out, ← HGB.out]
  clear HW
  go_wp2_with fail
  refine (HPRE.out W).mono ?_
  rintro e w1 ⟨rfl, hb⟩
  have HS1 := Lib.hid (HS0.out.kept hb)
  have HB1 := Lib.hid (HB0.out.trans (hb.mono hg0))
  clear hb HS0 HB0 b0 r0 r1 r2 s0 f0 hg0
  obtain ⟨b0, hcs, s0, f0, hg1⟩ := rsE_cells HS1.out
  have r0 := hcs 0 _ rfl
  have r1 := hcs 1 _ rfl
  have r2 := hcs 2 _ rfl
  clear hcs
  go_wp2_with fail
  refine (inR_no _ _ _ _ HX.out).mono ?_
  rintro e w' ⟨rfl, rfl⟩
  obtain ⟨wf, hwf, he1, he2, k0⟩ := rsE_end (.slice ao L.length cap) HS1.out HB1.out
  have HE1 := Lib.hid he1
  have HE2 := Lib.hid he2
  have HWF := Lib.hid hwf
  rw [hwf] at k0
  clear he1 he2 hwf
  go_wp2
  try simp only [Exit.inBlock, Exit.then]
  refine bodyPost_ret (v := .tuple #[.agg #[(.slice ao L.length cap)], .int .i64 1]) (by simp [results, Tryz.results104, go_sem, k0]) rfl ?_
  rw [← HWF.out]
  exact ⟨rfl, HE1.out, HE2.out⟩
set_option maxHeartbeats 1000000 in
theorem rtSet_full (B : Nat) (sp : Value) (L : List Rte) (F : List Ent) (a n x : Nat) (w : World) (h : Sep B w (rteE sp L :: F)) (hB : B ≤ w.heap.size) (hl : L.length ≤ 32) (hk : lpOk a n) (hx : x ≤ 9) (hno : isK L a n = false) (hf : L.length = 32) :
    Calls Tryz.prog 104 #[.agg #[sp], .agg #[.int .i64 a, .int .i64 n, .int .i64 x]] w fun e w' =>
      e = .returned (.tuple #[.agg #[sp], .int .i64 4]) ∧ Sep B w' (rteE sp L :: F) ∧ Below B w w' := by
  have hpre := refPre_any (a : Int) (n : Int)
  rw [chkP_of hk] at hpre
  have HPRE := Lib.hid hpre
  have HK := Lib.hid hk
  have hh0 : (0 : Int) ≤ (x : Int) := by omega
  have hh9 : (x : Int) ≤ 9 := by omega
  have HL := Lib.hid hl
  clear hpre hk
  have hd : decide ((32 : Int) ≤ (L.length : Int)) = true := decide_eq_true (by omega)
  have hd2 : decide (32 ≤ L.length) = true := decide_eq_true (by omega)
  obtain ⟨i, hi⟩ : ∃ i, i = atK L a n := ⟨_, rfl⟩
  have HI := Lib.hid hi
  have HIS := Lib.hid hno
  clear hf hi hno
  obtain ⟨W, hW, hs0, hb0⟩ := rsE_new 40 #[.int .i64 a, .int .i64 n, .int .i64 x] h hB
  obtain ⟨⟨ao, cap, rfl, hcap⟩⟩ : Nonempty _ := ⟨rte_shape (A := []) h⟩
  obtain ⟨gs, hgs⟩ : ∃ x, x = w.heap.size + 1 + 1 := ⟨_, rfl⟩
  obtain ⟨gr, hgr⟩ : ∃ x, x = w.heap.size + 1 := ⟨_, rfl⟩
  obtain ⟨gb, hgb⟩ : ∃ x, x = w.heap.size := ⟨_, rfl⟩
  rw [← hgs, ← hgr, ← hgb] at hs0
  have HS0 := Lib.hid hs0
  have HB0 := Lib.hid hb0
  have HW := Lib.hid hW
  have HGS := Lib.hid hgs
  have HGR := Lib.hid hgr
  have HGB := Lib.hid hgb
  clear h hs0 hb0 hW hgs hgr hgb
  obtain ⟨b0, hcs, s0, f0, hg0⟩ := rsE_cells HS0.out
  have r0 := hcs 0 _ rfl
  have r1 := hcs 1 _ rfl
  have r2 := hcs 2 _ rfl
  clear hcs
  go_enter Tryz.func104, Tryz.ntmps104
  go_upto_region 1 with fail
  rw [← HW.out, ← HGS.out, ← HGR.out, ← HGB.out]
  clear HW
  go_wp2_with fail
  refine (HPRE.out W).mono ?_
  rintro e w1 ⟨rfl, hb⟩
  have HS1 := Lib.hid (HS0.out.kept hb)
  have HB1 := Lib.hid (HB0.out.trans (hb.mono hg0))
  clear hb HS0 HB0 b0 r0 r1 r2 s0 f0 hg0
  obtain ⟨b0, hcs, s0, f0, hg1⟩ := rsE_cells HS1.out
  have r0 := hcs 0 _ rfl
  have r1 := hcs 1 _ rfl
  have r2 := hcs 2 _ rfl
  clear hcs
  go_wp2_with fail
  refine (inR_yes _ _ _ _ hh0 hh9).mono ?_
  rintro e w' ⟨rfl, rfl⟩
  have hat := refAtR_any w1.heap.size ao cap L a n w1 (Sep.rteSl (A := []) HS1.out) (Nat.le_refl _) (by have := HL.out; omega)
  rw [← HI.out, HIS.out] at hat
  have HAT := Lib.hid hat
  clear hat
  go_wp2_with fail
  refine HAT.out.mono ?_
  rintro e w2 ⟨rfl, hb⟩
  have HS2 := Lib.hid (HS1.out.kept hb)
  have HB2 := Lib.hid (HB1.out.trans (hb.mono hg1))
  clear hb HS1 HB1 b0 r0 r1 r2 s0 f0 hg1 HAT
  obtain ⟨b0, hcs, s0, f0, hg2⟩ := rsE_cells HS2.out
  have r0 := hcs 0 _ rfl
  have r1 := hcs 1 _ rfl
  have r2 := hcs 2 _ rfl
  clear hcs
  obtain ⟨wf, hwf, he1, he2, k0⟩ := rsE_end (.slice ao L.length cap) HS2.out HB2.out
  have HE1 := Lib.hid he1
  have HE2 := Lib.hid he2
  have HWF := Lib.hid hwf
  rw [hwf] at k0
  clear he1 he2 hwf
  go_wp2
  try simp only [Exit.inBlock, Exit.then]
  refine bodyPost_ret (v := .tuple #[.agg #[(.slice ao L.length cap)], .int .i64 4]) (by simp [results, Tryz.results104, go_sem, k0]) rfl ?_
  rw [← HWF.out]
  exact ⟨rfl, HE1.out, HE2.out⟩
set_option maxHeartbeats 2000000 in
theorem rtSet_new (B : Nat) (sp : Value) (L : List Rte) (F : List Ent) (a n x : Nat) (w : World) (h : Sep B w (rteE sp L :: F)) (hB : B ≤ w.heap.size) (hl : L.length ≤ 32) (hk : lpOk a n) (hx : x ≤ 9) (hno : isK L a n = false) (hf : ¬ L.length = 32) :
    Calls Tryz.prog 104 #[.agg #[sp], .agg #[.int .i64 a, .int .i64 n, .int .i64 x]] w fun e w' =>
      ∃ sp', e = .returned (.tuple #[.agg #[sp'], .int .i64 0]) ∧ Sep B w' (rteE sp' (L.take (atK L a n) ++ (a, n, x) :: L.drop (atK L a n)) :: F) ∧ Below B w w' := by
  have hpre := refPre_any (a : Int) (n : Int)
  rw [chkP_of hk] at hpre
  have HPRE := Lib.hid hpre
  have HK := Lib.hid hk
  have hh0 : (0 : Int) ≤ (x : Int) := by omega
  have hh9 : (x : Int) ≤ 9 := by omega
  have HL := Lib.hid hl
  clear hpre hk
  have hd : decide ((32 : Int) ≤ (L.length : Int)) = false := decide_eq_false (by omega)
  have hd2 : decide (32 ≤ L.length) = false := decide_eq_false (by omega)
  obtain ⟨i, hi⟩ : ∃ i, i = atK L a n := ⟨_, rfl⟩
  have HI := Lib.hid hi
  have HIS := Lib.hid hno
  rw [← hi]
  have hi1 : i ≤ L.length := by rw [hi]; exact atK_le L a n
  clear hf hi hno
  obtain ⟨W, hW, hs0, hb0⟩ := rsE_new 40 #[.int .i64 a, .int .i64 n, .int .i64 x] h hB
  obtain ⟨⟨ao, cap, rfl, hcap⟩⟩ : Nonempty _ := ⟨rte_shape (A := []) h⟩
  obtain ⟨gs, hgs⟩ : ∃ x, x = w.heap.size + 1 + 1 := ⟨_, rfl⟩
  obtain ⟨gr, hgr⟩ : ∃ x, x = w.heap.size + 1 := ⟨_, rfl⟩
  obtain ⟨gb, hgb⟩ : ∃ x, x = w.heap.size := ⟨_, rfl⟩
  rw [← hgs, ← hgr, ← hgb] at hs0
  have HS0 := Lib.hid hs0
  have HB0 := Lib.hid hb0
  have HW := Lib.hid hW
  have HGS := Lib.hid hgs
  have HGR := Lib.hid hgr
  have HGB := Lib.hid hgb
  clear h hs0 hb0 hW hgs hgr hgb
  obtain ⟨b0, hcs, s0, f0, hg0⟩ := rsE_cells HS0.out
  have r0 := hcs 0 _ rfl
  have r1 := hcs 1 _ rfl
  have r2 := hcs 2 _ rfl
  clear hcs
  go_enter Tryz.func104, Tryz.ntmps104
  go_upto_region 1 with fail
  rw [← HW.out, ← HGS.out, ← HGR.out, ← HGB.out]
  clear HW
  go_wp2_with fail
  refine (HPRE.out W).mono ?_
  rintro e w1 ⟨rfl, hb⟩
  have HS1 := Lib.hid (HS0.out.kept hb)
  have HB1 := Lib.hid (HB0.out.trans (hb.mono hg0))
  clear hb HS0 HB0 b0 r0 r1 r2 s0 f0 hg0
  obtain ⟨b0, hcs, s0, f0, hg1⟩ := rsE_cells HS1.out
  have r0 := hcs 0 _ rfl
  have r1 := hcs 1 _ rfl
  have r2 := hcs 2 _ rfl
  clear hcs
  go_wp2_with fail
  refine (inR_yes _ _ _ _ hh0 hh9).mono ?_
  rintro e w' ⟨rfl, rfl⟩
  have hat := refAtR_any w1.heap.size ao cap L a n w1 (Sep.rteSl (A := []) HS1.out) (Nat.le_refl _) (by have := HL.out; omega)
  rw [← HI.out, HIS.out] at hat
  have HAT := Lib.hid hat
  clear hat
  go_wp2_with fail
  refine HAT.out.mono ?_
  rintro e w2 ⟨rfl, hb⟩
  have HS2 := Lib.hid (HS1.out.kept hb)
  have HB2 := Lib.hid (HB1.out.trans (hb.mono hg1))
  clear hb HS1 HB1 b0 r0 r1 r2 s0 f0 hg1 HAT
  obtain ⟨b0, hcs, s0, f0, hg2⟩ := rsE_cells HS2.out
  have r0 := hcs 0 _ rfl
  have r1 := hcs 1 _ rfl
  have r2 := hcs 2 _ rfl
  clear hcs
  have hic : i ≤ cap := by omega
  have hik : (i : Int) ≤ (L.length : Int) := by omega
  have hi0 : (0 : Int) ≤ (i : Int) := by omega
  obtain ⟨v1, w3, hr1, hs3, hb3⟩ := rteApp (A := []) (X := []) (ys := L.take i) (c := cap) 43 (HS2.out.rowNil 3 40) hg2 (rteSl_take (Sep.rteSl (A := []) HS2.out) i) (by rw [List.length_take]; simp; omega)
  rw [List.length_take, Nat.min_eq_left hi1] at hr1
  simp only [List.nil_append] at hs3
  have hg3 : B ≤ w3.heap.size := Nat.le_trans hg2 hb3.size
  have HR1 := Lib.hid hr1
  have HS3 := Lib.hid hs3
  have HB3 := Lib.hid (HB2.out.trans hb3)
  clear hr1 hs3 hb3
  go_upto_region 10 with fail
  go_upto_region 11 with (first | (with_reducible refine wpList_slice_to rfl (.tmp 40) (.tmp 41) rfl elemRte _ _ _ rfl i .i64 rfl hic ?_) | (at_builtin; refine wpList_append_known rfl (.tmp 38) (.tmp 42) _ _ rfl _ _ rfl rfl HR1.out ?_))
  have hs3a := HS3.out.alloc (.cells #[.int .i64 (a : Int), .int .i64 (n : Int), .int .i64 (x : Int)] 40)
  have hb3a := HB3.out.alloc hg3 (.cells #[.int .i64 (a : Int), .int .i64 (n : Int), .int .i64 (x : Int)] 40)
  obtain ⟨v2, w4, hr2, hs4, hb4⟩ := rteApp (A := []) (X := L.take i) (ys := [(a, n, x)]) (c := 1) 43 hs3a (by simp; omega) (rteSl_new w3 w3.heap.size rfl (a, n, x) 40) (by rw [List.length_take]; simp; omega)
  simp only [List.nil_append] at hs4
  obtain ⟨_, c0, hcs, s0, f0, hg3'⟩ := rsE_cells (v := .slice ao L.length cap) (HS3.out.sub (List.sublist_cons_self _ _)) |> fun h => (⟨trivial, h.1, h.2.1, h.2.2.1, h.2.2.2.1, h.2.2.2.2⟩ : True ∧ _ ∧ _ ∧ _ ∧ _ ∧ _)
  have r0 := hcs 0 _ rfl
  have r1 := hcs 1 _ rfl
  have r2 := hcs 2 _ rfl
  have HR2 := Lib.hid (show (Builtin.append_ #[43, 43] 43 #[v1, .slice (some ⟨w3.heap.size, 0, none⟩) 1 1]).run Tryz.prog (w3.alloc (.cells #[.int .i64 (a : Int), .int .i64 (n : Int), .int .i64 (x : Int)] 40)) = .ok v2 w4 from hr2)
  have HS4 := Lib.hid hs4
  have HB4 := Lib.hid (hb3a.trans hb4)
  have hg4 : B ≤ w4.heap.size := Nat.le_trans hB HB4.out.size
  obtain ⟨_, d0, -, -, -, -⟩ := rsE_cells (v := .slice ao L.length cap) (HS4.out.sub (List.sublist_cons_self _ _)) |> fun h => (⟨trivial, h.1, h.2.1, h.2.2.1, h.2.2.2.1, h.2.2.2.2⟩ : True ∧ _ ∧ _ ∧ _ ∧ _ ∧ _)
  clear hs3a hb3a hr2 hs4 hb4 hcs
  have hjl : i ≤ L.length := hi1
  obtain ⟨v3, w5, hr3, hs5, hb5⟩ := rteApp (A := []) (ys := L.drop i) (c := cap - i) 43 HS4.out hg4 (rteSl_cut (Sep.rteSl (A := [_]) HS4.out) hcap i) (by simp; omega)
  rw [List.length_drop] at hr3
  obtain ⟨ao5, N5, cap5, rfl⟩ : ∃ a n c, v3 = .slice a n c := by
    obtain ⟨a', c', e, -⟩ := rte_shape (A := []) hs5
    exact ⟨a', _, c', e⟩
  simp only [List.nil_append] at hs5
  have HR3 := Lib.hid hr3
  have HS5 := Lib.hid (show Sep B w5 (rsE gs gr gb 40 [.int .i64 (a : Int), .int .i64 (n : Int), .int .i64 (x : Int)] (.slice ao5 N5 cap5) (.slice ao L.length cap) _ (rteE (.slice ao L.length cap) L :: F)) from hs5.perm (List.Perm.cons _ ((List.perm_append_comm (l₁ := [_]) (l₂ := [_, _, _])).append_right F)))
  have HB5 := Lib.hid (HB4.out.trans hb5)
  obtain ⟨_, e0, _, e1, e2, -⟩ := rsE_cells HS5.out |> fun h => (⟨trivial, h.1, h.2.1, h.2.2.1, h.2.2.2.1, h.2.2.2.2⟩ : True ∧ _ ∧ _ ∧ _ ∧ _ ∧ _)
  clear hr3 hs5 hb5
  go_upto_region 12 with (first | (at_builtin; refine wpList_append_known rfl (.tmp 44) (.tmp 46) _ _ rfl _ _ rfl rfl HR2.out ?_))
  go_upto_region 14 with fail
  go_wp2_with (first | (with_reducible refine wpList_slice_from rfl (.tmp 53) (.tmp 54) rfl elemRte _ _ _ rfl i .i64 rfl hjl ?_) | (at_builtin; refine wpList_append_known rfl (.tmp 51) (.tmp 55) _ _ rfl _ _ rfl rfl HR3.out ?_))
  obtain ⟨wf, hwf, he1, he2, k0⟩ := rsE_end (.slice ao5 N5 cap5) HS5.out HB5.out
  have HE1 := Lib.hid he1
  have HE2 := Lib.hid he2
  have HWF := Lib.hid hwf
  rw [hwf] at k0
  clear he1 he2 hwf
  go_wp2
  try simp only [Exit.inBlock, Exit.then]
  refine bodyPost_ret (v := .tuple #[.agg #[(.slice ao5 N5 cap5)], .int .i64 0]) (by simp [results, Tryz.results104, go_sem, k0]) rfl ?_
  rw [← HWF.out]
  refine ⟨_, rfl, ?_, HE2.out⟩
  have := HE1.out
  rw [List.append_assoc] at this
  exact this.sub (List.Sublist.cons_cons _ (List.sublist_cons_self _ _))
set_option maxHeartbeats 2000000 in
theorem rtSet_old (B : Nat) (sp : Value) (L : List Rte) (F : List Ent) (a n x : Nat) (w : World) (h : Sep B w (rteE sp L :: F)) (hB : B ≤ w.heap.size) (hl : L.length ≤ 32) (hk : lpOk a n) (hx : x ≤ 9) (hno : isK L a n = true) :
    Calls Tryz.prog 104 #[.agg #[sp], .agg #[.int .i64 a, .int .i64 n, .int .i64 x]] w fun e w' =>
      ∃ sp', e = .returned (.tuple #[.agg #[sp'], .int .i64 0]) ∧ Sep B w' (rteE sp' (L.take (atK L a n) ++ (a, n, x) :: L.drop (atK L a n + 1)) :: F) ∧ Below B w w' := by
  have hpre := refPre_any (a : Int) (n : Int)
  rw [chkP_of hk] at hpre
  have HPRE := Lib.hid hpre
  have HK := Lib.hid hk
  have hh0 : (0 : Int) ≤ (x : Int) := by omega
  have hh9 : (x : Int) ≤ 9 := by omega
  have HL := Lib.hid hl
  clear hpre hk
  obtain ⟨i, hi⟩ : ∃ i, i = atK L a n := ⟨_, rfl⟩
  have hjl : i + 1 ≤ L.length := by
    unfold isK at hno
    rw [← hi] at hno
    rcases Nat.lt_or_ge i L.length with h | h
    · omega
    · rw [List.getElem?_eq_none h] at hno; cases hno
  have HI := Lib.hid hi
  have HIS := Lib.hid hno
  rw [← hi]
  have hi1 : i ≤ L.length := by omega
  clear hi hno
  obtain ⟨W, hW, hs0, hb0⟩ := rsE_new 40 #[.int .i64 a, .int .i64 n, .int .i64 x] h hB
  obtain ⟨⟨ao, cap, rfl, hcap⟩⟩ : Nonempty _ := ⟨rte_shape (A := []) h⟩
  obtain ⟨gs, hgs⟩ : ∃ x, x = w.heap.size + 1 + 1 := ⟨_, rfl⟩
  obtain ⟨gr, hgr⟩ : ∃ x, x = w.heap.size + 1 := ⟨_, rfl⟩
  obtain ⟨gb, hgb⟩ : ∃ x, x = w.heap.size := ⟨_, rfl⟩
  rw [← hgs, ← hgr, ← hgb] at hs0
  have HS0 := Lib.hid hs0
  have HB0 := Lib.hid hb0
  have HW := Lib.hid hW
  have HGS := Lib.hid hgs
  have HGR := Lib.hid hgr
  have HGB := Lib.hid hgb
  clear h hs0 hb0 hW hgs hgr hgb
  obtain ⟨b0, hcs, s0, f0, hg0⟩ := rsE_cells HS0.out
  have r0 := hcs 0 _ rfl
  have r1 := hcs 1 _ rfl
  have r2 := hcs 2 _ rfl
  clear hcs
  go_enter Tryz.func104, Tryz.ntmps104
  go_upto_region 1 with fail
  rw [← HW.out, ← HGS.out, ← HGR.out, ← HGB.out]
  clear HW
  go_wp2_with fail
  refine (HPRE.out W).mono ?_
  rintro e w1 ⟨rfl, hb⟩
  have HS1 := Lib.hid (HS0.out.kept hb)
  have HB1 := Lib.hid (HB0.out.trans (hb.mono hg0))
  clear hb HS0 HB0 b0 r0 r1 r2 s0 f0 hg0
  obtain ⟨b0, hcs, s0, f0, hg1⟩ := rsE_cells HS1.out
  have r0 := hcs 0 _ rfl
  have r1 := hcs 1 _ rfl
  have r2 := hcs 2 _ rfl
  clear hcs
  go_wp2_with fail
  refine (inR_yes _ _ _ _ hh0 hh9).mono ?_
  rintro e w' ⟨rfl, rfl⟩
  have hat := refAtR_any w1.heap.size ao cap L a n w1 (Sep.rteSl (A := []) HS1.out) (Nat.le_refl _) (by have := HL.out; omega)
  rw [← HI.out, HIS.out] at hat
  have HAT := Lib.hid hat
  clear hat
  go_wp2_with fail
  refine HAT.out.mono ?_
  rintro e w2 ⟨rfl, hb⟩
  have HS2 := Lib.hid (HS1.out.kept hb)
  have HB2 := Lib.hid (HB1.out.trans (hb.mono hg1))
  clear hb HS1 HB1 b0 r0 r1 r2 s0 f0 hg1 HAT
  obtain ⟨b0, hcs, s0, f0, hg2⟩ := rsE_cells HS2.out
  have r0 := hcs 0 _ rfl
  have r1 := hcs 1 _ rfl
  have r2 := hcs 2 _ rfl
  clear hcs
  have hic : i ≤ cap := by omega
  have hik : (i : Int) ≤ (L.length : Int) := by omega
  have hi0 : (0 : Int) ≤ (i : Int) := by omega
  obtain ⟨v1, w3, hr1, hs3, hb3⟩ := rteApp (A := []) (X := []) (ys := L.take i) (c := cap) 43 (HS2.out.rowNil 3 40) hg2 (rteSl_take (Sep.rteSl (A := []) HS2.out) i) (by rw [List.length_take]; simp; omega)
  rw [List.length_take, Nat.min_eq_left hi1] at hr1
  simp only [List.nil_append] at hs3
  have hg3 : B ≤ w3.heap.size := Nat.le_trans hg2 hb3.size
  have HR1 := Lib.hid hr1
  have HS3 := Lib.hid hs3
  have HB3 := Lib.hid (HB2.out.trans hb3)
  clear hr1 hs3 hb3
  go_upto_region 10 with fail
  go_upto_region 11 with (first | (with_reducible refine wpList_slice_to rfl (.tmp 40) (.tmp 41) rfl elemRte _ _ _ rfl i .i64 rfl hic ?_) | (at_builtin; refine wpList_append_known rfl (.tmp 38) (.tmp 42) _ _ rfl _ _ rfl rfl HR1.out ?_))
  have hs3a := HS3.out.alloc (.cells #[.int .i64 (a : Int), .int .i64 (n : Int), .int .i64 (x : Int)] 40)
  have hb3a := HB3.out.alloc hg3 (.cells #[.int .i64 (a : Int), .int .i64 (n : Int), .int .i64 (x : Int)] 40)
  obtain ⟨v2, w4, hr2, hs4, hb4⟩ := rteApp (A := []) (X := L.take i) (ys := [(a, n, x)]) (c := 1) 43 hs3a (by simp; omega) (rteSl_new w3 w3.heap.size rfl (a, n, x) 40) (by rw [List.length_take]; simp; omega)
  simp only [List.nil_append] at hs4
  obtain ⟨_, c0, hcs, s0, f0, hg3'⟩ := rsE_cells (v := .slice ao L.length cap) (HS3.out.sub (List.sublist_cons_self _ _)) |> fun h => (⟨trivial, h.1, h.2.1, h.2.2.1, h.2.2.2.1, h.2.2.2.2⟩ : True ∧ _ ∧ _ ∧ _ ∧ _ ∧ _)
  have r0 := hcs 0 _ rfl
  have r1 := hcs 1 _ rfl
  have r2 := hcs 2 _ rfl
  have HR2 := Lib.hid (show (Builtin.append_ #[43, 43] 43 #[v1, .slice (some ⟨w3.heap.size, 0, none⟩) 1 1]).run Tryz.prog (w3.alloc (.cells #[.int .i64 (a : Int), .int .i64 (n : Int), .int .i64 (x : Int)] 40)) = .ok v2 w4 from hr2)
  have HS4 := Lib.hid hs4
  have HB4 := Lib.hid (hb3a.trans hb4)
  have hg4 : B ≤ w4.heap.size := Nat.le_trans hB HB4.out.size
  obtain ⟨_, d0, -, -, -, -⟩ := rsE_cells (v := .slice ao L.length cap) (HS4.out.sub (List.sublist_cons_self _ _)) |> fun h => (⟨trivial, h.1, h.2.1, h.2.2.1, h.2.2.2.1, h.2.2.2.2⟩ : True ∧ _ ∧ _ ∧ _ ∧ _ ∧ _)
  clear hs3a hb3a hr2 hs4 hb4 hcs
  obtain ⟨v3, w5, hr3, hs5, hb5⟩ := rteApp (A := []) (ys := L.drop (i + 1)) (c := cap - (i + 1)) 43 HS4.out hg4 (rteSl_cut (Sep.rteSl (A := [_]) HS4.out) hcap (i + 1)) (by simp; omega)
  rw [List.length_drop] at hr3
  obtain ⟨ao5, N5, cap5, rfl⟩ : ∃ a n c, v3 = .slice a n c := by
    obtain ⟨a', c', e, -⟩ := rte_shape (A := []) hs5
    exact ⟨a', _, c', e⟩
  simp only [List.nil_append] at hs5
  have HR3 := Lib.hid hr3
  have HS5 := Lib.hid (show Sep B w5 (rsE gs gr gb 40 [.int .i64 (a : Int), .int .i64 (n : Int), .int .i64 (x : Int)] (.slice ao5 N5 cap5) (.slice ao L.length cap) _ (rteE (.slice ao L.length cap) L :: F)) from hs5.perm (List.Perm.cons _ ((List.perm_append_comm (l₁ := [_]) (l₂ := [_, _, _])).append_right F)))
  have HB5 := Lib.hid (HB4.out.trans hb5)
  obtain ⟨_, e0, _, e1, e2, -⟩ := rsE_cells HS5.out |> fun h => (⟨trivial, h.1, h.2.1, h.2.2.1, h.2.2.2.1, h.2.2.2.2⟩ : True ∧ _ ∧ _ ∧ _ ∧ _ ∧ _)
  clear hr3 hs5 hb5
  obtain ⟨k, hk⟩ : ∃ k, k = i + 1 := ⟨_, rfl⟩
  have hkI : (i : Int) + 1 = (k : Int) := by omega
  rw [← hk] at HR3 hjl
  have HKK := Lib.hid hk
  clear hk
  go_upto_region 12 with (first | (at_builtin; refine wpList_append_known rfl (.tmp 44) (.tmp 46) _ _ rfl _ _ rfl rfl HR2.out ?_))
  go_upto_region 14 with fail
  go_wp2_with (first | (with_reducible refine wpList_slice_from rfl (.tmp 53) (.tmp 54) rfl elemRte _ _ _ rfl k .i64 rfl hjl ?_) | (at_builtin; refine wpList_append_known rfl (.tmp 51) (.tmp 55) _ _ rfl _ _ rfl rfl HR3.out ?_))
  obtain ⟨wf, hwf, he1, he2, k0⟩ := rsE_end (.slice ao5 N5 cap5) HS5.out HB5.out
  have HE1 := Lib.hid he1
  have HE2 := Lib.hid he2
  have HWF := Lib.hid hwf
  rw [hwf] at k0
  clear he1 he2 hwf
  go_wp2
  try simp only [Exit.inBlock, Exit.then]
  refine bodyPost_ret (v := .tuple #[.agg #[(.slice ao5 N5 cap5)], .int .i64 0]) (by simp [results, Tryz.results104, go_sem, k0]) rfl ?_
  rw [← HWF.out]
  refine ⟨_, rfl, ?_, HE2.out⟩
  have := HE1.out
  rw [List.append_assoc] at this
  exact this.sub (List.Sublist.cons_cons _ (List.sublist_cons_self _ _))
/-- ferryhytheref1.Routes.Set. -/
theorem rtSet_any (B : Nat) (sp : Value) (L : List Rte) (F : List Ent) (a n x : Int) (w : World) (h : Sep B w (rteE sp L :: F)) (hB : B ≤ w.heap.size) (hl : L.length ≤ 32) (hs : SrtR L) :
    Calls Tryz.prog 104 #[.agg #[sp], .agg #[.int .i64 a, .int .i64 n, .int .i64 x]] w fun e w' =>
      ∃ sp', e = .returned (.tuple #[.agg #[sp'], .int .i64 (setRR L a n x).2]) ∧ Sep B w' (rteE sp' (setRR L a n x).1 :: F) ∧ Below B w w' ∧ (¬ (setRR L a n x).2 = 0 → sp' = sp) := by
  unfold setRR
  by_cases hc : chkP a n = 0
  · rw [if_neg (fun h => h hc)]
    by_cases hx : 0 ≤ x ∧ x ≤ 9
    · rw [if_neg (fun h => h hx)]
      obtain ⟨x', rfl⟩ := Int.eq_ofNat_of_zero_le hx.1
      obtain ⟨a', n', rfl, rfl, hk⟩ := chkP_ok hc
      simp only [Int.toNat_natCast]
      rw [hasL_is hs]
      cases his : isK L a' n' with
      | false =>
        by_cases hf : L.length = 32
        · rw [if_pos ⟨rfl, hf⟩]
          exact (rtSet_full B sp L F a' n' x' w h hB hl hk (by omega) his hf).mono (fun e w' h => ⟨sp, h.1, h.2.1, h.2.2, fun _ => rfl⟩)
        · rw [if_neg (fun h => hf h.2), setL_at, his]
          exact (rtSet_new B sp L F a' n' x' w h hB hl hk (by omega) his hf).mono (fun e w' h => by obtain ⟨sp', h1, h2, h3⟩ := h; exact ⟨sp', h1, h2, h3, fun h => absurd rfl h⟩)
      | true =>
        rw [if_neg (by simp), setL_at, his]
        exact (rtSet_old B sp L F a' n' x' w h hB hl hk (by omega) his).mono (fun e w' h => by obtain ⟨sp', h1, h2, h3⟩ := h; exact ⟨sp', h1, h2, h3, fun h => absurd rfl h⟩)
    · rw [if_pos hx]; exact (rtSet_hop B sp L F a n x w h hB hc hx).mono (fun e w' h => ⟨sp, h.1, h.2.1, h.2.2, fun _ => rfl⟩)
  · rw [if_pos hc]; exact (rtSet_bad B sp L F a n x w h hB hc).mono (fun e w' h => ⟨sp, h.1, h.2.1, h.2.2, fun _ => rfl⟩)
end Go.Proofs.YtbcfcjecobihnaaGreatDoor

end

section
/- ferryhytheref1.Routes.Drop. -/
namespace Go.Proofs.YtbcfcjecobihnaaGreatDoor
open Go.RowKit
set_option linter.unusedVariables false
set_option linter.unusedSimpArgs false
set_option maxRecDepth 100000

set_option maxHeartbeats 1000000 in
theorem rtDrop_bad (B : Nat) (sp : Value) (L : List Rte) (F : List Ent) (a n : Int) (w : World) (h : Sep B w (rteE sp L :: F)) (hB : B ≤ w.heap.size) (hc : ¬ chkP a n = 0) :
    Calls Tryz.prog 106 #[.agg #[sp], .agg #[.int .i64 a, .int .i64 n]] w fun e w' =>
      e = .returned (.tuple #[.agg #[sp], .int .i64 (chkP a n)]) ∧ Sep B w' (rteE sp L :: F) ∧ Below B w w' := by
  have hpre := refPre_any a n
  obtain ⟨c, hcc⟩ : ∃ c, c = chkP a n := ⟨_, rfl⟩
  rw [← hcc] at hc hpre ⊢
  have hd : (c != 0) = true := by simp [hc]
  have HPRE := Lib.hid hpre
  clear hc hcc hpre
  obtain ⟨W, hW, hs0, hb0⟩ := rsE_new 38 #[.int .i64 a, .int .i64 n] h hB
  obtain ⟨⟨ao, cap, rfl, hcap⟩⟩ : Nonempty _ := ⟨rte_shape (A := []) h⟩
  obtain ⟨gs, hgs⟩ : ∃ x, x = w.heap.size + 1 + 1 := ⟨_, rfl⟩
  obtain ⟨gr, hgr⟩ : ∃ x, x = w.heap.size + 1 := ⟨_, rfl⟩
  obtain ⟨gb, hgb⟩ : ∃ x, x = w.heap.size := ⟨_, rfl⟩
  rw [← hgs, ← hgr, ← hgb] at hs0
  have HS0 := Lib.hid hs0
  have HB0 := Lib.hid hb0
  have HW := Lib.hid hW
  have HGS := Lib.hid hgs
  have HGR := Lib.hid hgr
  have HGB := Lib.hid hgb
  clear h hs0 hb0 hW hgs hgr hgb
  obtain ⟨b0, hcs, s0, f0, hg0⟩ := rsE_cells HS0.out
  have r0 := hcs 0 _ rfl
  have r1 := hcs 1 _ rfl
  clear hcs
  go_enter Tryz.func106, Tryz.ntmps106
  go_upto_region 1 with fail
  rw [← HW.out, ← HGS.out, ← HGR.out, ← HGB.out]
  clear HW
  go_wp2_with fail
  refine (HPRE.out W).mono ?_
  rintro e w1 ⟨rfl, hb⟩
  have HS1 := Lib.hid (HS0.out.kept hb)
  have HB1 := Lib.hid (HB0.out.trans (hb.mono hg0))
  clear hb HS0 HB0 b0 r0 r1 s0 f0 hg0
  obtain ⟨b0, hcs, s0, f0, hg1⟩ := rsE_cells HS1.out
  have r0 := hcs 0 _ rfl
  have r1 := hcs 1 _ rfl
  clear hcs
  obtain ⟨wf, hwf, he1, he2, k0⟩ := rsE_end (.slice ao L.length cap) HS1.out HB1.out
  have HE1 := Lib.hid he1
  have HE2 := Lib.hid he2
  have HWF := Lib.hid hwf
  rw [hwf] at k0
  clear he1 he2 hwf
  go_wp2
  try simp only [Exit.inBlock, Exit.then]
  refine bodyPost_ret (v := .tuple #[.agg #[(.slice ao L.length cap)], .int .i64 c]) (by simp [results, Tryz.results106, go_sem, k0]) rfl ?_
  rw [← HWF.out]
  exact ⟨rfl, HE1.out, HE2.out⟩
set_option maxHeartbeats 1000000 in
theorem rtDrop_none (B : Nat) (sp : Value) (L : List Rte) (F : List Ent) (a n : Nat) (w : World) (h : Sep B w (rteE sp L :: F)) (hB : B ≤ w.heap.size) (hl : L.length ≤ 32) (hk : lpOk a n) (hno : isK L a n = false) :
    Calls Tryz.prog 106 #[.agg #[sp], .agg #[.int .i64 a, .int .i64 n]] w fun e w' =>
      e = .returned (.tuple #[.agg #[sp], .int .i64 5]) ∧ Sep B w' (rteE sp L :: F) ∧ Below B w w' := by
  have hpre := refPre_any (a : Int) (n : Int)
  rw [chkP_of hk] at hpre
  have HPRE := Lib.hid hpre
  have HK := Lib.hid hk
  have HL := Lib.hid hl
  clear hpre hk
  obtain ⟨i, hi⟩ : ∃ i, i = atK L a n := ⟨_, rfl⟩
  have HI := Lib.hid hi
  have HIS := Lib.hid hno
  clear hi hno
  obtain ⟨W, hW, hs0, hb0⟩ := rsE_new 38 #[.int .i64 a, .int .i64 n] h hB
  obtain ⟨⟨ao, cap, rfl, hcap⟩⟩ : Nonempty _ := ⟨rte_shape (A := []) h⟩
  obtain ⟨gs, hgs⟩ : ∃ x, x = w.heap.size + 1 + 1 := ⟨_, rfl⟩
  obtain ⟨gr, hgr⟩ : ∃ x, x = w.heap.size + 1 := ⟨_, rfl⟩
  obtain ⟨gb, hgb⟩ : ∃ x, x = w.heap.size := ⟨_, rfl⟩
  rw [← hgs, ← hgr, ← hgb] at hs0
  have HS0 := Lib.hid hs0
  have HB0 := Lib.hid hb0
  have HW := Lib.hid hW
  have HGS := Lib.hid hgs
  have HGR := Lib.hid hgr
  have HGB := Lib.hid hgb
  clear h hs0 hb0 hW hgs hgr hgb
  obtain ⟨b0, hcs, s0, f0, hg0⟩ := rsE_cells HS0.out
  have r0 := hcs 0 _ rfl
  have r1 := hcs 1 _ rfl
  clear hcs
  go_enter Tryz.func106, Tryz.ntmps106
  go_upto_region 1 with fail
  rw [← HW.out, ← HGS.out, ← HGR.out, ← HGB.out]
  clear HW
  go_wp2_with fail
  refine (HPRE.out W).mono ?_
  rintro e w1 ⟨rfl, hb⟩
  have HS1 := Lib.hid (HS0.out.kept hb)
  have HB1 := Lib.hid (HB0.out.trans (hb.mono hg0))
  clear hb HS0 HB0 b0 r0 r1 s0 f0 hg0
  obtain ⟨b0, hcs, s0, f0, hg1⟩ := rsE_cells HS1.out
  have r0 := hcs 0 _ rfl
  have r1 := hcs 1 _ rfl
  clear hcs
  have hat := refAtR_any w1.heap.size ao cap L a n w1 (Sep.rteSl (A := []) HS1.out) (Nat.le_refl _) (by have := HL.out; omega)
  rw [← HI.out, HIS.out] at hat
  have HAT := Lib.hid hat
  clear hat
  go_wp2_with fail
  refine HAT.out.mono ?_
  rintro e w2 ⟨rfl, hb⟩
  have HS2 := Lib.hid (HS1.out.kept hb)
  have HB2 := Lib.hid (HB1.out.trans (hb.mono hg1))
  clear hb HS1 HB1 b0 r0 r1 s0 f0 hg1 HAT
  obtain ⟨b0, hcs, s0, f0, hg2⟩ := rsE_cells HS2.out
  have r0 := hcs 0 _ rfl
  have r1 := hcs 1 _ rfl
  clear hcs
  obtain ⟨wf, hwf, he1, he2, k0⟩ := rsE_end (.slice ao L.length cap) HS2.out HB2.out
  have HE1 := Lib.hid he1
  have HE2 := Lib.hid he2
  have HWF := Lib.hid hwf
  rw [hwf] at k0
  clear he1 he2 hwf
  go_wp2
  try simp only [Exit.inBlock, Exit.then]
  refine bodyPost_ret (v := .tuple #[.agg #[(.slice ao L.length cap)], .int .i64 5]) (by simp [results, Tryz.results106, go_sem, k0]) rfl ?_
  rw [← HWF.out]
  exact ⟨rfl, HE1.out, HE2.out⟩
set_option maxHeartbeats 2000000 in
theorem rtDrop_old (B : Nat) (sp : Value) (L : List Rte) (F : List Ent) (a n : Nat) (w : World) (h : Sep B w (rteE sp L :: F)) (hB : B ≤ w.heap.size) (hl : L.length ≤ 32) (hk : lpOk a n) (hno : isK L a n = true) :
    Calls Tryz.prog 106 #[.agg #[sp], .agg #[.int .i64 a, .int .i64 n]] w fun e w' =>
      ∃ sp', e = .returned (.tuple #[.agg #[sp'], .int .i64 0]) ∧ Sep B w' (rteE sp' (L.take (atK L a n) ++ L.drop (atK L a n + 1)) :: F) ∧ Below B w w' := by
  have hpre := refPre_any (a : Int) (n : Int)
  rw [chkP_of hk] at hpre
  have HPRE := Lib.hid hpre
  have HK := Lib.hid hk
  have HL := Lib.hid hl
  clear hpre hk
  obtain ⟨i, hi⟩ : ∃ i, i = atK L a n := ⟨_, rfl⟩
  have hjl : i + 1 ≤ L.length := by
    unfold isK at hno
    rw [← hi] at hno
    rcases Nat.lt_or_ge i L.length with h | h
    · omega
    · rw [List.getElem?_eq_none h] at hno; cases hno
  have HI := Lib.hid hi
  have HIS := Lib.hid hno
  rw [← hi]
  have hi1 : i ≤ L.length := by omega
  clear hi hno
  obtain ⟨W, hW, hs0, hb0⟩ := rsE_new 38 #[.int .i64 a, .int .i64 n] h hB
  obtain ⟨⟨ao, cap, rfl, hcap⟩⟩ : Nonempty _ := ⟨rte_shape (A := []) h⟩
  obtain ⟨gs, hgs⟩ : ∃ x, x = w.heap.size + 1 + 1 := ⟨_, rfl⟩
  obtain ⟨gr, hgr⟩ : ∃ x, x = w.heap.size + 1 := ⟨_, rfl⟩
  obtain ⟨gb, hgb⟩ : ∃ x, x = w.heap.size := ⟨_, rfl⟩
  rw [← hgs, ← hgr, ← hgb] at hs0
  have HS0 := Lib.hid hs0
  have HB0 := Lib.hid hb0
  have HW := Lib.hid hW
  have HGS := Lib.hid hgs
  have HGR := Lib.hid hgr
  have HGB := Lib.hid hgb
  clear h hs0 hb0 hW hgs hgr hgb
  obtain ⟨b0, hcs, s0, f0, hg0⟩ := rsE_cells HS0.out
  have r0 := hcs 0 _ rfl
  have r1 := hcs 1 _ rfl
  clear hcs
  go_enter Tryz.func106, Tryz.ntmps106
  go_upto_region 1 with fail
  rw [← HW.out, ← HGS.out, ← HGR.out, ← HGB.out]
  clear HW
  go_wp2_with fail
  refine (HPRE.out W).mono ?_
  rintro e w1 ⟨rfl, hb⟩
  have HS1 := Lib.hid (HS0.out.kept hb)
  have HB1 := Lib.hid (HB0.out.trans (hb.mono hg0))
  clear hb HS0 HB0 b0 r0 r1 s0 f0 hg0
  obtain ⟨b0, hcs, s0, f0, hg1⟩ := rsE_cells HS1.out
  have r0 := hcs 0 _ rfl
  have r1 := hcs 1 _ rfl
  clear hcs
  have hat := refAtR_any w1.heap.size ao cap L a n w1 (Sep.rteSl (A := []) HS1.out) (Nat.le_refl _) (by have := HL.out; omega)
  rw [← HI.out, HIS.out] at hat
  have HAT := Lib.hid hat
  clear hat
  go_wp2_with fail
  refine HAT.out.mono ?_
  rintro e w2 ⟨rfl, hb⟩
  have HS2 := Lib.hid (HS1.out.kept hb)
  have HB2 := Lib.hid (HB1.out.trans (hb.mono hg1))
  clear hb HS1 HB1 b0 r0 r1 s0 f0 hg1 HAT
  obtain ⟨b0, hcs, s0, f0, hg2⟩ := rsE_cells HS2.out
  have r0 := hcs 0 _ rfl
  have r1 := hcs 1 _ rfl
  clear hcs
  have hic : i ≤ cap := by omega
  have hik : (i : Int) ≤ (L.length : Int) := by omega
  have hi0 : (0 : Int) ≤ (i : Int) := by omega
  obtain ⟨v1, w3, hr1, hs3, hb3⟩ := rteApp (A := []) (X := []) (ys := L.take i) (c := cap) 43 (HS2.out.rowNil 3 40) hg2 (rteSl_take (Sep.rteSl (A := []) HS2.out) i) (by rw [List.length_take]; simp; omega)
  rw [List.length_take, Nat.min_eq_left hi1] at hr1
  simp only [List.nil_append] at hs3
  have hg3 : B ≤ w3.heap.size := Nat.le_trans hg2 hb3.size
  have HR1 := Lib.hid hr1
  have HS3 := Lib.hid hs3
  have HB3 := Lib.hid (HB2.out.trans hb3)
  clear hr1 hs3 hb3
  obtain ⟨v3, w5, hr3, hs5, hb5⟩ := rteApp (A := []) (ys := L.drop (i + 1)) (c := cap - (i + 1)) 43 HS3.out hg3 (rteSl_cut (Sep.rteSl (A := [_]) HS3.out) hcap (i + 1)) (by simp; omega)
  rw [List.length_drop] at hr3
  obtain ⟨_, d0, -, -, -, -⟩ := rsE_cells (v := .slice ao L.length cap) (HS3.out.sub (List.sublist_cons_self _ _)) |> fun h => (⟨trivial, h.1, h.2.1, h.2.2.1, h.2.2.2.1, h.2.2.2.2⟩ : True ∧ _ ∧ _ ∧ _ ∧ _ ∧ _)
  obtain ⟨ao5, N5, cap5, rfl⟩ : ∃ a n c, v3 = .slice a n c := by
    obtain ⟨a', c', e, -⟩ := rte_shape (A := []) hs5
    exact ⟨a', _, c', e⟩
  simp only [List.nil_append] at hs5
  have HR3 := Lib.hid hr3
  have HS5 := Lib.hid (show Sep B w5 (rsE gs gr gb 38 [.int .i64 (a : Int), .int .i64 (n : Int)] (.slice ao5 N5 cap5) (.slice ao L.length cap) _ (rteE (.slice ao L.length cap) L :: F)) from hs5.perm (List.Perm.cons _ ((List.perm_append_comm (l₁ := [_]) (l₂ := [_, _, _])).append_right F)))
  have HB5 := Lib.hid (HB3.out.trans hb5)
  obtain ⟨_, e0, _, e1, e2, -⟩ := rsE_cells HS5.out |> fun h => (⟨trivial, h.1, h.2.1, h.2.2.1, h.2.2.2.1, h.2.2.2.2⟩ : True ∧ _ ∧ _ ∧ _ ∧ _ ∧ _)
  clear hr3 hs5 hb5
  obtain ⟨k, hk⟩ : ∃ k, k = i + 1 := ⟨_, rfl⟩
  have hkI : (i : Int) + 1 = (k : Int) := by omega
  rw [← hk] at HR3 hjl
  have HKK := Lib.hid hk
  clear hk
  go_upto_region 8 with fail
  go_upto_region 9 with (first | (with_reducible refine wpList_slice_to rfl (.tmp 27) (.tmp 28) rfl elemRte _ _ _ rfl i .i64 rfl hic ?_) | (at_builtin; refine wpList_append_known rfl (.tmp 25) (.tmp 29) _ _ rfl _ _ rfl rfl HR1.out ?_))
  go_wp2_with (first | (with_reducible refine wpList_slice_from rfl (.tmp 33) (.tmp 35) rfl elemRte _ _ _ rfl k .i64 rfl hjl ?_) | (at_builtin; refine wpList_append_known rfl (.tmp 31) (.tmp 36) _ _ rfl _ _ rfl rfl HR3.out ?_))
  obtain ⟨wf, hwf, he1, he2, k0⟩ := rsE_end (.slice ao5 N5 cap5) HS5.out HB5.out
  have HE1 := Lib.hid he1
  have HE2 := Lib.hid he2
  have HWF := Lib.hid hwf
  rw [hwf] at k0
  clear he1 he2 hwf
  go_wp2
  try simp only [Exit.inBlock, Exit.then]
  refine bodyPost_ret (v := .tuple #[.agg #[(.slice ao5 N5 cap5)], .int .i64 0]) (by simp [results, Tryz.results106, go_sem, k0]) rfl ?_
  rw [← HWF.out]
  refine ⟨_, rfl, ?_, HE2.out⟩
  have := HE1.out
  exact this.sub (List.Sublist.cons_cons _ (List.sublist_cons_self _ _))
/-- ferryhytheref1.Routes.Drop. -/
theorem rtDrop_any (B : Nat) (sp : Value) (L : List Rte) (F : List Ent) (a n : Int) (w : World) (h : Sep B w (rteE sp L :: F)) (hB : B ≤ w.heap.size) (hl : L.length ≤ 32) (hs : SrtR L) :
    Calls Tryz.prog 106 #[.agg #[sp], .agg #[.int .i64 a, .int .i64 n]] w fun e w' =>
      ∃ sp', e = .returned (.tuple #[.agg #[sp'], .int .i64 (dropR L a n).2]) ∧ Sep B w' (rteE sp' (dropR L a n).1 :: F) ∧ Below B w w' ∧ (¬ (dropR L a n).2 = 0 → sp' = sp) := by
  unfold dropR
  by_cases hc : chkP a n = 0
  · rw [if_neg (fun h => h hc)]
    obtain ⟨a', n', rfl, rfl, hk⟩ := chkP_ok hc
    simp only [Int.toNat_natCast]
    rw [hasL_is hs]
    cases his : isK L a' n' with
    | false =>
      rw [if_neg (by decide)]
      exact (rtDrop_none B sp L F a' n' w h hB hl hk his).mono (fun e w' h => ⟨sp, h.1, h.2.1, h.2.2, fun _ => rfl⟩)
    | true =>
      rw [if_pos rfl, dropL_at hs his]
      exact (rtDrop_old B sp L F a' n' w h hB hl hk his).mono (fun e w' h => by obtain ⟨sp', h1, h2, h3⟩ := h; exact ⟨sp', h1, h2, h3, fun h => absurd rfl h⟩)
  · rw [if_pos hc]; exact (rtDrop_bad B sp L F a n w h hB hc).mono (fun e w' h => ⟨sp, h.1, h.2.1, h.2.2, fun _ => rfl⟩)
end Go.Proofs.YtbcfcjecobihnaaGreatDoor

end

section
/- (*lpm.Table).Drop, whatever comes. -/
namespace Go.Proofs.YtbcfcjecobihnaaGreatDoor
open Go.RowKit
set_option linter.unusedVariables false
set_option maxRecDepth 100000
theorem lpmDrop_any (B tb : Nat) (L : List Rte) (F : List Ent) (a n : Int) (w : World) (hB : B ≤ w.heap.size) (hs : TabS B w tb L F) :
    Calls Tryz.prog 31 #[.pointer (some ⟨tb, 0, none⟩), .agg #[.int .i64 a, .int .i64 n]] w fun e w' => e = .returned (errV (dropR L a n).2) ∧ TabS B w' tb (dropR L a n).1 F ∧ Below B w w' := by
  unfold dropR
  by_cases hc : chkP a n = 0
  · rw [if_neg (fun h => h hc)]
    obtain ⟨x, k, rfl, rfl, hk⟩ := chkP_ok hc
    rw [Int.toNat_natCast, Int.toNat_natCast]
    have := lpmDrop_ok B tb L F x k w hB hs hk
    by_cases hf : hasL L x k = true
    · rw [if_pos hf]; rw [if_pos hf, if_pos hf] at this; exact this
    · rw [if_neg hf]; rw [if_neg hf, if_neg hf] at this; exact this
  · rw [if_pos hc]; exact lpmDrop_bad B tb L F a n w hB hs hc
end Go.Proofs.YtbcfcjecobihnaaGreatDoor

end
