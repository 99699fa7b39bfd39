/- (*lpm.Table).Drop. -/
import Derived.Test.YtbcfcjecobihnaaDoorLpmFind
namespace Go.Proofs.YtbcfcjecobihnaaDoor
open Go.RowKit
set_option linter.unusedVariables false
set_option linter.unusedSimpArgs false
set_option maxRecDepth 100000

/-- The table, and what is wrong. -/
def dropR (L : List Rte) (a n : Int) : List Rte × Int :=
  if ¬ chkP a n = 0 then (L, chkP a n) else if hasL L a.toNat n.toNat then (dropL L a.toNat n.toNat, 0) else (L, 5)

set_option maxHeartbeats 400000 in
theorem lpmDrop_bad (B tb : Nat) (L : List Rte) (F : List Ent) (a n : Int) (w : World) (hB : B ≤ w.heap.size) (hs : TabS B w tb L F) (hc : ¬ chkP a n = 0) :
    Calls Tryd.prog 22 #[.pointer (some ⟨tb, 0, none⟩), .agg #[.int .i64 a, .int .i64 n]] w fun e w' => e = .returned (errV (chkP a n)) ∧ TabS B w' tb L F ∧ Below B w w' := by
  rw [errV_not hc]
  obtain ⟨c, hcc⟩ : ∃ c, c = chkP a n := ⟨_, rfl⟩
  rw [← hcc] at hc ⊢
  have hch := fun w1 => check_any a n w1
  rw [← hcc, errV_not hc] at hch
  have HCH := Lib.hid hch
  have HS := Lib.hid hs
  clear hcc hch hs
  obtain ⟨W, hW⟩ : ∃ W, W = w.alloc (.cells #[.int .i64 a, .int .i64 n] 34) := ⟨_, rfl⟩
  have hbW : Below w.heap.size w W := by rw [hW]; exact below_alloc w _
  have hp0 : W.cell? ⟨w.heap.size, 0, none⟩ = some (.int .i64 a) := by rw [hW, World.cell?_alloc_mark]; rfl
  have hp1 : W.cell? ⟨w.heap.size, 1, none⟩ = some (.int .i64 n) := by rw [hW, World.cell?_alloc_mark]; rfl
  have hgW : w.heap.size < W.heap.size := by rw [hW]; simp
  obtain ⟨g, hg⟩ : ∃ g, g = w.heap.size := ⟨_, rfl⟩
  have HBW := Lib.hid hbW
  have HW := Lib.hid hW
  have HG := Lib.hid hg
  rw [← hg] at hp0 hp1 hgW
  clear hbW hW hg
  go_enter Tryd.func22, Tryd.ntmps22
  go_upto_region 1 with fail
  rw [← HW.out, ← HG.out]
  go_wp2_with fail
  refine (HCH.out _).mono ?_
  rintro e w1 ⟨rfl, hb⟩
  have HB1 := Lib.hid (HBW.out.trans (hb.mono HBW.out.size))
  clear hb
  go_wp2
  go_ret
  exact ⟨rfl, HS.out.kept HB1.out, HB1.out.mono hB⟩
set_option maxHeartbeats 2000000 in
theorem lpmDrop_ok (B tb : Nat) (L : List Rte) (F : List Ent) (a n : Nat) (w : World) (hB : B ≤ w.heap.size) (hs : TabS B w tb L F) (hk : lpOk a n) :
    Calls Tryd.prog 22 #[.pointer (some ⟨tb, 0, none⟩), .agg #[.int .i64 a, .int .i64 n]] w fun e w' => e = .returned (errV (if hasL L a n then 0 else 5)) ∧ TabS B w' tb (if hasL L a n then dropL L a n else L) F ∧ Below B w w' := by
  have hch := fun w1 => check_any a n w1
  rw [chkP_of hk, errV_zero] at hch
  have HCH := Lib.hid hch
  have HKK := Lib.hid hk
  have ha := hk.1
  have hn := hk.2.1
  obtain ⟨T, hT, hTL, hs⟩ := hs
  have hlook := at_look hT.deep hk (hT.low _)
  rw [hTL] at hlook
  have hhas := hasL_look (L := L) (a := a) (n := n)
  rw [← hlook] at hhas
  have HT := Lib.hid hT
  have HTL := Lib.hid hTL
  have HS := Lib.hid hs
  clear hk hch hT hTL hs hlook
  obtain ⟨W, hW⟩ : ∃ W, W = w.alloc (.cells #[.int .i64 (a : Int), .int .i64 (n : Int)] 34) := ⟨_, rfl⟩
  have hbW : Below w.heap.size w W := by rw [hW]; exact below_alloc w _
  have hp0 : W.cell? ⟨w.heap.size, 0, none⟩ = some (.int .i64 (a : Int)) := by rw [hW, World.cell?_alloc_mark]; rfl
  have hp1 : W.cell? ⟨w.heap.size, 1, none⟩ = some (.int .i64 (n : Int)) := by rw [hW, World.cell?_alloc_mark]; rfl
  have hgW : w.heap.size < W.heap.size := by rw [hW]; simp
  obtain ⟨g, hg⟩ : ∃ g, g = w.heap.size := ⟨_, rfl⟩
  have HBW := Lib.hid hbW
  have HW := Lib.hid hW
  have HG := Lib.hid hg
  rw [← hg] at hp0 hp1 hgW
  clear hbW hW hg
  cases hsub : T.sub (lpPath a n) with
  | nil =>
    have hno : hasL L a n = false := by
      cases hb : hasL L a n with
      | false => rfl
      | true => have := hhas.1 hb; unfold LT.at at this; rw [hsub] at this; exact absurd this (by simp [LT.hop])
    rw [hno]
    simp only [Bool.false_eq_true, if_false]
    rw [errV_not (by decide)]
    have HSUB := Lib.hid hsub
    clear hsub hhas hno
    go_enter Tryd.func22, Tryd.ntmps22
    go_upto_region 1 with fail
    rw [← HW.out, ← HG.out]
    go_wp2_with fail
    refine (HCH.out _).mono ?_
    rintro e w1 ⟨rfl, hb⟩
    have HB1 := Lib.hid (HBW.out.trans (hb.mono HBW.out.size))
    have q0 : w1.cell? ⟨g, 0, none⟩ = some (.int .i64 (a : Int)) := (hb.cell (p := ⟨g, 0, none⟩) hgW).trans hp0
    have q1 : w1.cell? ⟨g, 1, none⟩ = some (.int .i64 (n : Int)) := (hb.cell (p := ⟨g, 1, none⟩) hgW).trans hp1
    clear hb hp0 hp1
    go_wp2_with fail
    refine (lpmAt_any B tb L.length T F a n w1 (by omega) hn (HS.out.kept HB1.out)).mono ?_
    rintro e w2 ⟨rfl, hb⟩
    have HB2 := Lib.hid (HB1.out.trans (hb.mono HB1.out.size))
    clear hb q0 q1
    have hpv : (T.sub (lpPath a n)).ptr = .pointer none := by rw [HSUB.out]; rfl
    rw [hpv]
    clear hpv
    go_wp2
    go_ret
    exact ⟨rfl, ⟨T, HT.out, HTL.out, HS.out.kept HB2.out⟩, HB2.out.mono hB⟩
  | node b h l r =>
    have hat : T.at (lpPath a n) = h := by unfold LT.at; rw [hsub]; rfl
    rw [hat] at hhas
    by_cases h0 : h < 0
    · have hno : hasL L a n = false := by
        cases hb : hasL L a n with
        | false => rfl
        | true => have := hhas.1 hb; omega
      rw [hno]
      simp only [Bool.false_eq_true, if_false]
      rw [errV_not (by decide)]
      have HSUB := Lib.hid hsub
      have d0 : decide (h < 0) = true := decide_eq_true h0
      clear hsub hhas hno hat
      go_enter Tryd.func22, Tryd.ntmps22
      go_upto_region 1 with fail
      rw [← HW.out, ← HG.out]
      go_wp2_with fail
      refine (HCH.out _).mono ?_
      rintro e w1 ⟨rfl, hb⟩
      have HB1 := Lib.hid (HBW.out.trans (hb.mono HBW.out.size))
      have q0 : w1.cell? ⟨g, 0, none⟩ = some (.int .i64 (a : Int)) := (hb.cell (p := ⟨g, 0, none⟩) hgW).trans hp0
      have q1 : w1.cell? ⟨g, 1, none⟩ = some (.int .i64 (n : Int)) := (hb.cell (p := ⟨g, 1, none⟩) hgW).trans hp1
      clear hb hp0 hp1
      go_wp2_with fail
      refine (lpmAt_any B tb L.length T F a n w1 (by omega) hn (HS.out.kept HB1.out)).mono ?_
      rintro e w2 ⟨rfl, hb⟩
      have HB2 := Lib.hid (HB1.out.trans (hb.mono HB1.out.size))
      clear hb q0 q1
      have hpv : (T.sub (lpPath a n)).ptr = .pointer (some ⟨b, 0, none⟩) := by rw [HSUB.out]; rfl
      rw [hpv]
      clear hpv
      obtain ⟨⟨-, -, c2⟩, -, -⟩ := nod_cells (HS.out.kept HB2.out) HSUB.out
      go_wp2
      go_ret
      exact ⟨rfl, ⟨T, HT.out, HTL.out, HS.out.kept HB2.out⟩, HB2.out.mono hB⟩
    · have hyes : hasL L a n = true := hhas.2 (by omega)
      rw [hyes]
      simp only [if_true]
      rw [errV_zero]
      have HSUB := Lib.hid hsub
      have d0 : decide (h < 0) = false := decide_eq_false h0
      have hlow := HT.out.low (lpPath a n)
      have hhigh := HT.out.high (lpPath a n)
      rw [hat] at hlow hhigh
      have hfew := HT.out.few
      rw [HTL.out] at hfew
      have HYES := Lib.hid hyes
      clear hsub hhas hyes hat
      go_enter Tryd.func22, Tryd.ntmps22
      go_upto_region 1 with fail
      rw [← HW.out, ← HG.out]
      go_wp2_with fail
      refine (HCH.out _).mono ?_
      rintro e w1 ⟨rfl, hb⟩
      have HB1 := Lib.hid (HBW.out.trans (hb.mono HBW.out.size))
      have q0 : w1.cell? ⟨g, 0, none⟩ = some (.int .i64 (a : Int)) := (hb.cell (p := ⟨g, 0, none⟩) hgW).trans hp0
      have q1 : w1.cell? ⟨g, 1, none⟩ = some (.int .i64 (n : Int)) := (hb.cell (p := ⟨g, 1, none⟩) hgW).trans hp1
      clear hb hp0 hp1
      go_wp2_with fail
      refine (lpmAt_any B tb L.length T F a n w1 (by omega) hn (HS.out.kept HB1.out)).mono ?_
      rintro e w2 ⟨rfl, hb⟩
      have HB2 := Lib.hid (HB1.out.trans (hb.mono HB1.out.size))
      clear hb q0 q1
      have hpv : (T.sub (lpPath a n)).ptr = .pointer (some ⟨b, 0, none⟩) := by rw [HSUB.out]; rfl
      rw [hpv]
      clear hpv
      have HS2 := Lib.hid (HS.out.kept HB2.out)
      obtain ⟨⟨-, -, c2⟩, cf, hBb⟩ := nod_cells HS2.out HSUB.out
      have cf2 := cf 2 (by decide)
      -- the tree behind the store
      obtain ⟨T', hT'⟩ : ∃ T', T' = T.repl (lpPath a n) (.node b (-1) l r) := ⟨_, rfl⟩
      have hne : T.sub (lpPath a n) ≠ .nil := by rw [HSUB.out]; simp
      obtain ⟨A, C, hA1, hA2⟩ := LT.ents_at T (lpPath a n) hne
      obtain ⟨hA3, hA4⟩ := hA2 (.node b (-1) l r) (by rw [HSUB.out]; rfl)
      rw [← hT'] at hA3 hA4
      rw [HSUB.out] at hA1
      have hs3 : Sep B (w2.setCell ⟨b, 2, none⟩ (.int .i64 (-1))) (lptE tb L.length T' ++ F) := by
        have h1 : Sep B w2 ((Ent.blk1 tb 73 [T.ptr, .int .i64 L.length] :: A) ++ nodE b h l r :: (l.ents ++ r.ents ++ C ++ F)) := by
          have h2 := HS2.out
          unfold lptE at h2
          rw [hA1] at h2
          simpa [LT.ents] using h2
        have h3 := Sep.blkSet h1 2 (.int .i64 (-1))
        unfold lptE
        rw [hA3, hA4]
        simpa [LT.ents] using h3
      obtain ⟨k, hk⟩ : ∃ k, L.length = k + 1 := by
        have := dropL_len (L := L) (a := a) (n := n) (by rw [← HTL.out]; exact rts_sorted HT.out.deep) HYES.out
        exact ⟨(dropL L a n).length, by omega⟩
      obtain ⟨t0, t1, tf1, htb⟩ := lpt_cells hs3
      have hs4 := Sep.blkSet (A := []) hs3 1 (.int .i64 (k : Int))
      have hset := at_set (h' := -1) HSUB.out
      rw [← hT'] at hset
      have hd' : T'.deep 17 := by
        rw [hT']
        refine LT.deep_repl T _ _ 17 HT.out.deep hne ?_
        have := LT.deep_sub T (lpPath a n) 17 HT.out.deep
        rw [HSUB.out] at this
        rw [lpPath_len] at this ⊢
        rw [show 17 - n = 16 - n + 1 by omega] at this ⊢
        exact this
      have hrts : T'.rts [] = dropL L a n := by rw [← HTL.out]; exact rts_drop HT.out.deep hd' HKK.out hset.1 hset.2
      have hlen : (dropL L a n).length = k := by
        have := dropL_len (L := L) (a := a) (n := n) (by rw [← HTL.out]; exact rts_sorted HT.out.deep) HYES.out
        omega
      have hok' : TabOk T' := by
        refine ⟨?_, hd', fun π => ?_, fun π => ?_, ?_⟩
        · intro e
          have h1 := LT.sub_repl T (lpPath a n) (.node b (-1) l r) hne
          rw [← hT', e, LT.sub_nil] at h1
          cases h1
        · by_cases e : π = lpPath a n
          · rw [e, hset.2]; decide
          · rw [hset.1 π e]; exact HT.out.low π
        · by_cases e : π = lpPath a n
          · rw [e, hset.2]; decide
          · rw [hset.1 π e]; exact HT.out.high π
        · rw [hrts, hlen]; omega
      have hfin : TabS B ((w2.setCell ⟨b, 2, none⟩ (.int .i64 (-1))).setCell ⟨tb, 1, none⟩ (.int .i64 (k : Int))) tb (dropL L a n) F := by
        refine ⟨T', hok', hrts, ?_⟩
        rw [hlen]
        exact hs4
      have hbf : Below B w ((w2.setCell ⟨b, 2, none⟩ (.int .i64 (-1))).setCell ⟨tb, 1, none⟩ (.int .i64 (k : Int))) := ((HB2.out.mono hB).setCell (p := ⟨b, 2, none⟩) hBb _).setCell (p := ⟨tb, 1, none⟩) htb _
      have HFIN := Lib.hid hfin
      have HBF := Lib.hid hbf
      have hkI : (L.length : Int) - 1 = (k : Int) := by omega
      have hk33 : k ≤ 32 := by omega
      clear hT' hne hA1 hA2 hA3 hA4 hs3 hs4 hset hd' hrts hlen hok' hfin hbf cf hk
      go_wp2
      go_ret
      exact ⟨rfl, HFIN.out, HBF.out⟩
end Go.Proofs.YtbcfcjecobihnaaDoor
