/- Of the laws that the given statement is lifted from; each holds for every input that it names: (*lpm.Table).Set. · 'append' as one step of a region that draws. · cmp.Compare, cmp.Or of two numbers. · Contracts of the shelf, laid by the kit's own tool (lay-shelf, lay-plain), its numbers turned to names. · Which of two routes is first: the closure of (*lpm.Table).Routes; a list that is sorted stays as it is. -/
import Derived.Test.YtbcfcjecobihnaaGreatDoorPk3
import Derived.Test.YtbcfcjecobihnaaGreatDoorPk1
import Derived.OwnWalk
import Derived.Test.YtbcfcjecobihnaaGreatDoorRows
import Derived.Deep.RegionHeld3
import Derived.Deep.RegionWith
import Derived.Deep.DeepCutAuto
import Derived.Shelf.SlSortCmp.WholeK
import Derived.Shelf.SlSortCmp.NoneTotal

section
/- (*lpm.Table).Set. -/
namespace Go.Proofs.YtbcfcjecobihnaaGreatDoor
open Go.RowKit
set_option linter.unusedVariables false
set_option linter.unusedSimpArgs false
set_option maxRecDepth 100000

/-- The table, and what is wrong. -/
def setRR (L : List Rte) (a n h : Int) : List Rte × Int :=
  if ¬ chkP a n = 0 then (L, chkP a n) else if ¬ (0 ≤ h ∧ h ≤ 9) then (L, 1) else
  if hasL L a.toNat n.toNat = false ∧ L.length = 32 then (L, 4) else (setL L a.toNat n.toNat h.toNat, 0)
/-- A node with one kid more. -/
def grown (b : Nat) (h : Int) (l r : LT) (y : Bool) (nb : Nat) : LT := if y then .node b h l (.node nb (-1) .nil .nil) else .node b h (.node nb (-1) .nil .nil) r
theorem grown_kid (b : Nat) (h : Int) (l r : LT) (y : Bool) (nb : Nat) : (grown b h l r y nb).kid y = .node nb (-1) .nil .nil := by cases y <;> rfl
theorem bare_at (nb : Nat) : ∀ τ, (LT.node nb (-1) .nil .nil).at τ = -1
  | [] => rfl
  | b :: τ => by rw [LT.at_cons]; cases b <;> exact LT.at_nil τ
theorem grown_at {b : Nat} {h : Int} {l r : LT} {y : Bool} {nb : Nat} (hn : (LT.node b h l r).kid y = .nil) : ∀ τ, (grown b h l r y nb).at τ = (LT.node b h l r).at τ := by
  intro τ
  cases y with
  | false =>
    obtain rfl : l = .nil := hn
    match τ with
    | [] => rfl
    | true :: τ => rfl
    | false :: τ =>
      show (LT.node nb (-1) .nil .nil).at τ = LT.nil.at τ
      rw [bare_at, LT.at_nil]
  | true =>
    obtain rfl : r = .nil := hn
    match τ with
    | [] => rfl
    | false :: τ => rfl
    | true :: τ =>
      show (LT.node nb (-1) .nil .nil).at τ = LT.nil.at τ
      rw [bare_at, LT.at_nil]
theorem grown_deep {b : Nat} {h : Int} {l r : LT} {y : Bool} {nb m : Nat} (hd : (LT.node b h l r).deep (m + 2)) : (grown b h l r y nb).deep (m + 2) := by
  cases y
  · exact ⟨⟨LT.deep_nil _, LT.deep_nil _⟩, hd.2⟩
  · exact ⟨hd.1, ⟨LT.deep_nil _, LT.deep_nil _⟩⟩
theorem sep_grow {B tb m : Nat} {w : World} {T : LT} {F : List Ent} {π : List Bool} {b : Nat} {h : Int} {l r : LT} {y : Bool} (hs : Sep B w (lptE tb m T ++ F)) (hB : B ≤ w.heap.size) (hk : T.sub π = .node b h l r) (hn : (LT.node b h l r).kid y = .nil) :
    Sep B ((w.alloc (.cells #[.pointer none, .pointer none, .int .i64 (-1)] 81)).setCell ⟨b, y.toNat, none⟩ (.pointer (some ⟨w.heap.size, 0, none⟩))) (lptE tb m (T.repl π (grown b h l r y w.heap.size)) ++ F) := by
  have hne : T.sub π ≠ .nil := by rw [hk]; simp
  obtain ⟨A, C, hA1, hA2⟩ := LT.ents_at T π hne
  obtain ⟨hA3, hA4⟩ := hA2 (grown b h l r y w.heap.size) (by rw [hk]; cases y <;> rfl)
  rw [hk] at hA1
  have h0 := Sep.blkNew hs hB #[.pointer none, .pointer none, .int .i64 (-1)] 81
  unfold lptE at h0 ⊢
  rw [hA1] at h0
  rw [hA3, hA4]
  cases y with
  | false =>
    obtain rfl : l = .nil := hn
    have h1 : Sep B (w.alloc (.cells #[.pointer none, .pointer none, .int .i64 (-1)] 81)) ((nodE w.heap.size (-1) .nil .nil :: Ent.blk1 tb 83 [T.ptr, .int .i64 m] :: A) ++ nodE b h .nil r :: (r.ents ++ C ++ F)) := by
      simpa [LT.ents, nodE, LT.ptr] using h0
    have h2 := Sep.blkSet h1 0 (.pointer (some ⟨w.heap.size, 0, none⟩))
    refine Sep.perm h2 ?_
    have e : (nodE w.heap.size (-1) .nil .nil :: Ent.blk1 tb 83 [T.ptr, .int .i64 m] :: A) ++ Ent.blk1 b 81 ([LT.nil.ptr, r.ptr, .int .i64 h].set 0 (.pointer (some ⟨w.heap.size, 0, none⟩))) :: (r.ents ++ C ++ F)
        = nodE w.heap.size (-1) .nil .nil :: ((Ent.blk1 tb 83 [T.ptr, .int .i64 m] :: A ++ [nodE b h (.node w.heap.size (-1) .nil .nil) r]) ++ (r.ents ++ C ++ F)) := by
      simp [nodE, LT.ptr]
    rw [e]
    refine (List.perm_middle.symm).trans ?_
    simp [grown, LT.ents]
  | true =>
    obtain rfl : r = .nil := hn
    have h1 : Sep B (w.alloc (.cells #[.pointer none, .pointer none, .int .i64 (-1)] 81)) ((nodE w.heap.size (-1) .nil .nil :: Ent.blk1 tb 83 [T.ptr, .int .i64 m] :: A) ++ nodE b h l .nil :: (l.ents ++ C ++ F)) := by
      simpa [LT.ents, nodE, LT.ptr] using h0
    have h2 := Sep.blkSet h1 1 (.pointer (some ⟨w.heap.size, 0, none⟩))
    refine Sep.perm h2 ?_
    have e : (nodE w.heap.size (-1) .nil .nil :: Ent.blk1 tb 83 [T.ptr, .int .i64 m] :: A) ++ Ent.blk1 b 81 ([l.ptr, LT.nil.ptr, .int .i64 h].set 1 (.pointer (some ⟨w.heap.size, 0, none⟩))) :: (l.ents ++ C ++ F)
        = nodE w.heap.size (-1) .nil .nil :: ((Ent.blk1 tb 83 [T.ptr, .int .i64 m] :: A ++ nodE b h l (.node w.heap.size (-1) .nil .nil) :: l.ents) ++ (C ++ F)) := by
      simp [nodE, LT.ptr]
    rw [e]
    refine (List.perm_middle.symm).trans ?_
    simp [grown, LT.ents]
/-- A hop is stored. -/
theorem sep_hop {B tb m : Nat} {w : World} {T : LT} {F : List Ent} {π : List Bool} {b : Nat} {h h' : Int} {l r : LT} (hs : Sep B w (lptE tb m T ++ F)) (hk : T.sub π = .node b h l r) :
    Sep B (w.setCell ⟨b, 2, none⟩ (.int .i64 h')) (lptE tb m (T.repl π (.node b h' l r)) ++ F) := by
  have hne : T.sub π ≠ .nil := by rw [hk]; simp
  obtain ⟨A, C, hA1, hA2⟩ := LT.ents_at T π hne
  obtain ⟨hA3, hA4⟩ := hA2 (.node b h' l r) (by rw [hk]; rfl)
  rw [hk] at hA1
  have h1 : Sep B w ((Ent.blk1 tb 83 [T.ptr, .int .i64 m] :: A) ++ nodE b h l r :: (l.ents ++ r.ents ++ C ++ F)) := by
    have h2 := hs
    unfold lptE at h2
    rw [hA1] at h2
    simpa [LT.ents] using h2
  have h3 := Sep.blkSet h1 2 (.int .i64 h')
  unfold lptE
  rw [hA3, hA4]
  simpa [LT.ents] using h3
theorem LT.is_node : ∀ {T : LT}, T ≠ .nil → ∃ b h l r, T = .node b h l r
  | .nil, h => absurd rfl h
  | .node b h l r, _ => ⟨b, h, l, r, rfl⟩
theorem repl_root {T : LT} {π : List Bool} {u : LT} (hne : T.sub π ≠ .nil) (hu : u ≠ .nil) : T.repl π u ≠ .nil := by
  intro e
  have h1 := LT.sub_repl T π u hne
  rw [e, LT.sub_nil] at h1
  exact hu h1.symm
/-- A table whose hop at a prefix is set. -/
theorem tabOk_set {T T' : LT} {a n : Nat} {h : Int} (hT : TabOk T) (hr : T' ≠ .nil) (hd' : T'.deep 17) (hk : lpOk a n) (h1 : ∀ ρ, ρ ≠ lpPath a n → T'.at ρ = T.at ρ) (h2 : T'.at (lpPath a n) = h) (h0 : 0 ≤ h) (h9 : h ≤ 9)
    (hroom : ¬ (hasL (T.rts []) a n = false ∧ (T.rts []).length = 32)) : TabOk T' ∧ T'.rts [] = setL (T.rts []) a n h.toNat := by
  have hrts : T'.rts [] = setL (T.rts []) a n h.toNat := rts_set hT.deep hd' hk h1 (by rw [h2]; omega)
  refine ⟨⟨hr, hd', fun π => ?_, fun π => ?_, ?_⟩, hrts⟩
  · by_cases e : π = lpPath a n
    · rw [e, h2]; omega
    · rw [h1 π e]; exact hT.low π
  · by_cases e : π = lpPath a n
    · rw [e, h2]; omega
    · rw [h1 π e]; exact hT.high π
  · rw [hrts, setL_len (rts_sorted hT.deep)]
    have := hT.few
    cases hb : hasL (T.rts []) a n with
    | true => simpa using this
    | false =>
      simp only [Bool.false_eq_true, if_false]
      rcases Nat.lt_or_ge (T.rts []).length 32 with h3 | h3
      · omega
      · exact absurd ⟨hb, by omega⟩ hroom

abbrev rteC (a n h : Int) : List Value := [.int .i64 a, .int .i64 n, .int .i64 h]
set_option maxHeartbeats 400000 in
theorem lpmSet_bad (B tb : Nat) (L : List Rte) (F : List Ent) (a n h : Int) (w : World) (hB : B ≤ w.heap.size) (hs : TabS B w tb L F) (hc : ¬ chkP a n = 0) :
    Calls Tryz.prog 30 #[.pointer (some ⟨tb, 0, none⟩), .agg #[.int .i64 a, .int .i64 n, .int .i64 h]] w fun e w' => e = .returned (errV (chkP a n)) ∧ TabS B w' tb L F ∧ Below B w w' := by
  rw [errV_not hc]
  obtain ⟨c, hcc⟩ : ∃ c, c = chkP a n := ⟨_, rfl⟩
  rw [← hcc] at hc ⊢
  have hch := fun w1 => check_any a n w1
  rw [← hcc, errV_not hc] at hch
  have HCH := Lib.hid hch
  have HS := Lib.hid hs
  clear hcc hch hs
  obtain ⟨W, hW⟩ : ∃ W, W = w.alloc (.cells #[.int .i64 a, .int .i64 n, .int .i64 h] 40) := ⟨_, rfl⟩
  have hbW : Below w.heap.size w W := by rw [hW]; exact below_alloc w _
  have hp0 : W.cell? ⟨w.heap.size, 0, none⟩ = some (.int .i64 a) := by rw [hW, World.cell?_alloc_mark]; rfl
  have hp1 : W.cell? ⟨w.heap.size, 1, none⟩ = some (.int .i64 n) := by rw [hW, World.cell?_alloc_mark]; rfl
  have hp2 : W.cell? ⟨w.heap.size, 2, none⟩ = some (.int .i64 h) := by rw [hW, World.cell?_alloc_mark]; rfl
  have hgW : w.heap.size < W.heap.size := by rw [hW]; simp
  obtain ⟨g, hg⟩ : ∃ g, g = w.heap.size := ⟨_, rfl⟩
  have HBW := Lib.hid hbW
  have HW := Lib.hid hW
  have HG := Lib.hid hg
  rw [← hg] at hp0 hp1 hp2 hgW
  clear hbW hW hg
  go_enter Tryz.func30, Tryz.ntmps30
  go_upto_region 1 with fail
  rw [← HW.out, ← HG.out]
  go_wp2_with fail
  refine (HCH.out _).mono ?_
  rintro e w1 ⟨rfl, hb⟩
  have HB1 := Lib.hid (HBW.out.trans (hb.mono HBW.out.size))
  have q0 : w1.cell? ⟨g, 0, none⟩ = some (.int .i64 a) := (hb.cell (p := ⟨g, 0, none⟩) hgW).trans hp0
  have q1 : w1.cell? ⟨g, 1, none⟩ = some (.int .i64 n) := (hb.cell (p := ⟨g, 1, none⟩) hgW).trans hp1
  have q2 : w1.cell? ⟨g, 2, none⟩ = some (.int .i64 h) := (hb.cell (p := ⟨g, 2, none⟩) hgW).trans hp2
  have hg1 : g < w1.heap.size := Nat.lt_of_lt_of_le hgW hb.size
  clear hb hp0 hp1 hp2 hgW
  go_wp2
  go_ret
  exact ⟨rfl, HS.out.kept HB1.out, HB1.out.mono hB⟩
set_option maxHeartbeats 400000 in
theorem lpmSet_hop (B tb : Nat) (L : List Rte) (F : List Ent) (a n : Nat) (h : Int) (w : World) (hB : B ≤ w.heap.size) (hs : TabS B w tb L F) (hk : lpOk a n) (hh : ¬ (0 ≤ h ∧ h ≤ 9)) :
    Calls Tryz.prog 30 #[.pointer (some ⟨tb, 0, none⟩), .agg #[.int .i64 a, .int .i64 n, .int .i64 h]] w fun e w' => e = .returned (errV 1) ∧ TabS B w' tb L F ∧ Below B w w' := by
  rw [errV_not (by decide)]
  have hch := fun w1 => check_any a n w1
  rw [chkP_of hk, errV_zero] at hch
  have HCH := Lib.hid hch
  have HS := Lib.hid hs
  have HN := Lib.hid hh
  clear hk hch hs hh
  obtain ⟨W, hW⟩ : ∃ W, W = w.alloc (.cells #[.int .i64 (a : Int), .int .i64 (n : Int), .int .i64 h] 40) := ⟨_, rfl⟩
  have hbW : Below w.heap.size w W := by rw [hW]; exact below_alloc w _
  have hp0 : W.cell? ⟨w.heap.size, 0, none⟩ = some (.int .i64 (a : Int)) := by rw [hW, World.cell?_alloc_mark]; rfl
  have hp1 : W.cell? ⟨w.heap.size, 1, none⟩ = some (.int .i64 (n : Int)) := by rw [hW, World.cell?_alloc_mark]; rfl
  have hp2 : W.cell? ⟨w.heap.size, 2, none⟩ = some (.int .i64 h) := by rw [hW, World.cell?_alloc_mark]; rfl
  have hgW : w.heap.size < W.heap.size := by rw [hW]; simp
  obtain ⟨g, hg⟩ : ∃ g, g = w.heap.size := ⟨_, rfl⟩
  have HBW := Lib.hid hbW
  have HW := Lib.hid hW
  have HG := Lib.hid hg
  rw [← hg] at hp0 hp1 hp2 hgW
  clear hbW hW hg
  go_enter Tryz.func30, Tryz.ntmps30
  go_upto_region 1 with fail
  rw [← HW.out, ← HG.out]
  go_wp2_with fail
  refine (HCH.out _).mono ?_
  rintro e w1 ⟨rfl, hb⟩
  have HB1 := Lib.hid (HBW.out.trans (hb.mono HBW.out.size))
  have q0 : w1.cell? ⟨g, 0, none⟩ = some (.int .i64 (a : Int)) := (hb.cell (p := ⟨g, 0, none⟩) hgW).trans hp0
  have q1 : w1.cell? ⟨g, 1, none⟩ = some (.int .i64 (n : Int)) := (hb.cell (p := ⟨g, 1, none⟩) hgW).trans hp1
  have q2 : w1.cell? ⟨g, 2, none⟩ = some (.int .i64 h) := (hb.cell (p := ⟨g, 2, none⟩) hgW).trans hp2
  have hg1 : g < w1.heap.size := Nat.lt_of_lt_of_le hgW hb.size
  clear hb hp0 hp1 hp2 hgW
  go_wp2_with fail
  refine (within_no _ _ _ _ HN.out).mono ?_
  rintro e w' ⟨rfl, rfl⟩
  go_wp2
  go_ret
  exact ⟨rfl, HS.out.kept HB1.out, HB1.out.mono hB⟩

set_option maxHeartbeats 2000000 in
theorem lpmSet_full (B tb : Nat) (L : List Rte) (F : List Ent) (a n : Nat) (h : Int) (w : World) (hB : B ≤ w.heap.size) (hs : TabS B w tb L F) (hk : lpOk a n) (hh0 : 0 ≤ h) (hh9 : h ≤ 9) (hno : hasL L a n = false) (h32 : L.length = 32) :
    Calls Tryz.prog 30 #[.pointer (some ⟨tb, 0, none⟩), .agg #[.int .i64 a, .int .i64 n, .int .i64 h]] w fun e w' => e = .returned (errV 4) ∧ TabS B w' tb L F ∧ Below B w w' := by
  have HNO := Lib.hid hno
  have e32 : ((L.length : Int) == 32) = true := by simp; omega
  have H32 := Lib.hid h32
  clear hno h32
  rw [errV_not (by decide)]
  have hch := fun w1 => check_any a n w1
  rw [chkP_of hk, errV_zero] at hch
  have HCH := Lib.hid hch
  have HKK := Lib.hid hk
  have ha := hk.1
  have hn := hk.2.1
  obtain ⟨T, hT, hTL, hs⟩ := hs
  have hlook := at_look hT.deep hk (hT.low _)
  rw [hTL] at hlook
  have hhas := hasL_look (L := L) (a := a) (n := n)
  rw [← hlook] at hhas
  have hfew := hT.few
  rw [hTL] at hfew
  obtain ⟨W, hW⟩ : ∃ W, W = w.alloc (.cells #[.int .i64 (a : Int), .int .i64 (n : Int), .int .i64 h] 40) := ⟨_, rfl⟩
  obtain ⟨g, hg⟩ : ∃ g, g = w.heap.size := ⟨_, rfl⟩
  have hbW : Below B w W := by rw [hW]; exact (Below.refl B w).alloc hB _
  have hsW : Sep B W (lptE tb L.length T ++ (Ent.blk1 g 40 (rteC a n h) :: F)) := by
    rw [hW, hg]
    exact Sep.perm (Sep.blkNew hs hB _ _) (List.perm_middle.symm)
  obtain ⟨F1, hF1⟩ : ∃ F1, F1 = Ent.blk1 g 40 (rteC a n h) :: F := ⟨_, rfl⟩
  rw [← hF1] at hsW
  have HF1 := Lib.hid hF1
  have hbox : ∀ (w' : World) (m : Nat) (T' : LT), Sep B w' (lptE tb m T' ++ F1) → w'.cell? ⟨g, 0, none⟩ = some (.int .i64 (a : Int)) ∧ w'.cell? ⟨g, 1, none⟩ = some (.int .i64 (n : Int)) ∧ w'.cell? ⟨g, 2, none⟩ = some (.int .i64 h) := fun w' m T' h' => by
    rw [HF1.out] at h'
    have := h'.member (g := g) (cs := rteC a n h) (e := 40) (List.mem_append.2 (.inr (List.mem_cons_self ..)))
    exact ⟨(this.1 0 _ rfl).1, (this.1 1 _ rfl).1, (this.1 2 _ rfl).1⟩
  have HBOX := Lib.hid hbox
  have HT := Lib.hid hT
  have HTL := Lib.hid hTL
  have HSW := Lib.hid hsW
  have HBW := Lib.hid hbW
  have HW := Lib.hid hW
  have HG := Lib.hid hg
  have hBW : B ≤ W.heap.size := Nat.le_trans hB hbW.size
  obtain ⟨hp0, hp1, hp2⟩ := hbox W _ _ hsW
  clear hk hch hT hTL hs hlook hF1 hbox hsW hbW hW hg
  go_enter Tryz.func30, Tryz.ntmps30
  go_upto_region 1 with fail
  rw [← HW.out, ← HG.out]
  go_wp2_with fail
  refine (HCH.out _).mono ?_
  rintro e w1 ⟨rfl, hb⟩
  have HB1 := Lib.hid (HBW.out.trans (hb.mono hBW))
  have HS1 := Lib.hid (HSW.out.kept hb)
  have hB1 : B ≤ w1.heap.size := Nat.le_trans hBW hb.size
  clear hb hp0 hp1 hp2 HSW HBW
  obtain ⟨hp0, hp1, hp2⟩ := HBOX.out w1 _ _ HS1.out
  go_wp2_with fail
  refine (within_yes _ _ _ _ hh0 hh9).mono ?_
  rintro e w' ⟨rfl, rfl⟩
  obtain ⟨hv, hhv⟩ : ∃ hv, hv = hasL L a n := ⟨_, rfl⟩
  have HHV := Lib.hid hhv
  rw [← hhv] at hhas
  clear hhv
  go_upto_region 6 with fail
  go_cut [34] (fun v wx => v = .bool (!hv) ∧ Sep B wx (lptE tb L.length T ++ F1) ∧ Below B w wx)
  case first =>
    have HAT := Lib.hid (fun (w' : World) (h' : Sep B w' (lptE tb L.length T ++ F1)) => lpmAt_any B tb L.length T F1 a n w' (by omega) hn h')
    cases hsub : T.sub (lpPath a n) with
    | nil =>
      have hno : hv = false := by
        cases hb : hv with
        | false => rfl
        | true => have := hhas.1 hb; unfold LT.at at this; rw [hsub] at this; exact absurd this (by simp [LT.hop])
      have hpv : (T.sub (lpPath a n)).ptr = .pointer none := by rw [hsub]; rfl
      rw [hpv] at HAT
      have HNO := Lib.hid hno
      clear hsub hhas hno hpv
      go_wp2_with fail
      refine (HAT.out _ HS1.out).mono ?_
      rintro e w2 ⟨rfl, hb⟩
      have HB2 := Lib.hid (HB1.out.trans (hb.mono hB1))
      have HS2 := Lib.hid (HS1.out.kept hb)
      clear hb hp0 hp1 hp2
      go_wp2_with fail
      go_meet
      exact ⟨by rw [HNO.out]; rfl, HS2.out, HB2.out⟩
    | node b hb l r =>
      have hat : T.at (lpPath a n) = hb := by unfold LT.at; rw [hsub]; rfl
      rw [hat] at hhas
      have hpv : (T.sub (lpPath a n)).ptr = .pointer (some ⟨b, 0, none⟩) := by rw [hsub]; rfl
      rw [hpv] at HAT
      have HSUB := Lib.hid hsub
      have hlow := HT.out.low (lpPath a n)
      have hhigh := HT.out.high (lpPath a n)
      rw [hat] at hlow hhigh
      clear hsub hpv hat
      go_wp2_with fail
      refine (HAT.out _ HS1.out).mono ?_
      rintro e w2 ⟨rfl, hb2⟩
      have HB2 := Lib.hid (HB1.out.trans (hb2.mono hB1))
      have HS2 := Lib.hid (HS1.out.kept hb2)
      have hB2 : B ≤ w2.heap.size := Nat.le_trans hB1 hb2.size
      clear hb2 hp0 hp1 hp2
      obtain ⟨hp0, hp1, hp2⟩ := HBOX.out w2 _ _ HS2.out
      go_wp2_with fail
      refine (HAT.out _ HS2.out).mono ?_
      rintro e w3 ⟨rfl, hb3⟩
      have HB3 := Lib.hid (HB2.out.trans (hb3.mono hB2))
      have HS3 := Lib.hid (HS2.out.kept hb3)
      clear hb3 hp0 hp1 hp2
      obtain ⟨⟨-, -, c2⟩, -, -⟩ := nod_cells HS3.out HSUB.out
      by_cases h0 : hb < 0
      · have hno : hv = false := by
          cases hbv : hv with
          | false => rfl
          | true => have := hhas.1 hbv; omega
        have HNO := Lib.hid hno
        have d0 : decide (hb < 0) = true := decide_eq_true h0
        clear hno hhas
        go_wp2_with fail
        go_meet
        exact ⟨by rw [HNO.out]; rfl, HS3.out, HB3.out⟩
      · have hyes : hv = true := hhas.2 (by omega)
        have HYES := Lib.hid hyes
        have d0 : decide (hb < 0) = false := decide_eq_false h0
        clear hyes hhas
        go_wp2_with fail
        go_meet
        exact ⟨by rw [HYES.out]; rfl, HS3.out, HB3.out⟩
  case rest =>
  obtain ⟨rfl, hsc, hbc⟩ := hcut
  have HSC := Lib.hid hsc
  have HBC := Lib.hid hbc
  have hBc : B ≤ wc.heap.size := Nat.le_trans hB hbc.size
  obtain ⟨w4, hw4⟩ : ∃ w4, w4 = wc := ⟨_, rfl⟩
  obtain rfl := hw4
  clear hsc hbc hp0 hp1 hp2 HS1 HB1 hhas
  obtain rfl : hv = false := by rw [HHV.out, HNO.out]
  obtain ⟨t0, t1, tf, htb⟩ := lpt_cells HSC.out
  go_wp2
  go_ret
  refine ⟨rfl, ⟨T, HT.out, HTL.out, ?_⟩, HBC.out⟩
  have := HSC.out
  rw [HF1.out] at this
  exact this.sub (List.Sublist.append (List.Sublist.refl _) (List.sublist_cons_self _ _))

set_option maxHeartbeats 4000000 in
theorem lpmSet_ok (B tb : Nat) (L : List Rte) (F : List Ent) (a n : Nat) (h : Int) (w : World) (hB : B ≤ w.heap.size) (hs : TabS B w tb L F) (hk : lpOk a n) (hh0 : 0 ≤ h) (hh9 : h ≤ 9) (hroom : ¬ (hasL L a n = false ∧ L.length = 32)) :
    Calls Tryz.prog 30 #[.pointer (some ⟨tb, 0, none⟩), .agg #[.int .i64 a, .int .i64 n, .int .i64 h]] w fun e w' => e = .returned (errV 0) ∧ TabS B w' tb (setL L a n h.toNat) F ∧ Below B w w' := by
  have HROOM := Lib.hid hroom
  clear hroom
  rw [errV_zero]
  have hch := fun w1 => check_any a n w1
  rw [chkP_of hk, errV_zero] at hch
  have HCH := Lib.hid hch
  have HKK := Lib.hid hk
  have ha := hk.1
  have hn := hk.2.1
  obtain ⟨T, hT, hTL, hs⟩ := hs
  have hlook := at_look hT.deep hk (hT.low _)
  rw [hTL] at hlook
  have hhas := hasL_look (L := L) (a := a) (n := n)
  rw [← hlook] at hhas
  have hfew := hT.few
  rw [hTL] at hfew
  obtain ⟨W, hW⟩ : ∃ W, W = w.alloc (.cells #[.int .i64 (a : Int), .int .i64 (n : Int), .int .i64 h] 40) := ⟨_, rfl⟩
  obtain ⟨g, hg⟩ : ∃ g, g = w.heap.size := ⟨_, rfl⟩
  have hbW : Below B w W := by rw [hW]; exact (Below.refl B w).alloc hB _
  have hsW : Sep B W (lptE tb L.length T ++ (Ent.blk1 g 40 (rteC a n h) :: F)) := by
    rw [hW, hg]
    exact Sep.perm (Sep.blkNew hs hB _ _) (List.perm_middle.symm)
  obtain ⟨F1, hF1⟩ : ∃ F1, F1 = Ent.blk1 g 40 (rteC a n h) :: F := ⟨_, rfl⟩
  rw [← hF1] at hsW
  have HF1 := Lib.hid hF1
  have hbox : ∀ (w' : World) (m : Nat) (T' : LT), Sep B w' (lptE tb m T' ++ F1) → w'.cell? ⟨g, 0, none⟩ = some (.int .i64 (a : Int)) ∧ w'.cell? ⟨g, 1, none⟩ = some (.int .i64 (n : Int)) ∧ w'.cell? ⟨g, 2, none⟩ = some (.int .i64 h) := fun w' m T' h' => by
    rw [HF1.out] at h'
    have := h'.member (g := g) (cs := rteC a n h) (e := 40) (List.mem_append.2 (.inr (List.mem_cons_self ..)))
    exact ⟨(this.1 0 _ rfl).1, (this.1 1 _ rfl).1, (this.1 2 _ rfl).1⟩
  have HBOX := Lib.hid hbox
  have HT := Lib.hid hT
  have HTL := Lib.hid hTL
  have HSW := Lib.hid hsW
  have HBW := Lib.hid hbW
  have HW := Lib.hid hW
  have HG := Lib.hid hg
  have hBW : B ≤ W.heap.size := Nat.le_trans hB hbW.size
  obtain ⟨hp0, hp1, hp2⟩ := hbox W _ _ hsW
  clear hk hch hT hTL hs hlook hF1 hbox hsW hbW hW hg
  go_enter Tryz.func30, Tryz.ntmps30
  go_upto_region 1 with fail
  rw [← HW.out, ← HG.out]
  go_wp2_with fail
  refine (HCH.out _).mono ?_
  rintro e w1 ⟨rfl, hb⟩
  have HB1 := Lib.hid (HBW.out.trans (hb.mono hBW))
  have HS1 := Lib.hid (HSW.out.kept hb)
  have hB1 : B ≤ w1.heap.size := Nat.le_trans hBW hb.size
  clear hb hp0 hp1 hp2 HSW HBW
  obtain ⟨hp0, hp1, hp2⟩ := HBOX.out w1 _ _ HS1.out
  go_wp2_with fail
  refine (within_yes _ _ _ _ hh0 hh9).mono ?_
  rintro e w' ⟨rfl, rfl⟩
  obtain ⟨hv, hhv⟩ : ∃ hv, hv = hasL L a n := ⟨_, rfl⟩
  have HHV := Lib.hid hhv
  rw [← hhv] at hhas
  clear hhv
  go_upto_region 6 with fail
  go_cut [34] (fun v wx => v = .bool (!hv) ∧ Sep B wx (lptE tb L.length T ++ F1) ∧ Below B w wx)
  case first =>
    have HAT := Lib.hid (fun (w' : World) (h' : Sep B w' (lptE tb L.length T ++ F1)) => lpmAt_any B tb L.length T F1 a n w' (by omega) hn h')
    cases hsub : T.sub (lpPath a n) with
    | nil =>
      have hno : hv = false := by
        cases hb : hv with
        | false => rfl
        | true => have := hhas.1 hb; unfold LT.at at this; rw [hsub] at this; exact absurd this (by simp [LT.hop])
      have hpv : (T.sub (lpPath a n)).ptr = .pointer none := by rw [hsub]; rfl
      rw [hpv] at HAT
      have HNO := Lib.hid hno
      clear hsub hhas hno hpv
      go_wp2_with fail
      refine (HAT.out _ HS1.out).mono ?_
      rintro e w2 ⟨rfl, hb⟩
      have HB2 := Lib.hid (HB1.out.trans (hb.mono hB1))
      have HS2 := Lib.hid (HS1.out.kept hb)
      clear hb hp0 hp1 hp2
      go_wp2_with fail
      go_meet
      exact ⟨by rw [HNO.out]; rfl, HS2.out, HB2.out⟩
    | node b hb l r =>
      have hat : T.at (lpPath a n) = hb := by unfold LT.at; rw [hsub]; rfl
      rw [hat] at hhas
      have hpv : (T.sub (lpPath a n)).ptr = .pointer (some ⟨b, 0, none⟩) := by rw [hsub]; rfl
      rw [hpv] at HAT
      have HSUB := Lib.hid hsub
      have hlow := HT.out.low (lpPath a n)
      have hhigh := HT.out.high (lpPath a n)
      rw [hat] at hlow hhigh
      clear hsub hpv hat
      go_wp2_with fail
      refine (HAT.out _ HS1.out).mono ?_
      rintro e w2 ⟨rfl, hb2⟩
      have HB2 := Lib.hid (HB1.out.trans (hb2.mono hB1))
      have HS2 := Lib.hid (HS1.out.kept hb2)
      have hB2 : B ≤ w2.heap.size := Nat.le_trans hB1 hb2.size
      clear hb2 hp0 hp1 hp2
      obtain ⟨hp0, hp1, hp2⟩ := HBOX.out w2 _ _ HS2.out
      go_wp2_with fail
      refine (HAT.out _ HS2.out).mono ?_
      rintro e w3 ⟨rfl, hb3⟩
      have HB3 := Lib.hid (HB2.out.trans (hb3.mono hB2))
      have HS3 := Lib.hid (HS2.out.kept hb3)
      clear hb3 hp0 hp1 hp2
      obtain ⟨⟨-, -, c2⟩, -, -⟩ := nod_cells HS3.out HSUB.out
      by_cases h0 : hb < 0
      · have hno : hv = false := by
          cases hbv : hv with
          | false => rfl
          | true => have := hhas.1 hbv; omega
        have HNO := Lib.hid hno
        have d0 : decide (hb < 0) = true := decide_eq_true h0
        clear hno hhas
        go_wp2_with fail
        go_meet
        exact ⟨by rw [HNO.out]; rfl, HS3.out, HB3.out⟩
      · have hyes : hv = true := hhas.2 (by omega)
        have HYES := Lib.hid hyes
        have d0 : decide (hb < 0) = false := decide_eq_false h0
        clear hyes hhas
        go_wp2_with fail
        go_meet
        exact ⟨by rw [HYES.out]; rfl, HS3.out, HB3.out⟩
  case rest =>
  obtain ⟨rfl, hsc, hbc⟩ := hcut
  have HSC := Lib.hid hsc
  have HBC := Lib.hid hbc
  have hBc : B ≤ wc.heap.size := Nat.le_trans hB hbc.size
  obtain ⟨w4, hw4⟩ : ∃ w4, w4 = wc := ⟨_, rfl⟩
  obtain rfl := hw4
  clear hsc hbc hp0 hp1 hp2 HS1 HB1 hhas
  obtain ⟨m, hm⟩ : ∃ m, m = (setL L a n h.toNat).length := ⟨_, rfl⟩
  have hml : m = if hv then L.length else L.length + 1 := by
    rw [hm, setL_len (by rw [← HTL.out]; exact rts_sorted HT.out.deep), ← HHV.out]
  have HM := Lib.hid hm
  have HML := Lib.hid hml
  clear hm hml
  go_upto_if 34 with fail
  go_cut [] (fun wx => Sep B wx (lptE tb m T ++ F1) ∧ Below B w wx)
  case first =>
    cases hv with
    | true =>
      have hmm : m = L.length := by rw [HML.out]; rfl
      have HMM := Lib.hid hmm
      clear hmm
      go_wp2_with fail
      go_meet
      exact ⟨by rw [HMM.out]; exact HSC.out, HBC.out⟩
    | false =>
      have hmm : m = L.length + 1 := by rw [HML.out]; rfl
      have h32 : ¬ L.length = 32 := fun e => HROOM.out ⟨HHV.out.symm, e⟩
      have e32 : ((L.length : Int) == 32) = false := by simp; omega
      obtain ⟨t0, t1, tf, htb⟩ := lpt_cells HSC.out
      have hset := Sep.blkSet (A := []) HSC.out 1 (.int .i64 (m : Int))
      have HSET := Lib.hid (show Sep B (w4.setCell ⟨tb, 1, none⟩ (.int .i64 (m : Int))) (lptE tb m T ++ F1) from hset)
      have HBS := Lib.hid (HBC.out.setCell (p := ⟨tb, 1, none⟩) htb (.int .i64 (m : Int)))
      have hmI : (L.length : Int) + 1 = (m : Int) := by omega
      clear hset hmm h32
      go_wp2_with fail
      go_meet
      exact ⟨HSET.out, HBS.out⟩
  case rest =>
  obtain ⟨hsd, hbd⟩ := hcut
  have HSD := Lib.hid hsd
  have HBD := Lib.hid hbd
  obtain ⟨w5, hw5⟩ : ∃ w5, w5 = wc := ⟨_, rfl⟩
  obtain rfl := hw5
  obtain ⟨t0, -, -, -⟩ := lpt_cells hsd
  obtain ⟨hp0, hp1, hp2⟩ := HBOX.out w5 _ _ hsd
  clear hsd hbd HSC HBC
  go_wp2
  clear t0 hp0 hp1 hp2
  go_loopg [6, 7, 8, 55] n (fun gk p s7 s8 i wr => ∃ (k : Nat) (T1 : LT) (b : Nat) (hb : Int) (l r : LT), gk + k = n ∧ i = .int .i64 k ∧ p = .pointer (some ⟨b, 0, none⟩) ∧ Hid (T1.sub (lpPath a k) = .node b hb l r) ∧ T1.deep 17 ∧ Hid (∀ ρ, T1.at ρ = T.at ρ) ∧ Hid (T1 ≠ .nil) ∧ Sep B wr (lptE tb m T1 ++ F1) ∧ Below B w wr)
  case atStart =>
    have hr := HT.out.root
    obtain ⟨b, hb, l, r, hTc⟩ := LT.is_node hr
    exact ⟨0, T, b, hb, l, r, by omega, rfl, by rw [hTc]; rfl, hTc, HT.out.deep, fun _ => rfl, hr, HSD.out, HBD.out⟩
  case round =>
    obtain ⟨gi, hgi0⟩ : ∃ gi, gi = gk := ⟨_, rfl⟩
    obtain ⟨k, T1, b, hb, l, r, hgk, rfl, rfl, hsub, hdeep, hat, hne, hs, hbl⟩ := hrel
    have HGK := Lib.hid hgk
    have HS6 := Lib.hid hs
    have HB6 := Lib.hid hbl
    have HDP := Lib.hid hdeep
    have hBr : B ≤ wr.heap.size := Nat.le_trans hB hbl.size
    obtain ⟨hp0, hp1, hp2⟩ := HBOX.out wr _ _ hs
    obtain ⟨⟨c0, c1, c2⟩, cf, hBb⟩ := nod_cells hs hsub.out
    have hbw : b < wr.heap.size := World.block_lt_of_cell? wr _ c0
    clear hgk hgi0 hs hbl HSD HBD hdeep
    by_cases hlt : k < n
    · have HBIT := Lib.hid (fun w' => lpbit_any a k w' (by omega) (by omega))
      rw [lpb_nat] at HBIT
      obtain ⟨yb, hyb⟩ : ∃ y, y = lpb a k := ⟨_, rfl⟩
      rw [← hyb] at HBIT
      have ck := kid_cell (h := hb) c0 c1 yb
      have cfk : wr.frozen? ⟨b, yb.toNat, none⟩ = false := cf _ (by cases yb <;> decide)
      have hnx : ∀ T2 : LT, T2.sub (lpPath a (k + 1)) = (T2.sub (lpPath a k)).kid yb := fun T2 => by rw [hyb]; exact path_next T2 a k
      have HNX := Lib.hid hnx
      obtain ⟨y, hy⟩ : ∃ y, y = yb.toNat := ⟨_, rfl⟩
      rw [← hy] at HBIT ck cfk
      have hy0 : (0 : Int) ≤ (y : Int) := by omega
      have hy1 : (y : Int) < 2 := by rw [hy]; cases yb <;> decide
      have hy2 : y < 2 := by omega
      have hlt1 : (k : Int) < (n : Int) := by omega
      have HY := Lib.hid hy
      clear hnx hyb hy c0 c1 c2 cf
      cases hkid : (LT.node b hb l r).kid yb with
      | nil =>
        rw [hkid] at ck
        have ck' : wr.cell? ⟨b, y, none⟩ = some (.pointer none) := ck
        have hgr := sep_grow HS6.out hBr hsub.out hkid
        rw [← HY.out] at hgr
        have hbg : Below B w ((wr.alloc (.cells #[.pointer none, .pointer none, .int .i64 (-1)] 81)).setCell ⟨b, y, none⟩ (.pointer (some ⟨wr.heap.size, 0, none⟩))) := (HB6.out.alloc hBr _).setCell (p := ⟨b, y, none⟩) hBb _
        have hne1 : T1.sub (lpPath a k) ≠ .nil := by rw [hsub.out]; simp
        obtain ⟨T2, hT2⟩ : ∃ T2, T2 = T1.repl (lpPath a k) (grown b hb l r yb wr.heap.size) := ⟨_, rfl⟩
        rw [← hT2] at hgr
        have hsub2 : T2.sub (lpPath a (k + 1)) = .node wr.heap.size (-1) .nil .nil := by
          rw [HNX.out, hT2, LT.sub_repl _ _ _ hne1, grown_kid]
        have hdp2 : T2.deep 17 := by
          rw [hT2]
          refine LT.deep_repl T1 _ _ 17 HDP.out hne1 ?_
          have := LT.deep_sub T1 (lpPath a k) 17 HDP.out
          rw [hsub.out, lpPath_len] at this
          rw [lpPath_len]
          rw [show 17 - k = 15 - k + 2 by omega] at this ⊢
          exact grown_deep this
        have hat2 : ∀ ρ, T2.at ρ = T.at ρ := fun ρ => by
          rw [hT2, at_grow hne1 (fun τ => by rw [hsub.out]; exact grown_at hkid τ) ρ]; exact hat.out ρ
        have hroot2 : T2 ≠ .nil := by rw [hT2]; exact repl_root hne1 (by cases yb <;> simp [grown])
        rw [World.setCell_alloc_past _ _ _ _ hbw] at hgr hbg
        have HGR := Lib.hid hgr
        have HBG := Lib.hid hbg
        have HSUB2 := Lib.hid hsub2
        have HDP2 := Lib.hid hdp2
        have HAT2 := Lib.hid hat2
        have HROOT2 := Lib.hid hroot2
        have hck2 : ((wr.alloc (.cells #[.pointer none, .pointer none, .int .i64 (-1)] 81)).setCell ⟨b, y, none⟩ (.pointer (some ⟨wr.heap.size, 0, none⟩))).cell? ⟨b, y, none⟩ = some (.pointer (some ⟨wr.heap.size, 0, none⟩)) := by
          have h1 : (wr.alloc (.cells #[.pointer none, .pointer none, .int .i64 (-1)] 81)).cell? ⟨b, y, none⟩ = some (.pointer none) := (below_alloc wr _).cell (p := ⟨b, y, none⟩) hbw |>.trans ck'
          exact World.cell?_setCell_same' _ _ _ (by rw [h1]; rfl)
        clear hgr hbg hne1 hsub2 hdp2 hat2 hroot2 hT2 hkid ck
        go_wp2_with (go_at_call 56; refine (HBIT.out _).mono ?_; rintro e w' ⟨rfl, rfl⟩)
        go_roundg (n - (k + 1))
        case measure => have := HGK.out; omega
        case rel => exact ⟨k + 1, _, _, _, _, _, by omega, by go_num, rfl, HSUB2, HDP2.out, HAT2, HROOT2, HGR.out, HBG.out⟩
      | node b2 hb2 l2 r2 =>
        rw [hkid] at ck
        have ck' : wr.cell? ⟨b, y, none⟩ = some (.pointer (some ⟨b2, 0, none⟩)) := ck
        have HSUB2 : Hid (T1.sub (lpPath a (k + 1)) = .node b2 hb2 l2 r2) := Lib.hid (by rw [HNX.out, hsub.out, hkid])
        clear ck hkid
        go_wp2_with (go_at_call 56; refine (HBIT.out _).mono ?_; rintro e w' ⟨rfl, rfl⟩)
        go_roundg (n - (k + 1))
        case measure => have := HGK.out; omega
        case rel => exact ⟨k + 1, _, _, _, _, _, by omega, by go_num, rfl, HSUB2, HDP.out, hat, hne, HS6.out, HB6.out⟩
    · have hlt1 : decide ((k : Int) < (n : Int)) = false := decide_eq_false (by omega)
      have hlt1N : decide (k < n) = false := decide_eq_false hlt
      have hkn : k = n := by have := HGK.out; omega
      have hsubn : T1.sub (lpPath a n) = .node b hb l r := by rw [← hkn]; exact hsub.out
      have hhop := sep_hop (h' := h) HS6.out hsubn
      have hbh : Below B w (wr.setCell ⟨b, 2, none⟩ (.int .i64 h)) := HB6.out.setCell (p := ⟨b, 2, none⟩) hBb _
      have hset := at_set (h' := h) hsubn
      have hne1 : T1.sub (lpPath a n) ≠ .nil := by rw [hsubn]; simp
      obtain ⟨T2, hT2⟩ : ∃ T2, T2 = T1.repl (lpPath a n) (.node b h l r) := ⟨_, rfl⟩
      rw [← hT2] at hhop hset
      have hdp2 : T2.deep 17 := by
        rw [hT2]
        refine LT.deep_repl T1 _ _ 17 HDP.out hne1 ?_
        have := LT.deep_sub T1 (lpPath a n) 17 HDP.out
        rw [hsubn, lpPath_len] at this
        rw [lpPath_len]
        rw [show 17 - n = 16 - n + 1 by omega] at this ⊢
        exact this
      obtain ⟨hok2, hrts2⟩ := tabOk_set HT.out (by rw [hT2]; exact repl_root hne1 (by simp)) hdp2 HKK.out (fun ρ hr => by rw [hset.1 ρ hr]; exact hat.out ρ) hset.2 hh0 hh9 (by rw [HTL.out]; exact HROOM.out)
      rw [HTL.out] at hrts2
      have hfin : TabS B (wr.setCell ⟨b, 2, none⟩ (.int .i64 h)) tb (setL L a n h.toNat) F := by
        refine ⟨T2, hok2, hrts2, ?_⟩
        rw [← HM.out]
        rw [HF1.out] at hhop
        exact hhop.sub (List.Sublist.append (List.Sublist.refl _) (List.sublist_cons_self _ _))
      have HFIN := Lib.hid hfin
      have HBH := Lib.hid hbh
      have cf2 := cf 2 (by decide)
      clear hkn hsubn hhop hbh hset hne1 hT2 hdp2 hok2 hrts2 hfin hlt cf
      go_wp2
      go_ret
      exact ⟨rfl, HFIN.out, HBH.out⟩
theorem lpmSet_any (B tb : Nat) (L : List Rte) (F : List Ent) (a n h : Int) (w : World) (hB : B ≤ w.heap.size) (hs : TabS B w tb L F) :
    Calls Tryz.prog 30 #[.pointer (some ⟨tb, 0, none⟩), .agg #[.int .i64 a, .int .i64 n, .int .i64 h]] w fun e w' => e = .returned (errV (setRR L a n h).2) ∧ TabS B w' tb (setRR L a n h).1 F ∧ Below B w w' := by
  unfold setRR
  by_cases hc : chkP a n = 0
  · rw [if_neg (fun h => h hc)]
    obtain ⟨x, k, rfl, rfl, hk⟩ := chkP_ok hc
    rw [Int.toNat_natCast, Int.toNat_natCast]
    by_cases hh : 0 ≤ h ∧ h ≤ 9
    · rw [if_neg (fun h => h hh)]
      by_cases hf : hasL L x k = false ∧ L.length = 32
      · rw [if_pos hf]; exact lpmSet_full B tb L F x k h w hB hs hk hh.1 hh.2 hf.1 hf.2
      · rw [if_neg hf]; exact lpmSet_ok B tb L F x k h w hB hs hk hh.1 hh.2 hf
    · rw [if_pos hh]; exact lpmSet_hop B tb L F x k h w hB hs hk hh
  · rw [if_pos hc]; exact lpmSet_bad B tb L F a n h w hB hs hc
end Go.Proofs.YtbcfcjecobihnaaGreatDoor

end

section
/- 'append' as one step of a region that draws. -/
namespace Go.Proofs.YtbcfcjecobihnaaGreatDoor
open Go.RowKit
set_option linter.unusedVariables false

/-- 'append' as one step of a region that draws, where its run is known. -/
theorem step_append_run {P : Program} {ops : Array Oper} {o : Oper} {a : Act} {w : World} {K : Act → World → Prop} {Q : Exit → Act → World → Prop} {E : Prop} (hgd : o.guard = none) (s x : Operand) (t : TypeId)
    (ho : o.op = .call { callee := .builtin .append, args := #[s, x], argTypes := #[t, t] }) (v u : Value) (hs : a.eval s = v) (hx : a.eval x = u) {v' : Value} {w' : World}
    (hr : (Builtin.append_ #[t, t] o.type #[v, u]).run P w = .ok v' w') (h : K (a.put o.dst v') w') : if Region.wanted o (yielded ops a.tmps) = true then Oper.wp P o a w K Q else E := by
  have hw : Region.wanted o (yielded ops a.tmps) = true := by simp [Region.wanted, hgd]
  rw [if_pos hw]
  unfold Oper.wp execOp
  simp only [ho, resolve, invoke, builtin, Sem.run_bind, Sem.run_pure, Result.andThen_ok, List.map_toArray, List.map_cons, List.map_nil, hs, hx, hr]
  exact h
end Go.Proofs.YtbcfcjecobihnaaGreatDoor

end

section
/- cmp.Compare, cmp.Or of two numbers. -/
namespace Go.Proofs.YtbcfcjecobihnaaGreatDoor
open Go.RowKit
set_option linter.unusedVariables false
set_option maxRecDepth 100000

def cmpI (a b : Int) : Int := if a < b then -1 else if b < a then 1 else 0
theorem compare_any (a b : Int) (w : World) : Calls Tryz.prog 45 #[.int .i64 a, .int .i64 b] w fun e w' => e = .returned (.int .i64 (cmpI a b)) ∧ w = w' := by
  have ha : (a != a) = false := by simp
  have hb : (b != b) = false := by simp
  unfold cmpI
  by_cases h1 : a < b
  · rw [if_pos h1]
    go_enter Tryz.func45, Tryz.ntmps45
    go_wp2
    go_ret
    exact ⟨rfl, rfl⟩
  · rw [if_neg h1]
    have d1 : decide (a < b) = false := decide_eq_false h1
    by_cases h2 : b < a
    · rw [if_pos h2]
      clear h1
      go_enter Tryz.func45, Tryz.ntmps45
      go_wp2
      go_ret
      exact ⟨rfl, rfl⟩
    · rw [if_neg h2]
      have d2 : decide (b < a) = false := decide_eq_false h2
      clear h1 h2
      go_enter Tryz.func45, Tryz.ntmps45
      go_wp2
      go_ret
      exact ⟨rfl, rfl⟩

def or2 (x y : Int) : Int := if x ≠ 0 then x else y
theorem or2_any (ao : Option Addr) (B : Nat) (x y : Int) (w : World) (hA : IntSl B w ao [x, y]) :
    Calls Tryz.prog 44 #[.slice ao 2 2] w fun e w' => e = .returned (.int .i64 (or2 x y)) ∧ w = w' := by
  obtain ⟨b, off, rfl, _, c0⟩ := hA 0 x rfl
  obtain ⟨b1, off1, he, _, c1⟩ := hA 1 y rfl
  simp only [Option.some.injEq, Addr.mk.injEq, and_true] at he
  obtain ⟨rfl, rfl⟩ := he
  rw [Nat.add_zero] at c0
  clear hA
  obtain ⟨r, hr⟩ : ∃ r, r = or2 x y := ⟨_, rfl⟩
  rw [← hr]
  have HR := Lib.hid hr; clear hr
  go_enter Tryz.func44, Tryz.ntmps44
  go_wp2
  go_loop [8] (fun i => ∃ k : Nat, k ≤ 2 ∧ i = .int .i64 k ∧ Hid ((1 ≤ k → x = 0) ∧ (2 ≤ k → y = 0))) (fun i => 2 - (intOf i).toNat)
  case atStart => exact ⟨0, by omega, rfl, ⟨fun h => by omega, fun h => by omega⟩⟩
  case round =>
    obtain ⟨k, hk, rfl, hz⟩ := hrel
    have h4 : k = 0 ∨ k = 1 ∨ k = 2 := by omega
    rcases h4 with rfl | rfl | rfl
    · by_cases h : x = 0
      · have hb : (x != 0) = false := by simp [h]
        have H := Lib.hid h; clear h
        go_wp2
        go_round
        case rel => exact ⟨1, by omega, by go_num, ⟨fun _ => H.out, fun h => by omega⟩⟩
        case measure => simp [intOf]
      · have hb : (x != 0) = true := by simp [h]
        have e : r = x := by rw [HR.out]; unfold or2; rw [if_pos h]
        clear h
        subst e
        go_wp2
        go_ret
        exact ⟨rfl, rfl⟩
    · by_cases h : y = 0
      · have hb : (y != 0) = false := by simp [h]
        have H := Lib.hid h; clear h
        go_wp2
        go_round
        case rel => exact ⟨2, by omega, by go_num, ⟨fun _ => hz.out.1 (by omega), fun _ => H.out⟩⟩
        case measure => simp [intOf]
      · have hb : (y != 0) = true := by simp [h]
        have e : r = y := by rw [HR.out]; unfold or2; rw [if_neg (fun h => h (hz.out.1 (by omega)))]
        clear h
        subst e
        go_wp2
        go_ret
        exact ⟨rfl, rfl⟩
    · have e : r = 0 := by rw [HR.out]; unfold or2; rw [if_neg (fun h => h (hz.out.1 (by omega))), hz.out.2 (by omega)]
      subst e
      go_wp2
      go_ret
      exact ⟨rfl, rfl⟩
end Go.Proofs.YtbcfcjecobihnaaGreatDoor

end

section
/- Contracts of the shelf, laid by the kit's own tool (lay-shelf, lay-plain), its numbers turned to names. -/
namespace Go.Proofs.YtbcfcjecobihnaaGreatDoor
open Go.Shelf Go.Proofs Go.Sort Go.RowKit Go.Lib
def shelf_laysSortR_ren : Go.Shelf.Ren := ⟨fun | 6 => 42 | 15 => 67 | 14 => 66 | 28 => 102 | 29 => 103 | 20 => 94 | 21 => 95 | 22 => 96 | 23 => 97 | 24 => 98 | 25 => 99 | 26 => 100 | 27 => 101 | 46 => 122 | 47 => 123 | 48 => 124 | 49 => 125 | 50 => 126 | 57 => 143 | n => n, fun | 22 => 43 | 24 => 40 | 25 => 87 | 3 => 3 | 39 => 111 | 0 => 0 | 53 => 149 | 55 => 151 | 4 => 4 | 46 => 143 | 45 => 142 | 50 => 103 | 5 => 5 | 9 => 9 | 66 => 177 | 70 => 181 | 76 => 197 | 77 => 198 | n => n, fun | n => n⟩
theorem shelf_laysSortR : Go.Proofs.SlLaysF0.n6 Tryz.prog shelf_laysSortR_ren := {
  mixed := by kernel_rfl
  f6 := ⟨Tryz.f42.name, by decide, Tryz.func42.trans (congrArg some (by kernel_rfl))⟩
  f14 := ⟨Tryz.f66.name, by decide, Tryz.func66.trans (congrArg some (by kernel_rfl))⟩
  f15 := Tryz.func67.trans (congrArg some (by kernel_rfl))
  f20 := ⟨Tryz.f94.name, by decide, Tryz.func94.trans (congrArg some (by kernel_rfl))⟩
  f21 := ⟨Tryz.f95.name, by decide, Tryz.func95.trans (congrArg some (by kernel_rfl))⟩
  f22 := ⟨Tryz.f96.name, by decide, Tryz.func96.trans (congrArg some (by kernel_rfl))⟩
  f23 := ⟨Tryz.f97.name, by decide, Tryz.func97.trans (congrArg some (by kernel_rfl))⟩
  f24 := ⟨Tryz.f98.name, by decide, Tryz.func98.trans (congrArg some (by kernel_rfl))⟩
  f25 := ⟨Tryz.f99.name, by decide, Tryz.func99.trans (congrArg some (by kernel_rfl))⟩
  f26 := ⟨Tryz.f100.name, by decide, Tryz.func100.trans (congrArg some (by kernel_rfl))⟩
  f27 := ⟨Tryz.f101.name, by decide, Tryz.func101.trans (congrArg some (by kernel_rfl))⟩
  f28 := Tryz.func102.trans (congrArg some (by kernel_rfl))
  f29 := Tryz.func103.trans (congrArg some (by kernel_rfl))
  f46 := ⟨Tryz.f122.name, by decide, Tryz.func122.trans (congrArg some (by kernel_rfl))⟩
  f47 := Tryz.func123.trans (congrArg some (by kernel_rfl))
  f48 := Tryz.func124.trans (congrArg some (by kernel_rfl))
  f49 := ⟨Tryz.f125.name, by decide, Tryz.func125.trans (congrArg some (by kernel_rfl))⟩
  f50 := ⟨Tryz.f126.name, by decide, Tryz.func126.trans (congrArg some (by kernel_rfl))⟩
  f57 := ⟨Tryz.f143.name, by decide, Tryz.func143.trans (congrArg some (by kernel_rfl))⟩
  t0 := Tryz.underlying0
  a0 := Tryz.isAgg0
  z0 := Tryz.sizeOf0
  v0 := Tryz.zeroValue0
  t3 := Tryz.underlying3
  a3 := Tryz.isAgg3
  z3 := Tryz.sizeOf3
  v3 := Tryz.zeroValue3
  t4 := Tryz.underlying4
  a4 := Tryz.isAgg4
  z4 := Tryz.sizeOf4
  v4 := Tryz.zeroValue4
  t5 := Tryz.underlying5
  a5 := Tryz.isAgg5
  z5 := Tryz.sizeOf5
  v5 := Tryz.zeroValue5
  t9 := Tryz.underlying9
  a9 := Tryz.isAgg9
  z9 := Tryz.sizeOf9
  v9 := Tryz.zeroValue9
  t22 := Tryz.underlying43
  a22 := Tryz.isAgg43
  z22 := Tryz.sizeOf43
  v22 := Tryz.zeroValue43
  t25 := Tryz.underlying87
  a25 := Tryz.isAgg87
  z25 := Tryz.sizeOf87
  v25 := Tryz.zeroValue87
  t39 := Tryz.underlying111
  a39 := Tryz.isAgg111
  z39 := Tryz.sizeOf111
  v39 := Tryz.zeroValue111
  t45 := Tryz.underlying142
  a45 := Tryz.isAgg142
  z45 := Tryz.sizeOf142
  v45 := Tryz.zeroValue142
  t46 := Tryz.underlying143
  a46 := Tryz.isAgg143
  z46 := Tryz.sizeOf143
  v46 := Tryz.zeroValue143
  t50 := Tryz.underlying103
  a50 := Tryz.isAgg103
  z50 := Tryz.sizeOf103
  v50 := Tryz.zeroValue103
  t53 := Tryz.underlying149
  a53 := Tryz.isAgg149
  z53 := Tryz.sizeOf149
  v53 := Tryz.zeroValue149
  t55 := Tryz.underlying151
  a55 := Tryz.isAgg151
  z55 := Tryz.sizeOf151
  v55 := Tryz.zeroValue151
  t66 := Tryz.underlying177
  a66 := Tryz.isAgg177
  z66 := Tryz.sizeOf177
  v66 := Tryz.zeroValue177
  t70 := Tryz.underlying181
  a70 := Tryz.isAgg181
  z70 := Tryz.sizeOf181
  v70 := Tryz.zeroValue181
  t76 := Tryz.underlying197
  a76 := Tryz.isAgg197
  z76 := Tryz.sizeOf197
  v76 := Tryz.zeroValue197
  t77 := Tryz.underlying198
  a77 := Tryz.isAgg198
  z77 := Tryz.sizeOf198
  v77 := Tryz.zeroValue198 }
end Go.Proofs.YtbcfcjecobihnaaGreatDoor

end

section
/- Which of two routes is first: the closure of (*lpm.Table).Routes; a list that is sorted stays as it is. -/
namespace Go.Proofs.YtbcfcjecobihnaaGreatDoor
open Go.RowKit Go.Lib Go.Sort
set_option linter.unusedVariables false
set_option maxRecDepth 100000

def rteL (x : Rte) : List Value := [.int .i64 x.1, .int .i64 x.2.1, .int .i64 x.2.2]
def cfR (x y : Rte) : Int := or2 (cmpI x.1 y.1) (cmpI x.2.1 y.2.1)
theorem ltR_cf (x y : Rte) : ltOf cfR x y = decide (ltR x y) := by
  unfold ltOf
  rw [decide_eq_decide]
  unfold cfR or2 cmpI ltR
  constructor
  · intro h
    split at h <;> split at h <;> (try split at h) <;> (try split at h) <;> omega
  · intro h
    split <;> split <;> (try split) <;> (try split) <;> omega
theorem swoR : SWO (ltOf cfR) where
  irrefl x := by rw [ltR_cf]; exact decide_eq_false (by unfold ltR; omega)
  trans x y z h1 h2 := by
    rw [ltR_cf] at h1 h2 ⊢
    have k1 := of_decide_eq_true h1
    have k2 := of_decide_eq_true h2
    refine decide_eq_true ?_
    unfold ltR at *
    omega
  ntrans x y z h1 h2 := by
    rw [ltR_cf] at h1 h2 ⊢
    have k1 := of_decide_eq_false h1
    have k2 := of_decide_eq_false h2
    refine decide_eq_false ?_
    unfold ltR at *
    omega
theorem sorted_same {L : List Rte} (hs : SrtR L) (d' : Array Rte) (hp : PermIn 0 L.toArray.size L.toArray d') (ho : SortedIn (ltOf cfR) 0 L.toArray.size d') : d' = L.toArray := by
  obtain ⟨h1, -, h3⟩ := hp
  have h4 : d'.toList.Perm L := by
    have e1 : d'.extract 0 L.toArray.size = d' := by rw [← h1]; simp
    have e2 : L.toArray.extract 0 L.toArray.size = L.toArray := by simp
    rw [e1, e2] at h3
    exact h3
  have h5 : d'.toList.Pairwise fun x y : Rte => ¬ (x.1 = y.1 ∧ x.2.1 = y.2.1) := by
    refine (h4.pairwise_iff (fun {x y} h e => h ⟨e.1.symm, e.2.symm⟩)).2 (hs.imp ?_)
    intro x y h e
    unfold ltR at h
    omega
  have h6 : SrtR d'.toList := by
    refine List.pairwise_iff_getElem.2 fun i j hi hj hij => ?_
    have h7 := List.pairwise_iff_getElem.1 h5 i j hi hj hij
    have hj' : j < d'.size := by simpa using hj
    have hi' : i < d'.size := by simpa using hi
    have h8 := ho i j (Nat.zero_le _) hij (by rw [← h1]; exact hj')
    rw [ltR_cf] at h8
    have e1 : d'[i]! = d'.toList[i] := by simp [hi']
    have e2 : d'[j]! = d'.toList[j] := by simp [hj']
    rw [e1, e2] at h8
    have h9 := of_decide_eq_false h8
    unfold ltR at h9 ⊢
    omega
  have h10 := srtR_uniq h6 hs (fun x => h4.mem_iff)
  rw [← h10]
set_option maxHeartbeats 2000000 in
theorem rtcmp_any (x y : Rte) (w : World) :
    Calls Tryz.prog 43 #[.agg (rteL x).toArray, .agg (rteL y).toArray] w fun e w' => e = .returned (.int .i64 (cfR x y)) ∧ ∃ q os', w' = grow (w.drewN q) os' := by
  obtain ⟨a0, a1, a2⟩ := x
  obtain ⟨b0, b1, b2⟩ := y
  unfold rteL cfR
  simp only
  obtain ⟨g, hg⟩ : ∃ g, g = w.heap.size := ⟨_, rfl⟩
  have s1 := Sep.blkNew (Sep.nil w.heap.size w) (Nat.le_refl _) #[.int .i64 a0, .int .i64 a1, .int .i64 a2] 40
  have z1 : (w.alloc (.cells #[.int .i64 a0, .int .i64 a1, .int .i64 a2] 40)).heap.size = w.heap.size + 1 := by simp
  have s2 := Sep.blkNew s1 (by omega) #[.int .i64 b0, .int .i64 b1, .int .i64 b2] 40
  rw [z1, ← hg] at s2
  have hgr : ∃ os, (w.alloc (.cells #[.int .i64 a0, .int .i64 a1, .int .i64 a2] 40)).alloc (.cells #[.int .i64 b0, .int .i64 b1, .int .i64 b2] 40) = grow w os := ⟨_, by rw [alloc_eq_grow, alloc_eq_grow, grow_grow]⟩
  have HS2 := Lib.hid s2
  have HG := Lib.hid hg
  have HGR := Lib.hid hgr
  clear s1 z1 s2 hgr
  change Calls _ _ #[.agg #[.int .i64 a0, .int .i64 a1, .int .i64 a2], .agg #[.int .i64 b0, .int .i64 b1, .int .i64 b2]] _ _
  go_enter Tryz.func43, Tryz.ntmps43
  go_upto_region 1 with fail
  rw [← hg]
  clear hg
  generalize (w.alloc (.cells #[.int .i64 (a0 : Int), .int .i64 (a1 : Int), .int .i64 (a2 : Int)] 40)).alloc (.cells #[.int .i64 (b0 : Int), .int .i64 (b1 : Int), .int .i64 (b2 : Int)] 40) = w2 at *
  obtain ⟨p0, _⟩ := Sep.blkAt (A := [_]) HS2.out (j := 0) rfl
  obtain ⟨p2, _⟩ := Sep.blkAt (A := [_]) HS2.out (j := 1) rfl
  obtain ⟨q0, _⟩ := Sep.blkAt (A := []) HS2.out (j := 0) rfl
  obtain ⟨q2, _⟩ := Sep.blkAt (A := []) HS2.out (j := 1) rfl
  have his : IntSl (w2.heap.size + 1) (w2.alloc (.cells #[.int .i64 (cmpI a0 b0), .int .i64 (cmpI a1 b1)] 3)).drew (some ⟨w2.heap.size, 0, none⟩) [cmpI a0 b0, cmpI a1 b1] :=
    (intSl_new w2 #[.int .i64 (cmpI a0 b0), .int .i64 (cmpI a1 b1)] 3 [cmpI a0 b0, cmpI a1 b1] rfl).below (below_drew _ _)
  have HIS := Lib.hid his; clear his
  go_region_held3 (fun w' => w'.cell? ⟨g, 0, none⟩ = some (.int .i64 a0) ∧ w'.cell? ⟨g, 1, none⟩ = some (.int .i64 a1) ∧ w'.cell? ⟨g + 1, 0, none⟩ = some (.int .i64 b0) ∧ w'.cell? ⟨g + 1, 1, none⟩ = some (.int .i64 b1))
    (first | exact ⟨p0, p2, q0, q2⟩ | go_keep) (first
    | (go_at_call 45; refine (compare_any _ _ _).mono ?_; rintro e w' ⟨rfl, rfl⟩)
    | (go_at_call 44; refine (or2_any _ (w2.heap.size + 1) (cmpI a0 b0) (cmpI a1 b1) _ ?_).mono ?_; exact HIS.out; rintro e w' ⟨rfl, rfl⟩))
  all_goals
    go_wp2
    go_ret
    refine ⟨rfl, ?_⟩
    obtain ⟨os, ho⟩ := HGR.out
    rw [ho, alloc_eq_grow, grow_grow]
    exact ⟨1, _, rfl⟩
end Go.Proofs.YtbcfcjecobihnaaGreatDoor

end
