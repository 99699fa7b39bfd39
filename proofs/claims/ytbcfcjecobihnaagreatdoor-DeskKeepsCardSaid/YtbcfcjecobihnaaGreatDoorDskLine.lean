/- The desk: a line. -/
import Derived.Test.YtbcfcjecobihnaaGreatDoorDskOps
import Derived.Test.YtbcfcjecobihnaaGreatDoorDskMap
import Derived.Test.YtbcfcjecobihnaaGreatDoorBkTurn
namespace Go.Proofs.YtbcfcjecobihnaaGreatDoor
open Go.RowKit Go.Maps
set_option linter.unusedVariables false
set_option linter.unusedSimpArgs false
set_option maxRecDepth 100000

theorem run_store_fn {P : Program} {w : World} {a : Addr} {m : Mode} (f : Fn) (b c : Array Value) : (store a (.func f b c) m).run P w = stored P w a (.func f b c) m := run_store P w a _ m rfl
theorem run_store_nilFn {P : Program} {w : World} {a : Addr} {m : Mode} : (store a .nilFunc m).run P w = stored P w a .nilFunc m := run_store P w a _ m rfl
attribute [local go_sem] run_store_fn run_store_nilFn
def LineEnd (B gd : Nat) (F : List Ent) (w : World) (r : Bk × List UInt8) (e : Ending) (w' : World) : Prop :=
  e = .returned (.string (bytesOf r.2)) ∧ (∃ bb tb, BkM B w' bb tb r.1 (dskE gd bb :: F)) ∧ BkOk r.1 ∧ Below B w w'
theorem numW_small {x : List UInt8} (h : numW x = true) : ∃ n : Nat, numV x = (n : Int) ∧ n ≤ 100000000 := by
  unfold numW at h
  rw [Bool.and_eq_true, decide_eq_true_eq] at h
  obtain ⟨n, h1, h2⟩ := numOk_is h.1
  refine ⟨n, h1, ?_⟩
  have h3 := dig_lt n
  rw [h2] at h3
  have h4 : 10 ^ x.length ≤ 10 ^ 7 := Nat.pow_le_pow_right (by decide) h.2
  omega
theorem verb_none {b : Bk} {v : List UInt8} {l : List (List UInt8)} (h1 : v ≠ setT) (h2 : v ≠ dropT) (h3 : v ≠ findT) (h4 : v ≠ manyT) (h5 : v ≠ crashT) : verbD b v l = (b, badT) := by
  unfold verbD
  by_cases ha : l.all numW = false
  · rw [if_pos ha]
  · rw [if_neg ha, if_neg (fun k => h1 k.1), if_neg (fun k => h2 k.1), if_neg (fun k => h3 k.1), if_neg (fun k => h4 k.1), if_neg (fun k => h5 k.1)]
def VerbN (v : List UInt8) (n : Nat) : Prop := (v = setT ∧ n = 3) ∨ (v = dropT ∧ n = 2) ∨ (v = findT ∧ n = 1) ∨ (v = manyT ∧ n = 0) ∨ (v = crashT ∧ n = 1)
theorem verb_bad {b : Bk} {v : List UInt8} {l : List (List UInt8)} {n : Nat} (hv : VerbN v n) (h : l.all numW = false ∨ ¬ l.length = n) : verbD b v l = (b, badT) := by
  unfold verbD
  by_cases ha : l.all numW = false
  · rw [if_pos ha]
  · rw [if_neg ha]
    have hl : ¬ l.length = n := h.resolve_left ha
    rcases hv with ⟨rfl, rfl⟩ | ⟨rfl, rfl⟩ | ⟨rfl, rfl⟩ | ⟨rfl, rfl⟩ | ⟨rfl, rfl⟩
    · rw [if_neg (fun k => hl k.2), if_neg (fun k => absurd k.1 (by decide)), if_neg (fun k => absurd k.1 (by decide)), if_neg (fun k => absurd k.1 (by decide)), if_neg (fun k => absurd k.1 (by decide))]
    · rw [if_neg (fun k => absurd k.1 (by decide)), if_neg (fun k => hl k.2), if_neg (fun k => absurd k.1 (by decide)), if_neg (fun k => absurd k.1 (by decide)), if_neg (fun k => absurd k.1 (by decide))]
    · rw [if_neg (fun k => absurd k.1 (by decide)), if_neg (fun k => absurd k.1 (by decide)), if_neg (fun k => hl k.2), if_neg (fun k => absurd k.1 (by decide)), if_neg (fun k => absurd k.1 (by decide))]
    · rw [if_neg (fun k => absurd k.1 (by decide)), if_neg (fun k => absurd k.1 (by decide)), if_neg (fun k => absurd k.1 (by decide)), if_neg (fun k => hl k.2), if_neg (fun k => absurd k.1 (by decide))]
    · rw [if_neg (fun k => absurd k.1 (by decide)), if_neg (fun k => absurd k.1 (by decide)), if_neg (fun k => absurd k.1 (by decide)), if_neg (fun k => absurd k.1 (by decide)), if_neg (fun k => hl k.2)]
theorem ans_verb {b : Bk} {s w0 : List UInt8} {wt : List (List UInt8)} (hws : cutL 32 s = w0 :: wt) : ansD b s = verbD b w0 wt := by
  unfold ansD; rw [hws]; rfl
theorem BkS.join {B bb tb m : Nat} {w w' : World} {L : List Rte} {l : List UInt8} {E : Ent} {F : List Ent} (h : BkS B w bb tb L l m F) (hB : B ≤ w.heap.size) (hb : Below w.heap.size w w') (hs : Sep w.heap.size w' [E]) : BkS B w' bb tb L l m (E :: F) := by
  obtain ⟨T, ad, v, h1, h2, h3, h4⟩ := h
  have h5 := h4.push hB hb (hs.1 E (by simp)).1 (fun g hg => (hs.1 E (by simp)).2 g hg)
  exact ⟨T, ad, v, h1, h2, h3, h5.perm (List.perm_middle (a := E) (l₁ := _ :: _ :: lptE tb L.length T) (l₂ := F)).symm⟩
set_option maxHeartbeats 8000000 in
theorem line_set (B bb tb gd : Nat) (b : Bk) (F : List Ent) (s : List UInt8) (w0 : List UInt8) (wt : List (List UInt8)) (hws : cutL 32 s = w0 :: wt) (h0 : w0 = setT) (w : World) (hB : B ≤ w.heap.size) (h : BkM B w bb tb b (dskE gd bb :: F)) (hok : BkOk b) (hW : DskW B w) (hl : s.length ≤ 10000) :
    Calls Tryz.prog 49 #[.pointer (some ⟨gd, 0, none⟩), .string (bytesOf s)] w fun e w' => LineEnd B gd F w (ansD b s) e w' := by
  have HBAD := Lib.hid (show wt.all numW = false ∨ ¬ wt.length = 3 → ansD b s = (b, badT) from fun h => by rw [ans_verb hws]; exact verb_bad (.inl ⟨h0, rfl⟩) h)
  have HG0 := Lib.hid (show ∀ a n x, wt = [a, n, x] → wt.all numW = true → ansD b s = ((bkSet b (numV a) (numV n) (numV x)).1, errT (bkSet b (numV a) (numV n) (numV x)).2) from fun a n x hw ha => by
    rw [ans_verb hws, h0]
    unfold verbD
    rw [if_neg (by rw [ha]; decide), if_pos ⟨rfl, by rw [hw]; rfl⟩, hw]
    rfl)
  have H0 := Lib.hid h0
  clear h0
  have hcl := cutL_len 32 s
  have hcn := cutL_cnt 32 s
  have hsa := fun (w2 : World) (h2 : LibT w2) => split_any s w2 hl h2
  rw [hws] at hsa hcl hcn
  have hw0l : w0.length ≤ 10000 := Nat.le_trans (hcl w0 (List.mem_cons_self ..)) hl
  have hcl2 : ∀ x ∈ wt, x.length ≤ 10000 := fun x hx => Nat.le_trans (hcl x (List.mem_cons_of_mem _ hx)) hl
  obtain ⟨q, hq⟩ : ∃ q, q = wt.length := ⟨_, rfl⟩
  obtain ⟨n1, hn1⟩ : ∃ n1, n1 = (w0 :: wt).length := ⟨_, rfl⟩
  rw [← hn1] at hsa
  have hnq : n1 - 1 = q := by rw [hn1, hq]; simp
  have h1n : 1 ≤ n1 := by rw [hn1]; simp
  have hn10 : (0 : Int) < (n1 : Int) := by omega
  have hq1 : q ≤ 10000 := by simp only [List.length_cons] at hcn; omega
  have HSA := Lib.hid hsa
  have HCL := Lib.hid hcl2
  have HQ := Lib.hid hq
  have HNQ := Lib.hid hnq
  have HOK := Lib.hid hok
  have HW := Lib.hid hW
  obtain ⟨v2, v3, v4, v5, v6, u2, u3, u4, u5, u6, hmap, hbm, hgm⟩ := verbs_any w
  have hmk := run_makeMap (P := Tryz.prog) tVerbs w
  have HMAP := Lib.hid hmap
  have HB6 := Lib.hid (show Below B w v6 from hbm.mono hB)
  have HK6 := Lib.hid (show BkM B v6 bb tb b (dskE gd bb :: F) from BkS.kept h hbm)
  have hg6 : B ≤ v6.heap.size := Nat.le_trans hB HB6.out.size
  obtain ⟨gm, hgmE⟩ : ∃ gm, gm = w.heap.size := ⟨_, rfl⟩
  rw [← hgmE] at u2 u3 u4 u5 u6 hmk hgm HMAP
  have HGM := Lib.hid hgm
  clear hws hcl hcn hsa hcl2 hq hnq hok hW hmap hbm hgm h hgmE hl hn1
  go_enter Tryz.func49, Tryz.ntmps49
  go_wp2_with fail
  refine (HSA.out v6 (HW.out.below HB6.out).lib).mono ?_
  rintro e w7 ⟨rfl, hw7⟩
  clear u2 u3 u4 u5 u6 hmk
  obtain ⟨g, hg⟩ : ∃ g, g = v6.heap.size := ⟨_, rfl⟩
  have hk7 : BkM B w7 bb tb b (Ent.blk1 g 9 ((w0 :: wt).map fun x => Value.string (bytesOf x)) :: dskE gd bb :: F) := by
    rw [hw7, hg]
    exact BkS.box HK6.out hg6 ((w0 :: wt).map fun x => Value.string (bytesOf x)).toArray 9
  have HK7 := Lib.hid (show BkM B w7 bb tb b (dskE gd bb :: Ent.blk1 g 9 ((w0 :: wt).map fun x => Value.string (bytesOf x)) :: F) from BkS.perm hk7 (List.Perm.swap ..))
  have HB7 := Lib.hid (show Below B w w7 by rw [hw7]; exact HB6.out.alloc hg6 _)
  have HM7 := Lib.hid (show ∃ es, w7.heap[gm]? = some (.map es 5) ∧ MapIs es 5 verbsL by
    obtain ⟨es, h1, h2⟩ := HMAP.out
    exact ⟨es, by rw [hw7, heap_alloc_old _ _ HGM.out]; exact h1, h2⟩)
  have hg7 : B ≤ w7.heap.size := Nat.le_trans hB HB7.out.size
  rw [← hg]
  obtain ⟨ao1, hao1⟩ : ∃ ao1, ao1 = cutAddr (some ⟨g, 0, none⟩) n1 1 1 := ⟨_, rfl⟩
  have HAO := Lib.hid hao1
  clear hw7 hg hk7 HK6 HB6 HMAP hg6 hao1 HSA HGM
  have hc0 : w7.cell? ⟨g, 0, none⟩ = some (.string (bytesOf w0)) := ((BkS.mem HK7.out (g := g) (e := 9) (cs := (w0 :: wt).map fun x => Value.string (bytesOf x)) (by simp)).1 0 _ rfl).1
  have hlk : (Instr.lookup tVerbs (.map (some gm)) (.string (bytesOf w0)) true).run Tryz.prog w7 = .ok (.tuple #[.agg #[.int .i64 3, .func (Fn.func 74) #[] #[]], .bool true]) w7 := by
    obtain ⟨es, h1, h2⟩ := HM7.out
    exact verb_look h1 h2 (s := bytesOf w0) (Nat.le_trans hw0l (by decide)) (by rw [H0.out]; simp [verbsL, verbC, setT, bytesOf])
  have hk8 := BkS.box HK7.out hg7 #[.int .i64 3, .func (Fn.func 74) #[] #[]] tVerb
  obtain ⟨w8, hw8⟩ : ∃ w8, w8 = w7.alloc (.cells #[.int .i64 3, .func (Fn.func 74) #[] #[]] tVerb) := ⟨_, rfl⟩
  obtain ⟨gv, hgv⟩ : ∃ gv, gv = w7.heap.size := ⟨_, rfl⟩
  rw [← hw8, ← hgv] at hk8
  have HK8 := Lib.hid (show BkM B w8 bb tb b (dskE gd bb :: Ent.blk1 gv tVerb [.int .i64 3, .func (Fn.func 74) #[] #[]] :: Ent.blk1 g 9 ((w0 :: wt).map fun x => Value.string (bytesOf x)) :: F) from BkS.perm hk8 (List.Perm.swap ..))
  have HB8 := Lib.hid (show Below B w w8 by rw [hw8]; exact HB7.out.alloc hg7 _)
  have HW8 := Lib.hid hw8
  have HGV := Lib.hid hgv
  have hg8 : B ≤ w8.heap.size := Nat.le_trans hB HB8.out.size
  clear hk8 hw8 hgv HM7
  go_upto_region 4 with fail
  rw [← HW8.out, ← HGV.out]
  clear HW8 hlk hc0
  have hwords := words_any ao1 q wt w8 HCL.out (by rw [← HQ.out]; exact hq1) (HW.out.below HB8.out).lib (by
    intro j x hx
    have hj : j < wt.length := (List.getElem?_eq_some_iff.1 hx).1
    have hao : ao1 = some ⟨g, 1, none⟩ := by
      rw [HAO.out]
      unfold cutAddr
      rw [if_neg (by have := HNQ.out; have := HQ.out; omega)]
      rfl
    have hm := BkS.mem HK8.out (g := g) (e := 9) (cs := (w0 :: wt).map fun x => Value.string (bytesOf x)) (by simp)
    have hc := (hm.1 (1 + j) _ (by rw [Nat.add_comm, List.map_cons, List.getElem?_cons_succ, List.getElem?_map, hx]; rfl)).1
    exact ⟨g, 1, hao, World.block_lt_of_cell? w8 _ hc, hc⟩)
  rw [← HQ.out] at hwords
  have HWORDS := Lib.hid hwords
  clear hwords HK7 HB7 hg7
  go_wp2_with (refine wpList_slice_from rfl (.tmp 29) (.const (.int .i64 1)) rfl elemStr _ _ _ rfl 1 .i64 rfl h1n ?_; rw [HNQ.out, ← HAO.out])
  refine HWORDS.out.mono ?_
  rintro e w9 ⟨hor, hb9⟩
  have HB9 := Lib.hid (HB8.out.trans (hb9.mono hg8))
  have HK9 := Lib.hid (show BkM B w9 bb tb b _ from BkS.kept HK8.out hb9)
  have hg9 : B ≤ w9.heap.size := Nat.le_trans hB HB9.out.size
  have hv0 := ((BkS.mem HK9.out (g := gv) (e := tVerb) (cs := [.int .i64 3, .func (Fn.func 74) #[] #[]]) (by simp)).1 0 _ rfl).1
  have hv1 := ((BkS.mem HK9.out (g := gv) (e := tVerb) (cs := [.int .i64 3, .func (Fn.func 74) #[] #[]]) (by simp)).1 1 _ rfl).1
  have HB89 := Lib.hid hb9
  clear hb9 HWORDS
  rcases hor with ⟨hall, v, rfl, hsp⟩ | ⟨hall, rfl⟩
  rotate_left
  · have HR := Lib.hid (HBAD.out (.inl hall))
    clear hall
    go_wp2
    go_ret
    rw [HR.out]
    exact ⟨rfl, ⟨bb, tb, BkS.sub HK9.out (List.Sublist.cons_cons _ (List.Sublist.cons _ (List.Sublist.cons _ (List.Sublist.refl _))))⟩, HOK.out, HB9.out⟩
  obtain ⟨na, nc, rfl, -, -⟩ := Sep.intsShape (A := []) hsp
  have hlq : (wt.map numV).length = q := by rw [List.length_map, HQ.out]
  by_cases hqm : q = 3
  rotate_left
  · have hneq : ((q : Int) != 3) = true := bne_iff_ne.2 (by omega)
    have HR := Lib.hid (HBAD.out (.inr (by rw [← HQ.out]; exact hqm)))
    rw [hlq]
    clear hall hsp hlq hqm
    go_wp2
    go_ret
    rw [HR.out]
    exact ⟨rfl, ⟨bb, tb, BkS.sub HK9.out (List.Sublist.cons_cons _ (List.Sublist.cons _ (List.Sublist.cons _ (List.Sublist.refl _))))⟩, HOK.out, HB9.out⟩
  have hneq : ((q : Int) != 3) = false := by rw [hqm]; decide
  have hk10 := BkS.join HK8.out hg8 HB89.out hsp
  have hwl : wt.length = 3 := by rw [← HQ.out]; exact hqm
  rw [hlq]
  clear hsp hlq
  obtain ⟨a, n, x, rfl⟩ : ∃ a n x, wt = [a, n, x] := by
    match wt, hwl with
    | [a, n, x], _ => exact ⟨a, n, x, rfl⟩
  have HGOOD := Lib.hid (HG0.out a n x rfl hall)
  subst hqm
  have HK10 := Lib.hid (show BkM B w9 bb tb b (dskF na nc [numV a, numV n, numV x] gd bb _) from hk10)
  clear hall hk10 hwl HG0 HBAD
  go_wp2_with fail
  refine (dskSet_any B bb tb gd nc b na _ _ _ _ w9 hg9 HK10.out HOK.out (HW.out.below HB9.out)).mono ?_
  rintro e w10 ⟨rfl, hk, hb⟩
  have HK11 := Lib.hid hk
  have HB11 := Lib.hid (HB9.out.trans hb)
  clear hk hb
  go_wp2
  go_ret
  rw [HGOOD.out]
  exact ⟨rfl, ⟨bb, tb, BkS.sub HK11.out (List.Sublist.cons _ (List.Sublist.cons_cons _ (List.Sublist.cons _ (List.Sublist.cons _ (List.Sublist.refl _)))))⟩, HOK.out.set _ _ _, HB11.out⟩
set_option maxHeartbeats 8000000 in
theorem line_drop (B bb tb gd : Nat) (b : Bk) (F : List Ent) (s : List UInt8) (w0 : List UInt8) (wt : List (List UInt8)) (hws : cutL 32 s = w0 :: wt) (h0 : w0 = dropT) (w : World) (hB : B ≤ w.heap.size) (h : BkM B w bb tb b (dskE gd bb :: F)) (hok : BkOk b) (hW : DskW B w) (hl : s.length ≤ 10000) :
    Calls Tryz.prog 49 #[.pointer (some ⟨gd, 0, none⟩), .string (bytesOf s)] w fun e w' => LineEnd B gd F w (ansD b s) e w' := by
  have HBAD := Lib.hid (show wt.all numW = false ∨ ¬ wt.length = 2 → ansD b s = (b, badT) from fun h => by rw [ans_verb hws]; exact verb_bad (.inr (.inl ⟨h0, rfl⟩)) h)
  have HG0 := Lib.hid (show ∀ a n, wt = [a, n] → wt.all numW = true → ansD b s = ((bkDrop b (numV a) (numV n)).1, errT (bkDrop b (numV a) (numV n)).2) from fun a n hw ha => by
    rw [ans_verb hws, h0]
    unfold verbD
    rw [if_neg (by rw [ha]; decide), if_neg (fun k => absurd k.1 (by decide)), if_pos ⟨rfl, by rw [hw]; rfl⟩, hw]
    rfl)
  have H0 := Lib.hid h0
  clear h0
  have hcl := cutL_len 32 s
  have hcn := cutL_cnt 32 s
  have hsa := fun (w2 : World) (h2 : LibT w2) => split_any s w2 hl h2
  rw [hws] at hsa hcl hcn
  have hw0l : w0.length ≤ 10000 := Nat.le_trans (hcl w0 (List.mem_cons_self ..)) hl
  have hcl2 : ∀ x ∈ wt, x.length ≤ 10000 := fun x hx => Nat.le_trans (hcl x (List.mem_cons_of_mem _ hx)) hl
  obtain ⟨q, hq⟩ : ∃ q, q = wt.length := ⟨_, rfl⟩
  obtain ⟨n1, hn1⟩ : ∃ n1, n1 = (w0 :: wt).length := ⟨_, rfl⟩
  rw [← hn1] at hsa
  have hnq : n1 - 1 = q := by rw [hn1, hq]; simp
  have h1n : 1 ≤ n1 := by rw [hn1]; simp
  have hn10 : (0 : Int) < (n1 : Int) := by omega
  have hq1 : q ≤ 10000 := by simp only [List.length_cons] at hcn; omega
  have HSA := Lib.hid hsa
  have HCL := Lib.hid hcl2
  have HQ := Lib.hid hq
  have HNQ := Lib.hid hnq
  have HOK := Lib.hid hok
  have HW := Lib.hid hW
  obtain ⟨v2, v3, v4, v5, v6, u2, u3, u4, u5, u6, hmap, hbm, hgm⟩ := verbs_any w
  have hmk := run_makeMap (P := Tryz.prog) tVerbs w
  have HMAP := Lib.hid hmap
  have HB6 := Lib.hid (show Below B w v6 from hbm.mono hB)
  have HK6 := Lib.hid (show BkM B v6 bb tb b (dskE gd bb :: F) from BkS.kept h hbm)
  have hg6 : B ≤ v6.heap.size := Nat.le_trans hB HB6.out.size
  obtain ⟨gm, hgmE⟩ : ∃ gm, gm = w.heap.size := ⟨_, rfl⟩
  rw [← hgmE] at u2 u3 u4 u5 u6 hmk hgm HMAP
  have HGM := Lib.hid hgm
  clear hws hcl hcn hsa hcl2 hq hnq hok hW hmap hbm hgm h hgmE hl hn1
  go_enter Tryz.func49, Tryz.ntmps49
  go_wp2_with fail
  refine (HSA.out v6 (HW.out.below HB6.out).lib).mono ?_
  rintro e w7 ⟨rfl, hw7⟩
  clear u2 u3 u4 u5 u6 hmk
  obtain ⟨g, hg⟩ : ∃ g, g = v6.heap.size := ⟨_, rfl⟩
  have hk7 : BkM B w7 bb tb b (Ent.blk1 g 9 ((w0 :: wt).map fun x => Value.string (bytesOf x)) :: dskE gd bb :: F) := by
    rw [hw7, hg]
    exact BkS.box HK6.out hg6 ((w0 :: wt).map fun x => Value.string (bytesOf x)).toArray 9
  have HK7 := Lib.hid (show BkM B w7 bb tb b (dskE gd bb :: Ent.blk1 g 9 ((w0 :: wt).map fun x => Value.string (bytesOf x)) :: F) from BkS.perm hk7 (List.Perm.swap ..))
  have HB7 := Lib.hid (show Below B w w7 by rw [hw7]; exact HB6.out.alloc hg6 _)
  have HM7 := Lib.hid (show ∃ es, w7.heap[gm]? = some (.map es 5) ∧ MapIs es 5 verbsL by
    obtain ⟨es, h1, h2⟩ := HMAP.out
    exact ⟨es, by rw [hw7, heap_alloc_old _ _ HGM.out]; exact h1, h2⟩)
  have hg7 : B ≤ w7.heap.size := Nat.le_trans hB HB7.out.size
  rw [← hg]
  obtain ⟨ao1, hao1⟩ : ∃ ao1, ao1 = cutAddr (some ⟨g, 0, none⟩) n1 1 1 := ⟨_, rfl⟩
  have HAO := Lib.hid hao1
  clear hw7 hg hk7 HK6 HB6 HMAP hg6 hao1 HSA HGM
  have hc0 : w7.cell? ⟨g, 0, none⟩ = some (.string (bytesOf w0)) := ((BkS.mem HK7.out (g := g) (e := 9) (cs := (w0 :: wt).map fun x => Value.string (bytesOf x)) (by simp)).1 0 _ rfl).1
  have hlk : (Instr.lookup tVerbs (.map (some gm)) (.string (bytesOf w0)) true).run Tryz.prog w7 = .ok (.tuple #[.agg #[.int .i64 2, .func (Fn.func 75) #[] #[]], .bool true]) w7 := by
    obtain ⟨es, h1, h2⟩ := HM7.out
    exact verb_look h1 h2 (s := bytesOf w0) (Nat.le_trans hw0l (by decide)) (by rw [H0.out]; simp [verbsL, verbC, dropT, bytesOf])
  have hk8 := BkS.box HK7.out hg7 #[.int .i64 2, .func (Fn.func 75) #[] #[]] tVerb
  obtain ⟨w8, hw8⟩ : ∃ w8, w8 = w7.alloc (.cells #[.int .i64 2, .func (Fn.func 75) #[] #[]] tVerb) := ⟨_, rfl⟩
  obtain ⟨gv, hgv⟩ : ∃ gv, gv = w7.heap.size := ⟨_, rfl⟩
  rw [← hw8, ← hgv] at hk8
  have HK8 := Lib.hid (show BkM B w8 bb tb b (dskE gd bb :: Ent.blk1 gv tVerb [.int .i64 2, .func (Fn.func 75) #[] #[]] :: Ent.blk1 g 9 ((w0 :: wt).map fun x => Value.string (bytesOf x)) :: F) from BkS.perm hk8 (List.Perm.swap ..))
  have HB8 := Lib.hid (show Below B w w8 by rw [hw8]; exact HB7.out.alloc hg7 _)
  have HW8 := Lib.hid hw8
  have HGV := Lib.hid hgv
  have hg8 : B ≤ w8.heap.size := Nat.le_trans hB HB8.out.size
  clear hk8 hw8 hgv HM7
  go_upto_region 4 with fail
  rw [← HW8.out, ← HGV.out]
  clear HW8 hlk hc0
  have hwords := words_any ao1 q wt w8 HCL.out (by rw [← HQ.out]; exact hq1) (HW.out.below HB8.out).lib (by
    intro j x hx
    have hj : j < wt.length := (List.getElem?_eq_some_iff.1 hx).1
    have hao : ao1 = some ⟨g, 1, none⟩ := by
      rw [HAO.out]
      unfold cutAddr
      rw [if_neg (by have := HNQ.out; have := HQ.out; omega)]
      rfl
    have hm := BkS.mem HK8.out (g := g) (e := 9) (cs := (w0 :: wt).map fun x => Value.string (bytesOf x)) (by simp)
    have hc := (hm.1 (1 + j) _ (by rw [Nat.add_comm, List.map_cons, List.getElem?_cons_succ, List.getElem?_map, hx]; rfl)).1
    exact ⟨g, 1, hao, World.block_lt_of_cell? w8 _ hc, hc⟩)
  rw [← HQ.out] at hwords
  have HWORDS := Lib.hid hwords
  clear hwords HK7 HB7 hg7
  go_wp2_with (refine wpList_slice_from rfl (.tmp 29) (.const (.int .i64 1)) rfl elemStr _ _ _ rfl 1 .i64 rfl h1n ?_; rw [HNQ.out, ← HAO.out])
  refine HWORDS.out.mono ?_
  rintro e w9 ⟨hor, hb9⟩
  have HB9 := Lib.hid (HB8.out.trans (hb9.mono hg8))
  have HK9 := Lib.hid (show BkM B w9 bb tb b _ from BkS.kept HK8.out hb9)
  have hg9 : B ≤ w9.heap.size := Nat.le_trans hB HB9.out.size
  have hv0 := ((BkS.mem HK9.out (g := gv) (e := tVerb) (cs := [.int .i64 2, .func (Fn.func 75) #[] #[]]) (by simp)).1 0 _ rfl).1
  have hv1 := ((BkS.mem HK9.out (g := gv) (e := tVerb) (cs := [.int .i64 2, .func (Fn.func 75) #[] #[]]) (by simp)).1 1 _ rfl).1
  have HB89 := Lib.hid hb9
  clear hb9 HWORDS
  rcases hor with ⟨hall, v, rfl, hsp⟩ | ⟨hall, rfl⟩
  rotate_left
  · have HR := Lib.hid (HBAD.out (.inl hall))
    clear hall
    go_wp2
    go_ret
    rw [HR.out]
    exact ⟨rfl, ⟨bb, tb, BkS.sub HK9.out (List.Sublist.cons_cons _ (List.Sublist.cons _ (List.Sublist.cons _ (List.Sublist.refl _))))⟩, HOK.out, HB9.out⟩
  obtain ⟨na, nc, rfl, -, -⟩ := Sep.intsShape (A := []) hsp
  have hlq : (wt.map numV).length = q := by rw [List.length_map, HQ.out]
  by_cases hqm : q = 2
  rotate_left
  · have hneq : ((q : Int) != 2) = true := bne_iff_ne.2 (by omega)
    have HR := Lib.hid (HBAD.out (.inr (by rw [← HQ.out]; exact hqm)))
    rw [hlq]
    clear hall hsp hlq hqm
    go_wp2
    go_ret
    rw [HR.out]
    exact ⟨rfl, ⟨bb, tb, BkS.sub HK9.out (List.Sublist.cons_cons _ (List.Sublist.cons _ (List.Sublist.cons _ (List.Sublist.refl _))))⟩, HOK.out, HB9.out⟩
  have hneq : ((q : Int) != 2) = false := by rw [hqm]; decide
  have hk10 := BkS.join HK8.out hg8 HB89.out hsp
  have hwl : wt.length = 2 := by rw [← HQ.out]; exact hqm
  rw [hlq]
  clear hsp hlq
  obtain ⟨a, n, rfl⟩ : ∃ a n, wt = [a, n] := by
    match wt, hwl with
    | [a, n], _ => exact ⟨a, n, rfl⟩
  have HGOOD := Lib.hid (HG0.out a n rfl hall)
  subst hqm
  have HK10 := Lib.hid (show BkM B w9 bb tb b (dskF na nc [numV a, numV n] gd bb _) from hk10)
  clear hall hk10 hwl HG0 HBAD
  go_wp2_with fail
  refine (dskDrop_any B bb tb gd nc b na _ _ _ w9 hg9 HK10.out HOK.out (HW.out.below HB9.out)).mono ?_
  rintro e w10 ⟨rfl, hk, hb⟩
  have HK11 := Lib.hid hk
  have HB11 := Lib.hid (HB9.out.trans hb)
  clear hk hb
  go_wp2
  go_ret
  rw [HGOOD.out]
  exact ⟨rfl, ⟨bb, tb, BkS.sub HK11.out (List.Sublist.cons _ (List.Sublist.cons_cons _ (List.Sublist.cons _ (List.Sublist.cons _ (List.Sublist.refl _)))))⟩, HOK.out.drop _ _, HB11.out⟩
set_option maxHeartbeats 8000000 in
theorem line_find (B bb tb gd : Nat) (b : Bk) (F : List Ent) (s : List UInt8) (w0 : List UInt8) (wt : List (List UInt8)) (hws : cutL 32 s = w0 :: wt) (h0 : w0 = findT) (w : World) (hB : B ≤ w.heap.size) (h : BkM B w bb tb b (dskE gd bb :: F)) (hok : BkOk b) (hW : DskW B w) (hl : s.length ≤ 10000) :
    Calls Tryz.prog 49 #[.pointer (some ⟨gd, 0, none⟩), .string (bytesOf s)] w fun e w' => LineEnd B gd F w (ansD b s) e w' := by
  have HBAD := Lib.hid (show wt.all numW = false ∨ ¬ wt.length = 1 → ansD b s = (b, badT) from fun h => by rw [ans_verb hws]; exact verb_bad (.inr (.inr (.inl ⟨h0, rfl⟩))) h)
  have HG0 := Lib.hid (show ∀ a, wt = [a] → wt.all numW = true → ansD b s = (b, findA b (numV a)) from fun a hw ha => by
    rw [ans_verb hws, h0]
    unfold verbD
    rw [if_neg (by rw [ha]; decide), if_neg (fun k => absurd k.1 (by decide)), if_neg (fun k => absurd k.1 (by decide)), if_pos ⟨rfl, by rw [hw]; rfl⟩, hw]
    rfl)
  have H0 := Lib.hid h0
  clear h0
  have hcl := cutL_len 32 s
  have hcn := cutL_cnt 32 s
  have hsa := fun (w2 : World) (h2 : LibT w2) => split_any s w2 hl h2
  rw [hws] at hsa hcl hcn
  have hw0l : w0.length ≤ 10000 := Nat.le_trans (hcl w0 (List.mem_cons_self ..)) hl
  have hcl2 : ∀ x ∈ wt, x.length ≤ 10000 := fun x hx => Nat.le_trans (hcl x (List.mem_cons_of_mem _ hx)) hl
  obtain ⟨q, hq⟩ : ∃ q, q = wt.length := ⟨_, rfl⟩
  obtain ⟨n1, hn1⟩ : ∃ n1, n1 = (w0 :: wt).length := ⟨_, rfl⟩
  rw [← hn1] at hsa
  have hnq : n1 - 1 = q := by rw [hn1, hq]; simp
  have h1n : 1 ≤ n1 := by rw [hn1]; simp
  have hn10 : (0 : Int) < (n1 : Int) := by omega
  have hq1 : q ≤ 10000 := by simp only [List.length_cons] at hcn; omega
  have HSA := Lib.hid hsa
  have HCL := Lib.hid hcl2
  have HQ := Lib.hid hq
  have HNQ := Lib.hid hnq
  have HOK := Lib.hid hok
  have HW := Lib.hid hW
  obtain ⟨v2, v3, v4, v5, v6, u2, u3, u4, u5, u6, hmap, hbm, hgm⟩ := verbs_any w
  have hmk := run_makeMap (P := Tryz.prog) tVerbs w
  have HMAP := Lib.hid hmap
  have HB6 := Lib.hid (show Below B w v6 from hbm.mono hB)
  have HK6 := Lib.hid (show BkM B v6 bb tb b (dskE gd bb :: F) from BkS.kept h hbm)
  have hg6 : B ≤ v6.heap.size := Nat.le_trans hB HB6.out.size
  obtain ⟨gm, hgmE⟩ : ∃ gm, gm = w.heap.size := ⟨_, rfl⟩
  rw [← hgmE] at u2 u3 u4 u5 u6 hmk hgm HMAP
  have HGM := Lib.hid hgm
  clear hws hcl hcn hsa hcl2 hq hnq hok hW hmap hbm hgm h hgmE hl hn1
  go_enter Tryz.func49, Tryz.ntmps49
  go_wp2_with fail
  refine (HSA.out v6 (HW.out.below HB6.out).lib).mono ?_
  rintro e w7 ⟨rfl, hw7⟩
  clear u2 u3 u4 u5 u6 hmk
  obtain ⟨g, hg⟩ : ∃ g, g = v6.heap.size := ⟨_, rfl⟩
  have hk7 : BkM B w7 bb tb b (Ent.blk1 g 9 ((w0 :: wt).map fun x => Value.string (bytesOf x)) :: dskE gd bb :: F) := by
    rw [hw7, hg]
    exact BkS.box HK6.out hg6 ((w0 :: wt).map fun x => Value.string (bytesOf x)).toArray 9
  have HK7 := Lib.hid (show BkM B w7 bb tb b (dskE gd bb :: Ent.blk1 g 9 ((w0 :: wt).map fun x => Value.string (bytesOf x)) :: F) from BkS.perm hk7 (List.Perm.swap ..))
  have HB7 := Lib.hid (show Below B w w7 by rw [hw7]; exact HB6.out.alloc hg6 _)
  have HM7 := Lib.hid (show ∃ es, w7.heap[gm]? = some (.map es 5) ∧ MapIs es 5 verbsL by
    obtain ⟨es, h1, h2⟩ := HMAP.out
    exact ⟨es, by rw [hw7, heap_alloc_old _ _ HGM.out]; exact h1, h2⟩)
  have hg7 : B ≤ w7.heap.size := Nat.le_trans hB HB7.out.size
  rw [← hg]
  obtain ⟨ao1, hao1⟩ : ∃ ao1, ao1 = cutAddr (some ⟨g, 0, none⟩) n1 1 1 := ⟨_, rfl⟩
  have HAO := Lib.hid hao1
  clear hw7 hg hk7 HK6 HB6 HMAP hg6 hao1 HSA HGM
  have hc0 : w7.cell? ⟨g, 0, none⟩ = some (.string (bytesOf w0)) := ((BkS.mem HK7.out (g := g) (e := 9) (cs := (w0 :: wt).map fun x => Value.string (bytesOf x)) (by simp)).1 0 _ rfl).1
  have hlk : (Instr.lookup tVerbs (.map (some gm)) (.string (bytesOf w0)) true).run Tryz.prog w7 = .ok (.tuple #[.agg #[.int .i64 1, .func (Fn.func 76) #[] #[]], .bool true]) w7 := by
    obtain ⟨es, h1, h2⟩ := HM7.out
    exact verb_look h1 h2 (s := bytesOf w0) (Nat.le_trans hw0l (by decide)) (by rw [H0.out]; simp [verbsL, verbC, findT, bytesOf])
  have hk8 := BkS.box HK7.out hg7 #[.int .i64 1, .func (Fn.func 76) #[] #[]] tVerb
  obtain ⟨w8, hw8⟩ : ∃ w8, w8 = w7.alloc (.cells #[.int .i64 1, .func (Fn.func 76) #[] #[]] tVerb) := ⟨_, rfl⟩
  obtain ⟨gv, hgv⟩ : ∃ gv, gv = w7.heap.size := ⟨_, rfl⟩
  rw [← hw8, ← hgv] at hk8
  have HK8 := Lib.hid (show BkM B w8 bb tb b (dskE gd bb :: Ent.blk1 gv tVerb [.int .i64 1, .func (Fn.func 76) #[] #[]] :: Ent.blk1 g 9 ((w0 :: wt).map fun x => Value.string (bytesOf x)) :: F) from BkS.perm hk8 (List.Perm.swap ..))
  have HB8 := Lib.hid (show Below B w w8 by rw [hw8]; exact HB7.out.alloc hg7 _)
  have HW8 := Lib.hid hw8
  have HGV := Lib.hid hgv
  have hg8 : B ≤ w8.heap.size := Nat.le_trans hB HB8.out.size
  clear hk8 hw8 hgv HM7
  go_upto_region 4 with fail
  rw [← HW8.out, ← HGV.out]
  clear HW8 hlk hc0
  have hwords := words_any ao1 q wt w8 HCL.out (by rw [← HQ.out]; exact hq1) (HW.out.below HB8.out).lib (by
    intro j x hx
    have hj : j < wt.length := (List.getElem?_eq_some_iff.1 hx).1
    have hao : ao1 = some ⟨g, 1, none⟩ := by
      rw [HAO.out]
      unfold cutAddr
      rw [if_neg (by have := HNQ.out; have := HQ.out; omega)]
      rfl
    have hm := BkS.mem HK8.out (g := g) (e := 9) (cs := (w0 :: wt).map fun x => Value.string (bytesOf x)) (by simp)
    have hc := (hm.1 (1 + j) _ (by rw [Nat.add_comm, List.map_cons, List.getElem?_cons_succ, List.getElem?_map, hx]; rfl)).1
    exact ⟨g, 1, hao, World.block_lt_of_cell? w8 _ hc, hc⟩)
  rw [← HQ.out] at hwords
  have HWORDS := Lib.hid hwords
  clear hwords HK7 HB7 hg7
  go_wp2_with (refine wpList_slice_from rfl (.tmp 29) (.const (.int .i64 1)) rfl elemStr _ _ _ rfl 1 .i64 rfl h1n ?_; rw [HNQ.out, ← HAO.out])
  refine HWORDS.out.mono ?_
  rintro e w9 ⟨hor, hb9⟩
  have HB9 := Lib.hid (HB8.out.trans (hb9.mono hg8))
  have HK9 := Lib.hid (show BkM B w9 bb tb b _ from BkS.kept HK8.out hb9)
  have hg9 : B ≤ w9.heap.size := Nat.le_trans hB HB9.out.size
  have hv0 := ((BkS.mem HK9.out (g := gv) (e := tVerb) (cs := [.int .i64 1, .func (Fn.func 76) #[] #[]]) (by simp)).1 0 _ rfl).1
  have hv1 := ((BkS.mem HK9.out (g := gv) (e := tVerb) (cs := [.int .i64 1, .func (Fn.func 76) #[] #[]]) (by simp)).1 1 _ rfl).1
  have HB89 := Lib.hid hb9
  clear hb9 HWORDS
  rcases hor with ⟨hall, v, rfl, hsp⟩ | ⟨hall, rfl⟩
  rotate_left
  · have HR := Lib.hid (HBAD.out (.inl hall))
    clear hall
    go_wp2
    go_ret
    rw [HR.out]
    exact ⟨rfl, ⟨bb, tb, BkS.sub HK9.out (List.Sublist.cons_cons _ (List.Sublist.cons _ (List.Sublist.cons _ (List.Sublist.refl _))))⟩, HOK.out, HB9.out⟩
  obtain ⟨na, nc, rfl, -, -⟩ := Sep.intsShape (A := []) hsp
  have hlq : (wt.map numV).length = q := by rw [List.length_map, HQ.out]
  by_cases hqm : q = 1
  rotate_left
  · have hneq : ((q : Int) != 1) = true := bne_iff_ne.2 (by omega)
    have HR := Lib.hid (HBAD.out (.inr (by rw [← HQ.out]; exact hqm)))
    rw [hlq]
    clear hall hsp hlq hqm
    go_wp2
    go_ret
    rw [HR.out]
    exact ⟨rfl, ⟨bb, tb, BkS.sub HK9.out (List.Sublist.cons_cons _ (List.Sublist.cons _ (List.Sublist.cons _ (List.Sublist.refl _))))⟩, HOK.out, HB9.out⟩
  have hneq : ((q : Int) != 1) = false := by rw [hqm]; decide
  have hk10 := BkS.join HK8.out hg8 HB89.out hsp
  have hwl : wt.length = 1 := by rw [← HQ.out]; exact hqm
  rw [hlq]
  clear hsp hlq
  obtain ⟨a, rfl⟩ : ∃ a, wt = [a] := by
    match wt, hwl with
    | [a], _ => exact ⟨a, rfl⟩
  have HGOOD := Lib.hid (HG0.out a rfl hall)
  subst hqm
  have HK10 := Lib.hid (show BkM B w9 bb tb b (dskF na nc [numV a] gd bb _) from hk10)
  clear hall hk10 hwl HG0 HBAD
  go_wp2_with fail
  refine (dskFind_any B bb tb gd nc b na _ _ w9 hg9 HK10.out HOK.out (HW.out.below HB9.out)).mono ?_
  rintro e w10 ⟨rfl, hk, hb⟩
  have HK11 := Lib.hid hk
  have HB11 := Lib.hid (HB9.out.trans hb)
  clear hk hb
  go_wp2
  go_ret
  rw [HGOOD.out]
  exact ⟨rfl, ⟨bb, tb, BkS.sub HK11.out (List.Sublist.cons _ (List.Sublist.cons_cons _ (List.Sublist.cons _ (List.Sublist.cons _ (List.Sublist.refl _)))))⟩, HOK.out, HB11.out⟩
set_option maxHeartbeats 8000000 in
theorem line_many (B bb tb gd : Nat) (b : Bk) (F : List Ent) (s : List UInt8) (w0 : List UInt8) (wt : List (List UInt8)) (hws : cutL 32 s = w0 :: wt) (h0 : w0 = manyT) (w : World) (hB : B ≤ w.heap.size) (h : BkM B w bb tb b (dskE gd bb :: F)) (hok : BkOk b) (hW : DskW B w) (hl : s.length ≤ 10000) :
    Calls Tryz.prog 49 #[.pointer (some ⟨gd, 0, none⟩), .string (bytesOf s)] w fun e w' => LineEnd B gd F w (ansD b s) e w' := by
  have HBAD := Lib.hid (show wt.all numW = false ∨ ¬ wt.length = 0 → ansD b s = (b, badT) from fun h => by rw [ans_verb hws]; exact verb_bad (.inr (.inr (.inr (.inl ⟨h0, rfl⟩)))) h)
  have HG0 := Lib.hid (show wt = [] → wt.all numW = true → ansD b s = (b, Lib.decDigits b.1.length) from fun hw ha => by
    rw [ans_verb hws, h0]
    unfold verbD
    rw [if_neg (by rw [ha]; decide), if_neg (fun k => absurd k.1 (by decide)), if_neg (fun k => absurd k.1 (by decide)), if_neg (fun k => absurd k.1 (by decide)), if_pos ⟨rfl, by rw [hw]; rfl⟩])
  have H0 := Lib.hid h0
  clear h0
  have hcl := cutL_len 32 s
  have hcn := cutL_cnt 32 s
  have hsa := fun (w2 : World) (h2 : LibT w2) => split_any s w2 hl h2
  rw [hws] at hsa hcl hcn
  have hw0l : w0.length ≤ 10000 := Nat.le_trans (hcl w0 (List.mem_cons_self ..)) hl
  have hcl2 : ∀ x ∈ wt, x.length ≤ 10000 := fun x hx => Nat.le_trans (hcl x (List.mem_cons_of_mem _ hx)) hl
  obtain ⟨q, hq⟩ : ∃ q, q = wt.length := ⟨_, rfl⟩
  obtain ⟨n1, hn1⟩ : ∃ n1, n1 = (w0 :: wt).length := ⟨_, rfl⟩
  rw [← hn1] at hsa
  have hnq : n1 - 1 = q := by rw [hn1, hq]; simp
  have h1n : 1 ≤ n1 := by rw [hn1]; simp
  have hn10 : (0 : Int) < (n1 : Int) := by omega
  have hq1 : q ≤ 10000 := by simp only [List.length_cons] at hcn; omega
  have HSA := Lib.hid hsa
  have HCL := Lib.hid hcl2
  have HQ := Lib.hid hq
  have HNQ := Lib.hid hnq
  have HOK := Lib.hid hok
  have HW := Lib.hid hW
  obtain ⟨v2, v3, v4, v5, v6, u2, u3, u4, u5, u6, hmap, hbm, hgm⟩ := verbs_any w
  have hmk := run_makeMap (P := Tryz.prog) tVerbs w
  have HMAP := Lib.hid hmap
  have HB6 := Lib.hid (show Below B w v6 from hbm.mono hB)
  have HK6 := Lib.hid (show BkM B v6 bb tb b (dskE gd bb :: F) from BkS.kept h hbm)
  have hg6 : B ≤ v6.heap.size := Nat.le_trans hB HB6.out.size
  obtain ⟨gm, hgmE⟩ : ∃ gm, gm = w.heap.size := ⟨_, rfl⟩
  rw [← hgmE] at u2 u3 u4 u5 u6 hmk hgm HMAP
  have HGM := Lib.hid hgm
  clear hws hcl hcn hsa hcl2 hq hnq hok hW hmap hbm hgm h hgmE hl hn1
  go_enter Tryz.func49, Tryz.ntmps49
  go_wp2_with fail
  refine (HSA.out v6 (HW.out.below HB6.out).lib).mono ?_
  rintro e w7 ⟨rfl, hw7⟩
  clear u2 u3 u4 u5 u6 hmk
  obtain ⟨g, hg⟩ : ∃ g, g = v6.heap.size := ⟨_, rfl⟩
  have hk7 : BkM B w7 bb tb b (Ent.blk1 g 9 ((w0 :: wt).map fun x => Value.string (bytesOf x)) :: dskE gd bb :: F) := by
    rw [hw7, hg]
    exact BkS.box HK6.out hg6 ((w0 :: wt).map fun x => Value.string (bytesOf x)).toArray 9
  have HK7 := Lib.hid (show BkM B w7 bb tb b (dskE gd bb :: Ent.blk1 g 9 ((w0 :: wt).map fun x => Value.string (bytesOf x)) :: F) from BkS.perm hk7 (List.Perm.swap ..))
  have HB7 := Lib.hid (show Below B w w7 by rw [hw7]; exact HB6.out.alloc hg6 _)
  have HM7 := Lib.hid (show ∃ es, w7.heap[gm]? = some (.map es 5) ∧ MapIs es 5 verbsL by
    obtain ⟨es, h1, h2⟩ := HMAP.out
    exact ⟨es, by rw [hw7, heap_alloc_old _ _ HGM.out]; exact h1, h2⟩)
  have hg7 : B ≤ w7.heap.size := Nat.le_trans hB HB7.out.size
  rw [← hg]
  obtain ⟨ao1, hao1⟩ : ∃ ao1, ao1 = cutAddr (some ⟨g, 0, none⟩) n1 1 1 := ⟨_, rfl⟩
  have HAO := Lib.hid hao1
  clear hw7 hg hk7 HK6 HB6 HMAP hg6 hao1 HSA HGM
  have hc0 : w7.cell? ⟨g, 0, none⟩ = some (.string (bytesOf w0)) := ((BkS.mem HK7.out (g := g) (e := 9) (cs := (w0 :: wt).map fun x => Value.string (bytesOf x)) (by simp)).1 0 _ rfl).1
  have hlk : (Instr.lookup tVerbs (.map (some gm)) (.string (bytesOf w0)) true).run Tryz.prog w7 = .ok (.tuple #[.agg #[.int .i64 0, .func (Fn.func 77) #[] #[]], .bool true]) w7 := by
    obtain ⟨es, h1, h2⟩ := HM7.out
    exact verb_look h1 h2 (s := bytesOf w0) (Nat.le_trans hw0l (by decide)) (by rw [H0.out]; simp [verbsL, verbC, manyT, bytesOf])
  have hk8 := BkS.box HK7.out hg7 #[.int .i64 0, .func (Fn.func 77) #[] #[]] tVerb
  obtain ⟨w8, hw8⟩ : ∃ w8, w8 = w7.alloc (.cells #[.int .i64 0, .func (Fn.func 77) #[] #[]] tVerb) := ⟨_, rfl⟩
  obtain ⟨gv, hgv⟩ : ∃ gv, gv = w7.heap.size := ⟨_, rfl⟩
  rw [← hw8, ← hgv] at hk8
  have HK8 := Lib.hid (show BkM B w8 bb tb b (dskE gd bb :: Ent.blk1 gv tVerb [.int .i64 0, .func (Fn.func 77) #[] #[]] :: Ent.blk1 g 9 ((w0 :: wt).map fun x => Value.string (bytesOf x)) :: F) from BkS.perm hk8 (List.Perm.swap ..))
  have HB8 := Lib.hid (show Below B w w8 by rw [hw8]; exact HB7.out.alloc hg7 _)
  have HW8 := Lib.hid hw8
  have HGV := Lib.hid hgv
  have hg8 : B ≤ w8.heap.size := Nat.le_trans hB HB8.out.size
  clear hk8 hw8 hgv HM7
  go_upto_region 4 with fail
  rw [← HW8.out, ← HGV.out]
  clear HW8 hlk hc0
  have hwords := words_any ao1 q wt w8 HCL.out (by rw [← HQ.out]; exact hq1) (HW.out.below HB8.out).lib (by
    intro j x hx
    have hj : j < wt.length := (List.getElem?_eq_some_iff.1 hx).1
    have hao : ao1 = some ⟨g, 1, none⟩ := by
      rw [HAO.out]
      unfold cutAddr
      rw [if_neg (by have := HNQ.out; have := HQ.out; omega)]
      rfl
    have hm := BkS.mem HK8.out (g := g) (e := 9) (cs := (w0 :: wt).map fun x => Value.string (bytesOf x)) (by simp)
    have hc := (hm.1 (1 + j) _ (by rw [Nat.add_comm, List.map_cons, List.getElem?_cons_succ, List.getElem?_map, hx]; rfl)).1
    exact ⟨g, 1, hao, World.block_lt_of_cell? w8 _ hc, hc⟩)
  rw [← HQ.out] at hwords
  have HWORDS := Lib.hid hwords
  clear hwords HK7 HB7 hg7
  go_wp2_with (refine wpList_slice_from rfl (.tmp 29) (.const (.int .i64 1)) rfl elemStr _ _ _ rfl 1 .i64 rfl h1n ?_; rw [HNQ.out, ← HAO.out])
  refine HWORDS.out.mono ?_
  rintro e w9 ⟨hor, hb9⟩
  have HB9 := Lib.hid (HB8.out.trans (hb9.mono hg8))
  have HK9 := Lib.hid (show BkM B w9 bb tb b _ from BkS.kept HK8.out hb9)
  have hg9 : B ≤ w9.heap.size := Nat.le_trans hB HB9.out.size
  have hv0 := ((BkS.mem HK9.out (g := gv) (e := tVerb) (cs := [.int .i64 0, .func (Fn.func 77) #[] #[]]) (by simp)).1 0 _ rfl).1
  have hv1 := ((BkS.mem HK9.out (g := gv) (e := tVerb) (cs := [.int .i64 0, .func (Fn.func 77) #[] #[]]) (by simp)).1 1 _ rfl).1
  have HB89 := Lib.hid hb9
  clear hb9 HWORDS
  rcases hor with ⟨hall, v, rfl, hsp⟩ | ⟨hall, rfl⟩
  rotate_left
  · have HR := Lib.hid (HBAD.out (.inl hall))
    clear hall
    go_wp2
    go_ret
    rw [HR.out]
    exact ⟨rfl, ⟨bb, tb, BkS.sub HK9.out (List.Sublist.cons_cons _ (List.Sublist.cons _ (List.Sublist.cons _ (List.Sublist.refl _))))⟩, HOK.out, HB9.out⟩
  obtain ⟨na, nc, rfl, -, -⟩ := Sep.intsShape (A := []) hsp
  have hlq : (wt.map numV).length = q := by rw [List.length_map, HQ.out]
  by_cases hqm : q = 0
  rotate_left
  · have hneq : ((q : Int) != 0) = true := bne_iff_ne.2 (by omega)
    have HR := Lib.hid (HBAD.out (.inr (by rw [← HQ.out]; exact hqm)))
    rw [hlq]
    clear hall hsp hlq hqm
    go_wp2
    go_ret
    rw [HR.out]
    exact ⟨rfl, ⟨bb, tb, BkS.sub HK9.out (List.Sublist.cons_cons _ (List.Sublist.cons _ (List.Sublist.cons _ (List.Sublist.refl _))))⟩, HOK.out, HB9.out⟩
  have hneq : ((q : Int) != 0) = false := by rw [hqm]; decide
  have hk10 := BkS.join HK8.out hg8 HB89.out hsp
  have hwl : wt.length = 0 := by rw [← HQ.out]; exact hqm
  rw [hlq]
  clear hsp hlq
  obtain rfl : wt = [] := List.eq_nil_of_length_eq_zero hwl
  have HGOOD := Lib.hid (HG0.out rfl hall)
  subst hqm
  clear hall hk10 hwl HG0 HBAD
  go_wp2_with fail
  refine (dskMany_any B bb tb gd na.toList.length b _ _ w9 hg9 HK9.out HOK.out (HW.out.below HB9.out)).mono ?_
  rintro e w10 ⟨rfl, hk, hb⟩
  have HK11 := Lib.hid hk
  have HB11 := Lib.hid (HB9.out.trans hb)
  clear hk hb
  go_wp2
  go_ret
  rw [HGOOD.out]
  exact ⟨rfl, ⟨bb, tb, BkS.sub HK11.out (List.Sublist.cons_cons _ (List.Sublist.cons _ (List.Sublist.cons _ (List.Sublist.refl _))))⟩, HOK.out, HB11.out⟩
set_option maxHeartbeats 8000000 in
theorem line_crash (B bb tb gd : Nat) (b : Bk) (F : List Ent) (s : List UInt8) (w0 : List UInt8) (wt : List (List UInt8)) (hws : cutL 32 s = w0 :: wt) (h0 : w0 = crashT) (w : World) (hB : B ≤ w.heap.size) (h : BkM B w bb tb b (dskE gd bb :: F)) (hok : BkOk b) (hW : DskW B w) (hl : s.length ≤ 10000) :
    Calls Tryz.prog 49 #[.pointer (some ⟨gd, 0, none⟩), .string (bytesOf s)] w fun e w' => LineEnd B gd F w (ansD b s) e w' := by
  have HBAD := Lib.hid (show wt.all numW = false ∨ ¬ wt.length = 1 → ansD b s = (b, badT) from fun h => by rw [ans_verb hws]; exact verb_bad (.inr (.inr (.inr (.inr ⟨h0, rfl⟩)))) h)
  have HG0 := Lib.hid (show ∀ a, wt = [a] → wt.all numW = true → ansD b s = crashD b (numV a) from fun a hw ha => by
    rw [ans_verb hws, h0]
    unfold verbD
    rw [if_neg (by rw [ha]; decide), if_neg (fun k => absurd k.1 (by decide)), if_neg (fun k => absurd k.1 (by decide)), if_neg (fun k => absurd k.1 (by decide)), if_neg (fun k => absurd k.1 (by decide)), if_pos ⟨rfl, by rw [hw]; rfl⟩, hw]
    rfl)
  have H0 := Lib.hid h0
  clear h0
  have hcl := cutL_len 32 s
  have hcn := cutL_cnt 32 s
  have hsa := fun (w2 : World) (h2 : LibT w2) => split_any s w2 hl h2
  rw [hws] at hsa hcl hcn
  have hw0l : w0.length ≤ 10000 := Nat.le_trans (hcl w0 (List.mem_cons_self ..)) hl
  have hcl2 : ∀ x ∈ wt, x.length ≤ 10000 := fun x hx => Nat.le_trans (hcl x (List.mem_cons_of_mem _ hx)) hl
  obtain ⟨q, hq⟩ : ∃ q, q = wt.length := ⟨_, rfl⟩
  obtain ⟨n1, hn1⟩ : ∃ n1, n1 = (w0 :: wt).length := ⟨_, rfl⟩
  rw [← hn1] at hsa
  have hnq : n1 - 1 = q := by rw [hn1, hq]; simp
  have h1n : 1 ≤ n1 := by rw [hn1]; simp
  have hn10 : (0 : Int) < (n1 : Int) := by omega
  have hq1 : q ≤ 10000 := by simp only [List.length_cons] at hcn; omega
  have HSA := Lib.hid hsa
  have HCL := Lib.hid hcl2
  have HQ := Lib.hid hq
  have HNQ := Lib.hid hnq
  have HOK := Lib.hid hok
  have HW := Lib.hid hW
  obtain ⟨v2, v3, v4, v5, v6, u2, u3, u4, u5, u6, hmap, hbm, hgm⟩ := verbs_any w
  have hmk := run_makeMap (P := Tryz.prog) tVerbs w
  have HMAP := Lib.hid hmap
  have HB6 := Lib.hid (show Below B w v6 from hbm.mono hB)
  have HK6 := Lib.hid (show BkM B v6 bb tb b (dskE gd bb :: F) from BkS.kept h hbm)
  have hg6 : B ≤ v6.heap.size := Nat.le_trans hB HB6.out.size
  obtain ⟨gm, hgmE⟩ : ∃ gm, gm = w.heap.size := ⟨_, rfl⟩
  rw [← hgmE] at u2 u3 u4 u5 u6 hmk hgm HMAP
  have HGM := Lib.hid hgm
  clear hws hcl hcn hsa hcl2 hq hnq hok hW hmap hbm hgm h hgmE hl hn1
  go_enter Tryz.func49, Tryz.ntmps49
  go_wp2_with fail
  refine (HSA.out v6 (HW.out.below HB6.out).lib).mono ?_
  rintro e w7 ⟨rfl, hw7⟩
  clear u2 u3 u4 u5 u6 hmk
  obtain ⟨g, hg⟩ : ∃ g, g = v6.heap.size := ⟨_, rfl⟩
  have hk7 : BkM B w7 bb tb b (Ent.blk1 g 9 ((w0 :: wt).map fun x => Value.string (bytesOf x)) :: dskE gd bb :: F) := by
    rw [hw7, hg]
    exact BkS.box HK6.out hg6 ((w0 :: wt).map fun x => Value.string (bytesOf x)).toArray 9
  have HK7 := Lib.hid (show BkM B w7 bb tb b (dskE gd bb :: Ent.blk1 g 9 ((w0 :: wt).map fun x => Value.string (bytesOf x)) :: F) from BkS.perm hk7 (List.Perm.swap ..))
  have HB7 := Lib.hid (show Below B w w7 by rw [hw7]; exact HB6.out.alloc hg6 _)
  have HM7 := Lib.hid (show ∃ es, w7.heap[gm]? = some (.map es 5) ∧ MapIs es 5 verbsL by
    obtain ⟨es, h1, h2⟩ := HMAP.out
    exact ⟨es, by rw [hw7, heap_alloc_old _ _ HGM.out]; exact h1, h2⟩)
  have hg7 : B ≤ w7.heap.size := Nat.le_trans hB HB7.out.size
  rw [← hg]
  obtain ⟨ao1, hao1⟩ : ∃ ao1, ao1 = cutAddr (some ⟨g, 0, none⟩) n1 1 1 := ⟨_, rfl⟩
  have HAO := Lib.hid hao1
  clear hw7 hg hk7 HK6 HB6 HMAP hg6 hao1 HSA HGM
  have hc0 : w7.cell? ⟨g, 0, none⟩ = some (.string (bytesOf w0)) := ((BkS.mem HK7.out (g := g) (e := 9) (cs := (w0 :: wt).map fun x => Value.string (bytesOf x)) (by simp)).1 0 _ rfl).1
  have hlk : (Instr.lookup tVerbs (.map (some gm)) (.string (bytesOf w0)) true).run Tryz.prog w7 = .ok (.tuple #[.agg #[.int .i64 1, .func (Fn.func 78) #[] #[]], .bool true]) w7 := by
    obtain ⟨es, h1, h2⟩ := HM7.out
    exact verb_look h1 h2 (s := bytesOf w0) (Nat.le_trans hw0l (by decide)) (by rw [H0.out]; simp [verbsL, verbC, crashT, bytesOf])
  have hk8 := BkS.box HK7.out hg7 #[.int .i64 1, .func (Fn.func 78) #[] #[]] tVerb
  obtain ⟨w8, hw8⟩ : ∃ w8, w8 = w7.alloc (.cells #[.int .i64 1, .func (Fn.func 78) #[] #[]] tVerb) := ⟨_, rfl⟩
  obtain ⟨gv, hgv⟩ : ∃ gv, gv = w7.heap.size := ⟨_, rfl⟩
  rw [← hw8, ← hgv] at hk8
  have HK8 := Lib.hid (show BkM B w8 bb tb b (dskE gd bb :: Ent.blk1 gv tVerb [.int .i64 1, .func (Fn.func 78) #[] #[]] :: Ent.blk1 g 9 ((w0 :: wt).map fun x => Value.string (bytesOf x)) :: F) from BkS.perm hk8 (List.Perm.swap ..))
  have HB8 := Lib.hid (show Below B w w8 by rw [hw8]; exact HB7.out.alloc hg7 _)
  have HW8 := Lib.hid hw8
  have HGV := Lib.hid hgv
  have hg8 : B ≤ w8.heap.size := Nat.le_trans hB HB8.out.size
  clear hk8 hw8 hgv HM7
  go_upto_region 4 with fail
  rw [← HW8.out, ← HGV.out]
  clear HW8 hlk hc0
  have hwords := words_any ao1 q wt w8 HCL.out (by rw [← HQ.out]; exact hq1) (HW.out.below HB8.out).lib (by
    intro j x hx
    have hj : j < wt.length := (List.getElem?_eq_some_iff.1 hx).1
    have hao : ao1 = some ⟨g, 1, none⟩ := by
      rw [HAO.out]
      unfold cutAddr
      rw [if_neg (by have := HNQ.out; have := HQ.out; omega)]
      rfl
    have hm := BkS.mem HK8.out (g := g) (e := 9) (cs := (w0 :: wt).map fun x => Value.string (bytesOf x)) (by simp)
    have hc := (hm.1 (1 + j) _ (by rw [Nat.add_comm, List.map_cons, List.getElem?_cons_succ, List.getElem?_map, hx]; rfl)).1
    exact ⟨g, 1, hao, World.block_lt_of_cell? w8 _ hc, hc⟩)
  rw [← HQ.out] at hwords
  have HWORDS := Lib.hid hwords
  clear hwords HK7 HB7 hg7
  go_wp2_with (refine wpList_slice_from rfl (.tmp 29) (.const (.int .i64 1)) rfl elemStr _ _ _ rfl 1 .i64 rfl h1n ?_; rw [HNQ.out, ← HAO.out])
  refine HWORDS.out.mono ?_
  rintro e w9 ⟨hor, hb9⟩
  have HB9 := Lib.hid (HB8.out.trans (hb9.mono hg8))
  have HK9 := Lib.hid (show BkM B w9 bb tb b _ from BkS.kept HK8.out hb9)
  have hg9 : B ≤ w9.heap.size := Nat.le_trans hB HB9.out.size
  have hv0 := ((BkS.mem HK9.out (g := gv) (e := tVerb) (cs := [.int .i64 1, .func (Fn.func 78) #[] #[]]) (by simp)).1 0 _ rfl).1
  have hv1 := ((BkS.mem HK9.out (g := gv) (e := tVerb) (cs := [.int .i64 1, .func (Fn.func 78) #[] #[]]) (by simp)).1 1 _ rfl).1
  have HB89 := Lib.hid hb9
  clear hb9 HWORDS
  rcases hor with ⟨hall, v, rfl, hsp⟩ | ⟨hall, rfl⟩
  rotate_left
  · have HR := Lib.hid (HBAD.out (.inl hall))
    clear hall
    go_wp2
    go_ret
    rw [HR.out]
    exact ⟨rfl, ⟨bb, tb, BkS.sub HK9.out (List.Sublist.cons_cons _ (List.Sublist.cons _ (List.Sublist.cons _ (List.Sublist.refl _))))⟩, HOK.out, HB9.out⟩
  obtain ⟨na, nc, rfl, -, -⟩ := Sep.intsShape (A := []) hsp
  have hlq : (wt.map numV).length = q := by rw [List.length_map, HQ.out]
  by_cases hqm : q = 1
  rotate_left
  · have hneq : ((q : Int) != 1) = true := bne_iff_ne.2 (by omega)
    have HR := Lib.hid (HBAD.out (.inr (by rw [← HQ.out]; exact hqm)))
    rw [hlq]
    clear hall hsp hlq hqm
    go_wp2
    go_ret
    rw [HR.out]
    exact ⟨rfl, ⟨bb, tb, BkS.sub HK9.out (List.Sublist.cons_cons _ (List.Sublist.cons _ (List.Sublist.cons _ (List.Sublist.refl _))))⟩, HOK.out, HB9.out⟩
  have hneq : ((q : Int) != 1) = false := by rw [hqm]; decide
  have hk10 := BkS.join HK8.out hg8 HB89.out hsp
  have hwl : wt.length = 1 := by rw [← HQ.out]; exact hqm
  rw [hlq]
  clear hsp hlq
  obtain ⟨a, rfl⟩ : ∃ a, wt = [a] := by
    match wt, hwl with
    | [a], _ => exact ⟨a, rfl⟩
  have hgd := HG0.out a rfl hall
  obtain ⟨n, hn, hn8⟩ := numW_small (show numW a = true by simpa using hall)
  rw [hn] at hgd
  have HGOOD := Lib.hid hgd
  subst hqm
  have HK10 := Lib.hid (show BkM B w9 bb tb b (dskF na nc [(n : Int)] gd bb _) by rw [← hn]; exact hk10)
  clear hall hk10 hwl HG0 HBAD hgd hn
  go_wp2_with fail
  refine (dskCrash_any B bb tb gd nc b na n _ w9 hn8 hg9 HK10.out HOK.out (HW.out.below HB9.out)).mono ?_
  rintro e w10 ⟨rfl, ⟨bb2, tb2, hk⟩, hok2, hb⟩
  have HK11 := Lib.hid hk
  have HB11 := Lib.hid (HB9.out.trans hb)
  have HOK2 := Lib.hid hok2
  clear hk hb hok2
  go_wp2
  go_ret
  rw [HGOOD.out]
  exact ⟨rfl, ⟨bb2, tb2, BkS.sub HK11.out (List.Sublist.cons _ (List.Sublist.cons_cons _ (List.Sublist.cons _ (List.Sublist.cons _ (List.Sublist.refl _)))))⟩, HOK2.out, HB11.out⟩
set_option maxHeartbeats 8000000 in
theorem line_none' (B bb tb gd : Nat) (b : Bk) (F : List Ent) (s : List UInt8) (w0 : List UInt8) (wt : List (List UInt8)) (hws : cutL 32 s = w0 :: wt) (w : World) (hB : B ≤ w.heap.size) (h : BkM B w bb tb b (dskE gd bb :: F)) (hok : BkOk b) (hW : DskW B w) (hl : s.length ≤ 10000)
    (hno : ∀ p ∈ verbsL, p.1 ≠ .string (bytesOf w0)) (hr : ansD b s = (b, badT)) :
    Calls Tryz.prog 49 #[.pointer (some ⟨gd, 0, none⟩), .string (bytesOf s)] w fun e w' => LineEnd B gd F w (ansD b s) e w' := by
  have HR := Lib.hid hr
  have HNO := Lib.hid hno
  clear hr hno
  have hcl := cutL_len 32 s
  have hcn := cutL_cnt 32 s
  have hsa := fun (w2 : World) (h2 : LibT w2) => split_any s w2 hl h2
  rw [hws] at hsa hcl hcn
  have hw0l : w0.length ≤ 10000 := Nat.le_trans (hcl w0 (List.mem_cons_self ..)) hl
  have hcl2 : ∀ x ∈ wt, x.length ≤ 10000 := fun x hx => Nat.le_trans (hcl x (List.mem_cons_of_mem _ hx)) hl
  obtain ⟨q, hq⟩ : ∃ q, q = wt.length := ⟨_, rfl⟩
  obtain ⟨n1, hn1⟩ : ∃ n1, n1 = (w0 :: wt).length := ⟨_, rfl⟩
  rw [← hn1] at hsa
  have hnq : n1 - 1 = q := by rw [hn1, hq]; simp
  have h1n : 1 ≤ n1 := by rw [hn1]; simp
  have hn10 : (0 : Int) < (n1 : Int) := by omega
  have hq1 : q ≤ 10000 := by simp only [List.length_cons] at hcn; omega
  have HSA := Lib.hid hsa
  have HCL := Lib.hid hcl2
  have HQ := Lib.hid hq
  have HNQ := Lib.hid hnq
  have HOK := Lib.hid hok
  have HW := Lib.hid hW
  obtain ⟨v2, v3, v4, v5, v6, u2, u3, u4, u5, u6, hmap, hbm, hgm⟩ := verbs_any w
  have hmk := run_makeMap (P := Tryz.prog) tVerbs w
  have HMAP := Lib.hid hmap
  have HB6 := Lib.hid (show Below B w v6 from hbm.mono hB)
  have HK6 := Lib.hid (show BkM B v6 bb tb b (dskE gd bb :: F) from BkS.kept h hbm)
  have hg6 : B ≤ v6.heap.size := Nat.le_trans hB HB6.out.size
  obtain ⟨gm, hgmE⟩ : ∃ gm, gm = w.heap.size := ⟨_, rfl⟩
  rw [← hgmE] at u2 u3 u4 u5 u6 hmk hgm HMAP
  have HGM := Lib.hid hgm
  clear hws hcl hcn hsa hcl2 hq hnq hok hW hmap hbm hgm h hgmE hl hn1
  go_enter Tryz.func49, Tryz.ntmps49
  go_wp2_with fail
  refine (HSA.out v6 (HW.out.below HB6.out).lib).mono ?_
  rintro e w7 ⟨rfl, hw7⟩
  clear u2 u3 u4 u5 u6 hmk
  obtain ⟨g, hg⟩ : ∃ g, g = v6.heap.size := ⟨_, rfl⟩
  have hk7 : BkM B w7 bb tb b (Ent.blk1 g 9 ((w0 :: wt).map fun x => Value.string (bytesOf x)) :: dskE gd bb :: F) := by
    rw [hw7, hg]
    exact BkS.box HK6.out hg6 ((w0 :: wt).map fun x => Value.string (bytesOf x)).toArray 9
  have HK7 := Lib.hid (show BkM B w7 bb tb b (dskE gd bb :: Ent.blk1 g 9 ((w0 :: wt).map fun x => Value.string (bytesOf x)) :: F) from BkS.perm hk7 (List.Perm.swap ..))
  have HB7 := Lib.hid (show Below B w w7 by rw [hw7]; exact HB6.out.alloc hg6 _)
  have HM7 := Lib.hid (show ∃ es, w7.heap[gm]? = some (.map es 5) ∧ MapIs es 5 verbsL by
    obtain ⟨es, h1, h2⟩ := HMAP.out
    exact ⟨es, by rw [hw7, heap_alloc_old _ _ HGM.out]; exact h1, h2⟩)
  have hg7 : B ≤ w7.heap.size := Nat.le_trans hB HB7.out.size
  rw [← hg]
  obtain ⟨ao1, hao1⟩ : ∃ ao1, ao1 = cutAddr (some ⟨g, 0, none⟩) n1 1 1 := ⟨_, rfl⟩
  have HAO := Lib.hid hao1
  clear hw7 hg hk7 HK6 HB6 HMAP hg6 hao1 HSA HGM
  have hc0 : w7.cell? ⟨g, 0, none⟩ = some (.string (bytesOf w0)) := ((BkS.mem HK7.out (g := g) (e := 9) (cs := (w0 :: wt).map fun x => Value.string (bytesOf x)) (by simp)).1 0 _ rfl).1
  have hlk : (Instr.lookup tVerbs (.map (some gm)) (.string (bytesOf w0)) true).run Tryz.prog w7 = .ok (.tuple #[.agg #[.int .i64 0, .nilFunc], .bool false]) w7 := by
    obtain ⟨es, h1, h2⟩ := HM7.out
    exact verb_miss h1 h2 (Nat.le_trans hw0l (by decide)) HNO.out
  have hk8 := BkS.box HK7.out hg7 #[.int .i64 0, .nilFunc] tVerb
  obtain ⟨w8, hw8⟩ : ∃ w8, w8 = w7.alloc (.cells #[.int .i64 0, .nilFunc] tVerb) := ⟨_, rfl⟩
  obtain ⟨gv, hgv⟩ : ∃ gv, gv = w7.heap.size := ⟨_, rfl⟩
  rw [← hw8, ← hgv] at hk8
  have HK8 := Lib.hid (show BkM B w8 bb tb b (dskE gd bb :: Ent.blk1 gv tVerb [.int .i64 0, .nilFunc] :: Ent.blk1 g 9 ((w0 :: wt).map fun x => Value.string (bytesOf x)) :: F) from BkS.perm hk8 (List.Perm.swap ..))
  have HB8 := Lib.hid (show Below B w w8 by rw [hw8]; exact HB7.out.alloc hg7 _)
  have HW8 := Lib.hid hw8
  have HGV := Lib.hid hgv
  have hg8 : B ≤ w8.heap.size := Nat.le_trans hB HB8.out.size
  clear hk8 hw8 hgv HM7
  go_upto_region 4 with fail
  rw [← HW8.out, ← HGV.out]
  clear HW8 hlk hc0
  have hwords := words_any ao1 q wt w8 HCL.out (by rw [← HQ.out]; exact hq1) (HW.out.below HB8.out).lib (by
    intro j x hx
    have hj : j < wt.length := (List.getElem?_eq_some_iff.1 hx).1
    have hao : ao1 = some ⟨g, 1, none⟩ := by
      rw [HAO.out]
      unfold cutAddr
      rw [if_neg (by have := HNQ.out; have := HQ.out; omega)]
      rfl
    have hm := BkS.mem HK8.out (g := g) (e := 9) (cs := (w0 :: wt).map fun x => Value.string (bytesOf x)) (by simp)
    have hc := (hm.1 (1 + j) _ (by rw [Nat.add_comm, List.map_cons, List.getElem?_cons_succ, List.getElem?_map, hx]; rfl)).1
    exact ⟨g, 1, hao, World.block_lt_of_cell? w8 _ hc, hc⟩)
  rw [← HQ.out] at hwords
  have HWORDS := Lib.hid hwords
  clear hwords HK7 HB7 hg7
  go_wp2_with (refine wpList_slice_from rfl (.tmp 29) (.const (.int .i64 1)) rfl elemStr _ _ _ rfl 1 .i64 rfl h1n ?_; rw [HNQ.out, ← HAO.out])
  refine HWORDS.out.mono ?_
  rintro e w9 ⟨hor, hb9⟩
  have HB9 := Lib.hid (HB8.out.trans (hb9.mono hg8))
  have HK9 := Lib.hid (show BkM B w9 bb tb b _ from BkS.kept HK8.out hb9)
  have hg9 : B ≤ w9.heap.size := Nat.le_trans hB HB9.out.size
  have hv0 := ((BkS.mem HK9.out (g := gv) (e := tVerb) (cs := [.int .i64 0, .nilFunc]) (by simp)).1 0 _ rfl).1
  have hv1 := ((BkS.mem HK9.out (g := gv) (e := tVerb) (cs := [.int .i64 0, .nilFunc]) (by simp)).1 1 _ rfl).1
  have HB89 := Lib.hid hb9
  clear hb9 HWORDS
  rcases hor with ⟨hall, v, rfl, hsp⟩ | ⟨hall, rfl⟩
  · obtain ⟨na, nc, rfl, -, -⟩ := Sep.intsShape (A := []) hsp
    clear hall hsp
    go_wp2
    go_ret
    rw [HR.out]
    exact ⟨rfl, ⟨bb, tb, BkS.sub HK9.out (List.Sublist.cons_cons _ (List.Sublist.cons _ (List.Sublist.cons _ (List.Sublist.refl _))))⟩, HOK.out, HB9.out⟩
  · clear hall
    go_wp2
    go_ret
    rw [HR.out]
    exact ⟨rfl, ⟨bb, tb, BkS.sub HK9.out (List.Sublist.cons_cons _ (List.Sublist.cons _ (List.Sublist.cons _ (List.Sublist.refl _))))⟩, HOK.out, HB9.out⟩
/-- (*desk).line. -/
theorem dskLine_any (B bb tb gd : Nat) (b : Bk) (F : List Ent) (s : List UInt8) (w : World) (hB : B ≤ w.heap.size) (h : BkM B w bb tb b (dskE gd bb :: F)) (hok : BkOk b) (hW : DskW B w) (hl : s.length ≤ 10000) :
    Calls Tryz.prog 49 #[.pointer (some ⟨gd, 0, none⟩), .string (bytesOf s)] w fun e w' => LineEnd B gd F w (ansD b s) e w' := by
  obtain ⟨w0, wt, hws⟩ : ∃ w0 wt, cutL 32 s = w0 :: wt := by
    cases hc : cutL 32 s with
    | nil => exact absurd hc (cutL_ne _ _)
    | cons a r => exact ⟨a, r, rfl⟩
  by_cases h1 : w0 = setT
  · exact line_set B bb tb gd b F s w0 wt hws h1 w hB h hok hW hl
  by_cases h2 : w0 = dropT
  · exact line_drop B bb tb gd b F s w0 wt hws h2 w hB h hok hW hl
  by_cases h3 : w0 = findT
  · exact line_find B bb tb gd b F s w0 wt hws h3 w hB h hok hW hl
  by_cases h4 : w0 = manyT
  · exact line_many B bb tb gd b F s w0 wt hws h4 w hB h hok hW hl
  by_cases h5 : w0 = crashT
  · exact line_crash B bb tb gd b F s w0 wt hws h5 w hB h hok hW hl
  refine line_none' B bb tb gd b F s w0 wt hws w hB h hok hW hl ?_ (by rw [ans_verb hws]; exact verb_none h1 h2 h3 h4 h5)
  intro p hp he
  have key : ∀ t : List UInt8, Value.string ⟨t.toArray⟩ = .string (bytesOf w0) → w0 = t := fun t ht => by
    have := congrArg (fun v => match v with | .string s => s.data.toList | _ => []) ht
    simpa [bytesOf] using this.symm
  simp only [verbsL, List.mem_cons, List.not_mem_nil, or_false] at hp
  rcases hp with rfl | rfl | rfl | rfl | rfl
  · exact h1 (key setT he)
  · exact h2 (key dropT he)
  · exact h3 (key findT he)
  · exact h4 (key manyT he)
  · exact h5 (key crashT he)
end Go.Proofs.YtbcfcjecobihnaaGreatDoor
