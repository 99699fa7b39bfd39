/- A book beside its reference: one frame. -/
import Derived.Test.YtbcfcjecobihnaaDoorRtBookD
namespace Go.Proofs.YtbcfcjecobihnaaDoor
open Go.RowKit
set_option linter.unusedVariables false

theorem BkS.perm {B bb tb m : Nat} {w : World} {L : List Rte} {l : List UInt8} {F F' : List Ent} (h : BkS B w bb tb L l m F) (hf : F.Perm F') : BkS B w bb tb L l m F' := by
  obtain ⟨T, ad, v, h1, h2, h3, h4⟩ := h
  exact ⟨T, ad, v, h1, h2, h3, h4.perm (List.Perm.cons _ (List.Perm.cons _ (List.Perm.append_left _ hf)))⟩
theorem BkS.sub {B bb tb m : Nat} {w : World} {L : List Rte} {l : List UInt8} {F F' : List Ent} (h : BkS B w bb tb L l m F) (hf : F'.Sublist F) : BkS B w bb tb L l m F' := by
  obtain ⟨T, ad, v, h1, h2, h3, h4⟩ := h
  exact ⟨T, ad, v, h1, h2, h3, h4.sub (List.Sublist.cons_cons _ (List.Sublist.cons_cons _ (List.Sublist.append_left hf _)))⟩
/-- The reference's row taken out, and put back. -/
theorem BkS.ref {B bb tb m : Nat} {w : World} {L L0 : List Rte} {l : List UInt8} {sp : Value} {F : List Ent} (h : BkS B w bb tb L l m (rteE sp L0 :: F)) :
    ∃ F', Sep B w (rteE sp L0 :: F') ∧ ∀ w' sp' L', Sep B w' (rteE sp' L' :: F') → BkS B w' bb tb L l m (rteE sp' L' :: F) := by
  obtain ⟨T, ad, v, h1, h2, h3, h4⟩ := h
  obtain ⟨E1, hE1⟩ : ∃ E, E = bkE bb (.pointer (some ⟨tb, 0, none⟩)) ad v (.int .i64 m) := ⟨_, rfl⟩
  obtain ⟨E2, hE2⟩ : ∃ E, E = Ent.rowF v l := ⟨_, rfl⟩
  obtain ⟨X, hX⟩ : ∃ X, X = lptE tb L.length T := ⟨_, rfl⟩
  have hp : ∀ E : Ent, (E :: E1 :: E2 :: (X ++ F)).Perm (E1 :: E2 :: (X ++ E :: F)) := fun E =>
    (List.perm_middle (a := E) (l₁ := E1 :: E2 :: X) (l₂ := F)).symm
  refine ⟨E1 :: E2 :: (X ++ F), ?_, ?_⟩
  · rw [hE1, hE2, hX]
    rw [hE1, hE2, hX] at hp
    exact h4.perm (hp _).symm
  · intro w' sp' L' hs
    refine ⟨T, ad, v, h1, h2, h3, ?_⟩
    rw [hE1, hE2, hX] at hs hp
    exact hs.perm (hp _)
theorem BkS.mem {B bb tb m : Nat} {w : World} {L : List Rte} {l : List UInt8} {F : List Ent} (h : BkS B w bb tb L l m F) {g : Nat} {e : TypeId} {cs : List Value} (hm : Ent.blk1 g e cs ∈ F) :
    (∀ j v, cs[j]? = some v → w.cell? ⟨g, j, none⟩ = some v ∧ w.frozen? ⟨g, j, none⟩ = false) ∧ B ≤ g := by
  obtain ⟨T, ad, v, h1, h2, h3, h4⟩ := h
  exact h4.member (List.mem_cons_of_mem _ (List.mem_cons_of_mem _ (List.mem_append.2 (.inr hm))))
theorem BkS.cellSet {B bb tb m : Nat} {w w0 : World} {L : List Rte} {l : List UInt8} {A C : List Ent} {g : Nat} {e : TypeId} {cs : List Value} (j : Nat) (u : Value) (h : BkS B w bb tb L l m (A ++ Ent.blk1 g e cs :: C)) (hb : Below B w0 w) :
    BkS B (w.setCell ⟨g, j, none⟩ u) bb tb L l m (A ++ Ent.blk1 g e (cs.set j u) :: C) ∧ Below B w0 (w.setCell ⟨g, j, none⟩ u) := by
  have hg := (h.mem (g := g) (e := e) (cs := cs) (by simp)).2
  obtain ⟨T, ad, v, h1, h2, h3, h4⟩ := h
  have h4' : Sep B w ((bkE bb (.pointer (some ⟨tb, 0, none⟩)) ad v (.int .i64 m) :: Ent.rowF v l :: (lptE tb L.length T ++ A)) ++ Ent.blk1 g e cs :: C) := by
    rw [List.cons_append, List.cons_append, List.append_assoc]; exact h4
  have h5 := Sep.blkSet h4' j u
  rw [List.cons_append, List.cons_append, List.append_assoc] at h5
  exact ⟨⟨T, ad, v, h1, h2, h3, h5⟩, hb.setCell (p := ⟨g, j, none⟩) hg u⟩
theorem BkS.facts {B bb tb m : Nat} {w : World} {L : List Rte} {l : List UInt8} {F : List Ent} (h : BkS B w bb tb L l m F) : L.length ≤ 32 ∧ SrtR L ∧ ∀ x ∈ L, lpOk x.1 x.2.1 := by
  obtain ⟨F', hT, -⟩ := h.tab
  refine ⟨hT.few, hT.srt, fun x hx => ?_⟩
  obtain ⟨T, hT1, hT2, -⟩ := hT
  rw [← hT2] at hx
  exact rts_ok hT1.deep hx
theorem BkS.rte {B bb tb m : Nat} {w : World} {L L0 : List Rte} {l : List UInt8} {sp : Value} {F : List Ent} (h : BkS B w bb tb L l m (rteE sp L0 :: F)) : ∃ ao cap, sp = .slice ao L0.length cap ∧ L0.length ≤ cap ∧ RteSl w.heap.size w ao L0 := by
  obtain ⟨F', hs, -⟩ := h.ref
  obtain ⟨ao, cap, rfl, h1⟩ := rte_shape (A := []) hs
  exact ⟨ao, cap, rfl, h1, Sep.rteSl (A := []) hs⟩
/-- The reference's variable: its row and its block. -/
abbrev xE (gx : Nat) (sp : Value) (b : Bk) (F : List Ent) : List Ent := rteE sp b.1 :: Ent.blk1 gx 29 (bkC sp (bkT b.2.1) (b.2.2 : Int)) :: F
theorem xE_cells {B bb tb gx : Nat} {w : World} {b0 b : Bk} {sp : Value} {F : List Ent} (h : BkM B w bb tb b0 (xE gx sp b F)) :
    (w.cell? ⟨gx, 0, none⟩ = some sp ∧ w.cell? ⟨gx, 1, none⟩ = some (.string (bkT b.2.1)) ∧ w.cell? ⟨gx, 2, none⟩ = some (.int .i64 (b.2.2 : Int))) ∧ (w.frozen? ⟨gx, 0, none⟩ = false ∧ w.frozen? ⟨gx, 1, none⟩ = false ∧ w.frozen? ⟨gx, 2, none⟩ = false) ∧ w.cell? ⟨bb, 0, none⟩ = some (.pointer (some ⟨tb, 0, none⟩)) := by
  have hm := (BkS.mem h (g := gx) (e := 29) (cs := bkC sp (bkT b.2.1) (b.2.2 : Int)) (by simp)).1
  exact ⟨⟨(hm 0 _ rfl).1, (hm 1 _ rfl).1, (hm 2 _ rfl).1⟩, ⟨(hm 0 _ rfl).2, (hm 1 _ rfl).2, (hm 2 _ rfl).2⟩, (BkS.cells h).1⟩
/-- The variable gets another book: first its row, then its cells. -/
theorem xE_set {B bb tb gx : Nat} {w w0 : World} {b0 b b' : Bk} {sp sp' : Value} {F : List Ent} (h : BkM B w bb tb b0 (rteE sp' b'.1 :: Ent.blk1 gx 29 (bkC sp (bkT b.2.1) (b.2.2 : Int)) :: F)) (hb : Below B w0 w) :
    ∃ w', w' = ((w.setCell ⟨gx, 0, none⟩ sp').setCell ⟨gx, 1, none⟩ (.string (bkT b'.2.1))).setCell ⟨gx, 2, none⟩ (.int .i64 (b'.2.2 : Int)) ∧ BkM B w' bb tb b0 (xE gx sp' b' F) ∧ Below B w0 w' := by
  obtain ⟨h1, g1⟩ := BkS.cellSet (A := [_]) 0 sp' h hb
  obtain ⟨h2, g2⟩ := BkS.cellSet (A := [_]) 1 (.string (bkT b'.2.1)) h1 g1
  obtain ⟨h3, g3⟩ := BkS.cellSet (A := [_]) 2 (.int .i64 (b'.2.2 : Int)) h2 g2
  exact ⟨_, rfl, h3, g3⟩
theorem xE_box {B bb tb gx : Nat} {w : World} {b0 b : Bk} {sp : Value} {F : List Ent} (h : BkM B w bb tb b0 (xE gx sp b F)) (hB : B ≤ w.heap.size) (cs : Array Value) (e : TypeId) : BkM B (w.alloc (.cells cs e)) bb tb b0 (xE gx sp b (Ent.blk1 w.heap.size e cs.toList :: F)) :=
  BkS.perm (BkS.box h hB cs e) ((List.Perm.swap _ _ _).trans (List.Perm.cons _ (List.Perm.swap _ _ _)))
end Go.Proofs.YtbcfcjecobihnaaDoor
