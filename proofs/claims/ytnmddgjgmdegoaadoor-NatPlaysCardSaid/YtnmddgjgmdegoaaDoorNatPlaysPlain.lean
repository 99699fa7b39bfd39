/- nat, in plain lists: what is lent, rising; how many. -/
import Derived.Test.YtnmddgjgmdegoaaDoorNatRefDrop
import Derived.Test.YtnmddgjgmdegoaaDoorRise
namespace Go.Proofs.YtnmddgjgmdegoaaDoor
open Go.RowKit Go.Maps
set_option linter.unusedVariables false

theorem strict_same : ∀ {a b : List Int}, a.Pairwise (· < ·) → b.Pairwise (· < ·) → (∀ x, x ∈ a ↔ x ∈ b) → a = b
  | [], [], _, _, _ => rfl
  | [], y :: b, _, _, h => by have := (h y).2 (List.mem_cons_self ..); cases this
  | x :: a, [], _, _, h => by have := (h x).1 (List.mem_cons_self ..); cases this
  | x :: a, y :: b, ha, hb, h => by
    rw [List.pairwise_cons] at ha hb
    have hxy : x = y := by
      rcases List.mem_cons.1 ((h x).1 (List.mem_cons_self ..)) with h1 | h1
      · exact h1
      · rcases List.mem_cons.1 ((h y).2 (List.mem_cons_self ..)) with h2 | h2
        · exact h2.symm
        · have := hb.1 x h1; have := ha.1 y h2; omega
    subst hxy
    rw [strict_same ha.2 hb.2 (fun z => by
      constructor
      · intro hz
        rcases List.mem_cons.1 ((h z).1 (List.mem_cons_of_mem _ hz)) with h1 | h1
        · have := ha.1 z hz; omega
        · exact h1
      · intro hz
        rcases List.mem_cons.1 ((h z).2 (List.mem_cons_of_mem _ hz)) with h1 | h1
        · have := hb.1 z hz; omega
        · exact h1)]
theorem strict_of {l : List Int} (h : l.Pairwise (· ≤ ·)) (hn : l.Nodup) : l.Pairwise (· < ·) := by
  induction l with
  | nil => exact List.Pairwise.nil
  | cons x r ih =>
    rw [List.pairwise_cons] at h
    rw [List.nodup_cons] at hn
    rw [List.pairwise_cons]
    refine ⟨fun y hy => ?_, ih h.2 hn.2⟩
    have h1 := h.1 y hy
    have h2 : x ≠ y := fun e => hn.1 (e ▸ hy)
    omega
theorem lentTo_has {M : NatM} {low x : Int} : ∀ {k : Nat}, low ≤ x → x < low + (k : Int) → placeOf M x ≠ none → x ∈ lentTo M low k
  | 0, h1, h2, _ => by omega
  | k + 1, h1, h2, h3 => by
    unfold lentTo
    by_cases h : x = low + (k : Int)
    · subst h
      rw [if_neg h3]; simp
    · exact List.mem_append_left _ (lentTo_has h1 (by omega) h3)
theorem lent_rise {low : Int} {n : Nat} {M : NatM} (h : NatOk low (n : Int) M) : lentTo M low n = rise (M.map (·.1)) := by
  refine strict_same lentTo_sorted (strict_of (rise_sorted _) ((rise_perm _).nodup_iff.2 h.ports)) fun x => ?_
  rw [(rise_perm _).mem_iff]
  constructor
  · intro hx
    obtain ⟨_, _, h3⟩ := lentTo_mem hx
    cases hp : placeOf M x with
    | none => exact absurd hp h3
    | some p => exact List.mem_map.2 ⟨(x, p), placeOf_mem hp, rfl⟩
  · intro hx
    obtain ⟨y, hy, rfl⟩ := List.mem_map.1 hx
    have hr := h.rng y hy
    exact lentTo_has hr.1 hr.2 (by rw [h.place_is.2 (show (y.1, y.2) ∈ M from hy)]; simp)
theorem natOut_len (low many : Int) (M : NatM) (p : Pl) : (natOut low many M p).1.length ≤ M.length + 1 := by
  unfold natOut
  split
  · split
    · simp
    · split <;> simp
  · simp
theorem natDrop_len (M : NatM) (q : Int) : (natDrop M q).1.length ≤ M.length := by
  unfold natDrop
  split
  · exact Nat.le_refl _
  · exact List.length_eraseP_le
/-- The rows of the reference's table beside the program's table. -/
theorem natRef {G g : Nat} {low many : Int} {M U : NatM} {X : List Ent} {sp sq : Value} {w : World} (h : NatT G w g low many M (rwE sp sq U X)) :
    ∃ F, Sep G w (rwE sp sq U F) ∧ ∀ w' sp' sq' U', Sep G w' (rwE sp' sq' U' F) → NatT G w' g low many M (rwE sp' sq' U' X) := by
  obtain ⟨h1, mp, mq, e1, c1, e2, c2, m1, m2, hs⟩ := h
  refine ⟨X ++ tabE g mp mq low many e1 c1 e2 c2, hs.perm (List.perm_append_comm (l₁ := tabE g mp mq low many e1 c1 e2 c2) (l₂ := rwE sp sq U X)), fun w' sp' sq' U' hs' => ?_⟩
  exact ⟨h1, mp, mq, e1, c1, e2, c2, m1, m2, hs'.perm (List.perm_append_comm (l₁ := rwE sp' sq' U' X) (l₂ := tabE g mp mq low many e1 c1 e2 c2))⟩
/-- The variable of the reference's table. -/
theorem natX_cells {G g gx : Nat} {low many : Int} {M U : NatM} {X : List Ent} {sp sq c0 c1 c2 c3 : Value} {w : World} (h : NatT G w g low many M (rwE sp sq U (Ent.blk1 gx 45 [c0, c1, c2, c3] :: X))) :
    (w.cell? ⟨gx, 0, none⟩ = some c0 ∧ w.cell? ⟨gx, 1, none⟩ = some c1 ∧ w.cell? ⟨gx, 2, none⟩ = some c2 ∧ w.cell? ⟨gx, 3, none⟩ = some c3) ∧ w.frozen? ⟨gx, 0, none⟩ = false ∧ w.frozen? ⟨gx, 1, none⟩ = false ∧ w.frozen? ⟨gx, 2, none⟩ = false ∧ w.frozen? ⟨gx, 3, none⟩ = false := by
  obtain ⟨h1, mp, mq, e1, k1, e2, k2, m1, m2, hs⟩ := h
  exact ⟨⟨(Sep.blkAt (A := [_, _, _, _, _]) hs (j := 0) rfl).1, (Sep.blkAt (A := [_, _, _, _, _]) hs (j := 1) rfl).1, (Sep.blkAt (A := [_, _, _, _, _]) hs (j := 2) rfl).1, (Sep.blkAt (A := [_, _, _, _, _]) hs (j := 3) rfl).1⟩,
    (Sep.blkAt (A := [_, _, _, _, _]) hs (j := 0) rfl).2, (Sep.blkAt (A := [_, _, _, _, _]) hs (j := 1) rfl).2, (Sep.blkAt (A := [_, _, _, _, _]) hs (j := 2) rfl).2, (Sep.blkAt (A := [_, _, _, _, _]) hs (j := 3) rfl).2⟩
theorem natX_set {G g gx : Nat} {low many : Int} {M U : NatM} {X : List Ent} {sp sq c0 c1 c2 c3 : Value} {w w0 : World} (d0 d1 d2 d3 : Value) (h : NatT G w g low many M (rwE sp sq U (Ent.blk1 gx 45 [c0, c1, c2, c3] :: X))) (hb : Below G w0 w) :
    NatT G ((((w.setCell ⟨gx, 0, none⟩ d0).setCell ⟨gx, 1, none⟩ d1).setCell ⟨gx, 2, none⟩ d2).setCell ⟨gx, 3, none⟩ d3) g low many M (rwE sp sq U (Ent.blk1 gx 45 [d0, d1, d2, d3] :: X)) ∧
      Below G w0 ((((w.setCell ⟨gx, 0, none⟩ d0).setCell ⟨gx, 1, none⟩ d1).setCell ⟨gx, 2, none⟩ d2).setCell ⟨gx, 3, none⟩ d3) := by
  obtain ⟨h1, mp, mq, e1, k1, e2, k2, m1, m2, hs⟩ := h
  have s1 := Sep.blkSet (A := [_, _, _, _, _]) hs 0 d0
  have s2 := Sep.blkSet (A := [_, _, _, _, _]) s1 1 d1
  have s3 := Sep.blkSet (A := [_, _, _, _, _]) s2 2 d2
  have s4 := Sep.blkSet (A := [_, _, _, _, _]) s3 3 d3
  have hl := (Sep.blkLt (A := [_, _, _, _, _]) hs).1
  exact ⟨⟨h1, mp, mq, e1, k1, e2, k2, m1, m2, s4⟩, (((hb.setCell (p := ⟨gx, 0, none⟩) hl _).setCell (p := ⟨gx, 1, none⟩) hl _).setCell (p := ⟨gx, 2, none⟩) hl _).setCell (p := ⟨gx, 3, none⟩) hl _⟩
theorem NatT.drop1 {G g : Nat} {low many : Int} {M U : NatM} {E E' : Ent} {sp sq : Value} {w : World} (h : NatT G w g low many M (rwE sp sq U [E, E'])) : NatT G w g low many M (rwE sp sq U [E]) := by
  obtain ⟨h1, mp, mq, e1, k1, e2, k2, m1, m2, hs⟩ := h
  exact ⟨h1, mp, mq, e1, k1, e2, k2, m1, m2, hs.sub (List.Sublist.append (List.Sublist.refl _) (List.Sublist.cons_cons _ (List.Sublist.cons_cons _ (List.Sublist.cons_cons _ (List.nil_sublist _)))))⟩
theorem natX_place {G g gp : Nat} {low many : Int} {M U : NatM} {E : Ent} {sp sq c0 c1 : Value} {w : World} (h : NatT G w g low many M (rwE sp sq U [E, Ent.blk1 gp 24 [c0, c1]])) : w.cell? ⟨gp, 0, none⟩ = some c0 ∧ w.cell? ⟨gp, 1, none⟩ = some c1 := by
  obtain ⟨h1, mp, mq, e1, k1, e2, k2, m1, m2, hs⟩ := h
  exact ⟨(Sep.blkAt (A := [_, _, _, _, _, _]) hs (j := 0) rfl).1, (Sep.blkAt (A := [_, _, _, _, _, _]) hs (j := 1) rfl).1⟩
theorem natX_new {G g : Nat} {low many : Int} {M U : NatM} {E : Ent} {sp sq : Value} {w : World} (h : NatT G w g low many M (rwE sp sq U [E])) (hG : G ≤ w.heap.size) (cs : Array Value) (t : TypeId) : NatT G (w.alloc (.cells cs t)) g low many M (rwE sp sq U [E, Ent.blk1 w.heap.size t cs.toList]) := by
  obtain ⟨h1, mp, mq, e1, k1, e2, k2, m1, m2, hs⟩ := h
  have h2 := hs.blkNew hG cs t
  refine ⟨h1, mp, mq, e1, k1, e2, k2, m1, m2, h2.perm ?_⟩
  exact (List.perm_append_comm (l₁ := [_]) (l₂ := tabE g mp mq low many e1 k1 e2 k2 ++ rwE sp sq U [E])).trans (by rw [List.append_assoc]; exact List.Perm.refl _)
theorem NatT.drew {G g : Nat} {low many : Int} {M : NatM} {F : List Ent} {w : World} (h : NatT G w g low many M F) : NatT G w.drew g low many M F := h.kept (below_drew _ _)
end Go.Proofs.YtnmddgjgmdegoaaDoor
