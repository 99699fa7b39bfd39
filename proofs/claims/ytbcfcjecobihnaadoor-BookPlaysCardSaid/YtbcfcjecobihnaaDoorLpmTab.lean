/- lpm's table as it lies in memory: a block for the table, one for each node of the tree. -/
import Derived.Test.YtbcfcjecobihnaaDoorLpmPlain
import Derived.Test.YtbcfcjecobihnaaDoorBase
namespace Go.Proofs.YtbcfcjecobihnaaDoor
open Go.RowKit
set_option linter.unusedVariables false

def LT.ptr : LT → Value
  | .nil => .pointer none
  | .node b _ _ _ => .pointer (some ⟨b, 0, none⟩)
abbrev nodE (b : Nat) (h : Int) (l r : LT) : Ent := Ent.blk1 b 71 [l.ptr, r.ptr, .int .i64 h]
def LT.ents : LT → List Ent
  | .nil => []
  | .node b h l r => nodE b h l r :: (l.ents ++ r.ents)
theorem LT.mem_ents : ∀ (t : LT) (π : List Bool) {b : Nat} {h : Int} {l r : LT}, t.sub π = .node b h l r → nodE b h l r ∈ t.ents
  | t, [], b, h, l, r, e => by obtain rfl : t = _ := e; exact List.mem_cons_self ..
  | .nil, _ :: π, _, _, _, _, e => by unfold LT.sub LT.kid at e; rw [LT.sub_nil] at e; cases e
  | .node n hp x y, false :: π, _, _, _, _, e => List.mem_cons_of_mem _ (List.mem_append.2 (.inl (LT.mem_ents x π e)))
  | .node n hp x y, true :: π, _, _, _, _, e => List.mem_cons_of_mem _ (List.mem_append.2 (.inr (LT.mem_ents y π e)))
theorem LT.ptr_nil {t : LT} (h : t = .nil) : t.ptr = .pointer none := by rw [h]; rfl
/-- A part of the tree, and what lies around it. -/
theorem LT.ents_at : ∀ (t : LT) (π : List Bool), t.sub π ≠ .nil → ∃ A C : List Ent, t.ents = A ++ (t.sub π).ents ++ C ∧ ∀ u : LT, u.ptr = (t.sub π).ptr → (t.repl π u).ents = A ++ u.ents ++ C ∧ (t.repl π u).ptr = t.ptr
  | t, [], _ => ⟨[], [], by simp [LT.sub], fun u hu => ⟨by simp [LT.repl], by rw [show t.repl [] u = u by simp [LT.repl]]; exact hu⟩⟩
  | .nil, _ :: π, hn => absurd (LT.sub_nil π) hn
  | .node n h l r, false :: π, hn => by
    obtain ⟨A, C, h1, h2⟩ := LT.ents_at l π hn
    have hs : (LT.node n h l r).sub (false :: π) = l.sub π := rfl
    refine ⟨nodE n h l r :: A, C ++ r.ents, ?_, fun u hu => ?_⟩
    · rw [hs]; show nodE n h l r :: (l.ents ++ r.ents) = _; rw [h1]; simp
    · obtain ⟨h3, h4⟩ := h2 u hu
      refine ⟨?_, rfl⟩
      show nodE n h (l.repl π u) r :: ((l.repl π u).ents ++ r.ents) = _
      rw [h3]
      simp [nodE, h4]
  | .node n h l r, true :: π, hn => by
    obtain ⟨A, C, h1, h2⟩ := LT.ents_at r π hn
    have hs : (LT.node n h l r).sub (true :: π) = r.sub π := rfl
    refine ⟨nodE n h l r :: (l.ents ++ A), C, ?_, fun u hu => ?_⟩
    · rw [hs]; show nodE n h l r :: (l.ents ++ r.ents) = _; rw [h1]; simp
    · obtain ⟨h3, h4⟩ := h2 u hu
      refine ⟨?_, rfl⟩
      show nodE n h l (r.repl π u) :: (l.ents ++ (r.repl π u).ents) = _
      rw [h3]
      simp [nodE, h4]
/-- The table: its block, and the tree's. -/
def lptE (tb m : Nat) (T : LT) : List Ent := Ent.blk1 tb 73 [T.ptr, .int .i64 m] :: T.ents

section
variable {B tb m : Nat} {w : World} {T : LT} {F : List Ent} {π : List Bool} {b : Nat} {h : Int} {l r : LT}
theorem Sep.member {B : Nat} {w : World} {L : List Ent} {g : Nat} {e : TypeId} {cs : List Value} (hs : Sep B w L) (hm : Ent.blk1 g e cs ∈ L) : (∀ j v, cs[j]? = some v → w.cell? ⟨g, j, none⟩ = some v ∧ w.frozen? ⟨g, j, none⟩ = false) ∧ B ≤ g := by
  obtain ⟨A, C, rfl⟩ := List.append_of_mem hm
  exact ⟨fun j v hv => hs.blkAt hv, hs.blkLt.1⟩
theorem lpt_cells (hs : Sep B w (lptE tb m T ++ F)) : w.cell? ⟨tb, 0, none⟩ = some T.ptr ∧ w.cell? ⟨tb, 1, none⟩ = some (.int .i64 m) ∧ w.frozen? ⟨tb, 1, none⟩ = false ∧ B ≤ tb := by
  have h := hs.member (g := tb) (List.mem_append.2 (.inl (List.mem_cons_self ..)))
  exact ⟨(h.1 0 _ rfl).1, (h.1 1 _ rfl).1, (h.1 1 _ rfl).2, h.2⟩
theorem nod_cells (hs : Sep B w (lptE tb m T ++ F)) (hk : T.sub π = .node b h l r) : (w.cell? ⟨b, 0, none⟩ = some l.ptr ∧ w.cell? ⟨b, 1, none⟩ = some r.ptr ∧ w.cell? ⟨b, 2, none⟩ = some (.int .i64 h)) ∧ (∀ j, j < 3 → w.frozen? ⟨b, j, none⟩ = false) ∧ B ≤ b := by
  have hh := hs.member (List.mem_append.2 (.inl (List.mem_cons_of_mem _ (LT.mem_ents T π hk))))
  refine ⟨⟨(hh.1 0 _ rfl).1, (hh.1 1 _ rfl).1, (hh.1 2 _ rfl).1⟩, fun j hj => ?_, hh.2⟩
  match j, hj with
  | 0, _ => exact (hh.1 0 _ rfl).2
  | 1, _ => exact (hh.1 1 _ rfl).2
  | 2, _ => exact (hh.1 2 _ rfl).2
end
end Go.Proofs.YtbcfcjecobihnaaDoor
