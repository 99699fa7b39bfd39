/- Of the laws that the given statement is lifted from; each holds for every input that it names: Owned memory told as a list of things ('Sep'), apart from each other; slices of integers that are read ('IntSl'); laws of append, make, load and store over them. No program is named here. · book.sum: the sum of a line. · ferryhytheref4.Digits, Sum. · A strings.Builder in a field (the second part of a book): written on, read, written on again. · Plain: prefixes as paths of bits; a tree of bits, its routes in order. · lpm's table as it lies in memory: a block for the table, one for each node of the tree. · lpm.bit. -/
import Derived.WalkKit
import Derived.WalkSpells
import Derived.WalkLawsBesides
import Derived.Deep.QuietTactic
import Derived.BigQuiet
import Derived.Lib.Hide
import Derived.WalkSmall
import Derived.Test.YtbcfcjecobihnaaGreatDoorRows
import Derived.Lib.AppendStr
import Derived.Lib.UnsafeStr
import Derived.Lib.ConvBytes
import Derived.Lib.ItoaLen
import Derived.Deep.DeepCutAuto
import Derived.Lib.FrozenHead
import Derived.Lib.FrozenHead2
import Derived.Lib.Builder
import Derived.Shelf.Strings.BuilderF
import Derived.Laws.BitsLemmas

section
/-
  Owned memory told as a list of things ('Sep'), apart from each other; slices of integers that are read ('IntSl'); laws of append, make, load and store over them. No program is named here.
-/
namespace Go.Proofs.YtbcfcjecobihnaaGreatDoor
open Go.RowKit

/-- A thing that is owned: its block (none: a nil slice), and what must hold of what lies there. -/
structure Ent where
  blk : Option Nat
  ok : Option Obj → Prop

def Ent.look (E : Ent) (w : World) : Option Obj := E.blk.bind fun g => w.heap[g]?

/-- All things of the list are there, from block B on, no two in one block. -/
def Sep (B : Nat) (w : World) (L : List Ent) : Prop :=
  (∀ E ∈ L, E.ok (E.look w) ∧ ∀ g, E.blk = some g → B ≤ g ∧ g < w.heap.size) ∧ L.Pairwise fun E F => ∀ g, E.blk = some g → F.blk ≠ some g

theorem Sep.nil (B : Nat) (w : World) : Sep B w [] := ⟨by simp, List.Pairwise.nil⟩

theorem Sep.perm {B : Nat} {w : World} {L L' : List Ent} (h : Sep B w L) (hp : L.Perm L') : Sep B w L' :=
  ⟨fun E hE => h.1 E (hp.mem_iff.2 hE), (hp.pairwise_iff (fun {_ _} hs g hg hb => hs g hb hg)).1 h.2⟩

theorem Sep.sub {B : Nat} {w : World} {L L' : List Ent} (h : Sep B w L) (hs : L'.Sublist L) : Sep B w L' :=
  ⟨fun E hE => h.1 E (hs.mem hE), h.2.sublist hs⟩

theorem Sep.mono {B B' : Nat} {w : World} {L : List Ent} (h : Sep B w L) (hB : B' ≤ B) : Sep B' w L :=
  ⟨fun E hE => ⟨(h.1 E hE).1, fun g hg => ⟨Nat.le_trans hB ((h.1 E hE).2 g hg).1, ((h.1 E hE).2 g hg).2⟩⟩, h.2⟩

theorem Ent.look_congr {E : Ent} {w w' : World} (h : ∀ g, E.blk = some g → w'.heap[g]? = w.heap[g]?) : E.look w' = E.look w := by
  unfold Ent.look
  cases hb : E.blk with
  | none => rfl
  | some g => simpa using h g hb

/-- The list stays as long as the blocks that were there stay. -/
theorem Sep.kept {B : Nat} {w w' : World} {L : List Ent} (h : Sep B w L) (hk : Below w.heap.size w w') : Sep B w' L :=
  ⟨fun E hE => ⟨by rw [Ent.look_congr fun g hg => hk.block g ((h.1 E hE).2 g hg).2]; exact (h.1 E hE).1,
    fun g hg => ⟨((h.1 E hE).2 g hg).1, Nat.lt_of_lt_of_le ((h.1 E hE).2 g hg).2 hk.size⟩⟩, h.2⟩

theorem below_alloc (w : World) (o : Obj) : Below w.heap.size w (w.alloc o) := (Below.refl _ w).alloc (Nat.le_refl _) o
theorem below_drewN (B : Nat) (w : World) (n : Nat) : Below B w (w.drewN n) := ⟨rfl, rfl, rfl, Nat.le_refl _, fun _ _ => rfl⟩
theorem below_drew (B : Nat) (w : World) : Below B w w.drew := ⟨rfl, rfl, rfl, Nat.le_refl _, fun _ _ => rfl⟩
theorem Sep.alloc {B : Nat} {w : World} {L : List Ent} (h : Sep B w L) (o : Obj) : Sep B (w.alloc o) L := h.kept (below_alloc w o)
theorem Sep.drewN {B : Nat} {w : World} {L : List Ent} (h : Sep B w L) (n : Nat) : Sep B (w.drewN n) L := h.kept (below_drewN _ w n)
theorem Sep.drew {B : Nat} {w : World} {L : List Ent} (h : Sep B w L) : Sep B w.drew L := h.kept (below_drew _ w)

/-- THE MASTER LAW: one thing turns, all others stay. -/
theorem Sep.upd {B : Nat} {w w' : World} {A C : List Ent} {E E' : Ent} (h : Sep B w (A ++ E :: C)) (hsz : w.heap.size ≤ w'.heap.size)
    (hk : ∀ k, k < w.heap.size → some k ≠ E.blk → w'.heap[k]? = w.heap[k]?) (hok : E'.ok (E'.look w'))
    (hb : ∀ g, E'.blk = some g → B ≤ g ∧ g < w'.heap.size ∧ (E.blk = some g ∨ w.heap.size ≤ g)) : Sep B w' (A ++ E' :: C) := by
  obtain ⟨h1, h2⟩ := h
  rw [List.pairwise_append, List.pairwise_cons] at h2
  obtain ⟨pA, ⟨pE, pC⟩, pAE⟩ := h2
  have hA : ∀ F ∈ A, ∀ g, F.blk = some g → E.blk ≠ some g := fun F hF g hg => pAE F hF E (by simp) g hg
  have hC : ∀ F ∈ C, ∀ g, F.blk = some g → E.blk ≠ some g := fun F hF g hg he => pE F hF g he hg
  have stays : ∀ F, F ∈ A ++ E :: C → (∀ g, F.blk = some g → E.blk ≠ some g) → F.ok (F.look w') ∧ ∀ g, F.blk = some g → B ≤ g ∧ g < w'.heap.size := by
    intro F hF hne
    have hf := h1 F hF
    refine ⟨?_, fun g hg => ⟨(hf.2 g hg).1, Nat.lt_of_lt_of_le (hf.2 g hg).2 hsz⟩⟩
    rw [Ent.look_congr fun g hg => hk g (hf.2 g hg).2 (fun e => hne g hg e.symm)]
    exact hf.1
  refine ⟨fun F hF => ?_, ?_⟩
  · rcases List.mem_append.1 hF with hF | hF
    · exact stays F (List.mem_append.2 (.inl hF)) (hA F hF)
    · rcases List.mem_cons.1 hF with rfl | hF
      · exact ⟨hok, fun g hg => ⟨(hb g hg).1, (hb g hg).2.1⟩⟩
      · exact stays F (List.mem_append.2 (.inr (List.mem_cons_of_mem _ hF))) (hC F hF)
  · have apart : ∀ F, F ∈ A ++ E :: C → (∀ g, F.blk = some g → E.blk ≠ some g) → ∀ g, F.blk = some g → E'.blk ≠ some g := by
      intro F hF hne g hg he
      rcases (hb g he).2.2 with h | h
      · exact hne g hg h
      · have := ((h1 F hF).2 g hg).2; omega
    rw [List.pairwise_append, List.pairwise_cons]
    refine ⟨pA, ⟨fun F hF g hg he => apart F (by simp [hF]) (hC F hF) g he hg, pC⟩, fun F hF G hG g hg => ?_⟩
    rcases List.mem_cons.1 hG with rfl | hG
    · exact apart F (by simp [hF]) (hA F hF) g hg
    · exact pAE F hF G (List.mem_cons_of_mem _ hG) g hg

/-- A new thing, behind a step that keeps what was there. -/
theorem Sep.push {B : Nat} {w w' : World} {L : List Ent} {E : Ent} (h : Sep B w L) (hBw : B ≤ w.heap.size) (hk : Below w.heap.size w w') (hok : E.ok (E.look w'))
    (hb : ∀ g, E.blk = some g → w.heap.size ≤ g ∧ g < w'.heap.size) : Sep B w' (E :: L) := by
  have h' := h.kept hk
  refine ⟨fun F hF => ?_, List.pairwise_cons.2 ⟨fun F hF g hg he => ?_, h'.2⟩⟩
  · rcases List.mem_cons.1 hF with rfl | hF
    · exact ⟨hok, fun g hg => ⟨Nat.le_trans hBw (hb g hg).1, (hb g hg).2⟩⟩
    · exact h'.1 F hF
  · have h1 := ((h.1 F hF).2 g he).2
    have h2 := (hb g hg).1
    omega

/-- What a callee made, beside what one had. -/
theorem Sep.join {B : Nat} {w w' : World} {L F : List Ent} (h : Sep B w F) (hBw : B ≤ w.heap.size) (hk : Below w.heap.size w w') (hL : Sep w.heap.size w' L) : Sep B w' (L ++ F) := by
  have h' := h.kept hk
  refine ⟨fun E hE => ?_, List.pairwise_append.2 ⟨hL.2, h'.2, fun E hE G hG g hg he => ?_⟩⟩
  · rcases List.mem_append.1 hE with hE | hE
    · exact ⟨(hL.1 E hE).1, fun g hg => ⟨Nat.le_trans hBw ((hL.1 E hE).2 g hg).1, ((hL.1 E hE).2 g hg).2⟩⟩
    · exact h'.1 E hE
  · have h1 := ((h.1 G hG).2 g he).2
    have h2 := ((hL.1 E hE).2 g hg).1
    omega

theorem Sep.mem {B : Nat} {w : World} {A C : List Ent} {E : Ent} (h : Sep B w (A ++ E :: C)) : E.ok (E.look w) ∧ ∀ g, E.blk = some g → B ≤ g ∧ g < w.heap.size := h.1 E (by simp)

/-- Two things lie in two blocks. -/
theorem Sep.apart {B : Nat} {w : World} {A C D : List Ent} {E E' : Ent} {g g' : Nat} (h : Sep B w (A ++ E :: (C ++ E' :: D))) (hg : E.blk = some g) (hg' : E'.blk = some g') : ¬ g = g' := by
  intro e
  subst e
  have h2 := h.2
  rw [List.pairwise_append, List.pairwise_cons] at h2
  exact h2.2.1.1 E' (by simp) g hg hg'

/-! ### A slice over a row of the call's own -/

/-- The slice v of n elements (of type e, 'size' cells each) owns its whole row; its cells are xs. -/
def Ent.row (v : Value) (n size : Nat) (e : TypeId) (xs : List Value) : Ent where
  blk := v.ownBlock
  ok := fun o => xs.length = n * size ∧ ((v = .slice none 0 0 ∧ n = 0) ∨
    ∃ g off cap cur, v = .slice (some ⟨g, off, none⟩) n cap ∧ o = some (.cells cur e (0, 0)) ∧ n ≤ cap ∧ cap ≤ maxLen ∧ cur.size = off + cap * size ∧ (cur.toList.drop off).take (n * size) = xs)

theorem Sep.rowNil {B : Nat} {w : World} {L : List Ent} (h : Sep B w L) (size : Nat) (e : TypeId) : Sep B w (Ent.row (.slice none 0 0) 0 size e [] :: L) := by
  refine ⟨fun F hF => ?_, List.pairwise_cons.2 ⟨fun F _ g hg => by simp [Ent.row, Value.ownBlock] at hg, h.2⟩⟩
  rcases List.mem_cons.1 hF with rfl | hF
  · exact ⟨⟨by simp, .inl ⟨rfl, rfl⟩⟩, fun g hg => by simp [Ent.row, Value.ownBlock] at hg⟩
  · exact h.1 F hF

section
variable {B : Nat} {w : World} {A C : List Ent} {v : Value} {n size : Nat} {e : TypeId} {xs : List Value}

theorem Sep.rowShape (h : Sep B w (A ++ Ent.row v n size e xs :: C)) : xs.length = n * size ∧ ∃ ao cap, v = .slice ao n cap ∧ n ≤ cap ∧ (ao = none → n = 0 ∧ cap = 0) := by
  have hm := h.mem.1
  refine ⟨hm.1, ?_⟩
  rcases hm.2 with ⟨rfl, rfl⟩ | ⟨g, off, cap, cur, rfl, _, hnc, _⟩
  · exact ⟨none, 0, rfl, Nat.le_refl _, by simp⟩
  · exact ⟨_, cap, rfl, hnc, by simp⟩

/-- Where there is an element: the address, the cells, none frozen. -/
theorem Sep.rowAt {ao : Option Addr} {cap : Nat} (h : Sep B w (A ++ Ent.row (.slice ao n cap) n size e xs :: C)) (hn : 0 < n) :
    ∃ g off, ao = some ⟨g, off, none⟩ ∧ B ≤ g ∧ (∀ j, j < n * size → w.cell? ⟨g, off + j, none⟩ = xs[j]?) ∧ (∀ j, w.frozen? ⟨g, j, none⟩ = false) := by
  have hm := h.mem
  rcases hm.1.2 with ⟨_, rfl⟩ | ⟨g, off, cap', cur, hv, ho, hnc, hcm, hcs, ht⟩
  · omega
  · simp only [Value.slice.injEq] at hv
    obtain ⟨rfl, _, rfl⟩ := hv
    refine ⟨g, off, rfl, (hm.2 g rfl).1, fun j hj => ?_, fun j => ?_⟩
    · have hh : w.heap[g]? = some (.cells cur e (0, 0)) := ho
      rw [cell_of_row w g (off + j) cur e (0, 0) hh, ← ht, List.getElem?_take, if_pos hj, List.getElem?_drop]
      simp
    · have hh : w.heap[g]? = some (.cells cur e (0, 0)) := ho
      exact frozen_of_row w g j cur e hh

/-- A store into the row. -/
theorem Sep.rowSet {g off cap : Nat} (h : Sep B w (A ++ Ent.row (.slice (some ⟨g, off, none⟩) n cap) n size e xs :: C)) (j : Nat) (u : Value) :
    Sep B (w.setCell ⟨g, off + j, none⟩ u) (A ++ Ent.row (.slice (some ⟨g, off, none⟩) n cap) n size e (xs.set j u) :: C) := by
  have hm := h.mem
  refine h.upd (by simp [World.setCell]) (fun k _ hk => heap_setCell_other w ⟨g, off + j, none⟩ k u (fun e => hk (by simp [Ent.row, Value.ownBlock, e]))) ?_ ?_
  · rcases hm.1.2 with ⟨h', _⟩ | ⟨g', off', cap', cur, hv, ho, hnc, hcm, hcs, ht⟩
    · simp at h'
    · simp only [Value.slice.injEq, Option.some.injEq, Addr.mk.injEq, and_true, true_and] at hv
      obtain ⟨⟨rfl, rfl⟩, rfl⟩ := hv
      have hh : w.heap[g]? = some (.cells cur e (0, 0)) := ho
      refine ⟨by simpa using hm.1.1, .inr ⟨g, off, cap, cur.setIfInBounds (off + j) u, rfl, ?_, hnc, hcm, by simpa using hcs, ?_⟩⟩
      · exact heap_setCell_same w g (off + j) cur e u hh
      · rw [Array.toList_setIfInBounds, ← ht, ← List.take_set, List.drop_set, if_neg (by omega)]
        congr 2
        omega
  · intro g' hg'
    have := hm.2 g' hg'
    exact ⟨this.1, by simpa [World.setCell] using this.2, .inl hg'⟩
end

/-- make: a new row, whole. -/
theorem Sep.rowMade {B : Nat} {w : World} {L : List Ent} (h : Sep B w L) (hBw : B ≤ w.heap.size) (cs : Array Value) (n size : Nat) (e : TypeId) (hs : cs.size = n * size) (hm : n ≤ maxLen) :
    Sep B (w.alloc (.cells cs e)) (Ent.row (.slice (some ⟨w.heap.size, 0, none⟩) n n) n size e cs.toList :: L) := by
  refine h.push hBw (below_alloc w _) ⟨by simpa using hs, .inr ⟨w.heap.size, 0, n, cs, rfl, ?_, Nat.le_refl _, hm, by simpa using hs, ?_⟩⟩ ?_
  · exact heap_alloc_new w _
  · rw [List.drop_zero, List.take_of_length_le (by rw [Array.length_toList, hs]; exact Nat.le_refl _)]
  · intro g hg
    simp [Ent.row, Value.ownBlock] at hg
    subst hg
    simp

/-! ### A block known whole; bytes -/

/-- A block of the call's own, known whole. -/
def Ent.blk1 (g : Nat) (e : TypeId) (cs : List Value) : Ent := ⟨some g, fun o => o = some (.cells cs.toArray e (0, 0))⟩
/-- A block that begins with these bytes; it is only read. -/
def Ent.u8s (g : Nat) (bs : List UInt8) : Ent := ⟨some g, fun o => ∃ cur e fr, o = some (.cells cur e fr) ∧ ∀ (j : Nat) (c : UInt8), bs[j]? = some c → cur[j]? = some (.int .u8 (c.toNat : Int))⟩

section
variable {B : Nat} {w : World} {A C F : List Ent} {g : Nat} {e : TypeId} {cs : List Value} {bs : List UInt8}
theorem Sep.blkNew (h : Sep B w F) (hBw : B ≤ w.heap.size) (cs : Array Value) (e : TypeId) : Sep B (w.alloc (.cells cs e)) (Ent.blk1 w.heap.size e cs.toList :: F) :=
  h.push hBw (below_alloc w _) (by show (w.alloc _).heap[w.heap.size]? = _; rw [heap_alloc_new]) (fun g hg => by simp [Ent.blk1] at hg; subst hg; simp)
theorem Sep.blkHeap (h : Sep B w (A ++ Ent.blk1 g e cs :: C)) : w.heap[g]? = some (.cells cs.toArray e (0, 0)) := h.mem.1
theorem Sep.blkLt (h : Sep B w (A ++ Ent.blk1 g e cs :: C)) : B ≤ g ∧ g < w.heap.size := h.mem.2 g rfl
theorem Sep.blkAt (h : Sep B w (A ++ Ent.blk1 g e cs :: C)) {j : Nat} {v : Value} (hv : cs[j]? = some v) : w.cell? ⟨g, j, none⟩ = some v ∧ w.frozen? ⟨g, j, none⟩ = false :=
  ⟨by rw [cell_of_row w g j _ e (0, 0) h.blkHeap]; simpa using hv, frozen_of_row w g j _ e h.blkHeap⟩
theorem Sep.blkSet (h : Sep B w (A ++ Ent.blk1 g e cs :: C)) (j : Nat) (u : Value) : Sep B (w.setCell ⟨g, j, none⟩ u) (A ++ Ent.blk1 g e (cs.set j u) :: C) := by
  refine h.upd (by simp [World.setCell]) (fun k _ hk => heap_setCell_other w ⟨g, j, none⟩ k u (fun e => hk (by simp [Ent.blk1, e]))) ?_ ?_
  · show (w.setCell _ _).heap[g]? = _
    rw [heap_setCell_same w g j _ e u h.blkHeap]
    simp
  · intro g' hg'
    have := h.mem.2 g' hg'
    exact ⟨this.1, by simpa [World.setCell] using this.2, .inl hg'⟩
theorem Sep.u8At (h : Sep B w (A ++ Ent.u8s g bs :: C)) {j : Nat} {c : UInt8} (hv : bs[j]? = some c) : w.cell? ⟨g, j, none⟩ = some (.int .u8 (c.toNat : Int)) := by
  obtain ⟨cur, e, fr, ho, hc⟩ := h.mem.1
  rw [cell_of_row w g j cur e fr ho]
  exact hc j c hv

/-- '[]byte(s)'. -/
theorem wpList_bytes {P : Program} {L : List Ent} {ops : Array Oper} {rest : List Oper} {o : Oper} {a : Act} {Q : Exit → Act → World → Prop} {src dst e : TypeId} (hw : Region.wanted o (yielded ops a.tmps) = true) (x : Operand)
    (ho : o.op = .convert src dst x) (s : ByteArray) (hx : a.eval x = .string s) (hs : P.underlying src = some .string) (hd : P.underlying dst = some (.slice e)) (he : P.underlying e = some (.int .u8))
    (hsep : Sep B w L) (hBw : B ≤ w.heap.size)
    (h : ∀ w' cap, Sep B w' (Ent.u8s w.heap.size s.data.toList :: L) → Below w.heap.size w w' → w'.heap.size = w.heap.size + 1 → s.size ≤ cap → wpList P ops Q rest (a.put o.dst (.slice (some ⟨w.heap.size, 0, none⟩) s.size cap)) w') : wpList P ops Q (o :: rest) a w := by
  refine wpList_step fun K hK => ?_
  rw [if_pos hw]
  have hr := run_bytes_of_string (P := P) w src dst e s hs hd he
  have hb : Below w.heap.size w (w.drew.alloc (.cells (bytesRow s (grownCap w s.size 0 e)) e ((bytesRow s (grownCap w s.size 0 e)).size, (bytesRow s (grownCap w s.size 0 e)).size + 1))) := ((Below.refl w.heap.size w).drew).alloc (Nat.le_refl _) _
  unfold Oper.wp
  simp only [execOp, ho, hx, hr, Sem.run_bind, Sem.run_pure, Result.andThen]
  refine hK _ _ (h _ _ (hsep.push hBw hb ⟨_, _, _, heap_alloc_new w.drew _, ?_⟩ ?_) hb (by simp) (grownCap_ge w s.size 0 e))
  · intro j c hj
    unfold bytesRow
    have hjl : j < s.data.toList.length := (List.getElem?_eq_some_iff.1 hj).1
    rw [Array.getElem?_append_left (by simpa using hjl), Array.getElem?_map, ← Array.getElem?_toList, hj]
    rfl
  · intro g hg
    simp [Ent.u8s] at hg
    subst hg
    simp
end

/-- 'string(b)', b's bytes known. -/
theorem run_string_of_bytes {P : Program} {w : World} {src dst e : TypeId} {b off len : Nat} (cap : Nat) {bs : List UInt8} (hs : P.underlying src = some (.slice e)) (he : P.underlying e = some (.int .u8)) (hd : P.underlying dst = some .string)
    (hl : bs.length = len) (h : ∀ (j : Nat) (c : UInt8), bs[j]? = some c → w.cell? ⟨b, off + j, none⟩ = some (.int .u8 (c.toNat : Int))) :
    (convert src dst (.slice (some ⟨b, off, none⟩) len cap)).run P w = .ok (.string ⟨bs.toArray⟩) w := by
  subst hl
  rw [run_convert_bytes_string w src dst e _ _ _ hs he hd]
  have hload : (loadCells ⟨b, off, none⟩ bs.length).run P w = .ok ((bs.map fun c => (c.toNat : Int)).map (Value.int .u8)).toArray w := by
    have := run_loadCells_list (P := P) w ⟨b, off, none⟩ ((bs.map fun c => (c.toNat : Int)).map (Value.int .u8)) (fun j v hv => by
      have hadd : (⟨b, off, none⟩ : Addr).add j = ⟨b, off + j, none⟩ := by unfold Addr.add; split <;> simp_all
      rw [hadd]
      simp only [List.getElem?_map] at hv
      cases hc : bs[j]? with
      | none => simp [hc] at hv
      | some c => simp [hc] at hv; subst hv; exact h j c hc)
    simpa using this
  rw [run_bytesToString w _ _ _ _ hload]
  congr 2
  have fold : ∀ (l : List UInt8) (a : ByteArray), (l.map fun c => (c.toNat : Int)).foldl (fun r n => r.push (UInt8.ofNat n.toNat)) a = ⟨a.data ++ l.toArray⟩ := by
    intro l
    induction l with
    | nil => intro a; simp
    | cons c l ih =>
      intro a
      simp only [List.map_cons, List.foldl_cons, ih]
      congr 1
      show (a.data.push (UInt8.ofNat (c.toNat : Int).toNat)) ++ l.toArray = _
      simp
  rw [fold]
  have he : ByteArray.empty.data = #[] := rfl
  rw [he, Array.empty_append]

/-! ### append -/

/-- What the walk asks of an element type. -/
structure ElemTy (P : Program) (t e : TypeId) (size bytes : Nat) (z : Value) : Prop where
  under : P.underlying t = some (.slice e)
  info : ∃ i, P.info? e = some i ∧ i.zero = some z ∧ i.size = size ∧ i.bytes = bytes
  zs : z.cells.size = size
  pos : 0 < size

section
variable {P : Program} {B : Nat} {w : World} {A C : List Ent} {v : Value} {n size bytes : Nat} {t e : TypeId} {z : Value} {xs : List Value}

/-- An operation that is carried out (its guard, if it has one, says yes). -/
theorem wpList_wanted {P : Program} {ops : Array Oper} {Q : Exit → Act → World → Prop} {a : Act} {w : World} {rest : List Oper} {o : Oper} (hw : Region.wanted o (yielded ops a.tmps) = true)
    (h : ∀ K : Act → World → Prop, (∀ a w, wpList P ops Q rest a w → K a w) → o.wp P a w K Q) : wpList P ops Q (o :: rest) a w :=
  wpList_step fun K hK => by rw [if_pos hw]; exact h K hK

theorem run_append_sep (T : ElemTy P t e size bytes z) (ty : TypeId) (h : Sep B w (A ++ Ent.row v n size e xs :: C)) (hBw : B ≤ w.heap.size)
    (a : Addr) (m c : Nat) (news : List Value) (hl : news.length = m * size) (hnews : ∀ j u, news[j]? = some u → w.cell? (a.add j) = some u) (h1 : ∀ u ∈ news, u.oneCell' = true) (hm0 : 0 < m)
    (hbytes : (n + m) * bytes ≤ 140737488355328) (h63 : n + m ≤ maxLen) :
    ∃ v' w', (Builtin.append_ #[t, t] ty #[v, .slice (some a) m c]).run P w = .ok v' w' ∧ Sep B w' (A ++ Ent.row v' (n + m) size e (xs ++ news) :: C) ∧ Below B w w' := by
  obtain ⟨ht, ⟨i, hi, hz, rfl, rfl⟩, hzs, hsz⟩ := T
  have hm := h.mem
  have hsmall : n + m ≤ 9223372036854775807 := by simp only [maxLen] at h63; omega
  have hlen : (xs ++ news).length = (n + m) * i.size := by rw [List.length_append, hm.1.1, hl, Nat.add_mul]
  have grown : ∀ (old : Nat), old < n + m →
      Sep B (w.drew.alloc (.cells (xs.toArray ++ news.toArray ++ Builtin.zeroCells z.cells (grownCap w (n + m) old e - (n + m))) e))
        (A ++ Ent.row (.slice (some ⟨w.heap.size, 0, none⟩) (n + m) (grownCap w (n + m) old e)) (n + m) i.size e (xs ++ news) :: C) := by
    intro old ho
    have hge := grownCap_ge w (n + m) old e
    have hcm : grownCap w (n + m) old e ≤ maxLen := grownCap_le_maxLen w (n + m) old e h63
    refine h.upd (by simp) (fun k hk _ => Below.heap_alloc w.drew _ k hk) ⟨hlen, .inr ⟨w.heap.size, 0, _, _, rfl, heap_alloc_new w.drew _, hge, hcm, ?_, ?_⟩⟩ ?_
    · simp only [Array.size_append, List.size_toArray, size_zeroCells, hzs, hm.1.1, hl, ← Nat.add_mul]
      rw [Nat.zero_add]
      congr 1
      omega
    · simp only [Array.toList_append, List.append_assoc, List.drop_zero]
      rw [← List.append_assoc, ← hlen]
      exact List.take_left
    · intro g hg
      simp [Ent.row, Value.ownBlock] at hg
      subst hg
      exact ⟨hBw, by simp, .inr (Nat.le_refl _)⟩
  have grownB : ∀ o : Obj, Below B w (w.drew.alloc o) := fun o => ((Below.refl B w).drew).alloc hBw o
  rcases hm.1.2 with ⟨rfl, rfl⟩ | ⟨g, off, cap, cur, rfl, hg, hnc, hcm, hcs, htake⟩
  · have hx : xs = [] := List.eq_nil_of_length_eq_zero (by simpa using hm.1.1)
    subst hx
    have hr := run_append_nil (P := P) w t ty e i z ht hi hz a m c news hl hnews hm0 (by omega) (by have hb := hbytes; simp only [Nat.zero_add] at hb; omega)
    have hgr := grown 0 (by omega)
    simp only [Nat.zero_add, List.nil_append, Array.empty_append] at hgr ⊢
    exact ⟨_, _, hr, hgr, grownB _⟩
  · have hg' : w.heap[g]? = some (.cells cur e (0, 0)) := hg
    have hBg := (hm.2 g rfl).1
    have hgs := (hm.2 g rfl).2
    by_cases hroom : n + m ≤ cap
    · have hfit : off + n * i.size + news.length ≤ cur.size := by
        have := Nat.mul_le_mul_right i.size hroom
        rw [Nat.add_mul] at this; rw [hl, hcs]; omega
      have hf := run_firstCells_some (P := P) w i.size m a m c news hl hnews
      have hst := run_storeCells_at P g (off + n * i.size) e news 0 cur w hg' (by simpa using hfit) h1
      simp only [Nat.add_zero] at hst
      have hadd : (⟨g, off, none⟩ : Addr).add (n * i.size) = ⟨g, off + n * i.size, none⟩ := by unfold Addr.add; split <;> simp_all
      have hr : (Builtin.append_ #[t, t] ty #[.slice (some ⟨g, off, none⟩) n cap, .slice (some a) m c]).run P w =
          .ok (.slice (some ⟨g, off, none⟩) (n + m) cap) (w.setRow g (cur.toList.take (off + n * i.size) ++ news ++ cur.toList.drop (off + n * i.size + news.length)).toArray) := by
        simp [Builtin.append_, run_underlying ht, sizeOf, typeInfo, hi, Builtin.lenOf, hroom, hf, hadd, hst]
      refine ⟨_, _, hr, h.upd (by simp) (fun k _ hk => setRow_other w g k _ (fun e => hk (by simp [Ent.row, Value.ownBlock, e]))) ⟨hlen, .inr ⟨g, off, cap, _, rfl, setRow_heap w g cur _ e _ hg', hroom, hcm, ?_, ?_⟩⟩ ?_, ?_⟩
      · simp only [List.size_toArray, List.length_append, List.length_take, List.length_drop, Array.length_toList]
        omega
      · have hto : cur.toList.take (off + n * i.size) = cur.toList.take off ++ xs := by rw [List.take_add, htake]
        have hoff : (cur.toList.take off).length = off := by rw [List.length_take, Array.length_toList]; omega
        simp only [hto, List.append_assoc]
        rw [List.drop_append_of_le_length (by omega), List.drop_of_length_le (by omega), List.nil_append, ← List.append_assoc, ← hlen]
        exact List.take_left
      · intro g' hg''
        simp [Ent.row, Value.ownBlock] at hg''
        subst hg''
        exact ⟨hBg, by simpa using hgs, .inl rfl⟩
      · exact ⟨rfl, rfl, rfl, by simp, fun k hk => setRow_other w g k _ (by omega)⟩
    · have holds : ∀ j u, xs[j]? = some u → w.cell? ((⟨g, off, none⟩ : Addr).add j) = some u := by
        intro j u hu
        have hadd : (⟨g, off, none⟩ : Addr).add j = ⟨g, off + j, none⟩ := by unfold Addr.add; split <;> simp_all
        rw [hadd, cell_of_row w g (off + j) cur e (0, 0) hg']
        rw [← htake, List.getElem?_take, List.getElem?_drop] at hu
        split at hu
        · simpa using hu
        · cases hu
      have hr := run_append_grow (P := P) w t ty e i z ht hi hz ⟨g, off, none⟩ n cap xs hm.1.1 holds a m c news hl hnews (by omega) (by omega) (growslice_fits (by omega) hbytes)
      have hgr := grown cap (by omega)
      exact ⟨_, _, hr, hgr, grownB _⟩

/-- 'out = append(out, ..)', out the call's own. -/
theorem wpList_append_sep {ops : Array Oper} {rest : List Oper} {o : Oper} {a : Act} {Q : Exit → Act → World → Prop} (hgd : Region.wanted o (yielded ops a.tmps) = true) (s x : Operand)
    (ho : o.op = .call { callee := .builtin .append, args := #[s, x], argTypes := #[t, t] }) (T : ElemTy P t e size bytes z)
    (hs : a.eval s = v) (hsep : Sep B w (A ++ Ent.row v n size e xs :: C)) (hBw : B ≤ w.heap.size)
    (ad : Addr) (m c : Nat) (news : List Value) (hx : a.eval x = .slice (some ad) m c) (hl : news.length = m * size) (hnews : ∀ j u, news[j]? = some u → w.cell? (ad.add j) = some u) (h1 : ∀ u ∈ news, u.oneCell' = true) (hm0 : 0 < m)
    (hbytes : (n + m) * bytes ≤ 140737488355328) (h63 : n + m ≤ maxLen)
    (h : ∀ v' w', Sep B w' (A ++ Ent.row v' (n + m) size e (xs ++ news) :: C) → Below B w w' → wpList P ops Q rest (a.put o.dst v') w') : wpList P ops Q (o :: rest) a w := by
  refine wpList_wanted hgd fun K hK => ?_
  obtain ⟨v', w', hr, h2, h3⟩ := run_append_sep T o.type hsep hBw ad m c news hl hnews h1 hm0 hbytes h63
  unfold Oper.wp execOp
  simp only [ho, resolve, invoke, builtin, Sem.run_bind, Sem.run_pure, Result.andThen_ok, List.map_toArray, List.map_cons, List.map_nil, hs, hx, hr]
  exact hK _ _ (h v' w' h2 h3)
end

/-! ### make; rows of structs -/

/-- 'make([]T, n)'. -/
theorem wpList_make_sep {P : Program} {B : Nat} {w : World} {F : List Ent} {t e : TypeId} {size bytes : Nat} {z : Value} {ops : Array Oper} {rest : List Oper} {o : Oper} {a : Act} {Q : Exit → Act → World → Prop}
    (hg : Region.wanted o (yielded ops a.tmps) = true) (l c : Operand) (hop : o.op = Op.makeSlice t l c) (T : ElemTy P t e size bytes z)
    (kl kc : IntKind) (L C : Int) (n : Nat) (hl : a.eval l = .int kl L) (hc : a.eval c = .int kc C) (hL : L = (n : Int)) (hC : C = (n : Int)) (b2 : bytes * n ≤ 281474976710656) (b3 : n ≤ maxLen)
    (hsep : Sep B w F) (hBw : B ≤ w.heap.size)
    (hK : ∀ w', Sep B w' (Ent.row (.slice (some ⟨w.heap.size, 0, none⟩) n n) n size e (madeCells z.cells (n * size)).toList :: F) → Below w.heap.size w w' → w'.heap.size = w.heap.size + 1 → wpList P ops Q rest (a.put o.dst (.slice (some ⟨w.heap.size, 0, none⟩) n n)) w') :
    wpList P ops Q (o :: rest) a w := by
  refine wpList_wanted hg fun K hK' => ?_
  obtain ⟨ht, ⟨i, hi, hz, rfl, rfl⟩, hzs, hsz⟩ := T
  subst hL
  subst hC
  have h63' : (n : Int) ≤ 9223372036854775807 := by simp only [maxLen] at b3; omega
  have hb' : (i.bytes : Int) * (n : Int) ≤ 281474976710656 := by
    have h : ((i.bytes * n : Nat) : Int) ≤ 281474976710656 := by omega
    rwa [Int.natCast_mul] at h
  have hr := run_make (P := P) w t e i z ht hi hz kl kc n n (by omega) (Int.le_refl _) hb' h63'
  simp only [Int.toNat_natCast] at hr
  unfold Oper.wp
  simp [execOp, hop, hl, hc, hr, Result.andThen]
  exact hK' _ _ (hK _ (hsep.rowMade hBw _ n i.size e (size_madeCells _ _) b3) (below_alloc w _) (by simp))

theorem madeCells_flat (z : Array Value) (n : Nat) : (madeCells z (n * z.size)).toList = (List.replicate n z.toList).flatten := by
  induction n with
  | zero => simp [madeCells]
  | succ n ih =>
    rw [List.replicate_succ', List.flatten_concat, ← ih]
    simp only [madeCells, Array.toList_map, Array.toList_range, Nat.add_mul, Nat.one_mul, List.range_add, List.map_append, List.map_map]
    congr 1
    apply List.ext_getElem?
    intro j
    by_cases hj : j < z.size
    · simp [hj, Nat.mod_eq_of_lt hj]
    · simp [hj]

theorem flat_get {α : Type} (f : α → List Value) (c : Nat) (hf : ∀ x, (f x).length = c) {j : Nat} (hj : j < c) : ∀ (xs : List α) (k : Nat) (x : α), xs[k]? = some x → (xs.flatMap f)[k * c + j]? = (f x)[j]?
  | [], k, x, h => by simp at h
  | y :: r, 0, x, h => by
    simp at h; subst h
    simp only [Nat.zero_mul, Nat.zero_add, List.flatMap_cons]
    rw [List.getElem?_append_left (by rw [hf]; exact hj)]
  | y :: r, k + 1, x, h => by
    simp only [List.getElem?_cons_succ] at h
    simp only [List.flatMap_cons]
    rw [List.getElem?_append_right (by rw [hf, Nat.add_mul]; omega), hf, ← flat_get f c hf hj r k x h]
    congr 1
    rw [Nat.add_mul]; omega

theorem flat_set {α : Type} (f : α → List Value) (c : Nat) (hf : ∀ x, (f x).length = c) {j : Nat} (hj : j < c) (u : Value) : ∀ (xs : List α) (k : Nat) (x x' : α), xs[k]? = some x → f x' = (f x).set j u → (xs.flatMap f).set (k * c + j) u = (xs.set k x').flatMap f
  | [], k, x, x', h, _ => by simp at h
  | y :: r, 0, x, x', h, he => by
    simp at h; subst h
    simp only [Nat.zero_mul, Nat.zero_add, List.flatMap_cons, List.set_cons_zero]
    rw [List.set_append_left _ _ (by rw [hf]; exact hj), he]
  | y :: r, k + 1, x, x', h, he => by
    simp only [List.getElem?_cons_succ] at h
    simp only [List.flatMap_cons, List.set_cons_succ]
    rw [List.set_append_right _ _ (by rw [hf, Nat.add_mul]; omega), hf, ← flat_set f c hf hj u r k x x' h he]
    congr 2
    rw [Nat.add_mul]; omega

theorem flat_set2 {α : Type} (f : α → List Value) (c : Nat) (hf : ∀ x, (f x).length = c) {j k : Nat} (hj : j < c) (hk : k < c) (u v : Value) : ∀ (xs : List α) (i : Nat) (x x' : α), xs[i]? = some x → f x' = ((f x).set j u).set k v → ((xs.flatMap f).set (i * c + j) u).set (i * c + k) v = (xs.set i x').flatMap f
  | [], i, x, x', h, _ => by simp at h
  | y :: r, 0, x, x', h, he => by
    simp at h; subst h
    simp only [Nat.zero_mul, Nat.zero_add, List.flatMap_cons, List.set_cons_zero]
    rw [List.set_append_left _ _ (by rw [hf]; exact hj), List.set_append_left _ _ (by rw [List.length_set, hf]; exact hk), he]
  | y :: r, i + 1, x, x', h, he => by
    simp only [List.getElem?_cons_succ] at h
    simp only [List.flatMap_cons, List.set_cons_succ]
    rw [List.set_append_right _ _ (by rw [hf, Nat.add_mul]; omega), List.set_append_right _ _ (by rw [hf, Nat.add_mul]; omega), hf, ← flat_set2 f c hf hj hk u v r i x x' h he]
    congr 2
    · congr 1; rw [Nat.add_mul]; omega
    · rw [Nat.add_mul]; omega

theorem flat_len {α : Type} (f : α → List Value) (c : Nat) (hf : ∀ x, (f x).length = c) (xs : List α) : (xs.flatMap f).length = xs.length * c := by
  induction xs with
  | nil => simp
  | cons y r ih => simp only [List.flatMap_cons, List.length_append, hf, ih, List.length_cons, Nat.add_mul]; omega

/-! ### Integers -/

/-- A row of ints: the slice v owns it, its numbers are xs. -/
def Ent.ints (e : TypeId) (v : Value) (xs : List Int) : Ent := Ent.row v xs.length 1 e (xs.map (Value.int .i64))

/-- 'out = append(out, x)', out a row of ints of the call's own: the element lies in a new block of its own, the last one. -/
theorem wpList_append_int {P : Program} {B : Nat} {w : World} {A C : List Ent} {v : Value} {t e te : TypeId} {xs : List Int} {y : Int} {ops : Array Oper} {rest : List Oper} {o : Oper} {a : Act} {Q : Exit → Act → World → Prop} (hgd : Region.wanted o (yielded ops a.tmps) = true) (s x : Operand)
    (ho : o.op = .call { callee := .builtin .append, args := #[s, x], argTypes := #[t, t] }) (T : ElemTy P t e 1 8 (.int .i64 0))
    (hs : a.eval s = v) (hsep : Sep B w (A ++ Ent.ints e v xs :: C)) (hBw : B ≤ w.heap.size)
    (hx : a.eval x = .slice (some ⟨w.heap.size, 0, none⟩) 1 1) (hlen : xs.length ≤ 1000000000)
    (h : ∀ v' w', Sep B w' (A ++ Ent.ints e v' (xs ++ [y]) :: C) → Below B w w' → wpList P ops Q rest (a.put o.dst v') w') : wpList P ops Q (o :: rest) a (w.alloc (.cells #[.int .i64 y] te)) := by
  refine wpList_append_sep hgd s x ho T hs (hsep.alloc _) (by simp; omega) ⟨w.heap.size, 0, none⟩ 1 1 [.int .i64 y] hx rfl ?_ ?_ (by omega) (by omega) (by unfold maxLen; omega) ?_
  · intro j u hj
    match j, hj with
    | 0, hj => simp at hj; subst hj; simp [Addr.add]
  · intro u hu; simp at hu; subst hu; rfl
  · intro v' w' h1 h2
    refine h v' w' ?_ (((Below.refl B w).alloc hBw _).trans h2)
    simpa [Ent.ints] using h1

theorem Sep.intsNil {B : Nat} {w : World} {L : List Ent} (h : Sep B w L) (e : TypeId) : Sep B w (Ent.ints e (.slice none 0 0) [] :: L) := h.rowNil 1 e

/-- The numbers of a slice that is read: at each place below block B. -/
def IntSl (B : Nat) (w : World) (ao : Option Addr) (xs : List Int) : Prop :=
  ∀ j x, xs[j]? = some x → ∃ b off, ao = some ⟨b, off, none⟩ ∧ b < B ∧ w.cell? ⟨b, off + j, none⟩ = some (.int .i64 x)

theorem IntSl.below {B : Nat} {w w' : World} {ao : Option Addr} {xs : List Int} (h : IntSl B w ao xs) (hk : Below B w w') : IntSl B w' ao xs := by
  intro j x hx
  obtain ⟨b, off, rfl, hb, hc⟩ := h j x hx
  exact ⟨b, off, rfl, hb, (hk.cell (p := ⟨b, off + j, none⟩) hb).trans hc⟩

theorem IntSl.mono {B B' : Nat} {w : World} {ao : Option Addr} {xs : List Int} (h : IntSl B w ao xs) (hB : B ≤ B') : IntSl B' w ao xs := by
  intro j x hx
  obtain ⟨b, off, e, hb, hc⟩ := h j x hx
  exact ⟨b, off, e, Nat.lt_of_lt_of_le hb hB, hc⟩

theorem IntSl.nil (B : Nat) (w : World) (ao : Option Addr) : IntSl B w ao [] := by intro j x hx; simp at hx

theorem Sep.intsShape {B : Nat} {w : World} {A C : List Ent} {e : TypeId} {v : Value} {xs : List Int} (h : Sep B w (A ++ Ent.ints e v xs :: C)) : ∃ ao cap, v = .slice ao xs.length cap ∧ xs.length ≤ cap ∧ (ao = none → xs.length = 0 ∧ cap = 0) := h.rowShape.2

theorem Sep.intsAt {B : Nat} {w : World} {A C : List Ent} {e : TypeId} {ao : Option Addr} {cap : Nat} {xs : List Int} (h : Sep B w (A ++ Ent.ints e (.slice ao xs.length cap) xs :: C)) {j : Nat} {x : Int} (hx : xs[j]? = some x) :
    ∃ g off, ao = some ⟨g, off, none⟩ ∧ w.cell? ⟨g, off + j, none⟩ = some (.int .i64 x) ∧ w.frozen? ⟨g, off + j, none⟩ = false := by
  have hj : j < xs.length := (List.getElem?_eq_some_iff.1 hx).1
  obtain ⟨g, off, rfl, _, hc, hf⟩ := Sep.rowAt h (by omega)
  exact ⟨g, off, rfl, by rw [hc j (by omega)]; simp [hx], hf _⟩

theorem Sep.intSl {B : Nat} {w : World} {A C : List Ent} {e : TypeId} {ao : Option Addr} {cap : Nat} {xs : List Int} (h : Sep B w (A ++ Ent.ints e (.slice ao xs.length cap) xs :: C)) : IntSl w.heap.size w ao xs := by
  intro j x hx
  obtain ⟨g, off, rfl, hc, _⟩ := h.intsAt hx
  exact ⟨g, off, rfl, World.block_lt_of_cell? w _ hc, hc⟩

theorem Sep.intsSet {B : Nat} {w : World} {A C : List Ent} {e : TypeId} {g off cap : Nat} {xs : List Int} (h : Sep B w (A ++ Ent.ints e (.slice (some ⟨g, off, none⟩) xs.length cap) xs :: C)) (j : Nat) (y : Int) :
    Sep B (w.setCell ⟨g, off + j, none⟩ (.int .i64 y)) (A ++ Ent.ints e (.slice (some ⟨g, off, none⟩) xs.length cap) (xs.set j y) :: C) := by
  have := Sep.rowSet h j (.int .i64 y)
  simpa [Ent.ints, List.map_set] using this

/-! ### Slices of slices -/

/-- The address behind 's[k:]': at the very end of the capacity it stays. -/
def cutAddr (ao : Option Addr) (cap k size : Nat) : Option Addr := if cap = k then ao else ao.map (·.add (k * size))

section
variable {P : Program} {w : World} {t e : TypeId} {size bytes : Nat} {z : Value} {ops : Array Oper} {rest : List Oper} {o : Oper} {a : Act} {Q : Exit → Act → World → Prop}

/-- 's[k:]'. -/
theorem wpList_slice_from (hgd : Region.wanted o (yielded ops a.tmps) = true) (x l : Operand) (ho : o.op = .slice t x (some l) none none) (T : ElemTy P t e size bytes z)
    (ao : Option Addr) (len cap : Nat) (hx : a.eval x = .slice ao len cap) (k : Nat) (kl : IntKind) (hl : a.eval l = .int kl (k : Int)) (hk : k ≤ len)
    (h : wpList P ops Q rest (a.put o.dst (.slice (cutAddr ao cap k size) (len - k) (cap - k))) w) : wpList P ops Q (o :: rest) a w := by
  refine wpList_wanted hgd fun K hK => ?_
  obtain ⟨ht, ⟨i, hi, hz, rfl, rfl⟩, hzs, hsz⟩ := T
  have hk' : (0 : Int) ≤ (k : Int) ∧ (k : Int) ≤ (len : Int) := by omega
  have hr : (Instr.sliceAt t (.slice ao len cap) (some (.int kl (k : Int))) none none).run P w = .ok (.slice (cutAddr ao cap k i.size) (len - k) (cap - k)) w := by
    simp [Instr.sliceAt, Instr.slice, run_underlying ht, Instr.sliceBounds, Instr.sliceBound, asIntOf, hk, sizeOf, typeInfo, hi, cutAddr]
  unfold Oper.wp
  simp [execOp, ho, hx, hl, hr, Result.andThen]
  exact hK _ _ h

/-- 's[:k]'. -/
theorem wpList_slice_to (hgd : Region.wanted o (yielded ops a.tmps) = true) (x l : Operand) (ho : o.op = .slice t x none (some l) none) (T : ElemTy P t e size bytes z)
    (ao : Option Addr) (len cap : Nat) (hx : a.eval x = .slice ao len cap) (k : Nat) (kl : IntKind) (hl : a.eval l = .int kl (k : Int)) (hk : k ≤ cap)
    (h : wpList P ops Q rest (a.put o.dst (.slice ao k cap)) w) : wpList P ops Q (o :: rest) a w := by
  refine wpList_wanted hgd fun K hK => ?_
  obtain ⟨ht, ⟨i, hi, hz, rfl, rfl⟩, hzs, hsz⟩ := T
  have hk' : (0 : Int) ≤ (k : Int) ∧ (k : Int) ≤ (cap : Int) := by omega
  have hr : (Instr.sliceAt t (.slice ao len cap) none (some (.int kl (k : Int))) none).run P w = .ok (.slice ao k cap) w := by
    have e0 : (Option.map (fun x : Addr => x.add 0) ao) = ao := by cases ao <;> simp [Addr.add]
    simp [Instr.sliceAt, Instr.slice, run_underlying ht, Instr.sliceBounds, Instr.sliceBound, asIntOf, hk, sizeOf, typeInfo, hi, e0]
  unfold Oper.wp
  simp [execOp, ho, hx, hl, hr, Result.andThen]
  exact hK _ _ h
end

/-- 'arr[l:h]' and 'arr[l:]' of an array behind a pointer, elements of one cell. -/
theorem run_sliceAt_arr {P : Program} (w : World) {t e : TypeId} {n : Nat} (ht : P.underlying t = some (.array n e)) (hi : (P.info? e).map (·.size) = some 1) (b off l h : Nat) (kl kh : IntKind) (h1 : l ≤ h) (h2 : h ≤ n) (h3 : l < n) :
    (Instr.sliceAt t (.pointer (some ⟨b, off, none⟩)) (some (.int kl (l : Int))) (some (.int kh (h : Int))) none).run P w = .ok (.slice (some ⟨b, off + l, none⟩) (h - l) (n - l)) w := by
  cases hq : P.info? e with
  | none => simp [hq] at hi
  | some i =>
    simp [hq] at hi
    have hne : ¬ n = l := by omega
    have ha : (⟨b, off, none⟩ : Addr).add l = ⟨b, off + l, none⟩ := by unfold Addr.add; split <;> simp_all
    simp [Instr.sliceAt, Instr.sureAddr, run_underlying ht, Instr.sliceBounds, Instr.sliceBound, asIntOf, h1, h2, sizeOf, typeInfo, hq, hi, hne, ha]
theorem run_sliceAt_arr_from {P : Program} (w : World) {t e : TypeId} {n : Nat} (ht : P.underlying t = some (.array n e)) (hi : (P.info? e).map (·.size) = some 1) (b off l : Nat) (kl : IntKind) (h3 : l < n) :
    (Instr.sliceAt t (.pointer (some ⟨b, off, none⟩)) (some (.int kl (l : Int))) none none).run P w = .ok (.slice (some ⟨b, off + l, none⟩) (n - l) (n - l)) w := by
  cases hq : P.info? e with
  | none => simp [hq] at hi
  | some i =>
    simp [hq] at hi
    have hne : ¬ n = l := by omega
    have h3' : l ≤ n := by omega
    have ha : (⟨b, off, none⟩ : Addr).add l = ⟨b, off + l, none⟩ := by unfold Addr.add; split <;> simp_all
    simp [Instr.sliceAt, Instr.sureAddr, run_underlying ht, Instr.sliceBounds, Instr.sliceBound, asIntOf, h3', sizeOf, typeInfo, hq, hi, hne, ha]
/-- .. at the array's very end: nothing, at the old address. -/
theorem run_sliceAt_arr_end {P : Program} (w : World) {t e : TypeId} {n : Nat} (ht : P.underlying t = some (.array n e)) (hi : (P.info? e).map (·.size) = some 1) (b off : Nat) (kl kh : IntKind) :
    (Instr.sliceAt t (.pointer (some ⟨b, off, none⟩)) (some (.int kl (n : Int))) (some (.int kh (n : Int))) none).run P w = .ok (.slice (some ⟨b, off, none⟩) 0 0) w := by
  cases hq : P.info? e with
  | none => simp [hq] at hi
  | some i =>
    simp [hq] at hi
    simp [Instr.sliceAt, Instr.sureAddr, run_underlying ht, Instr.sliceBounds, Instr.sliceBound, asIntOf, sizeOf, typeInfo, hq]
theorem run_sliceAt_arr_from_end {P : Program} (w : World) {t e : TypeId} {n : Nat} (ht : P.underlying t = some (.array n e)) (hi : (P.info? e).map (·.size) = some 1) (b off : Nat) (kl : IntKind) :
    (Instr.sliceAt t (.pointer (some ⟨b, off, none⟩)) (some (.int kl (n : Int))) none none).run P w = .ok (.slice (some ⟨b, off, none⟩) 0 0) w := by
  cases hq : P.info? e with
  | none => simp [hq] at hi
  | some i =>
    simp [hq] at hi
    simp [Instr.sliceAt, Instr.sureAddr, run_underlying ht, Instr.sliceBounds, Instr.sliceBound, asIntOf, sizeOf, typeInfo, hq]

theorem IntSl.cut {B : Nat} {w : World} {ao : Option Addr} {xs : List Int} {cap k : Nat} (h : IntSl B w ao xs) (hc : xs.length ≤ cap) : IntSl B w (cutAddr ao cap k 1) (xs.drop k) := by
  intro j x hx
  rw [List.getElem?_drop] at hx
  have hj : k + j < xs.length := (List.getElem?_eq_some_iff.1 hx).1
  obtain ⟨b, off, rfl, hb, hcell⟩ := h _ x hx
  refine ⟨b, off + k, ?_, hb, by rw [show off + k + j = off + (k + j) by omega]; exact hcell⟩
  unfold cutAddr
  rw [if_neg (by omega)]
  by_cases hk : k = 0
  · subst hk; simp [Addr.add]
  · simp [Addr.add, hk]

theorem IntSl.take {B : Nat} {w : World} {ao : Option Addr} {xs : List Int} {k : Nat} (h : IntSl B w ao xs) : IntSl B w ao (xs.take k) := by
  intro j x hx
  rw [List.getElem?_take] at hx
  split at hx
  · exact h j x hx
  · cases hx

/-- The elements of a slice that is read, each of 'size' cells. -/
def RowSl (B : Nat) (w : World) (ao : Option Addr) (size : Nat) (rows : List (List Value)) : Prop :=
  ∀ (j : Nat) (cs : List Value), rows[j]? = some cs → ∃ b off, ao = some ⟨b, off, none⟩ ∧ b < B ∧ ∀ (t : Nat) (v : Value), cs[t]? = some v → w.cell? ⟨b, off + j * size + t, none⟩ = some v
theorem RowSl.below {B : Nat} {w w' : World} {ao : Option Addr} {size : Nat} {rows : List (List Value)} (h : RowSl B w ao size rows) (hk : Below B w w') : RowSl B w' ao size rows := by
  intro j cs hj
  obtain ⟨b, off, rfl, hb, hc⟩ := h j cs hj
  exact ⟨b, off, rfl, hb, fun t v hv => (hk.cell (p := ⟨b, off + j * size + t, none⟩) hb).trans (hc t v hv)⟩

/-- A literal slice: a new block, the last one. -/
theorem intSl_new (w : World) (cs : Array Value) (e : TypeId) (xs : List Int) (h : cs.toList = xs.map (Value.int .i64)) : IntSl (w.heap.size + 1) (w.alloc (.cells cs e)) (some ⟨w.heap.size, 0, none⟩) xs := by
  intro j x hx
  refine ⟨w.heap.size, 0, rfl, by omega, ?_⟩
  rw [cell_of_row _ w.heap.size (0 + j) cs e (0, 0) (heap_alloc_new w _)]
  rw [← Array.getElem?_toList, h, Nat.zero_add]
  simp [hx]

theorem below_of_drew {w w' : World} (h : ∃ n, w' = w.drewN n) : Below w.heap.size w w' := by
  obtain ⟨n, rfl⟩ := h; exact below_drewN _ _ _
/-- What is read stays readable behind a new block. -/
theorem IntSl.past {w : World} {ao : Option Addr} {xs : List Int} {B : Nat} (h : IntSl B w ao xs) (hB : B ≤ w.heap.size) (o : Obj) : IntSl B (w.alloc o) ao xs := h.below ((below_alloc w o).mono hB)
/-- .. and behind a step that keeps all that was there. -/
theorem IntSl.on {w w' : World} {ao : Option Addr} {xs : List Int} {B : Nat} (h : IntSl B w ao xs) (hB : B ≤ w.heap.size) (hk : Below w.heap.size w w') : IntSl B w' ao xs := h.below (hk.mono hB)
/-- A step behind a new block. -/
theorem below_past {w w' : World} {o : Obj} (h : Below (w.alloc o).heap.size (w.alloc o) w') : Below w.heap.size w w' := (below_alloc w o).trans (h.mono (by simp))

/-- A callee that leaves the world alone, met inside a region that draws. -/
theorem quiet_id {P : Program} {f : FuncId} {args : Array Value} {W : World} {v : Value} {S : World → Prop} (h : Calls P f args W fun e w' => e = .returned v ∧ W = w') (hS : S W) :
    Calls P f args W fun e w'' => e = .returned v ∧ S w'' := h.mono fun _ _ ⟨he, hw⟩ => ⟨he, hw ▸ hS⟩
/-- .. one that only draws. -/
theorem quiet_dr {P : Program} {f : FuncId} {args : Array Value} {W : World} {v : Value} {S : World → Prop} (h : Calls P f args W fun e w' => e = .returned v ∧ ∃ n, w' = W.drewN n) (hS : ∀ n, S (W.drewN n)) :
    Calls P f args W fun e w'' => e = .returned v ∧ S w'' := h.mono fun _ _ ⟨he, n, hw⟩ => ⟨he, hw ▸ hS n⟩

theorem drewN_two (w : World) (n m : Nat) : ∃ k, (w.drewN n).drewN m = w.drewN k := ⟨n + m, by simp [World.drewN, Nat.add_assoc]⟩
theorem ret_bool {a b : Bool} (h : a = b) : Ending.returned (.bool a) = .returned (.bool b) := by rw [h]
theorem ret_int {k : IntKind} {a b : Int} (h : a = b) : Ending.returned (.int k a) = .returned (.int k b) := by rw [h]
end Go.Proofs.YtbcfcjecobihnaaGreatDoor

end

section
/- book.sum: the sum of a line. -/
namespace Go.Proofs.YtbcfcjecobihnaaGreatDoor
open Go.RowKit Go.Lib
set_option linter.unusedVariables false
set_option maxRecDepth 100000

def sumTo (l : List UInt8) : Nat → Nat
  | 0 => 0
  | k + 1 => sumTo l k + (k + 1) * (l.getD k 0).toNat
def sumB (l : List UInt8) : Nat := sumTo l l.length % 9973
theorem sumTo_le (l : List UInt8) : ∀ k, k ≤ 10000 → sumTo l k ≤ k * 2550000
  | 0, _ => by simp [sumTo]
  | k + 1, hk => by
    have h1 := sumTo_le l k (by omega)
    have h2 : (l.getD k 0).toNat ≤ 255 := by have := (l.getD k 0).toNat_lt; omega
    have h3 : (k + 1) * (l.getD k 0).toNat ≤ 10000 * 255 := Nat.mul_le_mul (by omega) h2
    unfold sumTo
    omega
set_option maxHeartbeats 1000000 in
theorem sum_any (l : List UInt8) (w : World) (hl : l.length ≤ 10000) : Calls Tryz.prog 62 #[.string ⟨l.toArray⟩] w fun e w' => e = .returned (.int .i64 (sumB l : Nat)) ∧ Below w.heap.size w w' := by
  obtain ⟨W, hW⟩ : ∃ W, W = Lib.bytesWorld w 5 ⟨l.toArray⟩ := ⟨_, rfl⟩
  obtain ⟨cap, hcap⟩ : ∃ c, c = grownCap w l.length 0 5 := ⟨_, rfl⟩
  obtain ⟨g, hg⟩ : ∃ g, g = w.heap.size := ⟨_, rfl⟩
  have hconv : (convert 9 31 (.string ⟨l.toArray⟩)).run Tryz.prog w = .ok (.slice (some ⟨g, 0, none⟩) l.length cap) W := by
    rw [Lib.run_convert_string_bytes w 9 31 5 ⟨l.toArray⟩ Tryz.underlying9 Tryz.underlying31 Tryz.underlying5, hW, hcap, hg]
    rfl
  have hcell : ∀ j, j < l.length → W.cell? ⟨g, j, none⟩ = some (.int .u8 ((l.getD j 0).toNat : Nat)) := fun j hj => by
    rw [hW, hg, Lib.bytesWorld_cell w 5 ⟨l.toArray⟩ j hj]
  have hbel : Below w.heap.size w W := by
    rw [hW]
    exact ⟨rfl, rfl, rfl, by rw [Lib.bytesWorld_size]; omega, fun k hk => Lib.bytesWorld_at_old w 5 ⟨l.toArray⟩ k hk⟩
  have HCELL := Lib.hid hcell
  have HBEL := Lib.hid hbel
  have HL := Lib.hid hl
  clear hW hcap hg hcell hbel
  obtain ⟨R, hR⟩ : ∃ R, R = sumB l := ⟨_, rfl⟩
  rw [← hR]
  have HR := Lib.hid hR
  clear hR
  go_enter Tryz.func62, Tryz.ntmps62
  go_wp2
  go_loopw [3, 9] (fun nv iv wr => ∃ k : Nat, k ≤ l.length ∧ nv = .int .i64 (sumTo l k : Nat) ∧ iv = .int .i64 k ∧ wr = W) (fun _ iv _ => l.length - (RowKit.intOf iv).toNat)
  case atStart => exact ⟨0, Nat.zero_le _, rfl, rfl, rfl⟩
  case round =>
    obtain ⟨k, hk, rfl, rfl, rfl⟩ := hrel
    clear hconv
    have hsl := sumTo_le l k (by omega)
    obtain ⟨S, hS⟩ : ∃ S, S = sumTo l k := ⟨_, rfl⟩
    rw [← hS] at hsl ⊢
    by_cases hlt : k < l.length
    · have hki : (k : Int) < (l.length : Int) := by omega
      have hk0 : (0 : Int) ≤ (k : Int) := by omega
      have c0 := HCELL.out k hlt
      obtain ⟨c, hc⟩ : ∃ c, c = (l.getD k 0).toNat := ⟨_, rfl⟩
      have hc255 : c ≤ 255 := by rw [hc]; have := (l.getD k 0).toNat_lt; omega
      rw [← hc] at c0
      obtain ⟨P, hP⟩ : ∃ P, P = (k + 1) * c := ⟨_, rfl⟩
      have hP1 : P ≤ 2550000 := by rw [hP]; exact Nat.mul_le_mul (show k + 1 ≤ 10000 by have := HL.out; omega) hc255
      have hmul : ((k : Int) + 1) * (c : Int) = (P : Int) := by rw [hP]; push_cast; rfl
      have hmul2 : IntKind.i64.wrap ((P : Nat) : Int) = ((P : Nat) : Int) := by simp [IntKind.wrap, IntKind.bits, IntKind.signed]; omega
      have hnx : sumTo l (k + 1) = S + P := by rw [sumTo, ← hS, ← hc, ← hP]
      have HNX := Lib.hid hnx
      clear hnx hP hc hS
      go_wp2
      go_roundw
      case rel => exact ⟨k + 1, by omega, by rw [HNX.out]; go_num, by go_num, by first | rfl | trivial⟩
      case measure => simp [RowKit.intOf]; omega
    · have e : k = l.length := by omega
      have hd : decide ((k : Int) < (l.length : Int)) = false := decide_eq_false (by omega)
      have hd2 : decide (k < l.length) = false := decide_eq_false hlt
      have hm : Int.tmod (S : Int) 9973 = ((S % 9973 : Nat) : Int) := by rw [Int.tmod_eq_emod_of_nonneg (by omega)]; rfl
      have hm2 : IntKind.i64.wrap ((S % 9973 : Nat) : Int) = ((S % 9973 : Nat) : Int) := by simp [IntKind.wrap, IntKind.bits, IntKind.signed]; omega
      have hr : R = S % 9973 := by rw [HR.out]; unfold sumB; rw [hS, ← e]
      rw [← hr] at hm hm2
      clear hlt hr hS
      go_wp2
      go_ret
      exact ⟨rfl, HBEL.out⟩
end Go.Proofs.YtbcfcjecobihnaaGreatDoor

end

section
/- ferryhytheref4.Digits, Sum. -/
namespace Go.Proofs.YtbcfcjecobihnaaGreatDoor
open Go.RowKit
set_option linter.unusedVariables false
set_option linter.unusedSimpArgs false
set_option maxRecDepth 100000

abbrev digS (n : Nat) : ByteArray := ⟨(Lib.decDigits n).toArray⟩
theorem digS_step {n : Nat} (h : ¬ n < 10) : digS (n / 10) ++ digS (n % 10) = digS n := by
  have h1 := Lib.decDigits_one (i := n % 10) (Nat.mod_lt _ (by decide))
  unfold digS
  rw [h1, show Lib.decDigits n = Lib.decDigits (n / 10) ++ [UInt8.ofNat (48 + n % 10)] by rw [Lib.decDigits, dif_neg h]]
  apply ByteArray.ext
  simp [ByteArray.data_append]
theorem dig_one {n : Nat} (h : n < 10) : (⟨#[48, 49, 50, 51, 52, 53, 54, 55, 56, 57]⟩ : ByteArray).extract n (n + 1) = digS n := by
  unfold digS
  rw [Lib.decDigits_one h]
  have : n = 0 ∨ n = 1 ∨ n = 2 ∨ n = 3 ∨ n = 4 ∨ n = 5 ∨ n = 6 ∨ n = 7 ∨ n = 8 ∨ n = 9 := by omega
  rcases this with rfl | rfl | rfl | rfl | rfl | rfl | rfl | rfl | rfl | rfl <;> decide
theorem digS_size (n : Nat) (hn : n ≤ 9223372036854775807) : (digS n).size ≤ 25 := by
  have := Lib.itoa_length_le (n : Int) (by omega) (by omega)
  rw [Lib.itoa_nonneg] at this
  show (Lib.decDigits n).toArray.size ≤ 25
  rw [List.size_toArray]
  omega
theorem refDigits_any : ∀ (n : Nat) (w : World), n ≤ 9223372036854775807 → Calls Tryz.prog 27 #[.int .i64 (n : Int)] w fun e w' => e = .returned (.string (digS n)) ∧ w = w' := by
  intro n
  induction n using Nat.strongRecOn with
  | _ n ih =>
    intro w hn
    by_cases h10 : n < 10
    · have hd : decide ((n : Int) < 10) = true := decide_eq_true (by omega)
      have h0 : (0 : Int) ≤ (n : Int) := by omega
      have h9 : (n : Int) < 10 := by omega
      have HE := Lib.hid (dig_one h10)
      clear ih
      go_enter Tryz.func27, Tryz.ntmps27
      go_wp2
      go_ret
      rw [HE.out]
      exact ⟨rfl, rfl⟩
    · have hd : decide ((n : Int) < 10) = false := decide_eq_false (by omega)
      have hi1 := ih (n / 10) (by omega)
      have hi2 := ih (n % 10) (by omega)
      have HST := Lib.hid (digS_step h10)
      obtain ⟨q, hq⟩ : ∃ q, q = n / 10 := ⟨_, rfl⟩
      obtain ⟨r, hr⟩ : ∃ r, r = n % 10 := ⟨_, rfl⟩
      have hqI : (n : Int).tdiv 10 = (q : Int) := by rw [hq, Int.tdiv_eq_ediv_of_nonneg (by omega)]; omega
      have hrI : (n : Int).tmod 10 = (r : Int) := by rw [hr, Int.tmod_eq_emod_of_nonneg (by omega)]; omega
      have hqw : IntKind.i64.wrap (q : Int) = (q : Int) := by simp [IntKind.wrap, IntKind.bits, IntKind.signed]; omega
      have hrw : IntKind.i64.wrap (r : Int) = (r : Int) := by simp [IntKind.wrap, IntKind.bits, IntKind.signed]; omega
      have z1 := digS_size q (by omega)
      have z2 := digS_size r (by omega)
      rw [← hq] at hi1 HST
      rw [← hr] at hi2 HST
      have k1 : ¬ 9223372036854775807 < (digS q).size + (digS r).size := by omega
      have HI1 := Lib.hid (hi1 w (by omega))
      have HI2 := Lib.hid (hi2 w (by omega))
      clear ih hi1 hi2 hq hr h10
      go_enter Tryz.func27, Tryz.ntmps27
      go_wp2_with fail
      refine HI1.out.mono ?_
      rintro e w' ⟨rfl, rfl⟩
      go_wp2_with fail
      refine HI2.out.mono ?_
      rintro e w' ⟨rfl, rfl⟩
      generalize digS q = s1 at *
      generalize digS r = s2 at *
      go_wp2
      go_ret
      rw [HST.out]
      exact ⟨rfl, rfl⟩
set_option maxHeartbeats 1000000 in
theorem refSum_any (s : ByteArray) (w : World) (hl : s.size ≤ 10000) : Calls Tryz.prog 70 #[.string s] w fun e w' => e = .returned (.int .i64 (sumB s.data.toList : Nat)) ∧ w = w' := by
  have hle : s.data.toList.length = s.size := by simp
  go_enter Tryz.func70, Tryz.ntmps70
  obtain ⟨l, hl2⟩ : ∃ l, l = s.data.toList := ⟨_, rfl⟩
  rw [← hl2] at hle ⊢
  obtain ⟨R, hR⟩ : ∃ R, R = sumB l := ⟨_, rfl⟩
  rw [← hR]
  have HR := Lib.hid hR
  have HL2 := Lib.hid hl2
  clear hR hl2
  go_wp2
  go_loop [3, 4] (fun nv iv => ∃ (k S : Nat) (v : Int), k ≤ l.length ∧ v + 1 = (k : Int) ∧ iv = .int .i64 v ∧ nv = .int .i64 (S : Int) ∧ Hid (S + sumTo l k = sumTo l l.length)) (fun _ iv => (intOf iv + 1).toNat)
  case atStart => exact ⟨l.length, 0, _, Nat.le_refl _, by rw [hle]; omega, rfl, rfl, Nat.zero_add _⟩
  case round =>
    obtain ⟨k, S, v, hk, hv, rfl, rfl, HT⟩ := hrel
    have hsl := sumTo_le l l.length (by omega)
    rw [← HT.out] at hsl
    rcases Nat.eq_zero_or_pos k with h0 | h0
    · subst h0
      obtain rfl : v = -1 := by omega
      have hm : Int.tmod (S : Int) 9973 = ((S % 9973 : Nat) : Int) := by rw [Int.tmod_eq_emod_of_nonneg (by omega)]; rfl
      have hm2 : IntKind.i64.wrap ((S % 9973 : Nat) : Int) = ((S % 9973 : Nat) : Int) := by simp [IntKind.wrap, IntKind.bits, IntKind.signed]; omega
      have hr : R = S % 9973 := by
        have := HT.out
        simp only [sumTo, Nat.add_zero] at this
        rw [HR.out]; unfold sumB; rw [← this]
      rw [← hr] at hm hm2
      clear hr hsl
      go_wp2
      go_ret
      exact ⟨rfl, rfl⟩
    · obtain ⟨j, rfl⟩ : ∃ j, k = j + 1 := ⟨k - 1, by omega⟩
      obtain rfl : v = (j : Int) := by omega
      have hj0 : (0 : Int) ≤ (j : Int) := by omega
      have hjs : j < s.size := by omega
      have hjsI : (j : Int) < (s.size : Int) := by omega
      have hj1 : (j : Int) < 10000 := by omega
      obtain ⟨c, hc⟩ : ∃ c, c = (s[j]'hjs).toNat := ⟨_, rfl⟩
      have hc1 : c < 256 := by rw [hc]; exact (s[j]'hjs).toNat_lt
      obtain ⟨P, hP⟩ : ∃ P, P = (j + 1) * c := ⟨_, rfl⟩
      have hP1 : P ≤ 2550000 := by rw [hP]; exact Nat.mul_le_mul (show j + 1 ≤ 10000 by omega) (show c ≤ 255 by omega)
      have hgd : (l.getD j 0).toNat = c := by
        rw [hc]
        congr 1
        rw [HL2.out]
        simp [List.getD, hjs]
        rfl
      have hnx : sumTo l (j + 1) = sumTo l j + P := by rw [sumTo, hgd, ← hP]
      have HNX := Lib.hid (show S + P + sumTo l j = sumTo l l.length by have := HT.out; rw [hnx] at this; omega)
      have hmul : ((j : Int) + 1) * (c : Int) = (P : Int) := by rw [hP]; push_cast; rfl
      have hmul2 : IntKind.i64.wrap ((P : Nat) : Int) = ((P : Nat) : Int) := by simp [IntKind.wrap, IntKind.bits, IntKind.signed]; omega
      have hS1 : S ≤ 10000 * 2550000 := by omega
      have hc2 := hc.symm
      have hc255 : c ≤ 255 := by omega
      clear hv h0 hgd hnx hP hc hsl hc1
      go_wp2
      go_round
      case rel => exact ⟨j, S + P, _, by omega, by omega, rfl, by go_num, HNX.out⟩
      case measure => simp [intOf]
end Go.Proofs.YtbcfcjecobihnaaGreatDoor

end

section
/- A strings.Builder in a field (the second part of a book): written on, read, written on again. -/
namespace Go.Proofs.YtbcfcjecobihnaaGreatDoor
open Go.RowKit Go.Lib
set_option linter.unusedVariables false
set_option maxRecDepth 100000

/-- The bytes of a builder: its row's head may be frozen. -/
def Ent.rowF (v : Value) (l : List UInt8) : Ent where
  blk := v.ownBlock
  ok := fun o => (v = .slice none 0 0 ∧ l = []) ∨ ∃ g cap cur fz, v = .slice (some ⟨g, 0, none⟩) l.length cap ∧ o = some (.cells cur 5 fz) ∧ fz.2 ≤ l.length ∧ l ≠ [] ∧ l.length ≤ cap ∧ cap ≤ maxLen ∧ cur.size = cap ∧ cur.toList.take l.length = byteCells l
theorem byteInfo : ∃ i, Tryz.prog.info? 5 = some i ∧ i.zero = some (.int .u8 0) ∧ i.size = 1 ∧ i.bytes = 1 := info_parts (by kernel_rfl)
theorem bytes_len (s : ByteArray) : s.data.toList.length = s.size := by rw [← strCells_length s]; exact (List.length_map _).symm
theorem run_append_rowF {B : Nat} {w : World} {A C : List Ent} {v : Value} {l : List UInt8} (h : Sep B w (A ++ Ent.rowF v l :: C)) (hBw : B ≤ w.heap.size) (s : ByteArray) (hs : 0 < s.size) (hl : l.length + s.size ≤ 140737488355328) :
    ∃ v' w', (Builtin.append_ #[31, 9] 31 #[v, .string s]).run Tryz.prog w = .ok v' w' ∧ Sep B w' (A ++ Ent.rowF v' (l ++ s.data.toList) :: C) ∧ Below B w w' := by
  obtain ⟨i, hi, hz, hsz, hby⟩ := byteInfo
  have hne : l ++ s.data.toList ≠ [] := by
    intro e
    have h1 : s.data.toList = [] := (List.append_eq_nil_iff.1 e).2
    have h2 := bytes_len s
    rw [h1] at h2
    simp at h2
    omega
  have hlen : (l ++ s.data.toList).length = l.length + s.size := by rw [List.length_append, bytes_len]
  have hbc : byteCells (l ++ s.data.toList) = byteCells l ++ strCells s := by rw [byteCells_append, strCells_eq]
  rcases h.mem.1 with ⟨rfl, rfl⟩ | ⟨g, cap, cur, fz, rfl, hg, hfz, hl0, hnc, hcm, hcs, htake⟩
  · obtain ⟨v', w', h1, h2, h3, h4⟩ := run_append_own_string (P := Tryz.prog) w w.heap.size 31 9 31 5 i Tryz.underlying31 Tryz.underlying9 hi hz hsz hby (.slice none 0 0) 0 [] ⟨rfl, .inl ⟨rfl, rfl⟩⟩ s (by unfold maxLen; simp only [List.length_nil] at hl; omega) (by simpa only [List.length_nil] using hl) (Nat.le_refl _)
    refine ⟨v', w', h1, ?_, ?_⟩
    · refine h.upd h3.size (fun k hk _ => h3.block k hk (by simp [Value.ownBlock])) ?_ ?_
      · rcases h2.2 with ⟨-, hz0⟩ | ⟨g, cap, cur, rfl, hbg, hg, hnc, hcm, hcs, ht⟩
        · omega
        · refine .inr ⟨g, cap, cur, (0, 0), ?_, hg, Nat.zero_le _, hne, ?_, hcm, by simpa using hcs, ?_⟩
          · rw [hlen]; rfl
          · rw [hlen]; exact hnc
          · rw [hlen, hbc]; simpa [byteCells] using ht
      · intro g hg
        rcases h2.2 with ⟨-, hz0⟩ | ⟨g', cap, cur, rfl, hbg, hg', -⟩
        · omega
        · simp [Ent.rowF, Value.ownBlock] at hg
          subst hg
          exact ⟨Nat.le_trans hBw hbg, (Array.getElem?_eq_some_iff.1 hg').1, .inr hbg⟩
    · exact ⟨h3.1, h3.2, h3.3, h3.size, fun k hk => h3.block k (Nat.lt_of_lt_of_le hk hBw) (by simp [Value.ownBlock])⟩
  · have hBg : B ≤ g := (h.mem.2 g rfl).1
    have hglt : g < w.heap.size := (h.mem.2 g rfl).2
    by_cases hroom : l.length + s.size ≤ cap
    · have hr := run_append_room_stringF (P := Tryz.prog) w 31 9 31 5 i Tryz.underlying31 Tryz.underlying9 hi hsz g l.length cap cur fz hg hfz s hroom (by omega)
      have hoth : ∀ k, k ≠ g → (w.setRow g (cur.toList.take l.length ++ strCells s ++ cur.toList.drop (l.length + s.size)).toArray).heap[k]? = w.heap[k]? := fun k hk => setRow_other w g k _ hk
      refine ⟨_, _, hr, ?_, ⟨rfl, rfl, rfl, by simp, fun k hk => hoth k (by omega)⟩⟩
      refine h.upd (by simp) (fun k hk hne2 => hoth k (fun e => hne2 (by simp [Ent.rowF, Value.ownBlock, e]))) ?_ ?_
      · refine .inr ⟨g, cap, _, fz, by rw [hlen], setRow_heap w g cur _ 5 _ hg, by rw [hlen]; omega, hne, by rw [hlen]; exact hroom, hcm, ?_, ?_⟩
        · simp only [List.size_toArray, List.length_append, List.length_take, List.length_drop, Array.length_toList, strCells_length]
          omega
        · rw [htake, hbc, show (l ++ s.data.toList).length = (byteCells l ++ strCells s).length by rw [← hbc, byteCells_length]]
          exact List.take_left
      · intro k hk
        simp [Ent.rowF, Value.ownBlock] at hk
        subst hk
        exact ⟨hBg, by simpa using hglt, .inl (by simp [Ent.rowF, Value.ownBlock])⟩
    · have hr := run_append_grow_string (P := Tryz.prog) w 31 9 31 5 i (.int .u8 0) Tryz.underlying31 Tryz.underlying9 hi hz ⟨g, 0, none⟩ l.length cap (byteCells l) (by rw [hsz, byteCells_length, Nat.mul_one]) (fun j u hu => by
          have hadd : (⟨g, 0, none⟩ : Addr).add j = ⟨g, j, none⟩ := by unfold Addr.add; split <;> simp_all
          rw [hadd, cell_of_row w g j cur 5 fz hg]
          rw [← htake, List.getElem?_take] at hu
          split at hu
          · simpa using hu
          · cases hu) s (by omega) (by omega) (by rw [hby]; exact growslice_fits (by omega) (by omega))
      have hge := grownCap_ge w (l.length + s.size) cap 5
      have hcm2 : grownCap w (l.length + s.size) cap 5 ≤ maxLen := grownCap_le_maxLen w (l.length + s.size) cap 5 (by unfold maxLen; omega)
      refine ⟨_, _, hr, ?_, ((Below.refl B w).drew).alloc hBw _⟩
      refine h.upd (by simp) (fun k hk _ => Below.heap_alloc w.drew _ k hk) (.inr ⟨w.heap.size, _, _, (0, 0), by rw [hlen], heap_alloc_new w.drew _, Nat.zero_le _, hne, by rw [hlen]; exact hge, hcm2, ?_, ?_⟩) ?_
      · have hz1 : (Value.int IntKind.u8 0).cells.size = 1 := rfl
        simp only [Array.size_append, List.size_toArray, size_zeroCells, hz1, byteCells_length, strCells_length]
        omega
      · simp only [Array.toList_append, List.append_assoc]
        rw [← List.append_assoc, ← hbc, ← byteCells_length (l ++ s.data.toList)]
        exact List.take_left
      · intro k hk
        simp [Ent.rowF, Value.ownBlock] at hk
        subst hk
        exact ⟨hBw, by simp, .inr (Nat.le_refl _)⟩
end Go.Proofs.YtbcfcjecobihnaaGreatDoor

end

section
/- Plain: prefixes as paths of bits; a tree of bits, its routes in order. -/
namespace Go.Proofs.YtbcfcjecobihnaaGreatDoor
set_option linter.unusedVariables false

/-! ### Paths -/
def lpAcc (π : List Bool) : Nat := π.foldl (fun n b => 2 * n + b.toNat) 0
def lpAddr (π : List Bool) : Nat := lpAcc π * 2 ^ (16 - π.length)
def lpPath (a n : Nat) : List Bool := (List.range n).map fun i => a / 2 ^ (15 - i) % 2 == 1
theorem lpAcc_snoc (π : List Bool) (b : Bool) : lpAcc (π ++ [b]) = 2 * lpAcc π + b.toNat := by unfold lpAcc; rw [List.foldl_append]; rfl
theorem lpPath_len (a n : Nat) : (lpPath a n).length = n := by simp [lpPath]
theorem lpPath_succ (a n : Nat) : lpPath a (n + 1) = lpPath a n ++ [a / 2 ^ (15 - n) % 2 == 1] := by unfold lpPath; rw [List.range_succ, List.map_append]; rfl
theorem toNat_bit (n : Nat) : (n % 2 == 1).toNat = n % 2 := by
  rcases Nat.mod_two_eq_zero_or_one n with h | h <;> rw [h] <;> rfl
theorem lpAcc_path {a : Nat} (ha : a < 65536) : ∀ n, n ≤ 16 → lpAcc (lpPath a n) = a / 2 ^ (16 - n)
  | 0, _ => by rw [Nat.div_eq_of_lt (by simpa using ha)]; rfl
  | n + 1, h => by
    rw [lpPath_succ, lpAcc_snoc, lpAcc_path ha n (by omega), toNat_bit]
    have e : 2 ^ (16 - n) = 2 ^ (15 - n) * 2 := by rw [show 16 - n = 15 - n + 1 by omega, Nat.pow_succ]
    rw [e, ← Nat.div_div_eq_div_mul, show 16 - (n + 1) = 15 - n by omega]
    have := Nat.div_add_mod (a / 2 ^ (15 - n)) 2
    omega
theorem lpAddr_path {a n : Nat} (ha : a < 65536) (hn : n ≤ 16) : lpAddr (lpPath a n) = a - a % 2 ^ (16 - n) := by
  unfold lpAddr
  rw [lpAcc_path ha n hn, lpPath_len]
  have := Nat.div_add_mod a (2 ^ (16 - n))
  rw [Nat.mul_comm] at this
  omega
/-- A prefix that may be: its path tells it. -/
def lpOk (a n : Nat) : Prop := a < 65536 ∧ n ≤ 16 ∧ a % 2 ^ (16 - n) = 0
theorem lpAddr_ok {a n : Nat} (h : lpOk a n) : lpAddr (lpPath a n) = a := by rw [lpAddr_path h.1 h.2.1, h.2.2]; rfl
theorem lpAcc_lt : ∀ (π : List Bool), lpAcc π < 2 ^ π.length := by
  intro π
  induction h : π.length generalizing π with
  | zero => rw [List.length_eq_zero_iff.1 h]; decide
  | succ n ih =>
    obtain ⟨σ, b, rfl⟩ : ∃ σ b, π = σ ++ [b] := ⟨π.dropLast, π.getLast (by intro e; rw [e] at h; cases h), (List.dropLast_concat_getLast _).symm⟩
    rw [List.length_append, List.length_singleton] at h
    have := ih σ (by omega)
    rw [lpAcc_snoc, Nat.pow_succ]
    cases b <;> simp <;> omega
/-- All paths below one lie in its range. -/
theorem lpAcc_app (π : List Bool) : ∀ τ : List Bool, lpAcc π * 2 ^ τ.length ≤ lpAcc (π ++ τ) ∧ lpAcc (π ++ τ) < (lpAcc π + 1) * 2 ^ τ.length := by
  intro τ
  induction h : τ.length generalizing τ with
  | zero => rw [List.length_eq_zero_iff.1 h]; simp
  | succ n ih =>
    obtain ⟨σ, b, rfl⟩ : ∃ σ b, τ = σ ++ [b] := ⟨τ.dropLast, τ.getLast (by intro e; rw [e] at h; cases h), (List.dropLast_concat_getLast _).symm⟩
    rw [List.length_append, List.length_singleton] at h
    obtain ⟨h1, h2⟩ := ih σ (by omega)
    rw [← List.append_assoc, lpAcc_snoc, Nat.pow_succ]
    have e1 : lpAcc π * (2 ^ n * 2) = (lpAcc π * 2 ^ n) * 2 := by rw [Nat.mul_assoc]
    have e2 : (lpAcc π + 1) * (2 ^ n * 2) = ((lpAcc π + 1) * 2 ^ n) * 2 := by rw [Nat.mul_assoc]
    rw [e1, e2]
    cases b <;> simp <;> omega
theorem lpAddr_range {π τ : List Bool} (h : (π ++ τ).length ≤ 16) : lpAcc π * 2 ^ (16 - π.length) ≤ lpAddr (π ++ τ) ∧ lpAddr (π ++ τ) < (lpAcc π + 1) * 2 ^ (16 - π.length) := by
  obtain ⟨h1, h2⟩ := lpAcc_app π τ
  unfold lpAddr
  rw [List.length_append] at h ⊢
  have e : 2 ^ (16 - π.length) = 2 ^ τ.length * 2 ^ (16 - (π.length + τ.length)) := by rw [← Nat.pow_add]; congr 1; omega
  have hp : 0 < 2 ^ (16 - (π.length + τ.length)) := Nat.two_pow_pos _
  rw [e, ← Nat.mul_assoc, ← Nat.mul_assoc]
  exact ⟨Nat.mul_le_mul_right _ h1, Nat.mul_lt_mul_of_pos_right h2 hp⟩
theorem lpAddr_lt (π : List Bool) (h : π.length ≤ 16) : lpAddr π < 65536 := by
  have := (lpAddr_range (π := []) (τ := π) (by simpa using h)).2
  simpa [lpAcc] using this
theorem lpAddr_snoc (π : List Bool) (b : Bool) (h : π.length ≤ 15) : lpAddr (π ++ [b]) = lpAddr π + b.toNat * 2 ^ (15 - π.length) := by
  unfold lpAddr
  rw [lpAcc_snoc, List.length_append, List.length_singleton, show 16 - (π.length + 1) = 15 - π.length by omega]
  have e : 2 ^ (16 - π.length) = 2 * 2 ^ (15 - π.length) := by rw [show 16 - π.length = 15 - π.length + 1 by omega, Nat.pow_succ, Nat.mul_comm]
  rw [e, Nat.add_mul, Nat.mul_comm 2 (lpAcc π), Nat.mul_assoc]
theorem lpAddr_div (π : List Bool) : lpAddr π % 2 ^ (16 - π.length) = 0 := by unfold lpAddr; exact Nat.mul_mod_left _ _
theorem lpAddr_isOk {π : List Bool} (h : π.length ≤ 16) : lpOk (lpAddr π) π.length := ⟨lpAddr_lt π h, h, lpAddr_div π⟩
/-- A path is told by its address and its length. -/
theorem lpAcc_inj : ∀ {π σ : List Bool}, π.length = σ.length → lpAcc π = lpAcc σ → π = σ := by
  intro π
  induction h : π.length generalizing π with
  | zero => intro σ h1 _; rw [List.length_eq_zero_iff.1 h, List.length_eq_zero_iff.1 h1.symm]
  | succ n ih =>
    intro σ h1 h2
    obtain ⟨α, b, rfl⟩ : ∃ α b, π = α ++ [b] := ⟨π.dropLast, π.getLast (by intro e; rw [e] at h; cases h), (List.dropLast_concat_getLast _).symm⟩
    obtain ⟨β, c, rfl⟩ : ∃ β c, σ = β ++ [c] := ⟨σ.dropLast, σ.getLast (by intro e; rw [e] at h1; cases h1), (List.dropLast_concat_getLast _).symm⟩
    rw [List.length_append, List.length_singleton] at h h1
    rw [lpAcc_snoc, lpAcc_snoc] at h2
    have hb : b = c := by cases b <;> cases c <;> simp at h2 ⊢ <;> omega
    subst hb
    rw [@ih α (by omega) β (by omega) (by omega)]
theorem lpPath_addr {π : List Bool} (h : π.length ≤ 16) : lpPath (lpAddr π) π.length = π := by
  refine lpAcc_inj (lpPath_len _ _) ?_
  rw [lpAcc_path (lpAddr_lt π h) _ h]
  unfold lpAddr
  exact Nat.mul_div_cancel _ (Nat.two_pow_pos _)

/-! ### Trees -/
inductive LT where
  | nil : LT
  | node (b : Nat) (h : Int) (l r : LT) : LT
def LT.kid : LT → Bool → LT
  | .nil, _ => .nil
  | .node _ _ l r, b => if b then r else l
def LT.sub : LT → List Bool → LT
  | t, [] => t
  | t, b :: π => (t.kid b).sub π
def LT.hop : LT → Int
  | .nil => -1
  | .node _ h _ _ => h
/-- No node beyond so many steps. -/
def LT.deep : LT → Nat → Prop
  | .nil, _ => True
  | .node _ _ _ _, 0 => False
  | .node _ _ l r, n + 1 => l.deep n ∧ r.deep n
theorem LT.sub_nil : ∀ π : List Bool, LT.nil.sub π = .nil
  | [] => rfl
  | _ :: π => LT.sub_nil π
theorem LT.sub_app : ∀ (t : LT) (π σ : List Bool), t.sub (π ++ σ) = (t.sub π).sub σ
  | _, [], _ => rfl
  | t, b :: π, σ => LT.sub_app (t.kid b) π σ
theorem LT.sub_snoc (t : LT) (π : List Bool) (b : Bool) : t.sub (π ++ [b]) = (t.sub π).kid b := by rw [LT.sub_app]; rfl
/-- The tree with what stands at a path replaced. -/
def LT.repl : LT → List Bool → LT → LT
  | _, [], u => u
  | .nil, _ :: _, _ => .nil
  | .node n h l r, false :: π, u => .node n h (l.repl π u) r
  | .node n h l r, true :: π, u => .node n h l (r.repl π u)
theorem LT.sub_repl : ∀ (t : LT) (π : List Bool) (u : LT), t.sub π ≠ .nil → (t.repl π u).sub π = u
  | _, [], _, _ => by simp [LT.repl, LT.sub]
  | .nil, _ :: π, _, h => absurd (LT.sub_nil π) h
  | .node n h l r, false :: π, u, hn => LT.sub_repl l π u hn
  | .node n h l r, true :: π, u, hn => LT.sub_repl r π u hn
/-- The hop at a path. -/
def LT.at (t : LT) (π : List Bool) : Int := (t.sub π).hop
theorem LT.at_cons (n : Nat) (h : Int) (l r : LT) (b : Bool) (π : List Bool) : (LT.node n h l r).at (b :: π) = (if b then r else l).at π := rfl
theorem LT.at_nil (π : List Bool) : LT.nil.at π = -1 := by unfold LT.at; rw [LT.sub_nil]; rfl
/-- Hops of a tree with a part replaced. -/
theorem LT.at_repl : ∀ (t : LT) (π σ : List Bool) (u : LT), t.sub π ≠ .nil → (∀ τ, u.at τ = (t.sub π).at τ ∨ π ++ τ = σ) → ∀ ρ, ρ ≠ σ → (t.repl π u).at ρ = t.at ρ
  | t, [], σ, u, _, h, ρ, hr => by
    simp only [LT.repl]
    rcases h ρ with h | h
    · exact h
    · exact absurd h hr
  | .nil, _ :: π, _, _, hn, _, _, _ => absurd (LT.sub_nil π) hn
  | .node n hp l r, false :: π, σ, u, hn, h, ρ, hr => by
    simp only [LT.repl]
    match ρ with
    | [] => rfl
    | true :: ρ => rfl
    | false :: ρ =>
      rw [LT.at_cons, LT.at_cons]
      simp only [Bool.false_eq_true, if_false]
      by_cases hs : ∃ σ', σ = false :: σ'
      · obtain ⟨σ', rfl⟩ := hs
        exact LT.at_repl l π σ' u hn (fun τ => (h τ).imp id fun e => by simpa using e) ρ (fun e => hr (by rw [e]))
      · refine LT.at_repl l π (ρ ++ [true]) u hn (fun τ => ?_) ρ (by simp)
        rcases h τ with h | h
        · exact .inl h
        · exact absurd ⟨π ++ τ, h.symm⟩ hs
  | .node n hp l r, true :: π, σ, u, hn, h, ρ, hr => by
    simp only [LT.repl]
    match ρ with
    | [] => rfl
    | false :: ρ => rfl
    | true :: ρ =>
      rw [LT.at_cons, LT.at_cons]
      simp only [if_true]
      by_cases hs : ∃ σ', σ = true :: σ'
      · obtain ⟨σ', rfl⟩ := hs
        exact LT.at_repl r π σ' u hn (fun τ => (h τ).imp id fun e => by simpa using e) ρ (fun e => hr (by rw [e]))
      · refine LT.at_repl r π (ρ ++ [true]) u hn (fun τ => ?_) ρ (by simp)
        rcases h τ with h | h
        · exact .inl h
        · exact absurd ⟨π ++ τ, h.symm⟩ hs
theorem LT.deep_nil (n : Nat) : LT.nil.deep n := by cases n <;> trivial
theorem LT.deep_repl : ∀ (t : LT) (π : List Bool) (u : LT) (n : Nat), t.deep n → t.sub π ≠ .nil → u.deep (n - π.length) → (t.repl π u).deep n
  | _, [], u, n, _, _, h => by simpa [LT.repl] using h
  | .nil, _ :: π, _, _, _, hn, _ => absurd (LT.sub_nil π) hn
  | .node _ _ l r, _ :: _, _, 0, h, _, _ => h.elim
  | .node k hp l r, false :: π, u, n + 1, h, hn, hu => ⟨LT.deep_repl l π u n h.1 hn (by simpa using hu), h.2⟩
  | .node k hp l r, true :: π, u, n + 1, h, hn, hu => ⟨h.1, LT.deep_repl r π u n h.2 hn (by simpa using hu)⟩
theorem LT.deep_sub : ∀ (t : LT) (π : List Bool) (n : Nat), t.deep n → (t.sub π).deep (n - π.length)
  | t, [], n, h => by simpa [LT.sub] using h
  | .nil, _ :: π, n, _ => by unfold LT.sub LT.kid; rw [LT.sub_nil]; exact LT.deep_nil _
  | .node _ _ l r, _ :: _, 0, h => h.elim
  | .node k hp l r, false :: π, n + 1, h => by have := LT.deep_sub l π n h.1; simpa [LT.sub, LT.kid] using this
  | .node k hp l r, true :: π, n + 1, h => by have := LT.deep_sub r π n h.2; simpa [LT.sub, LT.kid] using this
theorem LT.deep_len {t : LT} {π : List Bool} (h : t.deep 17) (hs : t.sub π ≠ .nil) : π.length ≤ 16 := by
  have := LT.deep_sub t π 17 h
  rcases Nat.lt_or_ge 16 π.length with h1 | h1
  · rw [show 17 - π.length = 0 by omega] at this
    cases hk : t.sub π with
    | nil => exact absurd hk hs
    | node _ _ _ _ => rw [hk] at this; exact this.elim
  · exact h1

/-! ### Routes -/
/-- Address, length, hop. -/
abbrev Rte := Nat × Nat × Nat
def ltR (x y : Rte) : Prop := x.1 < y.1 ∨ (x.1 = y.1 ∧ x.2.1 < y.2.1)
instance (x y : Rte) : Decidable (ltR x y) := by unfold ltR; infer_instance
def SrtR (l : List Rte) : Prop := l.Pairwise ltR
def LT.rts : LT → List Bool → List Rte
  | .nil, _ => []
  | .node _ h l r, π => (if 0 ≤ h then [(lpAddr π, π.length, h.toNat)] else []) ++ l.rts (π ++ [false]) ++ r.rts (π ++ [true])
theorem LT.mem_rts : ∀ (t : LT) (π : List Bool) (x : Rte), x ∈ t.rts π ↔ ∃ τ, x = (lpAddr (π ++ τ), (π ++ τ).length, (t.at τ).toNat) ∧ 0 ≤ t.at τ
  | .nil, π, x => by
    simp only [LT.rts, List.not_mem_nil, false_iff]
    rintro ⟨τ, _, h⟩
    rw [LT.at_nil] at h; omega
  | .node b h l r, π, x => by
    simp only [LT.rts, List.mem_append]
    rw [LT.mem_rts l, LT.mem_rts r]
    constructor
    · rintro ((h1 | ⟨τ, h1, h2⟩) | ⟨τ, h1, h2⟩)
      · by_cases h0 : 0 ≤ h
        · rw [if_pos h0] at h1
          exact ⟨[], by rw [List.mem_singleton.1 h1, List.append_nil]; rfl, h0⟩
        · rw [if_neg h0] at h1; simp at h1
      · exact ⟨false :: τ, by simpa [LT.at, LT.sub, LT.kid] using h1, h2⟩
      · exact ⟨true :: τ, by simpa [LT.at, LT.sub, LT.kid] using h1, h2⟩
    · rintro ⟨τ, h1, h2⟩
      match τ, h1, h2 with
      | [], h1, h2 =>
        refine .inl (.inl ?_)
        have h0 : 0 ≤ h := h2
        rw [if_pos h0, h1]
        simp [LT.at, LT.sub, LT.hop]
      | false :: τ, h1, h2 => exact .inl (.inr ⟨τ, by simpa [LT.at, LT.sub, LT.kid] using h1, h2⟩)
      | true :: τ, h1, h2 => exact .inr ⟨τ, by simpa [LT.at, LT.sub, LT.kid] using h1, h2⟩
theorem LT.at_deep {t : LT} {n : Nat} {τ : List Bool} (h : t.deep n) (h0 : 0 ≤ t.at τ) : τ.length < n := by
  have h1 := LT.deep_sub t τ n h
  rcases Nat.lt_or_ge τ.length n with h2 | h2
  · exact h2
  · rw [show n - τ.length = 0 by omega] at h1
    unfold LT.at at h0
    cases hk : t.sub τ with
    | nil => rw [hk] at h0; exact absurd h0 (by simp [LT.hop])
    | node _ _ _ _ => rw [hk] at h1; exact h1.elim
theorem LT.rts_srt : ∀ (t : LT) (π : List Bool) (n : Nat), t.deep n → π.length + n ≤ 17 → SrtR (t.rts π)
  | .nil, _, _, _, _ => List.Pairwise.nil
  | .node _ _ _ _, _, 0, h, _ => h.elim
  | .node b h l r, π, n + 1, hd, hn => by
    have hl := LT.rts_srt l (π ++ [false]) n hd.1 (by simp; omega)
    have hr := LT.rts_srt r (π ++ [true]) n hd.2 (by simp; omega)
    have e2 : 2 ^ (16 - π.length) = 2 * 2 ^ (15 - π.length) ∨ n = 0 := by
      by_cases h0 : n = 0
      · exact .inr h0
      · left; rw [show 16 - π.length = 15 - π.length + 1 by omega, Nat.pow_succ, Nat.mul_comm]
    refine List.pairwise_append.2 ⟨List.pairwise_append.2 ⟨?_, hl, ?_⟩, hr, ?_⟩
    · split <;> simp
    · intro x hx y hy
      split at hx
      · rw [List.mem_singleton.1 hx]
        obtain ⟨τ, rfl, h0⟩ := (LT.mem_rts l _ y).1 hy
        have hlen := LT.at_deep hd.1 h0
        have := (lpAddr_range (π := π) (τ := [false] ++ τ) (by simp; omega)).1
        unfold ltR
        simp only [List.append_assoc] at this ⊢
        have e : lpAcc π * 2 ^ (16 - π.length) = lpAddr π := rfl
        rw [e] at this
        simp only [List.length_append, List.length_cons, List.length_nil]
        omega
      · simp at hx
    · intro x hx y hy
      obtain ⟨τ', rfl, h0'⟩ := (LT.mem_rts r _ y).1 hy
      have hlen' := LT.at_deep hd.2 h0'
      have g2 := (lpAddr_range (π := π ++ [true]) (τ := τ') (by simp; omega)).1
      rw [lpAcc_snoc] at g2
      simp only [List.length_append, List.length_singleton, Bool.toNat_true] at g2
      rw [show 16 - (π.length + 1) = 15 - π.length by omega] at g2
      have hp : 0 < 2 ^ (15 - π.length) := Nat.two_pow_pos _
      have key : ∀ z : Nat, z < (2 * lpAcc π + 1) * 2 ^ (15 - π.length) → ltR (z, 0, 0) (lpAddr (π ++ [true] ++ τ'), 0, 0) := fun z hz => .inl (Nat.lt_of_lt_of_le hz g2)
      have e3 : 2 ^ (16 - π.length) = 2 * 2 ^ (15 - π.length) := by rcases e2 with h | h; exact h; omega
      rcases List.mem_append.1 hx with hx | hx
      · split at hx
        · rw [List.mem_singleton.1 hx]
          refine .inl (Nat.lt_of_lt_of_le ?_ g2)
          show lpAcc π * 2 ^ (16 - π.length) < _
          rw [e3, ← Nat.mul_assoc, Nat.mul_comm (lpAcc π) 2, Nat.add_mul]; omega
        · simp at hx
      · obtain ⟨τ, rfl, h0⟩ := (LT.mem_rts l _ x).1 hx
        have hlen := LT.at_deep hd.1 h0
        have g1 := (lpAddr_range (π := π ++ [false]) (τ := τ) (by simp; omega)).2
        rw [lpAcc_snoc] at g1
        simp only [List.length_append, List.length_singleton, Bool.toNat_false, Nat.add_zero] at g1
        rw [show 16 - (π.length + 1) = 15 - π.length by omega] at g1
        exact .inl (Nat.lt_of_lt_of_le g1 g2)
theorem ltR_irrefl (x : Rte) : ¬ ltR x x := by unfold ltR; omega
theorem ltR_trans {x y z : Rte} (h : ltR x y) (g : ltR y z) : ltR x z := by unfold ltR at *; omega
/-- Two rising rows with the same things are the same. -/
theorem srtR_uniq : ∀ {a b : List Rte}, SrtR a → SrtR b → (∀ x, x ∈ a ↔ x ∈ b) → a = b
  | [], [], _, _, _ => rfl
  | [], y :: b, _, _, h => absurd ((h y).2 (List.mem_cons_self ..)) (by simp)
  | x :: a, [], _, _, h => absurd ((h x).1 (List.mem_cons_self ..)) (by simp)
  | x :: a, y :: b, ha, hb, h => by
    have ha' := List.pairwise_cons.1 ha
    have hb' := List.pairwise_cons.1 hb
    have hxy : x = y := by
      rcases List.mem_cons.1 ((h x).1 (List.mem_cons_self ..)) with e | e
      · exact e
      · rcases List.mem_cons.1 ((h y).2 (List.mem_cons_self ..)) with e2 | e2
        · exact e2.symm
        · exact absurd (ltR_trans (ha'.1 y e2) (hb'.1 x e)) (ltR_irrefl x)
    subst hxy
    rw [srtR_uniq ha'.2 hb'.2 fun z => ?_]
    constructor
    · intro hz
      rcases List.mem_cons.1 ((h z).1 (List.mem_cons_of_mem _ hz)) with e | e
      · subst e; exact absurd (ha'.1 z hz) (ltR_irrefl z)
      · exact e
    · intro hz
      rcases List.mem_cons.1 ((h z).2 (List.mem_cons_of_mem _ hz)) with e | e
      · subst e; exact absurd (hb'.1 z hz) (ltR_irrefl z)
      · exact e
end Go.Proofs.YtbcfcjecobihnaaGreatDoor

end

section
/- lpm's table as it lies in memory: a block for the table, one for each node of the tree. -/
namespace Go.Proofs.YtbcfcjecobihnaaGreatDoor
open Go.RowKit
set_option linter.unusedVariables false

def LT.ptr : LT → Value
  | .nil => .pointer none
  | .node b _ _ _ => .pointer (some ⟨b, 0, none⟩)
abbrev nodE (b : Nat) (h : Int) (l r : LT) : Ent := Ent.blk1 b 81 [l.ptr, r.ptr, .int .i64 h]
def LT.ents : LT → List Ent
  | .nil => []
  | .node b h l r => nodE b h l r :: (l.ents ++ r.ents)
theorem LT.mem_ents : ∀ (t : LT) (π : List Bool) {b : Nat} {h : Int} {l r : LT}, t.sub π = .node b h l r → nodE b h l r ∈ t.ents
  | t, [], b, h, l, r, e => by obtain rfl : t = _ := e; exact List.mem_cons_self ..
  | .nil, _ :: π, _, _, _, _, e => by unfold LT.sub LT.kid at e; rw [LT.sub_nil] at e; cases e
  | .node n hp x y, false :: π, _, _, _, _, e => List.mem_cons_of_mem _ (List.mem_append.2 (.inl (LT.mem_ents x π e)))
  | .node n hp x y, true :: π, _, _, _, _, e => List.mem_cons_of_mem _ (List.mem_append.2 (.inr (LT.mem_ents y π e)))
theorem LT.ptr_nil {t : LT} (h : t = .nil) : t.ptr = .pointer none := by rw [h]; rfl
/-- A part of the tree, and what lies around it. -/
theorem LT.ents_at : ∀ (t : LT) (π : List Bool), t.sub π ≠ .nil → ∃ A C : List Ent, t.ents = A ++ (t.sub π).ents ++ C ∧ ∀ u : LT, u.ptr = (t.sub π).ptr → (t.repl π u).ents = A ++ u.ents ++ C ∧ (t.repl π u).ptr = t.ptr
  | t, [], _ => ⟨[], [], by simp [LT.sub], fun u hu => ⟨by simp [LT.repl], by rw [show t.repl [] u = u by simp [LT.repl]]; exact hu⟩⟩
  | .nil, _ :: π, hn => absurd (LT.sub_nil π) hn
  | .node n h l r, false :: π, hn => by
    obtain ⟨A, C, h1, h2⟩ := LT.ents_at l π hn
    have hs : (LT.node n h l r).sub (false :: π) = l.sub π := rfl
    refine ⟨nodE n h l r :: A, C ++ r.ents, ?_, fun u hu => ?_⟩
    · rw [hs]; show nodE n h l r :: (l.ents ++ r.ents) = _; rw [h1]; simp
    · obtain ⟨h3, h4⟩ := h2 u hu
      refine ⟨?_, rfl⟩
      show nodE n h (l.repl π u) r :: ((l.repl π u).ents ++ r.ents) = _
      rw [h3]
      simp [nodE, h4]
  | .node n h l r, true :: π, hn => by
    obtain ⟨A, C, h1, h2⟩ := LT.ents_at r π hn
    have hs : (LT.node n h l r).sub (true :: π) = r.sub π := rfl
    refine ⟨nodE n h l r :: (l.ents ++ A), C, ?_, fun u hu => ?_⟩
    · rw [hs]; show nodE n h l r :: (l.ents ++ r.ents) = _; rw [h1]; simp
    · obtain ⟨h3, h4⟩ := h2 u hu
      refine ⟨?_, rfl⟩
      show nodE n h l (r.repl π u) :: (l.ents ++ (r.repl π u).ents) = _
      rw [h3]
      simp [nodE, h4]
/-- The table: its block, and the tree's. -/
def lptE (tb m : Nat) (T : LT) : List Ent := Ent.blk1 tb 83 [T.ptr, .int .i64 m] :: T.ents

section
variable {B tb m : Nat} {w : World} {T : LT} {F : List Ent} {π : List Bool} {b : Nat} {h : Int} {l r : LT}
theorem Sep.member {B : Nat} {w : World} {L : List Ent} {g : Nat} {e : TypeId} {cs : List Value} (hs : Sep B w L) (hm : Ent.blk1 g e cs ∈ L) : (∀ j v, cs[j]? = some v → w.cell? ⟨g, j, none⟩ = some v ∧ w.frozen? ⟨g, j, none⟩ = false) ∧ B ≤ g := by
  obtain ⟨A, C, rfl⟩ := List.append_of_mem hm
  exact ⟨fun j v hv => hs.blkAt hv, hs.blkLt.1⟩
theorem lpt_cells (hs : Sep B w (lptE tb m T ++ F)) : w.cell? ⟨tb, 0, none⟩ = some T.ptr ∧ w.cell? ⟨tb, 1, none⟩ = some (.int .i64 m) ∧ w.frozen? ⟨tb, 1, none⟩ = false ∧ B ≤ tb := by
  have h := hs.member (g := tb) (List.mem_append.2 (.inl (List.mem_cons_self ..)))
  exact ⟨(h.1 0 _ rfl).1, (h.1 1 _ rfl).1, (h.1 1 _ rfl).2, h.2⟩
theorem nod_cells (hs : Sep B w (lptE tb m T ++ F)) (hk : T.sub π = .node b h l r) : (w.cell? ⟨b, 0, none⟩ = some l.ptr ∧ w.cell? ⟨b, 1, none⟩ = some r.ptr ∧ w.cell? ⟨b, 2, none⟩ = some (.int .i64 h)) ∧ (∀ j, j < 3 → w.frozen? ⟨b, j, none⟩ = false) ∧ B ≤ b := by
  have hh := hs.member (List.mem_append.2 (.inl (List.mem_cons_of_mem _ (LT.mem_ents T π hk))))
  refine ⟨⟨(hh.1 0 _ rfl).1, (hh.1 1 _ rfl).1, (hh.1 2 _ rfl).1⟩, fun j hj => ?_, hh.2⟩
  match j, hj with
  | 0, _ => exact (hh.1 0 _ rfl).2
  | 1, _ => exact (hh.1 1 _ rfl).2
  | 2, _ => exact (hh.1 2 _ rfl).2
end
end Go.Proofs.YtbcfcjecobihnaaGreatDoor

end

section
/- lpm.bit. -/
namespace Go.Proofs.YtbcfcjecobihnaaGreatDoor
open Go.RowKit
set_option linter.unusedVariables false
theorem wrap_i64_small (n : Int) (h0 : 0 ≤ n) (h1 : n < 2 ^ 20) : IntKind.i64.wrap n = n := by simp [IntKind.wrap, IntKind.bits, IntKind.signed]; omega
theorem bits_and_one (n : Nat) (h : n < 2 ^ 20) : bits .and .i64 (n : Int) 1 = ((n % 2 : Nat) : Int) := by
  have h1 := bits_mask .i64 20 (by decide) wrap_i64_small 1 (by decide) (n : Int) (by omega) (by omega)
  simpa using h1
theorem lpbit_any (a i : Nat) (w : World) (ha : a ≤ 65535) (hi : i ≤ 15) :
    Calls Tryz.prog 56 #[.int .i64 a, .int .i64 i] w fun e w' => e = .returned (.int .i64 ((a / 2 ^ (15 - i) % 2 : Nat) : Int)) ∧ w = w' := by
  have hlt : a / 2 ^ (15 - i) < 2 ^ 20 := Nat.lt_of_le_of_lt (Nat.div_le_self _ _) (by omega)
  have hb := bits_and_one (a / 2 ^ (15 - i)) hlt
  have he : ((a / 2 ^ (15 - i) : Nat) : Int) = (a : Int) / 2 ^ (15 - i) := by simp
  rw [he] at hb
  have HB := Lib.hid hb
  clear hb he hlt
  go_enter Tryz.func56, Tryz.ntmps56
  go_wp2
  go_ret
  exact ⟨ret_int HB.out, rfl⟩
end Go.Proofs.YtbcfcjecobihnaaGreatDoor

end
