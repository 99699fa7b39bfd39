/-
  Owned memory told as a list of things ('Sep'), apart from each other; slices of integers that are read ('IntSl'); laws of append, make, load and store over them. No program is named here.
-/
import Derived.WalkKit
import Derived.WalkSpells
import Derived.WalkLawsBesides
import Derived.Deep.QuietTactic
import Derived.BigQuiet
import Derived.Lib.Hide
import Derived.WalkSmall
namespace Go.Proofs.YtbcfcjecobihnaaDoor
open Go.RowKit

/-- A thing that is owned: its block (none: a nil slice), and what must hold of what lies there. -/
structure Ent where
  blk : Option Nat
  ok : Option Obj → Prop

def Ent.look (E : Ent) (w : World) : Option Obj := E.blk.bind fun g => w.heap[g]?

/-- All things of the list are there, from block B on, no two in one block. -/
def Sep (B : Nat) (w : World) (L : List Ent) : Prop :=
  (∀ E ∈ L, E.ok (E.look w) ∧ ∀ g, E.blk = some g → B ≤ g ∧ g < w.heap.size) ∧ L.Pairwise fun E F => ∀ g, E.blk = some g → F.blk ≠ some g

theorem Sep.nil (B : Nat) (w : World) : Sep B w [] := ⟨by simp, List.Pairwise.nil⟩

theorem Sep.perm {B : Nat} {w : World} {L L' : List Ent} (h : Sep B w L) (hp : L.Perm L') : Sep B w L' :=
  ⟨fun E hE => h.1 E (hp.mem_iff.2 hE), (hp.pairwise_iff (fun {_ _} hs g hg hb => hs g hb hg)).1 h.2⟩

theorem Sep.sub {B : Nat} {w : World} {L L' : List Ent} (h : Sep B w L) (hs : L'.Sublist L) : Sep B w L' :=
  ⟨fun E hE => h.1 E (hs.mem hE), h.2.sublist hs⟩

theorem Sep.mono {B B' : Nat} {w : World} {L : List Ent} (h : Sep B w L) (hB : B' ≤ B) : Sep B' w L :=
  ⟨fun E hE => ⟨(h.1 E hE).1, fun g hg => ⟨Nat.le_trans hB ((h.1 E hE).2 g hg).1, ((h.1 E hE).2 g hg).2⟩⟩, h.2⟩

theorem Ent.look_congr {E : Ent} {w w' : World} (h : ∀ g, E.blk = some g → w'.heap[g]? = w.heap[g]?) : E.look w' = E.look w := by
  unfold Ent.look
  cases hb : E.blk with
  | none => rfl
  | some g => simpa using h g hb

/-- The list stays as long as the blocks that were there stay. -/
theorem Sep.kept {B : Nat} {w w' : World} {L : List Ent} (h : Sep B w L) (hk : Below w.heap.size w w') : Sep B w' L :=
  ⟨fun E hE => ⟨by rw [Ent.look_congr fun g hg => hk.block g ((h.1 E hE).2 g hg).2]; exact (h.1 E hE).1,
    fun g hg => ⟨((h.1 E hE).2 g hg).1, Nat.lt_of_lt_of_le ((h.1 E hE).2 g hg).2 hk.size⟩⟩, h.2⟩

theorem below_alloc (w : World) (o : Obj) : Below w.heap.size w (w.alloc o) := (Below.refl _ w).alloc (Nat.le_refl _) o
theorem below_drewN (B : Nat) (w : World) (n : Nat) : Below B w (w.drewN n) := ⟨rfl, rfl, rfl, Nat.le_refl _, fun _ _ => rfl⟩
theorem below_drew (B : Nat) (w : World) : Below B w w.drew := ⟨rfl, rfl, rfl, Nat.le_refl _, fun _ _ => rfl⟩
theorem Sep.alloc {B : Nat} {w : World} {L : List Ent} (h : Sep B w L) (o : Obj) : Sep B (w.alloc o) L := h.kept (below_alloc w o)
theorem Sep.drewN {B : Nat} {w : World} {L : List Ent} (h : Sep B w L) (n : Nat) : Sep B (w.drewN n) L := h.kept (below_drewN _ w n)
theorem Sep.drew {B : Nat} {w : World} {L : List Ent} (h : Sep B w L) : Sep B w.drew L := h.kept (below_drew _ w)

/-- THE MASTER LAW: one thing turns, all others stay. -/
theorem Sep.upd {B : Nat} {w w' : World} {A C : List Ent} {E E' : Ent} (h : Sep B w (A ++ E :: C)) (hsz : w.heap.size ≤ w'.heap.size)
    (hk : ∀ k, k < w.heap.size → some k ≠ E.blk → w'.heap[k]? = w.heap[k]?) (hok : E'.ok (E'.look w'))
    (hb : ∀ g, E'.blk = some g → B ≤ g ∧ g < w'.heap.size ∧ (E.blk = some g ∨ w.heap.size ≤ g)) : Sep B w' (A ++ E' :: C) := by
  obtain ⟨h1, h2⟩ := h
  rw [List.pairwise_append, List.pairwise_cons] at h2
  obtain ⟨pA, ⟨pE, pC⟩, pAE⟩ := h2
  have hA : ∀ F ∈ A, ∀ g, F.blk = some g → E.blk ≠ some g := fun F hF g hg => pAE F hF E (by simp) g hg
  have hC : ∀ F ∈ C, ∀ g, F.blk = some g → E.blk ≠ some g := fun F hF g hg he => pE F hF g he hg
  have stays : ∀ F, F ∈ A ++ E :: C → (∀ g, F.blk = some g → E.blk ≠ some g) → F.ok (F.look w') ∧ ∀ g, F.blk = some g → B ≤ g ∧ g < w'.heap.size := by
    intro F hF hne
    have hf := h1 F hF
    refine ⟨?_, fun g hg => ⟨(hf.2 g hg).1, Nat.lt_of_lt_of_le (hf.2 g hg).2 hsz⟩⟩
    rw [Ent.look_congr fun g hg => hk g (hf.2 g hg).2 (fun e => hne g hg e.symm)]
    exact hf.1
  refine ⟨fun F hF => ?_, ?_⟩
  · rcases List.mem_append.1 hF with hF | hF
    · exact stays F (List.mem_append.2 (.inl hF)) (hA F hF)
    · rcases List.mem_cons.1 hF with rfl | hF
      · exact ⟨hok, fun g hg => ⟨(hb g hg).1, (hb g hg).2.1⟩⟩
      · exact stays F (List.mem_append.2 (.inr (List.mem_cons_of_mem _ hF))) (hC F hF)
  · have apart : ∀ F, F ∈ A ++ E :: C → (∀ g, F.blk = some g → E.blk ≠ some g) → ∀ g, F.blk = some g → E'.blk ≠ some g := by
      intro F hF hne g hg he
      rcases (hb g he).2.2 with h | h
      · exact hne g hg h
      · have := ((h1 F hF).2 g hg).2; omega
    rw [List.pairwise_append, List.pairwise_cons]
    refine ⟨pA, ⟨fun F hF g hg he => apart F (by simp [hF]) (hC F hF) g he hg, pC⟩, fun F hF G hG g hg => ?_⟩
    rcases List.mem_cons.1 hG with rfl | hG
    · exact apart F (by simp [hF]) (hA F hF) g hg
    · exact pAE F hF G (List.mem_cons_of_mem _ hG) g hg

/-- A new thing, behind a step that keeps what was there. -/
theorem Sep.push {B : Nat} {w w' : World} {L : List Ent} {E : Ent} (h : Sep B w L) (hBw : B ≤ w.heap.size) (hk : Below w.heap.size w w') (hok : E.ok (E.look w'))
    (hb : ∀ g, E.blk = some g → w.heap.size ≤ g ∧ g < w'.heap.size) : Sep B w' (E :: L) := by
  have h' := h.kept hk
  refine ⟨fun F hF => ?_, List.pairwise_cons.2 ⟨fun F hF g hg he => ?_, h'.2⟩⟩
  · rcases List.mem_cons.1 hF with rfl | hF
    · exact ⟨hok, fun g hg => ⟨Nat.le_trans hBw (hb g hg).1, (hb g hg).2⟩⟩
    · exact h'.1 F hF
  · have h1 := ((h.1 F hF).2 g he).2
    have h2 := (hb g hg).1
    omega

/-- What a callee made, beside what one had. -/
theorem Sep.join {B : Nat} {w w' : World} {L F : List Ent} (h : Sep B w F) (hBw : B ≤ w.heap.size) (hk : Below w.heap.size w w') (hL : Sep w.heap.size w' L) : Sep B w' (L ++ F) := by
  have h' := h.kept hk
  refine ⟨fun E hE => ?_, List.pairwise_append.2 ⟨hL.2, h'.2, fun E hE G hG g hg he => ?_⟩⟩
  · rcases List.mem_append.1 hE with hE | hE
    · exact ⟨(hL.1 E hE).1, fun g hg => ⟨Nat.le_trans hBw ((hL.1 E hE).2 g hg).1, ((hL.1 E hE).2 g hg).2⟩⟩
    · exact h'.1 E hE
  · have h1 := ((h.1 G hG).2 g he).2
    have h2 := ((hL.1 E hE).2 g hg).1
    omega

theorem Sep.mem {B : Nat} {w : World} {A C : List Ent} {E : Ent} (h : Sep B w (A ++ E :: C)) : E.ok (E.look w) ∧ ∀ g, E.blk = some g → B ≤ g ∧ g < w.heap.size := h.1 E (by simp)

/-- Two things lie in two blocks. -/
theorem Sep.apart {B : Nat} {w : World} {A C D : List Ent} {E E' : Ent} {g g' : Nat} (h : Sep B w (A ++ E :: (C ++ E' :: D))) (hg : E.blk = some g) (hg' : E'.blk = some g') : ¬ g = g' := by
  intro e
  subst e
  have h2 := h.2
  rw [List.pairwise_append, List.pairwise_cons] at h2
  exact h2.2.1.1 E' (by simp) g hg hg'

/-! ### A slice over a row of the call's own -/

/-- The slice v of n elements (of type e, 'size' cells each) owns its whole row; its cells are xs. -/
def Ent.row (v : Value) (n size : Nat) (e : TypeId) (xs : List Value) : Ent where
  blk := v.ownBlock
  ok := fun o => xs.length = n * size ∧ ((v = .slice none 0 0 ∧ n = 0) ∨
    ∃ g off cap cur, v = .slice (some ⟨g, off, none⟩) n cap ∧ o = some (.cells cur e (0, 0)) ∧ n ≤ cap ∧ cap ≤ maxLen ∧ cur.size = off + cap * size ∧ (cur.toList.drop off).take (n * size) = xs)

theorem Sep.rowNil {B : Nat} {w : World} {L : List Ent} (h : Sep B w L) (size : Nat) (e : TypeId) : Sep B w (Ent.row (.slice none 0 0) 0 size e [] :: L) := by
  refine ⟨fun F hF => ?_, List.pairwise_cons.2 ⟨fun F _ g hg => by simp [Ent.row, Value.ownBlock] at hg, h.2⟩⟩
  rcases List.mem_cons.1 hF with rfl | hF
  · exact ⟨⟨by simp, .inl ⟨rfl, rfl⟩⟩, fun g hg => by simp [Ent.row, Value.ownBlock] at hg⟩
  · exact h.1 F hF

section
variable {B : Nat} {w : World} {A C : List Ent} {v : Value} {n size : Nat} {e : TypeId} {xs : List Value}

theorem Sep.rowShape (h : Sep B w (A ++ Ent.row v n size e xs :: C)) : xs.length = n * size ∧ ∃ ao cap, v = .slice ao n cap ∧ n ≤ cap ∧ (ao = none → n = 0 ∧ cap = 0) := by
  have hm := h.mem.1
  refine ⟨hm.1, ?_⟩
  rcases hm.2 with ⟨rfl, rfl⟩ | ⟨g, off, cap, cur, rfl, _, hnc, _⟩
  · exact ⟨none, 0, rfl, Nat.le_refl _, by simp⟩
  · exact ⟨_, cap, rfl, hnc, by simp⟩

/-- Where there is an element: the address, the cells, none frozen. -/
theorem Sep.rowAt {ao : Option Addr} {cap : Nat} (h : Sep B w (A ++ Ent.row (.slice ao n cap) n size e xs :: C)) (hn : 0 < n) :
    ∃ g off, ao = some ⟨g, off, none⟩ ∧ B ≤ g ∧ (∀ j, j < n * size → w.cell? ⟨g, off + j, none⟩ = xs[j]?) ∧ (∀ j, w.frozen? ⟨g, j, none⟩ = false) := by
  have hm := h.mem
  rcases hm.1.2 with ⟨_, rfl⟩ | ⟨g, off, cap', cur, hv, ho, hnc, hcm, hcs, ht⟩
  · omega
  · simp only [Value.slice.injEq] at hv
    obtain ⟨rfl, _, rfl⟩ := hv
    refine ⟨g, off, rfl, (hm.2 g rfl).1, fun j hj => ?_, fun j => ?_⟩
    · have hh : w.heap[g]? = some (.cells cur e (0, 0)) := ho
      rw [cell_of_row w g (off + j) cur e (0, 0) hh, ← ht, List.getElem?_take, if_pos hj, List.getElem?_drop]
      simp
    · have hh : w.heap[g]? = some (.cells cur e (0, 0)) := ho
      exact frozen_of_row w g j cur e hh

/-- A store into the row. -/
theorem Sep.rowSet {g off cap : Nat} (h : Sep B w (A ++ Ent.row (.slice (some ⟨g, off, none⟩) n cap) n size e xs :: C)) (j : Nat) (u : Value) :
    Sep B (w.setCell ⟨g, off + j, none⟩ u) (A ++ Ent.row (.slice (some ⟨g, off, none⟩) n cap) n size e (xs.set j u) :: C) := by
  have hm := h.mem
  refine h.upd (by simp [World.setCell]) (fun k _ hk => heap_setCell_other w ⟨g, off + j, none⟩ k u (fun e => hk (by simp [Ent.row, Value.ownBlock, e]))) ?_ ?_
  · rcases hm.1.2 with ⟨h', _⟩ | ⟨g', off', cap', cur, hv, ho, hnc, hcm, hcs, ht⟩
    · simp at h'
    · simp only [Value.slice.injEq, Option.some.injEq, Addr.mk.injEq, and_true, true_and] at hv
      obtain ⟨⟨rfl, rfl⟩, rfl⟩ := hv
      have hh : w.heap[g]? = some (.cells cur e (0, 0)) := ho
      refine ⟨by simpa using hm.1.1, .inr ⟨g, off, cap, cur.setIfInBounds (off + j) u, rfl, ?_, hnc, hcm, by simpa using hcs, ?_⟩⟩
      · exact heap_setCell_same w g (off + j) cur e u hh
      · rw [Array.toList_setIfInBounds, ← ht, ← List.take_set, List.drop_set, if_neg (by omega)]
        congr 2
        omega
  · intro g' hg'
    have := hm.2 g' hg'
    exact ⟨this.1, by simpa [World.setCell] using this.2, .inl hg'⟩
end

/-- make: a new row, whole. -/
theorem Sep.rowMade {B : Nat} {w : World} {L : List Ent} (h : Sep B w L) (hBw : B ≤ w.heap.size) (cs : Array Value) (n size : Nat) (e : TypeId) (hs : cs.size = n * size) (hm : n ≤ maxLen) :
    Sep B (w.alloc (.cells cs e)) (Ent.row (.slice (some ⟨w.heap.size, 0, none⟩) n n) n size e cs.toList :: L) := by
  refine h.push hBw (below_alloc w _) ⟨by simpa using hs, .inr ⟨w.heap.size, 0, n, cs, rfl, ?_, Nat.le_refl _, hm, by simpa using hs, ?_⟩⟩ ?_
  · exact heap_alloc_new w _
  · rw [List.drop_zero, List.take_of_length_le (by rw [Array.length_toList, hs]; exact Nat.le_refl _)]
  · intro g hg
    simp [Ent.row, Value.ownBlock] at hg
    subst hg
    simp

/-! ### A block known whole; bytes -/

/-- A block of the call's own, known whole. -/
def Ent.blk1 (g : Nat) (e : TypeId) (cs : List Value) : Ent := ⟨some g, fun o => o = some (.cells cs.toArray e (0, 0))⟩
/-- A block that begins with these bytes; it is only read. -/
def Ent.u8s (g : Nat) (bs : List UInt8) : Ent := ⟨some g, fun o => ∃ cur e fr, o = some (.cells cur e fr) ∧ ∀ (j : Nat) (c : UInt8), bs[j]? = some c → cur[j]? = some (.int .u8 (c.toNat : Int))⟩

section
variable {B : Nat} {w : World} {A C F : List Ent} {g : Nat} {e : TypeId} {cs : List Value} {bs : List UInt8}
theorem Sep.blkNew (h : Sep B w F) (hBw : B ≤ w.heap.size) (cs : Array Value) (e : TypeId) : Sep B (w.alloc (.cells cs e)) (Ent.blk1 w.heap.size e cs.toList :: F) :=
  h.push hBw (below_alloc w _) (by show (w.alloc _).heap[w.heap.size]? = _; rw [heap_alloc_new]) (fun g hg => by simp [Ent.blk1] at hg; subst hg; simp)
theorem Sep.blkHeap (h : Sep B w (A ++ Ent.blk1 g e cs :: C)) : w.heap[g]? = some (.cells cs.toArray e (0, 0)) := h.mem.1
theorem Sep.blkLt (h : Sep B w (A ++ Ent.blk1 g e cs :: C)) : B ≤ g ∧ g < w.heap.size := h.mem.2 g rfl
theorem Sep.blkAt (h : Sep B w (A ++ Ent.blk1 g e cs :: C)) {j : Nat} {v : Value} (hv : cs[j]? = some v) : w.cell? ⟨g, j, none⟩ = some v ∧ w.frozen? ⟨g, j, none⟩ = false :=
  ⟨by rw [cell_of_row w g j _ e (0, 0) h.blkHeap]; simpa using hv, frozen_of_row w g j _ e h.blkHeap⟩
theorem Sep.blkSet (h : Sep B w (A ++ Ent.blk1 g e cs :: C)) (j : Nat) (u : Value) : Sep B (w.setCell ⟨g, j, none⟩ u) (A ++ Ent.blk1 g e (cs.set j u) :: C) := by
  refine h.upd (by simp [World.setCell]) (fun k _ hk => heap_setCell_other w ⟨g, j, none⟩ k u (fun e => hk (by simp [Ent.blk1, e]))) ?_ ?_
  · show (w.setCell _ _).heap[g]? = _
    rw [heap_setCell_same w g j _ e u h.blkHeap]
    simp
  · intro g' hg'
    have := h.mem.2 g' hg'
    exact ⟨this.1, by simpa [World.setCell] using this.2, .inl hg'⟩
theorem Sep.u8At (h : Sep B w (A ++ Ent.u8s g bs :: C)) {j : Nat} {c : UInt8} (hv : bs[j]? = some c) : w.cell? ⟨g, j, none⟩ = some (.int .u8 (c.toNat : Int)) := by
  obtain ⟨cur, e, fr, ho, hc⟩ := h.mem.1
  rw [cell_of_row w g j cur e fr ho]
  exact hc j c hv

/-- '[]byte(s)'. -/
theorem wpList_bytes {P : Program} {L : List Ent} {ops : Array Oper} {rest : List Oper} {o : Oper} {a : Act} {Q : Exit → Act → World → Prop} {src dst e : TypeId} (hw : Region.wanted o (yielded ops a.tmps) = true) (x : Operand)
    (ho : o.op = .convert src dst x) (s : ByteArray) (hx : a.eval x = .string s) (hs : P.underlying src = some .string) (hd : P.underlying dst = some (.slice e)) (he : P.underlying e = some (.int .u8))
    (hsep : Sep B w L) (hBw : B ≤ w.heap.size)
    (h : ∀ w' cap, Sep B w' (Ent.u8s w.heap.size s.data.toList :: L) → Below w.heap.size w w' → w'.heap.size = w.heap.size + 1 → s.size ≤ cap → wpList P ops Q rest (a.put o.dst (.slice (some ⟨w.heap.size, 0, none⟩) s.size cap)) w') : wpList P ops Q (o :: rest) a w := by
  refine wpList_step fun K hK => ?_
  rw [if_pos hw]
  have hr := run_bytes_of_string (P := P) w src dst e s hs hd he
  have hb : Below w.heap.size w (w.drew.alloc (.cells (bytesRow s (grownCap w s.size 0 e)) e ((bytesRow s (grownCap w s.size 0 e)).size, (bytesRow s (grownCap w s.size 0 e)).size + 1))) := ((Below.refl w.heap.size w).drew).alloc (Nat.le_refl _) _
  unfold Oper.wp
  simp only [execOp, ho, hx, hr, Sem.run_bind, Sem.run_pure, Result.andThen]
  refine hK _ _ (h _ _ (hsep.push hBw hb ⟨_, _, _, heap_alloc_new w.drew _, ?_⟩ ?_) hb (by simp) (grownCap_ge w s.size 0 e))
  · intro j c hj
    unfold bytesRow
    have hjl : j < s.data.toList.length := (List.getElem?_eq_some_iff.1 hj).1
    rw [Array.getElem?_append_left (by simpa using hjl), Array.getElem?_map, ← Array.getElem?_toList, hj]
    rfl
  · intro g hg
    simp [Ent.u8s] at hg
    subst hg
    simp
end

/-- 'string(b)', b's bytes known. -/
theorem run_string_of_bytes {P : Program} {w : World} {src dst e : TypeId} {b off len : Nat} (cap : Nat) {bs : List UInt8} (hs : P.underlying src = some (.slice e)) (he : P.underlying e = some (.int .u8)) (hd : P.underlying dst = some .string)
    (hl : bs.length = len) (h : ∀ (j : Nat) (c : UInt8), bs[j]? = some c → w.cell? ⟨b, off + j, none⟩ = some (.int .u8 (c.toNat : Int))) :
    (convert src dst (.slice (some ⟨b, off, none⟩) len cap)).run P w = .ok (.string ⟨bs.toArray⟩) w := by
  subst hl
  rw [run_convert_bytes_string w src dst e _ _ _ hs he hd]
  have hload : (loadCells ⟨b, off, none⟩ bs.length).run P w = .ok ((bs.map fun c => (c.toNat : Int)).map (Value.int .u8)).toArray w := by
    have := run_loadCells_list (P := P) w ⟨b, off, none⟩ ((bs.map fun c => (c.toNat : Int)).map (Value.int .u8)) (fun j v hv => by
      have hadd : (⟨b, off, none⟩ : Addr).add j = ⟨b, off + j, none⟩ := by unfold Addr.add; split <;> simp_all
      rw [hadd]
      simp only [List.getElem?_map] at hv
      cases hc : bs[j]? with
      | none => simp [hc] at hv
      | some c => simp [hc] at hv; subst hv; exact h j c hc)
    simpa using this
  rw [run_bytesToString w _ _ _ _ hload]
  congr 2
  have fold : ∀ (l : List UInt8) (a : ByteArray), (l.map fun c => (c.toNat : Int)).foldl (fun r n => r.push (UInt8.ofNat n.toNat)) a = ⟨a.data ++ l.toArray⟩ := by
    intro l
    induction l with
    | nil => intro a; simp
    | cons c l ih =>
      intro a
      simp only [List.map_cons, List.foldl_cons, ih]
      congr 1
      show (a.data.push (UInt8.ofNat (c.toNat : Int).toNat)) ++ l.toArray = _
      simp
  rw [fold]
  have he : ByteArray.empty.data = #[] := rfl
  rw [he, Array.empty_append]

/-! ### append -/

/-- What the walk asks of an element type. -/
structure ElemTy (P : Program) (t e : TypeId) (size bytes : Nat) (z : Value) : Prop where
  under : P.underlying t = some (.slice e)
  info : ∃ i, P.info? e = some i ∧ i.zero = some z ∧ i.size = size ∧ i.bytes = bytes
  zs : z.cells.size = size
  pos : 0 < size

section
variable {P : Program} {B : Nat} {w : World} {A C : List Ent} {v : Value} {n size bytes : Nat} {t e : TypeId} {z : Value} {xs : List Value}

/-- An operation that is carried out (its guard, if it has one, says yes). -/
theorem wpList_wanted {P : Program} {ops : Array Oper} {Q : Exit → Act → World → Prop} {a : Act} {w : World} {rest : List Oper} {o : Oper} (hw : Region.wanted o (yielded ops a.tmps) = true)
    (h : ∀ K : Act → World → Prop, (∀ a w, wpList P ops Q rest a w → K a w) → o.wp P a w K Q) : wpList P ops Q (o :: rest) a w :=
  wpList_step fun K hK => by rw [if_pos hw]; exact h K hK

theorem run_append_sep (T : ElemTy P t e size bytes z) (ty : TypeId) (h : Sep B w (A ++ Ent.row v n size e xs :: C)) (hBw : B ≤ w.heap.size)
    (a : Addr) (m c : Nat) (news : List Value) (hl : news.length = m * size) (hnews : ∀ j u, news[j]? = some u → w.cell? (a.add j) = some u) (h1 : ∀ u ∈ news, u.oneCell' = true) (hm0 : 0 < m)
    (hbytes : (n + m) * bytes ≤ 140737488355328) (h63 : n + m ≤ maxLen) :
    ∃ v' w', (Builtin.append_ #[t, t] ty #[v, .slice (some a) m c]).run P w = .ok v' w' ∧ Sep B w' (A ++ Ent.row v' (n + m) size e (xs ++ news) :: C) ∧ Below B w w' := by
  obtain ⟨ht, ⟨i, hi, hz, rfl, rfl⟩, hzs, hsz⟩ := T
  have hm := h.mem
  have hsmall : n + m ≤ 9223372036854775807 := by simp only [maxLen] at h63; omega
  have hlen : (xs ++ news).length = (n + m) * i.size := by rw [List.length_append, hm.1.1, hl, Nat.add_mul]
  have grown : ∀ (old : Nat), old < n + m →
      Sep B (w.drew.alloc (.cells (xs.toArray ++ news.toArray ++ Builtin.zeroCells z.cells (grownCap w (n + m) old e - (n + m))) e))
        (A ++ Ent.row (.slice (some ⟨w.heap.size, 0, none⟩) (n + m) (grownCap w (n + m) old e)) (n + m) i.size e (xs ++ news) :: C) := by
    intro old ho
    have hge := grownCap_ge w (n + m) old e
    have hcm : grownCap w (n + m) old e ≤ maxLen := grownCap_le_maxLen w (n + m) old e h63
    refine h.upd (by simp) (fun k hk _ => Below.heap_alloc w.drew _ k hk) ⟨hlen, .inr ⟨w.heap.size, 0, _, _, rfl, heap_alloc_new w.drew _, hge, hcm, ?_, ?_⟩⟩ ?_
    · simp only [Array.size_append, List.size_toArray, size_zeroCells, hzs, hm.1.1, hl, ← Nat.add_mul]
      rw [Nat.zero_add]
      congr 1
      omega
    · simp only [Array.toList_append, List.append_assoc, List.drop_zero]
      rw [← List.append_assoc, ← hlen]
      exact List.take_left
    · intro g hg
      simp [Ent.row, Value.ownBlock] at hg
      subst hg
      exact ⟨hBw, by simp, .inr (Nat.le_refl _)⟩
  have grownB : ∀ o : Obj, Below B w (w.drew.alloc o) := fun o => ((Below.refl B w).drew).alloc hBw o
  rcases hm.1.2 with ⟨rfl, rfl⟩ | ⟨g, off, cap, cur, rfl, hg, hnc, hcm, hcs, htake⟩
  · have hx : xs = [] := List.eq_nil_of_length_eq_zero (by simpa using hm.1.1)
    subst hx
    have hr := run_append_nil (P := P) w t ty e i z ht hi hz a m c news hl hnews hm0 (by omega) (by have hb := hbytes; simp only [Nat.zero_add] at hb; omega)
    have hgr := grown 0 (by omega)
    simp only [Nat.zero_add, List.nil_append, Array.empty_append] at hgr ⊢
    exact ⟨_, _, hr, hgr, grownB _⟩
  · have hg' : w.heap[g]? = some (.cells cur e (0, 0)) := hg
    have hBg := (hm.2 g rfl).1
    have hgs := (hm.2 g rfl).2
    by_cases hroom : n + m ≤ cap
    · have hfit : off + n * i.size + news.length ≤ cur.size := by
        have := Nat.mul_le_mul_right i.size hroom
        rw [Nat.add_mul] at this; rw [hl, hcs]; omega
      have hf := run_firstCells_some (P := P) w i.size m a m c news hl hnews
      have hst := run_storeCells_at P g (off + n * i.size) e news 0 cur w hg' (by simpa using hfit) h1
      simp only [Nat.add_zero] at hst
      have hadd : (⟨g, off, none⟩ : Addr).add (n * i.size) = ⟨g, off + n * i.size, none⟩ := by unfold Addr.add; split <;> simp_all
      have hr : (Builtin.append_ #[t, t] ty #[.slice (some ⟨g, off, none⟩) n cap, .slice (some a) m c]).run P w =
          .ok (.slice (some ⟨g, off, none⟩) (n + m) cap) (w.setRow g (cur.toList.take (off + n * i.size) ++ news ++ cur.toList.drop (off + n * i.size + news.length)).toArray) := by
        simp [Builtin.append_, run_underlying ht, sizeOf, typeInfo, hi, Builtin.lenOf, hroom, hf, hadd, hst]
      refine ⟨_, _, hr, h.upd (by simp) (fun k _ hk => setRow_other w g k _ (fun e => hk (by simp [Ent.row, Value.ownBlock, e]))) ⟨hlen, .inr ⟨g, off, cap, _, rfl, setRow_heap w g cur _ e _ hg', hroom, hcm, ?_, ?_⟩⟩ ?_, ?_⟩
      · simp only [List.size_toArray, List.length_append, List.length_take, List.length_drop, Array.length_toList]
        omega
      · have hto : cur.toList.take (off + n * i.size) = cur.toList.take off ++ xs := by rw [List.take_add, htake]
        have hoff : (cur.toList.take off).length = off := by rw [List.length_take, Array.length_toList]; omega
        simp only [hto, List.append_assoc]
        rw [List.drop_append_of_le_length (by omega), List.drop_of_length_le (by omega), List.nil_append, ← List.append_assoc, ← hlen]
        exact List.take_left
      · intro g' hg''
        simp [Ent.row, Value.ownBlock] at hg''
        subst hg''
        exact ⟨hBg, by simpa using hgs, .inl rfl⟩
      · exact ⟨rfl, rfl, rfl, by simp, fun k hk => setRow_other w g k _ (by omega)⟩
    · have holds : ∀ j u, xs[j]? = some u → w.cell? ((⟨g, off, none⟩ : Addr).add j) = some u := by
        intro j u hu
        have hadd : (⟨g, off, none⟩ : Addr).add j = ⟨g, off + j, none⟩ := by unfold Addr.add; split <;> simp_all
        rw [hadd, cell_of_row w g (off + j) cur e (0, 0) hg']
        rw [← htake, List.getElem?_take, List.getElem?_drop] at hu
        split at hu
        · simpa using hu
        · cases hu
      have hr := run_append_grow (P := P) w t ty e i z ht hi hz ⟨g, off, none⟩ n cap xs hm.1.1 holds a m c news hl hnews (by omega) (by omega) (growslice_fits (by omega) hbytes)
      have hgr := grown cap (by omega)
      exact ⟨_, _, hr, hgr, grownB _⟩

/-- 'out = append(out, ..)', out the call's own. -/
theorem wpList_append_sep {ops : Array Oper} {rest : List Oper} {o : Oper} {a : Act} {Q : Exit → Act → World → Prop} (hgd : Region.wanted o (yielded ops a.tmps) = true) (s x : Operand)
    (ho : o.op = .call { callee := .builtin .append, args := #[s, x], argTypes := #[t, t] }) (T : ElemTy P t e size bytes z)
    (hs : a.eval s = v) (hsep : Sep B w (A ++ Ent.row v n size e xs :: C)) (hBw : B ≤ w.heap.size)
    (ad : Addr) (m c : Nat) (news : List Value) (hx : a.eval x = .slice (some ad) m c) (hl : news.length = m * size) (hnews : ∀ j u, news[j]? = some u → w.cell? (ad.add j) = some u) (h1 : ∀ u ∈ news, u.oneCell' = true) (hm0 : 0 < m)
    (hbytes : (n + m) * bytes ≤ 140737488355328) (h63 : n + m ≤ maxLen)
    (h : ∀ v' w', Sep B w' (A ++ Ent.row v' (n + m) size e (xs ++ news) :: C) → Below B w w' → wpList P ops Q rest (a.put o.dst v') w') : wpList P ops Q (o :: rest) a w := by
  refine wpList_wanted hgd fun K hK => ?_
  obtain ⟨v', w', hr, h2, h3⟩ := run_append_sep T o.type hsep hBw ad m c news hl hnews h1 hm0 hbytes h63
  unfold Oper.wp execOp
  simp only [ho, resolve, invoke, builtin, Sem.run_bind, Sem.run_pure, Result.andThen_ok, List.map_toArray, List.map_cons, List.map_nil, hs, hx, hr]
  exact hK _ _ (h v' w' h2 h3)
end

/-! ### make; rows of structs -/

/-- 'make([]T, n)'. -/
theorem wpList_make_sep {P : Program} {B : Nat} {w : World} {F : List Ent} {t e : TypeId} {size bytes : Nat} {z : Value} {ops : Array Oper} {rest : List Oper} {o : Oper} {a : Act} {Q : Exit → Act → World → Prop}
    (hg : Region.wanted o (yielded ops a.tmps) = true) (l c : Operand) (hop : o.op = Op.makeSlice t l c) (T : ElemTy P t e size bytes z)
    (kl kc : IntKind) (L C : Int) (n : Nat) (hl : a.eval l = .int kl L) (hc : a.eval c = .int kc C) (hL : L = (n : Int)) (hC : C = (n : Int)) (b2 : bytes * n ≤ 281474976710656) (b3 : n ≤ maxLen)
    (hsep : Sep B w F) (hBw : B ≤ w.heap.size)
    (hK : ∀ w', Sep B w' (Ent.row (.slice (some ⟨w.heap.size, 0, none⟩) n n) n size e (madeCells z.cells (n * size)).toList :: F) → Below w.heap.size w w' → w'.heap.size = w.heap.size + 1 → wpList P ops Q rest (a.put o.dst (.slice (some ⟨w.heap.size, 0, none⟩) n n)) w') :
    wpList P ops Q (o :: rest) a w := by
  refine wpList_wanted hg fun K hK' => ?_
  obtain ⟨ht, ⟨i, hi, hz, rfl, rfl⟩, hzs, hsz⟩ := T
  subst hL
  subst hC
  have h63' : (n : Int) ≤ 9223372036854775807 := by simp only [maxLen] at b3; omega
  have hb' : (i.bytes : Int) * (n : Int) ≤ 281474976710656 := by
    have h : ((i.bytes * n : Nat) : Int) ≤ 281474976710656 := by omega
    rwa [Int.natCast_mul] at h
  have hr := run_make (P := P) w t e i z ht hi hz kl kc n n (by omega) (Int.le_refl _) hb' h63'
  simp only [Int.toNat_natCast] at hr
  unfold Oper.wp
  simp [execOp, hop, hl, hc, hr, Result.andThen]
  exact hK' _ _ (hK _ (hsep.rowMade hBw _ n i.size e (size_madeCells _ _) b3) (below_alloc w _) (by simp))

theorem madeCells_flat (z : Array Value) (n : Nat) : (madeCells z (n * z.size)).toList = (List.replicate n z.toList).flatten := by
  induction n with
  | zero => simp [madeCells]
  | succ n ih =>
    rw [List.replicate_succ', List.flatten_concat, ← ih]
    simp only [madeCells, Array.toList_map, Array.toList_range, Nat.add_mul, Nat.one_mul, List.range_add, List.map_append, List.map_map]
    congr 1
    apply List.ext_getElem?
    intro j
    by_cases hj : j < z.size
    · simp [hj, Nat.mod_eq_of_lt hj]
    · simp [hj]

theorem flat_get {α : Type} (f : α → List Value) (c : Nat) (hf : ∀ x, (f x).length = c) {j : Nat} (hj : j < c) : ∀ (xs : List α) (k : Nat) (x : α), xs[k]? = some x → (xs.flatMap f)[k * c + j]? = (f x)[j]?
  | [], k, x, h => by simp at h
  | y :: r, 0, x, h => by
    simp at h; subst h
    simp only [Nat.zero_mul, Nat.zero_add, List.flatMap_cons]
    rw [List.getElem?_append_left (by rw [hf]; exact hj)]
  | y :: r, k + 1, x, h => by
    simp only [List.getElem?_cons_succ] at h
    simp only [List.flatMap_cons]
    rw [List.getElem?_append_right (by rw [hf, Nat.add_mul]; omega), hf, ← flat_get f c hf hj r k x h]
    congr 1
    rw [Nat.add_mul]; omega

theorem flat_set {α : Type} (f : α → List Value) (c : Nat) (hf : ∀ x, (f x).length = c) {j : Nat} (hj : j < c) (u : Value) : ∀ (xs : List α) (k : Nat) (x x' : α), xs[k]? = some x → f x' = (f x).set j u → (xs.flatMap f).set (k * c + j) u = (xs.set k x').flatMap f
  | [], k, x, x', h, _ => by simp at h
  | y :: r, 0, x, x', h, he => by
    simp at h; subst h
    simp only [Nat.zero_mul, Nat.zero_add, List.flatMap_cons, List.set_cons_zero]
    rw [List.set_append_left _ _ (by rw [hf]; exact hj), he]
  | y :: r, k + 1, x, x', h, he => by
    simp only [List.getElem?_cons_succ] at h
    simp only [List.flatMap_cons, List.set_cons_succ]
    rw [List.set_append_right _ _ (by rw [hf, Nat.add_mul]; omega), hf, ← flat_set f c hf hj u r k x x' h he]
    congr 2
    rw [Nat.add_mul]; omega

theorem flat_set2 {α : Type} (f : α → List Value) (c : Nat) (hf : ∀ x, (f x).length = c) {j k : Nat} (hj : j < c) (hk : k < c) (u v : Value) : ∀ (xs : List α) (i : Nat) (x x' : α), xs[i]? = some x → f x' = ((f x).set j u).set k v → ((xs.flatMap f).set (i * c + j) u).set (i * c + k) v = (xs.set i x').flatMap f
  | [], i, x, x', h, _ => by simp at h
  | y :: r, 0, x, x', h, he => by
    simp at h; subst h
    simp only [Nat.zero_mul, Nat.zero_add, List.flatMap_cons, List.set_cons_zero]
    rw [List.set_append_left _ _ (by rw [hf]; exact hj), List.set_append_left _ _ (by rw [List.length_set, hf]; exact hk), he]
  | y :: r, i + 1, x, x', h, he => by
    simp only [List.getElem?_cons_succ] at h
    simp only [List.flatMap_cons, List.set_cons_succ]
    rw [List.set_append_right _ _ (by rw [hf, Nat.add_mul]; omega), List.set_append_right _ _ (by rw [hf, Nat.add_mul]; omega), hf, ← flat_set2 f c hf hj hk u v r i x x' h he]
    congr 2
    · congr 1; rw [Nat.add_mul]; omega
    · rw [Nat.add_mul]; omega

theorem flat_len {α : Type} (f : α → List Value) (c : Nat) (hf : ∀ x, (f x).length = c) (xs : List α) : (xs.flatMap f).length = xs.length * c := by
  induction xs with
  | nil => simp
  | cons y r ih => simp only [List.flatMap_cons, List.length_append, hf, ih, List.length_cons, Nat.add_mul]; omega

/-! ### Integers -/

/-- A row of ints: the slice v owns it, its numbers are xs. -/
def Ent.ints (e : TypeId) (v : Value) (xs : List Int) : Ent := Ent.row v xs.length 1 e (xs.map (Value.int .i64))

/-- 'out = append(out, x)', out a row of ints of the call's own: the element lies in a new block of its own, the last one. -/
theorem wpList_append_int {P : Program} {B : Nat} {w : World} {A C : List Ent} {v : Value} {t e te : TypeId} {xs : List Int} {y : Int} {ops : Array Oper} {rest : List Oper} {o : Oper} {a : Act} {Q : Exit → Act → World → Prop} (hgd : Region.wanted o (yielded ops a.tmps) = true) (s x : Operand)
    (ho : o.op = .call { callee := .builtin .append, args := #[s, x], argTypes := #[t, t] }) (T : ElemTy P t e 1 8 (.int .i64 0))
    (hs : a.eval s = v) (hsep : Sep B w (A ++ Ent.ints e v xs :: C)) (hBw : B ≤ w.heap.size)
    (hx : a.eval x = .slice (some ⟨w.heap.size, 0, none⟩) 1 1) (hlen : xs.length ≤ 1000000000)
    (h : ∀ v' w', Sep B w' (A ++ Ent.ints e v' (xs ++ [y]) :: C) → Below B w w' → wpList P ops Q rest (a.put o.dst v') w') : wpList P ops Q (o :: rest) a (w.alloc (.cells #[.int .i64 y] te)) := by
  refine wpList_append_sep hgd s x ho T hs (hsep.alloc _) (by simp; omega) ⟨w.heap.size, 0, none⟩ 1 1 [.int .i64 y] hx rfl ?_ ?_ (by omega) (by omega) (by unfold maxLen; omega) ?_
  · intro j u hj
    match j, hj with
    | 0, hj => simp at hj; subst hj; simp [Addr.add]
  · intro u hu; simp at hu; subst hu; rfl
  · intro v' w' h1 h2
    refine h v' w' ?_ (((Below.refl B w).alloc hBw _).trans h2)
    simpa [Ent.ints] using h1

theorem Sep.intsNil {B : Nat} {w : World} {L : List Ent} (h : Sep B w L) (e : TypeId) : Sep B w (Ent.ints e (.slice none 0 0) [] :: L) := h.rowNil 1 e

/-- The numbers of a slice that is read: at each place below block B. -/
def IntSl (B : Nat) (w : World) (ao : Option Addr) (xs : List Int) : Prop :=
  ∀ j x, xs[j]? = some x → ∃ b off, ao = some ⟨b, off, none⟩ ∧ b < B ∧ w.cell? ⟨b, off + j, none⟩ = some (.int .i64 x)

theorem IntSl.below {B : Nat} {w w' : World} {ao : Option Addr} {xs : List Int} (h : IntSl B w ao xs) (hk : Below B w w') : IntSl B w' ao xs := by
  intro j x hx
  obtain ⟨b, off, rfl, hb, hc⟩ := h j x hx
  exact ⟨b, off, rfl, hb, (hk.cell (p := ⟨b, off + j, none⟩) hb).trans hc⟩

theorem IntSl.mono {B B' : Nat} {w : World} {ao : Option Addr} {xs : List Int} (h : IntSl B w ao xs) (hB : B ≤ B') : IntSl B' w ao xs := by
  intro j x hx
  obtain ⟨b, off, e, hb, hc⟩ := h j x hx
  exact ⟨b, off, e, Nat.lt_of_lt_of_le hb hB, hc⟩

theorem IntSl.nil (B : Nat) (w : World) (ao : Option Addr) : IntSl B w ao [] := by intro j x hx; simp at hx

theorem Sep.intsShape {B : Nat} {w : World} {A C : List Ent} {e : TypeId} {v : Value} {xs : List Int} (h : Sep B w (A ++ Ent.ints e v xs :: C)) : ∃ ao cap, v = .slice ao xs.length cap ∧ xs.length ≤ cap ∧ (ao = none → xs.length = 0 ∧ cap = 0) := h.rowShape.2

theorem Sep.intsAt {B : Nat} {w : World} {A C : List Ent} {e : TypeId} {ao : Option Addr} {cap : Nat} {xs : List Int} (h : Sep B w (A ++ Ent.ints e (.slice ao xs.length cap) xs :: C)) {j : Nat} {x : Int} (hx : xs[j]? = some x) :
    ∃ g off, ao = some ⟨g, off, none⟩ ∧ w.cell? ⟨g, off + j, none⟩ = some (.int .i64 x) ∧ w.frozen? ⟨g, off + j, none⟩ = false := by
  have hj : j < xs.length := (List.getElem?_eq_some_iff.1 hx).1
  obtain ⟨g, off, rfl, _, hc, hf⟩ := Sep.rowAt h (by omega)
  exact ⟨g, off, rfl, by rw [hc j (by omega)]; simp [hx], hf _⟩

theorem Sep.intSl {B : Nat} {w : World} {A C : List Ent} {e : TypeId} {ao : Option Addr} {cap : Nat} {xs : List Int} (h : Sep B w (A ++ Ent.ints e (.slice ao xs.length cap) xs :: C)) : IntSl w.heap.size w ao xs := by
  intro j x hx
  obtain ⟨g, off, rfl, hc, _⟩ := h.intsAt hx
  exact ⟨g, off, rfl, World.block_lt_of_cell? w _ hc, hc⟩

theorem Sep.intsSet {B : Nat} {w : World} {A C : List Ent} {e : TypeId} {g off cap : Nat} {xs : List Int} (h : Sep B w (A ++ Ent.ints e (.slice (some ⟨g, off, none⟩) xs.length cap) xs :: C)) (j : Nat) (y : Int) :
    Sep B (w.setCell ⟨g, off + j, none⟩ (.int .i64 y)) (A ++ Ent.ints e (.slice (some ⟨g, off, none⟩) xs.length cap) (xs.set j y) :: C) := by
  have := Sep.rowSet h j (.int .i64 y)
  simpa [Ent.ints, List.map_set] using this

/-! ### Slices of slices -/

/-- The address behind 's[k:]': at the very end of the capacity it stays. -/
def cutAddr (ao : Option Addr) (cap k size : Nat) : Option Addr := if cap = k then ao else ao.map (·.add (k * size))

section
variable {P : Program} {w : World} {t e : TypeId} {size bytes : Nat} {z : Value} {ops : Array Oper} {rest : List Oper} {o : Oper} {a : Act} {Q : Exit → Act → World → Prop}

/-- 's[k:]'. -/
theorem wpList_slice_from (hgd : Region.wanted o (yielded ops a.tmps) = true) (x l : Operand) (ho : o.op = .slice t x (some l) none none) (T : ElemTy P t e size bytes z)
    (ao : Option Addr) (len cap : Nat) (hx : a.eval x = .slice ao len cap) (k : Nat) (kl : IntKind) (hl : a.eval l = .int kl (k : Int)) (hk : k ≤ len)
    (h : wpList P ops Q rest (a.put o.dst (.slice (cutAddr ao cap k size) (len - k) (cap - k))) w) : wpList P ops Q (o :: rest) a w := by
  refine wpList_wanted hgd fun K hK => ?_
  obtain ⟨ht, ⟨i, hi, hz, rfl, rfl⟩, hzs, hsz⟩ := T
  have hk' : (0 : Int) ≤ (k : Int) ∧ (k : Int) ≤ (len : Int) := by omega
  have hr : (Instr.sliceAt t (.slice ao len cap) (some (.int kl (k : Int))) none none).run P w = .ok (.slice (cutAddr ao cap k i.size) (len - k) (cap - k)) w := by
    simp [Instr.sliceAt, Instr.slice, run_underlying ht, Instr.sliceBounds, Instr.sliceBound, asIntOf, hk, sizeOf, typeInfo, hi, cutAddr]
  unfold Oper.wp
  simp [execOp, ho, hx, hl, hr, Result.andThen]
  exact hK _ _ h

/-- 's[:k]'. -/
theorem wpList_slice_to (hgd : Region.wanted o (yielded ops a.tmps) = true) (x l : Operand) (ho : o.op = .slice t x none (some l) none) (T : ElemTy P t e size bytes z)
    (ao : Option Addr) (len cap : Nat) (hx : a.eval x = .slice ao len cap) (k : Nat) (kl : IntKind) (hl : a.eval l = .int kl (k : Int)) (hk : k ≤ cap)
    (h : wpList P ops Q rest (a.put o.dst (.slice ao k cap)) w) : wpList P ops Q (o :: rest) a w := by
  refine wpList_wanted hgd fun K hK => ?_
  obtain ⟨ht, ⟨i, hi, hz, rfl, rfl⟩, hzs, hsz⟩ := T
  have hk' : (0 : Int) ≤ (k : Int) ∧ (k : Int) ≤ (cap : Int) := by omega
  have hr : (Instr.sliceAt t (.slice ao len cap) none (some (.int kl (k : Int))) none).run P w = .ok (.slice ao k cap) w := by
    have e0 : (Option.map (fun x : Addr => x.add 0) ao) = ao := by cases ao <;> simp [Addr.add]
    simp [Instr.sliceAt, Instr.slice, run_underlying ht, Instr.sliceBounds, Instr.sliceBound, asIntOf, hk, sizeOf, typeInfo, hi, e0]
  unfold Oper.wp
  simp [execOp, ho, hx, hl, hr, Result.andThen]
  exact hK _ _ h
end

/-- 'arr[l:h]' and 'arr[l:]' of an array behind a pointer, elements of one cell. -/
theorem run_sliceAt_arr {P : Program} (w : World) {t e : TypeId} {n : Nat} (ht : P.underlying t = some (.array n e)) (hi : (P.info? e).map (·.size) = some 1) (b off l h : Nat) (kl kh : IntKind) (h1 : l ≤ h) (h2 : h ≤ n) (h3 : l < n) :
    (Instr.sliceAt t (.pointer (some ⟨b, off, none⟩)) (some (.int kl (l : Int))) (some (.int kh (h : Int))) none).run P w = .ok (.slice (some ⟨b, off + l, none⟩) (h - l) (n - l)) w := by
  cases hq : P.info? e with
  | none => simp [hq] at hi
  | some i =>
    simp [hq] at hi
    have hne : ¬ n = l := by omega
    have ha : (⟨b, off, none⟩ : Addr).add l = ⟨b, off + l, none⟩ := by unfold Addr.add; split <;> simp_all
    simp [Instr.sliceAt, Instr.sureAddr, run_underlying ht, Instr.sliceBounds, Instr.sliceBound, asIntOf, h1, h2, sizeOf, typeInfo, hq, hi, hne, ha]
theorem run_sliceAt_arr_from {P : Program} (w : World) {t e : TypeId} {n : Nat} (ht : P.underlying t = some (.array n e)) (hi : (P.info? e).map (·.size) = some 1) (b off l : Nat) (kl : IntKind) (h3 : l < n) :
    (Instr.sliceAt t (.pointer (some ⟨b, off, none⟩)) (some (.int kl (l : Int))) none none).run P w = .ok (.slice (some ⟨b, off + l, none⟩) (n - l) (n - l)) w := by
  cases hq : P.info? e with
  | none => simp [hq] at hi
  | some i =>
    simp [hq] at hi
    have hne : ¬ n = l := by omega
    have h3' : l ≤ n := by omega
    have ha : (⟨b, off, none⟩ : Addr).add l = ⟨b, off + l, none⟩ := by unfold Addr.add; split <;> simp_all
    simp [Instr.sliceAt, Instr.sureAddr, run_underlying ht, Instr.sliceBounds, Instr.sliceBound, asIntOf, h3', sizeOf, typeInfo, hq, hi, hne, ha]
/-- .. at the array's very end: nothing, at the old address. -/
theorem run_sliceAt_arr_end {P : Program} (w : World) {t e : TypeId} {n : Nat} (ht : P.underlying t = some (.array n e)) (hi : (P.info? e).map (·.size) = some 1) (b off : Nat) (kl kh : IntKind) :
    (Instr.sliceAt t (.pointer (some ⟨b, off, none⟩)) (some (.int kl (n : Int))) (some (.int kh (n : Int))) none).run P w = .ok (.slice (some ⟨b, off, none⟩) 0 0) w := by
  cases hq : P.info? e with
  | none => simp [hq] at hi
  | some i =>
    simp [hq] at hi
    simp [Instr.sliceAt, Instr.sureAddr, run_underlying ht, Instr.sliceBounds, Instr.sliceBound, asIntOf, sizeOf, typeInfo, hq]
theorem run_sliceAt_arr_from_end {P : Program} (w : World) {t e : TypeId} {n : Nat} (ht : P.underlying t = some (.array n e)) (hi : (P.info? e).map (·.size) = some 1) (b off : Nat) (kl : IntKind) :
    (Instr.sliceAt t (.pointer (some ⟨b, off, none⟩)) (some (.int kl (n : Int))) none none).run P w = .ok (.slice (some ⟨b, off, none⟩) 0 0) w := by
  cases hq : P.info? e with
  | none => simp [hq] at hi
  | some i =>
    simp [hq] at hi
    simp [Instr.sliceAt, Instr.sureAddr, run_underlying ht, Instr.sliceBounds, Instr.sliceBound, asIntOf, sizeOf, typeInfo, hq]

theorem IntSl.cut {B : Nat} {w : World} {ao : Option Addr} {xs : List Int} {cap k : Nat} (h : IntSl B w ao xs) (hc : xs.length ≤ cap) : IntSl B w (cutAddr ao cap k 1) (xs.drop k) := by
  intro j x hx
  rw [List.getElem?_drop] at hx
  have hj : k + j < xs.length := (List.getElem?_eq_some_iff.1 hx).1
  obtain ⟨b, off, rfl, hb, hcell⟩ := h _ x hx
  refine ⟨b, off + k, ?_, hb, by rw [show off + k + j = off + (k + j) by omega]; exact hcell⟩
  unfold cutAddr
  rw [if_neg (by omega)]
  by_cases hk : k = 0
  · subst hk; simp [Addr.add]
  · simp [Addr.add, hk]

theorem IntSl.take {B : Nat} {w : World} {ao : Option Addr} {xs : List Int} {k : Nat} (h : IntSl B w ao xs) : IntSl B w ao (xs.take k) := by
  intro j x hx
  rw [List.getElem?_take] at hx
  split at hx
  · exact h j x hx
  · cases hx

/-- The elements of a slice that is read, each of 'size' cells. -/
def RowSl (B : Nat) (w : World) (ao : Option Addr) (size : Nat) (rows : List (List Value)) : Prop :=
  ∀ (j : Nat) (cs : List Value), rows[j]? = some cs → ∃ b off, ao = some ⟨b, off, none⟩ ∧ b < B ∧ ∀ (t : Nat) (v : Value), cs[t]? = some v → w.cell? ⟨b, off + j * size + t, none⟩ = some v
theorem RowSl.below {B : Nat} {w w' : World} {ao : Option Addr} {size : Nat} {rows : List (List Value)} (h : RowSl B w ao size rows) (hk : Below B w w') : RowSl B w' ao size rows := by
  intro j cs hj
  obtain ⟨b, off, rfl, hb, hc⟩ := h j cs hj
  exact ⟨b, off, rfl, hb, fun t v hv => (hk.cell (p := ⟨b, off + j * size + t, none⟩) hb).trans (hc t v hv)⟩

/-- A literal slice: a new block, the last one. -/
theorem intSl_new (w : World) (cs : Array Value) (e : TypeId) (xs : List Int) (h : cs.toList = xs.map (Value.int .i64)) : IntSl (w.heap.size + 1) (w.alloc (.cells cs e)) (some ⟨w.heap.size, 0, none⟩) xs := by
  intro j x hx
  refine ⟨w.heap.size, 0, rfl, by omega, ?_⟩
  rw [cell_of_row _ w.heap.size (0 + j) cs e (0, 0) (heap_alloc_new w _)]
  rw [← Array.getElem?_toList, h, Nat.zero_add]
  simp [hx]

theorem below_of_drew {w w' : World} (h : ∃ n, w' = w.drewN n) : Below w.heap.size w w' := by
  obtain ⟨n, rfl⟩ := h; exact below_drewN _ _ _
/-- What is read stays readable behind a new block. -/
theorem IntSl.past {w : World} {ao : Option Addr} {xs : List Int} {B : Nat} (h : IntSl B w ao xs) (hB : B ≤ w.heap.size) (o : Obj) : IntSl B (w.alloc o) ao xs := h.below ((below_alloc w o).mono hB)
/-- .. and behind a step that keeps all that was there. -/
theorem IntSl.on {w w' : World} {ao : Option Addr} {xs : List Int} {B : Nat} (h : IntSl B w ao xs) (hB : B ≤ w.heap.size) (hk : Below w.heap.size w w') : IntSl B w' ao xs := h.below (hk.mono hB)
/-- A step behind a new block. -/
theorem below_past {w w' : World} {o : Obj} (h : Below (w.alloc o).heap.size (w.alloc o) w') : Below w.heap.size w w' := (below_alloc w o).trans (h.mono (by simp))

/-- A callee that leaves the world alone, met inside a region that draws. -/
theorem quiet_id {P : Program} {f : FuncId} {args : Array Value} {W : World} {v : Value} {S : World → Prop} (h : Calls P f args W fun e w' => e = .returned v ∧ W = w') (hS : S W) :
    Calls P f args W fun e w'' => e = .returned v ∧ S w'' := h.mono fun _ _ ⟨he, hw⟩ => ⟨he, hw ▸ hS⟩
/-- .. one that only draws. -/
theorem quiet_dr {P : Program} {f : FuncId} {args : Array Value} {W : World} {v : Value} {S : World → Prop} (h : Calls P f args W fun e w' => e = .returned v ∧ ∃ n, w' = W.drewN n) (hS : ∀ n, S (W.drewN n)) :
    Calls P f args W fun e w'' => e = .returned v ∧ S w'' := h.mono fun _ _ ⟨he, n, hw⟩ => ⟨he, hw ▸ hS n⟩

theorem drewN_two (w : World) (n m : Nat) : ∃ k, (w.drewN n).drewN m = w.drewN k := ⟨n + m, by simp [World.drewN, Nat.add_assoc]⟩
theorem ret_bool {a b : Bool} (h : a = b) : Ending.returned (.bool a) = .returned (.bool b) := by rw [h]
theorem ret_int {k : IntKind} {a b : Int} (h : a = b) : Ending.returned (.int k a) = .returned (.int k b) := by rw [h]
end Go.Proofs.YtbcfcjecobihnaaDoor
