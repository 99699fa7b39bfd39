/- A map that is owned: its block, its entries in their order; what a look-up, a store at a new key and a deletion do. No program is named here. -/
import Derived.Test.YtbcfcjecobihnaaGreatDoorPk1
import Derived.Maps.Keyed
import Derived.Maps.OwnSet
import Derived.WideKeyEntry
namespace Go.Proofs.YtbcfcjecobihnaaGreatDoor
open Go.RowKit Go.Maps
open Go.ChangeMaps (setBlock)
set_option linter.unusedVariables false

abbrev KV := List (Value × Value)
structure MapIs (es : Array MapEntry) (clock : Nat) (L : KV) : Prop where
  ents : es.toList.map (fun e => (e.key, e.val)) = L
  fresh : ∀ x ∈ es.toList, x.born < clock
  nd : (es.toList.map (·.born)).Nodup
theorem MapIs.nil : MapIs #[] 0 [] := ⟨rfl, by simp, by simp⟩
theorem MapIs.push {es : Array MapEntry} {clock : Nat} {L : KV} (h : MapIs es clock L) (x v : Value) : MapIs (es.push ⟨x, v, clock⟩) (clock + 1) (L ++ [(x, v)]) := by
  refine ⟨by rw [Array.toList_push, List.map_append, h.ents]; rfl, fun y hy => ?_, ?_⟩
  · rw [Array.toList_push, List.mem_append] at hy
    rcases hy with hy | hy
    · have := h.fresh y hy; omega
    · simp at hy; rw [hy]; simp
  · rw [Array.toList_push, List.map_append]
    refine List.nodup_append.2 ⟨h.nd, by simp, fun a ha c hc e1 => ?_⟩
    simp at hc
    obtain ⟨y, hy, rfl⟩ := List.mem_map.1 ha
    have := h.fresh y hy
    omega
theorem MapIs.erase {es : Array MapEntry} {clock : Nat} {L : KV} (h : MapIs es clock L) (j : Nat) : MapIs (es.eraseIdxIfInBounds j) clock (L.eraseIdx j) := by
  have e1 : (es.eraseIdxIfInBounds j).toList = es.toList.eraseIdx j := by
    unfold Array.eraseIdxIfInBounds
    split
    · rw [Array.toList_eraseIdx]
    · rename_i hj
      rw [List.eraseIdx_of_length_le]
      simpa using hj
  refine ⟨by rw [e1, ← h.ents, Go.ChangeMaps.map_eraseIdx], fun y hy => h.fresh y (by rw [e1] at hy; exact List.mem_of_mem_eraseIdx hy), ?_⟩
  rw [e1, Go.ChangeMaps.map_eraseIdx]
  exact (List.eraseIdx_sublist _ _).nodup h.nd
def Ent.mapX (b : Nat) (es : Array MapEntry) (clock : Nat) : Ent := ⟨some b, fun o => o = some (.map es clock)⟩

section
variable {B : Nat} {w : World} {A C F : List Ent} {b : Nat} {es : Array MapEntry} {clock : Nat}
theorem Sep.mapHeap (h : Sep B w (A ++ Ent.mapX b es clock :: C)) : w.heap[b]? = some (.map es clock) := h.mem.1
theorem Sep.mapLt (h : Sep B w (A ++ Ent.mapX b es clock :: C)) : B ≤ b ∧ b < w.heap.size := h.mem.2 b rfl
theorem Sep.mapSet (h : Sep B w (A ++ Ent.mapX b es clock :: C)) (es' : Array MapEntry) (clock' : Nat) : Sep B (setBlock w b (.map es' clock')) (A ++ Ent.mapX b es' clock' :: C) := by
  refine h.upd (by simp [setBlock]) (fun k _ hk => Go.ChangeMaps.heap_setBlock_other h.mapHeap _ (fun e => hk (by simp [Ent.mapX, e]))) ?_ ?_
  · show (setBlock w b (.map es' clock')).heap[b]? = _
    exact Go.ChangeMaps.heap_setBlock_same h.mapHeap _
  · intro g hg
    cases hg
    exact ⟨h.mapLt.1, by simp [setBlock]; exact h.mapLt.2, .inl rfl⟩
theorem Sep.mapNew (h : Sep B w F) (hBw : B ≤ w.heap.size) : Sep B (w.alloc (.map #[] 0)) (Ent.mapX w.heap.size #[] 0 :: F) :=
  h.push hBw (below_alloc w _) (by show (w.alloc _).heap[w.heap.size]? = _; rw [heap_alloc_new]) (fun g hg => by simp [Ent.mapX] at hg; subst hg; simp)
theorem below_setBlock (h : w.heap[b]? = some (.map es clock)) (hB : B ≤ b) (o : Obj) : Below B w (setBlock w b o) :=
  ⟨rfl, rfl, rfl, by simp [setBlock], fun i hi => Go.ChangeMaps.heap_setBlock_other h o (by omega)⟩
end

section
variable {P : Program} {w : World} {t k e : TypeId} {b : Nat} {es : Array MapEntry} {clock : Nat} {L : KV} {x z v : Value} {kl : Lit}
theorem look_no (K : Keyed P k) (ht : P.underlying t = some (.map k e)) (hz : ∀ u : World, (zeroValue e).run P u = .ok z u) (hb : w.heap[b]? = some (.map es clock)) (M : MapIs es clock L) (hkeys : ∀ p ∈ L, ∃ l, keyOf P k p.1 = some l)
    (hkey : keyOf P k x = some kl) (hno : ∀ p ∈ L, p.1 ≠ x) : (Instr.lookup t (.map (some b)) x true).run P w = .ok (.tuple #[z, .bool false]) w := by
  have hm : ∀ e0 ∈ es.toList, (e0.key, e0.val) ∈ L := fun e0 h0 => by rw [← M.ents]; exact List.mem_map.2 ⟨e0, h0, rfl⟩
  rcases K.find w hkey es.toList (fun e0 h0 => hkeys _ (hm e0 h0)) with ⟨h1, h2⟩ | ⟨j, e0, h1, h2, h3⟩
  · simp [Instr.lookup, run_underlying ht, MapKept.run_getObj_map hb, K.check w _ hkey, h1, hz, Result.andThen]
  · exact absurd h3 (hno _ (hm e0 (List.mem_iff_getElem?.2 ⟨j, h2⟩)))
theorem look_yes (K : Keyed P k) (ht : P.underlying t = some (.map k e)) (hb : w.heap[b]? = some (.map es clock)) (M : MapIs es clock L) (hkeys : ∀ p ∈ L, ∃ l, keyOf P k p.1 = some l)
    (hkey : keyOf P k x = some kl) (hin : (x, v) ∈ L) (hone : ∀ p ∈ L, p.1 = x → p.2 = v) : (Instr.lookup t (.map (some b)) x true).run P w = .ok (.tuple #[v, .bool true]) w := by
  have hm : ∀ e0 ∈ es.toList, (e0.key, e0.val) ∈ L := fun e0 h0 => by rw [← M.ents]; exact List.mem_map.2 ⟨e0, h0, rfl⟩
  rcases K.find w hkey es.toList (fun e0 h0 => hkeys _ (hm e0 h0)) with ⟨h1, h2⟩ | ⟨j, e0, h1, h2, h3⟩
  · rw [← M.ents] at hin
    obtain ⟨e0, h0, h3⟩ := List.mem_map.1 hin
    exact absurd (congrArg Prod.fst h3) (h2 e0 h0)
  · have hv := hone _ (hm e0 (List.mem_iff_getElem?.2 ⟨j, h2⟩)) h3
    simp only at hv
    simp [Instr.lookup, run_underlying ht, MapKept.run_getObj_map hb, K.check w _ hkey, h1, hv, Result.andThen]
theorem entry_new (K : Keyed P k) (ht : P.underlying t = some (.map k e)) (hz : ∀ u : World, (zeroValue e).run P u = .ok z u) (hb : w.heap[b]? = some (.map es clock)) (M : MapIs es clock L) (hkeys : ∀ p ∈ L, ∃ l, keyOf P k p.1 = some l)
    (hkey : keyOf P k x = some kl) (hno : ∀ p ∈ L, p.1 ≠ x) : (Instr.mapEntry t (.map (some b)) x).run P w = .ok (.tuple #[z, goInt clock]) (setBlock w b (.map (es.push ⟨x, z, clock⟩) (clock + 1))) := by
  have hm : ∀ e0 ∈ es.toList, (e0.key, e0.val) ∈ L := fun e0 h0 => by rw [← M.ents]; exact List.mem_map.2 ⟨e0, h0, rfl⟩
  rcases K.find w hkey es.toList (fun e0 h0 => hkeys _ (hm e0 h0)) with ⟨h1, h2⟩ | ⟨j, e0, h1, h2, h3⟩
  · simp [Instr.mapEntry, run_underlying ht, MapKept.run_getObj_map hb, K.check w false hkey, h1, hz, MapKept.run_setObj_map _ hb, Result.andThen, setBlock]
  · exact absurd h3 (hno _ (hm e0 (List.mem_iff_getElem?.2 ⟨j, h2⟩)))
theorem entry_store (M : MapIs es clock L) (hb : w.heap[b]? = some (.map (es.push ⟨x, z, clock⟩) (clock + 1))) : (Instr.entryStore t (.map (some b)) (goInt clock) v).run P w = .ok () (setBlock w b (.map (es.push ⟨x, v, clock⟩) (clock + 1))) := by
  have hidx : (es.push ⟨x, z, clock⟩).findIdx? (fun e => ((e.born : Nat) : Int) == ((clock : Nat) : Int)) = some es.size := by
    rw [Go.WideElems.findIdx_arr]
    exact Go.WideElems.findIdx_born (l := (es.push ⟨x, z, clock⟩).toList) (j := es.size) (e0 := ⟨x, z, clock⟩) (M.push x z).nd (by simp)
  have hmod : (es.push ⟨x, z, clock⟩).modify es.size (fun e => { e with val := v }) = es.push ⟨x, v, clock⟩ := by
    apply Array.ext'
    rw [Array.toList_modify, Array.toList_push, Array.toList_push, ← Array.length_toList, Go.WideElems.modify_last]
  simp [Instr.entryStore, MapKept.run_getObj_map hb, asInt, asIntOf, goInt, hidx, hmod, MapKept.run_setObj_map _ hb, Result.andThen, setBlock]
theorem drop_there (K : Keyed P k) (ht : P.underlying t = some (.map k e)) (hb : w.heap[b]? = some (.map es clock)) (M : MapIs es clock L) (hkeys : ∀ p ∈ L, ∃ l, keyOf P k p.1 = some l) (ty : TypeId)
    (hkey : keyOf P k x = some kl) {j : Nat} (hj : L[j]? = some (x, v)) (hone : ∀ (i : Nat) p, L[i]? = some p → p.1 = x → i = j) : (Builtin.delete_ #[t, k] ty #[.map (some b), x]).run P w = .ok (.tuple #[]) (setBlock w b (.map (es.eraseIdxIfInBounds j) clock)) := by
  have hm : ∀ e0 ∈ es.toList, (e0.key, e0.val) ∈ L := fun e0 h0 => by rw [← M.ents]; exact List.mem_map.2 ⟨e0, h0, rfl⟩
  rcases K.find w hkey es.toList (fun e0 h0 => hkeys _ (hm e0 h0)) with ⟨h1, h2⟩ | ⟨i, e0, h1, h2, h3⟩
  · rw [← M.ents, List.getElem?_map] at hj
    cases hx : es.toList[j]? with
    | none => rw [hx] at hj; cases hj
    | some e0 =>
      rw [hx] at hj
      have := congrArg Prod.fst (Option.some.inj hj)
      exact absurd this (h2 e0 (List.mem_iff_getElem?.2 ⟨j, hx⟩))
  · have hij : i = j := hone i (e0.key, e0.val) (by rw [← M.ents, List.getElem?_map, h2]; rfl) h3
    subst hij
    simp [Builtin.delete_, run_underlying ht, MapKept.run_getObj_map hb, K.check w _ hkey, h1, MapKept.run_setObj_map _ hb, Result.andThen, setBlock]
end
end Go.Proofs.YtbcfcjecobihnaaGreatDoor
