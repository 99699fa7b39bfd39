/- For the laws of trees: what stp.Tree gives, read; the links told the other way round. -/
import Derived.Test.YtnmddgjgmdegoaaTree
import Derived.Test.YtnmddgjgmdegoaaInts
import Derived.Test.YtnmddgjgmdegoaaStpMore
namespace Go.Proofs.Ytnmddgjgmdegoaa
open Go.RowKit
set_option linter.unusedVariables false

theorem IntSl.at_ {B : Nat} {w : World} {g o n k : Nat} {f : Nat → Int} (h : IntSl B w (some ⟨g, o, none⟩) (arr f n)) (hk : k < n) : w.cell? ⟨g, o + k, none⟩ = some (.int .i64 (f k)) := by
  obtain ⟨b, off, e, _, hc⟩ := h k (f k) (arr_get hk)
  simp only [Option.some.injEq, Addr.mk.injEq, and_true] at e
  obtain ⟨rfl, rfl⟩ := e
  exact hc
theorem tree_shape {B : Nat} {w : World} {n : Nat} {vr vf vo : Value} {R D O : Nat → Int} (h : Sep B w [Ent.ints 3 vr (arr R n), Ent.ints 3 vf (arr D n), Ent.ints 3 vo (arr O n)]) (hn : 0 < n) :
    ∃ gr fr cr gf ff cf go fo co, vr = .slice (some ⟨gr, fr, none⟩) n cr ∧ vf = .slice (some ⟨gf, ff, none⟩) n cf ∧ vo = .slice (some ⟨go, fo, none⟩) n co ∧
      IntSl w.heap.size w (some ⟨gr, fr, none⟩) (arr R n) ∧ IntSl w.heap.size w (some ⟨gf, ff, none⟩) (arr D n) ∧ IntSl w.heap.size w (some ⟨go, fo, none⟩) (arr O n) := by
  obtain ⟨a1, c1, rfl, _, _⟩ := h.intsShape (A := []) (C := [_, _])
  obtain ⟨a2, c2, rfl, _, _⟩ := h.intsShape (A := [_]) (C := [_])
  obtain ⟨a3, c3, rfl, _, _⟩ := h.intsShape (A := [_, _]) (C := [])
  have x1 := h.intSl (A := []) (C := [_, _])
  have x2 := h.intSl (A := [_]) (C := [_])
  have x3 := h.intSl (A := [_, _]) (C := [])
  rw [arr_len, arr_len, arr_len] at h
  obtain ⟨g1, o1, rfl, _⟩ := arrI_at (A := []) (C := [_, _]) h hn
  obtain ⟨g2, o2, rfl, _⟩ := arrI_at (A := [_]) (C := [_]) h hn
  obtain ⟨g3, o3, rfl, _⟩ := arrI_at (A := [_, _]) (C := []) h hn
  exact ⟨g1, o1, c1, g2, o2, c2, g3, o3, c3, by rw [arr_len], by rw [arr_len], by rw [arr_len], x1, x2, x3⟩

/-- The links, told the other way round, the last one first. -/
def sw (x : Lnk) : Lnk := (x.2.1, x.1, x.2.2)
def turnT (L : List Lnk) (i : Nat) : List Lnk := (L.drop (L.length - i)).reverse.map sw
theorem turnT_zero (L : List Lnk) : turnT L 0 = [] := by simp [turnT]
theorem turnT_len (L : List Lnk) : (turnT L L.length).length = L.length := by simp [turnT]
theorem turnT_succ {L : List Lnk} {i q : Nat} {x : Lnk} (hq : q + i + 1 = L.length) (hx : L[q]? = some x) : turnT L (i + 1) = turnT L i ++ [sw x] := by
  unfold turnT
  obtain ⟨h1, h2⟩ := List.getElem?_eq_some_iff.1 hx
  rw [show L.length - (i + 1) = q by omega, show L.length - i = q + 1 by omega, List.drop_eq_getElem_cons h1, h2, List.reverse_cons, List.map_append]
  rfl
theorem turnT_mem {L : List Lnk} {y : Lnk} : y ∈ turnT L L.length ↔ ∃ x ∈ L, sw x = y := by simp [turnT]
theorem VOk.turned {n : Nat} {L : List Lnk} (h : VOk n L) : VOk n (turnT L L.length) := by
  refine ⟨h.n1, h.n8, by rw [turnT_len]; exact h.few, fun y hy => ?_⟩
  obtain ⟨x, hx, rfl⟩ := turnT_mem.1 hy
  have := h.each x hx
  unfold LOk sw at *
  simp only
  omega
theorem turned_edges {L : List Lnk} (e : Edge) : e ∈ edges L ↔ e ∈ edges (turnT L L.length) := by
  rw [mem_edges, mem_edges]
  constructor
  · rintro ⟨x, hx, h⟩
    exact ⟨sw x, turnT_mem.2 ⟨x, hx, rfl⟩, h.symm⟩
  · rintro ⟨y, hy, h⟩
    obtain ⟨x, hx, rfl⟩ := turnT_mem.1 hy
    exact ⟨x, hx, h.symm⟩
theorem tree_turned {n : Nat} {L : List Lnk} (h : VOk n L) : arr (fun i => (rootF n (edges (turnT L L.length)) i : Int)) n = arr (fun i => (rootF n (edges L) i : Int)) n ∧
    arr (fun i => far (edges (turnT L L.length)) i (rootF n (edges (turnT L L.length)) i)) n = arr (fun i => far (edges L) i (rootF n (edges L) i)) n ∧
    arr (fun i => hopOf n (edges (turnT L L.length)) i (rootF n (edges (turnT L L.length)) i)) n = arr (fun i => hopOf n (edges L) i (rootF n (edges L) i)) n := by
  have hr : ∀ i, rootF n (edges (turnT L L.length)) i = rootF n (edges L) i := fun i => (rootF_set h.net h.turned.net turned_edges i).symm
  refine ⟨arr_congr fun i _ => by rw [hr], arr_congr fun i _ => ?_, arr_congr fun i _ => ?_⟩
  · rw [hr]; exact (far_set h.net h.turned.net turned_edges _ _).symm
  · rw [hr]; exact (hopOf_set h.net h.turned.net turned_edges _ _).symm
end Go.Proofs.Ytnmddgjgmdegoaa
