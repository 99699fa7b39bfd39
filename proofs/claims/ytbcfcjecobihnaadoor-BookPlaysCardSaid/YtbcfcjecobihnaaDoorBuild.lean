/- A strings.Builder in a field (the second part of a book): written on, read, written on again. -/
import Derived.Test.YtbcfcjecobihnaaDoorBase
import Derived.Test.YtbcfcjecobihnaaDoorRows
import Derived.Lib.FrozenHead
import Derived.Lib.FrozenHead2
import Derived.Lib.Builder
import Derived.Lib.UnsafeStr
import Derived.Shelf.Strings.BuilderF
namespace Go.Proofs.YtbcfcjecobihnaaDoor
open Go.RowKit Go.Lib
set_option linter.unusedVariables false
set_option maxRecDepth 100000

/-- The bytes of a builder: its row's head may be frozen. -/
def Ent.rowF (v : Value) (l : List UInt8) : Ent where
  blk := v.ownBlock
  ok := fun o => (v = .slice none 0 0 ∧ l = []) ∨ ∃ g cap cur fz, v = .slice (some ⟨g, 0, none⟩) l.length cap ∧ o = some (.cells cur 5 fz) ∧ fz.2 ≤ l.length ∧ l ≠ [] ∧ l.length ≤ cap ∧ cap ≤ maxLen ∧ cur.size = cap ∧ cur.toList.take l.length = byteCells l
theorem byteInfo : ∃ i, Tryd.prog.info? 5 = some i ∧ i.zero = some (.int .u8 0) ∧ i.size = 1 ∧ i.bytes = 1 := info_parts (by kernel_rfl)
theorem bytes_len (s : ByteArray) : s.data.toList.length = s.size := by rw [← strCells_length s]; exact (List.length_map _).symm
theorem run_append_rowF {B : Nat} {w : World} {A C : List Ent} {v : Value} {l : List UInt8} (h : Sep B w (A ++ Ent.rowF v l :: C)) (hBw : B ≤ w.heap.size) (s : ByteArray) (hs : 0 < s.size) (hl : l.length + s.size ≤ 140737488355328) :
    ∃ v' w', (Builtin.append_ #[48, 9] 48 #[v, .string s]).run Tryd.prog w = .ok v' w' ∧ Sep B w' (A ++ Ent.rowF v' (l ++ s.data.toList) :: C) ∧ Below B w w' := by
  obtain ⟨i, hi, hz, hsz, hby⟩ := byteInfo
  have hne : l ++ s.data.toList ≠ [] := by
    intro e
    have h1 : s.data.toList = [] := (List.append_eq_nil_iff.1 e).2
    have h2 := bytes_len s
    rw [h1] at h2
    simp at h2
    omega
  have hlen : (l ++ s.data.toList).length = l.length + s.size := by rw [List.length_append, bytes_len]
  have hbc : byteCells (l ++ s.data.toList) = byteCells l ++ strCells s := by rw [byteCells_append, strCells_eq]
  rcases h.mem.1 with ⟨rfl, rfl⟩ | ⟨g, cap, cur, fz, rfl, hg, hfz, hl0, hnc, hcm, hcs, htake⟩
  · obtain ⟨v', w', h1, h2, h3, h4⟩ := run_append_own_string (P := Tryd.prog) w w.heap.size 48 9 48 5 i Tryd.underlying48 Tryd.underlying9 hi hz hsz hby (.slice none 0 0) 0 [] ⟨rfl, .inl ⟨rfl, rfl⟩⟩ s (by unfold maxLen; simp only [List.length_nil] at hl; omega) (by simpa only [List.length_nil] using hl) (Nat.le_refl _)
    refine ⟨v', w', h1, ?_, ?_⟩
    · refine h.upd h3.size (fun k hk _ => h3.block k hk (by simp [Value.ownBlock])) ?_ ?_
      · rcases h2.2 with ⟨-, hz0⟩ | ⟨g, cap, cur, rfl, hbg, hg, hnc, hcm, hcs, ht⟩
        · omega
        · refine .inr ⟨g, cap, cur, (0, 0), ?_, hg, Nat.zero_le _, hne, ?_, hcm, by simpa using hcs, ?_⟩
          · rw [hlen]; rfl
          · rw [hlen]; exact hnc
          · rw [hlen, hbc]; simpa [byteCells] using ht
      · intro g hg
        rcases h2.2 with ⟨-, hz0⟩ | ⟨g', cap, cur, rfl, hbg, hg', -⟩
        · omega
        · simp [Ent.rowF, Value.ownBlock] at hg
          subst hg
          exact ⟨Nat.le_trans hBw hbg, (Array.getElem?_eq_some_iff.1 hg').1, .inr hbg⟩
    · exact ⟨h3.1, h3.2, h3.3, h3.size, fun k hk => h3.block k (Nat.lt_of_lt_of_le hk hBw) (by simp [Value.ownBlock])⟩
  · have hBg : B ≤ g := (h.mem.2 g rfl).1
    have hglt : g < w.heap.size := (h.mem.2 g rfl).2
    by_cases hroom : l.length + s.size ≤ cap
    · have hr := run_append_room_stringF (P := Tryd.prog) w 48 9 48 5 i Tryd.underlying48 Tryd.underlying9 hi hsz g l.length cap cur fz hg hfz s hroom (by omega)
      have hoth : ∀ k, k ≠ g → (w.setRow g (cur.toList.take l.length ++ strCells s ++ cur.toList.drop (l.length + s.size)).toArray).heap[k]? = w.heap[k]? := fun k hk => setRow_other w g k _ hk
      refine ⟨_, _, hr, ?_, ⟨rfl, rfl, rfl, by simp, fun k hk => hoth k (by omega)⟩⟩
      refine h.upd (by simp) (fun k hk hne2 => hoth k (fun e => hne2 (by simp [Ent.rowF, Value.ownBlock, e]))) ?_ ?_
      · refine .inr ⟨g, cap, _, fz, by rw [hlen], setRow_heap w g cur _ 5 _ hg, by rw [hlen]; omega, hne, by rw [hlen]; exact hroom, hcm, ?_, ?_⟩
        · simp only [List.size_toArray, List.length_append, List.length_take, List.length_drop, Array.length_toList, strCells_length]
          omega
        · rw [htake, hbc, show (l ++ s.data.toList).length = (byteCells l ++ strCells s).length by rw [← hbc, byteCells_length]]
          exact List.take_left
      · intro k hk
        simp [Ent.rowF, Value.ownBlock] at hk
        subst hk
        exact ⟨hBg, by simpa using hglt, .inl (by simp [Ent.rowF, Value.ownBlock])⟩
    · have hr := run_append_grow_string (P := Tryd.prog) w 48 9 48 5 i (.int .u8 0) Tryd.underlying48 Tryd.underlying9 hi hz ⟨g, 0, none⟩ l.length cap (byteCells l) (by rw [hsz, byteCells_length, Nat.mul_one]) (fun j u hu => by
          have hadd : (⟨g, 0, none⟩ : Addr).add j = ⟨g, j, none⟩ := by unfold Addr.add; split <;> simp_all
          rw [hadd, cell_of_row w g j cur 5 fz hg]
          rw [← htake, List.getElem?_take] at hu
          split at hu
          · simpa using hu
          · cases hu) s (by omega) (by omega) (by rw [hby]; exact growslice_fits (by omega) (by omega))
      have hge := grownCap_ge w (l.length + s.size) cap 5
      have hcm2 : grownCap w (l.length + s.size) cap 5 ≤ maxLen := grownCap_le_maxLen w (l.length + s.size) cap 5 (by unfold maxLen; omega)
      refine ⟨_, _, hr, ?_, ((Below.refl B w).drew).alloc hBw _⟩
      refine h.upd (by simp) (fun k hk _ => Below.heap_alloc w.drew _ k hk) (.inr ⟨w.heap.size, _, _, (0, 0), by rw [hlen], heap_alloc_new w.drew _, Nat.zero_le _, hne, by rw [hlen]; exact hge, hcm2, ?_, ?_⟩) ?_
      · have hz1 : (Value.int IntKind.u8 0).cells.size = 1 := rfl
        simp only [Array.size_append, List.size_toArray, size_zeroCells, hz1, byteCells_length, strCells_length]
        omega
      · simp only [Array.toList_append, List.append_assoc]
        rw [← List.append_assoc, ← hbc, ← byteCells_length (l ++ s.data.toList)]
        exact List.take_left
      · intro k hk
        simp [Ent.rowF, Value.ownBlock] at hk
        subst hk
        exact ⟨hBw, by simp, .inr (Nat.le_refl _)⟩
end Go.Proofs.YtbcfcjecobihnaaDoor
