/- A builder in a block of its own: copyCheck, WriteString, String; a byte more. -/
import Derived.Test.YtbcfcjecobihnaaGreatDoorPk2
namespace Go.Proofs.YtbcfcjecobihnaaGreatDoor
open Go.RowKit Go.Lib
set_option linter.unusedVariables false
set_option maxRecDepth 100000

abbrev bldE (bb : Nat) (ad v : Value) : Ent := Ent.blk1 bb 48 [ad, v]
set_option maxHeartbeats 1000000 in
theorem copyFreshO (bb : Nat) (w : World) (h0 : w.cell? ⟨bb, 0, none⟩ = some (.pointer none)) (hsh : w.shape? bb = some (48, 2)) (hfz : w.frozen? ⟨bb, 0, none⟩ = false) :
    Calls Tryz.prog 73 #[.pointer (some ⟨bb, 0, none⟩)] w fun e w' => e = .returned (.tuple #[]) ∧ w' = w.setCell ⟨bb, 0, none⟩ (.pointer (some ⟨bb, 0, none⟩)) := by
  obtain ⟨j, hj, hjs⟩ := builderInfo
  have hlies : liesAt Tryz.prog Tryz.prog.depth 48 (2 / Tryz.prog.cellsOf 48) 0 48 1 = true := by kernel_rfl
  go_enter Tryz.func73, Tryz.ntmps73
  go_wp2
  rw [Lib.run_to_unsafe w ⟨bb, 0, none⟩ Tryz.underlying46 Tryz.underlying129 hj (by rw [hjs]; decide) hsh (show 0 < 2 by decide)]
  simp only [Result.andThen]
  rw [Oper.upon_value]
  go_wp2
  rw [run_callFunc_extern Tryz.func107 (by kernel_rfl) (by kernel_rfl) (by kernel_rfl) (e := Extern.AbiNoEscape.same) (by kernel_rfl)]
  rw [Lib.run_noEscape]
  simp only [Result.andThen]
  rw [Oper.upon_value]
  go_wp2
  rw [Lib.run_from_unsafe w ⟨bb, 0, none⟩ Tryz.underlying129 Tryz.underlying46 hj hsh hlies]
  simp only [Result.andThen]
  rw [Oper.upon_value]
  go_wp2
  go_end0
  exact ⟨rfl, rfl⟩
theorem copyUsedO (bb : Nat) (w : World) (h0 : w.cell? ⟨bb, 0, none⟩ = some (.pointer (some ⟨bb, 0, none⟩))) :
    Calls Tryz.prog 73 #[.pointer (some ⟨bb, 0, none⟩)] w fun e w' => e = .returned (.tuple #[]) ∧ w' = w := by
  obtain ⟨j, hj, hjs⟩ := builderInfo
  go_enter Tryz.func73, Tryz.ntmps73
  go_wp2
  rw [Lib.run_neq_ptr_same w _ Tryz.underlying46 hj]
  go_wp2
  go_end0
  exact ⟨rfl, rfl⟩
theorem copy_anyO {B bb : Nat} {w : World} {ad v : Value} {C : List Ent} (h : Sep B w (bldE bb ad v :: C)) (had : ad = .pointer none ∨ ad = .pointer (some ⟨bb, 0, none⟩)) :
    Calls Tryz.prog 73 #[.pointer (some ⟨bb, 0, none⟩)] w fun e w' => e = .returned (.tuple #[]) ∧ Sep B w' (bldE bb (.pointer (some ⟨bb, 0, none⟩)) v :: C) ∧ Below B w w' := by
  obtain ⟨c1, f1⟩ := Sep.blkAt (A := []) h (j := 0) rfl
  rcases had with rfl | rfl
  · have hh := Sep.blkHeap (A := []) h
    refine (copyFreshO bb w c1 (by simp [World.shape?, hh]) f1).mono ?_
    rintro e w' ⟨rfl, rfl⟩
    exact ⟨rfl, Sep.blkSet (A := []) h 0 _, (Below.refl B w).setCell (p := ⟨bb, 0, none⟩) (Sep.blkLt (A := []) h).1 _⟩
  · refine (copyUsedO bb w c1).mono ?_
    rintro e w' ⟨rfl, rfl⟩
    exact ⟨rfl, h, Below.refl B _⟩
set_option maxHeartbeats 1000000 in
theorem write_anyO {B bb : Nat} {w : World} {ad v : Value} {l : List UInt8} {C : List Ent} (s : ByteArray) (h : Sep B w (bldE bb ad v :: Ent.rowF v l :: C)) (hB : B ≤ w.heap.size) (had : ad = .pointer none ∨ ad = .pointer (some ⟨bb, 0, none⟩)) (hs : 0 < s.size) (hl : l.length + s.size ≤ 140737488355328) :
    Calls Tryz.prog 48 #[.pointer (some ⟨bb, 0, none⟩), .string s] w fun e w' => (∃ n, e = .returned (.tuple #[.int .i64 n, .nilIface])) ∧ (∃ v', Sep B w' (bldE bb (.pointer (some ⟨bb, 0, none⟩)) v' :: Ent.rowF v' (l ++ s.data.toList) :: C)) ∧ Below B w w' := by
  have HC := Lib.hid (copy_anyO h had)
  go_enter Tryz.func48, Tryz.ntmps48
  go_wp2_with fail
  refine HC.out.mono ?_
  rintro e w1 ⟨rfl, h1, hb1⟩
  have hB1 : B ≤ w1.heap.size := Nat.le_trans hB hb1.size
  obtain ⟨v', w2, hr, h2, hb2⟩ := run_append_rowF (A := [_]) h1 hB1 s hs hl
  have c2 := (Sep.blkAt (A := []) h1 (j := 1) rfl).1
  obtain ⟨d2, f2⟩ := Sep.blkAt (A := []) h2 (j := 1) rfl
  have h3 := Sep.blkSet (A := []) h2 1 v'
  have hb3 := (hb1.trans hb2).setCell (p := ⟨bb, 1, none⟩) (Sep.blkLt (A := []) h2).1 v'
  obtain ⟨ao, n', cap, rfl⟩ : ∃ ao n' cap, v' = .slice ao n' cap := by
    rcases (h2.mem (A := [_])).1 with ⟨hv, _⟩ | ⟨g, cap, cur, fz, hv, _⟩
    · exact ⟨_, _, _, hv⟩
    · exact ⟨_, _, _, hv⟩
  have H3 := Lib.hid h3
  have HB3 := Lib.hid hb3
  clear h h1 h2 h3 hb1 hb2 hb3 HC
  have HR := Lib.hid hr
  clear hr
  go_wp2_with (at_builtin; refine wpList_append_known rfl _ _ 31 9 rfl _ _ rfl rfl HR.out ?_)
  go_wp2
  go_ret2
  exact ⟨⟨_, rfl⟩, ⟨_, H3.out⟩, HB3.out⟩
set_option maxHeartbeats 2000000 in
theorem string_anyO {B bb : Nat} {w : World} {ad v : Value} {l : List UInt8} {C : List Ent} (h : Sep B w (bldE bb ad v :: Ent.rowF v l :: C)) :
    Calls Tryz.prog 35 #[.pointer (some ⟨bb, 0, none⟩)] w fun e w' => e = .returned (.string ⟨l.toArray⟩) ∧ Sep B w' (bldE bb ad v :: Ent.rowF v l :: C) ∧ Below B w w' := by
  have mixed : Tryz.prog.follows Departure.mixedOrders = true := by kernel_rfl
  have c2 : w.drew.cell? ⟨bb, 1, none⟩ = some v := (Sep.blkAt (A := []) h.drew (j := 1) rfl).1
  rcases (h.mem (A := [_])).1 with ⟨rfl, rfl⟩ | ⟨g, cap, cur, fz, rfl, hg, hfz, hl0, hnc, hcm, hcs, htake⟩
  · have hUS := Lib.run_unsafeString_none (P := Tryz.prog) w.drew 101 3 9 none
    have hSD : (Builtin.unsafeSliceData_ #[31] 101 #[.slice none 0 0]).run Tryz.prog w.drew = .ok (.pointer none) w.drew := rfl
    have HS := Lib.hid h.drew
    have HB := Lib.hid ((Below.refl B w).drew)
    clear h
    go_enter Tryz.func35, Tryz.ntmps35
    go_wp2
    go_region_o
    all_goals
      go_wp2
      go_ret
      exact ⟨rfl, HS.out, HB.out⟩
  · have hBg : B ≤ g := ((h.mem (A := [_])).2 g rfl).1
    have hg' : w.drew.heap[g]? = some (.cells cur 5 fz) := hg
    have hl1 : l.length ≠ 0 := by simpa using hl0
    have hSD : (Builtin.unsafeSliceData_ #[31] 101 #[.slice (some ⟨g, 0, none⟩) l.length cap]).run Tryz.prog w.drew = .ok (.pointer (some ⟨g, 0, none⟩)) w.drew :=
      Lib.run_unsafeSliceData_row _ _ _ _ _ _ (by omega)
    have hUS : (Builtin.unsafeString_ #[101, 3] 9 #[.pointer (some ⟨g, 0, none⟩), .int .i64 l.length]).run Tryz.prog w.drew = .ok (.string ⟨l.toArray⟩) (w.drew.freeze ⟨g, 0, none⟩ l.length) := by
      refine Lib.run_unsafeString_row w.drew 101 3 9 5 Tryz.underlying101 cellsByte g cur.size (bytes_shape hg') l hl0 (by omega) (by unfold maxLen at hcm; omega) ?_
      intro j y hy
      have hadd : (⟨g, 0, none⟩ : Addr).add j = ⟨g, j, none⟩ := by unfold Addr.add; split <;> simp_all
      rw [hadd, cell_of_row w.drew g j cur 5 fz hg']
      have h1 : (cur.toList.take l.length)[j]? = some (.int .u8 y.toNat) := by rw [htake]; simp [byteCells, hy]
      rw [List.getElem?_take] at h1
      split at h1
      · simpa using h1
      · cases h1
    have HS := Lib.hid (Sep.froze (A := [_]) h.drew)
    have HB := Lib.hid (Lib.below_freeze ((Below.refl B w).drew) (p := ⟨g, 0, none⟩) hBg l.length)
    clear h hg hg' htake hl0 hl1
    go_enter Tryz.func35, Tryz.ntmps35
    go_wp2
    go_region_o
    all_goals
      go_wp2
      go_ret
      exact ⟨rfl, HS.out, HB.out⟩
/-- One byte more. -/
theorem run_append1_rowF {B : Nat} {w : World} {A C : List Ent} {v : Value} {l : List UInt8} (h : Sep B w (A ++ Ent.rowF v l :: C)) (hBw : B ≤ w.heap.size) (c : UInt8) (q : Nat) (hc : w.cell? ⟨q, 0, none⟩ = some (.int .u8 (c.toNat : Int))) (hl : l.length + 1 ≤ 140737488355328) :
    ∃ v' w', (Builtin.append_ #[31, 31] 31 #[v, .slice (some ⟨q, 0, none⟩) 1 1]).run Tryz.prog w = .ok v' w' ∧ Sep B w' (A ++ Ent.rowF v' (l ++ [c]) :: C) ∧ Below B w w' := by
  obtain ⟨i, hi, hz, hsz, hby⟩ := byteInfo
  have hne : l ++ [c] ≠ [] := by simp
  have hlen : (l ++ [c]).length = l.length + 1 := by simp
  have hbc : byteCells (l ++ [c]) = byteCells l ++ [.int .u8 (c.toNat : Int)] := by rw [byteCells_append]; rfl
  have hnews : ∀ (j : Nat) u, [Value.int .u8 (c.toNat : Int)][j]? = some u → w.cell? ((⟨q, 0, none⟩ : Addr).add j) = some u := by
    intro j u hu
    cases j with
    | zero =>
      have hadd : (⟨q, 0, none⟩ : Addr).add 0 = ⟨q, 0, none⟩ := by unfold Addr.add; split <;> simp_all
      rw [hadd, hc]
      simpa using hu
    | succ j => simp at hu
  have h1 : ∀ u ∈ [Value.int .u8 (c.toNat : Int)], u.oneCell' = true := by
    intro u hu
    simp only [List.mem_cons, List.not_mem_nil, or_false] at hu
    subst hu; rfl
  rcases h.mem.1 with ⟨rfl, rfl⟩ | ⟨g, cap, cur, fz, rfl, hg, hfz, hl0, hnc, hcm, hcs, htake⟩
  · obtain ⟨v', w', r1, h2, h3, h4⟩ := run_append_own (P := Tryz.prog) w w.heap.size 31 31 5 i (.int .u8 0) 1 1 Tryz.underlying31 hi hz hsz hby rfl (by decide) (.slice none 0 0) 0 [] ⟨rfl, .inl ⟨rfl, rfl⟩⟩ ⟨q, 0, none⟩ 1 1 [.int .u8 (c.toNat : Int)] rfl hnews h1 (by decide) (by decide) (Nat.le_refl _)
    refine ⟨v', w', r1, ?_, ?_⟩
    · refine h.upd h3.size (fun k hk _ => h3.block k hk (by simp [Value.ownBlock])) ?_ ?_
      · rcases h2.2 with ⟨-, hz0⟩ | ⟨g, cap, cur, rfl, hbg, hg, hnc, hcm, hcs, ht⟩
        · omega
        · refine .inr ⟨g, cap, cur, (0, 0), ?_, hg, Nat.zero_le _, hne, ?_, hcm, by simpa using hcs, ?_⟩
          · rw [hlen]; rfl
          · rw [hlen]; exact hnc
          · rw [hlen, hbc]; simpa [byteCells] using ht
      · intro g hg
        rcases h2.2 with ⟨-, hz0⟩ | ⟨g', cap, cur, rfl, hbg, hg', -⟩
        · omega
        · simp [Ent.rowF, Value.ownBlock] at hg
          subst hg
          exact ⟨Nat.le_trans hBw hbg, (Array.getElem?_eq_some_iff.1 hg').1, .inr hbg⟩
    · exact ⟨h3.1, h3.2, h3.3, h3.size, fun k hk => h3.block k (Nat.lt_of_lt_of_le hk hBw) (by simp [Value.ownBlock])⟩
  · have hBg : B ≤ g := (h.mem.2 g rfl).1
    have hglt : g < w.heap.size := (h.mem.2 g rfl).2
    by_cases hroom : l.length + 1 ≤ cap
    · have hr := run_append_roomF (P := Tryz.prog) w 31 31 5 i Tryz.underlying31 hi g l.length cap cur fz hg (by rw [hsz]; omega) ⟨q, 0, none⟩ 1 1 [.int .u8 (c.toNat : Int)] (by rw [hsz]; rfl) hnews h1 hroom (by rw [hsz, hcs]; simp; omega)
      rw [hsz, Nat.mul_one] at hr
      have hoth : ∀ k, k ≠ g → (w.setRow g (cur.toList.take l.length ++ [Value.int .u8 (c.toNat : Int)] ++ cur.toList.drop (l.length + [Value.int .u8 (c.toNat : Int)].length)).toArray).heap[k]? = w.heap[k]? := fun k hk => setRow_other w g k _ hk
      refine ⟨_, _, hr, ?_, ⟨rfl, rfl, rfl, by simp, fun k hk => hoth k (by omega)⟩⟩
      refine h.upd (by simp) (fun k hk hne2 => hoth k (fun e => hne2 (by simp [Ent.rowF, Value.ownBlock, e]))) ?_ ?_
      · refine .inr ⟨g, cap, _, fz, by rw [hlen], setRow_heap w g cur _ 5 _ hg, by rw [hlen]; omega, hne, by rw [hlen]; exact hroom, hcm, ?_, ?_⟩
        · simp only [List.size_toArray, List.length_append, List.length_take, List.length_drop, Array.length_toList, List.length_cons, List.length_nil]
          omega
        · rw [htake, hbc, show (l ++ [c]).length = (byteCells l ++ [Value.int .u8 (c.toNat : Int)]).length by rw [← hbc, byteCells_length]]
          exact List.take_left
      · intro k hk
        simp [Ent.rowF, Value.ownBlock] at hk
        subst hk
        exact ⟨hBg, by simpa using hglt, .inl (by simp [Ent.rowF, Value.ownBlock])⟩
    · have hr := run_append_grow (P := Tryz.prog) w 31 31 5 i (.int .u8 0) Tryz.underlying31 hi hz ⟨g, 0, none⟩ l.length cap (byteCells l) (by rw [hsz, byteCells_length, Nat.mul_one]) (fun j u hu => by
          have hadd : (⟨g, 0, none⟩ : Addr).add j = ⟨g, j, none⟩ := by unfold Addr.add; split <;> simp_all
          rw [hadd, cell_of_row w g j cur 5 fz hg]
          rw [← htake, List.getElem?_take] at hu
          split at hu
          · simpa using hu
          · cases hu) ⟨q, 0, none⟩ 1 1 [.int .u8 (c.toNat : Int)] (by rw [hsz]; rfl) hnews (by omega) (by omega) (by rw [hby]; exact growslice_fits (by omega) (by omega))
      have hge := grownCap_ge w (l.length + 1) cap 5
      have hcm2 : grownCap w (l.length + 1) cap 5 ≤ maxLen := grownCap_le_maxLen w (l.length + 1) cap 5 (by unfold maxLen; omega)
      refine ⟨_, _, hr, ?_, ((Below.refl B w).drew).alloc hBw _⟩
      refine h.upd (by simp) (fun k hk _ => Below.heap_alloc w.drew _ k hk) (.inr ⟨w.heap.size, _, _, (0, 0), by rw [hlen], heap_alloc_new w.drew _, Nat.zero_le _, hne, by rw [hlen]; exact hge, hcm2, ?_, ?_⟩) ?_
      · have hz1 : (Value.int IntKind.u8 0).cells.size = 1 := rfl
        simp only [Array.size_append, List.size_toArray, size_zeroCells, hz1, byteCells_length, List.length_cons, List.length_nil]
        omega
      · simp only [Array.toList_append, List.append_assoc]
        rw [← List.append_assoc, ← hbc, ← byteCells_length (l ++ [c])]
        exact List.take_left
      · intro k hk
        simp [Ent.rowF, Value.ownBlock] at hk
        subst hk
        exact ⟨hBw, by simp, .inr (Nat.le_refl _)⟩
end Go.Proofs.YtbcfcjecobihnaaGreatDoor
