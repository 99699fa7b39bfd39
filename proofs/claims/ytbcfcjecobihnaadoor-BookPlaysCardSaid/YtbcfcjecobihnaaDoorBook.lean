/- A book: its table, its builder, its count. The builder's copyCheck, WriteString, String. -/
import Derived.Test.YtbcfcjecobihnaaDoorBuild
import Derived.Test.YtbcfcjecobihnaaDoorLpmOps
import Derived.Deep.RegionLaw
namespace Go.Proofs.YtbcfcjecobihnaaDoor
open Go.RowKit Go.Lib
set_option linter.unusedVariables false
set_option maxRecDepth 100000

/-- 'append' where its run is known. -/
theorem wpList_append_known {P : Program} {ops : Array Oper} {rest : List Oper} {o : Oper} {a : Act} {w : World} {Q : Exit → Act → World → Prop} (hgd : o.guard = none) (m x : Operand) (t k : TypeId)
    (ho : o.op = .call { callee := .builtin .append, args := #[m, x], argTypes := #[t, k] }) (v u : Value) (hs : a.eval m = v) (hx : a.eval x = u) {v' : Value} {w' : World}
    (hr : (Builtin.append_ #[t, k] o.type #[v, u]).run P w = .ok v' w') (h : wpList P ops Q rest (a.put o.dst v') w') : wpList P ops Q (o :: rest) a w := by
  refine wpList_plain hgd fun K hK => ?_
  unfold Oper.wp execOp
  simp only [ho, resolve, invoke, builtin, Sem.run_bind, Sem.run_pure, Result.andThen_ok, List.map_toArray, List.map_cons, List.map_nil, hs, hx, hr]
  exact hK _ _ h
abbrev bkE (bb : Nat) (x ad v m : Value) : Ent := Ent.blk1 bb 52 [x, ad, v, m]
def BkS (B : Nat) (w : World) (bb tb : Nat) (L : List Rte) (l : List UInt8) (many : Nat) (F : List Ent) : Prop :=
  ∃ T ad v, TabOk T ∧ T.rts [] = L ∧ (ad = .pointer none ∨ ad = .pointer (some ⟨bb, 1, none⟩)) ∧ Sep B w (bkE bb (.pointer (some ⟨tb, 0, none⟩)) ad v (.int .i64 many) :: Ent.rowF v l :: (lptE tb L.length T ++ F))
theorem BkS.kept {B bb tb many : Nat} {w w' : World} {L : List Rte} {l : List UInt8} {F : List Ent} (h : BkS B w bb tb L l many F) (hb : Below w.heap.size w w') : BkS B w' bb tb L l many F := by
  obtain ⟨T, ad, v, h1, h2, h3, h4⟩ := h
  exact ⟨T, ad, v, h1, h2, h3, h4.kept hb⟩
theorem builderInfo : ∃ j, Tryd.prog.info? 50 = some j ∧ j.size = 2 := by
  have h : (Tryd.prog.info? 50).map (·.size) = some 2 := by kernel_rfl
  exact Option.map_eq_some_iff.1 h
set_option maxHeartbeats 1000000 in
theorem copyFresh (bb : Nat) (w : World) (h0 : w.cell? ⟨bb, 1, none⟩ = some (.pointer none)) (hsh : w.shape? bb = some (52, 4)) (hfz : w.frozen? ⟨bb, 1, none⟩ = false) :
    Calls Tryd.prog 49 #[.pointer (some ⟨bb, 1, none⟩)] w fun e w' => e = .returned (.tuple #[]) ∧ w' = w.setCell ⟨bb, 1, none⟩ (.pointer (some ⟨bb, 1, none⟩)) := by
  obtain ⟨j, hj, hjs⟩ := builderInfo
  have hlies : liesAt Tryd.prog Tryd.prog.depth 52 (4 / Tryd.prog.cellsOf 52) 1 50 1 = true := by kernel_rfl
  go_enter Tryd.func49, Tryd.ntmps49
  go_wp2
  rw [Lib.run_to_unsafe w ⟨bb, 1, none⟩ Tryd.underlying47 Tryd.underlying95 hj (by rw [hjs]; decide) hsh (show 1 < 4 by decide)]
  simp only [Result.andThen]
  rw [Oper.upon_value]
  go_wp2
  rw [run_callFunc_extern Tryd.func65 (by kernel_rfl) (by kernel_rfl) (by kernel_rfl) (e := Extern.AbiNoEscape.same) (by kernel_rfl)]
  rw [Lib.run_noEscape]
  simp only [Result.andThen]
  rw [Oper.upon_value]
  go_wp2
  rw [Lib.run_from_unsafe w ⟨bb, 1, none⟩ Tryd.underlying95 Tryd.underlying47 hj hsh hlies]
  simp only [Result.andThen]
  rw [Oper.upon_value]
  go_wp2
  go_end0
  exact ⟨rfl, rfl⟩
theorem copyUsed (bb : Nat) (w : World) (h0 : w.cell? ⟨bb, 1, none⟩ = some (.pointer (some ⟨bb, 1, none⟩))) :
    Calls Tryd.prog 49 #[.pointer (some ⟨bb, 1, none⟩)] w fun e w' => e = .returned (.tuple #[]) ∧ w' = w := by
  obtain ⟨j, hj, hjs⟩ := builderInfo
  go_enter Tryd.func49, Tryd.ntmps49
  go_wp2
  rw [Lib.run_neq_ptr_same w _ Tryd.underlying47 hj]
  go_wp2
  go_end0
  exact ⟨rfl, rfl⟩
theorem copy_any {B bb : Nat} {w : World} {x ad v m : Value} {C : List Ent} (h : Sep B w (bkE bb x ad v m :: C)) (had : ad = .pointer none ∨ ad = .pointer (some ⟨bb, 1, none⟩)) :
    Calls Tryd.prog 49 #[.pointer (some ⟨bb, 1, none⟩)] w fun e w' => e = .returned (.tuple #[]) ∧ Sep B w' (bkE bb x (.pointer (some ⟨bb, 1, none⟩)) v m :: C) ∧ Below B w w' := by
  obtain ⟨c1, f1⟩ := Sep.blkAt (A := []) h (j := 1) rfl
  rcases had with rfl | rfl
  · have hh := Sep.blkHeap (A := []) h
    refine (copyFresh bb w c1 (by simp [World.shape?, hh]) f1).mono ?_
    rintro e w' ⟨rfl, rfl⟩
    exact ⟨rfl, Sep.blkSet (A := []) h 1 _, (Below.refl B w).setCell (p := ⟨bb, 1, none⟩) (Sep.blkLt (A := []) h).1 _⟩
  · refine (copyUsed bb w c1).mono ?_
    rintro e w' ⟨rfl, rfl⟩
    exact ⟨rfl, h, Below.refl B _⟩
set_option maxHeartbeats 1000000 in
theorem write_any {B bb : Nat} {w : World} {x ad v m : Value} {l : List UInt8} {C : List Ent} (s : ByteArray) (h : Sep B w (bkE bb x ad v m :: Ent.rowF v l :: C)) (hB : B ≤ w.heap.size) (had : ad = .pointer none ∨ ad = .pointer (some ⟨bb, 1, none⟩)) (hs : 0 < s.size) (hl : l.length + s.size ≤ 140737488355328) :
    Calls Tryd.prog 40 #[.pointer (some ⟨bb, 1, none⟩), .string s] w fun e w' => (∃ n, e = .returned (.tuple #[.int .i64 n, .nilIface])) ∧ (∃ v', Sep B w' (bkE bb x (.pointer (some ⟨bb, 1, none⟩)) v' m :: Ent.rowF v' (l ++ s.data.toList) :: C)) ∧ Below B w w' := by
  have HC := Lib.hid (copy_any h had)
  go_enter Tryd.func40, Tryd.ntmps40
  go_wp2_with fail
  refine HC.out.mono ?_
  rintro e w1 ⟨rfl, h1, hb1⟩
  have hB1 : B ≤ w1.heap.size := Nat.le_trans hB hb1.size
  obtain ⟨v', w2, hr, h2, hb2⟩ := run_append_rowF (A := [_]) h1 hB1 s hs hl
  have c2 := (Sep.blkAt (A := []) h1 (j := 2) rfl).1
  obtain ⟨d2, f2⟩ := Sep.blkAt (A := []) h2 (j := 2) rfl
  have h3 := Sep.blkSet (A := []) h2 2 v'
  have hb3 := (hb1.trans hb2).setCell (p := ⟨bb, 2, none⟩) (Sep.blkLt (A := []) h2).1 v'
  obtain ⟨ao, n', cap, rfl⟩ : ∃ ao n' cap, v' = .slice ao n' cap := by
    rcases (h2.mem (A := [_])).1 with ⟨hv, _⟩ | ⟨g, cap, cur, fz, hv, _⟩
    · exact ⟨_, _, _, hv⟩
    · exact ⟨_, _, _, hv⟩
  have H3 := Lib.hid h3
  have HB3 := Lib.hid hb3
  clear h h1 h2 h3 hb1 hb2 hb3 HC
  have HR := Lib.hid hr
  clear hr
  go_wp2_with (at_builtin; refine wpList_append_known rfl _ _ 48 9 rfl _ _ rfl rfl HR.out ?_)
  go_wp2
  go_ret2
  exact ⟨⟨_, rfl⟩, ⟨_, H3.out⟩, HB3.out⟩
theorem bytes_shape {w : World} {g : Nat} {cur : Array Value} {fz : Nat × Nat} (h : w.heap[g]? = some (.cells cur 5 fz)) : w.shape? g = some (5, cur.size) := by simp [World.shape?, h]
theorem cellsByte : Tryd.prog.cellsOf 5 = 1 := by kernel_rfl
theorem Sep.froze {B : Nat} {w : World} {A C : List Ent} {g cap : Nat} {l : List UInt8} (h : Sep B w (A ++ Ent.rowF (.slice (some ⟨g, 0, none⟩) l.length cap) l :: C)) : Sep B (w.freeze ⟨g, 0, none⟩ l.length) (A ++ Ent.rowF (.slice (some ⟨g, 0, none⟩) l.length cap) l :: C) := by
  unfold World.freeze
  split
  · exact h
  · refine h.upd (by simp) (fun k hk hne => ?_) ?_ ?_
    · simp only [Array.getElem?_modify]
      rw [if_neg]
      intro e
      exact hne (by simp [Ent.rowF, Value.ownBlock, e])
    · rcases h.mem.1 with ⟨hv, _⟩ | ⟨g', cap', cur, fz, hv, hg, hfz, hl0, hnc, hcm, hcs, htake⟩
      · cases hv
      · injection hv with ha _ hcap
        injection ha with ha
        injection ha with hgg _ _
        subst hgg
        subst hcap
        obtain ⟨lo, hi⟩ := fz
        have hg' : w.heap[g]? = some (.cells cur 5 (lo, hi)) := hg
        refine .inr ⟨g, _, cur, (if lo == hi then (0, 0 + l.length) else (min lo 0, max hi (0 + l.length))), rfl, ?_, ?_, hl0, hnc, hcm, hcs, htake⟩
        · show (Array.modify _ _ _)[g]? = _
          simp [Array.getElem?_modify, hg']
        · simp only at hfz
          split <;> simp <;> omega
    · intro k hk
      have := (h.mem.2 k hk)
      exact ⟨this.1, by simpa using this.2, .inl hk⟩
set_option maxHeartbeats 2000000 in
theorem string_any {B bb : Nat} {w : World} {x ad v m : Value} {l : List UInt8} {C : List Ent} (h : Sep B w (bkE bb x ad v m :: Ent.rowF v l :: C)) :
    Calls Tryd.prog 24 #[.pointer (some ⟨bb, 1, none⟩)] w fun e w' => e = .returned (.string ⟨l.toArray⟩) ∧ Sep B w' (bkE bb x ad v m :: Ent.rowF v l :: C) ∧ Below B w w' := by
  have mixed : Tryd.prog.follows Departure.mixedOrders = true := by kernel_rfl
  have c2 : w.drew.cell? ⟨bb, 2, none⟩ = some v := (Sep.blkAt (A := []) h.drew (j := 2) rfl).1
  rcases (h.mem (A := [_])).1 with ⟨rfl, rfl⟩ | ⟨g, cap, cur, fz, rfl, hg, hfz, hl0, hnc, hcm, hcs, htake⟩
  · have hUS := Lib.run_unsafeString_none (P := Tryd.prog) w.drew 89 3 9 none
    have hSD : (Builtin.unsafeSliceData_ #[48] 89 #[.slice none 0 0]).run Tryd.prog w.drew = .ok (.pointer none) w.drew := rfl
    have HS := Lib.hid h.drew
    have HB := Lib.hid ((Below.refl B w).drew)
    clear h
    go_enter Tryd.func24, Tryd.ntmps24
    go_wp2
    go_region_o
    all_goals
      go_wp2
      go_ret
      exact ⟨rfl, HS.out, HB.out⟩
  · have hBg : B ≤ g := ((h.mem (A := [_])).2 g rfl).1
    have hg' : w.drew.heap[g]? = some (.cells cur 5 fz) := hg
    have hl1 : l.length ≠ 0 := by simpa using hl0
    have hSD : (Builtin.unsafeSliceData_ #[48] 89 #[.slice (some ⟨g, 0, none⟩) l.length cap]).run Tryd.prog w.drew = .ok (.pointer (some ⟨g, 0, none⟩)) w.drew :=
      Lib.run_unsafeSliceData_row _ _ _ _ _ _ (by omega)
    have hUS : (Builtin.unsafeString_ #[89, 3] 9 #[.pointer (some ⟨g, 0, none⟩), .int .i64 l.length]).run Tryd.prog w.drew = .ok (.string ⟨l.toArray⟩) (w.drew.freeze ⟨g, 0, none⟩ l.length) := by
      refine Lib.run_unsafeString_row w.drew 89 3 9 5 Tryd.underlying89 cellsByte g cur.size (bytes_shape hg') l hl0 (by omega) (by unfold maxLen at hcm; omega) ?_
      intro j y hy
      have hadd : (⟨g, 0, none⟩ : Addr).add j = ⟨g, j, none⟩ := by unfold Addr.add; split <;> simp_all
      rw [hadd, cell_of_row w.drew g j cur 5 fz hg']
      have h1 : (cur.toList.take l.length)[j]? = some (.int .u8 y.toNat) := by rw [htake]; simp [byteCells, hy]
      rw [List.getElem?_take] at h1
      split at h1
      · simpa using h1
      · cases h1
    have HS := Lib.hid (Sep.froze (A := [_]) h.drew)
    have HB := Lib.hid (Lib.below_freeze ((Below.refl B w).drew) (p := ⟨g, 0, none⟩) hBg l.length)
    clear h hg hg' htake hl0 hl1
    go_enter Tryd.func24, Tryd.ntmps24
    go_wp2
    go_region_o
    all_goals
      go_wp2
      go_ret
      exact ⟨rfl, HS.out, HB.out⟩
end Go.Proofs.YtbcfcjecobihnaaDoor
