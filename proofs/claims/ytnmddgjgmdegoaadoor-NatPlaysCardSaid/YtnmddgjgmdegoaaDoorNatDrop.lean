/- nat: Drop. -/
import Derived.Test.YtnmddgjgmdegoaaDoorNatIn
import Derived.Deep.RegionLaw
namespace Go.Proofs.YtnmddgjgmdegoaaDoor
open Go.RowKit Go.Maps
open Go.ChangeMaps (setBlock)
set_option linter.unusedVariables false
set_option maxRecDepth 100000

/-- 'delete' where its run is known: as one step of a region that draws, and in a region that does not. -/
theorem step_delete_run {P : Program} {ops : Array Oper} {o : Oper} {a : Act} {w : World} {K : Act → World → Prop} {Q : Exit → Act → World → Prop} {E : Prop} (hgd : o.guard = none) (m x : Operand) (t k : TypeId)
    (ho : o.op = .call { callee := .builtin .delete, args := #[m, x], argTypes := #[t, k] }) (v u : Value) (hs : a.eval m = v) (hx : a.eval x = u) {v' : Value} {w' : World}
    (hr : (Builtin.delete_ #[t, k] o.type #[v, u]).run P w = .ok v' w') (h : K (a.put o.dst v') w') : if Region.wanted o (yielded ops a.tmps) = true then Oper.wp P o a w K Q else E := by
  have hw : Region.wanted o (yielded ops a.tmps) = true := by simp [Region.wanted, hgd]
  rw [if_pos hw]
  unfold Oper.wp execOp
  simp only [ho, resolve, invoke, builtin, Sem.run_bind, Sem.run_pure, Result.andThen_ok, List.map_toArray, List.map_cons, List.map_nil, hs, hx, hr]
  exact h
theorem wpList_delete_run {P : Program} {ops : Array Oper} {rest : List Oper} {o : Oper} {a : Act} {w : World} {Q : Exit → Act → World → Prop} (hgd : Region.wanted o (yielded ops a.tmps) = true) (m x : Operand) (t k : TypeId)
    (ho : o.op = .call { callee := .builtin .delete, args := #[m, x], argTypes := #[t, k] }) (v u : Value) (hs : a.eval m = v) (hx : a.eval x = u) {v' : Value} {w' : World}
    (hr : (Builtin.delete_ #[t, k] o.type #[v, u]).run P w = .ok v' w') (h : wpList P ops Q rest (a.put o.dst v') w') : wpList P ops Q (o :: rest) a w := by
  refine wpList_wanted hgd fun K hK => ?_
  unfold Oper.wp execOp
  simp only [ho, resolve, invoke, builtin, Sem.run_bind, Sem.run_pure, Result.andThen_ok, List.map_toArray, List.map_cons, List.map_nil, hs, hx, hr]
  exact hK _ _ h
theorem natDrop_none (B g : Nat) (low many : Int) (M : NatM) (F : List Ent) (q : Int) (w : World) (h : NatT B w g low many M F) (hB : B ≤ w.heap.size) (hq : -9223372036854775808 ≤ q ∧ q ≤ 9223372036854775807) (hp : placeOf M q = none) :
    Calls Tryd.prog 13 #[.pointer (some ⟨g, 0, none⟩), .int .i64 q] w fun e w' => e = .returned (.iface 64 (.int .i64 5)) ∧ Below w.heap.size w w' := by
  obtain ⟨hok, mp, mq, e1, c1, e2, c2, m1, m2, hs⟩ := h
  obtain ⟨-, -, -, t3, -, hm⟩ := tab_cells hs
  have hl := lookQ hok hm m2 hq
  rw [hp] at hl
  have HB := Lib.hid (below_alloc w (.cells #[.int .i64 0, .int .i64 0] 24))
  simp only [Option.getD_none, Option.isSome_none] at hl
  unfold plV at hl
  clear hp hm hs m1 m2
  go_enter Tryd.func13, Tryd.ntmps13
  go_wp2
  go_ret
  exact ⟨rfl, HB.out⟩
theorem erase_kv {M : NatM} {f : Int × Pl → Value × Value} (j : Nat) : (M.map f).eraseIdx j = (M.eraseIdx j).map f := (Go.ChangeMaps.map_eraseIdx f M j).symm
set_option maxHeartbeats 1000000 in
theorem natDrop_some (B g : Nat) (low many : Int) (M : NatM) (F : List Ent) (q : Int) (p : Pl) (w : World) (h : NatT B w g low many M F) (hB : B ≤ w.heap.size) (hq : -9223372036854775808 ≤ q ∧ q ≤ 9223372036854775807) (hp : placeOf M q = some p) :
    Calls Tryd.prog 13 #[.pointer (some ⟨g, 0, none⟩), .int .i64 q] w fun e w' => e = .returned .nilIface ∧ NatT B w' g low many (M.eraseP fun x => decide (x.1 = q)) F ∧ Below B w w' := by
  obtain ⟨hok, mp, mq, e1, c1, e2, c2, m1, m2, hs⟩ := h
  obtain ⟨-, -, -, t3, -, hm⟩ := tab_cells hs
  have hl := lookQ hok hm m2 hq
  rw [hp] at hl
  simp only [Option.getD_some, Option.isSome_some] at hl
  obtain ⟨j, hj, her⟩ := hok.erase hp
  have hok' := hok.sub (List.eraseP_sublist (p := fun x => decide (x.1 = q)) (l := M))
  rw [her] at hok' ⊢
  obtain ⟨kl, hkl⟩ := plKey (hok.pl _ (List.mem_iff_getElem?.2 ⟨j, hj⟩))
  simp only at hkl
  have hs0 := hs.alloc (.cells #[.int .i64 p.1, .int .i64 p.2] 24)
  have hb0 := (Below.refl B w).alloc hB (.cells #[.int .i64 p.1, .int .i64 p.2] 24)
  obtain ⟨w0, hw0⟩ : ∃ w0, w0 = w.alloc (.cells #[.int .i64 p.1, .int .i64 p.2] 24) := ⟨_, rfl⟩
  have p0 : w0.cell? ⟨w.heap.size, 0, none⟩ = some (.int .i64 p.1) := by rw [hw0]; exact (World.cell?_alloc_mark ..).trans rfl
  have p1 : w0.cell? ⟨w.heap.size, 1, none⟩ = some (.int .i64 p.2) := by rw [hw0]; exact (World.cell?_alloc_mark ..).trans rfl
  rw [← hw0] at hs0 hb0
  have hs1 := hs0.drew
  have hb1 := hb0.drew
  obtain ⟨-, -, u2, u3, um, -⟩ := tab_cells hs1
  have hd1 := fun ty => drop_there plKeyed Tryd.underlying65 um m1 (keysP hok) ty hkl (L := kvP M) (j := j) (v := .int .i64 q) (by unfold kvP; rw [List.getElem?_map, hj]; rfl) (fun i y hy he => by
    unfold kvP at hy
    rw [List.getElem?_map] at hy
    cases hx : M[i]? with
    | none => rw [hx] at hy; cases hy
    | some x =>
      rw [hx] at hy
      cases hy
      exact nodup_place hok.places hx hj (plV_inj he))
  have hs2 := Sep.mapSet (A := [_]) hs1 (e1.eraseIdxIfInBounds j) c1
  have hb2 := hb1.trans (below_setBlock um (Sep.mapLt (A := [_]) hs1).1 (.map (e1.eraseIdxIfInBounds j) c1))
  obtain ⟨w2, hw2⟩ : ∃ w2, w2 = setBlock w0.drew mp (.map (e1.eraseIdxIfInBounds j) c1) := ⟨_, rfl⟩
  rw [← hw2] at hs2 hb2 hd1
  obtain ⟨-, -, v2, v3, -, vm⟩ := tab_cells (e1 := e1.eraseIdxIfInBounds j) hs2
  have hd2 := fun ty => drop_there intKeyed Tryd.underlying66 vm m2 (keysQ hok) ty (intKey hq) (L := kvQ M) (j := j) (v := plV p) (by unfold kvQ; rw [List.getElem?_map, hj]; rfl) (fun i y hy he => by
    unfold kvQ at hy
    rw [List.getElem?_map] at hy
    cases hx : M[i]? with
    | none => rw [hx] at hy; cases hy
    | some x =>
      rw [hx] at hy
      cases hy
      exact nodup_place hok.ports hx hj (by simpa using he))
  have hs3 := Sep.mapSet (A := [_, _]) hs2 (e2.eraseIdxIfInBounds j) c2
  have hb3 := hb2.trans (below_setBlock vm (Sep.mapLt (A := [_, _]) hs2).1 (.map (e2.eraseIdxIfInBounds j) c2))
  have m1' := m1.erase j
  have m2' := m2.erase j
  have k1 : (kvP M).eraseIdx j = kvP (M.eraseIdx j) := erase_kv j
  have k2 : (kvQ M).eraseIdx j = kvQ (M.eraseIdx j) := erase_kv j
  rw [k1] at m1'
  rw [k2] at m2'
  unfold plV at hd1
  have HN := Lib.hid (show NatT B _ g low many (M.eraseIdx j) F from ⟨hok', mp, mq, _, _, _, _, m1', m2', hs3⟩)
  have HB := Lib.hid hb3
  have HW0 := Lib.hid hw0
  have HD1 := Lib.hid hd1
  have HD2 := Lib.hid hd2
  obtain ⟨w3, hw3⟩ : ∃ w3, w3 = setBlock w2 mq (.map (e2.eraseIdxIfInBounds j) c2) := ⟨_, rfl⟩
  rw [← hw3] at HN HB HD2
  unfold plV at hl
  clear hp hm um vm hs1 hs2 hs3 hb1 hb2 hb3 m1 m2 m1' m2' k1 k2 her hj hkl hok hok' hs hw0 hw2 hw3 hd1 hd2 hs0 hb0
  go_enter Tryd.func13, Tryd.ntmps13
  go_wp2
  rw [← HW0.out]
  go_region_law (refine step_delete_run rfl (.tmp 22) (.tmp 23) 65 24 rfl _ _ ?_ ?_ (HD1.out _) ?_; rfl; rfl)
  all_goals
    go_wp2_with (at_delete; refine wpList_delete_run rfl (.tmp 27) (.tmp 28) 66 3 rfl _ _ rfl rfl (HD2.out _) ?_)
    go_ret
    exact ⟨rfl, HN.out, HB.out⟩
end Go.Proofs.YtnmddgjgmdegoaaDoor
