/- The reference's switch: Find, Heard, Out, Down. -/
import Derived.Test.YtommedhaaojgiaaDoorSwPlain
import Derived.Test.YtommedhaaojgiaaDoorRow2
import Derived.Test.YtommedhaaojgiaaDoorAppRun
import Derived.Deep.LoopGhost
import Derived.Deep.DeepCutAuto
import Derived.BigQuiet
namespace Go.Proofs.YtommedhaaojgiaaDoor
open Go.RowKit
set_option linter.unusedVariables false
set_option maxRecDepth 100000

theorem findR_any (B : Nat) (ao : Option Addr) (cap n : Nat) (vp : Value) (T : Tab) (a : Int) (w : World) (hA : IntSl B w ao (T.map (·.1))) (hn : n = T.length) (hl : T.length ≤ 9) (hB : B ≤ w.heap.size) :
    Calls Tryd.prog 19 #[.agg #[.slice ao n cap, vp], .int .i64 a] w fun e w' => e = .returned (.int .i64 (idx (tfind T a))) ∧ Below w.heap.size w w' := by
  subst hn
  have HA := Lib.hid hA; clear hA
  obtain ⟨wb, hwb⟩ : ∃ wb, wb = w.alloc (.cells #[.slice ao T.length cap, vp] 39) := ⟨_, rfl⟩
  have hb : Below w.heap.size w wb := by rw [hwb]; exact below_alloc _ _
  have c0 : wb.cell? ⟨w.heap.size, 0, none⟩ = some (.slice ao T.length cap) := by rw [hwb]; exact (World.cell?_alloc_mark ..).trans rfl
  have HA2 := Lib.hid (HA.out.below (hb.mono hB))
  have HB := Lib.hid hb; clear hb
  go_enter Tryd.func19, Tryd.ntmps19
  go_wp2
  rw [← hwb]
  clear hwb
  go_loop [5] (fun x => ∃ k : Nat, k ≤ T.length ∧ x = .int .i64 k ∧ Hid (tfind (T.take k) a = none)) (fun x => T.length - (intOf x).toNat)
  case atStart => exact ⟨0, Nat.zero_le _, rfl, rfl⟩
  case round =>
    obtain ⟨k, hk, rfl, ht⟩ := hrel
    by_cases hlt : k < T.length
    · obtain ⟨x, hx⟩ : ∃ x, T[k]? = some x := ⟨_, List.getElem?_eq_getElem hlt⟩
      obtain ⟨b, off, rfl, hbb, c1⟩ := HA2.out k x.1 (by rw [List.getElem?_map, hx]; rfl)
      have hki : (k : Int) < (T.length : Int) := by omega
      have hk0 : (0 : Int) ≤ (k : Int) := by omega
      have Hx := Lib.hid hx; clear hx
      by_cases hxa : x.1 = a
      · have hq : (x.1 == a) = true := by simp [hxa]
        have hf := tfind_at ht.out Hx.out hxa
        have hi : idx (tfind T a) = (k : Int) := by rw [hf]; rfl
        have HI := Lib.hid hi
        clear hi hf hxa
        go_wp2
        go_ret
        exact ⟨ret_int HI.out.symm, HB.out⟩
      · have hq : (x.1 == a) = false := by simp [hxa]
        have hf := tfind_next ht.out Hx.out hxa
        have HF := Lib.hid hf
        clear hf hxa
        go_wp2
        go_round
        case rel => exact ⟨k + 1, by omega, by go_num, HF.out⟩
        case measure => simp [intOf]; omega
    · obtain rfl : k = T.length := by omega
      have hf := ht.out
      rw [List.take_length] at hf
      have hi : idx (tfind T a) = -1 := by rw [hf]; rfl
      have HI := Lib.hid hi
      clear hi hf
      go_wp2
      go_ret
      exact ⟨ret_int HI.out.symm, HB.out⟩

/-- A number behind a row of the call's own; it lies in a block that was built before. -/
theorem app_int {B : Nat} {w : World} {A C : List Ent} {v : Value} {xs : List Int} {x : Int} {X : Nat} (h : Sep B w (A ++ Ent.ints 3 v xs :: C)) (hB : B ≤ w.heap.size) (hq : xs.length ≤ 1000000000) (hx : w.cell? ⟨X, 0, none⟩ = some (.int .i64 x)) :
    ∃ v' w', (Builtin.append_ #[23, 23] 23 #[v, .slice (some ⟨X, 0, none⟩) 1 1]).run Tryd.prog w = .ok v' w' ∧ Sep B w' (A ++ Ent.ints 3 v' (xs ++ [x]) :: C) ∧ Below B w w' := by
  unfold Ent.ints at h
  obtain ⟨v', w', hr, hs, hb⟩ := run_append_sep elemI 23 h hB ⟨X, 0, none⟩ 1 1 [.int .i64 x] rfl (fun j u hj => by
    match j, hj with
    | 0, hj => simp at hj; subst hj; simpa [Addr.add] using hx) (fun u hu => by simp at hu; subst hu; rfl) (by omega) (by omega) (by unfold maxLen; omega)
  refine ⟨v', w', hr, ?_, hb⟩
  unfold Ent.ints
  rw [List.length_append, List.length_singleton, List.map_append]
  exact hs
/-- 'o.f = append(o.f, x)' in a region that draws: o is a block of slices. -/
theorem fieldPush {B : Nat} {w : World} {g j : Nat} {e : TypeId} {cs : List Value} {A C : List Ent} {v : Value} {xs : List Int} (x : Int) (h : Sep B w (Ent.blk1 g e cs :: (A ++ Ent.ints 3 v xs :: C))) (hv : cs[j]? = some v) (hB : B ≤ w.heap.size) (hl : xs.length ≤ 1000000000) :
    ∃ v' w', (Builtin.append_ #[23, 23] 23 #[v, .slice (some ⟨w.heap.size, 0, none⟩) 1 1]).run Tryd.prog (w.alloc (.cells #[.int .i64 x] 3)).drew = .ok v' w' ∧
      w'.cell? ⟨g, j, none⟩ = some v ∧ w'.frozen? ⟨g, j, none⟩ = false ∧ Sep B (w'.setCell ⟨g, j, none⟩ v') (Ent.blk1 g e (cs.set j v') :: (A ++ Ent.ints 3 v' (xs ++ [x]) :: C)) ∧ Below B w (w'.setCell ⟨g, j, none⟩ v') := by
  have hs := (h.alloc (.cells #[.int .i64 x] 3)).drew
  have hgs : B ≤ (w.alloc (.cells #[.int .i64 x] 3)).drew.heap.size := by show B ≤ (w.alloc _).heap.size; simp; omega
  obtain ⟨v', w', hr, hs2, hb⟩ := app_int (A := Ent.blk1 g e cs :: A) (x := x) (X := w.heap.size) hs hgs hl (by
    show (w.alloc _).cell? _ = _
    rw [World.cell?_alloc_mark]; rfl)
  obtain ⟨c1, c2⟩ := Sep.blkAt (A := []) hs2 hv
  exact ⟨v', w', hr, c1, c2, Sep.blkSet (A := []) hs2 j v', ((((Below.refl B w).alloc hB _).drew).trans hb).setCell (p := ⟨g, j, none⟩) (Sep.blkLt (A := []) hs2).1 v'⟩
/-- 'o.f = o.f[1:]'. -/
theorem intsCut {B : Nat} {w : World} {A C : List Ent} {e : TypeId} {v : Value} {xs : List Int} (h : Sep B w (A ++ Ent.ints e v xs :: C)) (hx : 1 < xs.length) :
    ∃ ao cap, v = .slice ao xs.length cap ∧ Sep B w (A ++ Ent.ints e (.slice (cutAddr ao cap 1 1) (xs.length - 1) (cap - 1)) (xs.drop 1) :: C) := by
  obtain ⟨ao, cap, rfl, hc, -⟩ := h.intsShape
  obtain ⟨y, hy⟩ : ∃ y, xs[0]? = some y := ⟨_, List.getElem?_eq_getElem (by omega)⟩
  obtain ⟨g7, o7, rfl, -⟩ := h.intsAt hy
  have hcut : cutAddr (some ⟨g7, o7, none⟩) cap 1 1 = some ⟨g7, o7 + 1, none⟩ := by unfold cutAddr; rw [if_neg (by omega)]; rfl
  refine ⟨_, cap, rfl, ?_⟩
  rw [hcut]
  have := Sep.rowCut h 1 (xs.length - 1) (cap - 1) (by omega) (by omega)
  unfold Ent.ints
  rw [List.length_drop, List.map_drop]
  exact this

/-- Three blocks: the receiver's, the result's, the variable's. -/
def swR (gb gr gv : Nat) (oa op va vp : Value) (K T : Tab) (F : List Ent) : List Ent :=
  Ent.blk1 gv 39 [oa, op] :: Ent.ints 3 oa (K.map (·.1)) :: Ent.ints 3 op (K.map (·.2)) :: Ent.blk1 gr 39 [.slice none 0 0, .slice none 0 0] :: Ent.blk1 gb 39 [va, vp] ::
    Ent.ints 3 va (T.map (·.1)) :: Ent.ints 3 vp (T.map (·.2)) :: F
theorem swR_new {B : Nat} {w : World} {va vp : Value} {T : Tab} {F : List Ent} (h : Sep B w (Ent.ints 3 va (T.map (·.1)) :: Ent.ints 3 vp (T.map (·.2)) :: F)) (hB : B ≤ w.heap.size) :
    Sep B (((w.alloc (.cells #[va, vp] 39)).alloc (.cells #[.slice none 0 0, .slice none 0 0] 39)).alloc (.cells #[.slice none 0 0, .slice none 0 0] 39))
      (swR w.heap.size (w.heap.size + 1) (w.heap.size + 1 + 1) (.slice none 0 0) (.slice none 0 0) va vp [] T F) := by
  have h1 := h.blkNew hB #[va, vp] 39
  have h2 := h1.blkNew (by simp; omega) #[.slice none 0 0, .slice none 0 0] 39
  have h3 := ((h2.intsNil 3).intsNil 3).blkNew (by simp; omega) #[.slice none 0 0, .slice none 0 0] 39
  have e1 : (w.alloc (.cells #[va, vp] 39)).heap.size = w.heap.size + 1 := by simp
  have e2 : ((w.alloc (.cells #[va, vp] 39)).alloc (.cells #[.slice none 0 0, .slice none 0 0] 39)).heap.size = w.heap.size + 1 + 1 := by simp
  rw [e1, e2] at h3
  exact h3
theorem intsAtN {B : Nat} {w : World} {A C : List Ent} {e : TypeId} {ao : Option Addr} {n cap : Nat} {xs : List Int} (h : Sep B w (A ++ Ent.ints e (.slice ao n cap) xs :: C)) (hn : n = xs.length) {j : Nat} {x : Int} (hx : xs[j]? = some x) :
    ∃ g off, ao = some ⟨g, off, none⟩ ∧ w.cell? ⟨g, off + j, none⟩ = some (.int .i64 x) := by
  subst hn
  obtain ⟨g, off, h1, h2, -⟩ := h.intsAt hx
  exact ⟨g, off, h1, h2⟩
theorem anyShape {B : Nat} {w : World} {A C : List Ent} {e : TypeId} {v : Value} {xs : List Int} (h : Sep B w (A ++ Ent.ints e v xs :: C)) : ∃ ao n cap, v = .slice ao n cap := by
  obtain ⟨a, c, h1, -⟩ := h.intsShape
  exact ⟨a, _, c, h1⟩
theorem mapShape {B : Nat} {w : World} {A C : List Ent} {e : TypeId} {v : Value} {T : Tab} {f : Int × Int → Int} (h : Sep B w (A ++ Ent.ints e v (T.map f) :: C)) : ∃ ao cap, v = .slice ao T.length cap := by
  obtain ⟨a, c, h1, -⟩ := h.intsShape
  rw [List.length_map] at h1
  exact ⟨a, c, h1⟩
/-- The blocks are left behind; the result's block holds what the variable held. -/
theorem swR_end {B gb gr gv : Nat} {w w0 : World} {oa op va vp : Value} {K T : Tab} {F : List Ent} (h : Sep B w (swR gb gr gv oa op va vp K T F)) (hb : Below B w0 w) :
    Sep B ((w.setCell ⟨gr, 0, none⟩ oa).setCell ⟨gr, 1, none⟩ op) (Ent.ints 3 oa (K.map (·.1)) :: Ent.ints 3 op (K.map (·.2)) :: Ent.ints 3 va (T.map (·.1)) :: Ent.ints 3 vp (T.map (·.2)) :: F) ∧ Below B w0 ((w.setCell ⟨gr, 0, none⟩ oa).setCell ⟨gr, 1, none⟩ op) ∧
      ((w.setCell ⟨gr, 0, none⟩ oa).setCell ⟨gr, 1, none⟩ op).cell? ⟨gr, 0, none⟩ = some oa ∧ ((w.setCell ⟨gr, 0, none⟩ oa).setCell ⟨gr, 1, none⟩ op).cell? ⟨gr, 1, none⟩ = some op := by
  have h1 := Sep.blkSet (A := [_, _, _]) h 0 oa
  have h2 := Sep.blkSet (A := [_, _, _]) h1 1 op
  have hl := (Sep.blkLt (A := [_, _, _]) h).1
  refine ⟨h2.sub ?_, (hb.setCell (p := ⟨gr, 0, none⟩) hl oa).setCell (p := ⟨gr, 1, none⟩) hl op, (Sep.blkAt (A := [_, _, _]) h2 (j := 0) rfl).1, (Sep.blkAt (A := [_, _, _]) h2 (j := 1) rfl).1⟩
  refine List.Sublist.cons _ (List.Sublist.cons_cons _ (List.Sublist.cons_cons _ (List.Sublist.cons _ (List.Sublist.cons _ (List.Sublist.refl _)))))
set_option maxHeartbeats 2000000 in
theorem downR_ok (B : Nat) (va vp : Value) (T : Tab) (F : List Ent) (p : Int) (w : World) (hl : T.length ≤ 9) (hsep : Sep B w (Ent.ints 3 va (T.map (·.1)) :: Ent.ints 3 vp (T.map (·.2)) :: F)) (hB : B ≤ w.heap.size) :
    Calls Tryd.prog 18 #[.agg #[va, vp], .int .i64 p] w fun e w' => ∃ va' vp', e = .returned (.agg #[va', vp']) ∧
      Sep B w' (Ent.ints 3 va' ((downT T p).map (·.1)) :: Ent.ints 3 vp' ((downT T p).map (·.2)) :: Ent.ints 3 va (T.map (·.1)) :: Ent.ints 3 vp (T.map (·.2)) :: F) ∧ Below B w w' := by
  obtain ⟨aa, ca, rfl⟩ := mapShape (A := []) hsep
  obtain ⟨ap, cp, rfl⟩ := mapShape (A := [_]) hsep
  have h0 := swR_new hsep hB
  have hb0 := (((Below.refl B w).alloc hB (.cells #[.slice aa T.length ca, .slice ap T.length cp] 39)).alloc (by simp; omega) (.cells #[.slice none 0 0, .slice none 0 0] 39)).alloc (by simp; omega) (.cells #[.slice none 0 0, .slice none 0 0] 39)
  obtain ⟨gv, hgv⟩ : ∃ x, x = w.heap.size + 1 + 1 := ⟨_, rfl⟩
  obtain ⟨gr, hgr⟩ : ∃ x, x = w.heap.size + 1 := ⟨_, rfl⟩
  obtain ⟨gb, hgb⟩ : ∃ x, x = w.heap.size := ⟨_, rfl⟩
  rw [← hgv, ← hgr, ← hgb] at h0
  have HS0 := Lib.hid h0
  have HB0 := Lib.hid hb0
  have HGV := Lib.hid hgv
  have HGR := Lib.hid hgr
  have HGB := Lib.hid hgb
  clear h0 hb0 hsep hgv hgr hgb
  go_enter Tryd.func18, Tryd.ntmps18
  go_wp2
  rw [← HGV.out, ← HGR.out, ← HGB.out]
  go_loopw [6] (fun i wr => ∃ (k : Nat) (oa op : Value), k ≤ T.length ∧ i = .int .i64 k ∧ Sep B wr (swR gb gr gv oa op (.slice aa T.length ca) (.slice ap T.length cp) (downT (T.take k) p) T F) ∧ Below B w wr) (fun i _ => T.length - (intOf i).toNat)
  case atStart => exact ⟨0, _, _, Nat.zero_le _, rfl, HS0.out, HB0.out⟩
  case round =>
    obtain ⟨k, oa, op, hk, rfl, hsep, hbel⟩ := hrel
    have HS1 := Lib.hid hsep
    have HB1 := Lib.hid hbel
    clear HS0 HB0 hsep hbel
    obtain ⟨w1, hw1⟩ : ∃ w1, w1 = wr := ⟨_, rfl⟩
    obtain rfl := hw1
    have hg1 : B ≤ w1.heap.size := Nat.le_trans hB HB1.out.size
    have b0 := (Sep.blkAt (A := [_, _, _, _]) HS1.out (j := 0) rfl).1
    have b1 := (Sep.blkAt (A := [_, _, _, _]) HS1.out (j := 1) rfl).1
    have o0 := (Sep.blkAt (A := []) HS1.out (j := 0) rfl).1
    have o1 := (Sep.blkAt (A := []) HS1.out (j := 1) rfl).1
    by_cases hlt : k < T.length
    · have hki : (k : Int) < (T.length : Int) := by omega
      have hk0 : (0 : Int) ≤ (k : Int) := by omega
      obtain ⟨x, hx⟩ : ∃ x, T[k]? = some x := ⟨_, List.getElem?_eq_getElem hlt⟩
      obtain ⟨ga, oA, rfl, r0⟩ := intsAtN (A := [_, _, _, _, _]) (C := _ :: F) HS1.out (List.length_map _).symm (j := k) (x := x.1) (by rw [List.getElem?_map, hx]; rfl)
      obtain ⟨gp, oP, rfl, r1⟩ := intsAtN (A := [_, _, _, _, _, _]) (C := F) HS1.out (List.length_map _).symm (j := k) (x := x.2) (by rw [List.getElem?_map, hx]; rfl)
      by_cases he : x.2 = p
      · have hne : (x.2 != p) = false := by simp [he]
        have HNX := Lib.hid (downT_skip hx he)
        clear hx he
        go_wp2
        go_roundw
        case rel => exact ⟨k + 1, oa, op, by omega, by go_num, by rw [HNX.out]; exact HS1.out, HB1.out⟩
        case measure => simp [intOf]; omega
      · have hne : (x.2 != p) = true := by simp [he]
        have HNX := Lib.hid (downT_add hx he)
        have hlen := downT_take_len T p k
        have hlen1 : ((downT (T.take k) p).map (·.1)).length ≤ 1000000000 := by rw [List.length_map]; omega
        have hlen2 : ((downT (T.take k) p).map (·.2)).length ≤ 1000000000 := by rw [List.length_map]; omega
        clear he
        have HX2 := Lib.hid hx
        have HS1' : Hid (Sep B w1 (Ent.blk1 gv 39 [oa, op] :: ([] ++ Ent.ints 3 oa ((downT (T.take k) p).map (·.1)) :: Ent.ints 3 op ((downT (T.take k) p).map (·.2)) :: Ent.blk1 gr 39 [.slice none 0 0, .slice none 0 0] :: Ent.blk1 gb 39 [.slice (some ⟨ga, oA, none⟩) T.length ca, .slice (some ⟨gp, oP, none⟩) T.length cp] ::
            Ent.ints 3 (.slice (some ⟨ga, oA, none⟩) T.length ca) (T.map (·.1)) :: Ent.ints 3 (.slice (some ⟨gp, oP, none⟩) T.length cp) (T.map (·.2)) :: F))) := Lib.hid HS1.out
        clear HS1
        obtain ⟨v2, w2, hr, p0, p1, hs2, hb2⟩ := fieldPush x.1 (A := []) HS1'.out (j := 0) rfl hg1 hlen1
        obtain ⟨a2, n2, c2, rfl⟩ := anyShape (A := [_]) hs2
        have oo := (Sep.blkAt (A := []) (HS1'.out.alloc (.cells #[.int .i64 x.1] 3)) (j := 0) rfl).1
        have HR := Lib.hid hr
        have HS2 := Lib.hid hs2
        have HB2 := Lib.hid (HB1.out.trans hb2)
        clear hr hs2 hb2 hx
        go_upto_region 6 with fail
        go_cut [] (fun wx => ∃ v, Sep B wx (Ent.blk1 gv 39 [v, op] :: ([] ++ Ent.ints 3 v ((downT (T.take k) p).map (·.1) ++ [x.1]) :: Ent.ints 3 op ((downT (T.take k) p).map (·.2)) :: Ent.blk1 gr 39 [.slice none 0 0, .slice none 0 0] :: Ent.blk1 gb 39 [.slice (some ⟨ga, oA, none⟩) T.length ca, .slice (some ⟨gp, oP, none⟩) T.length cp] ::
            Ent.ints 3 (.slice (some ⟨ga, oA, none⟩) T.length ca) (T.map (·.1)) :: Ent.ints 3 (.slice (some ⟨gp, oP, none⟩) T.length cp) (T.map (·.2)) :: F)) ∧ Below B w wx)
        case first =>
          go_region_law (refine step_append_run rfl (.tmp 22) (.tmp 28) 23 rfl oa (.slice (some ⟨w1.heap.size, 0, none⟩) 1 1) ?_ ?_ HR.out ?_; rfl; rfl)
          all_goals
            go_wp2_with fail
            go_meet
            exact ⟨_, HS2.out, HB2.out⟩
        case rest =>
          obtain ⟨v2, hs2, hb2⟩ := hcut
          clear b0 b1 o0 o1 oo p0 p1 HR HS1' HB1 hg1 r0 r1 HS2 HB2
          have HS2 := Lib.hid hs2
          have HB2 := Lib.hid hb2
          clear hs2 hb2
          obtain ⟨w3, hw3⟩ : ∃ w3, w3 = wc := ⟨_, rfl⟩
          obtain rfl := hw3
          have hg3 : B ≤ w3.heap.size := Nat.le_trans hB HB2.out.size
          have b0 := (Sep.blkAt (A := [_, _, _, _]) HS2.out (j := 0) rfl).1
          have b1 := (Sep.blkAt (A := [_, _, _, _]) HS2.out (j := 1) rfl).1
          have o0 := (Sep.blkAt (A := []) HS2.out (j := 0) rfl).1
          have o1 := (Sep.blkAt (A := []) HS2.out (j := 1) rfl).1
          obtain ⟨_, _, he, r1⟩ := intsAtN (A := [_, _, _, _, _, _]) (C := F) HS2.out (List.length_map _).symm (j := k) (x := x.2) (by rw [List.getElem?_map, HX2.out]; rfl)
          simp only [Option.some.injEq, Addr.mk.injEq, and_true] at he
          obtain ⟨rfl, rfl⟩ := he
          obtain ⟨v4, w4, hr, p0, p1, hs4, hb4⟩ := fieldPush x.2 (A := [_]) HS2.out (j := 1) rfl hg3 hlen2
          obtain ⟨a4, n4, c4, rfl⟩ := anyShape (A := [_, _]) hs4
          have oo := (Sep.blkAt (A := []) (HS2.out.alloc (.cells #[.int .i64 x.2] 3)) (j := 1) rfl).1
          have hs5 : Sep B (w4.setCell ⟨gv, 1, none⟩ (.slice a4 n4 c4)) (swR gb gr gv v2 (.slice a4 n4 c4) (.slice (some ⟨ga, oA, none⟩) T.length ca) (.slice (some ⟨gp, oP, none⟩) T.length cp) (downT (T.take (k + 1)) p) T F) := by
            have e := HNX.out
            unfold swR
            rw [e, List.map_append, List.map_append]
            exact hs4
          have HR := Lib.hid hr
          have HS4 := Lib.hid hs5
          have HB4 := Lib.hid (HB2.out.trans hb4)
          clear hr hs4 hb4 hs5
          go_wp2_with fail
          go_region_law (refine step_append_run rfl (.tmp 32) (.tmp 38) 23 rfl op (.slice (some ⟨w3.heap.size, 0, none⟩) 1 1) ?_ ?_ HR.out ?_; rfl; rfl)
          all_goals
            clear b0 b1 o0 o1 oo p0 p1 HR HS2 HB2 hg3 r1
            generalize w4.setCell ⟨gv, 1, none⟩ (.slice a4 n4 c4) = w5 at *
            go_wp2
            go_roundw
            case rel => exact ⟨k + 1, _, _, by omega, by go_num, HS4.out, HB4.out⟩
            case measure => simp [intOf]; omega
    · obtain rfl : k = T.length := by omega
      have hki : decide ((T.length : Int) < (T.length : Int)) = false := decide_eq_false (by omega)
      have hs1 := HS1.out
      rw [List.take_length] at hs1
      obtain ⟨a3, c3, rfl⟩ := mapShape (A := [_]) hs1
      obtain ⟨a5, c5, rfl⟩ := mapShape (A := [_, _]) hs1
      obtain ⟨z0, y0⟩ := Sep.blkAt (A := [_, _, _]) hs1 (j := 0) rfl
      obtain ⟨z1, y1⟩ := Sep.blkAt (A := [_, _, _]) hs1 (j := 1) rfl
      obtain ⟨he1, he2, k0, k1⟩ := swR_end hs1 HB1.out
      have HE1 := Lib.hid he1
      have HE2 := Lib.hid he2
      clear he1 he2 hs1
      go_wp2
      try simp only [Exit.inBlock, Exit.then]
      refine bodyPost_ret (by simp [results, Tryd.results18, go_sem, k0, k1] <;> rfl) rfl ⟨_, _, rfl, HE1.out, HE2.out⟩
theorem intsCutN {B : Nat} {w : World} {A C : List Ent} {e : TypeId} {ao : Option Addr} {n cap : Nat} {xs : List Int} (h : Sep B w (A ++ Ent.ints e (.slice ao n cap) xs :: C)) (hn : n = xs.length) (hx : 1 < n) :
    Sep B w (A ++ Ent.ints e (.slice (cutAddr ao cap 1 1) (n - 1) (cap - 1)) (xs.drop 1) :: C) := by
  subst hn
  obtain ⟨a, c, he, h2⟩ := intsCut h hx
  cases he
  exact h2
theorem intsCutS {B : Nat} {w : World} {A C : List Ent} {e : TypeId} {b o n cap : Nat} {xs : List Int} (h : Sep B w (A ++ Ent.ints e (.slice (some ⟨b, o, none⟩) n cap) xs :: C)) (hn : n = xs.length) (hx : 1 < n) :
    cutAddr (some ⟨b, o, none⟩) cap 1 1 = some ⟨b, o + 1, none⟩ ∧ Sep B w (A ++ Ent.ints e (.slice (some ⟨b, o + 1, none⟩) (n - 1) (cap - 1)) (xs.drop 1) :: C) := by
  subst hn
  have hcut : cutAddr (some ⟨b, o, none⟩) cap 1 1 = some ⟨b, o + 1, none⟩ := by
    obtain ⟨a, c, he, hc, -⟩ := h.intsShape
    cases he
    unfold cutAddr; rw [if_neg (by omega)]; rfl
  refine ⟨hcut, ?_⟩
  have h2 := intsCutN h rfl hx
  rw [hcut] at h2
  exact h2
theorem intSlN {B : Nat} {w : World} {A C : List Ent} {e : TypeId} {ao : Option Addr} {n cap : Nat} {xs : List Int} (h : Sep B w (A ++ Ent.ints e (.slice ao n cap) xs :: C)) (hn : n = xs.length) : IntSl w.heap.size w ao xs := by
  subst hn; exact h.intSl
set_option maxHeartbeats 1000000 in
theorem outR_ok (B : Nat) (va vp : Value) (T : Tab) (F : List Ent) (t p : Int) (w : World) (hl : T.length ≤ 9) (hsep : Sep B w (Ent.ints 3 va (T.map (·.1)) :: Ent.ints 3 vp (T.map (·.2)) :: F)) (hB : B ≤ w.heap.size) :
    Calls Tryd.prog 16 #[.agg #[va, vp], .int .i64 t, .int .i64 p] w fun e w' => ∃ vo, e = .returned vo ∧
      Sep B w' (Ent.ints 3 vo (outR T t p 4) :: Ent.ints 3 va (T.map (·.1)) :: Ent.ints 3 vp (T.map (·.2)) :: F) ∧ Below B w w' := by
  obtain ⟨aa, ca, rfl⟩ := mapShape (A := []) hsep
  obtain ⟨ap, cp, rfl⟩ := mapShape (A := [_]) hsep
  obtain ⟨w1, hw1⟩ : ∃ w1, w1 = w.alloc (.cells #[.slice aa T.length ca, .slice ap T.length cp] 39) := ⟨_, rfl⟩
  have h1 := hsep.blkNew hB #[.slice aa T.length ca, .slice ap T.length cp] 39
  have hb1 := (Below.refl B w).alloc hB (.cells #[.slice aa T.length ca, .slice ap T.length cp] 39)
  rw [← hw1] at h1 hb1
  have HS1 := Lib.hid h1
  have HB1 := Lib.hid hb1
  clear h1 hb1 hsep
  have hg1 : B ≤ w1.heap.size := Nat.le_trans hB HB1.out.size
  have b0 := (Sep.blkAt (A := []) HS1.out (j := 0) rfl).1
  have b1 := (Sep.blkAt (A := []) HS1.out (j := 1) rfl).1
  have HWE := Lib.hid hw1
  have HF := Lib.hid (findR_any w1.heap.size aa ca T.length (.slice ap T.length cp) T t w1 (intSlN (A := [_]) HS1.out (List.length_map _).symm) rfl hl (Nat.le_refl _))
  obtain ⟨f, hf⟩ : ∃ f, f = tfind T t := ⟨_, rfl⟩
  rw [← hf] at HF
  have HFE := Lib.hid hf
  clear hf
  go_enter Tryd.func16, Tryd.ntmps16
  go_upto_region 1 with fail
  rw [← HWE.out]
  clear HWE hw1
  go_wp2_with fail
  refine HF.out.mono ?_
  rintro e w2 ⟨rfl, hb⟩
  have HS2 := Lib.hid ((HS1.out.kept hb).intsNil 3)
  have HB2 := Lib.hid (HB1.out.trans (hb.mono hg1))
  clear hb HF HS1 HB1 b0 b1 hg1
  obtain ⟨q, hq⟩ : ∃ q, q = idx f := ⟨_, rfl⟩
  rw [← hq]
  have HQ := Lib.hid hq
  clear hq
  go_wp2
  go_loopw [8, 9] (fun ov iv wr => ∃ (k : Nat) (o : Value), k ≤ 4 ∧ o = ov ∧ iv = .int .i64 k ∧ Sep B wr (Ent.ints 3 o (outR T t p k) :: Ent.blk1 w.heap.size 39 [.slice aa T.length ca, .slice ap T.length cp] :: Ent.ints 3 (.slice aa T.length ca) (T.map (·.1)) :: Ent.ints 3 (.slice ap T.length cp) (T.map (·.2)) :: F) ∧ Below B w wr) (fun _ iv _ => 4 - (intOf iv).toNat)
  case atStart => exact ⟨0, _, Nat.zero_le _, rfl, rfl, HS2.out, HB2.out⟩
  case round =>
    obtain ⟨k, o, hk, rfl, rfl, hsep, hbel⟩ := hrel
    clear HS2 HB2
    have HS3 := Lib.hid hsep
    have HB3 := Lib.hid hbel
    obtain ⟨w3, hw3⟩ : ∃ w3, w3 = wr := ⟨_, rfl⟩
    obtain rfl := hw3
    have hg3 : B ≤ w3.heap.size := Nat.le_trans hB HB3.out.size
    have b1 := (Sep.blkAt (A := [_]) HS3.out (j := 1) rfl).1
    clear hsep hbel
    have hol := outR_len T t p k
    have hol2 : (outR T t p k).length ≤ 1000000000 := by omega
    have HOL := Lib.hid hol2
    clear hol hol2
    by_cases hlt : k < 4
    · have hki : decide ((k : Int) < 4) = true := decide_eq_true (by omega)
      by_cases hkp : (k : Int) = p
      · have hne : ((k : Int) != p) = false := by simp [hkp]
        have HNX := Lib.hid (outR_no hlt (T := T) (t := t) (p := p) (by unfold outP; simp [hkp]))
        clear hkp
        go_wp2
        go_roundw
        case rel => exact ⟨k + 1, o, by omega, rfl, by go_num, by rw [HNX.out]; exact HS3.out, HB3.out⟩
        case measure => simp [intOf]; omega
      · have hne : ((k : Int) != p) = true := by simp [hkp]
        cases f with
        | none =>
          have hq1 : q = -1 := HQ.out
          subst hq1
          have HNX := Lib.hid (outR_yes hlt (T := T) (t := t) (p := p) (by unfold outP; rw [← HFE.out]; simp [hkp]))
          clear hkp
          go_wp2_with (at_builtin; refine wpList_append_int rfl (.tmp 33) (.tmp 35) rfl elemI (A := []) rfl HS3.out hg3 rfl HOL.out ?_)
          intro v4 w4 hs hb
          rw [← HNX.out] at hs
          have HS4 := Lib.hid hs
          have HB4 := Lib.hid (HB3.out.trans hb)
          clear hs hb
          go_wp2
          go_roundw
          case rel => exact ⟨k + 1, _, by omega, rfl, by go_num, HS4.out, HB4.out⟩
          case measure => simp [intOf]; omega
        | some j =>
          have hq1 : q = (j : Int) := HQ.out
          subst hq1
          have hf2 : tfind T t = some j := HFE.out.symm
          have hjl := tfind_lt hf2
          obtain ⟨gp, oP, rfl, r1⟩ := intsAtN (A := [_, _, _]) (C := F) HS3.out (List.length_map _).symm (look_some hf2)
          have hjn : decide ((j : Int) < 0) = false := decide_eq_false (by omega)
          have hji : (j : Int) < (T.length : Int) := by omega
          have hj0 : (0 : Int) ≤ (j : Int) := by omega
          by_cases hlk : look T t = (k : Int)
          · have hlq : (look T t == (k : Int)) = true := by simp [hlk]
            have HNX := Lib.hid (outR_yes hlt (T := T) (t := t) (p := p) (by unfold outP; rw [hf2]; simp [hkp, hlk]))
            clear hkp hf2 hlk
            go_wp2_with (at_builtin; refine wpList_append_int rfl (.tmp 33) (.tmp 35) rfl elemI (A := []) rfl HS3.out hg3 rfl HOL.out ?_)
            intro v4 w4 hs hb
            rw [← HNX.out] at hs
            have HS4 := Lib.hid hs
            have HB4 := Lib.hid (HB3.out.trans hb)
            clear hs hb
            go_wp2
            go_roundw
            case rel => exact ⟨k + 1, _, by omega, rfl, by go_num, HS4.out, HB4.out⟩
            case measure => simp [intOf]; omega
          · have hlq : (look T t == (k : Int)) = false := by simp [hlk]
            have HNX := Lib.hid (outR_no hlt (T := T) (t := t) (p := p) (by unfold outP; rw [hf2]; simp [hkp, hlk]))
            clear hkp hf2 hlk
            go_wp2
            go_roundw
            case rel => exact ⟨k + 1, o, by omega, rfl, by go_num, by rw [HNX.out]; exact HS3.out, HB3.out⟩
            case measure => simp [intOf]; omega
    · obtain rfl : k = 4 := by omega
      have hki : decide (((4 : Nat) : Int) < 4) = false := decide_eq_false (by omega)
      have HE := Lib.hid (HS3.out.sub (List.Sublist.cons_cons _ (List.Sublist.cons _ (List.Sublist.refl _))))
      go_wp2
      go_ret
      exact ⟨_, rfl, HE.out, HB3.out⟩
end Go.Proofs.YtommedhaaojgiaaDoor
