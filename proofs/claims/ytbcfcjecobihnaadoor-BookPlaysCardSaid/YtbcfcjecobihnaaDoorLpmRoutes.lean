/- (*lpm.Table).Routes. -/
import Derived.Test.YtbcfcjecobihnaaDoorLpmWalk
import Derived.Test.YtbcfcjecobihnaaDoorLpmCmp
namespace Go.Proofs.YtbcfcjecobihnaaDoor
open Go.RowKit Go.Lib Go.Sort
set_option linter.unusedVariables false
set_option maxRecDepth 100000

theorem rte_holds {B : Nat} {w : World} {g off cap : Nat} {L : List Rte} {A C : List Ent} (h : Sep B w (A ++ rteE (.slice (some ⟨g, off, none⟩) L.length cap) L :: C)) : HoldsK rteL 3 w g off L.toArray := by
  intro j hj
  have hj' : j < L.length * 3 := by simpa using hj
  have hn : 0 < L.length := by omega
  obtain ⟨g', off', he, _, hc, hf⟩ := Sep.rowAt h hn
  simp only [Option.some.injEq, Addr.mk.injEq, and_true] at he
  obtain ⟨rfl, rfl⟩ := he
  refine ⟨?_, hf _⟩
  rw [hc j hj', get_flatK _ _ _ _ (by simpa using hj')]
  have h3 : j % 3 < 3 := Nat.mod_lt _ (by decide)
  have hlt : j / 3 < L.length := by omega
  have hx : L[j / 3]? = some L[j / 3] := List.getElem?_eq_getElem hlt
  have hf2 := flat_get rteL 3 (fun _ => rfl) h3 L (j / 3) _ hx
  rw [show j / 3 * 3 + j % 3 = j by omega] at hf2
  rw [hf2, show L.toArray[j / 3]! = L[j / 3] by simp [hlt]]
  generalize L[j / 3] = x
  have h4 : j % 3 = 0 ∨ j % 3 = 1 ∨ j % 3 = 2 := by omega
  rcases h4 with h4 | h4 | h4 <;> rw [h4] <;> rfl
theorem routes_sort (B : Nat) (w : World) (v : Value) (L : List Rte) (A F : List Ent) (hs : SrtR L) (h : Sep B w (A ++ rteE v L :: F)) (hl : L.length ≤ 32) :
    Calls Tryd.prog 26 #[v, .func (Fn.func 27) #[] #[]] w fun e w' => e = .returned (.tuple #[]) ∧ Below w.heap.size w w' := by
  by_cases h0 : L.length = 0
  · obtain ⟨-, ao, cap, rfl, -⟩ := Sep.rowShape h
    rw [h0]
    refine (AnyF.slices_SortFunc_none shelf_laysSortR ao cap _ w).mono ?_
    rintro e w' ⟨rfl, rfl⟩
    exact ⟨rfl, Below.refl _ _⟩
  · obtain ⟨-, ao, cap, rfl, -⟩ := Sep.rowShape h
    obtain ⟨g, off, rfl, hg, -⟩ := Sep.rowAt h (by omega)
    have hH := rte_holds h
    have hlt : g < w.heap.size := (h.mem.2 g rfl).2
    have eg : ∀ args w, (callFunc 27 args).run Tryd.prog w = .ok (.enter 27 args) w := enters_of Tryd.func27 (by kernel_rfl) rfl
    have hcon := AnyQ.slices_SortFunc shelf_laysSortR 3 Tryd.isAgg36 Tryd.sizeOf36 rteL (fun _ => rfl) (fun x v hv => by simp [rteL] at hv; rcases hv with rfl | rfl | rfl <;> rfl) cfR swoR 27 #[] g off cap L.toArray w eg (fun _ _ _ _ x y => rtcmp_any x y _) hH hlt (by simp; omega)
    refine Calls.mono hcon ?_
    rintro e w' ⟨rfl, d', n, os, hp, ho, rfl⟩
    rw [sorted_same hs d' hp ho]
    refine ⟨rfl, ?_⟩
    unfold sortWorldK
    rw [putRowK_self _ _ _ _ _ _ (holdsK_ahead _ _ _ _ _ _ _ hH)]
    exact ⟨rfl, rfl, rfl, by simp [Sort.ahead], fun k hk => by rw [Go.Sort.heap_grow_old _ _ (by simpa [Sort.ahead] using hk)]; rfl⟩
set_option maxHeartbeats 2000000 in
theorem lpmRoutes_any (B tb : Nat) (L : List Rte) (F : List Ent) (w : World) (hB : B ≤ w.heap.size) (hs : TabS B w tb L F) :
    Calls Tryd.prog 12 #[.pointer (some ⟨tb, 0, none⟩)] w fun e w' => ∃ v, e = .returned v ∧ TabS B w' tb L (rteE v L :: F) ∧ Below B w w' := by
  obtain ⟨T, hT, hL, hs⟩ := hs
  obtain ⟨bo, hbo⟩ : ∃ bo, bo = w.heap.size := ⟨_, rfl⟩
  obtain ⟨bw, hbw⟩ : ∃ bw, bw = w.heap.size + 1 := ⟨_, rfl⟩
  obtain ⟨W1, hW1⟩ : ∃ W1, W1 = w.alloc (.cells #[.slice none 0 0] 25) := ⟨_, rfl⟩
  have hz1 : W1.heap.size = w.heap.size + 1 := by rw [hW1]; simp
  have s1 : Sep B W1 (Ent.blk1 bo 25 [.slice none 0 0] :: (lptE tb L.length T ++ F)) := by rw [hW1, hbo]; exact Sep.blkNew hs hB _ _
  obtain ⟨W, hW⟩ : ∃ W, W = W1.alloc (.cells #[.nilFunc] 67) := ⟨_, rfl⟩
  have s2 : Sep B W (Ent.blk1 bw 67 [.nilFunc] :: Ent.blk1 bo 25 [.slice none 0 0] :: (lptE tb L.length T ++ F)) := by rw [hW, hbw, ← hz1]; exact Sep.blkNew s1 (by omega) _ _
  have b1 : Below B w W := by rw [hW, hW1]; exact ((Below.refl B w).alloc hB _).alloc (by simp; omega) _
  obtain ⟨f0, f1⟩ := Sep.blkAt (A := []) s2 (j := 0) rfl
  have s3 := Sep.blkSet (A := []) s2 0 (walkV bo bw)
  have b3 : Below B w (W.setCell ⟨bw, 0, none⟩ (walkV bo bw)) := b1.setCell (p := ⟨bw, 0, none⟩) (Sep.blkLt (A := []) s2).1 _
  obtain ⟨W3, hW3⟩ : ∃ W3, W3 = W.setCell ⟨bw, 0, none⟩ (walkV bo bw) := ⟨_, rfl⟩
  rw [← hW3] at s3 b3
  have s4 : Sep B W3 (outE bo bw (.slice none 0 0) [] (lptE tb L.length T ++ F)) := (((s3.rowNil 3 36).perm (List.Perm.swap ..)).perm (List.Perm.cons _ (List.Perm.swap ..))).perm (List.Perm.swap ..)|>.perm (List.Perm.cons _ (List.Perm.refl _))
  have hB3 : B ≤ W3.heap.size := Nat.le_trans hB b3.size
  have hwalk := walk_any B bo bw T [] (lptE tb L.length T ++ F) (.slice none 0 0) [] W3.drew hT.root hT.deep (by simp) (fun E hE => by unfold lptE; simp [hE]) hT.high (by simp; rw [hL, ← hL]; have := hT.few; omega) hB3 s4.drew
  rw [List.nil_append, hL] at hwalk
  obtain ⟨c0, c1⟩ := Sep.blkAt (A := [_]) s4 (j := 0) rfl
  obtain ⟨t0, -⟩ := lpt_cells (s4.perm (show (outE bo bw (.slice none 0 0) [] (lptE tb L.length T ++ F)).Perm (lptE tb L.length T ++ (Ent.blk1 bo 25 [.slice none 0 0] :: Ent.blk1 bw 67 [walkV bo bw] :: rteE (.slice none 0 0) [] :: F)) from List.perm_append_comm_assoc [Ent.blk1 bo 25 [.slice none 0 0], Ent.blk1 bw 67 [walkV bo bw], rteE (.slice none 0 0) []] (lptE tb L.length T) F))
  have hst : (store ⟨bw, 0, none⟩ (.func (Fn.func 25) #[] #[.pointer (some ⟨bo, 0, none⟩), .pointer (some ⟨bw, 0, none⟩)])).run Tryd.prog W = .ok () W3 := by
    rw [run_store _ W _ _ _ rfl, f0]
    simp [f1, hW3, walkV]
  have HW := Lib.hid hW
  have HW1 := Lib.hid hW1
  have HW3 := Lib.hid hW3
  have HBO := Lib.hid hbo
  have HBW := Lib.hid hbw
  have HWK := Lib.hid hwalk
  have HB3 := Lib.hid b3
  have HSRT := Lib.hid (show SrtR L by rw [← hL]; exact rts_sorted hT.deep)
  have HFEW := Lib.hid (show L.length ≤ 32 by rw [← hL]; exact hT.few)
  have HT := Lib.hid hT
  have HL := Lib.hid hL
  clear hs s1 s2 s3 s4 b1 b3 hW hW1 hW3 hbo hbw hwalk hT hL
  go_enter Tryd.func12, Tryd.ntmps12
  go_upto_region 3 with fail
  rw [← HW1.out, ← HW.out, ← HBW.out, ← HBO.out]
  go_upto_region 1 with fail
  go_still_tail 6, (by kernel_rfl)
  change wpList _ _ _ _ _ W3.drew
  have hb3d : Below B w W3.drew := HB3.out.drew
  have HB3D := Lib.hid hb3d
  clear c0 c1 t0 f0 f1 hst HB3 HW HW1 HW3 hb3d hz1
  generalize W3.drew = w3 at *
  go_wp2_with fail
  refine HWK.out.mono ?_
  rintro e w4 ⟨rfl, v, hs, hb⟩
  have HB4 := Lib.hid (HB3D.out.trans hb)
  have c0 := (Sep.blkAt (A := []) hs (j := 0) rfl).1
  have hsort := routes_sort B w4 v L [_, _] (lptE tb L.length T ++ F) HSRT.out hs HFEW.out
  have HSO := Lib.hid hsort
  have HS4 := Lib.hid hs
  have hB4 : B ≤ w4.heap.size := Nat.le_trans hB HB4.out.size
  clear hs hb HWK HB3D hsort
  go_wp2_with fail
  refine HSO.out.mono ?_
  rintro e w5 ⟨rfl, hb⟩
  have hs5 := HS4.out.kept hb
  have c0 := (Sep.blkAt (A := []) hs5 (j := 0) rfl).1
  have HS5 := Lib.hid hs5
  have HB5 := Lib.hid (HB4.out.trans (hb.mono hB4))
  clear hs5 hb HS4 HB4 HSO
  go_wp2
  go_ret
  refine ⟨_, rfl, ⟨T, HT.out, HL.out, ?_⟩, HB5.out⟩
  have h1 : Sep B w5 (rteE v L :: (lptE tb L.length T ++ F)) := HS5.out.sub (List.Sublist.cons _ (List.sublist_cons_self _ _))
  exact h1.perm (List.perm_middle (l₁ := lptE tb L.length T)).symm
end Go.Proofs.YtbcfcjecobihnaaDoor
