/- spfFact: the closed fact holds. -/
import Derived.Test.YtciolkmhafdlpaaWay
import Derived.Test.YtciolkmhafdlpaaInts
namespace Go.Proofs.Ytciolkmhafdlpaa
open Go.RowKit
set_option linter.unusedVariables false

theorem Seg.head {n : Nat} {E : List Edge} {t s u : Nat} {l : List Nat} (h : Seg n E t s l u) : (l = [] ∧ s = u) ∨ ∃ (w : Nat) (l' : List Nat), l = s :: l' ∧ s ≠ t ∧ far E s t < 1000 ∧ IsHop n E s t (w : Int) ∧ Seg n E t w l' u := by
  induction h with
  | nil => exact .inl ⟨rfl, rfl⟩
  | @snoc u w l hs hu hf hh ih =>
    right
    rcases ih with ⟨rfl, rfl⟩ | ⟨x, l', rfl, h1, h2, h3, h4⟩
    · exact ⟨w, [], rfl, hu, hf, hh, Seg.nil w⟩
    · exact ⟨x, l' ++ [u], rfl, h1, h2, h3, Seg.snoc h4 hu hf hh⟩

theorem lnkSl_new (w : World) (g : Nat) (hg : g = w.heap.size) (cs : Array Value) (e : TypeId) (L : List Lnk) (h : cs.toList = L.flatMap lnkC) : RowSl (g + 1) (w.alloc (.cells cs e)) (some ⟨g, 0, none⟩) 3 (L.map lnkC) := by
  subst hg
  intro j r hr
  rw [List.getElem?_map] at hr
  obtain ⟨x, hx, rfl⟩ := Option.map_eq_some_iff.1 hr
  refine ⟨w.heap.size, 0, rfl, Nat.lt_succ_self _, fun t v hv => ?_⟩
  have ht : t < 3 := (List.getElem?_eq_some_iff.1 hv).1
  rw [World.cell?_alloc_mark, Nat.zero_add, ← Array.getElem?_toList, h, flat_get lnkC 3 (fun _ => rfl) ht L j x hx]
  exact hv

def fL : List Lnk := [(0, 1, 5), (0, 2, 1), (2, 1, 1)]
theorem fL_ok : VOk 3 fL := ⟨by decide, by decide, by decide, by unfold LOk fL; decide⟩
theorem fL_far : arr (far (edges fL) 0) 3 = [0, 2, 1] := by decide +kernel
theorem fL_hop : arr (hopOf 3 (edges fL) 0) 3 = [-1, 2, 2] := by decide +kernel
theorem fL_hop0 : hopOf 3 (edges fL) 0 1 = 2 := by decide +kernel
theorem fL_hop2 : hopOf 3 (edges fL) 2 1 = 1 := by decide +kernel
theorem fL_way {l : List Nat} (h : Seg 3 (edges fL) 1 0 l 1) : segL l 1 = [0, 2, 1] := by
  rcases h.head with ⟨_, h⟩ | ⟨w, l1, rfl, _, _, h1, h⟩
  · cases h
  · have e1 := hopOf_of h1
    rw [fL_hop0] at e1
    obtain rfl : w = 2 := by omega
    rcases h.head with ⟨_, h⟩ | ⟨w, l2, rfl, _, _, h1, h⟩
    · cases h
    · have e1 := hopOf_of h1
      rw [fL_hop2] at e1
      obtain rfl : w = 1 := by omega
      rcases h.head with ⟨rfl, _⟩ | ⟨w, l2, rfl, h2, _⟩
      · rfl
      · exact absurd rfl h2

set_option maxHeartbeats 2000000 in
theorem spfFact_any (w : World) : Calls Try.prog 21 #[] w fun e w' => e = .returned (.bool true) ∧ Below w.heap.size w w' := by
  have r1 := lnkSl_new w _ rfl #[.int .i64 0, .int .i64 1, .int .i64 5, .int .i64 0, .int .i64 2, .int .i64 1, .int .i64 2, .int .i64 1, .int .i64 1] 46 fL rfl
  have b1 := below_alloc w (.cells #[.int .i64 0, .int .i64 1, .int .i64 5, .int .i64 0, .int .i64 2, .int .i64 1, .int .i64 2, .int .i64 1, .int .i64 1] 46)
  have z1 : (w.alloc (.cells #[.int .i64 0, .int .i64 1, .int .i64 5, .int .i64 0, .int .i64 2, .int .i64 1, .int .i64 2, .int .i64 1, .int .i64 1] 46)).heap.size = w.heap.size + 1 := by simp
  have R1 := Lib.hid r1
  have B1 := Lib.hid b1
  have Z1 := Lib.hid z1
  clear r1 b1 z1
  go_enter Try.func21, Try.ntmps21
  go_wp2_with fail
  refine (from_ok 3 _ 3 3 _ fL 0 _ R1.out rfl (Nat.le_of_eq Z1.out.symm) fL_ok (by decide)).mono ?_
  rintro e w2 ⟨vf, vh, hf, rfl, hhop, hs, hb⟩
  rw [fL_far, arr_congr (fun v hv => hopOf_of (hhop v hv)), fL_hop] at hs
  obtain ⟨ao1, c1, rfl, _, _⟩ := hs.intsShape (A := []) (C := [_])
  obtain ⟨ao2, c2, rfl, _, _⟩ := hs.intsShape (A := [_]) (C := [])
  have HX := Lib.hid (hs.intSl (A := []) (C := [_]))
  have HY := Lib.hid (hs.intSl (A := [_]) (C := []))
  have HB2 := Lib.hid (B1.out.trans (hb.mono (Nat.le_trans (Nat.le_succ _) (Nat.le_of_eq Z1.out.symm))))
  have R2 := Lib.hid (R1.out.below (hb.mono (Nat.le_of_eq Z1.out.symm)))
  have hz2 : w.heap.size + 1 ≤ w2.heap.size := Nat.le_trans (Nat.le_of_eq Z1.out.symm) hb.size
  have HZ2 := Lib.hid hz2
  clear hs hb hhop hz2
  go_wp2_with fail
  refine (way_ok 3 _ 3 3 _ fL 0 1 _ R2.out rfl HZ2.out fL_ok (by decide) (by decide) (by decide +kernel)).mono ?_
  rintro e w3 ⟨vl, l, rfl, hseg, _, hs, hb⟩
  rw [fL_way hseg] at hs
  obtain ⟨ao3, c3, rfl, _, _⟩ := hs.intsShape (A := []) (C := [])
  have HL := Lib.hid (hs.intSl (A := []) (C := []))
  have HB3 := Lib.hid (HB2.out.trans (hb.mono HB2.out.size))
  have HX3 := Lib.hid ((HX.out.below hb).mono hb.size)
  have HY3 := Lib.hid ((HY.out.below hb).mono hb.size)
  clear hs hb hseg
  have hX3 : ∀ o : Obj, IntSl w3.heap.size (w3.alloc o) ao1 [0, 2, 1] := fun o => HX3.out.past (Nat.le_refl _) o
  have HX4 := Lib.hid hX3; clear hX3
  go_wp2_with fail
  refine (ints_any _ _ _ _ _ _ _ _ [0, 2, 1] [0, 2, 1] true _ (HX4.out _) (intSl_new _ _ _ _ rfl) rfl rfl (by decide) (by decide)).mono ?_
  rintro e w4 ⟨rfl, hd⟩
  have hb4 := below_past (below_of_drew hd)
  have HB4 := Lib.hid (HB3.out.trans (hb4.mono HB3.out.size))
  have HY4 := Lib.hid ((HY3.out.below hb4).mono hb4.size)
  have HL4 := Lib.hid ((HL.out.below hb4).mono hb4.size)
  clear hd hb4
  have hY4 : ∀ o : Obj, IntSl w4.heap.size (w4.alloc o) ao2 [-1, 2, 2] := fun o => HY4.out.past (Nat.le_refl _) o
  have HY5 := Lib.hid hY4; clear hY4
  go_wp2_with fail
  refine (ints_any _ _ _ _ _ _ _ _ [-1, 2, 2] [-1, 2, 2] true _ (HY5.out _) (intSl_new _ _ _ _ rfl) rfl rfl (by decide) (by decide)).mono ?_
  rintro e w5 ⟨rfl, hd⟩
  have hb5 := below_past (below_of_drew hd)
  have HB5 := Lib.hid (HB4.out.trans (hb5.mono HB4.out.size))
  have HL5 := Lib.hid ((HL4.out.below hb5).mono hb5.size)
  clear hd hb5
  have hL5 : ∀ o : Obj, IntSl w5.heap.size (w5.alloc o) ao3 [0, 2, 1] := fun o => HL5.out.past (Nat.le_refl _) o
  have HL6 := Lib.hid hL5; clear hL5
  go_wp2_with fail
  refine (ints_any _ _ _ _ _ _ _ _ [0, 2, 1] [0, 2, 1] true _ (HL6.out _) (intSl_new _ _ _ _ rfl) rfl rfl (by decide) (by decide)).mono ?_
  rintro e w6 ⟨rfl, hd⟩
  have hb6 := below_past (below_of_drew hd)
  have HB6 := Lib.hid (HB5.out.trans (hb6.mono HB5.out.size))
  clear hd hb6
  go_wp2
  go_ret
  exact ⟨rfl, HB6.out⟩
end Go.Proofs.Ytciolkmhafdlpaa
