/- roundsFact: the closed fact holds. -/
import Derived.Test.YtpfpaheafpibiaaRndBits
import Derived.Test.YtpfpaheafpibiaaInts
namespace Go.Proofs.Ytpfpaheafpibiaa
open Go.RowKit
set_option linter.unusedVariables false
set_option maxRecDepth 100000

abbrev rfA : List Obj := [.cells #[.int .i64 5] 3, .cells #[.int .i64 2, .int .i64 2] 3]
def rfR (g : Nat) : List Stp := [(some ⟨g, 0, none⟩, 1, [5]), (some ⟨g + 1, 0, none⟩, 2, [2, 2])]
def rfW (w : World) : World := ((w.alloc (.cells #[.int .i64 5] 3)).alloc (.cells #[.int .i64 2, .int .i64 2] 3)).alloc (.cells #[.slice (some ⟨w.heap.size, 0, none⟩) 1 1, .slice (some ⟨w.heap.size + 1, 0, none⟩) 2 2] 24)
theorem rf_rows (w : World) : RowSl (w.heap.size + 1 + 1 + 1) (rfW w) (some ⟨w.heap.size + 1 + 1, 0, none⟩) 1 ((rfR w.heap.size).map stpC) ∧ StpsOk (w.heap.size + 1 + 1 + 1) (rfW w) (rfR w.heap.size) ∧ Below w.heap.size w (rfW w) ∧ (rfW w).heap.size = w.heap.size + 1 + 1 + 1 := by
  have h1 : IntSl (w.heap.size + 1) (w.alloc (.cells #[.int .i64 5] 3)) (some ⟨w.heap.size, 0, none⟩) [5] := intSl_new w _ _ [5] rfl
  have h1b := (h1.past (by simp) (.cells #[.int .i64 2, .int .i64 2] 3)).past (by simp) (.cells #[.slice (some ⟨w.heap.size, 0, none⟩) 1 1, .slice (some ⟨w.heap.size + 1, 0, none⟩) 2 2] 24)
  have h2 : IntSl (w.heap.size + 1 + 1) ((w.alloc (.cells #[.int .i64 5] 3)).alloc (.cells #[.int .i64 2, .int .i64 2] 3)) (some ⟨w.heap.size + 1, 0, none⟩) [2, 2] := by
    have := intSl_new (w.alloc (.cells #[.int .i64 5] 3)) #[.int .i64 2, .int .i64 2] 3 [2, 2] rfl
    simpa using this
  have h2b := h2.past (by simp) (.cells #[.slice (some ⟨w.heap.size, 0, none⟩) 1 1, .slice (some ⟨w.heap.size + 1, 0, none⟩) 2 2] 24)
  refine ⟨rowSl_new _ _ (by simp) _ _ _ rfl, ?_, ((below_alloc w _).alloc (by simp) _).alloc (by simp; omega) _, by simp [rfW]⟩
  intro r hr
  simp only [rfR, List.mem_cons, List.not_mem_nil, or_false] at hr
  rcases hr with rfl | rfl
  · exact ⟨h1b.mono (by omega), by simp, by simp [maxLen]⟩
  · exact ⟨h2b.mono (by omega), by simp, by simp [maxLen]⟩
theorem rf_of (g : Nat) : rowsOf (rfR g) = [[5], [2, 2]] := rfl
theorem rf_ok : QsOk [[5], [2, 2]] := ⟨by decide, by decide⟩
theorem rf_rnd : rnd (nsOf [[5], [2, 2]]) = [(1, 0, 2, 2), (1, 1, 4, 2), (0, 0, 5, 5)] :=
  (rnd_eq (nsOf_pos rf_ok) (by decide) (by unfold Srt; decide)).symm
theorem rf_ord : ordOf (rnd (nsOf [[5], [2, 2]])) = [1, 1, 0] := by rw [rf_rnd]; rfl
theorem rf_ends : endsOf (rnd (nsOf [[5], [2, 2]])) = [2, 4, 9] := by rw [rf_rnd]; rfl
theorem rf_bits : bitsOf (nsOf [[5], [2, 2]]) (rnd (nsOf [[5], [2, 2]])) = [4, 8, 9] := by rw [rf_rnd]; rfl

theorem rf_run (w : World) : Calls Try.prog 7 #[.slice (some ⟨w.heap.size + 1 + 1, 0, none⟩) 2 2] (rfW w) fun e w' => ∃ va vb, e = .returned (.tuple #[va, vb, .nilIface]) ∧ Sep (w.heap.size + 1 + 1 + 1) w' [Ent.ints 3 vb [2, 4, 9], Ent.ints 3 va [1, 1, 0]] ∧ Below w.heap.size w w' := by
  obtain ⟨h1, h2, h3, h4⟩ := rf_rows w
  have h := rndRun_ok _ 2 2 _ (rfR w.heap.size) (rfW w) h1 h2 rfl (by omega) (by rw [rf_of]; exact rf_ok)
  rw [rf_of, rf_ord, rf_ends, h4] at h
  refine h.mono ?_
  rintro e w' ⟨va, vb, e1, e2, e3⟩
  exact ⟨va, vb, e1, e2, h3.trans (e3.mono (by omega))⟩
theorem rf_bit (w : World) : Calls Try.prog 8 #[.slice (some ⟨w.heap.size + 1 + 1, 0, none⟩) 2 2] (rfW w) fun e w' => ∃ va, e = .returned (.tuple #[va, .nilIface]) ∧ Sep (w.heap.size + 1 + 1 + 1) w' [Ent.ints 3 va [4, 8, 9]] ∧ Below w.heap.size w w' := by
  obtain ⟨h1, h2, h3, h4⟩ := rf_rows w
  have h := rndBits_ok _ 2 2 _ (rfR w.heap.size) (rfW w) h1 h2 rfl (by omega) (by rw [rf_of]; exact rf_ok)
  rw [rf_of, rf_bits, h4] at h
  refine h.mono ?_
  rintro e w' ⟨va, e1, e2, e3⟩
  exact ⟨va, e1, e2, h3.trans (e3.mono (by omega))⟩
set_option maxHeartbeats 1000000 in
theorem rndFact_any (w : World) : Calls Try.prog 6 #[] w fun e w' => e = .returned (.bool true) ∧ Below w.heap.size w w' := by
  have HR := Lib.hid (rf_run w)
  unfold rfW at HR
  go_enter Try.func6, Try.ntmps6
  go_wp2_with fail
  refine HR.out.mono ?_
  rintro e w1 ⟨va, vb, rfl, hs, hb⟩
  obtain ⟨ao1, c1, rfl, _, _⟩ := hs.intsShape (A := [_]) (C := [])
  obtain ⟨ao2, c2, rfl, _, _⟩ := hs.intsShape (A := [])
  have HX := Lib.hid (hs.intSl (A := [_]) (C := []))
  have HY := Lib.hid (hs.intSl (A := []))
  have HB1 := Lib.hid hb
  have HR2 := Lib.hid (rf_bit w1)
  unfold rfW at HR2
  clear hs hb HR
  go_wp2_with fail
  refine HR2.out.mono ?_
  rintro e w2 ⟨va, rfl, hs, hb⟩
  obtain ⟨ao3, c3, rfl, _, _⟩ := hs.intsShape (A := []) (C := [])
  have HZ := Lib.hid (hs.intSl (A := []) (C := []))
  have HX2 := Lib.hid (HX.out.below hb)
  have HY2 := Lib.hid (HY.out.below hb)
  have HB2 := Lib.hid (HB1.out.trans (hb.mono HB1.out.size))
  have hz12 := hb.size
  clear hs hb HR2 HX HY
  have K1 := Lib.hid (fun o => HX2.out.past hz12 o)
  go_wp2_with fail
  refine (ints_any _ _ _ _ _ _ _ _ [1, 1, 0] [1, 1, 0] true _ (K1.out _) (intSl_new _ _ _ _ rfl) rfl rfl (by decide) (by decide)).mono ?_
  rintro e w3 ⟨rfl, hd⟩
  have hb3 : Below w2.heap.size w2 w3 := below_past (below_of_drew hd)
  have HB3 := Lib.hid (HB2.out.trans (hb3.mono HB2.out.size))
  have K2 := Lib.hid (fun o => (HY2.out.below (hb3.mono hz12)).past (Nat.le_trans hz12 hb3.size) o)
  have HZ3 := Lib.hid (HZ.out.below hb3)
  have hz23 := hb3.size
  clear hd hb3 K1
  go_wp2_with fail
  refine (ints_any _ _ _ _ _ _ _ _ [2, 4, 9] [2, 4, 9] true _ (K2.out _) (intSl_new _ _ _ _ rfl) rfl rfl (by decide) (by decide)).mono ?_
  rintro e w4 ⟨rfl, hd⟩
  have hb4 : Below w3.heap.size w3 w4 := below_past (below_of_drew hd)
  have HB4 := Lib.hid (HB3.out.trans (hb4.mono HB3.out.size))
  have K3 := Lib.hid (fun o => (HZ3.out.below (hb4.mono hz23)).past (Nat.le_trans hz23 hb4.size) o)
  clear hd hb4 K2
  go_wp2_with fail
  refine (ints_any _ _ _ _ _ _ _ _ [4, 8, 9] [4, 8, 9] true _ (K3.out _) (intSl_new _ _ _ _ rfl) rfl rfl (by decide) (by decide)).mono ?_
  rintro e w5 ⟨rfl, hd⟩
  have hb5 : Below w4.heap.size w4 w5 := below_past (below_of_drew hd)
  have HB5 := Lib.hid (HB4.out.trans (hb5.mono HB4.out.size))
  clear hd hb5 K3
  go_wp2
  go_ret
  exact ⟨rfl, HB5.out⟩
end Go.Proofs.Ytpfpaheafpibiaa
