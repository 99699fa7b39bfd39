/- learn: New, check, find, Port. -/
import Derived.Test.YtommedhaaojgiaaDoorRows
import Derived.Test.YtommedhaaojgiaaDoorRow2
import Derived.Test.YtommedhaaojgiaaDoorLearnPlain
import Derived.Test.YtommedhaaojgiaaDoorWithin
namespace Go.Proofs.YtommedhaaojgiaaDoor
open Go.RowKit
set_option linter.unusedVariables false

/-- A switch: its block, the row of its table. -/
def swE (g : Nat) (v : Value) (T : Tab) : List Ent := [Ent.blk1 g 59 [v], Ent.row v T.length 2 61 (T.flatMap entC)]

theorem entC_len (x : Int × Int) : (entC x).length = 2 := rfl
section
variable {B : Nat} {w : World} {g : Nat} {v : Value} {T : Tab} {F : List Ent}
theorem Sep.swShape (h : Sep B w (swE g v T ++ F)) : ∃ ao cap, v = .slice ao T.length cap ∧ T.length ≤ cap ∧ (ao = none → T.length = 0 ∧ cap = 0) := (Sep.rowShape (A := [_]) h).2
theorem Sep.swCell (h : Sep B w (swE g v T ++ F)) : w.cell? ⟨g, 0, none⟩ = some v ∧ w.frozen? ⟨g, 0, none⟩ = false := Sep.blkAt (A := []) h rfl
theorem Sep.swEnt {ao : Option Addr} {cap : Nat} (h : Sep B w (swE g (.slice ao T.length cap) T ++ F)) {k : Nat} {x : Int × Int} (hx : T[k]? = some x) :
    ∃ b off, ao = some ⟨b, off, none⟩ ∧ w.cell? ⟨b, off + k * 2, none⟩ = some (.int .i64 x.1) ∧ w.cell? ⟨b, off + k * 2 + 1, none⟩ = some (.int .i64 x.2) := by
  have hk : k < T.length := (List.getElem?_eq_some_iff.1 hx).1
  obtain ⟨b, off, rfl, _, hc, _⟩ := Sep.rowAt (A := [_]) h (by omega)
  refine ⟨b, off, rfl, ?_, ?_⟩
  · rw [hc (k * 2) (by omega), show k * 2 = k * 2 + 0 from rfl, flat_get entC 2 entC_len (by omega) T k x hx]; rfl
  · rw [show off + k * 2 + 1 = off + (k * 2 + 1) by omega, hc (k * 2 + 1) (by omega), flat_get entC 2 entC_len (by omega) T k x hx]; rfl
end

theorem learnNew_any (w : World) : Calls Tryd.prog 14 #[] w fun e w' => ∃ g, e = .returned (.pointer (some ⟨g, 0, none⟩)) ∧ Sep w.heap.size w' (swE g (.slice none 0 0) []) ∧ Below w.heap.size w w' := by
  go_enter Tryd.func14, Tryd.ntmps14
  go_wp2
  go_ret
  exact ⟨_, rfl, ((Sep.nil _ w).rowNil 2 61).blkNew (Nat.le_refl _) _ _, below_alloc _ _⟩

theorem check_yes (a p : Int) (w : World) (h : (0 ≤ a ∧ a ≤ 65535) ∧ 0 ≤ p ∧ p ≤ 3) : Calls Tryd.prog 31 #[.int .i64 a, .int .i64 p] w fun e w' => e = .returned .nilIface ∧ w = w' := by
  obtain ⟨⟨h1, h2⟩, h3, h4⟩ := h
  go_enter Tryd.func31, Tryd.ntmps31
  go_wp2_with fail
  refine (within_yes _ _ _ _ h1 h2).mono ?_
  rintro e w' ⟨rfl, rfl⟩
  go_wp2_with fail
  refine (within_yes _ _ _ _ h3 h4).mono ?_
  rintro e w' ⟨rfl, rfl⟩
  go_wp2
  go_ret
  exact ⟨rfl, rfl⟩
theorem check_no (a p : Int) (w : World) (h : ¬ ((0 ≤ a ∧ a ≤ 65535) ∧ 0 ≤ p ∧ p ≤ 3)) : Calls Tryd.prog 31 #[.int .i64 a, .int .i64 p] w fun e w' => e = .returned (.iface 62 (.int .i64 1)) ∧ w = w' := by
  by_cases ha : 0 ≤ a ∧ a ≤ 65535
  · have hp : ¬ (0 ≤ p ∧ p ≤ 3) := fun hp => h ⟨ha, hp⟩
    clear h
    have HP := Lib.hid hp; clear hp
    go_enter Tryd.func31, Tryd.ntmps31
    go_wp2_with fail
    refine (within_yes _ _ _ _ ha.1 ha.2).mono ?_
    rintro e w' ⟨rfl, rfl⟩
    go_wp2_with fail
    refine (within_no _ _ _ _ HP.out).mono ?_
    rintro e w' ⟨rfl, rfl⟩
    go_wp2
    go_ret
    exact ⟨rfl, rfl⟩
  · clear h
    have HP := Lib.hid ha; clear ha
    go_enter Tryd.func31, Tryd.ntmps31
    go_wp2_with fail
    refine (within_no _ _ _ _ HP.out).mono ?_
    rintro e w' ⟨rfl, rfl⟩
    go_wp2
    go_ret
    exact ⟨rfl, rfl⟩

theorem find_any (B g : Nat) (v : Value) (T : Tab) (F : List Ent) (a : Int) (w : World) (hl : T.length ≤ 9) (hsep : Sep B w (swE g v T ++ F)) :
    Calls Tryd.prog 33 #[.pointer (some ⟨g, 0, none⟩), .int .i64 a] w fun e w' => e = .returned (.int .i64 (idx (tfind T a))) ∧ Below w.heap.size w w' := by
  obtain ⟨ao, cap, rfl, hcap, hnil⟩ := hsep.swShape
  have cv := hsep.swCell.1
  have HN := Lib.hid hnil; clear hnil
  have HS := Lib.hid hsep; clear hsep
  go_enter Tryd.func33, Tryd.ntmps33
  go_wp2
  go_loopw [12] (fun x wr => ∃ k : Nat, k ≤ T.length ∧ x = .int .i64 k ∧ Hid (tfind (T.take k) a = none) ∧ Below w.heap.size w wr) (fun x _ => T.length - (intOf x).toNat)
  case atStart => exact ⟨0, Nat.zero_le _, rfl, rfl, Below.refl _ _⟩
  case round =>
    obtain ⟨k, hk, rfl, ht, hb⟩ := hrel
    have HB := Lib.hid hb; clear hb
    have HS2 := Lib.hid (HS.out.kept HB.out)
    by_cases hlt : k < T.length
    · obtain ⟨x, hx⟩ : ∃ x, T[k]? = some x := ⟨_, List.getElem?_eq_getElem hlt⟩
      obtain ⟨b, off, rfl, c0, c1⟩ := HS2.out.swEnt hx
      have Hx := Lib.hid hx; clear hx
      by_cases hxa : x.1 = a
      · have hq : (x.1 == a) = true := by simp [hxa]
        go_wp2
        go_ret
        refine ⟨ret_int ?_, HB.out.alloc (by have := HB.out.size; omega) _⟩
        rw [tfind_at ht.out Hx.out hxa]; rfl
      · have hq : (x.1 == a) = false := by simp [hxa]
        go_wp2
        go_roundw
        case rel => exact ⟨k + 1, by omega, by go_num, tfind_next ht.out Hx.out hxa, HB.out.alloc (by have := HB.out.size; omega) _⟩
        case measure => simp [intOf]; omega
    · have hkl : k = T.length := by omega
      go_wp2
      go_ret
      refine ⟨ret_int ?_, HB.out⟩
      have h2 := ht.out
      rw [hkl, List.take_length] at h2
      rw [h2]; rfl
end Go.Proofs.YtommedhaaojgiaaDoor
