/- learn: Frame where it is not valid; Down. -/
import Derived.Test.YtommedhaaojgiaaDoorLearnFrame
namespace Go.Proofs.YtommedhaaojgiaaDoor
open Go.RowKit
set_option linter.unusedVariables false

def Valid (a t p : Int) : Prop := (0 ≤ a ∧ a ≤ 65535) ∧ (0 ≤ t ∧ t ≤ 65535) ∧ 0 ≤ p ∧ p ≤ 3
instance (a t p : Int) : Decidable (Valid a t p) := by unfold Valid; infer_instance

theorem frame_no (g : Option Addr) (a t p : Int) (w : World) (h : ¬ Valid a t p) :
    Calls Tryd.prog 12 #[.pointer g, .int .i64 a, .int .i64 t, .int .i64 p] w fun e w' => e = .returned (.tuple #[.slice none 0 0, .iface 62 (.int .i64 1)]) ∧ w = w' := by
  by_cases h1 : (0 ≤ a ∧ a ≤ 65535) ∧ 0 ≤ p ∧ p ≤ 3
  · have h2 : ¬ ((0 ≤ t ∧ t ≤ 65535) ∧ (0 : Int) ≤ 0 ∧ (0 : Int) ≤ 3) := fun hh => h ⟨h1.1, hh.1, h1.2⟩
    clear h
    have H1 := Lib.hid h1; clear h1
    have H2 := Lib.hid h2; clear h2
    go_enter Tryd.func12, Tryd.ntmps12
    go_wp2_with fail
    refine (check_yes _ _ _ H1.out).mono ?_
    rintro e w' ⟨rfl, rfl⟩
    go_wp2_with fail
    refine (check_no _ _ _ H2.out).mono ?_
    rintro e w' ⟨rfl, rfl⟩
    go_wp2
    go_ret2
    exact ⟨rfl, rfl⟩
  · clear h
    have H1 := Lib.hid h1; clear h1
    go_enter Tryd.func12, Tryd.ntmps12
    go_wp2_with fail
    refine (check_no _ _ _ H1.out).mono ?_
    rintro e w' ⟨rfl, rfl⟩
    go_wp2
    go_ret2
    exact ⟨rfl, rfl⟩

/-- What is left where a port goes down. -/
def downT (T : Tab) (p : Int) : Tab := T.filter fun x => !decide (x.2 = p)
theorem downT_skip {T : Tab} {k : Nat} {x : Int × Int} {p : Int} (hx : T[k]? = some x) (e : x.2 = p) : downT (T.take (k + 1)) p = downT (T.take k) p := by
  unfold downT
  rw [List.take_add_one, hx]
  simp [e]
theorem downT_add {T : Tab} {k : Nat} {x : Int × Int} {p : Int} (hx : T[k]? = some x) (e : ¬ x.2 = p) : downT (T.take (k + 1)) p = downT (T.take k) p ++ [x] := by
  unfold downT
  rw [List.take_add_one, hx]
  simp [e]
theorem downT_len (T : Tab) (p : Int) : (downT T p).length ≤ T.length := List.length_filter_le _ _

theorem down_no (g : Option Addr) (p : Int) (w : World) (h : ¬ (0 ≤ p ∧ p ≤ 3)) :
    Calls Tryd.prog 10 #[.pointer g, .int .i64 p] w fun e w' => e = .returned (.tuple #[.int .i64 0, .iface 62 (.int .i64 1)]) ∧ w = w' := by
  have h2 : ¬ (((0 : Int) ≤ 0 ∧ (0 : Int) ≤ 65535) ∧ 0 ≤ p ∧ p ≤ 3) := fun hh => h hh.2
  clear h
  have H2 := Lib.hid h2; clear h2
  go_enter Tryd.func10, Tryd.ntmps10
  go_wp2_with fail
  refine (check_no _ _ _ H2.out).mono ?_
  rintro e w' ⟨rfl, rfl⟩
  go_wp2
  go_ret2
  exact ⟨rfl, rfl⟩

set_option maxHeartbeats 1000000 in
theorem down_ok (B g : Nat) (v : Value) (T : Tab) (F : List Ent) (p : Int) (w : World) (hp : 0 ≤ p ∧ p ≤ 3) (hl : T.length ≤ 8) (hsep : Sep B w (swE g v T ++ F)) (hB : B ≤ w.heap.size) :
    Calls Tryd.prog 10 #[.pointer (some ⟨g, 0, none⟩), .int .i64 p] w fun e w' => e = .returned (.tuple #[.int .i64 ((T.length : Int) - ((downT T p).length : Int)), .nilIface]) ∧
      (∃ v', Sep B w' (swE g v' (downT T p) ++ F)) ∧ Below B w w' := by
  obtain ⟨ao, cap, rfl, hcap, hnil⟩ := hsep.swShape
  have cv := hsep.swCell.1
  clear hnil
  have hBg : B ≤ g := (Sep.blkLt (A := []) hsep).1
  have HS := Lib.hid hsep; clear hsep
  go_enter Tryd.func10, Tryd.ntmps10
  go_wp2_with fail
  refine (check_yes _ _ _ ⟨by omega, hp⟩).mono ?_
  rintro e w' ⟨rfl, rfl⟩
  go_wp2
  go_loopw [8, 26] (fun o x wr => ∃ (k : Nat), k ≤ T.length ∧ x = .int .i64 k ∧ Sep B wr (Ent.row o (downT (T.take k) p).length 2 61 ((downT (T.take k) p).flatMap entC) :: (swE g (.slice ao T.length cap) T ++ F)) ∧ Below B w wr) (fun _ x _ => T.length - (intOf x).toNat)
  case atStart => exact ⟨0, by omega, rfl, HS.out.rowNil 2 _, Below.refl _ _⟩
  case round =>
    obtain ⟨k, hk, rfl, hs, hb⟩ := hrel
    have HS1 := Lib.hid hs; clear hs
    have HB := Lib.hid hb; clear hb
    have hBw : B ≤ wr.heap.size := Nat.le_trans hB HB.out.size
    have HSW : Hid (Sep B wr (swE g (.slice ao T.length cap) T ++ F)) := HS1.out.sub (List.sublist_cons_self _ _)
    have hdl := downT_len (T.take k) p
    rw [List.length_take] at hdl
    by_cases hlt : k < T.length
    · obtain ⟨x, hx⟩ : ∃ x, T[k]? = some x := ⟨_, List.getElem?_eq_getElem hlt⟩
      obtain ⟨b, off, rfl, c0, c1⟩ := HSW.out.swEnt hx
      have Hx := Lib.hid hx; clear hx
      go_upto_if 33 with fail
      have d0 : (wr.alloc (.cells #[.int .i64 x.1, .int .i64 x.2] 61)).cell? ⟨wr.heap.size, 0, none⟩ = some (.int .i64 x.1) := by rw [cell_of_row _ _ _ _ _ (0, 0) (heap_alloc_new _ _)]; rfl
      have d1 : (wr.alloc (.cells #[.int .i64 x.1, .int .i64 x.2] 61)).cell? ⟨wr.heap.size, 1, none⟩ = some (.int .i64 x.2) := by rw [cell_of_row _ _ _ _ _ (0, 0) (heap_alloc_new _ _)]; rfl
      have HSA := Lib.hid (HS1.out.alloc (.cells #[.int .i64 x.1, .int .i64 x.2] 61))
      have HBA := Lib.hid (HB.out.alloc hBw (.cells #[.int .i64 x.1, .int .i64 x.2] 61))
      have hbw2 : B ≤ (wr.alloc (.cells #[.int .i64 x.1, .int .i64 x.2] 61)).heap.size := by simp; omega
      clear HS1 HB HSW c0 c1
      generalize wr.alloc (.cells #[.int .i64 x.1, .int .i64 x.2] 61) = wz at *
      generalize wr.heap.size = nb at *
      by_cases hxp : x.2 = p
      · have hq : (x.2 != p) = false := by simp [hxp]
        have h4 := downT_skip Hx.out hxp
        have H4 := Lib.hid h4; clear h4
        have HXP := Lib.hid hxp; clear hxp
        go_wp2
        go_roundw
        case rel => exact ⟨k + 1, by omega, by go_num, by rw [H4.out]; exact HSA.out, HBA.out⟩
        case measure => simp [intOf]; omega
      · have hq : (x.2 != p) = true := by simp [hxp]
        have h4 := downT_add Hx.out hxp
        have H4 := Lib.hid h4; clear h4
        have HXP := Lib.hid hxp; clear hxp
        go_wp2_with (at_builtin; refine wpList_append_ent (y := x) rfl (.tmp 34) (.tmp 36) rfl elemEnt (A := []) rfl HSA.out hbw2 rfl (by omega) ?_)
        intro v' w6 hs6 hb6
        go_wp2
        go_roundw
        case rel => exact ⟨k + 1, by omega, by go_num, by rw [H4.out]; simpa using hs6, HBA.out.trans hb6⟩
        case measure => simp [intOf]; omega
    · have hkl : k = T.length := by omega
      have htk : T.take k = T := by rw [hkl, List.take_length]
      rw [htk] at HS1
      obtain ⟨ao2, cap2, rfl, hc2, _⟩ := (Sep.rowShape (A := []) HS1.out).2
      obtain ⟨cv1, fv1⟩ := Sep.blkAt (A := [_]) (j := 0) HS1.out rfl
      have hfin := Sep.blkSet (A := [_]) HS1.out 0 (.slice ao2 (downT T p).length cap2)
      have hdl2 := downT_len T p
      have HF := Lib.hid hfin; clear hfin
      clear htk
      go_wp2
      go_ret2
      exact ⟨rfl, ⟨_, (HF.out.perm (List.Perm.swap _ _ _)).sub (.cons_cons _ (.cons_cons _ (List.sublist_cons_self _ _)))⟩, HB.out.setCell (p := ⟨g, 0, none⟩) hBg _⟩
end Go.Proofs.YtommedhaaojgiaaDoor
