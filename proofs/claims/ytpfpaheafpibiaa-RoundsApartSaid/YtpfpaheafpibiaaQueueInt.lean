/- core.Queue[int], the queues lying in a row: Push, Len, First, Pop. -/
import Derived.Test.YtpfpaheafpibiaaRows
import Derived.Test.YtpfpaheafpibiaaRow2
namespace Go.Proofs.Ytpfpaheafpibiaa
open Go.RowKit
set_option linter.unusedVariables false

theorem elemInt9 : ElemTy Try.prog 24 3 1 8 (.int .i64 0) := ⟨Try.underlying24, info_parts (by kernel_rfl), rfl, by decide⟩

theorem qlen_any (B g off n cap i : Nat) (cs : List Value) (v : Value) (xs : List Int) (F : List Ent) (w : World) (hi : cs[i]? = some v)
    (hsep : Sep B w (Ent.row (.slice (some ⟨g, off, none⟩) n cap) n 1 50 cs :: Ent.ints 3 v xs :: F)) :
    Calls Try.prog 22 #[.pointer (some ⟨g, off + i, none⟩)] w fun e w' => e = .returned (.int .i64 xs.length) ∧ w = w' := by
  obtain ⟨ao, c, rfl, hc, _⟩ := Sep.intsShape (A := [_]) hsep
  obtain ⟨cv, fv⟩ := hsep.rowCell hi
  have HS := Lib.hid hsep; clear hsep hi
  go_enter Try.func22, Try.ntmps22
  go_wp2
  go_ret
  exact ⟨rfl, rfl⟩

theorem qfirst_any (B g off n cap i : Nat) (cs : List Value) (v : Value) (x : Int) (xs : List Int) (F : List Ent) (w : World) (hi : cs[i]? = some v)
    (hsep : Sep B w (Ent.row (.slice (some ⟨g, off, none⟩) n cap) n 1 50 cs :: Ent.ints 3 v (x :: xs) :: F)) :
    Calls Try.prog 23 #[.pointer (some ⟨g, off + i, none⟩)] w fun e w' => e = .returned (.int .i64 x) ∧ w = w' := by
  obtain ⟨ao, c, rfl, hc, _⟩ := Sep.intsShape (A := [_]) hsep
  obtain ⟨cv, fv⟩ := hsep.rowCell hi
  obtain ⟨b, o, rfl, c0, _⟩ := Sep.intsAt (A := [_]) hsep (j := 0) (x := x) rfl
  simp only [List.length_cons] at hc cv
  have HS := Lib.hid hsep; clear hsep hi
  simp only [Nat.add_zero] at c0
  go_enter Try.func23, Try.ntmps23
  go_wp2
  go_ret
  exact ⟨rfl, rfl⟩

theorem qpush_any (B g off n cap i : Nat) (cs : List Value) (v : Value) (x : Int) (xs : List Int) (F : List Ent) (w : World) (hi : cs[i]? = some v) (hl : xs.length ≤ 1000000) (hB : B ≤ w.heap.size)
    (hsep : Sep B w (Ent.row (.slice (some ⟨g, off, none⟩) n cap) n 1 50 cs :: Ent.ints 3 v xs :: F)) :
    Calls Try.prog 21 #[.pointer (some ⟨g, off + i, none⟩), .int .i64 x] w fun e w' => e = .returned (.tuple #[]) ∧
      (∃ v', Sep B w' (Ent.row (.slice (some ⟨g, off, none⟩) n cap) n 1 50 (cs.set i v') :: Ent.ints 3 v' (xs ++ [x]) :: F)) ∧ Below B w w' := by
  obtain ⟨cv, fv⟩ := hsep.rowCell hi
  have hBg : B ≤ g := (Sep.rowBlk (A := []) hsep).1
  have HI := Lib.hid hi; clear hi
  have HS := Lib.hid hsep; clear hsep
  go_enter Try.func21, Try.ntmps21
  go_wp2_with (at_builtin; refine wpList_append_int rfl (.tmp 8) (.tmp 10) rfl elemInt9 (A := [_]) rfl HS.out hB rfl (by omega) ?_)
  intro v' w2 hs2 hb2
  obtain ⟨ao2, c2, rfl, hc2, _⟩ := Sep.intsShape (A := [_]) hs2
  obtain ⟨cv2, fv2⟩ := Sep.rowCell hs2 HI.out
  have hfin := Sep.rowSet (A := []) hs2 i (.slice ao2 (xs ++ [x]).length c2)
  rw [show (xs ++ [x]).length = xs.length + 1 by simp] at hfin
  have HF := Lib.hid hfin; clear hfin hs2
  have HB2 := Lib.hid hb2; clear hb2
  go_wp2
  go_end0
  exact ⟨rfl, ⟨_, HF.out⟩, HB2.out.setCell (p := ⟨g, off + i, none⟩) hBg _⟩
end Go.Proofs.Ytpfpaheafpibiaa
