/- (*mux.Ends).Read: what is there of a stream, without a gap. -/
import Derived.Test.YthnlpmjfibidcaaDoorRows
import Derived.Test.YthnlpmjfibidcaaDoorBase
import Derived.Test.YthnlpmjfibidcaaDoorWithin
import Derived.Test.YthnlpmjfibidcaaDoorMuxPut
namespace Go.Proofs.YthnlpmjfibidcaaDoor
open Go.RowKit
set_option linter.unusedVariables false

theorem Sep.muxSetRead {B : Nat} {w : World} {A C : List Ent} {e : TypeId} {g i : Nat} {ss : List Str} {f : Nat → Option UInt8} {r : Nat} (h : Sep B w (A ++ Ent.mux e g ss :: C)) (hs : ss[i]? = some ⟨f, r⟩) (r' : Nat) :
    Sep B (w.setCell ⟨g, i * 401 + 400, none⟩ (.int .i64 (r' : Int))) (A ++ Ent.mux e g (ss.set i ⟨f, r'⟩) :: C) := by
  have h2 := Sep.blkSet h (i * 401 + 400) (.int .i64 (r' : Int))
  unfold Ent.mux
  rw [flat_set strCells 401 strCells_len (by omega) _ ss i _ ⟨f, r'⟩ hs strCells_setRead.symm] at h2
  exact h2

def readAt (w : World) (a : Addr) : Nat := match w.cell? a with | some (.int _ q) => q.toNat | _ => 0
theorem readAt_is {w : World} {a : Addr} {k : Nat} (h : w.cell? a = some (.int .i64 (k : Int))) : readAt w a = k := by
  unfold readAt; rw [h]; simp

set_option maxHeartbeats 1000000 in
set_option maxRecDepth 100000 in
theorem muxRead_ok (B g : Nat) (ss : List Str) (F : List Ent) (i : Nat) (s : Str) (w : World) (hi : i < 4) (hs : ss[i]? = some s) (hr : s.read ≤ 200) (hsep : Sep B w (Ent.mux 63 g ss :: F)) (hB : B ≤ w.heap.size) :
    Calls Tryd.prog 16 #[.pointer (some ⟨g, 0, none⟩), .int .i64 i] w fun e w' =>
      e = .returned (.tuple #[.string ⟨s.text.toArray⟩, .nilIface]) ∧ Sep B w' (Ent.mux 63 g (ss.set i ⟨s.came, s.next⟩) :: F) ∧ Below B w w' := by
  obtain ⟨f, r⟩ := s
  have HS0 := Lib.hid hs; clear hs
  have hBg : B ≤ g := (Sep.blkLt (A := []) hsep).1
  have cr := (Sep.muxRead (A := []) hsep HS0.out).1
  have HS := Lib.hid hsep; clear hsep
  simp only at hr cr
  go_enter Tryd.func16, Tryd.ntmps16
  go_wp2_with (go_at_call 24; refine (within_yes _ _ _ _ (by omega) (by omega)).mono ?_; rintro e w' ⟨rfl, rfl⟩)
  clear cr
  go_loopw [] (fun wr => ∃ k : Nat, r ≤ k ∧ k ≤ 200 ∧ Hid (runTo f (200 - k) k = runTo f (200 - r) r) ∧ Sep B wr (Ent.mux 63 g (ss.set i ⟨f, k⟩) :: F) ∧ Below B w wr) (fun wr => 200 - readAt wr ⟨g, i * 401 + 400, none⟩)
  case atStart =>
    have e : ss.set i ⟨f, r⟩ = ss := by
      obtain ⟨hl, he⟩ := List.getElem?_eq_some_iff.1 HS0.out
      rw [← he, List.set_getElem_self]
    exact ⟨r, Nat.le_refl _, hr, rfl, by rw [e]; exact HS.out, Below.refl _ _⟩
  case round =>
    obtain ⟨k, hk0, hk, hrun, hsep, hb⟩ := hrel
    have hsi : (ss.set i ⟨f, k⟩)[i]? = some ⟨f, k⟩ := List.getElem?_set_self (List.getElem?_eq_some_iff.1 HS0.out).1
    obtain ⟨cr, fr⟩ := Sep.muxRead (A := []) hsep hsi
    simp only at cr
    have hm := readAt_is cr
    have HM := Lib.hid hm; clear hm
    have Hsi := Lib.hid hsi; clear hsi
    have HB := Lib.hid hb; clear hb
    by_cases hgo : k < 200 ∧ (f k).isSome = true
    · obtain ⟨hk2, hf⟩ := hgo
      obtain ⟨ch, _⟩ := Sep.muxHas (A := []) hsep Hsi.out hk2
      simp only [hasCell, hf] at ch
      have Hf := Lib.hid hf; clear hf
      have hsep2 := Sep.muxSetRead (A := []) (hsep.drewN 0) Hsi.out (k + 1)
      have HS2 := Lib.hid hsep; clear hsep hsep2
      have hd : decide ((k : Int) < 200) = true := by simp; omega
      go_wp2
      go_quiet (fail)
      go_wp2
      go_roundw
      case rel =>
        have h3 := Sep.muxSetRead (A := []) (HS2.out.drewN nq) Hsi.out (k + 1)
        rw [List.set_set] at h3
        exact ⟨k + 1, by omega, by omega, by rw [← hrun.out]; exact (runTo_step (by omega) Hf.out).symm, h3, (HB.out.trans (below_drewN _ _ _)).setCell hBg _⟩
      case measure =>
        have h3 := Sep.muxSetRead (A := []) (HS2.out.drewN nq) Hsi.out (k + 1)
        rw [List.set_set] at h3
        have h4 := (Sep.muxRead (A := []) h3 (List.getElem?_set_self (List.getElem?_eq_some_iff.1 HS0.out).1)).1
        have h5 := readAt_is h4
        have h6 : readAt ((wr.drewN nq).setCell ⟨g, i * 401 + 400, none⟩ (.int .i64 ((k : Int) + 1))) ⟨g, i * 401 + 400, none⟩ = k + 1 := h5
        rw [HM.out]
        refine Nat.lt_of_le_of_lt (Nat.le_of_eq (congrArg (fun n => 200 - n) h6)) (by omega)
    · have hstop : runTo f (200 - k) k = k := by
        refine runTo_stop ?_
        by_cases hk2 : k < 200
        · right
          cases hf : (f k).isSome with
          | false => rfl
          | true => exact absurd ⟨hk2, hf⟩ hgo
        · left; omega
      have hnext : (Str.next ⟨f, r⟩) = k := by unfold Str.next; simp only; rw [← hrun.out, hstop]
      have HN := Lib.hid hnext; clear hnext
      have HG := Lib.hid hgo; clear hgo hstop
      by_cases hr2 : r < 200
      · by_cases hk2 : k < 200
        · have hf : (f k).isSome = false := by
            cases hf : (f k).isSome with
            | false => rfl
            | true => exact absurd ⟨hk2, hf⟩ HG.out
          obtain ⟨ch, _⟩ := Sep.muxHas (A := []) hsep Hsi.out hk2
          simp only [hasCell, hf] at ch
          have Hf := Lib.hid hf; clear hf
          have HS2 := Lib.hid hsep; clear hsep
          have hd : decide ((k : Int) < 200) = true := by simp; omega
          go_wp2
          go_quiet (fail)
          go_wp2
          clear ch
          obtain ⟨wz, hwz⟩ : ∃ wz, wz = (wr.drewN nq) := ⟨_, rfl⟩
          have hz : Sep B (wr.drewN nq) (Ent.mux 63 g (ss.set i ⟨f, k⟩) :: F) := HS2.out.drewN nq
          have hbz : Below B w (wr.drewN nq) := HB.out.trans (below_drewN _ _ _)
          have crz := (Sep.muxRead (A := []) hz Hsi.out).1
          simp only at crz
          rw [← hwz] at hz hbz crz ⊢
          have hdat : ∀ (off : Nat), off = i * 401 + 200 + r → ∀ (j : Nat) (c : UInt8), (bytesOf f r (k - r))[j]? = some c → wz.cell? ⟨g, off + j, none⟩ = some (.int .u8 (c.toNat : Int)) := by
            intro off ho j c hj
            obtain ⟨h1, h2⟩ := bytesOf_get f hj
            have h3 := (Sep.muxDat (A := []) hz Hsi.out (q := r + j) (by omega)).1
            simp only [datCell] at h3
            rw [ho, h2, Nat.add_assoc (i * 401 + 200)]
            exact h3
          have hcv : ∀ n, (convert 34 9 (.slice (some ⟨g, i * 401 + 200 + r, none⟩) (k - r) (200 - r))).run Tryd.prog (wz.drewN n) = .ok (.string ⟨(bytesOf f r (k - r)).toArray⟩) (wz.drewN n) :=
            fun n => run_string_of_bytes (200 - r) Tryd.underlying34 Tryd.underlying5 Tryd.underlying9 (bytesOf_len f r (k - r)) (hdat _ rfl)
          have hsl : ∀ n, (Instr.sliceAt 58 (.pointer (some ⟨g, i * 401 + 200, none⟩)) (some (.int .i64 (r : Int))) (some (.int .i64 (k : Int))) none).run Tryd.prog (wz.drewN n) = .ok (.slice (some ⟨g, i * 401 + 200 + r, none⟩) (k - r) (200 - r)) (wz.drewN n) :=
            fun n => run_sliceAt_arr _ Tryd.underlying58 (by kernel_rfl) _ _ _ _ _ _ hk0 hk hr2
          clear hdat
          have htx : (Str.text ⟨f, r⟩) = bytesOf f r (k - r) := by unfold Str.text; rw [HN.out]
          have HT := Lib.hid htx; clear htx
          have HZ := Lib.hid hz; clear hz
          have HBZ := Lib.hid hbz; clear hbz hwz
          obtain ⟨tx, htx⟩ : ∃ tx, tx = (bytesOf f r (k - r)).toArray := ⟨_, rfl⟩
          rw [← htx] at hcv
          have HTX := Lib.hid htx; clear htx
          go_quiet (fail)
          go_wp2
          go_ret2
          refine ⟨by rw [HT.out, HTX.out]; rfl, ?_, HBZ.out.trans (below_drewN _ _ _)⟩
          rw [HN.out]
          exact HZ.out.drewN nq
        · have hk200 : decide ((k : Int) < 200) = false := by simp; omega
          have HS2 := Lib.hid hsep; clear hsep
          go_wp2
          go_quiet (fail)
          go_wp2
          obtain ⟨wz, hwz⟩ : ∃ wz, wz = (wr.drewN nq) := ⟨_, rfl⟩
          have hz : Sep B (wr.drewN nq) (Ent.mux 63 g (ss.set i ⟨f, k⟩) :: F) := HS2.out.drewN nq
          have hbz : Below B w (wr.drewN nq) := HB.out.trans (below_drewN _ _ _)
          have crz := (Sep.muxRead (A := []) hz Hsi.out).1
          simp only at crz
          rw [← hwz] at hz hbz crz ⊢
          have hdat : ∀ (off : Nat), off = i * 401 + 200 + r → ∀ (j : Nat) (c : UInt8), (bytesOf f r (k - r))[j]? = some c → wz.cell? ⟨g, off + j, none⟩ = some (.int .u8 (c.toNat : Int)) := by
            intro off ho j c hj
            obtain ⟨h1, h2⟩ := bytesOf_get f hj
            have h3 := (Sep.muxDat (A := []) hz Hsi.out (q := r + j) (by omega)).1
            simp only [datCell] at h3
            rw [ho, h2, Nat.add_assoc (i * 401 + 200)]
            exact h3
          have hcv : ∀ n, (convert 34 9 (.slice (some ⟨g, i * 401 + 200 + r, none⟩) (k - r) (200 - r))).run Tryd.prog (wz.drewN n) = .ok (.string ⟨(bytesOf f r (k - r)).toArray⟩) (wz.drewN n) :=
            fun n => run_string_of_bytes (200 - r) Tryd.underlying34 Tryd.underlying5 Tryd.underlying9 (bytesOf_len f r (k - r)) (hdat _ rfl)
          have hsl : ∀ n, (Instr.sliceAt 58 (.pointer (some ⟨g, i * 401 + 200, none⟩)) (some (.int .i64 (r : Int))) (some (.int .i64 (k : Int))) none).run Tryd.prog (wz.drewN n) = .ok (.slice (some ⟨g, i * 401 + 200 + r, none⟩) (k - r) (200 - r)) (wz.drewN n) :=
            fun n => run_sliceAt_arr _ Tryd.underlying58 (by kernel_rfl) _ _ _ _ _ _ hk0 hk hr2
          clear hdat
          have htx : (Str.text ⟨f, r⟩) = bytesOf f r (k - r) := by unfold Str.text; rw [HN.out]
          have HT := Lib.hid htx; clear htx
          have HZ := Lib.hid hz; clear hz
          have HBZ := Lib.hid hbz; clear hbz hwz
          obtain ⟨tx, htx⟩ : ∃ tx, tx = (bytesOf f r (k - r)).toArray := ⟨_, rfl⟩
          rw [← htx] at hcv
          have HTX := Lib.hid htx; clear htx
          go_quiet (fail)
          go_wp2
          go_ret2
          refine ⟨by rw [HT.out, HTX.out]; rfl, ?_, HBZ.out.trans (below_drewN _ _ _)⟩
          rw [HN.out]
          exact HZ.out.drewN nq
      · have hk200 : decide ((k : Int) < 200) = false := by simp; omega
        have HS2 := Lib.hid hsep; clear hsep
        go_wp2
        go_quiet (fail)
        go_wp2
        obtain ⟨wz, hwz⟩ : ∃ wz, wz = (wr.drewN nq) := ⟨_, rfl⟩
        have hz : Sep B (wr.drewN nq) (Ent.mux 63 g (ss.set i ⟨f, k⟩) :: F) := HS2.out.drewN nq
        have hbz : Below B w (wr.drewN nq) := HB.out.trans (below_drewN _ _ _)
        have crz := (Sep.muxRead (A := []) hz Hsi.out).1
        simp only at crz
        rw [← hwz] at hz hbz crz ⊢
        have hcv : ∀ n, (convert 34 9 (.slice (some ⟨g, i * 401 + 200, none⟩) 0 0)).run Tryd.prog (wz.drewN n) = .ok (.string ⟨(bytesOf f r (k - r)).toArray⟩) (wz.drewN n) :=
          fun n => run_string_of_bytes 0 Tryd.underlying34 Tryd.underlying5 Tryd.underlying9 (by rw [bytesOf_len]; omega) (by intro j c hj; have := (bytesOf_get f hj).1; omega)
        have hsl : ∀ n, (Instr.sliceAt 58 (.pointer (some ⟨g, i * 401 + 200, none⟩)) (some (.int .i64 (r : Int))) (some (.int .i64 (k : Int))) none).run Tryd.prog (wz.drewN n) = .ok (.slice (some ⟨g, i * 401 + 200, none⟩) 0 0) (wz.drewN n) := by
          intro n
          have h1 := run_sliceAt_arr_end (P := Tryd.prog) (wz.drewN n) (t := 58) (n := 200) Tryd.underlying58 (by kernel_rfl) g (i * 401 + 200) .i64 .i64
          rw [show (r : Int) = ((200 : Nat) : Int) by omega, show (k : Int) = ((200 : Nat) : Int) by omega]
          exact h1
        have htx : (Str.text ⟨f, r⟩) = bytesOf f r (k - r) := by unfold Str.text; rw [HN.out]
        have HT := Lib.hid htx; clear htx
        have HZ := Lib.hid hz; clear hz
        have HBZ := Lib.hid hbz; clear hbz hwz
        obtain ⟨tx, htx⟩ : ∃ tx, tx = (bytesOf f r (k - r)).toArray := ⟨_, rfl⟩
        rw [← htx] at hcv
        have HTX := Lib.hid htx; clear htx
        go_quiet (fail)
        go_wp2
        go_ret2
        refine ⟨by rw [HT.out, HTX.out]; rfl, ?_, HBZ.out.trans (below_drewN _ _ _)⟩
        rw [HN.out]
        exact HZ.out.drewN nq

set_option maxHeartbeats 400000 in
theorem muxRead_no (a : Option Addr) (i : Int) (w : World) (h : ¬ (0 ≤ i ∧ i ≤ 3)) :
    Calls Tryd.prog 16 #[.pointer a, .int .i64 i] w fun e w' => e = .returned (.tuple #[.string ⟨#[]⟩, .iface 64 (.int .i64 1)]) ∧ w = w' := by
  go_enter Tryd.func16, Tryd.ntmps16
  go_wp2_with (go_at_call 24; refine (within_no _ _ _ _ h).mono ?_; rintro e w' ⟨rfl, rfl⟩)
  go_ret2
  exact ⟨rfl, rfl⟩
end Go.Proofs.YthnlpmjfibidcaaDoor
