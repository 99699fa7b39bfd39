/- nat: In, Lent. -/
import Derived.Test.YtbcfcjecobihnaaNatNew
namespace Go.Proofs.Ytbcfcjecobihnaa
open Go.RowKit Go.Maps
set_option linter.unusedVariables false
set_option maxRecDepth 100000

/-- What the walk needs of a table at a world. -/
theorem tab_cells {B : Nat} {w : World} {g mp mq : Nat} {low many : Int} {e1 e2 : Array MapEntry} {c1 c2 : Nat} {F : List Ent} (h : Sep B w (tabE g mp mq low many e1 c1 e2 c2 ++ F)) :
    w.cell? ⟨g, 0, none⟩ = some (.int .i64 low) ∧ w.cell? ⟨g, 1, none⟩ = some (.int .i64 many) ∧ w.cell? ⟨g, 2, none⟩ = some (.map (some mp)) ∧ w.cell? ⟨g, 3, none⟩ = some (.map (some mq)) ∧ w.heap[mp]? = some (.map e1 c1) ∧ w.heap[mq]? = some (.map e2 c2) :=
  ⟨(Sep.blkAt (A := []) h (j := 0) rfl).1, (Sep.blkAt (A := []) h (j := 1) rfl).1, (Sep.blkAt (A := []) h (j := 2) rfl).1, (Sep.blkAt (A := []) h (j := 3) rfl).1, Sep.mapHeap (A := [_]) h, Sep.mapHeap (A := [_, _]) h⟩
set_option maxHeartbeats 1000000 in
theorem natIn_none (B g : Nat) (low many : Int) (M : NatM) (F : List Ent) (q : Int) (w : World) (h : NatT B w g low many M F) (hq : -9223372036854775808 ≤ q ∧ q ≤ 9223372036854775807) (hp : placeOf M q = none) :
    Calls Try.prog 10 #[.pointer (some ⟨g, 0, none⟩), .int .i64 q] w fun e w' => e = .returned (.tuple #[plV (0, 0), .iface 49 (.int .i64 5)]) ∧ Below w.heap.size w w' := by
  obtain ⟨hok, mp, mq, e1, c1, e2, c2, m1, m2, hs⟩ := h
  have hs1 := hs.alloc (.cells #[.int .i64 0, .int .i64 0] 40)
  obtain ⟨-, -, -, t3, -, hm⟩ := tab_cells hs1
  have hl := lookQ hok hm m2 hq
  rw [hp] at hl
  have hb := ((Below.refl w.heap.size w).alloc (Nat.le_refl _) (.cells #[.int .i64 0, .int .i64 0] 40)).alloc (by simp) (.cells #[.int .i64 0, .int .i64 0] 40)
  have HB := Lib.hid hb
  simp only [Option.getD_none, Option.isSome_none] at hl
  unfold plV at hl ⊢
  clear hp hb hm hs1 hs m1 m2
  go_enter Try.func10, Try.ntmps10
  go_wp2
  try simp only [Exit.inBlock, Exit.then]
  refine bodyPost_ret (v := .tuple #[.agg #[.int .i64 0, .int .i64 0], .iface 49 (.int .i64 5)]) (by simp [results, Try.results10, go_sem]) rfl ⟨rfl, HB.out⟩
set_option maxHeartbeats 1000000 in
theorem natIn_some (B g : Nat) (low many : Int) (M : NatM) (F : List Ent) (q : Int) (p : Pl) (w : World) (h : NatT B w g low many M F) (hq : -9223372036854775808 ≤ q ∧ q ≤ 9223372036854775807) (hp : placeOf M q = some p) :
    Calls Try.prog 10 #[.pointer (some ⟨g, 0, none⟩), .int .i64 q] w fun e w' => e = .returned (.tuple #[plV p, .nilIface]) ∧ Below w.heap.size w w' := by
  obtain ⟨hok, mp, mq, e1, c1, e2, c2, m1, m2, hs⟩ := h
  have hs1 := hs.alloc (.cells #[.int .i64 0, .int .i64 0] 40)
  obtain ⟨-, -, -, t3, -, hm⟩ := tab_cells hs1
  have hl := lookQ hok hm m2 hq
  rw [hp] at hl
  have hb := ((Below.refl w.heap.size w).alloc (Nat.le_refl _) (.cells #[.int .i64 p.1, .int .i64 p.2] 40)).alloc (by simp) (.cells #[.int .i64 p.1, .int .i64 p.2] 40)
  have HB := Lib.hid hb
  simp only [Option.getD_some, Option.isSome_some] at hl
  unfold plV at hl ⊢
  clear hp hb hm hs1 hs m1 m2
  go_enter Try.func10, Try.ntmps10
  go_wp2
  try simp only [Exit.inBlock, Exit.then]
  refine bodyPost_ret (v := .tuple #[.agg #[.int .i64 p.1, .int .i64 p.2], .nilIface]) (by simp [results, Try.results10, go_sem]) rfl ⟨rfl, HB.out⟩
set_option maxHeartbeats 1000000 in
theorem natLent_any (B g : Nat) (low many : Int) (M : NatM) (F : List Ent) (w : World) (h : NatT B w g low many M F) (hB : B ≤ w.heap.size) :
    Calls Try.prog 5 #[.pointer (some ⟨g, 0, none⟩)] w fun e w' => ∃ v, e = .returned v ∧ Sep w.heap.size w' [Ent.ints 3 v (lentTo M low many.toNat)] ∧ Below w.heap.size w w' := by
  obtain ⟨hok, mp, mq, e1, c1, e2, c2, m1, m2, hs⟩ := h
  obtain ⟨t0, t1, -, t3, -, -⟩ := tab_cells hs
  obtain ⟨⟨l1, l2⟩, ⟨a1, a2⟩, l3⟩ := hok.lm
  obtain ⟨n, rfl⟩ := Int.eq_ofNat_of_zero_le (by omega : 0 ≤ many)
  rw [Int.toNat_natCast]
  have HOK := Lib.hid hok
  have HM := Lib.hid m2
  have HS := Lib.hid hs
  have HN := Lib.hid ((Sep.nil w.heap.size w).intsNil 3)
  clear hok m1 m2 hs
  go_enter Try.func5, Try.ntmps5
  go_wp2
  go_loopw [3, 4] (fun ov iv wr => ∃ (k : Nat) (o : Value), k ≤ n ∧ o = ov ∧ iv = .int .i64 (low + (k : Int)) ∧ Sep w.heap.size wr [Ent.ints 3 o (lentTo M low k)] ∧ Below w.heap.size w wr) (fun _ iv _ => n - (intOf iv - low).toNat)
  case atStart => exact ⟨0, _, Nat.zero_le _, rfl, by simp, HN.out, Below.refl _ _⟩
  case round =>
    obtain ⟨k, o, hk, rfl, rfl, hsep, hbel⟩ := hrel
    clear HN t0 t1 t3
    have HS1 := Lib.hid hsep
    have HB1 := Lib.hid hbel
    have HT1 := Lib.hid (HS.out.kept hbel)
    clear hsep hbel
    obtain ⟨w1, hw1⟩ : ∃ w1, w1 = wr := ⟨_, rfl⟩
    obtain rfl := hw1
    have hg1 := HB1.out.size
    obtain ⟨q, hq⟩ : ∃ q, q = low + (k : Int) := ⟨_, rfl⟩
    rw [← hq]
    have hqb : -9223372036854775808 ≤ q ∧ q ≤ 9223372036854775807 := by omega
    obtain ⟨t0, t1, -, t3, -, hm⟩ := tab_cells HT1.out
    have HMM := Lib.hid hm
    clear hm
    by_cases hlt : k < n
    · have hd : decide (q < low + (n : Int)) = true := decide_eq_true (by omega)
      have hq1 : 0 ≤ q := by omega
      have hq2 : q ≤ 65536 := by omega
      have HQ := Lib.hid hq
      clear hq
      go_wp2_with fail
      go_quiet (fail)
      have HS2 := Lib.hid (HS1.out.drewN nq)
      have HB2 := Lib.hid (HB1.out.trans (below_drewN _ w1 nq))
      have HT2 := Lib.hid (HT1.out.drewN nq)
      have hg2 : w.heap.size ≤ (w1.drewN nq).heap.size := hg1
      clear t0 t1 t3 HMM HS1 HB1 HT1 hg1 hd
      generalize w1.drewN nq = w2 at *
      obtain ⟨t0, t1, -, t3, -, hm⟩ := tab_cells HT2.out
      have hl := lookQ HOK.out hm HM.out hqb
      unfold plV at hl
      have HOL := Lib.hid (show (lentTo M low k).length ≤ 1000000000 by have := lentTo_len M low k; omega)
      clear hm
      cases hp : placeOf M q with
      | none =>
        rw [hp] at hl
        simp only [Option.getD_none, Option.isSome_none] at hl
        have hnx : lentTo M low (k + 1) = lentTo M low k := by rw [lentTo, ← HQ.out, hp, if_pos rfl, List.append_nil]
        have HNX := Lib.hid hnx
        have HE := Lib.hid (HS2.out.alloc (.cells #[.int .i64 0, .int .i64 0] 40))
        have HF := Lib.hid (HB2.out.alloc hg2 (.cells #[.int .i64 0, .int .i64 0] 40))
        clear hp hnx
        go_wp2
        go_roundw
        case rel => exact ⟨k + 1, _, by omega, rfl, congrArg (Value.int .i64) (show q + 1 = low + ((k + 1 : Nat) : Int) by have := HQ.out; omega), by rw [HNX.out]; exact HE.out, HF.out⟩
        case measure => have := HQ.out; simp [intOf]; omega
      | some p =>
        rw [hp] at hl
        simp only [Option.getD_some, Option.isSome_some] at hl
        have hnx : lentTo M low (k + 1) = lentTo M low k ++ [q] := by rw [lentTo, ← HQ.out, hp, if_neg (by simp)]
        have HNX := Lib.hid hnx
        have HE := Lib.hid (HS2.out.alloc (.cells #[.int .i64 p.1, .int .i64 p.2] 40))
        have HF := Lib.hid (HB2.out.alloc hg2 (.cells #[.int .i64 p.1, .int .i64 p.2] 40))
        clear hp hnx
        go_upto_region 7 with fail
        clear hl t0 t1 t3 HS2 HB2 HT2 hg2
        generalize w2.alloc (.cells #[.int .i64 p.1, .int .i64 p.2] 40) = w3 at *
        have hg3 := HF.out.size
        go_wp2_with (at_builtin; refine wpList_append_int rfl (.tmp 34) (.tmp 36) rfl elemInt8 (A := []) rfl HE.out hg3 rfl HOL.out ?_)
        intro v4 w4 hs hb
        rw [← HNX.out] at hs
        have HS4 := Lib.hid hs
        have HB4 := Lib.hid (HF.out.trans hb)
        clear hs hb
        go_wp2
        go_roundw
        case rel => exact ⟨k + 1, _, by omega, rfl, congrArg (Value.int .i64) (show q + 1 = low + ((k + 1 : Nat) : Int) by have := HQ.out; omega), HS4.out, HB4.out⟩
        case measure => have := HQ.out; simp [intOf]; omega
    · have hkn : k = n := by omega
      have hd : decide (q < low + (n : Int)) = false := decide_eq_false (by omega)
      have hs := HS1.out
      rw [hkn] at hs
      have HE := Lib.hid (hs.drewN)
      have HB := Lib.hid (fun m => HB1.out.trans (below_drewN _ w1 m))
      have hq1 : 0 ≤ q := by omega
      have hq2 : q ≤ 65536 := by omega
      clear hs hq hkn
      go_wp2_with fail
      go_quiet (fail)
      have hE := HE.out nq
      have hF := HB.out nq
      have HE' := Lib.hid hE
      have HF' := Lib.hid hF
      clear hE hF HE HB t0 t1 t3 HMM HS1 HB1 HT1 hg1 hd
      generalize w1.drewN nq = w2 at *
      go_wp2
      go_ret
      exact ⟨_, rfl, HE'.out, HF'.out⟩
end Go.Proofs.Ytbcfcjecobihnaa
