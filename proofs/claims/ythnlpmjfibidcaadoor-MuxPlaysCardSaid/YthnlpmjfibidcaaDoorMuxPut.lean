/- (*mux.Ends).Put: a frame comes. -/
import Derived.Test.YthnlpmjfibidcaaDoorRows
import Derived.Test.YthnlpmjfibidcaaDoorBase
import Derived.Test.YthnlpmjfibidcaaDoorWithin
import Derived.Test.YthnlpmjfibidcaaDoorMuxPlain
namespace Go.Proofs.YthnlpmjfibidcaaDoor
open Go.RowKit

theorem clash_cell {f : Nat → Option UInt8} {p k : Nat} {d : List UInt8} {c : UInt8} (h : ¬ Clash f p d) (hc : d[k]? = some c) : f (p + k) = none ∨ f (p + k) = some c := by
  cases hf : f (p + k) with
  | none => exact .inl rfl
  | some b =>
    by_cases hb : b = c
    · exact .inr (by rw [hb])
    · exact absurd ⟨k, c, b, hc, hf, hb⟩ h

theorem clash_next {f : Nat → Option UInt8} {p k : Nat} {d : List UInt8} {c : UInt8} (h : ¬ Clash f p (d.take k)) (hc : d[k]? = some c) :
    (f (p + k) = none ∧ ¬ Clash f p (d.take (k + 1))) ∨ (f (p + k) = some c ∧ ¬ Clash f p (d.take (k + 1))) ∨ ∃ b, f (p + k) = some b ∧ ¬ b = c := by
  have old : ∀ (j : Nat) (x : UInt8), (d.take (k + 1))[j]? = some x → (d.take k)[j]? = some x ∨ (j = k ∧ x = c) := by
    intro j x hj
    rw [List.getElem?_take] at hj ⊢
    split at hj
    · by_cases hjk : j = k
      · subst hjk; rw [hc] at hj; exact .inr ⟨rfl, (Option.some.inj hj).symm⟩
      · exact .inl (by rw [if_pos (by omega)]; exact hj)
    · cases hj
  cases hf : f (p + k) with
  | none =>
    refine .inl ⟨rfl, ?_⟩
    rintro ⟨j, x, y, hj, hy, hne⟩
    rcases old j x hj with hj | ⟨rfl, rfl⟩
    · exact h ⟨j, x, y, hj, hy, hne⟩
    · rw [hf] at hy; cases hy
  | some b =>
    by_cases hb : b = c
    · subst hb
      refine .inr (.inl ⟨rfl, ?_⟩)
      rintro ⟨j, x, y, hj, hy, hne⟩
      rcases old j x hj with hj | ⟨rfl, rfl⟩
      · exact h ⟨j, x, y, hj, hy, hne⟩
      · rw [hf] at hy; exact hne (Option.some.inj hy).symm
    · exact .inr (.inr ⟨b, rfl, hb⟩)

theorem Sep.muxHas {B : Nat} {w : World} {A C : List Ent} {e : TypeId} {g i q : Nat} {ss : List Str} {s : Str} (h : Sep B w (A ++ Ent.mux e g ss :: C)) (hs : ss[i]? = some s) (hq : q < 200) :
    w.cell? ⟨g, i * 401 + q, none⟩ = some (hasCell (s.came q)) ∧ w.frozen? ⟨g, i * 401 + q, none⟩ = false :=
  Sep.blkAt h (by rw [flat_get strCells 401 strCells_len (by omega) ss i s hs]; exact strCells_has s hq)
theorem Sep.muxDat {B : Nat} {w : World} {A C : List Ent} {e : TypeId} {g i q : Nat} {ss : List Str} {s : Str} (h : Sep B w (A ++ Ent.mux e g ss :: C)) (hs : ss[i]? = some s) (hq : q < 200) :
    w.cell? ⟨g, i * 401 + 200 + q, none⟩ = some (datCell (s.came q)) ∧ w.frozen? ⟨g, i * 401 + 200 + q, none⟩ = false := by
  rw [Nat.add_assoc]
  exact Sep.blkAt h (by rw [flat_get strCells 401 strCells_len (by omega) ss i s hs]; exact strCells_dat s hq)
theorem Sep.muxRead {B : Nat} {w : World} {A C : List Ent} {e : TypeId} {g i : Nat} {ss : List Str} {s : Str} (h : Sep B w (A ++ Ent.mux e g ss :: C)) (hs : ss[i]? = some s) :
    w.cell? ⟨g, i * 401 + 400, none⟩ = some (.int .i64 s.read) ∧ w.frozen? ⟨g, i * 401 + 400, none⟩ = false :=
  Sep.blkAt h (by rw [flat_get strCells 401 strCells_len (by omega) ss i s hs]; exact strCells_read s)
theorem Sep.muxSet {B : Nat} {w : World} {A C : List Ent} {e : TypeId} {g i q : Nat} {ss : List Str} {f : Nat → Option UInt8} {r : Nat} {c : UInt8} (h : Sep B w (A ++ Ent.mux e g ss :: C)) (hs : ss[i]? = some ⟨f, r⟩) (hq : q < 200) :
    Sep B ((w.setCell ⟨g, i * 401 + q, none⟩ (.bool true)).setCell ⟨g, i * 401 + 200 + q, none⟩ (.int .u8 (c.toNat : Int))) (A ++ Ent.mux e g (ss.set i ⟨fun j => if j = q then some c else f j, r⟩) :: C) := by
  have h2 := Sep.blkSet (Sep.blkSet h (i * 401 + q) (.bool true)) (i * 401 + 200 + q) (.int .u8 (c.toNat : Int))
  unfold Ent.mux
  have e1 : ((ss.flatMap strCells).set (i * 401 + q) (.bool true)).set (i * 401 + 200 + q) (.int .u8 (c.toNat : Int)) = (ss.set i ⟨fun j => if j = q then some c else f j, r⟩).flatMap strCells := by
    rw [Nat.add_assoc]
    exact flat_set2 strCells 401 strCells_len (by omega) (by omega) _ _ ss i _ _ hs (strCells_set hq).symm
  rw [e1] at h2
  exact h2

set_option maxHeartbeats 1000000 in
set_option maxRecDepth 100000 in
theorem muxPut_ok (B g : Nat) (ss : List Str) (F : List Ent) (i p r : Nat) (d : ByteArray) (f : Nat → Option UInt8) (w : World) (hi : i < 4) (hp : p + d.size ≤ 200)
    (hs : ss[i]? = some ⟨f, r⟩) (hc : ¬ Clash f p d.data.toList) (hsep : Sep B w (Ent.mux 63 g ss :: F)) (hB : B ≤ w.heap.size) :
    Calls Tryd.prog 8 #[.pointer (some ⟨g, 0, none⟩), .agg #[.int .i64 i, .int .i64 p, .string d]] w fun e w' =>
      e = .returned .nilIface ∧ Sep B w' (Ent.mux 63 g (ss.set i ⟨putF f p d.data.toList, r⟩) :: F) ∧ Below B w w' := by
  have HS0 := Lib.hid hs; clear hs
  have HC := Lib.hid hc; clear hc
  have hsz : d.data.toList.length = d.size := by simp
  have HSZ := Lib.hid hsz; clear hsz
  have hsep1 := hsep.blkNew hB #[.int .i64 i, .int .i64 p, .string d] 24
  have hBg : B ≤ g := (Sep.blkLt (A := []) hsep).1
  have HS := Lib.hid hsep1; clear hsep1 hsep
  have hgt : decide ((200 : Int) - (p : Int) < (d.size : Int)) = false := by simp only [decide_eq_false_iff_not]; omega
  go_enter Tryd.func8, Tryd.ntmps8
  go_wp2_with (go_at_call 24; refine (within_yes _ _ _ _ (by omega) (by omega)).mono ?_; rintro e w' ⟨rfl, rfl⟩)
  go_quiet (fail)
  have hq := HS.out.drewN nq
  have hbq : Below B w ((w.alloc (.cells #[.int .i64 i, .int .i64 p, .string d] 24)).drewN nq) := ((below_alloc w _).mono hB).trans (below_drewN _ _ _)
  generalize ((w.alloc (.cells #[.int .i64 i, .int .i64 p, .string d] 24)).drewN nq) = wq at hq hbq ⊢
  generalize w.heap.size = fb at hq ⊢
  have c0 := (Sep.blkAt (A := []) hq (j := 0) (v := .int .i64 i) rfl).1
  have c1 := (Sep.blkAt (A := []) hq (j := 1) (v := .int .i64 p) rfl).1
  have c2 := (Sep.blkAt (A := []) hq (j := 2) (v := .string d) rfl).1
  have HSq := Lib.hid hq; clear hq HS
  have HBq := Lib.hid hbq; clear hbq
  go_wp2_with (with_reducible refine wpList_bytes rfl (.tmp 36) rfl d rfl Tryd.underlying9 Tryd.underlying34 Tryd.underlying5 HSq.out (Nat.le_trans hB HBq.out.size) ?_)
  intro w1 cap1 hs1 hb1 hz1 hcap
  generalize wq.heap.size = gb at hs1 ⊢
  have HS1 := Lib.hid hs1; clear hs1
  have HB1 := Lib.hid (HBq.out.trans (hb1.mono (Nat.le_trans hB HBq.out.size))); clear hb1 hz1 HBq
  clear c0 c1 c2 HSq
  go_wp2
  go_loopw [6, 7, 39] (fun _ _ x wr => ∃ k : Nat, k ≤ d.size ∧ x = .int .i64 k ∧ Sep B wr (Ent.u8s gb d.data.toList :: Ent.blk1 fb 24 [.int .i64 i, .int .i64 p, .string d] :: Ent.mux 63 g ss :: F) ∧ Below B w wr) (fun _ _ x _ => d.size - (intOf x).toNat)
  case atStart => exact ⟨0, Nat.zero_le _, rfl, HS1.out, HB1.out⟩
  case round =>
    obtain ⟨k, hk, rfl, hs, hb⟩ := hrel
    have c1 := (Sep.blkAt (A := [_]) hs (j := 1) (v := .int .i64 p) rfl).1
    have c2 := (Sep.blkAt (A := [_]) hs (j := 2) (v := .string d) rfl).1
    by_cases hlt : k < d.size
    · obtain ⟨c, hcd⟩ : ∃ c, d.data.toList[k]? = some c := ⟨_, List.getElem?_eq_getElem (by rw [HSZ.out]; exact hlt)⟩
      have cb := Sep.u8At (A := []) hs hcd
      have hcl := clash_cell HC.out hcd
      have Hcd := Lib.hid hcd; clear hcd
      have ch := (Sep.muxHas (A := [_, _]) hs HS0.out (q := p + k) (by omega)).1
      have cd' := (Sep.muxDat (A := [_, _]) hs HS0.out (q := p + k) (by omega)).1
      have HS := Lib.hid hs; clear hs
      have HB := Lib.hid hb; clear hb
      rcases hcl with hn | hn
      · simp only [hn, hasCell, datCell, Option.isSome_none] at ch cd'
        have Hn := Lib.hid hn; clear hn
        go_wp2
        go_quiet (fail)
        go_wp2
        go_roundw
        case rel => exact ⟨k + 1, by omega, by go_num, HS.out.drewN _, HB.out.trans (below_drewN _ _ _)⟩
        case measure => simp [intOf]; omega
      · simp only [hn, hasCell, datCell, Option.isSome_some, Option.getD_some] at ch cd'
        have hne : ((c.toNat : Int) != (c.toNat : Int)) = false := by simp
        have Hn := Lib.hid hn; clear hn
        go_wp2
        go_quiet (fail)
        go_wp2
        go_roundw
        case rel => exact ⟨k + 1, by omega, by go_num, HS.out.drewN _, HB.out.trans (below_drewN _ _ _)⟩
        case measure => simp [intOf]; omega
    · have HS := Lib.hid hs; clear hs
      have HB := Lib.hid hb; clear hb
      go_wp2_with (with_reducible refine wpList_bytes rfl (.tmp 69) rfl d rfl Tryd.underlying9 Tryd.underlying34 Tryd.underlying5 HS.out (Nat.le_trans hB HB.out.size) ?_)
      intro w2 cap2 hs2 hb2 hz2 hcap2
      have HB2 := Lib.hid (HB.out.trans (hb2.mono (Nat.le_trans hB HB.out.size))); clear hb2 hz2
      generalize wr.heap.size = gc at hs2 ⊢
      have HS2 := Lib.hid hs2; clear hs2
      clear c1 c2
      go_wp2
      go_loopw [8, 9, 72] (fun _ _ x wr => ∃ k : Nat, k ≤ d.size ∧ x = .int .i64 k ∧ Sep B wr (Ent.u8s gc d.data.toList :: Ent.u8s gb d.data.toList :: Ent.blk1 fb 24 [.int .i64 i, .int .i64 p, .string d] :: Ent.mux 63 g (ss.set i ⟨putF f p (d.data.toList.take k), r⟩) :: F) ∧ Below B w wr) (fun _ _ x _ => d.size - (intOf x).toNat)
      case atStart =>
        refine ⟨0, Nat.zero_le _, rfl, ?_, HB2.out⟩
        have e : ss.set i ⟨putF f p (d.data.toList.take 0), r⟩ = ss := by
          rw [List.take_zero, putF_nil]
          obtain ⟨hl, he⟩ := List.getElem?_eq_some_iff.1 HS0.out
          rw [← he, List.set_getElem_self]
        rw [e]; exact HS2.out
      case round =>
        obtain ⟨k, hk, rfl, hs, hb⟩ := hrel
        by_cases hlt : k < d.size
        · obtain ⟨c, hcd⟩ : ∃ c, d.data.toList[k]? = some c := ⟨_, List.getElem?_eq_getElem (by rw [HSZ.out]; exact hlt)⟩
          have c1 := (Sep.blkAt (A := [_, _]) hs (j := 1) (v := .int .i64 p) rfl).1
          have cb := Sep.u8At (A := []) hs hcd
          have hsi : (ss.set i ⟨putF f p (d.data.toList.take k), r⟩)[i]? = some ⟨putF f p (d.data.toList.take k), r⟩ := List.getElem?_set_self (List.getElem?_eq_some_iff.1 HS0.out).1
          obtain ⟨ch, fh⟩ := Sep.muxHas (A := [_, _, _]) hs hsi (q := p + k) (by omega)
          obtain ⟨cd', fd⟩ := Sep.muxDat (A := [_, _, _]) hs hsi (q := p + k) (by omega)
          have Hcd := Lib.hid hcd; clear hcd
          have n1 : ¬ fb = g := Sep.apart (A := [_, _]) (C := []) hs rfl rfl
          have n2 : ¬ g = fb := fun e => n1 e.symm
          have Hsi := Lib.hid hsi; clear hsi
          have HS := Lib.hid hs; clear hs
          have HB := Lib.hid hb; clear hb
          go_wp2
          go_region
          go_wp2
          go_roundw
          case rel =>
            have hnew := Sep.muxSet (A := [_, _, _]) (c := c) HS.out Hsi.out (q := p + k) (by omega)
            rw [List.set_set, ← putF_snoc Hcd.out] at hnew
            exact ⟨k + 1, by omega, by go_num, hnew.drew, ((HB.out.setCell (by exact hBg) _).setCell (by exact hBg) _).drew⟩
          case measure => simp [intOf]; omega
        · have HS := Lib.hid hs; clear hs
          go_wp2
          go_ret
          refine ⟨rfl, ?_, hb⟩
          have e : (d.data.toList.take k) = d.data.toList := List.take_of_length_le (by rw [HSZ.out]; omega)
          have := HS.out
          rw [e] at this
          exact this.sub ((List.sublist_cons_self _ _).trans ((List.sublist_cons_self _ _).trans (List.sublist_cons_self _ _)))

set_option maxHeartbeats 1000000 in
set_option maxRecDepth 100000 in
theorem muxPut_clash (B g : Nat) (ss : List Str) (F : List Ent) (i p r : Nat) (d : ByteArray) (f : Nat → Option UInt8) (w : World) (hi : i < 4) (hp : p + d.size ≤ 200)
    (hs : ss[i]? = some ⟨f, r⟩) (hc : Clash f p d.data.toList) (hsep : Sep B w (Ent.mux 63 g ss :: F)) (hB : B ≤ w.heap.size) :
    Calls Tryd.prog 8 #[.pointer (some ⟨g, 0, none⟩), .agg #[.int .i64 i, .int .i64 p, .string d]] w fun e w' =>
      e = .returned (.iface 64 (.int .i64 6)) ∧ Sep B w' (Ent.mux 63 g ss :: F) ∧ Below B w w' := by
  have HS0 := Lib.hid hs; clear hs
  have HC := Lib.hid hc; clear hc
  have hsz : d.data.toList.length = d.size := by simp
  have HSZ := Lib.hid hsz; clear hsz
  have hsep1 := hsep.blkNew hB #[.int .i64 i, .int .i64 p, .string d] 24
  have hBg : B ≤ g := (Sep.blkLt (A := []) hsep).1
  have HS := Lib.hid hsep1; clear hsep1 hsep
  have hgt : decide ((200 : Int) - (p : Int) < (d.size : Int)) = false := by simp only [decide_eq_false_iff_not]; omega
  go_enter Tryd.func8, Tryd.ntmps8
  go_wp2_with (go_at_call 24; refine (within_yes _ _ _ _ (by omega) (by omega)).mono ?_; rintro e w' ⟨rfl, rfl⟩)
  go_quiet (fail)
  have hq := HS.out.drewN nq
  have hbq : Below B w ((w.alloc (.cells #[.int .i64 i, .int .i64 p, .string d] 24)).drewN nq) := ((below_alloc w _).mono hB).trans (below_drewN _ _ _)
  generalize ((w.alloc (.cells #[.int .i64 i, .int .i64 p, .string d] 24)).drewN nq) = wq at hq hbq ⊢
  generalize w.heap.size = fb at hq ⊢
  have c0 := (Sep.blkAt (A := []) hq (j := 0) (v := .int .i64 i) rfl).1
  have c1 := (Sep.blkAt (A := []) hq (j := 1) (v := .int .i64 p) rfl).1
  have c2 := (Sep.blkAt (A := []) hq (j := 2) (v := .string d) rfl).1
  have HSq := Lib.hid hq; clear hq HS
  have HBq := Lib.hid hbq; clear hbq
  go_wp2_with (with_reducible refine wpList_bytes rfl (.tmp 36) rfl d rfl Tryd.underlying9 Tryd.underlying34 Tryd.underlying5 HSq.out (Nat.le_trans hB HBq.out.size) ?_)
  intro w1 cap1 hs1 hb1 hz1 hcap
  generalize wq.heap.size = gb at hs1 ⊢
  have HS1 := Lib.hid hs1; clear hs1
  have HB1 := Lib.hid (HBq.out.trans (hb1.mono (Nat.le_trans hB HBq.out.size))); clear hb1 hz1 HBq
  clear c0 c1 c2 HSq
  go_wp2
  go_loopw [6, 7, 39] (fun _ _ x wr => ∃ k : Nat, k ≤ d.size ∧ x = .int .i64 k ∧ Hid (¬ Clash f p (d.data.toList.take k)) ∧ Sep B wr (Ent.u8s gb d.data.toList :: Ent.blk1 fb 24 [.int .i64 i, .int .i64 p, .string d] :: Ent.mux 63 g ss :: F) ∧ Below B w wr) (fun _ _ x _ => d.size - (intOf x).toNat)
  case atStart => exact ⟨0, Nat.zero_le _, rfl, by rintro ⟨i, c, b, h, _⟩; simp at h, HS1.out, HB1.out⟩
  case round =>
    obtain ⟨k, hk, rfl, hncl, hs, hb⟩ := hrel
    have c1 := (Sep.blkAt (A := [_]) hs (j := 1) (v := .int .i64 p) rfl).1
    have c2 := (Sep.blkAt (A := [_]) hs (j := 2) (v := .string d) rfl).1
    by_cases hlt : k < d.size
    · obtain ⟨c, hcd⟩ : ∃ c, d.data.toList[k]? = some c := ⟨_, List.getElem?_eq_getElem (by rw [HSZ.out]; exact hlt)⟩
      have cb := Sep.u8At (A := []) hs hcd
      have hcl := clash_next hncl.out hcd
      have Hcd := Lib.hid hcd; clear hcd
      have ch := (Sep.muxHas (A := [_, _]) hs HS0.out (q := p + k) (by omega)).1
      have cd' := (Sep.muxDat (A := [_, _]) hs HS0.out (q := p + k) (by omega)).1
      have HS := Lib.hid hs; clear hs
      have HB := Lib.hid hb; clear hb
      rcases hcl with ⟨hn, hnx⟩ | ⟨hn, hnx⟩ | ⟨b, hn, hbc⟩
      · simp only [hn, hasCell, datCell, Option.isSome_none] at ch cd'
        have Hn := Lib.hid hn; clear hn
        have Hnx := Lib.hid hnx; clear hnx
        go_wp2
        go_quiet (fail)
        go_wp2
        go_roundw
        case rel => exact ⟨k + 1, by omega, by go_num, Hnx.out, HS.out.drewN _, HB.out.trans (below_drewN _ _ _)⟩
        case measure => simp [intOf]; omega
      · simp only [hn, hasCell, datCell, Option.isSome_some, Option.getD_some] at ch cd'
        have hne : ((c.toNat : Int) != (c.toNat : Int)) = false := by simp
        have Hn := Lib.hid hn; clear hn
        have Hnx := Lib.hid hnx; clear hnx
        go_wp2
        go_quiet (fail)
        go_wp2
        go_roundw
        case rel => exact ⟨k + 1, by omega, by go_num, Hnx.out, HS.out.drewN _, HB.out.trans (below_drewN _ _ _)⟩
        case measure => simp [intOf]; omega
      · simp only [hn, hasCell, datCell, Option.isSome_some, Option.getD_some] at ch cd'
        have hne : ((b.toNat : Int) != (c.toNat : Int)) = true := by
          simp only [bne_iff_ne, ne_eq]; intro e; exact hbc (UInt8.toNat_inj.1 (by omega))
        have Hn := Lib.hid hn; clear hn
        have Hbc := Lib.hid hbc; clear hbc
        go_wp2
        go_quiet (fail)
        go_wp2
        go_ret
        exact ⟨rfl, (HS.out.drewN _).sub ((List.sublist_cons_self _ _).trans (List.sublist_cons_self _ _)), HB.out.trans (below_drewN _ _ _)⟩
    · exfalso
      have h := hncl.out
      rw [List.take_of_length_le (by rw [HSZ.out]; omega)] at h
      exact h HC.out

/-- What is wrong with a frame. -/
def PutBad (i p : Int) (d : List UInt8) (c : Int) : Prop :=
  (¬ (0 ≤ i ∧ i ≤ 3) ∧ c = 1) ∨ ((0 ≤ i ∧ i ≤ 3) ∧ ¬ (0 ≤ p ∧ p ≤ 200) ∧ c = 1) ∨ ((0 ≤ i ∧ i ≤ 3) ∧ (0 ≤ p ∧ p ≤ 200) ∧ 200 - p < d.length ∧ c = 4)

set_option maxHeartbeats 400000 in
set_option maxRecDepth 100000 in
theorem muxPut_bad (a : Option Addr) (i p c : Int) (d : ByteArray) (w : World) (hpi : -9223372036854775808 ≤ p ∧ p ≤ 9223372036854775807) (h : PutBad i p d.data.toList c) :
    Calls Tryd.prog 8 #[.pointer a, .agg #[.int .i64 i, .int .i64 p, .string d]] w fun e w' =>
      e = .returned (.iface 64 (.int .i64 c)) ∧ Below w.heap.size w w' := by
  rcases h with ⟨h1, rfl⟩ | ⟨⟨h1, h2⟩, h3, rfl⟩ | ⟨⟨h1, h2⟩, ⟨h3, h4⟩, h5, rfl⟩
  · go_enter Tryd.func8, Tryd.ntmps8
    go_wp2_with (go_at_call 24; refine (within_no _ _ _ _ h1).mono ?_; rintro e w' ⟨rfl, rfl⟩)
    go_ret
    exact ⟨rfl, below_alloc _ _⟩
  · have H3 := Lib.hid h3; clear h3
    go_enter Tryd.func8, Tryd.ntmps8
    go_wp2_with fail
    refine (within_yes _ _ _ _ h1 h2).mono ?_
    rintro e w' ⟨rfl, rfl⟩
    go_wp2_with fail
    refine (within_no _ _ _ _ H3.out).mono ?_
    rintro e w' ⟨rfl, rfl⟩
    go_wp2
    go_ret
    exact ⟨rfl, below_alloc _ _⟩
  · have h5' : decide ((200 : Int) - p < (d.size : Int)) = true := by simp at h5; simp only [decide_eq_true_eq]; exact h5
    clear h5
    go_enter Tryd.func8, Tryd.ntmps8
    go_wp2_with fail
    refine (within_yes _ _ _ _ h1 h2).mono ?_
    rintro e w' ⟨rfl, rfl⟩
    go_wp2_with fail
    refine (within_yes _ _ _ _ h3 h4).mono ?_
    rintro e w' ⟨rfl, rfl⟩
    go_wp2
    go_ret
    exact ⟨rfl, below_alloc _ _⟩
end Go.Proofs.YthnlpmjfibidcaaDoor
