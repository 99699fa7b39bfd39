/- nat: New, check, In, Lent. -/
import Derived.Test.YtbcfcjecobihnaaNatTab
import Derived.Test.YtbcfcjecobihnaaWithin
import Derived.Test.YtbcfcjecobihnaaAll
import Derived.Test.YtbcfcjecobihnaaElem
import Derived.Deep.LoopGhost
import Derived.Deep.DeepCutAuto
import Derived.BigQuiet
namespace Go.Proofs.Ytbcfcjecobihnaa
open Go.RowKit Go.Maps
set_option linter.unusedVariables false
set_option maxRecDepth 100000

theorem natNew_ok (low many : Int) (w : World) (h : LmOk low many) : Calls Try.prog 4 #[.int .i64 low, .int .i64 many] w fun e w' => ∃ g, e = .returned (.tuple #[.pointer (some ⟨g, 0, none⟩), .nilIface]) ∧ NatT w.heap.size w' g low many [] [] ∧ Below w.heap.size w w' := by
  have hmm := @run_makeMap Try.prog
  have h1 := (Sep.nil w.heap.size w).mapNew (Nat.le_refl _)
  have h2 := h1.mapNew (by simp)
  have h3 := h2.blkNew (by simp; omega) #[.int .i64 low, .int .i64 many, .map (some w.heap.size), .map (some (w.heap.size + 1))] 53
  have e1 : (w.alloc (.map #[] 0)).heap.size = w.heap.size + 1 := by simp
  have e2 : ((w.alloc (.map #[] 0)).alloc (.map #[] 0)).heap.size = w.heap.size + 1 + 1 := by simp
  rw [e1, e2] at h3
  have h4 := h3.perm (List.Perm.cons _ (List.Perm.swap _ _ _))
  have hN : NatT w.heap.size _ (w.heap.size + 1 + 1) low many [] [] := ⟨NatOk.nil h, w.heap.size, w.heap.size + 1, #[], 0, #[], 0, MapIs.nil, MapIs.nil, h4⟩
  have HN := Lib.hid hN
  have HB := Lib.hid ((((Below.refl w.heap.size w).alloc (Nat.le_refl _) (.map #[] 0)).alloc (by simp) (.map #[] 0)).alloc (by simp; omega) (.cells #[.int .i64 low, .int .i64 many, .map (some w.heap.size), .map (some (w.heap.size + 1))] 53))
  obtain ⟨⟨a1, a2⟩, ⟨a3, a4⟩, a5⟩ := h
  have hd : decide ((65535 : Int) < low + many - 1) = false := decide_eq_false (by omega)
  clear h1 h2 h3 h4 e1 e2 hN
  go_enter Try.func4, Try.ntmps4
  go_wp2_with fail
  refine (within_yes _ _ _ _ a1 a2).mono ?_
  rintro e w' ⟨rfl, rfl⟩
  go_wp2_with fail
  refine (within_yes _ _ _ _ a3 a4).mono ?_
  rintro e w' ⟨rfl, rfl⟩
  go_wp2
  go_ret2
  exact ⟨_, rfl, HN.out, HB.out⟩
theorem natNew_no (low many : Int) (w : World) (h : ¬ LmOk low many) : Calls Try.prog 4 #[.int .i64 low, .int .i64 many] w fun e w' => e = .returned (.tuple #[.pointer none, .iface 49 (.int .i64 1)]) ∧ w = w' := by
  unfold LmOk at h
  have H := Lib.hid h
  clear h
  by_cases h1 : 0 ≤ low ∧ low ≤ 65535
  · by_cases h2 : 1 ≤ many ∧ many ≤ 30
    · have h3 : ¬ low + many ≤ 65536 := fun h => H.out ⟨h1, h2, h⟩
      obtain ⟨a1, a2⟩ := h1
      obtain ⟨a3, a4⟩ := h2
      have hd : decide ((65535 : Int) < low + many - 1) = true := decide_eq_true (by omega)
      go_enter Try.func4, Try.ntmps4
      go_wp2_with fail
      refine (within_yes _ _ _ _ a1 a2).mono ?_
      rintro e w' ⟨rfl, rfl⟩
      go_wp2_with fail
      refine (within_yes _ _ _ _ a3 a4).mono ?_
      rintro e w' ⟨rfl, rfl⟩
      go_wp2
      go_ret2
      exact ⟨rfl, rfl⟩
    · have H2 := Lib.hid h2
      clear h2
      go_enter Try.func4, Try.ntmps4
      go_wp2_with fail
      refine (within_yes _ _ _ _ h1.1 h1.2).mono ?_
      rintro e w' ⟨rfl, rfl⟩
      go_wp2_with fail
      refine (within_no _ _ _ _ H2.out).mono ?_
      rintro e w' ⟨rfl, rfl⟩
      go_wp2
      go_ret2
      exact ⟨rfl, rfl⟩
  · have H1 := Lib.hid h1
    clear h1
    go_enter Try.func4, Try.ntmps4
    go_wp2_with fail
    refine (within_no _ _ _ _ H1.out).mono ?_
    rintro e w' ⟨rfl, rfl⟩
    go_wp2
    go_ret2
    exact ⟨rfl, rfl⟩
theorem natCheck_any (p : Pl) (w : World) : Calls Try.prog 17 #[plV p] w fun e w' => e = .returned (if PlOk p then .nilIface else .iface 49 (.int .i64 1)) ∧ Below w.heap.size w w' := by
  obtain ⟨a, b⟩ := p
  have h1 := (Sep.nil w.heap.size w).blkNew (Nat.le_refl _) #[.int .i64 a, .int .i64 b] 40
  have h2 := h1.blkNew (by simp) #[.int .i64 a, .int .i64 b] 3
  have hb := ((Below.refl w.heap.size w).alloc (Nat.le_refl _) (.cells #[.int .i64 a, .int .i64 b] 40)).alloc (by simp) (.cells #[.int .i64 a, .int .i64 b] 3)
  have e1 : (w.alloc (.cells #[.int .i64 a, .int .i64 b] 40)).heap.size = w.heap.size + 1 := by simp
  rw [e1] at h2
  obtain ⟨w2, hw2⟩ : ∃ w2, w2 = (w.alloc (.cells #[.int .i64 a, .int .i64 b] 40)).alloc (.cells #[.int .i64 a, .int .i64 b] 3) := ⟨_, rfl⟩
  rw [← hw2] at h2 hb
  have hI : IntSl w2.heap.size w2 (some ⟨w.heap.size + 1, 0, none⟩) [a, b] := by
    intro j x hx
    have hc := (Sep.blkAt (A := []) h2 (j := j) (v := .int .i64 x) (by
      match j, hx with
      | 0, hx => simp at hx; subst hx; rfl
      | 1, hx => simp at hx; subst hx; rfl
      | j + 2, hx => simp at hx)).1
    exact ⟨_, 0, rfl, World.block_lt_of_cell? w2 _ hc, by rw [Nat.zero_add]; exact hc⟩
  have HI := Lib.hid hI
  have HB := Lib.hid hb
  have HW := Lib.hid hw2
  clear h1 h2 hb hI e1 hw2
  unfold plV
  by_cases hp : PlOk (a, b)
  · rw [if_pos hp]
    have HR := Lib.hid (show true = decide (∀ y ∈ [a, b], 0 ≤ y ∧ y ≤ 65535) by symm; simp; exact hp)
    clear hp
    go_enter Try.func17, Try.ntmps17
    go_wp2_with fail
    rw [← HW.out]
    refine (all_any _ _ _ _ [a, b] 0 65535 true _ HI.out rfl (by simp) HR.out).mono ?_
    rintro e w' ⟨rfl, rfl⟩
    go_wp2
    go_ret
    exact ⟨rfl, HB.out⟩
  · rw [if_neg hp]
    have HR := Lib.hid (show false = decide (∀ y ∈ [a, b], 0 ≤ y ∧ y ≤ 65535) by symm; simp; intro h1 h2 h3; have := hp; unfold PlOk at this; simp only at this; omega)
    clear hp
    go_enter Try.func17, Try.ntmps17
    go_wp2_with fail
    rw [← HW.out]
    refine (all_any _ _ _ _ [a, b] 0 65535 false _ HI.out rfl (by simp) HR.out).mono ?_
    rintro e w' ⟨rfl, rfl⟩
    go_wp2
    go_ret
    exact ⟨rfl, HB.out⟩
end Go.Proofs.Ytbcfcjecobihnaa
