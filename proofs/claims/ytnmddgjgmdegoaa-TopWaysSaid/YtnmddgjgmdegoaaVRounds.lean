/- vector.Rounds: what each point knows behind so many rounds (bell). -/
import Derived.Test.YtnmddgjgmdegoaaBegin
import Derived.Test.YtnmddgjgmdegoaaVCheck
import Derived.Deep.DeepCutAuto
import Derived.StillTailTactics
namespace Go.Proofs.Ytnmddgjgmdegoaa
open Go.RowKit
set_option linter.unusedVariables false

def rCode (n : Int) (L : List Lnk) (r : Int) : Int := if vCode n L = 0 then (if 0 ≤ r ∧ r ≤ 20 then 0 else 1) else vCode n L
theorem rCode_zero {n : Int} {L : List Lnk} {r : Int} : rCode n L r = 0 ↔ ∃ m k : Nat, n = (m : Int) ∧ r = (k : Int) ∧ k ≤ 20 ∧ VOk m L := by
  unfold rCode
  constructor
  · intro h
    split at h
    · next hv =>
      obtain ⟨m, rfl, hk⟩ := vCode_zero.1 hv
      split at h
      · next ho =>
        obtain ⟨p, rfl⟩ := Int.eq_ofNat_of_zero_le ho.1
        exact ⟨m, p, rfl, rfl, by omega, hk⟩
      · omega
    · next hv => exact absurd h hv
  · rintro ⟨m, k, rfl, rfl, hk, hv⟩
    rw [if_pos (vCode_nat.2 hv), if_pos (by omega)]

theorem rounds_err (n : Int) (ao : Option Addr) (len ac B : Nat) (L : List Lnk) (r c : Int) (w : World) (hA : RowSl B w ao 3 (L.map lnkC)) (hlen : len = L.length) (hl : L.length ≤ 9223372036854775807) (hB : B ≤ w.heap.size) (hc : c = rCode n L r) (h0 : ¬ c = 0) :
    Calls Try.prog 31 #[.int .i64 n, .slice ao len ac, .int .i64 r] w fun e w' => e = .returned (.tuple #[.slice none 0 0, .iface 76 (.int .i64 c)]) ∧ Below w.heap.size w w' := by
  subst hlen
  have HA := Lib.hid hA; clear hA
  unfold rCode at hc
  by_cases hv : vCode n L = 0
  · rw [if_pos hv] at hc
    by_cases ho : 0 ≤ r ∧ r ≤ 20
    · rw [if_pos ho] at hc; exact absurd hc h0
    · rw [if_neg ho] at hc
      subst hc
      clear h0
      have HO := Lib.hid ho; clear ho
      have HV := Lib.hid hv; clear hv
      go_enter Try.func31, Try.ntmps31
      go_wp2_with fail
      refine (vCheck_any _ _ _ _ _ L _ HA.out rfl hl hB).mono ?_
      rintro e w1 ⟨rfl, hb⟩
      rw [HV.out, errV_zero]
      have HB := Lib.hid hb; clear hb
      go_wp2_with fail
      refine (within_no _ _ _ _ HO.out).mono ?_
      rintro e w' ⟨rfl, rfl⟩
      go_wp2
      go_ret2
      exact ⟨rfl, HB.out⟩
  · rw [if_neg hv] at hc
    subst hc
    have HV := Lib.hid hv; clear hv h0
    go_enter Try.func31, Try.ntmps31
    go_wp2_with fail
    refine (vCheck_any _ _ _ _ _ L _ HA.out rfl hl hB).mono ?_
    rintro e w1 ⟨rfl, hb⟩
    rw [errV_not HV.out]
    have HB := Lib.hid hb; clear hb
    go_wp2
    go_ret2
    exact ⟨rfl, HB.out⟩

/-- What a round makes of what all know (N), edge by edge. -/
def srow (E : List Edge) (N : Nat → Nat → Int) (i j : Nat) : Int := bstep E (fun w => N w j) i (base i j)
theorem bell_succ (E : List Edge) (t : Nat) : bell E (t + 1) = srow E (bell E t) := rfl
theorem bstep_append (E1 E2 : List Edge) (f : Nat → Int) (u : Nat) (b : Int) : bstep (E1 ++ E2) f u b = bstep E2 f u (bstep E1 f u b) := by unfold bstep; rw [List.foldl_append]
theorem srow_next {L : List Lnk} {q A B : Nat} {c : Int} (h : L[q]? = some ((A : Int), (B : Int), c)) (N : Nat → Nat → Int) (hAB : A ≠ B) (i j : Nat) :
    srow (edges (L.take (q + 1))) N i j = if i = A then min (srow (edges (L.take q)) N i j) (c + N B j) else if i = B then min (srow (edges (L.take q)) N i j) (c + N A j) else srow (edges (L.take q)) N i j := by
  unfold srow
  rw [edges_take_succ h, bstep_append]
  generalize bstep (edges (L.take q)) (fun w => N w j) i (base i j) = s
  unfold edgesOf bstep
  simp only [Int.toNat_natCast, List.foldl_cons, List.foldl_nil]
  by_cases hA : A = i
  · subst hA
    rw [if_pos rfl, if_neg (fun e : B = A => hAB e.symm), if_pos rfl]
  · rw [if_neg hA, if_neg (fun e : i = A => hA e.symm)]
    by_cases hB : B = i
    · subst hB; rw [if_pos rfl]
    · rw [if_neg hB, if_neg (fun e : i = B => hB e.symm)]
theorem srow_range {E : List Edge} {N : Nat → Nat → Int} (hE : ∀ u v c, (u, v, c) ∈ E → 0 ≤ c) (hN : ∀ i j, 0 ≤ N i j) (i j : Nat) : 0 ≤ srow E N i j ∧ srow E N i j ≤ 1000 := by
  obtain ⟨h1, _, h3⟩ := bstep_spec (fun w => N w j) i E (base i j)
  unfold srow
  have hb : 0 ≤ base i j ∧ base i j ≤ 1000 := by unfold base; split <;> omega
  rcases h3 with h3 | ⟨w, c, hm, h3⟩
  · omega
  · have := hE _ _ _ hm
    have := hN w j
    omega
theorem srow_diag {E : List Edge} {N : Nat → Nat → Int} (hE : ∀ u v c, (u, v, c) ∈ E → 0 ≤ c) (hN : ∀ i j, 0 ≤ N i j) (i : Nat) : srow E N i i = 0 := by
  obtain ⟨h1, _, _⟩ := bstep_spec (fun w => N w i) i E (base i i)
  have h2 := (srow_range hE hN i i).1
  unfold srow at h2 ⊢
  have hb : base i i = 0 := if_pos rfl
  omega
/-- The columns below J are done. -/
def colM (X Y : Nat → Nat → Int) (J i j : Nat) : Int := if j < J then Y i j else X i j
theorem colM_here (X Y : Nat → Nat → Int) (J i : Nat) : colM X Y J i J = X i J := if_neg (Nat.lt_irrefl _)
theorem colM_next {X Y : Nat → Nat → Int} {J : Nat} {M : Nat → Nat → Int} (h1 : ∀ i, M i J = Y i J) (h2 : ∀ i j, j ≠ J → M i j = colM X Y J i j) (i j : Nat) : M i j = colM X Y (J + 1) i j := by
  by_cases h : j = J
  · subst h; rw [h1]; unfold colM; rw [if_pos (Nat.lt_succ_self _)]
  · rw [h2 i j h]
    unfold colM
    by_cases hl : j < J
    · rw [if_pos hl, if_pos (by omega)]
    · rw [if_neg hl, if_neg (by omega)]
def upd2 (M : Nat → Nat → Int) (i k : Nat) (y : Int) : Nat → Nat → Int := updf M i (updf (M i) k y)
theorem upd2_at (M : Nat → Nat → Int) (i k a b : Nat) (y : Int) : upd2 M i k y a b = if a = i ∧ b = k then y else M a b := by
  unfold upd2 updf
  by_cases ha : a = i
  · subst ha
    by_cases hb : b = k
    · subst hb; simp
    · simp [hb]
  · simp [ha]
/-- One column of one link: both ends hear. -/
theorem col_both {L : List Lnk} {q A B J : Nat} {c : Int} (h : L[q]? = some ((A : Int), (B : Int), c)) {N : Nat → Nat → Int} (hAB : A ≠ B) :
    ∀ i j, upd2 (upd2 (colM (srow (edges (L.take q)) N) (srow (edges (L.take (q + 1))) N) J) A J (min (srow (edges (L.take q)) N A J) (c + N B J))) B J (min (srow (edges (L.take q)) N B J) (c + N A J)) i j =
      colM (srow (edges (L.take q)) N) (srow (edges (L.take (q + 1))) N) (J + 1) i j := by
  refine colM_next (fun i => ?_) (fun i j hj => ?_)
  · rw [upd2_at, upd2_at, srow_next h N hAB, colM_here]
    by_cases hA : i = A
    · subst hA; rw [if_neg (fun e => hAB e.1), if_pos ⟨rfl, rfl⟩, if_pos rfl]
    · rw [if_neg hA]
      by_cases hB : i = B
      · subst hB; rw [if_pos ⟨rfl, rfl⟩, if_pos rfl]
      · rw [if_neg (fun e => hB e.1), if_neg (fun e => hA e.1), if_neg hB]
  · rw [upd2_at, upd2_at, if_neg (fun e => hj e.2), if_neg (fun e => hj e.2)]
theorem col_second {L : List Lnk} {q B J : Nat} {c : Int} (h : L[q]? = some ((J : Int), (B : Int), c)) {N : Nat → Nat → Int} (hAB : J ≠ B) (hE : ∀ u v c, (u, v, c) ∈ edges L → 0 ≤ c) (hc : 0 ≤ c) (hN : ∀ i j, 0 ≤ N i j) :
    ∀ i j, upd2 (colM (srow (edges (L.take q)) N) (srow (edges (L.take (q + 1))) N) J) B J (min (srow (edges (L.take q)) N B J) (c + N J J)) i j =
      colM (srow (edges (L.take q)) N) (srow (edges (L.take (q + 1))) N) (J + 1) i j := by
  have hsub : ∀ u v c, (u, v, c) ∈ edges (L.take q) → 0 ≤ c := fun u v c he => by
    obtain ⟨x, hx, hxe⟩ := mem_edges.1 he
    exact hE u v c (mem_edges.2 ⟨x, List.mem_of_mem_take hx, hxe⟩)
  refine colM_next (fun i => ?_) (fun i j hj => ?_)
  · rw [upd2_at, srow_next h N hAB, colM_here]
    by_cases hA : i = J
    · subst hA
      rw [if_neg (fun e => hAB e.1), if_pos rfl, srow_diag hsub hN]
      have := hN B i
      omega
    · rw [if_neg hA]
      by_cases hB : i = B
      · subst hB; rw [if_pos ⟨rfl, rfl⟩, if_pos rfl]
      · rw [if_neg (fun e => hB e.1), if_neg hB]
  · rw [upd2_at, if_neg (fun e => hj e.2)]
theorem col_first {L : List Lnk} {q A J : Nat} {c : Int} (h : L[q]? = some ((A : Int), (J : Int), c)) {N : Nat → Nat → Int} (hAB : A ≠ J) (hE : ∀ u v c, (u, v, c) ∈ edges L → 0 ≤ c) (hc : 0 ≤ c) (hN : ∀ i j, 0 ≤ N i j) :
    ∀ i j, upd2 (colM (srow (edges (L.take q)) N) (srow (edges (L.take (q + 1))) N) J) A J (min (srow (edges (L.take q)) N A J) (c + N J J)) i j =
      colM (srow (edges (L.take q)) N) (srow (edges (L.take (q + 1))) N) (J + 1) i j := by
  have hsub : ∀ u v c, (u, v, c) ∈ edges (L.take q) → 0 ≤ c := fun u v c he => by
    obtain ⟨x, hx, hxe⟩ := mem_edges.1 he
    exact hE u v c (mem_edges.2 ⟨x, List.mem_of_mem_take hx, hxe⟩)
  refine colM_next (fun i => ?_) (fun i j hj => ?_)
  · rw [upd2_at, srow_next h N hAB, colM_here]
    by_cases hA : i = A
    · subst hA; rw [if_pos ⟨rfl, rfl⟩, if_pos rfl]
    · rw [if_neg (fun e => hA e.1), if_neg hA]
      by_cases hB : i = J
      · subst hB
        rw [if_pos rfl, srow_diag hsub hN]
        have := hN A i
        omega
      · rw [if_neg hB]
  · rw [upd2_at, if_neg (fun e => hj e.2)]
end Go.Proofs.Ytnmddgjgmdegoaa
