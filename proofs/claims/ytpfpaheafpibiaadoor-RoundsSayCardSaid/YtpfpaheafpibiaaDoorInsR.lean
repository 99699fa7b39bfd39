/- slices.insertionSortCmpFunc at rounds.item: a part of a row, put in order. -/
import Derived.Test.YtpfpaheafpibiaaDoorRotR
import Derived.BigQuiet
namespace Go.Proofs.YtpfpaheafpibiaaDoor
open Go.RowKit
set_option linter.unusedVariables false
set_option linter.unusedSimpArgs false
set_option maxRecDepth 100000

abbrev cmpV : Value := .func (Fn.func 19) #[] #[]
theorem itcmp_agg (x y : Itm) (w : World) :
    Calls Tryd.prog 19 #[.agg #[.int .i64 x.1, .int .i64 x.2.1, .int .i64 x.2.2.1, .int .i64 x.2.2.2], .agg #[.int .i64 y.1, .int .i64 y.2.1, .int .i64 y.2.2.1, .int .i64 y.2.2.2]] w fun e w' => e = .returned (.int .i64 (cmpT x y)) ∧ Below w.heap.size w w' := itcmp_any x y w
/-- Two neighbours are exchanged. -/
theorem nb_form {P S1 S2 T R : List Itm} {y z : Itm} : (P ++ (S1 ++ [y]) ++ z :: S2 ++ T ++ R)[P.length + S1.length]? = some y ∧ (P ++ (S1 ++ [y]) ++ z :: S2 ++ T ++ R)[P.length + S1.length + 1]? = some z ∧
    ((P ++ (S1 ++ [y]) ++ z :: S2 ++ T ++ R).set (P.length + S1.length + 1) y).set (P.length + S1.length) z = P ++ S1 ++ z :: (y :: S2) ++ T ++ R := by
  have l1 : (P ++ S1).length = P.length + S1.length := List.length_append
  have l2 : (P ++ S1 ++ [y]).length = P.length + S1.length + 1 := by simp only [List.length_append, List.length_singleton]
  have e : P ++ (S1 ++ [y]) ++ z :: S2 ++ T ++ R = (P ++ S1) ++ y :: [] ++ z :: (S2 ++ T ++ R) := by simp
  have e2 : P ++ S1 ++ z :: (y :: S2) ++ T ++ R = (P ++ S1) ++ z :: [] ++ y :: (S2 ++ T ++ R) := by simp
  rw [e, e2]
  refine ⟨?_, ?_, ?_⟩
  · have := at_app (P ++ S1) y (z :: (S2 ++ T ++ R))
    rw [l1] at this
    rw [show P ++ S1 ++ y :: [] ++ z :: (S2 ++ T ++ R) = P ++ S1 ++ y :: (z :: (S2 ++ T ++ R)) by simp]
    exact this
  · have := at_app (P ++ S1 ++ [y]) z (S2 ++ T ++ R)
    rw [l2] at this
    rw [show P ++ S1 ++ y :: [] ++ z :: (S2 ++ T ++ R) = P ++ S1 ++ [y] ++ z :: (S2 ++ T ++ R) from rfl]
    exact this
  · have := set_swap (P ++ S1) [] (S2 ++ T ++ R) y z
    rw [l1] at this
    simp only [List.length_nil, Nat.add_zero] at this
    rw [List.set_comm _ _ (by omega)]
    exact this
set_option maxHeartbeats 4000000 in
theorem insR_any (B g off N cap : Nat) (P S R : List Itm) (a b : Nat) (F : List Ent) (w : World) (hX : (P ++ S ++ R).length = N) (hN : N ≤ 1000) (ha : a = P.length) (hb : b = P.length + S.length) (hB : B ≤ w.heap.size) (hsep : Sep B w (itN g off N cap (P ++ S ++ R) :: F)) :
    Calls Tryd.prog 30 #[.slice (some ⟨g, off, none⟩) N cap, .int .i64 a, .int .i64 b, cmpV] w fun e w' => e = .returned (.tuple #[]) ∧ (∃ S', S'.Perm S ∧ Srt S' ∧ Sep B w' (itN g off N cap (P ++ S' ++ R) :: F)) ∧ Below B w w' := by
  have hX2 : P.length + S.length + R.length = N := by rw [← hX]; simp only [List.length_append]
  have haN : a ≤ 1000 := by omega
  have hbN : b ≤ 1000 := by omega
  cases S with
  | nil =>
    have hab : decide ((a : Int) + 1 < (b : Int)) = false := decide_eq_false (by simp at hb; omega)
    have HS := Lib.hid hsep
    clear hsep hX hX2 ha hb
    go_enter Tryd.func30, Tryd.ntmps30
    go_wp2
    go_loopg [8] 0 (fun gk iv wr => iv = .int .i64 ((a : Int) + 1) ∧ wr = w)
    case atStart => exact ⟨by go_num, rfl⟩
    case round =>
      obtain ⟨rfl, hwx⟩ := hrel
      subst hwx
      go_wp2
      go_end0
      exact ⟨rfl, ⟨[], List.Perm.refl _, List.Pairwise.nil, HS.out⟩, Below.refl _ _⟩
  | cons s0 S0 =>
    simp only [List.length_cons] at hb hX2
    have HS0 := Lib.hid hsep
    have HAe := Lib.hid ha
    have HX2 := Lib.hid hX2
    have HBe := Lib.hid hb
    clear hsep hX hX2 ha hb
    go_enter Tryd.func30, Tryd.ntmps30
    go_wp2
    go_loopg [8] S0.length (fun gk iv wr => ∃ (i : Nat) (S' T : List Itm), gk = T.length ∧ iv = .int .i64 i ∧ i = a + S'.length ∧ (S' ++ T).Perm (s0 :: S0) ∧ Srt S' ∧ Sep B wr (itN g off N cap (P ++ S' ++ T ++ R) :: F) ∧ Below B w wr)
    case atStart => exact ⟨a + 1, [s0], S0, rfl, by go_num, rfl, List.Perm.refl _, List.pairwise_singleton _ _, by have := HS0.out; simpa using this, Below.refl _ _⟩
    case round =>
      obtain ⟨gi, hgi0⟩ : ∃ gi, gi = gk := ⟨_, rfl⟩
      obtain ⟨i, S', T, hgk, rfl, hi, hp, hst, hs, hbl⟩ := hrel
      have hpl := hp.length_eq
      simp only [List.length_append, List.length_cons] at hpl
      have hX2 := HX2.out
      have hbe := HBe.out
      have hae := HAe.out
      have hiN : i ≤ 1000 := by omega
      have HP := Lib.hid hp
      have HST := Lib.hid hst
      have HS1 := Lib.hid hs
      have HB1 := Lib.hid hbl
      clear hp hst hs hbl HS0
      cases T with
      | nil =>
        simp only [List.length_nil] at hgk hpl
        have hib : decide ((i : Int) < (b : Int)) = false := decide_eq_false (by omega)
        have hibN : decide (i < b) = false := decide_eq_false (by omega)
        have hs9 := HS1.out
        have hp9 := HP.out
        rw [List.append_nil] at hs9 hp9
        have HS9 := Lib.hid hs9
        have HP9 := Lib.hid hp9
        clear hs9 hp9 hgk hi hpl hX2 hbe hae hgi0
        go_wp2
        go_end0
        exact ⟨rfl, ⟨S', HP9.out, HST.out, HS9.out⟩, HB1.out⟩
      | cons z T =>
        simp only [List.length_cons] at hgk hpl
        have hib : (i : Int) < (b : Int) := by omega
        have HI := Lib.hid hi
        have HGK := Lib.hid hgk
        have HPL := Lib.hid hpl
        clear hgk hi hpl hX2 hbe hae hgi0
        go_wp2
        go_loopg [9] S'.length (fun gk jv wr => ∃ (j : Nat) (S1 S2 : List Itm), gk = S1.length ∧ jv = .int .i64 j ∧ j = a + S1.length ∧ S1 ++ S2 = S' ∧ (∀ y ∈ S2, ltI z y) ∧ Sep B wr (itN g off N cap (P ++ S1 ++ z :: S2 ++ T ++ R) :: F) ∧ Below B w wr)
        case atStart => exact ⟨i, S', [], rfl, rfl, HI.out, List.append_nil _, by simp, by have := HS1.out; simpa using this, HB1.out⟩
        case round =>
          obtain ⟨gj, hgj0⟩ : ∃ gj, gj = gk := ⟨_, rfl⟩
          obtain ⟨j, S1, S2, hgk, rfl, hj, h12, hlt, hs, hbl⟩ := hrel
          have HS2 := Lib.hid hs
          have HB2 := Lib.hid hbl
          have HLT := Lib.hid hlt
          have H12 := Lib.hid h12
          have hgw : B ≤ wr.heap.size := Nat.le_trans hB hbl.size
          clear hs hbl hlt h12 HS1 HB1
          rcases List.eq_nil_or_concat S1 with h0 | ⟨S1', y, h1⟩
          · subst h0
            simp only [List.length_nil, Nat.add_zero] at hj
            have hja : decide ((a : Int) < (j : Int)) = false := decide_eq_false (by omega)
            have hjaN : decide (a < j) = false := decide_eq_false (by omega)
            have hs9 : Sep B wr (itN g off N cap (P ++ (z :: S2) ++ T ++ R) :: F) := by have := HS2.out; simpa using this
            have hso : Srt (z :: S2) := ins_done (S1 := []) (by have := HST.out; rw [← H12.out] at this; exact this) HLT.out (by simp)
            have hpe : ((z :: S2) ++ T).Perm (s0 :: S0) := by
              have h1 := HP.out
              rw [← H12.out, List.nil_append] at h1
              exact (List.perm_middle (l₁ := S2) (l₂ := T) (a := z)).symm.trans h1
            have hil : i + 1 = a + (z :: S2).length := by rw [HI.out, ← H12.out]; simp; omega
            have HS9 := Lib.hid hs9
            have HSO := Lib.hid hso
            have HPE := Lib.hid hpe
            have HIL := Lib.hid hil
            have HB9 := Lib.hid HB2.out
            have HGG := Lib.hid hgk
            clear hs9 hso hpe hil hj hgk hgj0 HS2
            go_upto_region 4 with fail
            go_quiet (fail)
            have HS10 := Lib.hid (HS9.out.drewN nq)
            have HB10 := Lib.hid (HB9.out.trans (below_drewN B wr nq))
            generalize wr.drewN nq = wn at *
            go_wp2
            go_roundg T.length
            case measure => have := HGK.out; omega
            case rel => exact ⟨i + 1, z :: S2, T, rfl, by go_num, HIL.out, HPE.out, HSO.out, HS10.out, HB10.out⟩
          · rw [List.concat_eq_append] at h1
            subst h1
            simp only [List.length_append, List.length_singleton] at hj hgk
            have hja : decide ((a : Int) < (j : Int)) = true := decide_eq_true (by omega)
            have hjaI : (a : Int) < (j : Int) := by omega
            obtain ⟨g1, g2, g3⟩ := nb_form (P := P) (S1 := S1') (S2 := S2) (T := T) (R := R) (y := y) (z := z)
            have hlen : (P ++ (S1' ++ [y]) ++ z :: S2 ++ T ++ R).length = N := by
              have h1 := HX2.out; have h2 := HPL.out; have h3 := congrArg List.length H12.out
              simp only [List.length_append, List.length_cons, List.length_nil] at h3 ⊢; omega
            obtain ⟨q, hq⟩ : ∃ q, q = P.length + S1'.length := ⟨_, rfl⟩
            rw [← hq] at g1 g2 g3
            have hjq : j = q + 1 := by rw [hj, HAe.out, hq]; omega
            rw [← hjq] at g2 g3
            have hqN : q < N := by have := (List.getElem?_eq_some_iff.1 g1).1; omega
            have hjN : j < N := by have := (List.getElem?_eq_some_iff.1 g2).1; omega
            have hqI : (j : Int) - 1 = (q : Int) := by omega
            have hjl : (j : Int) < (N : Int) := by omega
            have hql : (q : Int) < (N : Int) := by omega
            have hj0 : (0 : Int) ≤ (j : Int) := by omega
            have hq0 : (0 : Int) ≤ (q : Int) := by omega
            have hqw : IntKind.i64.wrap (q : Int) = (q : Int) := by simp [IntKind.wrap, IntKind.bits, IntKind.signed]; omega
            have hne : j ≠ q := by omega
            have HLEN := Lib.hid hlen
            have HG1 := Lib.hid g1
            have HG2 := Lib.hid g2
            have HG3 := Lib.hid g3
            have HJQ := Lib.hid hjq
            have HJ := Lib.hid hj
            have HGG := Lib.hid hgk
            have HQ := Lib.hid hq
            have HNE := Lib.hid hne
            have hcell : ∀ w' : World, Below wr.heap.size wr w' → Sep B w' (itN g off N cap (P ++ (S1' ++ [y]) ++ z :: S2 ++ T ++ R) :: F) := fun w' h => HS2.out.kept h
            have HKEEP := Lib.hid hcell
            have hfacts : ∀ w' : World, Below wr.heap.size wr w' → Below wr.heap.size wr w' ∧ (w'.cell? ⟨g, off + j * 4, none⟩ = some (.int .i64 z.1) ∧ w'.cell? ⟨g, off + j * 4 + 1, none⟩ = some (.int .i64 z.2.1) ∧ w'.cell? ⟨g, off + j * 4 + 2, none⟩ = some (.int .i64 z.2.2.1) ∧ w'.cell? ⟨g, off + j * 4 + 3, none⟩ = some (.int .i64 z.2.2.2)) ∧
                (w'.cell? ⟨g, off + q * 4, none⟩ = some (.int .i64 y.1) ∧ w'.cell? ⟨g, off + q * 4 + 1, none⟩ = some (.int .i64 y.2.1) ∧ w'.cell? ⟨g, off + q * 4 + 2, none⟩ = some (.int .i64 y.2.2.1) ∧ w'.cell? ⟨g, off + q * 4 + 3, none⟩ = some (.int .i64 y.2.2.2)) := fun w' h =>
              ⟨h, (itN_at (A := []) (HKEEP.out w' h) HLEN.out HG2.out).2.1, (itN_at (A := []) (HKEEP.out w' h) HLEN.out HG1.out).2.1⟩
            have HFA := Lib.hid hfacts
            obtain ⟨cv, hcv⟩ : ∃ cv, cv = cmpT z y := ⟨_, rfl⟩
            have hcd := cmpT_lt z y
            rw [← hcv] at hcd
            have HCV := Lib.hid hcv
            have HCD := Lib.hid hcd
            clear hlen g1 g2 g3 hjq hj hgk hgj0 hq hcell hfacts hcv hcd hne
            go_upto_region 4 with fail
            refine wp_region_held_drew (S := fun w' => Below wr.heap.size wr w' ∧ (w'.cell? ⟨g, off + j * 4, none⟩ = some (.int .i64 z.1) ∧ w'.cell? ⟨g, off + j * 4 + 1, none⟩ = some (.int .i64 z.2.1) ∧ w'.cell? ⟨g, off + j * 4 + 2, none⟩ = some (.int .i64 z.2.2.1) ∧ w'.cell? ⟨g, off + j * 4 + 3, none⟩ = some (.int .i64 z.2.2.2)) ∧
                (w'.cell? ⟨g, off + q * 4, none⟩ = some (.int .i64 y.1) ∧ w'.cell? ⟨g, off + q * 4 + 1, none⟩ = some (.int .i64 y.2.1) ∧ w'.cell? ⟨g, off + q * 4 + 2, none⟩ = some (.int .i64 y.2.2.1) ∧ w'.cell? ⟨g, off + q * 4 + 3, none⟩ = some (.int .i64 y.2.2.2))) (by kernel_rfl) ?hS0 (fun hHeld => ?start0)
            case hS0 => exact HFA.out _ (below_drew _ _)
            refine wpAnyH_take (i := 0) (v := ?va0) rfl (by kernel_rfl) (by kernel_rfl) (by kernel_rfl) (fun _ _ _ h => h) (Or.inl ⟨by rfl, ?hya0⟩) (by assumption) ?resta0
            case hya0 =>
              intro w hSw
              try dsimp only at hSw
              go_simp
              try with_reducible rfl
            try simp only [Act.put, List.setIfInBounds_toArray, List.set_cons_zero, List.set_cons_succ, List.getElem_toArray, List.getElem_cons_zero]
            refine wpAnyH_take (i := 1) (v := ?va1) rfl (by kernel_rfl) (by kernel_rfl) (by kernel_rfl) (fun _ _ _ h => h) (Or.inl ⟨by rfl, ?hya1⟩) (by assumption) ?resta1
            case hya1 =>
              intro w hSw
              try dsimp only at hSw
              go_simp
              try with_reducible rfl
            try simp only [Act.put, List.setIfInBounds_toArray, List.set_cons_zero, List.set_cons_succ, List.getElem_toArray, List.getElem_cons_zero, List.getElem_cons_succ]
            refine wpAnyH_take (i := 2) (v := ?va2) rfl (by kernel_rfl) (by kernel_rfl) (by kernel_rfl) (fun _ _ _ h => h) (Or.inl ⟨by rfl, ?hya2⟩) (by assumption) ?resta2
            case hya2 =>
              intro w hSw
              try dsimp only at hSw
              go_simp
              try with_reducible rfl
            try simp only [Act.put, List.setIfInBounds_toArray, List.set_cons_zero, List.set_cons_succ, List.getElem_toArray, List.getElem_cons_zero, List.getElem_cons_succ]
            refine wpAnyH_take (i := 3) (v := ?va3) rfl (by kernel_rfl) (by kernel_rfl) (by kernel_rfl) (fun _ _ _ h => h) (Or.inl ⟨by rfl, ?hya3⟩) (by assumption) ?resta3
            case hya3 =>
              intro w hSw
              try dsimp only at hSw
              go_simp
              try with_reducible rfl
            try simp only [Act.put, List.setIfInBounds_toArray, List.set_cons_zero, List.set_cons_succ, List.getElem_toArray, List.getElem_cons_zero, List.getElem_cons_succ]
            refine wpAnyH_take (i := 4) (v := ?va4) rfl (by kernel_rfl) (by kernel_rfl) (by kernel_rfl) (fun _ _ _ h => h) (Or.inl ⟨by rfl, ?hya4⟩) (by assumption) ?resta4
            case hya4 =>
              intro w hSw
              try dsimp only at hSw
              go_simp
              try with_reducible rfl
            try simp only [Act.put, List.setIfInBounds_toArray, List.set_cons_zero, List.set_cons_succ, List.getElem_toArray, List.getElem_cons_zero, List.getElem_cons_succ]
            refine wpAnyH_take (i := 5) (v := ?va5) rfl (by kernel_rfl) (by kernel_rfl) (by kernel_rfl) (fun _ _ _ h => h) (Or.inl ⟨by rfl, ?hya5⟩) (by assumption) ?resta5
            case hya5 =>
              intro w hSw
              try dsimp only at hSw
              go_simp
              try with_reducible rfl
            try simp only [Act.put, List.setIfInBounds_toArray, List.set_cons_zero, List.set_cons_succ, List.getElem_toArray, List.getElem_cons_zero, List.getElem_cons_succ]
            refine wpAnyH_take (i := 6) (v := ?va6) rfl (by kernel_rfl) (by kernel_rfl) (by kernel_rfl) (fun _ _ _ h => h) (Or.inl ⟨by rfl, ?hya6⟩) (by assumption) ?resta6
            case hya6 =>
              intro w hSw
              try dsimp only at hSw
              go_simp
              try with_reducible rfl
            try simp only [Act.put, List.setIfInBounds_toArray, List.set_cons_zero, List.set_cons_succ, List.getElem_toArray, List.getElem_cons_zero, List.getElem_cons_succ]
            refine wpAnyH_take (i := 7) (v := ?va7) rfl (by kernel_rfl) (by kernel_rfl) (by kernel_rfl) (fun _ _ _ h => h) (Or.inl ⟨by rfl, ?hya7⟩) (by assumption) ?resta7
            case hya7 =>
              intro w hSw
              try dsimp only at hSw
              go_simp
              try with_reducible rfl
            try simp only [Act.put, List.setIfInBounds_toArray, List.set_cons_zero, List.set_cons_succ, List.getElem_toArray, List.getElem_cons_zero, List.getElem_cons_succ]
            refine wpAnyH_take (i := 8) (v := ?va8) rfl (by kernel_rfl) (by kernel_rfl) (by kernel_rfl) (fun _ _ _ h => h) (Or.inl ⟨by rfl, ?hya8⟩) (by assumption) ?resta8
            case hya8 =>
              intro w hSw
              try dsimp only at hSw
              go_simp
              try with_reducible rfl
            try simp only [Act.put, List.setIfInBounds_toArray, List.set_cons_zero, List.set_cons_succ, List.getElem_toArray, List.getElem_cons_zero, List.getElem_cons_succ]
            refine wpAnyH_take (i := 9) (v := ?va9) rfl (by kernel_rfl) (by kernel_rfl) (by kernel_rfl) (fun _ _ _ h => h) (Or.inl ⟨by rfl, ?hya9⟩) (by assumption) ?resta9
            case hya9 =>
              intro w hSw
              try dsimp only at hSw
              go_simp
              try with_reducible rfl
            try simp only [Act.put, List.setIfInBounds_toArray, List.set_cons_zero, List.set_cons_succ, List.getElem_toArray, List.getElem_cons_zero, List.getElem_cons_succ]
            refine wpAnyH_take (i := 10) (v := ?va10) rfl (by kernel_rfl) (by kernel_rfl) (by kernel_rfl) (fun _ _ _ h => h) (Or.inl ⟨by rfl, ?hya10⟩) (by assumption) ?resta10
            case hya10 =>
              intro w hSw
              try dsimp only at hSw
              go_simp
              try with_reducible rfl
            try simp only [Act.put, List.setIfInBounds_toArray, List.set_cons_zero, List.set_cons_succ, List.getElem_toArray, List.getElem_cons_zero, List.getElem_cons_succ]
            refine wpAnyH_take (i := 11) (v := ?va11) rfl (by kernel_rfl) (by kernel_rfl) (by kernel_rfl) (fun _ _ _ h => h) (Or.inl ⟨by rfl, ?hya11⟩) (by assumption) ?resta11
            case hya11 =>
              intro w hSw
              try dsimp only at hSw
              go_simp
              try with_reducible rfl
            try simp only [Act.put, List.setIfInBounds_toArray, List.set_cons_zero, List.set_cons_succ, List.getElem_toArray, List.getElem_cons_zero, List.getElem_cons_succ]
            refine wpAnyH_take (i := 12) (v := ?va12) rfl (by kernel_rfl) (by kernel_rfl) (by kernel_rfl) (fun _ _ _ h => h) (Or.inl ⟨by rfl, ?hya12⟩) (by assumption) ?resta12
            case hya12 =>
              intro w hSw
              try dsimp only at hSw
              go_simp
              try with_reducible rfl
            try simp only [Act.put, List.setIfInBounds_toArray, List.set_cons_zero, List.set_cons_succ, List.getElem_toArray, List.getElem_cons_zero, List.getElem_cons_succ]
            refine wpAnyH_take (i := 13) (v := ?va13) rfl (by kernel_rfl) (by kernel_rfl) (by kernel_rfl) (fun _ _ _ h => h) (Or.inl ⟨by rfl, ?hya13⟩) (by assumption) ?resta13
            case hya13 =>
              intro w hSw
              try dsimp only at hSw
              go_simp
              try with_reducible rfl
            try simp only [Act.put, List.setIfInBounds_toArray, List.set_cons_zero, List.set_cons_succ, List.getElem_toArray, List.getElem_cons_zero, List.getElem_cons_succ]
            refine wpAnyH_ready (rs := [14]) (by kernel_rfl) (by simp) ?_
            refine AllReadyH.cons rfl (fun K hK => ?_) AllReadyH.nil
            go_simp
            refine (itcmp_agg z y _).mono ?_
            rintro e w3 ⟨rfl, hb⟩
            rw [← HCV.out]
            have hb3 : Below wr.heap.size wr w3 := (below_drew _ _).trans hb
            have HB3 := Lib.hid hb3
            have HKa := Lib.hid (HFA.out _ hb3)
            clear hb hb3
            go_wp2_with fail
            refine hK.out _ _ ?_ (fun hHeldb0 => ?_)
            · exact HKa.out
            clear hK K
            try simp only [Act.put, List.setIfInBounds_toArray, List.set_cons_zero, List.set_cons_succ, List.getElem_toArray, List.getElem_cons_zero, List.getElem_cons_succ]
            refine wpAnyH_take (i := 15) (v := ?vb15) rfl (by kernel_rfl) (by kernel_rfl) (by kernel_rfl) (fun _ _ _ h => h) (Or.inl ⟨by rfl, ?hyb15⟩) (by assumption) ?restb15
            case hyb15 =>
              intro w hSw
              try dsimp only at hSw
              go_simp
              try with_reducible rfl
            try simp only [Act.put, List.setIfInBounds_toArray, List.set_cons_zero, List.set_cons_succ, List.getElem_toArray, List.getElem_cons_zero, List.getElem_cons_succ]
            refine wpAnyH_take (i := 16) (v := ?vb16) rfl (by kernel_rfl) (by kernel_rfl) (by kernel_rfl) (fun _ _ _ h => h) (Or.inl ⟨by rfl, ?hyb16⟩) (by assumption) ?restb16
            case hyb16 =>
              intro w hSw
              try dsimp only at hSw
              go_simp
              try with_reducible rfl
            try simp only [Act.put, List.setIfInBounds_toArray, List.set_cons_zero, List.set_cons_succ, List.getElem_toArray, List.getElem_cons_zero, List.getElem_cons_succ]
            refine wpAnyH_done (by kernel_rfl) ?_ _
            have HS3 := Lib.hid (HKEEP.out _ HB3.out)
            have HB4 := Lib.hid (HB2.out.trans (HB3.out.mono hgw))
            obtain ⟨-, ⟨c0, c1, c2, c3⟩, ⟨d0, d1, d2, d3⟩⟩ := HKa.out
            by_cases hzy : ltI z y
            · have hcd : decide (cv < 0) = true := by rw [HCD.out]; exact decide_eq_true hzy
              have hcn : cv < 0 := by simpa using hcd
              have hfz := (itN_at (A := []) HS3.out HLEN.out HG2.out).2.2
              have hBg := (itN_at (A := []) HS3.out HLEN.out HG2.out).1
              have s1 := itN_put (A := []) HS3.out HLEN.out hjN y
              have s2 := itN_put (A := []) s1 (by rw [List.length_set]; exact HLEN.out) hqN z
              obtain ⟨-, ⟨e0, e1, e2, e3⟩, ef⟩ := itN_at (A := []) s1 (by rw [List.length_set]; exact HLEN.out) (show ((P ++ (S1' ++ [y]) ++ z :: S2 ++ T ++ R).set j y)[q]? = some y by rw [List.getElem?_set_ne HNE.out]; exact HG1.out)
              rw [HG3.out] at s2
              have b2 := put_below (put_below HB4.out hBg y (o := off + j * 4)) hBg z (o := off + q * 4)
              unfold putIt at s2 b2 e0 e1 e2 e3 ef
              have HS5 := Lib.hid s2.drew
              have HB5 := Lib.hid b2.drew
              have hlt2 : ∀ u ∈ y :: S2, ltI z u := fun u hu => by
                rcases List.mem_cons.1 hu with rfl | hu
                · exact hzy
                · exact HLT.out u hu
              have HLT2 := Lib.hid hlt2
              have h12' : S1' ++ y :: S2 = S' := by rw [← H12.out]; simp
              have H12' := Lib.hid h12'
              have HGJ : Hid (q = a + S1'.length) := Lib.hid (by rw [HQ.out, HAe.out])
              clear s1 s2 b2 hlt2 h12' hzy HS2 HB2 HKa
              go_wp2_with fail
              go_region
              all_goals
                go_wp2
                go_roundg S1'.length
                case measure => have := HGG.out; omega
                case rel => exact ⟨q, S1', y :: S2, rfl, by go_num, HGJ.out, H12'.out, HLT2.out, HS5.out, HB5.out⟩
            · have hcd : decide (cv < 0) = false := by rw [HCD.out]; exact decide_eq_false hzy
              have hcn : ¬ cv < 0 := by simpa using hcd
              have hso : Srt ((S1' ++ [y]) ++ z :: S2) := by
                have h1 := HST.out
                rw [← H12.out] at h1
                exact ins_done h1 HLT.out (Srt.last (Srt.app.1 h1).1 hzy)
              have hpe : (((S1' ++ [y]) ++ z :: S2) ++ T).Perm (s0 :: S0) := by
                have h1 := HP.out
                rw [← H12.out] at h1
                refine List.Perm.trans ?_ h1
                have e1 : S1' ++ [y] ++ z :: S2 ++ T = (S1' ++ [y]) ++ (z :: S2 ++ T) := by simp
                have e2 : S1' ++ [y] ++ S2 ++ z :: T = (S1' ++ [y]) ++ (S2 ++ z :: T) := by simp
                rw [e1, e2]
                exact (List.perm_middle (l₁ := S2) (l₂ := T) (a := z)).symm.append_left _
              have hil : i + 1 = a + ((S1' ++ [y]) ++ z :: S2).length := by rw [HI.out, ← H12.out]; simp; omega
              have HSO := Lib.hid hso
              have HPE := Lib.hid hpe
              have HIL := Lib.hid hil
              have HS6 : Hid (Sep B w3 (itN g off N cap (P ++ ((S1' ++ [y]) ++ z :: S2) ++ T ++ R) :: F)) := Lib.hid (by have := HS3.out; simpa using this)
              clear hso hpe hil hzy c0 c1 c2 c3 d0 d1 d2 d3 HS2 HB2 HKa HS3
              go_wp2
              go_roundg T.length
              case measure => have := HGK.out; omega
              case rel => exact ⟨i + 1, (S1' ++ [y]) ++ z :: S2, T, rfl, by go_num, HIL.out, HPE.out, HSO.out, HS6.out, HB4.out⟩
end Go.Proofs.YtpfpaheafpibiaaDoor
