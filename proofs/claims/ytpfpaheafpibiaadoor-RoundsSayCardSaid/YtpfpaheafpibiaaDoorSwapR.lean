/- slices.swapRangeCmpFunc and slices.rotateCmpFunc at rounds.item. -/
import Derived.Test.YtpfpaheafpibiaaDoorCmpIt
import Derived.Deep.LoopGhost
import Derived.BigRegion
namespace Go.Proofs.YtpfpaheafpibiaaDoor
open Go.RowKit
set_option linter.unusedVariables false
set_option maxRecDepth 100000

abbrev itN (g off N cap : Nat) (X : List Itm) : Ent := Ent.row (.slice (some ⟨g, off, none⟩) N cap) N 4 42 (X.flatMap itC)
section
variable {B : Nat} {w : World} {A C : List Ent} {X : List Itm} {g off N cap i : Nat} {x : Itm}
theorem itN_at (h : Sep B w (A ++ itN g off N cap X :: C)) (hN : X.length = N) (hx : X[i]? = some x) : B ≤ g ∧
    (w.cell? ⟨g, off + i * 4, none⟩ = some (.int .i64 x.1) ∧ w.cell? ⟨g, off + i * 4 + 1, none⟩ = some (.int .i64 x.2.1) ∧ w.cell? ⟨g, off + i * 4 + 2, none⟩ = some (.int .i64 x.2.2.1) ∧ w.cell? ⟨g, off + i * 4 + 3, none⟩ = some (.int .i64 x.2.2.2)) ∧ ∀ j, w.frozen? ⟨g, j, none⟩ = false := by
  subst hN
  obtain ⟨g', o', he, h1, h2, h3⟩ := it_at h hx
  simp only [Option.some.injEq, Addr.mk.injEq, and_true] at he
  obtain ⟨rfl, rfl⟩ := he
  exact ⟨h1, h2, h3⟩
theorem itN_put (h : Sep B w (A ++ itN g off N cap X :: C)) (hN : X.length = N) (hi : i < N) (y : Itm) : Sep B (putIt w g (off + i * 4) y) (A ++ itN g off N cap (X.set i y) :: C) := by
  subst hN
  have := it_put h hi y
  unfold itE at this
  rw [List.length_set] at this
  exact this
end
/-- Two rows, exchanged as far as k. -/
def swK (P U M V R : List Itm) (k : Nat) : List Itm := P ++ (V.take k ++ U.drop k) ++ M ++ (U.take k ++ V.drop k) ++ R
theorem swK_len {P U M V R : List Itm} (hl : U.length = V.length) (k : Nat) : (swK P U M V R k).length = (P ++ U ++ M ++ V ++ R).length := by
  unfold swK; simp; omega
theorem swK_form {P U M V R : List Itm} {k : Nat} {x y : Itm} (hl : U.length = V.length) (hx : U[k]? = some x) (hy : V[k]? = some y) :
    swK P U M V R k = (P ++ V.take k) ++ x :: (U.drop (k + 1) ++ M ++ U.take k) ++ y :: (V.drop (k + 1) ++ R) ∧ swK P U M V R (k + 1) = (P ++ V.take k) ++ y :: (U.drop (k + 1) ++ M ++ U.take k) ++ x :: (V.drop (k + 1) ++ R) := by
  obtain ⟨hk, rfl⟩ := List.getElem?_eq_some_iff.1 hx
  obtain ⟨hk2, rfl⟩ := List.getElem?_eq_some_iff.1 hy
  unfold swK
  constructor
  · rw [List.drop_eq_getElem_cons hk, List.drop_eq_getElem_cons hk2]
    simp only [List.append_assoc, List.cons_append]
  · rw [show V.take (k + 1) = V.take k ++ [V[k]] by rw [List.take_add_one, hy]; rfl, show U.take (k + 1) = U.take k ++ [U[k]] by rw [List.take_add_one, hx]; rfl]
    simp only [List.append_assoc, List.cons_append, List.nil_append]
theorem swK_step {P U M V R : List Itm} {k : Nat} {x y : Itm} (hl : U.length = V.length) (hx : U[k]? = some x) (hy : V[k]? = some y) :
    (swK P U M V R k)[P.length + k]? = some x ∧ (swK P U M V R k)[P.length + U.length + M.length + k]? = some y ∧ ((swK P U M V R k).set (P.length + k) y).set (P.length + U.length + M.length + k) x = swK P U M V R (k + 1) := by
  have hk := (List.getElem?_eq_some_iff.1 hx).1
  obtain ⟨e1, e2⟩ := swK_form (P := P) (M := M) (R := R) hl hx hy
  have l1 : (P ++ V.take k).length = P.length + k := by simp; omega
  have l2 : (P ++ V.take k).length + 1 + (U.drop (k + 1) ++ M ++ U.take k).length = P.length + U.length + M.length + k := by simp; omega
  have l3 : ((P ++ V.take k) ++ x :: (U.drop (k + 1) ++ M ++ U.take k)).length = P.length + U.length + M.length + k := by simp; omega
  rw [e1, e2]
  refine ⟨?_, ?_, ?_⟩
  · have := at_app (P ++ V.take k) x ((U.drop (k + 1) ++ M ++ U.take k) ++ y :: (V.drop (k + 1) ++ R))
    rw [l1] at this
    simpa using this
  · have := at_app ((P ++ V.take k) ++ x :: (U.drop (k + 1) ++ M ++ U.take k)) y (V.drop (k + 1) ++ R)
    rw [l3] at this
    exact this
  · have := set_swap (P ++ V.take k) (U.drop (k + 1) ++ M ++ U.take k) (V.drop (k + 1) ++ R) x y
    rw [l1] at this
    rw [show P.length + k + 1 + (U.drop (k + 1) ++ M ++ U.take k).length = P.length + U.length + M.length + k by rw [← l1]; exact l2] at this
    exact this
set_option maxHeartbeats 2000000 in
theorem swapR_any (B g off N cap : Nat) (P U M V R : List Itm) (a b n : Nat) (cv : Value) (F : List Ent) (w : World) (hX : (P ++ U ++ M ++ V ++ R).length = N) (hN : N ≤ 1000) (hl : U.length = V.length) (ha : a = P.length) (hb : b = P.length + U.length + M.length) (hn : n = U.length)
    (hsep : Sep B w (itN g off N cap (P ++ U ++ M ++ V ++ R) :: F)) :
    Calls Tryd.prog 36 #[.slice (some ⟨g, off, none⟩) N cap, .int .i64 a, .int .i64 b, .int .i64 n, cv] w fun e w' => e = .returned (.tuple #[]) ∧ Sep B w' (itN g off N cap (P ++ V ++ M ++ U ++ R) :: F) ∧ Below B w w' := by
  have hX2 : P.length + U.length + M.length + V.length + R.length = N := by rw [← hX]; simp only [List.length_append]
  have HS0 := Lib.hid (show Sep B w (itN g off N cap (swK P U M V R 0) :: F) by
    rw [show swK P U M V R 0 = P ++ U ++ M ++ V ++ R by simp [swK]]; exact hsep)
  have hnN : n ≤ 1000 := by omega
  have HAe := Lib.hid ha
  have HBe := Lib.hid hb
  have HNe := Lib.hid hn
  have HX := Lib.hid hX
  have HX2 := Lib.hid hX2
  have HL := Lib.hid hl
  clear hsep ha hb hn hX hX2 hl
  go_enter Tryd.func36, Tryd.ntmps36
  go_wp2
  go_loopg [10] n (fun gk iv wr => ∃ k : Nat, gk + k = n ∧ iv = .int .i64 k ∧ Sep B wr (itN g off N cap (swK P U M V R k) :: F) ∧ Below B w wr)
  case atStart => exact ⟨0, by omega, rfl, HS0.out, Below.refl _ _⟩
  case round =>
    obtain ⟨gi, rfl⟩ : ∃ gi, gi = gk := ⟨_, rfl⟩
    obtain ⟨k, hgi, rfl, hs, hbl⟩ := hrel
    have HS1 := Lib.hid hs
    have HB1 := Lib.hid hbl
    clear hs hbl HS0
    by_cases hlt : k < n
    · have hki : (k : Int) < (n : Int) := by omega
      obtain ⟨x, hx⟩ : ∃ x, U[k]? = some x := ⟨_, List.getElem?_eq_getElem (by rw [← HNe.out]; exact hlt)⟩
      obtain ⟨y, hy⟩ : ∃ y, V[k]? = some y := ⟨_, List.getElem?_eq_getElem (by rw [← HL.out, ← HNe.out]; exact hlt)⟩
      obtain ⟨g1, g2, g3⟩ := swK_step (P := P) (M := M) (R := R) HL.out hx hy
      have hlen : (swK P U M V R k).length = N := by rw [swK_len HL.out]; exact HX.out
      obtain ⟨pa, hpa⟩ : ∃ pa, pa = P.length + k := ⟨_, rfl⟩
      obtain ⟨pb, hpb⟩ : ∃ pb, pb = P.length + U.length + M.length + k := ⟨_, rfl⟩
      rw [← hpa] at g1 g3
      rw [← hpb] at g2 g3
      have hpaN : pa < N := by have := (List.getElem?_eq_some_iff.1 g1).1; omega
      have hpbN : pb < N := by have := (List.getElem?_eq_some_iff.1 g2).1; omega
      have hBg : B ≤ g := (itN_at (A := []) HS1.out hlen g1).1
      obtain ⟨-, ⟨c0, c1, c2, c3⟩, hf⟩ := itN_at (A := []) HS1.out hlen g1
      obtain ⟨-, ⟨d0, d1, d2, d3⟩, -⟩ := itN_at (A := []) HS1.out hlen g2
      have s1 := itN_put (A := []) HS1.out hlen hpaN y
      have s2 := itN_put (A := []) s1 (by rw [List.length_set]; exact hlen) hpbN x
      have hne : pa ≠ pb := by
        have := (List.getElem?_eq_some_iff.1 hx).1
        omega
      obtain ⟨-, ⟨e0, e1, e2, e3⟩, ef⟩ := itN_at (A := []) s1 (by rw [List.length_set]; exact hlen) (show ((swK P U M V R k).set pa y)[pb]? = some y by rw [List.getElem?_set_ne hne]; exact g2)
      unfold putIt at e0 e1 e2 e3 ef
      rw [g3] at s2
      have b2 := put_below (put_below HB1.out hBg y (o := off + pa * 4)) hBg x (o := off + pb * 4)
      unfold putIt at s2 b2
      have HS2 := Lib.hid s2.drew
      have HB2 := Lib.hid b2.drew
      have hpaI : (a : Int) + (k : Int) = (pa : Int) := by rw [HAe.out, hpa]; omega
      have hpbI : (b : Int) + (k : Int) = (pb : Int) := by rw [HBe.out, hpb]; omega
      have hpaL : (pa : Int) < (N : Int) := by omega
      have hpbL : (pb : Int) < (N : Int) := by omega
      have hpa0 : (0 : Int) ≤ (pa : Int) := by omega
      have hpb0 : (0 : Int) ≤ (pb : Int) := by omega
      clear s1 s2 b2 g1 g2 g3 hx hy hlen hpa hpb hlt hne
      go_upto_region 3 with fail
      go_region
      all_goals
        go_wp2
        go_roundg (gi - 1)
        case measure => omega
        case rel => exact ⟨k + 1, by omega, by go_num, HS2.out, HB2.out⟩
    · have hki : decide ((k : Int) < (n : Int)) = false := decide_eq_false (by omega)
      have hkn : k = n := by omega
      have hs9 := HS1.out
      rw [show swK P U M V R k = P ++ V ++ M ++ U ++ R by
        unfold swK
        rw [List.take_of_length_le (by rw [← HL.out, ← HNe.out]; omega), List.drop_of_length_le (l := U) (by rw [← HNe.out]; omega), List.take_of_length_le (l := U) (by rw [← HNe.out]; omega), List.drop_of_length_le (by rw [← HL.out, ← HNe.out]; omega)]
        simp] at hs9
      have HS9 := Lib.hid hs9
      clear hs9
      go_wp2
      go_end0
      exact ⟨rfl, HS9.out, HB1.out⟩
end Go.Proofs.YtpfpaheafpibiaaDoor
