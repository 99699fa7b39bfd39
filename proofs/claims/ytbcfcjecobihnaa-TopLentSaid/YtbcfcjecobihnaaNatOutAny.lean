/- nat: Out, whatever comes. -/
import Derived.Test.YtbcfcjecobihnaaNatOut
import Derived.Test.YtbcfcjecobihnaaStp
namespace Go.Proofs.Ytbcfcjecobihnaa
open Go.RowKit Go.Maps
set_option linter.unusedVariables false
set_option maxRecDepth 100000

theorem NatT.ok {B g : Nat} {low many : Int} {M : NatM} {F : List Ent} {w : World} (h : NatT B w g low many M F) : NatOk low many M := h.1
theorem natOut_any (B g : Nat) (low many : Int) (M : NatM) (F : List Ent) (p : Pl) (w : World) (h : NatT B w g low many M F) (hB : B ≤ w.heap.size) :
    Calls Try.prog 8 #[.pointer (some ⟨g, 0, none⟩), plV p] w fun e w' => e = .returned (.tuple #[.int .i64 (natOut low many M p).2.1, errV (natOut low many M p).2.2]) ∧ NatT B w' g low many (natOut low many M p).1 F ∧ Below B w w' := by
  by_cases hp : PlOk p
  · cases hq : portOf M p with
    | some q =>
      refine (natOut_has B g low many M F p q w h hp hq).mono ?_
      rintro e w' ⟨rfl, hb⟩
      have e1 : natOut low many M p = (M, q, 0) := by unfold natOut; rw [if_pos hp, hq]
      rw [e1]
      exact ⟨rfl, h.kept hb, hb.mono hB⟩
    | none =>
      refine (natOut_free B g low many M F p _ w h hB hp hq rfl).mono ?_
      rintro e w' ⟨h1, h2⟩
      cases hf : freeFrom M many.toNat low with
      | some q =>
        have e1 : natOut low many M p = (M ++ [(q, p)], q, 0) := by unfold natOut; rw [if_pos hp, hq]; simp only []; rw [hf]
        rw [e1]
        obtain ⟨rfl, h3, h4⟩ := h1 q hf
        exact ⟨rfl, h3, h4⟩
      | none =>
        have e1 : natOut low many M p = (M, 0, 4) := by unfold natOut; rw [if_pos hp, hq]; simp only []; rw [hf]
        rw [e1]
        obtain ⟨rfl, h3, h4⟩ := h2 hf
        exact ⟨rfl, h3, h4⟩
  · refine (natOut_bad B g low many M F p w h hp).mono ?_
    rintro e w' ⟨rfl, hb⟩
    have e1 : natOut low many M p = (M, 0, 1) := by unfold natOut; rw [if_neg hp]
    rw [e1]
    exact ⟨rfl, h.kept hb, hb.mono hB⟩
end Go.Proofs.Ytbcfcjecobihnaa
