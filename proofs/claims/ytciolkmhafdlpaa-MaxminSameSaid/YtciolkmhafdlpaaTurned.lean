/- ferryhythesame.Turned: the other way round. -/
import Derived.Test.YtciolkmhafdlpaaClone
import Derived.Test.YtciolkmhafdlpaaRws
import Derived.Deep.LoopGhost
namespace Go.Proofs.Ytciolkmhafdlpaa
open Go.RowKit
set_option linter.unusedVariables false

theorem rev_drop_step {α : Type} {xs : List α} {k : Nat} {x : α} (h : xs[k]? = some x) : (xs.drop k).reverse = (xs.drop (k + 1)).reverse ++ [x] := by
  obtain ⟨hk, he⟩ := List.getElem?_eq_some_iff.1 h
  rw [List.drop_eq_getElem_cons hk, he, List.reverse_cons]

theorem turned_any (ao : Option Addr) (len ac B : Nat) (xs : List Int) (w : World) (hA : IntSl B w ao xs) (hlen : len = xs.length) (hB : B ≤ w.heap.size) (hl : xs.length ≤ 1000) :
    Calls Try.prog 16 #[.slice ao len ac] w fun e w' => ∃ v, e = .returned v ∧ Sep w.heap.size w' [Ent.ints 3 v xs.reverse] ∧ Below w.heap.size w w' := by
  subst hlen
  have HA := Lib.hid hA; clear hA
  obtain ⟨n, hn⟩ : ∃ n, n = xs.length := ⟨_, rfl⟩
  rw [← hn] at hl ⊢
  have HN := Lib.hid hn; clear hn
  have HNIL := Lib.hid ((Sep.nil w.heap.size w).intsNil 3)
  obtain ⟨g, hg⟩ : ∃ g, g = w.heap.size := ⟨_, rfl⟩
  rw [← hg] at HNIL hB ⊢
  have HG := Lib.hid hg; clear hg
  go_enter Try.func16, Try.ntmps16
  go_wp2
  go_loopg [3, 4] n (fun gk v i wr => ∃ (ys : List Int) (vv : Value), gk ≤ n ∧ vv = v ∧ i = .int .i64 ((gk : Int) - 1) ∧ Hid (ys = (xs.drop gk).reverse) ∧ ys.length ≤ 1000 ∧ Sep g wr [Ent.ints 3 vv ys] ∧ Below g w wr)
  case atStart => exact ⟨[], _, Nat.le_refl _, rfl, by first | rfl | go_num, by simp only [Hid]; rw [HN.out, List.drop_length]; rfl, by simp, HNIL.out, Below.refl _ _⟩
  case round =>
    obtain ⟨gi, rfl⟩ : ∃ gi, gi = gk := ⟨_, rfl⟩
    obtain ⟨ys, v, hgn, rfl, rfl, hys, hyl, hsep, hbel⟩ := hrel
    have HS := Lib.hid hsep; clear hsep
    have HBE := Lib.hid hbel; clear hbel
    rcases Nat.eq_zero_or_pos gi with h0 | h0
    · subst h0
      have hfin : ys = xs.reverse := by rw [hys.out, List.drop_zero]
      have HF := Lib.hid hfin; clear hfin
      go_wp2
      go_ret
      exact ⟨_, rfl, by rw [← HF.out]; exact HS.out, HBE.out⟩
    · obtain ⟨m, hm⟩ : ∃ m, gi = m + 1 := ⟨gi - 1, by omega⟩
      have hm1 : (gi : Int) - 1 = (m : Int) := by omega
      have hmn : m < n := by omega
      obtain ⟨x, hx⟩ : ∃ x, xs[m]? = some x := ⟨_, List.getElem?_eq_getElem (by rw [← HN.out]; exact hmn)⟩
      obtain ⟨b, off, rfl, hbb, cx⟩ := (HA.out.below (HBE.out.mono hB)) m x hx
      have hgr : g ≤ wr.heap.size := by rw [HG.out]; exact HBE.out.size
      have hnew : (xs.drop m).reverse = ys ++ [x] := by rw [rev_drop_step hx, hys.out, hm]
      have HNW := Lib.hid hnew; clear hnew hx
      have HM := Lib.hid hm; clear hm
      rw [hm1]
      clear hm1
      go_wp2_with (at_builtin; refine wpList_append_int ?_ (.tmp 12) (.tmp 17) ?_ elemInt8 (A := []) ?_ HS.out ?_ ?_ ?_ ?_; rfl; rfl; rfl; exact hgr; rfl; omega)
      intro v' w2 hs hb
      have HS2 := Lib.hid hs
      have HB2 := Lib.hid (HBE.out.trans hb)
      clear hs hb
      go_wp2
      go_roundg m
      case measure => have := HM.out; omega
      case rel => exact ⟨ys ++ [x], _, by have := HM.out; omega, rfl, by first | rfl | go_num, HNW.out.symm, by have h1 := congrArg List.length HNW.out; rw [List.length_reverse, List.length_drop, ← HN.out] at h1; omega, HS2.out, HB2.out⟩
end Go.Proofs.Ytciolkmhafdlpaa
