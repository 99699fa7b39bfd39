/- Whether a way goes over a link that has less left than is needed: the function value, and slices.ContainsFunc. -/
import Derived.Test.YtfnfelmaidfppaaDoorMaxPlain
import Derived.Test.YtfnfelmaidfppaaDoorBase
import Derived.BigQuiet
namespace Go.Proofs.YtfnfelmaidfppaaDoor
open Go.RowKit
set_option linter.unusedVariables false

/-- Two variables that hold slices of numbers. -/
structure TwoVars (w : World) (p1 p2 : Addr) (m : Nat) (L N : Nat → Int) : Prop where
  ex : ∃ gl ol cl gn on cn, w.cell? p1 = some (.slice (some ⟨gl, ol, none⟩) m cl) ∧ w.cell? p2 = some (.slice (some ⟨gn, on, none⟩) m cn) ∧
    (∀ j, j < m → w.cell? ⟨gl, ol + j, none⟩ = some (.int .i64 (L j))) ∧ (∀ j, j < m → w.cell? ⟨gn, on + j, none⟩ = some (.int .i64 (N j)))
theorem TwoVars.drewN {w : World} {p1 p2 : Addr} {m : Nat} {L N : Nat → Int} (h : TwoVars w p1 p2 m L N) (k : Nat) : TwoVars (w.drewN k) p1 p2 m L N := ⟨h.ex⟩

theorem less_any (p1 p2 : Addr) (m x : Nat) (L N : Nat → Int) (w : World) (h : TwoVars w p1 p2 m L N) (hx : x < m) (hm : m ≤ 1000000) :
    Calls Tryd.prog 20 #[.int .i64 x, .pointer (some p1), .pointer (some p2)] w fun e w' => e = .returned (.bool (decide (L x < N x))) ∧ ∃ n, w' = w.drewN n := by
  obtain ⟨gl, ol, cl, gn, on, cn, h1, h2, h3, h4⟩ := h.ex
  have c3 := h3 x hx
  have c4 := h4 x hx
  clear h3 h4 h
  obtain ⟨a, ha⟩ : ∃ a, a = L x := ⟨_, rfl⟩
  obtain ⟨b, hb⟩ : ∃ b, b = N x := ⟨_, rfl⟩
  rw [← ha] at c3 ⊢
  rw [← hb] at c4 ⊢
  have HA := Lib.hid ha; clear ha
  have HB := Lib.hid hb; clear hb
  go_enter Tryd.func20, Tryd.ntmps20
  go_wp2_with fail
  go_quiet (fail)
  go_wp2
  go_ret
  exact ⟨rfl, _, rfl⟩

set_option maxHeartbeats 400000 in
theorem indexFunc_any (ao : Option Addr) (len ac B : Nat) (xs : List Int) (p1 p2 : Addr) (m : Nat) (L : Nat → Int) (N : Nat → Nat) (w : World) (hA : IntSl B w ao xs) (hlen : len = xs.length) (hl : xs.length ≤ 1000000) (hm : m ≤ 1000000)
    (h : TwoVars w p1 p2 m L (fun x => (N x : Int))) (hx : ∀ x ∈ xs, 0 ≤ x ∧ x < m) :
    Calls Tryd.prog 26 #[.slice ao len ac, .func (.func 20) #[] #[.pointer (some p1), .pointer (some p2)]] w fun e w' => (∃ r : Int, e = .returned (.int .i64 r) ∧ decide (0 ≤ r) = tight L N (xs.map Int.toNat)) ∧ ∃ n, w' = w.drewN n := by
  subst hlen
  have HA := Lib.hid hA; clear hA
  have HT := Lib.hid h; clear h
  have HX := Lib.hid hx; clear hx
  go_enter Tryd.func26, Tryd.ntmps26
  go_wp2
  go_loopw [8] (fun i wr => ∃ k n : Nat, k ≤ xs.length ∧ i = .int .i64 k ∧ wr = w.drewN n ∧ Hid (∀ x ∈ xs.take k, (N x.toNat : Int) ≤ L x.toNat)) (fun i _ => xs.length - (intOf i).toNat)
  case atStart => exact ⟨0, 0, Nat.zero_le _, rfl, rfl, by simp [Hid]⟩
  case round =>
    obtain ⟨k, n, hk, rfl, rfl, hno⟩ := hrel
    by_cases hlt : k < xs.length
    · obtain ⟨x, hx⟩ : ∃ x, xs[k]? = some x := ⟨_, List.getElem?_eq_getElem hlt⟩
      obtain ⟨b, off, rfl, _, c1⟩ := HA.out k x hx
      have hxm := HX.out x (List.mem_iff_getElem?.2 ⟨k, hx⟩)
      obtain ⟨y, rfl⟩ := Int.eq_ofNat_of_zero_le hxm.1
      have hc := less_any p1 p2 m y L (fun x => (N x : Int)) _ (HT.out.drewN n) (by omega) hm
      have Hx := Lib.hid hx; clear hx
      by_cases hd : L y < (N y : Int)
      · simp only [hd, decide_true] at hc
        have HC := Lib.hid hc; clear hc
        have HD := Lib.hid hd; clear hd
        go_wp2_with fail
        refine HC.out.mono ?_
        rintro e w' ⟨rfl, n2, rfl⟩
        go_wp2
        go_ret
        refine ⟨⟨_, rfl, ?_⟩, by first | exact ⟨_, rfl⟩ | exact drewN_two w n n2⟩
        have : tight L N (xs.map Int.toNat) = true := tight_iff.2 ⟨y, List.mem_map.2 ⟨y, List.mem_iff_getElem?.2 ⟨k, Hx.out⟩, by simp⟩, HD.out⟩
        rw [this]; simp
      · simp only [hd, decide_false] at hc
        have HC := Lib.hid hc; clear hc
        have HD := Lib.hid hd; clear hd
        go_wp2_with fail
        refine HC.out.mono ?_
        rintro e w' ⟨rfl, n2, rfl⟩
        go_wp2
        go_roundw
        case rel =>
          refine ⟨k + 1, n + n2, by omega, by go_num, rfl, ?_⟩
          intro z hz
          rw [List.take_add_one, Hx.out] at hz
          simp at hz
          rcases hz with hz | rfl
          · exact hno.out z hz
          · have := HD.out
            simp only [Int.toNat_natCast]; omega
        case measure => simp [intOf]; omega
    · have hn : tight L N (xs.map Int.toNat) = false := by
        rw [Bool.eq_false_iff]
        intro h
        obtain ⟨y, hy, hlt2⟩ := tight_iff.1 h
        obtain ⟨z, hz, rfl⟩ := List.mem_map.1 hy
        have := hno.out z (by rw [List.take_of_length_le (by omega)]; exact hz)
        omega
      have HN := Lib.hid hn; clear hn
      go_wp2
      go_ret
      refine ⟨⟨_, rfl, ?_⟩, _, rfl⟩
      rw [HN.out]; simp

theorem containsFunc_any (ao : Option Addr) (len ac B : Nat) (xs : List Int) (p1 p2 : Addr) (m : Nat) (L : Nat → Int) (N : Nat → Nat) (w : World) (hA : IntSl B w ao xs) (hlen : len = xs.length) (hl : xs.length ≤ 1000000) (hm : m ≤ 1000000)
    (h : TwoVars w p1 p2 m L (fun x => (N x : Int))) (hx : ∀ x ∈ xs, 0 ≤ x ∧ x < m) :
    Calls Tryd.prog 19 #[.slice ao len ac, .func (.func 20) #[] #[.pointer (some p1), .pointer (some p2)]] w fun e w' => e = .returned (.bool (tight L N (xs.map Int.toNat))) ∧ ∃ n, w' = w.drewN n := by
  subst hlen
  have HA := Lib.hid hA; clear hA
  have HT := Lib.hid h; clear h
  have HX := Lib.hid hx; clear hx
  go_enter Tryd.func19, Tryd.ntmps19
  go_wp2_with fail
  refine (indexFunc_any ao _ ac B xs p1 p2 m L N _ HA.out rfl hl hm HT.out HX.out).mono ?_
  rintro e w' ⟨⟨z, rfl, hz⟩, n, rfl⟩
  have HZ := Lib.hid hz; clear hz
  go_wp2
  go_ret
  exact ⟨ret_bool HZ.out, _, rfl⟩
end Go.Proofs.YtfnfelmaidfppaaDoor
