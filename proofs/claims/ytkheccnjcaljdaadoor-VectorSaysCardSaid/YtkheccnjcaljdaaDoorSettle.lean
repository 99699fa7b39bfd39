/- vector.Settle: how many rounds it takes. -/
import Derived.Test.YtkheccnjcaljdaaDoorVRoundsOk
import Derived.Test.YtkheccnjcaljdaaDoorEqRows
namespace Go.Proofs.YtkheccnjcaljdaaDoor
open Go.RowKit
set_option linter.unusedVariables false

/-- Nobody knows it better behind one round more. -/
def Quiet (n : Nat) (E : List Edge) (k : Nat) : Prop := ∀ i j, i < n → j < n → bell E k i j = bell E (k + 1) i j
theorem bstep_congr {n : Nat} {f f' : Nat → Int} (hf : ∀ w, w < n → f w = f' w) (u : Nat) : ∀ (E : List Edge) (b : Int), (∀ e ∈ E, e.2.1 < n) → bstep E f u b = bstep E f' u b
  | [], _, _ => rfl
  | e :: E, b, h => by
    rw [bstep_cons, bstep_cons, hf _ (h e (List.mem_cons_self ..))]
    exact bstep_congr hf u E _ fun x hx => h x (List.mem_cons_of_mem _ hx)
theorem quiet_next {n : Nat} {E : List Edge} (hn : Net n E) {k : Nat} (h : Quiet n E k) : Quiet n E (k + 1) := fun i j hi hj => by
  show bstep E (fun w => bell E k w j) i (base i j) = bstep E (fun w => bell E (k + 1) w j) i (base i j)
  exact bstep_congr (n := n) (fun w hw => h w j hw hj) i E _ fun e he => (hn.dom e.1 e.2.1 e.2.2 he).2.1
theorem quiet_from {n : Nat} {E : List Edge} (hn : Net n E) {k : Nat} (h : Quiet n E k) : ∀ t, Quiet n E (k + t)
  | 0 => h
  | t + 1 => quiet_next hn (quiet_from hn h t)
theorem quiet_end {n : Nat} {E : List Edge} (hn : Net n E) (h1 : 1 ≤ n) : Quiet n E (n - 1) := fun i j hi hj =>
  Dst.unique ((bell_lst hn (n - 1) i j).dst hn hj (Nat.le_refl _)) ((bell_lst hn (n - 1 + 1) i j).dst hn hj (by omega))
theorem bell_falls {n : Nat} {E : List Edge} (hn : Net n E) (t i j : Nat) : bell E (t + 1) i j ≤ bell E t i j := Lst.mono (Nat.le_succ _) (bell_lst hn t i j) (bell_lst hn (t + 1) i j)

set_option maxHeartbeats 1000000 in
theorem settle_err (n : Int) (ao : Option Addr) (len ac B : Nat) (L : List Lnk) (c : Int) (w : World) (hn : -9223372036854775808 ≤ n ∧ n ≤ 9223372036854775807) (hA : RowSl B w ao 3 (L.map lnkC)) (hlen : len = L.length) (hl : L.length ≤ 9223372036854775807) (hB : B ≤ w.heap.size) (hc : c = vCode n L) (h0 : ¬ c = 0) :
    Calls Tryd.prog 12 #[.int .i64 n, .slice ao len ac] w fun e w' => e = .returned (.tuple #[.int .i64 0, .iface 60 (.int .i64 c)]) ∧ Below w.heap.size w w' := by
  subst hlen
  have HA := Lib.hid hA; clear hA
  by_cases hn1 : 1 ≤ n
  · have hr : ¬ rCode n L 0 = 0 := by unfold rCode; rw [if_neg (by rw [← hc]; exact h0), ← hc]; exact h0
    have hrc : c = rCode n L 0 := by unfold rCode; rw [if_neg (by rw [← hc]; exact h0)]; exact hc
    have HRC := Lib.hid hrc
    have H0 := Lib.hid h0
    clear hr hrc hc h0
    have hd : decide ((0 : Int) < n) = true := decide_eq_true (by omega)
    have hlt : (0 : Int) < n := by omega
    go_enter Tryd.func12, Tryd.ntmps12
    go_wp2
    go_loopw [12] (fun i wr => i = .int .i64 0 ∧ wr = w) (fun _ _ => 0)
    case atStart => exact ⟨rfl, rfl⟩
    case round =>
      obtain ⟨rfl, rfl⟩ := hrel
      go_wp2_with fail
      refine (rounds_err _ _ _ _ _ L 0 c _ HA.out rfl hl hB HRC.out H0.out).mono ?_
      rintro e w1 ⟨rfl, hb⟩
      have HB := Lib.hid hb; clear hb
      go_wp2
      go_ret2
      exact ⟨rfl, HB.out⟩
  · have HC := Lib.hid hc
    have H0 := Lib.hid h0
    clear hc h0
    have hd : decide ((0 : Int) < n) = false := decide_eq_false (by omega)
    have hlt : n ≤ 0 := by omega
    go_enter Tryd.func12, Tryd.ntmps12
    go_wp2
    go_loopw [12] (fun i wr => i = .int .i64 0 ∧ wr = w) (fun _ _ => 0)
    case atStart => exact ⟨rfl, rfl⟩
    case round =>
      obtain ⟨rfl, rfl⟩ := hrel
      go_wp2_with fail
      refine (vCheck_any _ _ _ _ _ L _ HA.out rfl hl hB).mono ?_
      rintro e w1 ⟨rfl, hb⟩
      rw [← HC.out, errV_not H0.out]
      have HB := Lib.hid hb; clear hb
      go_wp2
      go_ret2
      exact ⟨rfl, HB.out⟩

set_option maxHeartbeats 2000000 in
theorem settle_ok (n : Nat) (ao : Option Addr) (len ac B : Nat) (L : List Lnk) (w : World) (hA : RowSl B w ao 3 (L.map lnkC)) (hlen : len = L.length) (hB : B ≤ w.heap.size) (hok : VOk n L) :
    Calls Tryd.prog 12 #[.int .i64 n, .slice ao len ac] w fun e w' => ∃ k : Nat, e = .returned (.tuple #[.int .i64 k, .nilIface]) ∧ k < n ∧ Quiet n (edges L) k ∧ (∀ k', k' < k → ¬ Quiet n (edges L) k') ∧ Below w.heap.size w w' := by
  subst hlen
  have hn1 := hok.n1
  have hn8 := hok.n8
  have HA := Lib.hid hA; clear hA
  have HOK := Lib.hid hok; clear hok
  obtain ⟨g, hg⟩ : ∃ g, g = w.heap.size := ⟨_, rfl⟩
  have hB0 : B ≤ g := by omega
  have HG := Lib.hid hg; clear hg
  go_enter Tryd.func12, Tryd.ntmps12
  go_wp2
  go_loopg [12] n (fun gk i wr => ∃ k : Nat, gk + k = n ∧ i = .int .i64 k ∧ Hid (∀ k', k' < k → ¬ Quiet n (edges L) k') ∧ Below g w wr)
  case atStart => exact ⟨0, by omega, rfl, fun k' h => by omega, Below.refl _ _⟩
  case round =>
    obtain ⟨gi, rfl⟩ : ∃ gi, gi = gk := ⟨_, rfl⟩
    obtain ⟨k, hgk, rfl, hno, hbel⟩ := hrel
    have HB1 := Lib.hid hbel; clear hbel
    have hg1 : g ≤ wr.heap.size := by have := HB1.out.size; rw [← HG.out] at this; exact this
    by_cases hlt : k < n
    · have hki : (k : Int) < (n : Int) := by omega
      have hk0 : (0 : Int) ≤ (k : Int) := by omega
      have HK1 := Lib.hid (show (k : Int) + 1 = ((k + 1 : Nat) : Int) by omega)
      go_wp2_with fail
      refine (rounds_ok n _ _ _ B L k _ (HA.out.below (HB1.out.mono hB0)) rfl (Nat.le_trans hB0 hg1) HOK.out (by omega)).mono ?_
      rintro e w2 ⟨va, Pa, rfl, hs, hb⟩
      have hs' : Sep wr.heap.size w2 ([] ++ (matE va Pa n n (bell (edges L) k) ++ [])) := by rw [List.append_nil]; exact hs
      obtain ⟨aa, ca, rfl, _, _⟩ := mat_out hs'
      have HMA := Lib.hid (mat_read hs' (by omega))
      have HB2 := Lib.hid (HB1.out.trans (hb.mono hg1))
      have hg2 : g ≤ w2.heap.size := by have := HB2.out.size; rw [← HG.out] at this; exact this
      clear hs hs' hb
      go_wp2_with fail
      rw [HK1.out]
      refine (rounds_ok n _ _ _ B L (k + 1) _ (HA.out.below (HB2.out.mono hB0)) rfl (Nat.le_trans hB0 hg2) HOK.out (by omega)).mono ?_
      rintro e w3 ⟨vb, Pb, rfl, hs, hb⟩
      have hs' : Sep w2.heap.size w3 ([] ++ (matE vb Pb n n (bell (edges L) (k + 1)) ++ [])) := by rw [List.append_nil]; exact hs
      obtain ⟨ab, cb, rfl, _, _⟩ := mat_out hs'
      have HMB := Lib.hid (mat_read hs' (by omega))
      have HMA3 := Lib.hid (HMA.out.below hb)
      have HB3 := Lib.hid (HB2.out.trans (hb.mono hg2))
      have hg3 : g ≤ w3.heap.size := by have := HB3.out.size; rw [← HG.out] at this; exact this
      clear hs hs' hb HMA
      by_cases hq : Quiet n (edges L) k
      · have HQ := Lib.hid hq; clear hq
        go_wp2_with fail
        refine (equalFunc_any _ _ _ _ n n _ _ Pa Pb _ _ true _ HMA3.out HMB.out (by omega) (by omega) ⟨fun _ => HQ.out, fun _ => rfl⟩).mono ?_
        rintro e w4 ⟨rfl, hd⟩
        have HB4 := Lib.hid (HB3.out.trans ((below_of_drew hd).mono hg3)); clear hd
        go_wp2
        go_ret2
        exact ⟨k, rfl, hlt, HQ.out, hno.out, by have := HB4.out; rw [HG.out] at this; exact this⟩
      · have HQ := Lib.hid hq; clear hq
        go_wp2_with fail
        refine (equalFunc_any _ _ _ _ n n _ _ Pa Pb _ _ false _ HMA3.out HMB.out (by omega) (by omega) ⟨(fun h => by cases h), fun h => absurd h HQ.out⟩).mono ?_
        rintro e w4 ⟨rfl, hd⟩
        have HB4 := Lib.hid (HB3.out.trans ((below_of_drew hd).mono hg3)); clear hd
        go_wp2
        go_roundg (gi - 1)
        case measure => omega
        case rel => exact ⟨k + 1, by omega, by first | rfl | go_num, fun k' hk' => by
          rcases Nat.lt_or_ge k' k with h' | h'
          · exact hno.out k' h'
          · obtain rfl : k' = k := by omega
            exact HQ.out, HB4.out⟩
    · exfalso
      exact hno.out (n - 1) (by omega) (quiet_end HOK.out.net hn1)
end Go.Proofs.YtkheccnjcaljdaaDoor
