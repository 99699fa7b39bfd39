/- ferryhytheref3.Walks and Far: the least sums over no more links than so many, and the distances. -/
import Derived.Test.YtnmddgjgmdegoaaDoorCost
import Derived.Test.YtnmddgjgmdegoaaDoorElem
import Derived.Test.YtnmddgjgmdegoaaDoorArr
import Derived.Test.YtnmddgjgmdegoaaDoorStpPlain
import Derived.BigQuiet
namespace Go.Proofs.YtnmddgjgmdegoaaDoor
open Go.RowKit
set_option linter.unusedVariables false

def wbest (L : List Lnk) (o : Nat → Int) (i : Nat) : Nat → Int
  | 0 => o i
  | j + 1 => if o j + cst L i j < wbest L o i j then o j + cst L i j else wbest L o i j
theorem wbest_yes {L : List Lnk} {o : Nat → Int} {i j : Nat} (h : o j + cst L i j < wbest L o i j) : wbest L o i (j + 1) = o j + cst L i j := by unfold wbest; exact if_pos h
theorem wbest_no {L : List Lnk} {o : Nat → Int} {i j : Nat} (h : ¬ o j + cst L i j < wbest L o i j) : wbest L o i (j + 1) = wbest L o i j := by
  conv => lhs; unfold wbest
  exact if_neg h
theorem wbest_spec (L : List Lnk) (o : Nat → Int) (i : Nat) : ∀ m : Nat, wbest L o i m ≤ o i ∧ (∀ j, j < m → wbest L o i m ≤ o j + cst L i j) ∧ (wbest L o i m = o i ∨ ∃ j, j < m ∧ wbest L o i m = o j + cst L i j)
  | 0 => ⟨Int.le_refl _, fun j h => absurd h (Nat.not_lt_zero _), .inl rfl⟩
  | m + 1 => by
    obtain ⟨h1, h2, h3⟩ := wbest_spec L o i m
    by_cases h : o m + cst L i m < wbest L o i m
    · rw [wbest_yes h]
      refine ⟨by omega, fun j hj => ?_, .inr ⟨m, Nat.lt_succ_self _, rfl⟩⟩
      by_cases e : j = m
      · subst e; exact Int.le_refl _
      · have := h2 j (by omega); omega
    · rw [wbest_no h]
      refine ⟨h1, fun j hj => ?_, ?_⟩
      · by_cases e : j = m
        · subst e; omega
        · exact h2 j (by omega)
      · rcases h3 with h3 | ⟨j, hj, h3⟩
        · exact .inl h3
        · exact .inr ⟨j, by omega, h3⟩
theorem wbest_bell {n : Nat} {L : List Lnk} (h : VOk n L) {k i p : Nat} (hi : i < n) : wbest L (fun j => bell (edges L) k j p) i n = bell (edges L) (k + 1) i p := by
  obtain ⟨h1, h2, h3⟩ := wbest_spec L (fun j => bell (edges L) k j p) i n
  have hn := h.net
  have hge : bell (edges L) (k + 1) i p ≤ wbest L (fun j => bell (edges L) k j p) i n := by
    rcases h3 with h3 | ⟨j, hj, h3⟩
    · rw [h3]; exact (bell_lst hn k i p).mono (Nat.le_succ _) (bell_lst hn (k + 1) i p)
    · rw [h3]
      by_cases hc : cst L i j = 1000
      · have := (bell_lst hn (k + 1) i p).2.1
        have := (bell_lst hn k j p).nonneg hn
        omega
      · have := bell_edge hn (t := k) (k := p) (cst_edge h hc)
        omega
  by_cases hip : i = p
  · subst hip
    rw [bell_self hn] at hge h1 ⊢
    omega
  · by_cases hb : bell (edges L) (k + 1) i p < 1000
    · obtain ⟨j, c, he, hc⟩ := bell_hop hn hip hb
      have := h2 j (hn.dom _ _ _ he).2.1
      have := (cst_lt h he).1
      omega
    · have := (bell_lst hn k i p).2.1
      omega
theorem bell_rng {n : Nat} {L : List Lnk} (h : VOk n L) (k i p : Nat) : 0 ≤ bell (edges L) k i p ∧ bell (edges L) k i p ≤ 1000 := ⟨(bell_lst h.net k i p).nonneg h.net, (bell_lst h.net k i p).2.1⟩
theorem cst_rng {n : Nat} {L : List Lnk} (h : VOk n L) (i j : Nat) : 1 ≤ cst L i j ∧ cst L i j ≤ 1000 := by
  obtain ⟨a, b, c⟩ := cst_spec h (u := i) (v := j)
  refine ⟨?_, a⟩
  rcases c with c | c
  · omega
  · exact (h.net.dom _ _ _ c).2.2.2.1
theorem arr_succ {α : Type} (f : Nat → α) (n : Nat) : arr f n ++ [f n] = arr f (n + 1) := by unfold arr; rw [List.range_succ, List.map_append]; rfl

set_option maxHeartbeats 4000000 in
set_option maxRecDepth 100000 in
theorem walks_ok (n : Nat) (ao : Option Addr) (len ac B0 : Nat) (L : List Lnk) (p t : Nat) (w : World) (hA : RowSl B0 w ao 3 (L.map lnkC)) (hlen : len = L.length) (hB : B0 ≤ w.heap.size) (hok : VOk n L) (hp : p < n) (ht : t ≤ 20) :
    Calls Tryd.prog 48 #[.int .i64 n, .slice ao len ac, .int .i64 p, .int .i64 t] w fun e w' => ∃ v, e = .returned v ∧
      Sep w.heap.size w' [Ent.ints 3 v (arr (fun i => bell (edges L) t i p) n)] ∧ Below w.heap.size w w' := by
  subst hlen
  have hn1 := hok.n1
  have hn8 := hok.n8
  have hl32 := hok.few
  have HA := Lib.hid hA; clear hA
  have HOK := Lib.hid hok; clear hok
  obtain ⟨g, hg⟩ : ∃ g, g = w.heap.size := ⟨_, rfl⟩
  have hB0 : B0 ≤ g := by omega
  have HG := Lib.hid hg; clear hg
  have HNIL := Lib.hid ((Sep.nil g w).intsNil 3)
  have hci : Tryd.prog.cellsOf 3 = 1 := by kernel_rfl
  go_enter Tryd.func48, Tryd.ntmps48
  go_wp2
  go_loopw [9, 10] (fun vv iv wr => ∃ (i : Nat) (v : Value), i ≤ n ∧ v = vv ∧ iv = .int .i64 i ∧ Sep g wr [Ent.ints 3 v (arr (fun _ => (1000 : Int)) i)] ∧ Below g w wr) (fun _ iv _ => n - (intOf iv).toNat)
  case atStart => exact ⟨0, _, Nat.zero_le _, rfl, rfl, HNIL.out, Below.refl _ _⟩
  case round =>
    obtain ⟨i, v, hi, rfl, rfl, hsep, hbel⟩ := hrel
    have HS1 := Lib.hid hsep; clear hsep
    have HB1 := Lib.hid hbel; clear hbel
    have hg1 : g ≤ wr.heap.size := by have := HB1.out.size; rw [← HG.out] at this; exact this
    by_cases hlt : i < n
    · have hii : (i : Int) < (n : Int) := by omega
      have hlen : (arr (fun _ => (1000 : Int)) i).length ≤ 1000000000 := by rw [arr_len]; omega
      have HLEN := Lib.hid hlen; clear hlen
      go_wp2_with (at_builtin; refine wpList_append_int rfl (.tmp 21) (.tmp 22) rfl elemInt8 (A := []) rfl HS1.out hg1 rfl HLEN.out ?_)
      intro v2 w2 hs hb
      rw [show arr (fun _ => (1000 : Int)) i ++ [1000] = arr (fun _ => (1000 : Int)) (i + 1) from arr_succ (fun _ => (1000 : Int)) i] at hs
      have HS2 := Lib.hid hs
      have HB2 := Lib.hid (HB1.out.trans hb)
      clear hs hb
      go_wp2
      go_roundw
      case rel => exact ⟨i + 1, _, by omega, rfl, by go_num, HS2.out, HB2.out⟩
      case measure => simp [intOf]; omega
    · obtain rfl : i = n := by omega
      have hii : decide ((i : Int) < (i : Int)) = false := by simp
      have hpi : (p : Int) < (i : Int) := by omega
      have hp0 : (0 : Int) ≤ (p : Int) := by omega
      have hs := HS1.out
      obtain ⟨ao1, c1, rfl, _, _⟩ := hs.intsShape (A := []) (C := [])
      rw [arr_len] at hs ⊢
      obtain ⟨g1, o1, rfl, hgg, m1, m2, m3⟩ := arrI_at (A := []) hs hp
      have hm3 := m3 0
      have hg1' := (hs.mem (A := [])).2 g1 rfl
      rw [show (fun j => if j = p then (0 : Int) else 1000) = (fun j => bell (edges L) 0 j p) from funext fun j => rfl] at hm3
      have HS2 := Lib.hid hm3
      have HB2 := Lib.hid (HB1.out.setCell (p := ⟨g1, o1 + p, none⟩) hgg (.int .i64 0))
      clear hs m3 hm3 hg1' HS1 HNIL
      go_wp2
      clear m1 m2
      go_loopw [9, 11] (fun vv kv wr => ∃ (k : Nat) (v : Value), k ≤ t ∧ v = vv ∧ kv = .int .i64 k ∧ Sep g wr [Ent.ints 3 v (arr (fun j => bell (edges L) k j p) i)] ∧ Below g w wr) (fun _ kv _ => t - (intOf kv).toNat)
      case atStart => exact ⟨0, _, Nat.zero_le _, rfl, rfl, HS2.out, HB2.out⟩
      case round =>
        obtain ⟨k, v, hk, rfl, rfl, hsep, hbel⟩ := hrel
        obtain ⟨n, rfl⟩ : ∃ n, n = i := ⟨_, rfl⟩
        have HB3 := Lib.hid hbel; clear hbel
        clear HB1 HB2 HS2
        by_cases hlt2 : k < t
        · have hkk : (k : Int) < (t : Int) := by omega
          obtain ⟨ao3, c3, rfl, _, _⟩ := hsep.intsShape (A := []) (C := [])
          rw [arr_len] at hsep ⊢
          obtain ⟨g3, o3, rfl, _⟩ := arrI_at (A := []) hsep (show 0 < n by omega)
          have HS3 := Lib.hid (hsep.intsNil 3)
          clear hsep
          go_wp2
          go_loopw [12, 13] (fun vv iv wr => ∃ (i : Nat) (v : Value), i ≤ n ∧ v = vv ∧ iv = .int .i64 i ∧ Sep g wr [Ent.ints 3 v (arr (fun j => bell (edges L) (k + 1) j p) i), Ent.ints 3 (.slice (some ⟨g3, o3, none⟩) n c3) (arr (fun j => bell (edges L) k j p) n)] ∧ Below g w wr) (fun _ iv _ => n - (intOf iv).toNat)
          case atStart => exact ⟨0, _, Nat.zero_le _, rfl, rfl, HS3.out, HB3.out⟩
          case round =>
            obtain ⟨i, v, hi, rfl, rfl, hsep, hbel⟩ := hrel
            have HS4 := Lib.hid hsep; clear hsep
            have HB4 := Lib.hid hbel; clear hbel
            clear HS3 HB3
            by_cases hlt3 : i < n
            · have hii : (i : Int) < (n : Int) := by omega
              have hi0 : (0 : Int) ≤ (i : Int) := by omega
              obtain ⟨o, ho⟩ : ∃ o, o = fun j => bell (edges L) k j p := ⟨_, rfl⟩
              rw [← ho] at HS4
              have HO := Lib.hid ho; clear ho
              obtain ⟨g3', o3', he, _, m1, _, _⟩ := arrI_at (A := [_]) HS4.out hlt3
              simp only [Option.some.injEq, Addr.mk.injEq, and_true] at he
              obtain ⟨rfl, rfl⟩ := he
              obtain ⟨b0, hb0⟩ : ∃ b0, b0 = o i := ⟨_, rfl⟩
              rw [← hb0] at m1
              have HB0 := Lib.hid hb0; clear hb0
              go_wp2
              clear m1
              go_loopw [14, 15] (fun bv jv wr => ∃ (j : Nat) (b : Int), j ≤ n ∧ bv = .int .i64 b ∧ jv = .int .i64 j ∧ Hid (b = wbest L o i j) ∧ Sep g wr [Ent.ints 3 v (arr (fun j => bell (edges L) (k + 1) j p) i), Ent.ints 3 (.slice (some ⟨g3, o3, none⟩) n c3) (arr o n)] ∧ Below g w wr) (fun _ jv _ => n - (intOf jv).toNat)
              case atStart => exact ⟨0, b0, Nat.zero_le _, rfl, rfl, Lib.hid HB0.out, HS4.out, HB4.out⟩
              case round =>
                obtain ⟨j, b, hj, rfl, rfl, HBE, hsep, hbel⟩ := hrel
                have HS5 := Lib.hid hsep; clear hsep
                have HB5 := Lib.hid hbel; clear hbel
                clear HS4 HB4
                by_cases hlt4 : j < n
                · have hjj : (j : Int) < (n : Int) := by omega
                  have hj0 : (0 : Int) ≤ (j : Int) := by omega
                  obtain ⟨g3', o3', he, _, m1, _, _⟩ := arrI_at (A := [_]) HS5.out hlt4
                  simp only [Option.some.injEq, Addr.mk.injEq, and_true] at he
                  obtain ⟨rfl, rfl⟩ := he
                  have hr1 := bell_rng HOK.out k j p
                  have hr2 := cst_rng HOK.out i j
                  have hoj : o j = bell (edges L) k j p := by rw [HO.out]
                  rw [← hoj] at hr1
                  obtain ⟨x, hx⟩ : ∃ x, x = o j := ⟨_, rfl⟩
                  obtain ⟨y, hy⟩ : ∃ y, y = cst L i j := ⟨_, rfl⟩
                  have hcost : ∀ q, Calls Tryd.prog 35 #[.slice ao L.length ac, .int .i64 i, .int .i64 j] (wr.drewN q) fun e w' => e = .returned (.int .i64 y) ∧ wr.drewN q = w' := fun q => by
                    rw [hy]
                    exact cost_any ao _ ac B0 L i j _ ((HA.out.below (HB5.out.mono hB0)).below (below_drewN _ wr q)) rfl (by omega)
                  have HCA := Lib.hid hcost
                  rw [← hx] at m1 hr1
                  rw [← hy] at hr2
                  obtain ⟨s, hs⟩ : ∃ s, s = x + y := ⟨_, rfl⟩
                  have hw : IntKind.i64.wrap (x + y) = s := by rw [hs]; simp [IntKind.wrap, IntKind.bits, IntKind.signed]; omega
                  have HX := Lib.hid hx
                  have HY := Lib.hid hy
                  have HSS := Lib.hid hs
                  clear hcost hx hy hs hr1 hr2 hoj
                  by_cases hsb : s < b
                  · have hnx : wbest L o i (j + 1) = s := by
                      have : o j + cst L i j = s := by rw [← HX.out, ← HY.out, HSS.out]
                      rw [wbest_yes (by rw [this, ← HBE.out]; exact hsb), this]
                    have HNX := Lib.hid hnx; clear hnx
                    have hd : decide (s < b) = true := decide_eq_true hsb
                    go_wp2_with fail
                    go_quiet (first | (go_at_call 35; exact quiet_id (HCA.out _) ⟨_, rfl⟩))
                    have HS6 := Lib.hid (HS5.out.drewN nq)
                    have HB6 := Lib.hid (HB5.out.trans (below_drewN _ wr nq))
                    have hcost : ∀ q, Calls Tryd.prog 35 #[.slice ao L.length ac, .int .i64 i, .int .i64 j] ((wr.drewN nq).drewN q) fun e w' => e = .returned (.int .i64 y) ∧ (wr.drewN nq).drewN q = w' := fun q => by
                      rw [HY.out]
                      exact cost_any ao _ ac B0 L i j _ ((HA.out.below (HB6.out.mono hB0)).below (below_drewN _ _ q)) rfl (by omega)
                    have HCB := Lib.hid hcost
                    have m1 : (wr.drewN nq).cell? ⟨g3, o3 + j, none⟩ = some (.int .i64 x) := m1
                    clear hcost HS5 HB5 HCA
                    generalize wr.drewN nq = wn at *
                    clear hd
                    go_wp2_with fail
                    go_quiet (first | (go_at_call 35; exact quiet_id (HCB.out _) ⟨_, rfl⟩))
                    have HS7 := Lib.hid (HS6.out.drewN nq)
                    have HB7 := Lib.hid (HB6.out.trans (below_drewN _ wn nq))
                    clear m1 HS6 HB6 HCB
                    generalize wn.drewN nq = wm at *
                    go_wp2
                    go_roundw
                    case rel => exact ⟨j + 1, s, by omega, rfl, by go_num, Lib.hid HNX.out.symm, HS7.out, HB7.out⟩
                    case measure => simp [intOf]; try omega
                  · have hnx : wbest L o i (j + 1) = b := by
                      have : o j + cst L i j = s := by rw [← HX.out, ← HY.out, HSS.out]
                      rw [wbest_no (by rw [this, ← HBE.out]; exact hsb), HBE.out]
                    have HNX := Lib.hid hnx; clear hnx
                    have hd : decide (s < b) = false := decide_eq_false hsb
                    clear hsb
                    go_wp2_with fail
                    go_quiet (first | (go_at_call 35; exact quiet_id (HCA.out _) ⟨_, rfl⟩))
                    have HS6 := Lib.hid (HS5.out.drewN nq)
                    have HB6 := Lib.hid (HB5.out.trans (below_drewN _ wr nq))
                    clear m1 HS5 HB5 HCA
                    generalize wr.drewN nq = wn at *
                    go_wp2
                    go_roundw
                    case rel => exact ⟨j + 1, b, by omega, rfl, by go_num, Lib.hid HNX.out.symm, HS6.out, HB6.out⟩
                    case measure => simp [intOf]; try omega
                · obtain rfl : j = n := by omega
                  have hjj : decide ((j : Int) < (j : Int)) = false := by simp
                  have hbb : b = bell (edges L) (k + 1) i p := by rw [HBE.out, HO.out]; exact wbest_bell HOK.out hlt3
                  have hlen : (arr (fun j => bell (edges L) (k + 1) j p) i).length ≤ 1000000000 := by rw [arr_len]; omega
                  have HLEN := Lib.hid hlen
                  have HBB := Lib.hid hbb
                  have hg5 : g ≤ wr.heap.size := by have := HB5.out.size; rw [← HG.out] at this; exact this
                  clear hlen hbb
                  go_wp2_with (at_builtin; refine wpList_append_int rfl (.tmp 66) (.tmp 68) rfl elemInt8 (A := []) rfl HS5.out hg5 rfl HLEN.out ?_)
                  intro v2 w2 hs hb
                  rw [HBB.out, arr_succ (fun j => bell (edges L) (k + 1) j p) i, HO.out] at hs
                  have HS6 := Lib.hid hs
                  have HB6 := Lib.hid (HB5.out.trans hb)
                  clear hs hb
                  go_wp2
                  go_roundw
                  case rel => exact ⟨i + 1, _, by omega, rfl, by go_num, HS6.out, HB6.out⟩
                  case measure => simp [intOf]; omega
            · obtain rfl : i = n := by omega
              have hii : decide ((i : Int) < (i : Int)) = false := by simp
              have HS5 := Lib.hid (HS4.out.sub (L' := [_]) (List.Sublist.cons_cons _ (List.nil_sublist _)))
              go_wp2
              go_roundw
              case rel => exact ⟨k + 1, _, by omega, rfl, by go_num, HS5.out, HB4.out⟩
              case measure => simp [intOf]; omega
        · obtain rfl : k = t := by omega
          have hkk : decide ((k : Int) < (k : Int)) = false := by simp
          rw [HG.out] at hsep
          have HS3 := Lib.hid hsep; clear hsep
          have hb := HB3.out
          rw [HG.out] at hb
          have HB4 := Lib.hid hb; clear hb
          go_wp2
          go_ret
          exact ⟨_, rfl, HS3.out, HB4.out⟩

end Go.Proofs.YtnmddgjgmdegoaaDoor
