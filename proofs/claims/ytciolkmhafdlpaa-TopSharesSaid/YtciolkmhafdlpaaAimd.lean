/- aimd.Check, aimd.sum, aimd.Run with room 20 and 400 steps. -/
import Derived.Test.YtciolkmhafdlpaaAimdPlain
import Derived.Test.YtciolkmhafdlpaaSumPlain
import Derived.Test.YtciolkmhafdlpaaStp
import Derived.Test.YtciolkmhafdlpaaWithin
import Derived.Test.YtciolkmhafdlpaaAll
import Derived.Test.YtciolkmhafdlpaaClone
import Derived.Deep.LoopGhost
namespace Go.Proofs.Ytciolkmhafdlpaa
open Go.RowKit
set_option linter.unusedVariables false

theorem intsN_at {B : Nat} {w : World} {A C : List Ent} {e : TypeId} {ao : Option Addr} {n cap k : Nat} {xs : List Int} {x : Int} (h : Sep B w (A ++ Ent.ints e (.slice ao n cap) xs :: C)) (hn : xs.length = n) (hx : xs[k]? = some x) :
    ∃ g off, ao = some ⟨g, off, none⟩ ∧ B ≤ g ∧ w.cell? ⟨g, off + k, none⟩ = some (.int .i64 x) ∧ w.frozen? ⟨g, off + k, none⟩ = false ∧
      ∀ y, Sep B (w.setCell ⟨g, off + k, none⟩ (.int .i64 y)) (A ++ Ent.ints e (.slice ao n cap) (xs.set k y) :: C) := by
  subst hn
  obtain ⟨b, o, rfl, c1, c2⟩ := h.intsAt hx
  refine ⟨b, o, rfl, h.intsBlk, c1, c2, fun y => ?_⟩
  have := h.intsSet k y
  simpa using this

def mixed (c : Int → Int) (xs : List Int) (j : Nat) : List Int := (xs.take j).map c ++ xs.drop j
theorem mixed_zero (c : Int → Int) (xs : List Int) : mixed c xs 0 = xs := by simp [mixed]
theorem mixed_len (c : Int → Int) (xs : List Int) (j : Nat) : (mixed c xs j).length = xs.length := by simp [mixed]; omega
theorem mixed_get {c : Int → Int} {xs : List Int} {j : Nat} {x : Int} (h : xs[j]? = some x) : (mixed c xs j)[j]? = some x := by
  have := List.getElem?_eq_some_iff.1 h
  obtain ⟨hj, _⟩ := this
  unfold mixed
  rw [List.getElem?_append_right (by simp; omega), List.length_map, List.length_take, List.getElem?_drop, Nat.min_eq_left (by omega)]
  rw [show j + (j - j) = j by omega]; exact h
theorem mixed_set {c : Int → Int} {xs : List Int} {j : Nat} {x : Int} (h : xs[j]? = some x) : (mixed c xs j).set j (c x) = mixed c xs (j + 1) := by
  obtain ⟨hj, he⟩ := List.getElem?_eq_some_iff.1 h
  unfold mixed
  rw [List.set_append_right _ _ (by simp; omega), List.length_map, List.length_take, Nat.min_eq_left (by omega), Nat.sub_self, List.take_add_one, h, List.drop_eq_getElem_cons hj, List.set_cons_zero]
  simp
theorem mixed_end {c : Int → Int} {xs : List Int} {j : Nat} (h : xs.length ≤ j) : mixed c xs j = xs.map c := by
  unfold mixed; rw [List.take_of_length_le h, List.drop_of_length_le h, List.append_nil]

def aCode (l : List Int) : Int := if l.length = 0 then 5 else if 5 < l.length then 4 else if ∀ x ∈ l, 0 ≤ x ∧ x ≤ 1000 then 0 else 1
theorem aCode_zero {l : List Int} : aCode l = 0 ↔ 0 < l.length ∧ l.length ≤ 5 ∧ ∀ x ∈ l, 0 ≤ x ∧ x ≤ 1000 := by
  unfold aCode
  by_cases h1 : l.length = 0
  · rw [if_pos h1]; exact ⟨fun h => by omega, fun h => by omega⟩
  · rw [if_neg h1]
    by_cases h2 : 5 < l.length
    · rw [if_pos h2]; exact ⟨fun h => by omega, fun h => by omega⟩
    · rw [if_neg h2]
      by_cases h3 : ∀ x ∈ l, 0 ≤ x ∧ x ≤ 1000
      · rw [if_pos h3]; exact ⟨fun _ => ⟨by omega, by omega, h3⟩, fun _ => rfl⟩
      · rw [if_neg h3]; exact ⟨fun h => by omega, fun h => absurd h.2.2 h3⟩

theorem aimdCheck_any (ao : Option Addr) (len ac B : Nat) (xs : List Int) (w : World) (hA : IntSl B w ao xs) (hlen : len = xs.length) (hl : xs.length ≤ 9223372036854775807) :
    Calls Try.prog 31 #[.slice ao len ac, .int .i64 20] w fun e w' => e = .returned (errV (aCode xs)) ∧ w = w' := by
  subst hlen
  have HA := Lib.hid hA; clear hA
  by_cases h0 : xs.length = 0
  · rw [show aCode xs = 5 from if_pos h0, errV_not (by decide)]
    have hd8 : ((xs.length : Int) == 0) = true := by simp [h0]
    have H0 := Lib.hid h0; clear h0
    go_enter Try.func31, Try.ntmps31
    go_wp2
    go_ret
    exact ⟨rfl, rfl⟩
  have hd8 : ((xs.length : Int) == 0) = false := by simp; intro e; simp [e] at h0
  by_cases h5 : 5 < xs.length
  · rw [show aCode xs = 4 by unfold aCode; rw [if_neg h0, if_pos h5], errV_not (by decide)]
    have hd2 : decide ((5 : Int) < (xs.length : Int)) = true := decide_eq_true (by omega)
    have H0 := Lib.hid h0; clear h0
    go_enter Try.func31, Try.ntmps31
    go_wp2
    go_ret
    exact ⟨rfl, rfl⟩
  have hd2 : decide ((5 : Int) < (xs.length : Int)) = false := decide_eq_false (by omega)
  by_cases h3 : ∀ x ∈ xs, 0 ≤ x ∧ x ≤ 1000
  · rw [show aCode xs = 0 from aCode_zero.2 ⟨by omega, by omega, h3⟩, errV_zero]
    have H3 := Lib.hid h3; clear h3
    have H0 := Lib.hid h0; clear h0
    go_enter Try.func31, Try.ntmps31
    go_wp2_with (first
      | (go_at_call 37; refine (all_any _ _ _ _ xs 0 1000 true _ HA.out rfl hl (by simpa using H3.out)).mono ?_; rintro e w' ⟨rfl, rfl⟩)
      | (go_at_call 32; refine (within_yes _ _ _ _ (by decide) (by decide)).mono ?_; rintro e w' ⟨rfl, rfl⟩))
    go_ret
    exact ⟨rfl, rfl⟩
  · rw [show aCode xs = 1 by unfold aCode; rw [if_neg h0, if_neg h5, if_neg h3], errV_not (by decide)]
    have H3 := Lib.hid h3; clear h3
    have H0 := Lib.hid h0; clear h0
    go_enter Try.func31, Try.ntmps31
    go_wp2_with (go_at_call 37; refine (all_any _ _ _ _ xs 0 1000 false _ HA.out rfl hl (by have := H3.out; simpa using this)).mono ?_; rintro e w' ⟨rfl, rfl⟩)
    go_ret
    exact ⟨rfl, rfl⟩

theorem aimdSum_any (ao : Option Addr) (len ac B : Nat) (xs : List Int) (w : World) (hA : IntSl B w ao xs) (hlen : len = xs.length) (hl : xs.length ≤ 1000000) (hb : ∀ x ∈ xs, 0 ≤ x ∧ x ≤ 1000000) :
    Calls Try.prog 34 #[.slice ao len ac] w fun e w' => e = .returned (.int .i64 xs.sum) ∧ w = w' := by
  subst hlen
  have HA := Lib.hid hA; clear hA
  have HB := Lib.hid hb; clear hb
  obtain ⟨s, hs⟩ : ∃ s, s = xs.sum := ⟨_, rfl⟩
  rw [← hs]
  have HS := Lib.hid hs; clear hs
  go_enter Try.func34, Try.ntmps34
  go_wp2
  go_loop [3, 8] (fun m i => ∃ (k : Nat) (y : Int), k ≤ xs.length ∧ i = .int .i64 k ∧ m = .int .i64 y ∧ Hid (y = (xs.take k).sum) ∧ 0 ≤ y ∧ y ≤ 1000000000000) (fun _ i => xs.length - (intOf i).toNat)
  case atStart => exact ⟨0, 0, Nat.zero_le _, rfl, rfl, by simp [Hid], by omega, by omega⟩
  case round =>
    obtain ⟨k, y, hk, rfl, rfl, hy, hy0, hy1⟩ := hrel
    by_cases hlt : k < xs.length
    · obtain ⟨x, hx⟩ : ∃ x, xs[k]? = some x := ⟨_, List.getElem?_eq_getElem hlt⟩
      obtain ⟨b, off, rfl, _, c1⟩ := HA.out k x hx
      have hxb := HB.out x (List.mem_iff_getElem?.2 ⟨k, hx⟩)
      have Hx := Lib.hid hx; clear hx
      have h1 := sum_take_bd HB.out (k + 1) (by omega)
      rw [sum_take_succ Hx.out, ← hy.out] at h1
      have h2 : ((k + 1 : Nat) : Int) * 1000000 ≤ 1000000 * 1000000 := by omega
      have H1 : 0 ≤ y + x ∧ y + x ≤ 1000000000000 := by omega
      clear h1 h2
      go_wp2
      go_round
      case rel => exact ⟨k + 1, y + x, by omega, by go_num, by first | rfl | go_num, by simp only [Hid]; rw [sum_take_succ Hx.out, ← hy.out], H1.1, H1.2⟩
      case measure => simp [intOf]; omega
    · have hfin : y = s := by rw [hy.out, List.take_of_length_le (by omega), ← HS.out]
      have HF := Lib.hid hfin; clear hfin
      go_wp2
      go_ret
      exact ⟨ret_int HF.out, rfl⟩

theorem aimdInc_any (x : Int) (w : World) (h0 : 0 ≤ x) (h1 : x ≤ 1000000) : Calls Try.prog 33 #[.int .i64 x] w fun e w' => e = .returned (.int .i64 (x + 1)) ∧ w = w' := by
  go_enter Try.func33, Try.ntmps33
  go_wp2
  go_ret
  exact ⟨by first | rfl | go_num, rfl⟩
theorem aimdHalf_any (x : Int) (w : World) (h0 : 0 ≤ x) (h1 : x ≤ 1000000) : Calls Try.prog 35 #[.int .i64 x] w fun e w' => e = .returned (.int .i64 (x / 2)) ∧ w = w' := by
  obtain ⟨n, rfl⟩ := Int.eq_ofNat_of_zero_le h0
  go_enter Try.func35, Try.ntmps35
  go_wp2
  go_ret
  exact ⟨ret_int (by first | rfl | omega | (rw [Int.tdiv_eq_ediv_of_nonneg (by omega)])), rfl⟩

set_option maxHeartbeats 2000000 in
theorem aimdRun_ok (ao : Option Addr) (len ac B : Nat) (l : List Int) (w : World) (hA : IntSl B w ao l) (hlen : len = l.length) (hB : B ≤ w.heap.size) (h0 : 0 < l.length) (h5 : l.length ≤ 5) (hb : ∀ x ∈ l, 0 ≤ x ∧ x ≤ 1000) (N : Nat) (hN : N ≤ 1000) :
    Calls Try.prog 20 #[.slice ao len ac, .int .i64 20, .int .i64 (N : Int)] w fun e w' => ∃ va, e = .returned (.tuple #[va, .int .i64 ((aRun 20 N (l, 0)).2 : Nat), .nilIface]) ∧ Sep w.heap.size w' [Ent.ints 3 va (aRun 20 N (l, 0)).1] ∧ Below w.heap.size w w' := by
  subst hlen
  have HA := Lib.hid hA; clear hA
  obtain ⟨fin, hfin⟩ : ∃ fin, fin = aRun 20 N (l, 0) := ⟨_, rfl⟩
  rw [← hfin]
  obtain ⟨g, hg⟩ : ∃ g, g = w.heap.size := ⟨_, rfl⟩
  rw [← hg]
  have HFIN := Lib.hid hfin; clear hfin
  have HSTART := Lib.hid (AInv.start hb)
  have HC0 := Lib.hid (aCode_zero.2 ⟨h0, h5, hb⟩)
  clear hb
  go_enter Try.func20, Try.ntmps20
  go_wp2_with fail
  refine (aimdCheck_any _ _ _ _ l _ HA.out rfl (by omega)).mono ?_
  rintro e w' ⟨rfl, rfl⟩
  rw [HC0.out, errV_zero]
  go_wp2_with (go_at_call 32; refine (within_yes _ _ _ _ (by omega) (by omega)).mono ?_; rintro e w' ⟨rfl, rfl⟩)
  refine (clone_any ao _ ac _ l _ HA.out rfl hB h0 (by omega)).mono ?_
  rintro e w1 ⟨vl, rfl, hs1, hb1⟩
  rw [← hg] at hs1 hb1
  have HG := Lib.hid hg; clear hg
  obtain ⟨va, vc, rfl, hvc, hz1⟩ := hs1.intsShape (A := []) (C := [])
  clear hz1
  obtain ⟨n, hn⟩ : ∃ n, n = l.length := ⟨_, rfl⟩
  rw [← hn] at hs1 hvc h0 h5 HSTART ⊢
  have HS1 := Lib.hid hs1; clear hs1
  have HB1 := Lib.hid hb1; clear hb1
  have HN := Lib.hid hn; clear hn
  go_wp2
  go_loopg [11, 28] N (fun gk h i wr => ∃ (k : Nat) (xs : List Int) (hv : Nat), gk + k = N ∧ i = .int .i64 k ∧ h = .int .i64 hv ∧ Hid (aRun 20 gk (xs, hv) = fin) ∧ Hid (AInv n k (xs, hv)) ∧ Sep g wr [Ent.ints 3 (.slice va n vc) xs] ∧ Below g w wr)
  case atStart => exact ⟨0, l, 0, rfl, rfl, rfl, HFIN.out.symm, HSTART.out, HS1.out, HB1.out⟩
  case round =>
    obtain ⟨gi, rfl⟩ : ∃ gi, gi = gk := ⟨_, rfl⟩
    obtain ⟨k, xs, hv, hgk, rfl, rfl, hrun, hinv, hsep, hbel⟩ := hrel
    have hxl : xs.length = n := hinv.out.len
    have HXL := Lib.hid hxl; clear hxl
    have hxbd : ∀ x ∈ xs, 0 ≤ x ∧ x ≤ 1000 := hinv.out.bd
    have HBD := Lib.hid hxbd; clear hxbd
    have hhv : hv ≤ k := hinv.out.few
    have HS2 := Lib.hid hsep; clear hsep
    have HB2 := Lib.hid hbel; clear hbel
    by_cases hk : k < N
    · have hnx : aRun 20 (gi - 1) (aStep 20 (xs, hv)) = fin := by
        have := hrun.out
        rw [show gi = (gi - 1) + 1 by omega, aRun] at this
        exact this
      have hix := hinv.out.step h0
      have hsl : IntSl wr.heap.size wr va xs := by
        have := HS2.out
        rw [← HXL.out] at this
        exact this.intSl (A := []) (C := [])
      have HSL := Lib.hid hsl; clear hsl
      obtain ⟨s, hs⟩ : ∃ s, s = xs.sum := ⟨_, rfl⟩
      by_cases h20 : xs.sum > 20
      · have he : aStep 20 (xs, hv) = (xs.map (fun x => x / 2), hv + 1) := if_pos h20
        rw [he] at hnx hix
        have HNX := Lib.hid hnx; clear hnx
        have HIX := Lib.hid hix; clear hix he
        have hd2 : decide ((20 : Int) < s) = true := decide_eq_true (by omega)
        have HS := Lib.hid hs; clear hs
        have H20 := Lib.hid h20; clear h20
        go_wp2_with fail
        refine (aimdSum_any _ _ _ _ xs _ HSL.out HXL.out.symm (by rw [HXL.out]; omega) (fun x hx => ⟨(HBD.out x hx).1, Int.le_trans (HBD.out x hx).2 (by decide)⟩)).mono ?_
        rintro e w' ⟨rfl, rfl⟩
        rw [← HS.out]
        go_wp2
        go_loopg [38] n (fun gk i wr => ∃ j : Nat, gk + j = n ∧ i = .int .i64 j ∧ Sep g wr [Ent.ints 3 (.slice va n vc) (mixed (fun x => x / 2) xs j)] ∧ Below g w wr)
        case atStart => exact ⟨0, rfl, rfl, by rw [mixed_zero]; exact HS2.out, HB2.out⟩
        case round =>
          obtain ⟨gj, rfl⟩ : ∃ gj, gj = gk := ⟨_, rfl⟩
          obtain ⟨j, hgj, rfl, hsep, hbel⟩ := hrel
          by_cases hlt : j < n
          · obtain ⟨x, hx⟩ : ∃ x, xs[j]? = some x := ⟨_, List.getElem?_eq_getElem (by have := HXL.out; omega)⟩
            have hml : (mixed (fun x => x / 2) xs j).length = n := by rw [mixed_len]; exact HXL.out
            obtain ⟨b, off, rfl, hbg, c1, c2, hset⟩ := intsN_at (A := []) (C := []) hsep hml (mixed_get hx)
            have hset := hset (x / 2)
            rw [mixed_set hx] at hset
            have hbs := hbel.setCell (p := ⟨b, off + j, none⟩) hbg (.int .i64 (x / 2))
            have hxb := HBD.out x (List.mem_iff_getElem?.2 ⟨j, hx⟩)
            have HSET := Lib.hid hset
            have HBS := Lib.hid hbs
            clear hset hbs hsep hbel hml hx
            go_wp2_with fail
            refine (aimdHalf_any x _ hxb.1 (by omega)).mono ?_
            rintro e w' ⟨rfl, rfl⟩
            go_wp2
            go_roundg (gj - 1)
            case measure => omega
            case rel => exact ⟨j + 1, by omega, by go_num, HSET.out, HBS.out⟩
          · rw [mixed_end (by have := HXL.out; omega)] at hsep
            have HSE := Lib.hid hsep; clear hsep
            have HBE := Lib.hid hbel; clear hbel
            go_wp2
            go_roundg (gi - 1)
            case measure => omega
            case rel => exact ⟨k + 1, xs.map (fun x => x / 2), _, by omega, by go_num, by first | rfl | go_num, HNX.out, HIX.out, HSE.out, HBE.out⟩
      · have he : aStep 20 (xs, hv) = (xs.map (fun x => x + 1), hv) := if_neg h20
        rw [he] at hnx hix
        have HNX := Lib.hid hnx; clear hnx
        have HIX := Lib.hid hix; clear hix he
        have hd2 : decide ((20 : Int) < s) = false := decide_eq_false (by omega)
        have HS := Lib.hid hs; clear hs
        have H20 := Lib.hid h20; clear h20
        go_wp2_with fail
        refine (aimdSum_any _ _ _ _ xs _ HSL.out HXL.out.symm (by rw [HXL.out]; omega) (fun x hx => ⟨(HBD.out x hx).1, Int.le_trans (HBD.out x hx).2 (by decide)⟩)).mono ?_
        rintro e w' ⟨rfl, rfl⟩
        rw [← HS.out]
        go_wp2
        go_loopg [38] n (fun gk i wr => ∃ j : Nat, gk + j = n ∧ i = .int .i64 j ∧ Sep g wr [Ent.ints 3 (.slice va n vc) (mixed (fun x => x + 1) xs j)] ∧ Below g w wr)
        case atStart => exact ⟨0, rfl, rfl, by rw [mixed_zero]; exact HS2.out, HB2.out⟩
        case round =>
          obtain ⟨gj, rfl⟩ : ∃ gj, gj = gk := ⟨_, rfl⟩
          obtain ⟨j, hgj, rfl, hsep, hbel⟩ := hrel
          by_cases hlt : j < n
          · obtain ⟨x, hx⟩ : ∃ x, xs[j]? = some x := ⟨_, List.getElem?_eq_getElem (by have := HXL.out; omega)⟩
            have hml : (mixed (fun x => x + 1) xs j).length = n := by rw [mixed_len]; exact HXL.out
            obtain ⟨b, off, rfl, hbg, c1, c2, hset⟩ := intsN_at (A := []) (C := []) hsep hml (mixed_get hx)
            have hset := hset (x + 1)
            rw [mixed_set hx] at hset
            have hbs := hbel.setCell (p := ⟨b, off + j, none⟩) hbg (.int .i64 (x + 1))
            have hxb := HBD.out x (List.mem_iff_getElem?.2 ⟨j, hx⟩)
            have HSET := Lib.hid hset
            have HBS := Lib.hid hbs
            clear hset hbs hsep hbel hml hx
            go_wp2_with fail
            refine (aimdInc_any x _ hxb.1 (by omega)).mono ?_
            rintro e w' ⟨rfl, rfl⟩
            go_wp2
            go_roundg (gj - 1)
            case measure => omega
            case rel => exact ⟨j + 1, by omega, by go_num, HSET.out, HBS.out⟩
          · rw [mixed_end (by have := HXL.out; omega)] at hsep
            have HSE := Lib.hid hsep; clear hsep
            have HBE := Lib.hid hbel; clear hbel
            go_wp2
            go_roundg (gi - 1)
            case measure => omega
            case rel => exact ⟨k + 1, xs.map (fun x => x + 1), _, by omega, by go_num, by first | rfl | go_num, HNX.out, HIX.out, HSE.out, HBE.out⟩
    · obtain rfl : gi = 0 := by omega
      have hf : fin = (xs, hv) := hrun.out.symm
      subst hf
      go_wp2
      go_ret3
      exact ⟨_, rfl, HS2.out, HB2.out⟩
theorem aimdRun_err (ao : Option Addr) (len ac B : Nat) (l : List Int) (w : World) (hA : IntSl B w ao l) (hlen : len = l.length) (hl : l.length ≤ 9223372036854775807) (h : ¬ aCode l = 0) :
    Calls Try.prog 20 #[.slice ao len ac, .int .i64 20, .int .i64 400] w fun e w' => e = .returned (.tuple #[.slice none 0 0, .int .i64 0, .iface 57 (.int .i64 (aCode l))]) ∧ w = w' := by
  subst hlen
  have HA := Lib.hid hA; clear hA
  obtain ⟨c, hc⟩ : ∃ c, c = aCode l := ⟨_, rfl⟩
  rw [← hc] at h ⊢
  have HC := Lib.hid hc; clear hc
  have H := Lib.hid h; clear h
  go_enter Try.func20, Try.ntmps20
  go_wp2_with fail
  refine (aimdCheck_any _ _ _ _ l _ HA.out rfl (by omega)).mono ?_
  rintro e w' ⟨rfl, rfl⟩
  rw [← HC.out, errV_not H.out]
  go_wp2
  go_ret3
  exact ⟨rfl, rfl⟩
end Go.Proofs.Ytciolkmhafdlpaa
