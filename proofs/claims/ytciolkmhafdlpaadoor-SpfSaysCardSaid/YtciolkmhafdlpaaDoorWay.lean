/- spf.Way: the way over first hops. -/
import Derived.Test.YtciolkmhafdlpaaDoorFromOk
import Derived.Test.YtciolkmhafdlpaaDoorHop
namespace Go.Proofs.YtciolkmhafdlpaaDoor
open Go.RowKit
set_option linter.unusedVariables false

def yCode (n : Int) (L : List Lnk) (f t : Int) : Int :=
  if vCode n L = 0 then (if ∀ y ∈ [f, t], 0 ≤ y ∧ y ≤ n - 1 then (if far (edges L) f.toNat t.toNat = 1000 then 5 else 0) else 1) else vCode n L
theorem yCode_zero {n : Int} {L : List Lnk} {f t : Int} : yCode n L f t = 0 ↔ ∃ m p q : Nat, n = (m : Int) ∧ f = (p : Int) ∧ t = (q : Int) ∧ p < m ∧ q < m ∧ VOk m L ∧ far (edges L) p q < 1000 := by
  unfold yCode
  constructor
  · intro h
    split at h
    · next hv =>
      obtain ⟨m, rfl, hk⟩ := vCode_zero.1 hv
      split at h
      · next ho =>
        have h1 := ho f (by simp)
        have h2 := ho t (by simp)
        obtain ⟨p, rfl⟩ := Int.eq_ofNat_of_zero_le h1.1
        obtain ⟨q, rfl⟩ := Int.eq_ofNat_of_zero_le h2.1
        split at h
        · omega
        · next hf =>
          have := far_le hk.net (u := p) (v := q)
          exact ⟨m, p, q, rfl, rfl, rfl, by omega, by omega, hk, by simp only [Int.toNat_natCast] at hf; omega⟩
      · omega
    · next hv => exact absurd h hv
  · rintro ⟨m, p, q, rfl, rfl, rfl, hp, hq, hv, hf⟩
    rw [if_pos (vCode_nat.2 hv), if_pos (by simp; omega), if_neg (by simp only [Int.toNat_natCast]; omega)]

set_option maxHeartbeats 1000000 in
theorem way_err (n : Int) (ao : Option Addr) (len ac B : Nat) (L : List Lnk) (f t c : Int) (w : World) (hA : RowSl B w ao 3 (L.map lnkC)) (hlen : len = L.length) (hl : L.length ≤ 9223372036854775807) (hB : B ≤ w.heap.size) (hc : c = yCode n L f t) (h0 : ¬ c = 0) :
    Calls Tryd.prog 16 #[.int .i64 n, .slice ao len ac, .int .i64 f, .int .i64 t] w fun e w' => e = .returned (.tuple #[.slice none 0 0, .iface 45 (.int .i64 c)]) ∧ Below w.heap.size w w' := by
  subst hlen
  have HA := Lib.hid hA; clear hA
  unfold yCode at hc
  by_cases hv : vCode n L = 0
  · rw [if_pos hv] at hc
    obtain ⟨m, hm, hok⟩ := vCode_zero.1 hv
    have hm1 := hok.n1
    have hm8 := hok.n8
    have HOK := Lib.hid hok; clear hok
    subst hm
    have HV := Lib.hid hv; clear hv
    have hnew : ∀ (W : World) (g : Nat) (e : TypeId), g = W.heap.size → IntSl (g + 1) (W.alloc (.cells #[.int .i64 f, .int .i64 t] e)) (some ⟨g, 0, none⟩) [f, t] := fun W g e h => by subst h; exact intSl_new W #[.int .i64 f, .int .i64 t] e [f, t] rfl
    have HNW := Lib.hid hnew; clear hnew
    by_cases ho : ∀ y ∈ [f, t], 0 ≤ y ∧ y ≤ (m : Int) - 1
    · rw [if_pos ho] at hc
      by_cases hf : far (edges L) f.toNat t.toNat = 1000
      · rw [if_pos hf] at hc
        subst hc
        clear h0
        have h1 := ho f (by simp)
        have h2 := ho t (by simp)
        have HO := Lib.hid ho; clear ho
        obtain ⟨p, rfl⟩ := Int.eq_ofNat_of_zero_le h1.1
        obtain ⟨q, rfl⟩ := Int.eq_ofNat_of_zero_le h2.1
        simp only [Int.toNat_natCast] at hf
        have hp : p < m := by omega
        have hq : q < m := by omega
        have hpq : ¬ p = q := fun h => by subst h; have := far_self HOK.out.net (u := p); omega
        have HF := Lib.hid hf; clear hf
        clear h1 h2
        have hne : ((p : Int) != (q : Int)) = true := by simp; omega
        have HPQ := Lib.hid hpq; clear hpq
        go_enter Tryd.func16, Tryd.ntmps16
        go_wp2_with fail
        refine (vCheck_any _ _ _ _ _ L _ HA.out rfl hl hB).mono ?_
        rintro e w1 ⟨rfl, hb⟩
        rw [HV.out, errV_zero]
        have HB := Lib.hid hb; clear hb
        have hsz1 := HB.out.size
        go_wp2_with fail
        refine (all_any _ _ _ _ [(p : Int), (q : Int)] 0 ((m : Int) - 1) true _ (HNW.out _ _ _ rfl) rfl (by simp) (by simpa using HO.out)).mono ?_
        rintro e w2 ⟨rfl, rfl⟩
        go_wp2
        go_loopw [11, 12] (fun _ at_ wr => at_ = .int .i64 p ∧ Below w.heap.size w wr) (fun _ _ _ => 0)
        case atStart => exact ⟨rfl, (HB.out.alloc hsz1 _).alloc (by simp; omega) _⟩
        case round =>
          obtain ⟨rfl, hbel⟩ := hrel
          have HBR := Lib.hid hbel; clear hbel
          go_wp2_with fail
          refine (from_ok m _ _ _ B L p _ (HA.out.below (HBR.out.mono hB)) rfl (Nat.le_trans hB HBR.out.size) HOK.out hp).mono ?_
          rintro e w3 ⟨vf, vh, hf, rfl, hhop, hsep, hb⟩
          obtain ⟨ah, ch, rfl, _, _⟩ := Sep.intsShape (A := [_]) hsep
          have hneg : hf q = -1 := by
            rcases hhop q hq with ⟨_, h⟩ | ⟨⟨_, h⟩, _⟩
            · exact h
            · have := HF.out; omega
          rw [arr_len] at hsep ⊢
          obtain ⟨gh, oh, rfl, _, c1, _, _⟩ := arrI_at (A := [_]) hsep hq
          rw [hneg] at c1
          have HB3 := Lib.hid (HBR.out.trans (hb.mono HBR.out.size))
          have hqi : (q : Int) < (m : Int) := by omega
          clear hsep hb hhop hneg
          go_wp2
          go_ret2
          exact ⟨rfl, HB3.out⟩
      · rw [if_neg hf] at hc; exact absurd hc h0
    · rw [if_neg ho] at hc
      subst hc
      clear h0
      have HO := Lib.hid ho; clear ho
      go_enter Tryd.func16, Tryd.ntmps16
      go_wp2_with fail
      refine (vCheck_any _ _ _ _ _ L _ HA.out rfl hl hB).mono ?_
      rintro e w1 ⟨rfl, hb⟩
      rw [HV.out, errV_zero]
      have HB := Lib.hid hb; clear hb
      have hsz1 := HB.out.size
      go_wp2_with fail
      refine (all_any _ _ _ _ [f, t] 0 ((m : Int) - 1) false _ (HNW.out _ _ _ rfl) rfl (by simp) (by simpa using HO.out)).mono ?_
      rintro e w2 ⟨rfl, rfl⟩
      go_wp2
      go_ret2
      exact ⟨rfl, HB.out.alloc hsz1 _⟩
  · rw [if_neg hv] at hc
    subst hc
    have HV := Lib.hid hv; clear hv h0
    go_enter Tryd.func16, Tryd.ntmps16
    go_wp2_with fail
    refine (vCheck_any _ _ _ _ _ L _ HA.out rfl hl hB).mono ?_
    rintro e w1 ⟨rfl, hb⟩
    rw [errV_not HV.out]
    have HB := Lib.hid hb; clear hb
    go_wp2
    go_ret2
    exact ⟨rfl, HB.out⟩

def segL (l : List Nat) (u : Nat) : List Int := List.map (fun (x : Nat) => (x : Int)) (l ++ [u])
theorem segL_snoc (l : List Nat) (u w : Nat) : segL (l ++ [u]) w = segL l u ++ [(w : Int)] := by simp [segL]
theorem segL_len (l : List Nat) (u : Nat) : (segL l u).length = l.length + 1 := by simp [segL]

set_option maxHeartbeats 2000000 in
theorem way_ok (n : Nat) (ao : Option Addr) (len ac B : Nat) (L : List Lnk) (f t : Nat) (w : World) (hA : RowSl B w ao 3 (L.map lnkC)) (hlen : len = L.length) (hB : B ≤ w.heap.size) (hok : VOk n L) (hf : f < n) (ht : t < n) (hft : far (edges L) f t < 1000) :
    Calls Tryd.prog 16 #[.int .i64 n, .slice ao len ac, .int .i64 f, .int .i64 t] w fun e w' => ∃ v l, e = .returned (.tuple #[v, .nilIface]) ∧ Seg n (edges L) t f l t ∧ l.length ≤ 1000 ∧
      Sep w.heap.size w' [Ent.ints 3 v (segL l t)] ∧ Below w.heap.size w w' := by
  subst hlen
  have hn1 := hok.n1
  have hn8 := hok.n8
  have hl32 := hok.few
  have HA := Lib.hid hA; clear hA
  have HOK := Lib.hid hok; clear hok
  obtain ⟨g, hg⟩ : ∃ g, g = w.heap.size := ⟨_, rfl⟩
  have hB0 : B ≤ g := by omega
  have HG := Lib.hid hg; clear hg
  have HFT := Lib.hid hft; clear hft
  have hin : ∀ y ∈ [(f : Int), (t : Int)], 0 ≤ y ∧ y ≤ (n : Int) - 1 := by simp; omega
  have HIN := Lib.hid hin; clear hin
  have hti : (t : Int) < (n : Int) := by omega
  go_enter Tryd.func16, Tryd.ntmps16
  go_wp2_with fail
  refine (vCheck_any _ _ _ _ _ L _ HA.out rfl (by omega) hB).mono ?_
  rintro e w1 ⟨rfl, hb⟩
  rw [vCode_nat.2 HOK.out, errV_zero]
  have HB1 := Lib.hid (show Below g w w1 by rw [HG.out]; exact hb); clear hb
  have hg1 : g ≤ w1.heap.size := by have := HB1.out.size; rw [← HG.out] at this; exact this
  go_wp2_with fail
  refine (all_any _ _ _ _ [(f : Int), (t : Int)] 0 ((n : Int) - 1) true _ (intSl_new w1 #[.int .i64 f, .int .i64 t] _ [(f : Int), (t : Int)] rfl) rfl (by simp) (by simpa using HIN.out)).mono ?_
  rintro e w2 ⟨rfl, rfl⟩
  have HB2 := Lib.hid (HB1.out.alloc hg1 (.cells #[.int .i64 f, .int .i64 t] 3))
  have hg2 : g ≤ (w1.alloc (.cells #[.int .i64 f, .int .i64 t] 3)).heap.size := by simp; omega
  generalize w1.alloc (.cells #[.int .i64 f, .int .i64 t] 3) = w2 at *
  have hs3 := (Sep.nil g w2).rowMade hg2 #[.int .i64 f] 1 1 3 rfl (by unfold maxLen; omega)
  have hs3' : Sep g (w2.alloc (.cells #[.int .i64 f] 3)) [Ent.ints 3 (.slice (some ⟨w2.heap.size, 0, none⟩) 1 1) (segL [] f)] := hs3
  have HS3 := Lib.hid hs3'
  have HB3 := Lib.hid (HB2.out.alloc hg2 (.cells #[.int .i64 f] 3))
  clear hs3 hs3'
  go_wp2
  go_loopg [11, 12] 1000 (fun gk out u wr => ∃ (l : List Nat) (x : Nat) (vv : Value), vv = out ∧ u = .int .i64 x ∧ Hid (Seg n (edges L) t f l x) ∧ x < n ∧ Hid (far (edges L) x t < 1000 ∧ far (edges L) x t ≤ (gk : Int)) ∧ l.length + gk ≤ 1000 ∧ Sep g wr [Ent.ints 3 vv (segL l x)] ∧ Below g w wr)
  case atStart => exact ⟨[], f, _, rfl, rfl, Seg.nil f, hf, ⟨HFT.out, by have := HFT.out; omega⟩, by simp, HS3.out, HB3.out⟩
  case round =>
    obtain ⟨gi, rfl⟩ : ∃ gi, gi = gk := ⟨_, rfl⟩
    obtain ⟨l, x, v, rfl, rfl, hseg, hx, hfar, hll, hsep, hbel⟩ := hrel
    have HS4 := Lib.hid hsep; clear hsep
    have HB4 := Lib.hid hbel; clear hbel
    have hg4 : g ≤ wr.heap.size := by have := HB4.out.size; rw [← HG.out] at this; exact this
    by_cases hxt : x = t
    · subst hxt
      have hne : ((x : Int) != (x : Int)) = false := by simp
      go_wp2
      go_ret2
      exact ⟨_, l, rfl, hseg.out, by omega, by have := HS4.out; rw [HG.out] at this; exact this, by have := HB4.out; rw [HG.out] at this; exact this⟩
    · have hne : ((x : Int) != (t : Int)) = true := by simp; omega
      have HXT := Lib.hid hxt; clear hxt
      go_wp2_with fail
      refine (from_ok n _ _ _ B L x _ (HA.out.below (HB4.out.mono hB0)) rfl (Nat.le_trans hB0 hg4) HOK.out hx).mono ?_
      rintro e w5 ⟨vf, vh, hf', rfl, hhop, hsep, hb⟩
      obtain ⟨ah, ch, rfl, _, _⟩ := Sep.intsShape (A := [_]) hsep
      have hs5 := Sep.join HS4.out hg4 hb hsep
      rw [arr_len] at hsep hs5 ⊢
      obtain ⟨gh, oh, rfl, _, c1, _, _⟩ := arrI_at (A := [_]) hsep ht
      have hh := hhop t ht
      rcases hh with ⟨h | h, _⟩ | ⟨_, y, hy, hyn, ⟨c, he, hc⟩, _⟩
      · exact absurd h HXT.out
      · have := hfar.out.1; omega
      · have hh := hhop t ht
        rw [hy] at c1 hh
        have hstep := Seg.snoc hseg.out HXT.out hfar.out.1 hh
        have hdom := HOK.out.net.dom _ _ _ he
        have hlt : far (edges L) y t < 1000 ∧ far (edges L) y t ≤ ((gi - 1 : Nat) : Int) ∧ 0 < gi := by
          have := hfar.out
          have := far_nonneg HOK.out.net (u := y) (v := t)
          omega
        have HST := Lib.hid hstep
        have HLT := Lib.hid hlt
        have HS5 := Lib.hid (hs5.sub (L' := [_]) (List.Sublist.cons _ (List.Sublist.cons _ (List.Sublist.refl _))))
        have HB5 := Lib.hid (HB4.out.trans (hb.mono hg4))
        have hg5 : g ≤ w5.heap.size := by have := HB5.out.size; rw [← HG.out] at this; exact this
        have hsl : (segL l x).length ≤ 1000000000 := by rw [segL_len]; omega
        clear hsep hs5 hb hhop hh hy he hc hstep hlt
        go_wp2_with (at_builtin; refine wpList_append_int ?_ (.tmp 57) (.tmp 59) ?_ elemInt8 (A := []) ?_ HS5.out ?_ ?_ ?_ ?_; rfl; rfl; rfl; exact hg5; rfl; exact hsl)
        intro v' w6 hs hb
        rw [← segL_snoc] at hs
        have HS6 := Lib.hid hs
        have HB6 := Lib.hid (HB5.out.trans hb)
        clear hs hb
        go_wp2
        go_roundg (gi - 1)
        case measure => have := HLT.out; omega
        case rel => exact ⟨l ++ [x], y, _, rfl, by first | rfl | go_num, HST.out, hyn, ⟨HLT.out.1, HLT.out.2.1⟩, by have := HLT.out; simp; omega, HS6.out, HB6.out⟩
end Go.Proofs.YtciolkmhafdlpaaDoor
