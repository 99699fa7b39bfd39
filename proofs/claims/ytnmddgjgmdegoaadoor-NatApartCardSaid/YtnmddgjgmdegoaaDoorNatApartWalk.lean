/- NatApart returns true: no two places have one port, and no more ports are lent than there are. -/
import Derived.Test.YtnmddgjgmdegoaaDoorNatAny
import Derived.Test.YtnmddgjgmdegoaaDoorNatLaws
import Derived.Test.YtnmddgjgmdegoaaDoorPlLaw
import Derived.Test.YtnmddgjgmdegoaaDoorIn4
import Derived.Deep.RegionHeld3
namespace Go.Proofs.YtnmddgjgmdegoaaDoor
open Go.RowKit Go.Maps
set_option linter.unusedVariables false
set_option maxRecDepth 100000

theorem StpsB.ok {B : Nat} {w : World} {rs : List Stp} (h : StpsB B w rs) : StpsOk B w rs := fun r hr => (h r hr).1
theorem StpsB.on {w w' : World} {rs : List Stp} (h : StpsB w.heap.size w rs) (hb : Below w.heap.size w w') : StpsB w'.heap.size w' rs := fun r hr => ⟨⟨((h r hr).1.1.below hb).mono hb.size, (h r hr).1.2⟩, (h r hr).2⟩
theorem rowOn {w w' : World} {ao : Option Addr} {n : Nat} {L : List (List Value)} (h : RowSl w.heap.size w ao n L) (hb : Below w.heap.size w w') : RowSl w'.heap.size w' ao n L := by
  intro j cs hj
  obtain ⟨b, off, h1, h2, h3⟩ := (h.below hb) j cs hj
  exact ⟨b, off, h1, Nat.lt_of_lt_of_le h2 hb.size, h3⟩
theorem eq_same {a b : Int} {p q : Pl} {low many : Int} {M : NatM} (h : NatOk low many M) (hp : (a, p) ∈ M) (hq : (b, q) ∈ M) : (a = b ↔ p = q) :=
  ⟨fun e => congrArg Prod.snd (nodup_same h.ports hp hq e), fun e => congrArg Prod.fst (nodup_same h.places hp hq e)⟩
set_option maxHeartbeats 4000000 in
theorem natApart_walk (low many : Int) (ao : Option Addr) (ac : Nat) (rs : List Stp) (pa pb qa qb : Int) (w : World) (hdoor : Door w) (_ : -9223372036854775808 ≤ low ∧ low ≤ 9223372036854775807) (_ : -9223372036854775808 ≤ many ∧ many ≤ 9223372036854775807)
    (hA : RowSl w.heap.size w ao 1 (rs.map stpC)) (hac : rs.length ≤ ac) (hmax : ac ≤ maxLen) (hr : StpsB w.heap.size w rs) (hpl : PlGood (pa, pb)) (hql : PlGood (qa, qb)) :
    Calls Tryd.prog 4 #[.int .i64 low, .int .i64 many, .slice ao rs.length ac, .agg #[.int .i64 pa, .int .i64 pb], .agg #[.int .i64 qa, .int .i64 qb]] w fun e w' => e = .returned (.bool true) ∧ Below w.heap.size w w' := by
  unfold maxLen at hmax
  have hb0 := ((Below.refl w.heap.size w).alloc (Nat.le_refl _) (.cells #[.int .i64 pa, .int .i64 pb] 24)).alloc (by simp) (.cells #[.int .i64 qa, .int .i64 qb] 24)
  have hx := ((Sep.nil w.heap.size w).blkNew (Nat.le_refl _) #[.int .i64 pa, .int .i64 pb] 24).blkNew (by simp) #[.int .i64 qa, .int .i64 qb] 24
  rw [show (w.alloc (.cells #[.int .i64 pa, .int .i64 pb] 24)).heap.size = w.heap.size + 1 by simp] at hx
  obtain ⟨gp, hgp⟩ : ∃ gp, gp = w.heap.size := ⟨_, rfl⟩
  obtain ⟨gq, hgq⟩ : ∃ gq, gq = w.heap.size + 1 := ⟨_, rfl⟩
  obtain ⟨w0, hw0⟩ : ∃ w0, w0 = (w.alloc (.cells #[.int .i64 pa, .int .i64 pb] 24)).alloc (.cells #[.int .i64 qa, .int .i64 qb] 24) := ⟨_, rfl⟩
  rw [← hw0] at hx hb0
  rw [← hgq] at hx
  have p0 : w0.cell? ⟨gp, 0, none⟩ = some (.int .i64 pa) := by rw [hgp]; exact (Sep.blkAt (A := [_]) hx (j := 0) rfl).1
  have p1 : w0.cell? ⟨gp, 1, none⟩ = some (.int .i64 pb) := by rw [hgp]; exact (Sep.blkAt (A := [_]) hx (j := 1) rfl).1
  have q0 : w0.cell? ⟨gq, 0, none⟩ = some (.int .i64 qa) := (Sep.blkAt (A := []) hx (j := 0) rfl).1
  have q1 : w0.cell? ⟨gq, 1, none⟩ = some (.int .i64 qb) := (Sep.blkAt (A := []) hx (j := 1) rfl).1
  have hdoor0 : Door w0 := hdoor.on hb0
  have HFACT := Lib.hid (natFact_any w0.heap.size w0 w0 (saysC 4 (by decide) w0 hdoor0) (Nat.le_refl _) (Below.refl _ _))
  have HA := Lib.hid (rowOn hA hb0)
  have HR := Lib.hid (hr.on hb0)
  have HGE := Lib.hid hb0.size
  have HB00 := Lib.hid hb0
  have hp : ∀ w', Below w0.heap.size w0 w' → (w'.cell? ⟨gp, 0, none⟩ = some (.int .i64 pa) ∧ w'.cell? ⟨gp, 1, none⟩ = some (.int .i64 pb)) ∧ w'.cell? ⟨gq, 0, none⟩ = some (.int .i64 qa) ∧ w'.cell? ⟨gq, 1, none⟩ = some (.int .i64 qb) := fun w' h =>
    ⟨⟨(h.cell (p := ⟨gp, 0, none⟩) (World.block_lt_of_cell? w0 _ p0)).trans p0, (h.cell (p := ⟨gp, 1, none⟩) (World.block_lt_of_cell? w0 _ p1)).trans p1⟩, (h.cell (p := ⟨gq, 0, none⟩) (World.block_lt_of_cell? w0 _ q0)).trans q0, (h.cell (p := ⟨gq, 1, none⟩) (World.block_lt_of_cell? w0 _ q1)).trans q1⟩
  have HPC := Lib.hid hp
  obtain ⟨G, hG⟩ : ∃ G, G = w0.heap.size := ⟨_, rfl⟩
  rw [← hG] at HFACT HA HR HGE HPC
  have HG := Lib.hid hG
  have HW0 := Lib.hid hw0
  have HGP := Lib.hid hgp
  have HGQ := Lib.hid hgq
  clear hG hw0 hgp hgq hp p0 p1 q0 q1 hb0 hx hdoor hdoor0 hA hr
  go_enter Tryd.func4, Tryd.ntmps4
  go_upto_region 1 with fail
  rw [← HW0.out, ← HGQ.out, ← HGP.out]
  clear HW0
  go_wp2_with fail
  refine HFACT.out.mono ?_
  rintro e w1 ⟨rfl, hb⟩
  have HB1 := Lib.hid hb
  clear hb HFACT
  by_cases hlm : LmOk low many
  · obtain ⟨n, rfl⟩ := Int.eq_ofNat_of_zero_le (by have := hlm.2.1.1; omega : 0 ≤ many)
    have HLM := Lib.hid hlm
    have hl1 := hlm.1.1
    have hl2 := hlm.1.2
    have hn1 : 1 ≤ n := by have := hlm.2.1.1; omega
    have hn2 : n ≤ 30 := by have := hlm.2.1.2; omega
    have hln := hlm.2.2
    clear hlm
    have hg1 : G ≤ w1.heap.size := by have := HB1.out.size; rw [← HG.out] at this; exact this
    go_wp2_with fail
    refine (natNew_ok low n w1 HLM.out).mono ?_
    rintro e w2 ⟨g, rfl, ht, hb⟩
    have HT2 := Lib.hid (ht.mono hg1)
    have HB2 := Lib.hid (HB1.out.trans (hb.mono hg1))
    have hg2 : G ≤ w2.heap.size := by have := HB2.out.size; rw [← HG.out] at this; exact this
    clear ht hb
    go_wp2_with fail
    refine (lent_any G g low n [] [] ao ac rs w2 HT2.out hg2 (HA.out.below HB2.out) (fun r hr => ⟨(HR.out r hr).1.1.below HB2.out, (HR.out r hr).1.2⟩) (by omega) (fun r hr => (HR.out r hr).2)).mono ?_
    rintro e w3 ⟨rfl, ⟨M, ht⟩, hb⟩
    have HT3 := Lib.hid ht
    have HB3 := Lib.hid (HB2.out.trans hb)
    have hg3 : G ≤ w3.heap.size := by have := HB3.out.size; rw [← HG.out] at this; exact this
    clear ht hb HT2 HB2 hg2 HB1 hg1
    obtain ⟨⟨p0, p1⟩, -, -⟩ := HPC.out _ HB3.out
    have hn := natOut_any G g low (n : Int) M [] (pa, pb) w3 HT3.out hg3
    unfold plV at hn
    have hz1 := natOut_zero HT3.out.ok (p := (pa, pb))
    obtain ⟨R, hR⟩ : ∃ R, R = natOut low (n : Int) M (pa, pb) := ⟨_, rfl⟩
    rw [← hR] at hn hz1
    obtain ⟨M1, r1, c1⟩ := R
    simp only at hn hz1
    have HN := Lib.hid hn
    have HZ1 := Lib.hid hz1
    clear hn hz1 hR
    go_wp2_with fail
    refine HN.out.mono ?_
    rintro e w4 ⟨rfl, ht, hb⟩
    have HT4 := Lib.hid ht
    have HB4 := Lib.hid (HB3.out.trans hb)
    have hg4 : G ≤ w4.heap.size := by have := HB4.out.size; rw [← HG.out] at this; exact this
    clear ht hb HN p0 p1 HT3 HB3 hg3
    obtain ⟨-, q0, q1⟩ := HPC.out _ HB4.out
    have hn := natOut_any G g low (n : Int) M1 [] (qa, qb) w4 HT4.out hg4
    unfold plV at hn
    have hz2 := natOut_zero HT4.out.ok (p := (qa, qb))
    have hk := natOut_keep (low := low) (many := (n : Int)) (M := M1) (p := (qa, qb)) (x := (r1, (pa, pb)))
    obtain ⟨R, hR⟩ : ∃ R, R = natOut low (n : Int) M1 (qa, qb) := ⟨_, rfl⟩
    rw [← hR] at hn hz2 hk
    obtain ⟨M2, r2, c2⟩ := R
    simp only at hn hz2 hk
    have HN := Lib.hid hn
    have HOK2 := Lib.hid (fun (h1 : c1 = 0) (h2 : c2 = 0) => And.intro (hk (HZ1.out h1).2) (hz2 h2).2)
    clear hn hz2 hk hR
    go_wp2_with fail
    refine HN.out.mono ?_
    rintro e w5 ⟨rfl, ht, hb⟩
    have HT5 := Lib.hid ht
    have HB5 := Lib.hid (HB4.out.trans hb)
    have hg5 : G ≤ w5.heap.size := by have := HB5.out.size; rw [← HG.out] at this; exact this
    clear ht hb HN q0 q1 HT4 HB4 hg4
    go_wp2_with fail
    refine (natLent_any G g low (n : Int) M2 [] w5 HT5.out hg5).mono ?_
    rintro e w6 ⟨v, rfl, hs, hb⟩
    rw [Int.toNat_natCast] at hs
    obtain ⟨L, hL⟩ : ∃ L, L = lentTo M2 low n := ⟨_, rfl⟩
    have hll : L.length ≤ n := by rw [hL]; exact lentTo_len _ _ _
    have HLM2 := Lib.hid (fun x (hx : x ∈ L) => lentTo_mem (M := M2) (low := low) (k := n) (by rw [← hL]; exact hx))
    have HSORT := Lib.hid (show L.Pairwise (· < ·) by rw [hL]; exact lentTo_sorted)
    rw [← hL] at hs
    obtain ⟨av, cv, rfl, -⟩ := Sep.intsShape (A := []) (C := []) hs
    have HT6 := Lib.hid (HT5.out.kept hb)
    have HB6 := Lib.hid (HB5.out.trans (hb.mono hg5))
    have hg6 : G ≤ w6.heap.size := by have := HB6.out.size; rw [← HG.out] at this; exact this
    have HI6 := Lib.hid (Sep.intSl (A := []) (C := []) hs)
    have hgt : decide ((n : Int) < (L.length : Int)) = false := decide_eq_false (by omega)
    have hgt2 : decide (n < L.length) = false := decide_eq_false (by omega)
    clear hb hs hL HT5 HB5 hg5
    go_wp2
    clear hgt hgt2
    go_loopg [19] L.length (fun gk iv wr => ∃ k : Nat, gk + k = L.length ∧ iv = .int .i64 k ∧ NatT G wr g low (n : Int) M2 [] ∧ Below G w0 wr ∧ Hid (IntSl w6.heap.size wr av L) ∧ Below w6.heap.size w6 wr)
    case atStart => exact ⟨0, rfl, rfl, HT6.out, HB6.out, HI6, Below.refl _ _⟩
    case round =>
      obtain ⟨gi, rfl⟩ : ∃ gi, gi = gk := ⟨_, rfl⟩
      obtain ⟨k, hgk, rfl, ht, hbel, HI, hb6⟩ := hrel
      have HT8 := Lib.hid ht
      have HB8 := Lib.hid hbel
      have HC8 := Lib.hid hb6
      clear ht hbel hb6
      obtain ⟨w8, hw8⟩ : ∃ w8, w8 = wr := ⟨_, rfl⟩
      obtain rfl := hw8
      have hg8 : G ≤ w8.heap.size := by have := HB8.out.size; rw [← HG.out] at this; exact this
      by_cases hlt : k < L.length
      · have hki : (k : Int) < (L.length : Int) := by omega
        have hk0 : (0 : Int) ≤ (k : Int) := by omega
        obtain ⟨x, hx⟩ : ∃ x, L[k]? = some x := ⟨_, List.getElem?_eq_getElem hlt⟩
        obtain ⟨hxl, hxh, hxn⟩ := HLM2.out x (List.mem_iff_getElem?.2 ⟨k, hx⟩)
        obtain ⟨⟨xa, xb⟩, hpx⟩ : ∃ y, placeOf M2 x = some y := by
          cases hp : placeOf M2 x with
          | none => exact absurd hp hxn
          | some y => exact ⟨y, rfl⟩
        obtain ⟨bl, ol, rfl, hbl, d0⟩ := HI.out k x hx
        have hi := natIn_some G g low (n : Int) M2 [] x (xa, xb) w8 HT8.out (by omega) hpx
        unfold plV at hi
        have HN := Lib.hid hi
        have HPX := Lib.hid hpx
        have HX := Lib.hid hx
        clear hi hpx hxn
        go_wp2_with fail
        refine HN.out.mono ?_
        rintro e w9 ⟨rfl, hb⟩
        have hb9 := hb.trans ((Below.refl w8.heap.size w9).alloc hb.size (.cells #[.int .i64 xa, .int .i64 xb] 24))
        have hz := (Sep.nil w9.heap.size w9).blkNew (Nat.le_refl _) #[.int .i64 xa, .int .i64 xb] 24
        have hT10 := (HT8.out.kept hb).kept (below_alloc w9 (.cells #[.int .i64 xa, .int .i64 xb] 24))
        have hB10 := HB8.out.trans (hb9.mono hg8)
        have hC10 := HC8.out.trans (hb9.mono HC8.out.size)
        obtain ⟨gx, hgx⟩ : ∃ gx, gx = w9.heap.size := ⟨_, rfl⟩
        rw [← hgx] at hz
        have HT10 := Lib.hid hT10
        have HB10 := Lib.hid hB10
        have HC10 := Lib.hid hC10
        have HZ := Lib.hid hz
        have HGX := Lib.hid hgx
        have HLC : Hid (∀ (j : Nat) (y : Int), L[j]? = some y → ∀ w', Below w6.heap.size w6 w' → w'.cell? ⟨bl, ol + j, none⟩ = some (.int .i64 y)) := by
          intro j y hj w' h
          obtain ⟨b, off, he, hb, hc⟩ := HI6.out j y hj
          cases he
          exact (h.cell (p := ⟨bl, ol + j, none⟩) hb).trans hc
        clear hb hb9 hz hT10 hB10 hC10 hgx HT8 HB8 HC8 hg8 d0 HN HI
        go_upto_region 17 with fail
        rw [← HGX.out]
        generalize w9.alloc (.cells #[.int .i64 xa, .int .i64 xb] 24) = w10 at *
        have hxc : ∀ w', Below w10.heap.size w10 w' → w'.cell? ⟨gx, 0, none⟩ = some (.int .i64 xa) ∧ w'.cell? ⟨gx, 1, none⟩ = some (.int .i64 xb) := fun w' h =>
          ⟨(Sep.blkAt (A := []) (HZ.out.kept h) (j := 0) rfl).1, (Sep.blkAt (A := []) (HZ.out.kept h) (j := 1) rfl).1⟩
        have HXC := Lib.hid hxc
        clear hxc
        go_cut [103] (fun s wx => s = .bool false ∧ ∃ m, wx = w10.drewN m)
        case first =>
          rcases Nat.eq_zero_or_pos k with h0 | h0
          · have hk1 : decide ((0 : Int) < (k : Int)) = false := decide_eq_false (by omega)
            have hk2 : decide (0 < k) = false := decide_eq_false (by omega)
            clear h0
            go_quiet (fail)
            go_wp2_with fail
            go_meet
            exact ⟨rfl, nq, rfl⟩
          · obtain ⟨m, rfl⟩ : ∃ m, k = m + 1 := ⟨k - 1, by omega⟩
            obtain ⟨y, hy⟩ : ∃ y, L[m]? = some y := ⟨_, List.getElem?_eq_getElem (by omega)⟩
            have hyx := pairwise_at HSORT.out hy HX.out (by omega)
            have d1 := HLC.out (m + 1) x HX.out _ HC10.out
            have d2 := HLC.out m y hy _ HC10.out
            have hxy : decide (x ≤ y) = false := decide_eq_false (by omega)
            have hk1 : decide ((0 : Int) < ((m + 1 : Nat) : Int)) = true := decide_eq_true (by omega)
            have hm0 : (0 : Int) ≤ (m : Int) := by omega
            have hml : (m : Int) < (L.length : Int) := by omega
            clear h0 hy
            go_quiet (fail)
            go_wp2_with fail
            go_meet
            exact ⟨rfl, nq, rfl⟩
        case rest =>
          obtain ⟨rfl, m, hm⟩ := hcut
          have HT11 := Lib.hid (show NatT G wc g low (n : Int) M2 [] from by rw [hm]; obtain ⟨h1, mp, mq, e1, c1, e2, c2, m1, m2, hs⟩ := HT10.out; exact ⟨h1, mp, mq, e1, c1, e2, c2, m1, m2, hs.drewN m⟩)
          have HB11 := Lib.hid (show Below G w0 wc by rw [hm]; exact HB10.out.trans (below_drewN _ _ m))
          have HC11 := Lib.hid (show Below w10.heap.size w10 wc by rw [hm]; exact below_drewN _ _ m)
          clear hm HT10 HB10
          go_wp2
          go_loopw [22] (fun jv wr => ∃ j : Nat, j ≤ k ∧ jv = .int .i64 j ∧ NatT G wr g low (n : Int) M2 [] ∧ Below G w0 wr ∧ Below w10.heap.size w10 wr) (fun jv _ => k - (intOf jv).toNat)
          case atStart => exact ⟨0, Nat.zero_le _, rfl, HT11.out, HB11.out, HC11.out⟩
          case round =>
            obtain ⟨j, hj, rfl, ht, hbel, hx10⟩ := hrel
            clear HT11 HB11 HC11
            have HT12 := Lib.hid ht
            have HB12 := Lib.hid hbel
            have HC12 := Lib.hid hx10
            clear ht hbel hx10
            obtain ⟨w12, hw12⟩ : ∃ w12, w12 = wr := ⟨_, rfl⟩
            obtain rfl := hw12
            have hg12 : G ≤ w12.heap.size := by have := HB12.out.size; rw [← HG.out] at this; exact this
            by_cases hjk : j < k
            · have hji : (j : Int) < (k : Int) := by omega
              have hj0 : (0 : Int) ≤ (j : Int) := by omega
              have hjl : (j : Int) < (L.length : Int) := by omega
              obtain ⟨y, hy⟩ : ∃ y, L[j]? = some y := ⟨_, List.getElem?_eq_getElem (by omega)⟩
              have hyx := pairwise_at HSORT.out hy HX.out hjk
              obtain ⟨hyl, hyh, hyn⟩ := HLM2.out y (List.mem_iff_getElem?.2 ⟨j, hy⟩)
              obtain ⟨⟨ya, yb⟩, hpy⟩ : ∃ z, placeOf M2 y = some z := by
                cases hp : placeOf M2 y with
                | none => exact absurd hp hyn
                | some z => exact ⟨z, rfl⟩
              have hdiff : ¬ ((xa, xb) : Pl) = (ya, yb) := fun e => by
                have := (eq_same HT12.out.ok (placeOf_mem HPX.out) (placeOf_mem hpy)).2 e
                omega
              have d1 := HLC.out j y hy _ (HC10.out.trans (HC12.out.mono HC10.out.size))
              have hi := natIn_some G g low (n : Int) M2 [] y (ya, yb) w12 HT12.out (by omega) hpy
              unfold plV at hi
              have HN := Lib.hid hi
              clear hi hpy hyn hy hyx
              go_wp2_with fail
              refine HN.out.mono ?_
              rintro e w13 ⟨rfl, hb⟩
              have hb13 := hb.trans ((Below.refl w12.heap.size w13).alloc hb.size (.cells #[.int .i64 ya, .int .i64 yb] 24))
              have HT13 := Lib.hid ((HT12.out.kept hb).kept (below_alloc w13 (.cells #[.int .i64 ya, .int .i64 yb] 24)))
              have HB13 := Lib.hid (HB12.out.trans (hb13.mono hg12))
              have HC13 := Lib.hid (HC12.out.trans (hb13.mono HC12.out.size))
              obtain ⟨x0, x1⟩ := HXC.out _ HC13.out
              clear hb hb13 d1 HN HT12 HB12 HC12 hg12
              by_cases h1 : xa = ya
              · have h2 : ¬ xb = yb := fun e => hdiff (by rw [h1, e])
                have e1 : (xa == ya) = true := by simp [h1]
                have e2 : (xb == yb) = false := by simp [h2]
                clear h1 h2 hdiff
                go_wp2
                go_roundw
                case rel => exact ⟨j + 1, by omega, by go_num, HT13.out, HB13.out, HC13.out⟩
                case measure => simp [intOf]; omega
              · have e1 : (xa == ya) = false := by simp [h1]
                clear h1 hdiff
                go_wp2
                go_roundw
                case rel => exact ⟨j + 1, by omega, by go_num, HT13.out, HB13.out, HC13.out⟩
                case measure => simp [intOf]; omega
            · have hji : decide ((j : Int) < (k : Int)) = false := decide_eq_false (by omega)
              have hji2 : decide (j < k) = false := decide_eq_false hjk
              have HCE := Lib.hid (HC10.out.trans (HC12.out.mono HC10.out.size))
              clear hjk
              go_wp2
              go_roundg (gi - 1)
              case measure => omega
              case rel => exact ⟨k + 1, by omega, by go_num, HT12.out, HB12.out, HI6.out.below HCE.out, HCE.out⟩
      · have hki : decide ((k : Int) < (L.length : Int)) = false := decide_eq_false (by omega)
        have hki2 : decide (k < L.length) = false := decide_eq_false hlt
        clear hlt
        obtain ⟨⟨p0, p1⟩, q0, q1⟩ := HPC.out _ HB8.out
        by_cases hc1 : c1 = 0
        · by_cases hc2 : c2 = 0
          · obtain ⟨hm1, hm2⟩ := HOK2.out hc1 hc2
            have hiff := eq_same HT8.out.ok hm1 hm2
            subst hc1 hc2
            simp only [errV_zero]
            by_cases hpq : r1 = r2
            · have h1 := hiff.1 hpq
              have h2 : pa = qa := congrArg Prod.fst h1
              have h3 : pb = qb := congrArg Prod.snd h1
              have e1 : (r1 == r2) = true := by simp [hpq]
              have e2 : (pa == qa) = true := by simp [h2]
              have e3 : (pb == qb) = true := by simp [h3]
              clear hiff h1 hm1 hm2 hpq h2 h3
              go_wp2
              go_ret
              exact ⟨rfl, HB00.out.trans (HB8.out.mono HGE.out)⟩
            · have h1 : ¬ (pa, pb) = (qa, qb) := fun e => hpq (hiff.2 e)
              have e1 : (r1 == r2) = false := by simp [hpq]
              by_cases h2 : pa = qa
              · have h3 : ¬ pb = qb := fun e => h1 (by rw [h2, e])
                have e2 : (pa == qa) = true := by simp [h2]
                have e3 : (pb == qb) = false := by simp [h3]
                clear hiff h1 hm1 hm2 hpq h2 h3
                go_wp2
                go_ret
                exact ⟨rfl, HB00.out.trans (HB8.out.mono HGE.out)⟩
              · have e2 : (pa == qa) = false := by simp [h2]
                clear hiff h1 hm1 hm2 hpq h2
                go_wp2
                go_ret
                exact ⟨rfl, HB00.out.trans (HB8.out.mono HGE.out)⟩
          · simp only [errV_not hc2]
            by_cases hc1' : c1 = 0
            · subst hc1'
              simp only [errV_zero]
              go_wp2
              go_ret
              exact ⟨rfl, HB00.out.trans (HB8.out.mono HGE.out)⟩
            · exact absurd hc1 hc1'
        · simp only [errV_not hc1]
          go_wp2
          go_ret
          exact ⟨rfl, HB00.out.trans (HB8.out.mono HGE.out)⟩
  · have HNO := Lib.hid hlm
    have HNW := Lib.hid (natNew_no low many w1 hlm)
    go_wp2_with fail
    refine HNW.out.mono ?_
    rintro e w' ⟨rfl, rfl⟩
    by_cases h1 : 0 ≤ low ∧ low ≤ 65535
    · by_cases h2 : 1 ≤ many ∧ many ≤ 30
      · have h3 : decide (65536 - many < low) = true := decide_eq_true (by have := HNO.out; unfold LmOk at this; omega)
        have h4 : 1 ≤ many := h2.1
        have h5 : many ≤ 30 := h2.2
        clear hlm
        go_wp2_with fail
        refine (in4_yes _ _ _ _ h1.1 h1.2).mono ?_
        rintro e w' ⟨rfl, rfl⟩
        go_wp2_with fail
        refine (in4_yes _ _ _ _ h4 h5).mono ?_
        rintro e w' ⟨rfl, rfl⟩
        go_wp2
        go_ret
        exact ⟨rfl, HB00.out.trans (HB1.out.mono HGE.out)⟩
      · have H2 := Lib.hid h2
        clear h2 hlm
        go_wp2_with fail
        refine (in4_yes _ _ _ _ h1.1 h1.2).mono ?_
        rintro e w' ⟨rfl, rfl⟩
        go_wp2_with fail
        refine (in4_no _ _ _ _ H2.out).mono ?_
        rintro e w' ⟨rfl, rfl⟩
        go_wp2
        go_ret
        exact ⟨rfl, HB00.out.trans (HB1.out.mono HGE.out)⟩
    · have H1 := Lib.hid h1
      clear h1 hlm
      go_wp2_with fail
      refine (in4_no _ _ _ _ H1.out).mono ?_
      rintro e w' ⟨rfl, rfl⟩
      go_wp2
      go_ret
      exact ⟨rfl, HB00.out.trans (HB1.out.mono HGE.out)⟩
end Go.Proofs.YtnmddgjgmdegoaaDoor
