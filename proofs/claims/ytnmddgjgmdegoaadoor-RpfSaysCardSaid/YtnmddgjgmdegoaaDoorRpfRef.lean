/- ferryhytheref3.Flood: how many copies come to each point, and how many are sent. -/
import Derived.Test.YtnmddgjgmdegoaaDoorRpfRefPlain
import Derived.Test.YtnmddgjgmdegoaaDoorHopRef
import Derived.Test.YtnmddgjgmdegoaaDoorCost
import Derived.Test.YtnmddgjgmdegoaaDoorBehind
import Derived.Test.YtnmddgjgmdegoaaDoorCnts
import Derived.Test.YtnmddgjgmdegoaaDoorRow2
import Derived.Test.YtnmddgjgmdegoaaDoorElem
import Derived.Test.YtnmddgjgmdegoaaDoorArr
import Derived.Deep.LoopGhost
import Derived.OwnWalk
import Derived.Deep.DeepCutAuto
namespace Go.Proofs.YtnmddgjgmdegoaaDoor
open Go.RowKit
set_option linter.unusedVariables false
set_option maxRecDepth 100000

theorem made_arr' (g n : Nat) (e : TypeId) : Ent.row (.slice (some ⟨g, 0, none⟩) n n) n 1 e (madeCells #[.int .i64 0] n).toList = Ent.ints e (.slice (some ⟨g, 0, none⟩) n n) (arr (fun _ => (0 : Int)) n) := by
  unfold Ent.ints
  rw [arr_len, ← arr_const, madeInts]
theorem run_cutI (w : World) (ao : Option Addr) (len cap : Nat) (h1 : 1 ≤ len) : (Instr.sliceAt 35 (.slice ao len cap) (some (.int .i64 1)) none none).run Tryd.prog w = .ok (.slice (cutAddr ao cap 1 1) (len - 1) (cap - 1)) w := by
  obtain ⟨ht, ⟨i, hi, hz, hs, _⟩, hzs, hsz⟩ := elemInt8
  have hk' : (0 : Int) ≤ (1 : Int) ∧ (1 : Int) ≤ (len : Int) := by omega
  simp [Instr.sliceAt, Instr.slice, run_underlying ht, Instr.sliceBounds, Instr.sliceBound, asIntOf, sizeOf, typeInfo, hi, cutAddr, hs]
  intro h; omega
/-- A slice that is read, not in the block gp. -/
def ISl (gp : Nat) (w : World) (ao : Option Addr) (xs : List Int) : Prop := ∀ j x, xs[j]? = some x → ∃ b off, ao = some ⟨b, off, none⟩ ∧ b < w.heap.size ∧ b ≠ gp ∧ w.cell? ⟨b, off + j, none⟩ = some (.int .i64 x)
theorem ISl.int {gp : Nat} {w : World} {ao : Option Addr} {xs : List Int} (h : ISl gp w ao xs) : IntSl w.heap.size w ao xs := fun j x hx => by
  obtain ⟨b, off, e, h1, -, h3⟩ := h j x hx
  exact ⟨b, off, e, h1, h3⟩
theorem ISl.on {gp : Nat} {w w' : World} {ao : Option Addr} {xs : List Int} (h : ISl gp w ao xs) (hb : Below w.heap.size w w') : ISl gp w' ao xs := fun j x hx => by
  obtain ⟨b, off, e, h1, h2, h3⟩ := h j x hx
  exact ⟨b, off, e, Nat.lt_of_lt_of_le h1 hb.size, h2, (hb.cell (p := ⟨b, off + j, none⟩) h1).trans h3⟩
theorem ISl.set {gp k : Nat} {w : World} {ao : Option Addr} {xs : List Int} (h : ISl gp w ao xs) (y : Value) : ISl gp (w.setCell ⟨gp, k, none⟩ y) ao xs := fun j x hx => by
  obtain ⟨b, off, e, h1, h2, h3⟩ := h j x hx
  refine ⟨b, off, e, by simpa [World.setCell] using h1, h2, ?_⟩
  rw [← h3]
  unfold World.cell?
  rw [heap_setCell_other w ⟨gp, k, none⟩ b y h2]
theorem ISl.made {gp B : Nat} {w : World} {ao : Option Addr} {n c : Nat} {xs : List Int} {e : TypeId} (h : Sep B w [Ent.ints e (.slice ao xs.length c) xs]) (hg : gp < B) : ISl gp w ao xs := fun j x hx => by
  obtain ⟨b, off, e, h1, h2⟩ := Sep.intsAt (A := []) (C := []) h hx
  obtain ⟨hB, hlt, -⟩ := Sep.rowBlk (A := []) (C := []) (by rw [e] at h; exact h)
  exact ⟨b, off, e, hlt, by omega, h1⟩
theorem ISl.cut {gp : Nat} {w : World} {ao : Option Addr} {x : Int} {xs : List Int} {c : Nat} (h : ISl gp w ao (x :: xs)) (hc : xs.length + 1 ≤ c) : ISl gp w (cutAddr ao c 1 1) xs := fun j y hy => by
  have hjl := (List.getElem?_eq_some_iff.1 hy).1
  obtain ⟨b, off, rfl, h1, h2, h3⟩ := h (j + 1) y (by rw [List.getElem?_cons_succ]; exact hy)
  unfold cutAddr
  rw [if_neg (by omega)]
  refine ⟨b, off + 1, by simp [Addr.add], h1, h2, ?_⟩
  rw [show off + 1 + j = off + (j + 1) by omega]
  exact h3
theorem cst_self {n : Nat} {L : List Lnk} (hok : VOk n L) (p : Nat) : ¬ cst L p p < 1000 := fun h => by
  have := hok.net.dom _ _ _ (cst_edge hok (u := p) (v := p) (by omega))
  exact this.2.2.1 rfl
def byQ (n : Nat) (L : List Lnk) (o : Nat) (Q : List Nat) : List Int := Q.map (byOf n L o)
def atQ (Q : List Nat) : List Int := Q.map fun (v : Nat) => (v : Int)
theorem atQ_snoc (Q : List Nat) (k : Nat) : atQ (Q ++ [k]) = atQ Q ++ [(k : Int)] := by unfold atQ; rw [List.map_append]; rfl
theorem byQ_snoc (n : Nat) (L : List Lnk) (o : Nat) (Q : List Nat) (k : Nat) : byQ n L o (Q ++ [k]) = byQ n L o Q ++ [byOf n L o k] := by unfold byQ; rw [List.map_append]; rfl
theorem isl_new {gp : Nat} (w : World) (x : Int) (e : TypeId) (hg : gp < w.heap.size) : ISl gp (w.alloc (.cells #[.int .i64 x] e)) (some ⟨w.heap.size, 0, none⟩) [x] := fun j y hy => by
  match j, hy with
  | 0, hy =>
    simp at hy
    subst hy
    refine ⟨_, _, rfl, by simp, by omega, ?_⟩
    rw [World.cell?_alloc_mark]; rfl
set_option maxHeartbeats 4000000 in
theorem floodRef_ok (n : Nat) (ao : Option Addr) (len ac B0 : Nat) (L : List Lnk) (o : Nat) (w : World) (hA : RowSl B0 w ao 3 (L.map lnkC)) (hlen : len = L.length) (hB : B0 ≤ w.heap.size) (hok : VOk n L) (ho : o < n) :
    Calls Tryd.prog 24 #[.int .i64 n, .slice ao len ac, .int .i64 o] w fun e w' => ∃ v, e = .returned (.tuple #[v, .int .i64 (sentOf n L o)]) ∧ Sep w.heap.size w' [Ent.ints 3 v (arr (fun i => (copies n L o i : Int)) n)] ∧ Below w.heap.size w w' := by
  subst hlen
  have hn1 := hok.n1
  have hn8 := hok.n8
  have hl32 := hok.few
  have HA := Lib.hid hA; clear hA
  have HOK := Lib.hid hok; clear hok
  obtain ⟨g, hg⟩ : ∃ g, g = w.heap.size := ⟨_, rfl⟩
  rw [← hg] at hB
  have HS0 := Lib.hid (Sep.nil g w)
  have hgw : g ≤ w.heap.size := by omega
  have HG := Lib.hid hg; clear hg
  have hci : Tryd.prog.cellsOf 3 = 1 := by kernel_rfl
  go_enter Tryd.func24, Tryd.ntmps24
  go_wp2_with (at_make; refine wpList_make_sep rfl _ _ rfl elemInt8 .i64 .i64 n n n rfl rfl rfl rfl (by omega) (by unfold maxLen; omega) HS0.out hgw ?_)
  intro w1 hs1 hb1 hz
  rw [← HG.out] at hs1 hz ⊢
  rw [made_arr'] at hs1
  have hs2 := (hs1.alloc (.cells #[.int .i64 o] 3)).alloc (.cells #[.int .i64 (-1)] 3)
  have hg1 : g ≤ w1.heap.size := by omega
  have hb2 := ((hb1.mono hgw).alloc hg1 (.cells #[.int .i64 o] 3)).alloc (by simp; omega) (.cells #[.int .i64 (-1)] 3)
  have hi1 := (isl_new w1 (o : Int) 3 (show g < w1.heap.size by omega)).on (below_alloc _ (.cells #[.int .i64 (-1)] 3))
  have hi2 := isl_new (w1.alloc (.cells #[.int .i64 o] 3)) (-1) 3 (show g < (w1.alloc (.cells #[.int .i64 o] 3)).heap.size by simp; omega)
  have HS2 := Lib.hid hs2
  have HB2 := Lib.hid hb2
  have HI1 := Lib.hid hi1
  have HI2 := Lib.hid hi2
  clear hs1 hb1 hs2 hb2 hi1 hi2 hg1 HS0 hgw
  go_wp2
  go_loopg [9, 10, 11] n (fun gk sv av bv wr => ∃ (P Q : List Nat) (aa ab : Option Addr) (ca cb : Nat), gk + P.length = n ∧ sv = .int .i64 ((sntP n L o P : Nat) : Int) ∧ av = .slice aa Q.length ca ∧ bv = .slice ab Q.length cb ∧ Q.length ≤ ca ∧ Q.length ≤ cb ∧ RInv n L o P Q ∧ ISl g wr aa (atQ Q) ∧ ISl g wr ab (byQ n L o Q) ∧
    Sep g wr [Ent.ints 3 (.slice (some ⟨g, 0, none⟩) n n) (arr (fun v => ((cpyP n L o P v : Nat) : Int)) n)] ∧ Below g w wr)
  case atStart =>
    refine ⟨[], [o], _, _, 1, 1, by simp, by simp [sntP], rfl, rfl, by simp, by simp, RInv.start n L o, by have h := HI1.out; rw [hz] at h; exact h, ?_, ?_, HB2.out⟩
    · have h := HI2.out
      rw [show byQ n L o [o] = [-1] by simp [byQ, by_self]]
      simpa [hz] using h
    · have e0 : arr (fun v => ((cpyP n L o [] v : Nat) : Int)) n = arr (fun _ => (0 : Int)) n := arr_congr fun i _ => by simp [cpyP]
      rw [e0]; exact HS2.out
  case round =>
    obtain ⟨gi, rfl⟩ : ∃ gi, gi = gk := ⟨_, rfl⟩
    obtain ⟨P, Q, aa, ab, ca, cb, hgi, rfl, rfl, rfl, hca, hcb, hri, hia, hib, hs, hb⟩ := hrel
    have HRI := Lib.hid hri
    have HIA := Lib.hid hia
    have HIB := Lib.hid hib
    have HS3 := Lib.hid hs
    have HB3 := Lib.hid hb
    clear hri hia hib hs hb HS2 HB2 HI1 HI2
    cases Q with
    | nil =>
      obtain ⟨hcp, hst⟩ := HRI.out.counts HOK.out ho
      have hs4 := HS3.out
      rw [show arr (fun v => ((cpyP n L o P v : Nat) : Int)) n = arr (fun i => (copies n L o i : Int)) n from arr_congr fun i _ => by rw [hcp i]] at hs4
      rw [hst]
      have HS4 := Lib.hid hs4
      clear hs4 hcp hst HS3 HIA HIB HRI
      have h00 : decide ((0 : Int) < (([] : List Nat).length : Int)) = false := by decide
      go_wp2
      go_ret2
      have hs9 := HS4.out
      have hb9 := HB3.out
      rw [HG.out] at hs9 hb9
      rw [← HG.out] at hs9 ⊢
      exact ⟨_, rfl, hs9, HB3.out⟩
    | cons p Q =>
      have hfew := HRI.out.few ho
      have hpn : p < n := HRI.out.lt ho p (by simp)
      have hst := sntP_le (n := n) (L := L) (o := o) P
      simp only [List.length_cons] at hfew hca hcb
      have hsn64 : sntP n L o P ≤ 64 := by
        have := Nat.mul_le_mul (show P.length ≤ 8 by omega) hn8
        omega
      obtain ⟨sn0, hsn0⟩ : ∃ sn0, sn0 = sntP n L o P := ⟨_, rfl⟩
      rw [← hsn0] at hsn64 ⊢
      obtain ⟨lq, hlq⟩ : ∃ lq, lq = (p :: Q).length := ⟨_, rfl⟩
      rw [← hlq]
      have hlq' : lq = Q.length + 1 := by rw [hlq]; rfl
      have hl0 : (0 : Int) < (lq : Int) := by omega
      have hl1 : 0 < lq := by omega
      obtain ⟨b1, o1, rfl, -, -, c1⟩ := HIA.out 0 (p : Int) rfl
      obtain ⟨b2, o2, rfl, -, -, c2⟩ := HIB.out 0 (byOf n L o p) rfl
      simp only [Nat.add_zero] at c1 c2
      obtain ⟨q, hq⟩ : ∃ q, q = byOf n L o p := ⟨_, rfl⟩
      rw [← hq] at c2
      have hia2 := ISl.cut (xs := atQ Q) (c := ca) HIA.out (by unfold atQ; rw [List.length_map]; omega)
      have hib2 := ISl.cut (xs := byQ n L o Q) (c := cb) HIB.out (by unfold byQ; rw [List.length_map]; omega)
      have hr1 := fun W : World => run_cutI W (some ⟨b1, o1, none⟩) lq ca (by omega)
      have hr2 := fun W : World => run_cutI W (some ⟨b2, o2, none⟩) lq cb (by omega)
      obtain ⟨l2, hl2⟩ : ∃ l2, l2 = lq - 1 := ⟨_, rfl⟩
      obtain ⟨a1', ha1'⟩ : ∃ a, a = cutAddr (some ⟨b1, o1, none⟩) ca 1 1 := ⟨_, rfl⟩
      obtain ⟨a2', ha2'⟩ : ∃ a, a = cutAddr (some ⟨b2, o2, none⟩) cb 1 1 := ⟨_, rfl⟩
      obtain ⟨c1', hc1'⟩ : ∃ c, c = ca - 1 := ⟨_, rfl⟩
      obtain ⟨c2', hc2'⟩ : ∃ c, c = cb - 1 := ⟨_, rfl⟩
      rw [← ha1', ← hl2, ← hc1'] at hr1
      rw [← ha2', ← hl2, ← hc2'] at hr2
      rw [← ha1'] at hia2
      rw [← ha2'] at hib2
      have hl2q : l2 = Q.length := by omega
      have hlca : l2 ≤ c1' := by omega
      have hlcb : l2 ≤ c2' := by omega
      have HIA2 := Lib.hid hia2
      have HIB2 := Lib.hid hib2
      have HL2 := Lib.hid hl2q
      have HQ := Lib.hid hq
      have HSN0 := Lib.hid hsn0
      have HFEW := Lib.hid hfew
      clear hia2 hib2 ha1' ha2' hl2 hl2q hc1' hc2' hq hsn0 hst HIA HIB hlq hlq' hca hcb hfew
      go_wp2
      clear c1 c2 hr1 hr2 hl0 hl1
      go_loopg [9, 10, 11, 14] n (fun gk sv av bv kv wr => ∃ (k : Nat) (aa ab : Option Addr) (ca cb l : Nat), gk + k = n ∧ sv = .int .i64 ((sn0 + (outsTo n L o p k).length : Nat) : Int) ∧ av = .slice aa l ca ∧ bv = .slice ab l cb ∧ l = (Q ++ goodsTo n L o p k).length ∧ l ≤ ca ∧ l ≤ cb ∧ kv = .int .i64 k ∧
        ISl g wr aa (atQ (Q ++ goodsTo n L o p k)) ∧ ISl g wr ab (byQ n L o (Q ++ goodsTo n L o p k)) ∧ Sep g wr [Ent.ints 3 (.slice (some ⟨g, 0, none⟩) n n) (arr (fun v => ((cpyK n L o P p k v : Nat) : Int)) n)] ∧ Below g w wr)
      case atStart =>
        have e0 : goodsTo n L o p 0 = [] := rfl
        have e1 : arr (fun v => ((cpyK n L o P p 0 v : Nat) : Int)) n = arr (fun v => ((cpyP n L o P v : Nat) : Int)) n := arr_congr fun v _ => by rw [cpyK_zero]
        refine ⟨0, _, _, _, _, _, by omega, rfl, rfl, rfl, by rw [e0, List.append_nil]; exact HL2.out, hlca, hlcb, rfl, by rw [e0, List.append_nil]; exact HIA2.out, by rw [e0, List.append_nil]; exact HIB2.out, by rw [e1]; exact HS3.out, HB3.out⟩
      case round =>
        obtain ⟨gj, rfl⟩ : ∃ gj, gj = gk := ⟨_, rfl⟩
        obtain ⟨k, aa, ab, ca, cb, l, hgj, rfl, rfl, rfl, hl, hlc1, hlc2, rfl, hia, hib, hs, hb⟩ := hrel
        have hlc : l ≤ ca ∧ l ≤ cb := ⟨hlc1, hlc2⟩
        have HL := Lib.hid hl
        have HA6 := Lib.hid hia
        have HB6 := Lib.hid hib
        have HS6 := Lib.hid hs
        have HW6 := Lib.hid hb
        have hg6 : g ≤ wr.heap.size := by have := HW6.out.size; rw [← HG.out] at this; exact this
        have hol : (outsTo n L o p k).length ≤ k := by
          have := List.length_filter_le (outB n L o p) (List.range k)
          rw [List.length_range] at this
          exact this
        obtain ⟨sn, hsn⟩ : ∃ sn, sn = sn0 + (outsTo n L o p k).length := ⟨_, rfl⟩
        rw [← hsn]
        have HSN := Lib.hid hsn.symm
        clear hl hia hib hs hb hlc1 hlc2 HS3 HB3 HIA2 HIB2 HL2 hlca hlcb
        by_cases hlt : k < n
        · have hki : (k : Int) < (n : Int) := by omega
          have hk0 : (0 : Int) ≤ (k : Int) := by omega
          have hsb : sn ≤ 100 := by omega
          clear hsn hol
          by_cases hkq : (k : Int) = q
          · have hq1 : ((k : Int) == q) = true := by simp [hkq]
            have hob : ¬ outB n L o p k = true := by unfold outB; rw [← HQ.out]; simp [hkq]
            have e1 : outsTo n L o p (k + 1) = outsTo n L o p k := by rw [outsTo_succ, if_neg hob, List.append_nil]
            have e2 : goodsTo n L o p (k + 1) = goodsTo n L o p k := by rw [goodsTo_succ, if_neg (fun h => hob h.1), List.append_nil]
            have e3 : arr (fun v => ((cpyK n L o P p (k + 1) v : Nat) : Int)) n = arr (fun v => ((cpyK n L o P p k v : Nat) : Int)) n := arr_congr fun v _ => by rw [cpyK_off hob]
            have E1 := Lib.hid e1
            have E2 := Lib.hid e2
            have E3 := Lib.hid e3
            clear e1 e2 e3 hob
            clear hkq
            go_wp2
            go_roundg (gj - 1)
            case measure => omega
            case rel => exact ⟨k + 1, aa, ab, ca, cb, l, by omega, by rw [E1.out, HSN.out], rfl, rfl, by rw [E2.out]; exact HL.out, hlc.1, hlc.2, by go_num, by rw [E2.out]; exact HA6.out, by rw [E2.out]; exact HB6.out, by rw [E3.out]; exact HS6.out, HW6.out⟩
          · have hq1 : ((k : Int) == q) = false := by simp [hkq]
            by_cases hkp : k = p
            · have hq2 : ((k : Int) == (p : Int)) = true := by simp [hkp]
              have hob : ¬ outB n L o p k = true := by unfold outB; rw [hkp]; simp [cst_self HOK.out p]
              have e1 : outsTo n L o p (k + 1) = outsTo n L o p k := by rw [outsTo_succ, if_neg hob, List.append_nil]
              have e2 : goodsTo n L o p (k + 1) = goodsTo n L o p k := by rw [goodsTo_succ, if_neg (fun h => hob h.1), List.append_nil]
              have e3 : arr (fun v => ((cpyK n L o P p (k + 1) v : Nat) : Int)) n = arr (fun v => ((cpyK n L o P p k v : Nat) : Int)) n := arr_congr fun v _ => by rw [cpyK_off hob]
              have E1 := Lib.hid e1
              have E2 := Lib.hid e2
              have E3 := Lib.hid e3
              clear e1 e2 e3 hob
              clear hkq hkp
              go_wp2
              go_roundg (gj - 1)
              case measure => omega
              case rel => exact ⟨k + 1, aa, ab, ca, cb, l, by omega, by rw [E1.out, HSN.out], rfl, rfl, by rw [E2.out]; exact HL.out, hlc.1, hlc.2, by go_num, by rw [E2.out]; exact HA6.out, by rw [E2.out]; exact HB6.out, by rw [E3.out]; exact HS6.out, HW6.out⟩
            · have hq2 : ((k : Int) == (p : Int)) = false := by simp; omega
              go_wp2_with fail
              refine (cost_any _ _ _ _ L (p : Int) (k : Int) _ (HA.out.below (HW6.out.mono hB)) rfl (by omega)).mono ?_
              rintro e w' ⟨rfl, rfl⟩
              obtain ⟨cv, hcv⟩ : ∃ cv, cv = cst L p k := ⟨_, rfl⟩
              have hcv' : cstI (p : Int) (k : Int) L 1000 = cv := by rw [hcv]; rfl
              rw [hcv']
              clear hcv'
              have hcle := (cst_spec HOK.out (u := p) (v := k)).1
              rw [← hcv] at hcle
              by_cases hc : cv = 1000
              · have hce : (cv == 1000) = true := by simp [hc]
                have hob : ¬ outB n L o p k = true := by unfold outB; rw [← hcv, hc]; simp
                have e1 : outsTo n L o p (k + 1) = outsTo n L o p k := by rw [outsTo_succ, if_neg hob, List.append_nil]
                have e2 : goodsTo n L o p (k + 1) = goodsTo n L o p k := by rw [goodsTo_succ, if_neg (fun h => hob h.1), List.append_nil]
                have e3 : arr (fun v => ((cpyK n L o P p (k + 1) v : Nat) : Int)) n = arr (fun v => ((cpyK n L o P p k v : Nat) : Int)) n := arr_congr fun v _ => by rw [cpyK_off hob]
                have E1 := Lib.hid e1
                have E2 := Lib.hid e2
                have E3 := Lib.hid e3
                clear e1 e2 e3 hob
                clear hkq hkp hcv hc hcle
                go_wp2
                go_roundg (gj - 1)
                case measure => omega
                case rel => exact ⟨k + 1, aa, ab, ca, cb, l, by omega, by rw [E1.out, HSN.out], rfl, rfl, by rw [E2.out]; exact HL.out, hlc.1, hlc.2, by go_num, by rw [E2.out]; exact HA6.out, by rw [E2.out]; exact HB6.out, by rw [E3.out]; exact HS6.out, HW6.out⟩
              · have hce : (cv == 1000) = false := by simp [hc]
                have hob : outB n L o p k = true := by unfold outB; rw [← hcv, ← HQ.out, Bool.and_eq_true, decide_eq_true_eq, decide_eq_true_eq]; exact ⟨by omega, hkq⟩
                have hkn : k < n := hlt
                obtain ⟨g', o', he, _, n1, n2, nset⟩ := arrI_at (A := []) HS6.out hlt
                simp only [Option.some.injEq, Addr.mk.injEq, and_true] at he
                obtain ⟨rfl, rfl⟩ := he
                simp only [Nat.zero_add] at n1 n2 nset
                obtain ⟨tv, htv⟩ : ∃ tv, tv = cpyK n L o P p k k := ⟨_, rfl⟩
                have htb : tv ≤ 20 := by
                  have h1 := cpyP_le (n := n) (L := L) (o := o) P k
                  have h2 := HFEW.out
                  rw [htv]; unfold cpyK
                  split <;> omega
                rw [← htv] at n1
                have hset := nset ((tv : Int) + 1)
                have e3 : arr (fun i => if i = k then (tv : Int) + 1 else ((cpyK n L o P p k i : Nat) : Int)) n = arr (fun v => ((cpyK n L o P p (k + 1) v : Nat) : Int)) n := arr_congr fun i _ => by
                  rw [← cpyK_on hob i, htv]
                  split <;> rfl
                rw [e3] at hset
                have HS7 := Lib.hid hset
                have HA7 := Lib.hid (HA6.out.set (k := k) (.int .i64 ((tv : Int) + 1)))
                have HB7 := Lib.hid (HB6.out.set (k := k) (.int .i64 ((tv : Int) + 1)))
                have HW7 := Lib.hid (HW6.out.setCell (p := ⟨g, k, none⟩) (Nat.le_refl g) (.int .i64 ((tv : Int) + 1)))
                have e1 : ((outsTo n L o p (k + 1)).length : Nat) = (outsTo n L o p k).length + 1 := by rw [outsTo_succ, if_pos hob, List.length_append]; rfl
                have E1 := Lib.hid (show sn0 + (outsTo n L o p (k + 1)).length = sn + 1 by rw [e1, ← HSN.out]; omega)
                clear hset nset e3 e1 htv hcv hc hcle HS6 HA6 HB6 HW6
                by_cases hko : k = o
                · have hq3 : ((k : Int) != (o : Int)) = false := by simp [hko]
                  have e2 : goodsTo n L o p (k + 1) = goodsTo n L o p k := by rw [goodsTo_succ, if_neg (fun h => by have := h.2; unfold good at this; simp [hko] at this), List.append_nil]
                  have E2 := Lib.hid e2
                  clear e2 hob hkq hkp hko
                  go_wp2
                  go_roundg (gj - 1)
                  case measure => omega
                  case rel => exact ⟨k + 1, aa, ab, ca, cb, l, by omega, by rw [E1.out]; go_num, rfl, rfl, by rw [E2.out]; exact HL.out, hlc.1, hlc.2, by go_num, by rw [E2.out]; exact HA7.out, by rw [E2.out]; exact HB7.out, HS7.out, HW7.out⟩
                · have hq3 : ((k : Int) != (o : Int)) = true := by simp; omega
                  go_upto_region 16 with fail
                  generalize wr.setCell ⟨g, k, none⟩ (.int .i64 ((tv : Int) + 1)) = w7 at *
                  clear n1 n2
                  have hg7 : g ≤ w7.heap.size := by have := HW7.out.size; rw [← HG.out] at this; exact this
                  go_wp2_with fail
                  refine (hopRef_ok n _ _ _ B0 L k o _ (HA.out.below (HW7.out.mono hB)) rfl (Nat.le_trans hB hg7) HOK.out hlt ho).mono ?_
                  rintro e w8 ⟨rfl, hb⟩
                  obtain ⟨hv, hhv⟩ : ∃ hv, hv = byOf n L o k := ⟨_, rfl⟩
                  have hhv' : hopOf n (edges L) k o = hv := hhv.symm
                  rw [hhv']
                  clear hhv'
                  have HS8 := Lib.hid (HS7.out.kept hb)
                  have HA8 := Lib.hid (HA7.out.on hb)
                  have HB8 := Lib.hid (HB7.out.on hb)
                  have HW8 := Lib.hid (HW7.out.trans (hb.mono hg7))
                  have hg8 : g ≤ w8.heap.size := Nat.le_trans hg7 hb.size
                  clear hb HS7 HA7 HB7 HW7 hg7 hg6
                  by_cases hvp : hv = (p : Int)
                  · have hq4 : (hv == (p : Int)) = true := by simp [hvp]
                    have hgd : good n L o (k, p) = true := by unfold good; rw [← hhv]; simp [hko, hvp]
                    have e2 : goodsTo n L o p (k + 1) = goodsTo n L o p k ++ [k] := by rw [goodsTo_succ, if_pos ⟨hob, hgd⟩]
                    obtain ⟨R, hR⟩ : ∃ R, R = Q ++ goodsTo n L o p k := ⟨_, rfl⟩
                    have hRn : Q ++ goodsTo n L o p (k + 1) = R ++ [k] := by rw [e2, hR, List.append_assoc]
                    have hpb : (p : Int) = byOf n L o k := by rw [← hhv, hvp]
                    rw [← hR] at HL HA8 HB8
                    have HRN := Lib.hid hRn
                    have HPB := Lib.hid hpb
                    have hRl : R.length ≤ 1000 := by
                      rw [hR, List.length_append]
                      have h1 : (goodsTo n L o p k).length ≤ (outsTo n L o p k).length := List.length_filter_le _ _
                      have h2 := List.length_filter_le (outB n L o p) (List.range k)
                      rw [List.length_range] at h2
                      have h3 : (outsTo n L o p k).length ≤ k := h2
                      have h4 := HFEW.out
                      omega
                    have haq : (atQ R).length = R.length := by unfold atQ; rw [List.length_map]
                    have hbq : (byQ n L o R).length = R.length := by unfold byQ; rw [List.length_map]
                    have HAQ := Lib.hid haq
                    have HBQ := Lib.hid hbq
                    clear e2 hob hkq hkp hko hhv hvp hgd hR hRn hpb haq hbq
                    go_wp2_with fail
                    refine (behind_any aa l ca _ (atQ R) (k : Int) _ HA8.out.int (by rw [HAQ.out]; exact HL.out) (Nat.le_refl _) (by rw [HAQ.out]; omega)).mono ?_
                    rintro e w9 ⟨v9, rfl, hs, hb⟩
                    obtain ⟨a9, c9, rfl, hc9, -⟩ := Sep.intsShape (A := []) (C := []) hs
                    have hia9 := ISl.made (gp := g) (n := 0) hs (show g < w8.heap.size by have := (Sep.mem (A := []) HS8.out).2 g rfl; omega)
                    have hl9 : (atQ R ++ [(k : Int)]).length = l + 1 := by rw [List.length_append, HAQ.out, List.length_singleton, HL.out]
                    rw [hl9] at hc9 ⊢
                    have HA9 := Lib.hid hia9
                    have HS9 := Lib.hid (HS8.out.kept hb)
                    have HB9 := Lib.hid (HB8.out.on hb)
                    have HW9 := Lib.hid (HW8.out.trans (hb.mono hg8))
                    have hg9 : g ≤ w9.heap.size := Nat.le_trans hg8 hb.size
                    clear hs hb hia9 hl9 HA8 HB8 HS8 HW8 hg8
                    obtain ⟨l9, hl9⟩ : ∃ l9, l9 = l + 1 := ⟨_, rfl⟩
                    rw [← hl9] at hc9 ⊢
                    have HL9 := Lib.hid hl9
                    clear hl9
                    go_wp2_with fail
                    refine (behind_any ab l cb _ (byQ n L o R) (p : Int) _ HB9.out.int (by rw [HBQ.out]; exact HL.out) (Nat.le_refl _) (by rw [HBQ.out]; omega)).mono ?_
                    rintro e w10 ⟨v10, rfl, hs, hb⟩
                    obtain ⟨a10, c10, rfl, hc10, -⟩ := Sep.intsShape (A := []) (C := []) hs
                    have hib10 := ISl.made (gp := g) (n := 0) hs (show g < w9.heap.size by have := (Sep.mem (A := []) HS9.out).2 g rfl; omega)
                    have hl10 : (byQ n L o R ++ [(p : Int)]).length = l9 := by rw [List.length_append, HBQ.out, List.length_singleton, HL9.out, HL.out]
                    rw [hl10] at hc10 ⊢
                    have HB10 := Lib.hid hib10
                    have HS10 := Lib.hid (HS9.out.kept hb)
                    have HA10 := Lib.hid (HA9.out.on hb)
                    have HW10 := Lib.hid (HW9.out.trans (hb.mono hg9))
                    clear hs hb hib10 hl10 HA9 HB9 HS9 HW9 hg9
                    go_wp2
                    go_roundg (gj - 1)
                    case measure => omega
                    case rel => exact ⟨k + 1, a9, a10, c9, c10, l9, by omega, by rw [E1.out]; go_num, rfl, rfl, by rw [HRN.out, List.length_append, List.length_singleton, HL9.out, HL.out], hc9, hc10, by go_num, by rw [HRN.out, atQ_snoc]; exact HA10.out, by rw [HRN.out, byQ_snoc, ← HPB.out]; exact HB10.out, HS10.out, HW10.out⟩
                  · have hq4 : (hv == (p : Int)) = false := by simp [hvp]
                    have e2 : goodsTo n L o p (k + 1) = goodsTo n L o p k := by rw [goodsTo_succ, if_neg (fun h => by have := h.2; unfold good at this; rw [← hhv] at this; simp [hvp] at this), List.append_nil]
                    have E2 := Lib.hid e2
                    clear e2 hob hkq hkp hko hhv hvp
                    go_wp2
                    go_roundg (gj - 1)
                    case measure => omega
                    case rel => exact ⟨k + 1, aa, ab, ca, cb, l, by omega, by rw [E1.out]; go_num, rfl, rfl, by rw [E2.out]; exact HL.out, hlc.1, hlc.2, by go_num, by rw [E2.out]; exact HA8.out, by rw [E2.out]; exact HB8.out, HS8.out, HW8.out⟩
        · have hki : decide ((k : Int) < (n : Int)) = false := decide_eq_false (by omega)
          have hkn : k = n := by omega
          have hs9 := HS6.out
          rw [hkn, show arr (fun v => ((cpyK n L o P p n v : Nat) : Int)) n = arr (fun v => ((cpyP n L o (P ++ [p]) v : Nat) : Int)) n from arr_congr fun v hv => by rw [cpyK_end hv]] at hs9
          have hsn9 : sn = sntP n L o (P ++ [p]) := by rw [sntP_next, ← HSN0.out, ← HSN.out, hkn]
          have HST := Lib.hid (HRI.out.step)
          have hgo : goodsTo n L o p k = goods n L o p := by rw [hkn]; rfl
          have HGO := Lib.hid hgo
          have HS9 := Lib.hid hs9
          have HSN9 := Lib.hid hsn9
          clear hs9 hkn hgo hsn hol hsn9
          go_wp2
          go_roundg (gi - 1)
          case measure => have := HFEW.out; omega
          case rel => exact ⟨P ++ [p], Q ++ goods n L o p, aa, ab, ca, cb, by rw [List.length_append, List.length_singleton]; have := HFEW.out; omega, by rw [← HSN9.out], by rw [HL.out, HGO.out], by rw [HL.out, HGO.out], by rw [← HGO.out, ← HL.out]; exact hlc.1, by rw [← HGO.out, ← HL.out]; exact hlc.2, HST.out, by rw [← HGO.out]; exact HA6.out, by rw [← HGO.out]; exact HB6.out, HS9.out, HW6.out⟩
end Go.Proofs.YtnmddgjgmdegoaaDoor
