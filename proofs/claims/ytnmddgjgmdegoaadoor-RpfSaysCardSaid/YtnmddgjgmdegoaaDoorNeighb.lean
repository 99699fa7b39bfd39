/- rpf.neighbours: the neighbours of a point, rising, each once. -/
import Derived.Test.YtnmddgjgmdegoaaDoorFloodPlain
import Derived.Test.YtnmddgjgmdegoaaDoorShRow
import Derived.Test.YtnmddgjgmdegoaaDoorElem
import Derived.Deep.LoopGhost
import Derived.Deep.DeepCutAuto
import Derived.BigQuiet
namespace Go.Proofs.YtnmddgjgmdegoaaDoor
open Go.RowKit Go.Sort Go.Shelf Go.Lib
set_option linter.unusedVariables false
set_option maxRecDepth 100000

/-- As they are met. -/
def rawOf (p : Int) (L : List Lnk) : List Int := L.filterMap fun x => if p = x.1 then some x.2.1 else if p = x.2.1 then some x.1 else none
theorem rawOf_next {p : Int} {L : List Lnk} {k : Nat} {x : Lnk} (h : L[k]? = some x) : rawOf p (L.take (k + 1)) = rawOf p (L.take k) ++ (if p = x.1 then [x.2.1] else if p = x.2.1 then [x.1] else []) := by
  unfold rawOf
  rw [List.take_add_one, h, List.filterMap_append]
  congr 1
  by_cases h1 : p = x.1
  · simp only [Option.toList_some, List.filterMap_cons, List.filterMap_nil, if_pos h1]
  · by_cases h2 : p = x.2.1
    · simp only [Option.toList_some, List.filterMap_cons, List.filterMap_nil, if_neg h1, if_pos h2]
    · simp only [Option.toList_some, List.filterMap_cons, List.filterMap_nil, if_neg h1, if_neg h2]
theorem rawOf_len (p : Int) (L : List Lnk) : (rawOf p L).length ≤ L.length := List.length_filterMap_le _ _
def nbrI (n : Nat) (L : List Lnk) (p : Nat) : List Int := (nbrs n L p).map fun (v : Nat) => (v : Int)
theorem nbrI_rising (n : Nat) (L : List Lnk) (p : Nat) : (nbrI n L p).Pairwise (· < ·) := by
  unfold nbrI
  rw [List.pairwise_map]
  exact (List.pairwise_lt_range.filter _).imp fun h => by omega
theorem mem_raw {n : Nat} {L : List Lnk} (hok : VOk n L) {p : Nat} (x : Int) : x ∈ nbrI n L p ↔ x ∈ rawOf (p : Int) L := by
  unfold nbrI rawOf
  rw [List.mem_map, List.mem_filterMap]
  constructor
  · rintro ⟨v, hv, rfl⟩
    have hc := (mem_nbrs.1 hv).2
    have he := cst_edge hok (u := p) (v := v) (by omega)
    obtain ⟨y, hy, h⟩ := mem_edges.1 he
    obtain ⟨h1, h2, -, h4⟩ := hok.each y hy
    refine ⟨y, hy, ?_⟩
    rcases h with h | h
    · simp only [Prod.mk.injEq] at h
      rw [if_pos (by omega)]
      congr 1; omega
    · simp only [Prod.mk.injEq] at h
      rw [if_neg (by omega), if_pos (by omega)]
      congr 1; omega
  · rintro ⟨y, hy, h⟩
    obtain ⟨h1, h2, h3, h4⟩ := hok.each y hy
    by_cases e1 : (p : Int) = y.1
    · rw [if_pos e1] at h
      obtain rfl := Option.some.inj h
      refine ⟨y.2.1.toNat, mem_nbrs.2 ⟨by omega, ?_⟩, by omega⟩
      have he : (p, y.2.1.toNat, y.2.2) ∈ edges L := mem_edges.2 ⟨y, hy, .inl (by rw [show p = y.1.toNat by omega])⟩
      have := (cst_lt hok he).2
      omega
    · rw [if_neg e1] at h
      by_cases e2 : (p : Int) = y.2.1
      · rw [if_pos e2] at h
        obtain rfl := Option.some.inj h
        refine ⟨y.1.toNat, mem_nbrs.2 ⟨by omega, ?_⟩, by omega⟩
        have he : (p, y.1.toNat, y.2.2) ∈ edges L := mem_edges.2 ⟨y, hy, .inr (by rw [show p = y.2.1.toNat by omega])⟩
        have := (cst_lt hok he).2
        omega
      · rw [if_neg e2] at h; cases h
theorem nbr_once {n : Nat} {L : List Lnk} (hok : VOk n L) (p : Nat) : compact ((rawOf (p : Int) L).mergeSort fun x y => decide (x ≤ y)) = nbrI n L p := sorted_once (nbrI_rising n L p) fun x => mem_raw hok x
set_option maxHeartbeats 1000000 in
theorem neighb_any (n : Nat) (ao : Option Addr) (len ac B : Nat) (L : List Lnk) (p : Nat) (w : World) (hA : RowSl B w ao 3 (L.map lnkC)) (hlen : len = L.length) (hB : B ≤ w.heap.size) (hok : VOk n L) :
    Calls Tryd.prog 39 #[.slice ao len ac, .int .i64 p] w fun e w' => ∃ v, e = .returned v ∧ Sep w.heap.size w' [Ent.ints 3 v (nbrI n L p)] ∧ Below w.heap.size w w' := by
  subst hlen
  have hl32 := hok.few
  obtain ⟨G, hG⟩ : ∃ G, G = w.heap.size := ⟨_, rfl⟩
  rw [← hG] at hB
  have HA := Lib.hid hA
  have HG := Lib.hid hG
  have HOK := Lib.hid hok
  clear hA hok
  have HS0 : Hid (Sep G w [Ent.ints 3 (.slice none 0 0) (rawOf (p : Int) (L.take 0))]) := by
    rw [List.take_zero]
    exact Lib.hid ((Sep.nil G w).intsNil 3)
  go_enter Tryd.func39, Tryd.ntmps39
  go_wp2
  clear hG
  go_loopw [5, 7, 10] (fun v _ i wr => ∃ (k : Nat) (a5 : Option Addr) (n5 c5 : Nat), k ≤ L.length ∧ i = .int .i64 k ∧ v = .slice a5 n5 c5 ∧ Sep G wr [Ent.ints 3 (.slice a5 n5 c5) (rawOf (p : Int) (L.take k))] ∧ Below G w wr) (fun _ _ i _ => L.length - (intOf i).toNat)
  case atStart => exact ⟨0, none, 0, 0, Nat.zero_le _, rfl, rfl, HS0.out, Below.refl _ _⟩
  case round =>
    obtain ⟨k, a5, n5, c5, hk, rfl, rfl, hs, hb⟩ := hrel
    have HS3 := Lib.hid hs
    have HB3 := Lib.hid hb
    have hg3 : G ≤ wr.heap.size := by have := HB3.out.size; rw [← HG.out] at this; exact this
    have hll : (rawOf (p : Int) (L.take k)).length ≤ 1000000000 := by
      have h1 := rawOf_len (p : Int) (L.take k)
      have h2 := List.length_take_le k L
      omega
    clear hs hb HS0
    by_cases hlt : k < L.length
    · have hki : (k : Int) < (L.length : Int) := by omega
      have hk0 : (0 : Int) ≤ (k : Int) := by omega
      obtain ⟨⟨x1, x2, x3⟩, hx⟩ : ∃ x, L[k]? = some x := ⟨_, List.getElem?_eq_getElem hlt⟩
      obtain ⟨b, off, rfl, -, c0, c1, c2⟩ := (HA.out.below (HB3.out.mono hB)).lnk hx
      simp only at c0 c1 c2
      have hrn := rawOf_next (p := (p : Int)) hx
      simp only at hrn
      have HS4 := Lib.hid (HS3.out.alloc (.cells #[.int .i64 x1, .int .i64 x2, .int .i64 x3] 77))
      have HB4 := Lib.hid (HB3.out.alloc hg3 (.cells #[.int .i64 x1, .int .i64 x2, .int .i64 x3] 77))
      have hg4 : G ≤ (wr.alloc (.cells #[.int .i64 x1, .int .i64 x2, .int .i64 x3] 77)).heap.size := by have := HB4.out.size; rw [← HG.out] at this; exact this
      have HZ4 := Lib.hid (show (wr.alloc (.cells #[.int .i64 x1, .int .i64 x2, .int .i64 x3] 77)).heap.size = wr.heap.size + 1 by simp)
      by_cases h1 : (p : Int) = x1
      · rw [if_pos h1] at hrn
        have hq1 : ((p : Int) == x1) = true := by simp [h1]
        have HRN := Lib.hid hrn
        clear hrn hx h1 HS3 HB3 hg3
        go_wp2_with (at_builtin; refine wpList_append_int (A := []) rfl (.tmp 19) (.tmp 22) rfl elemInt8 rfl HS4.out hg4 (by rw [HZ4.out]; rfl) hll ?_)
        intro v5 w5 hs hb
        obtain ⟨a5, n5, c5, rfl⟩ : ∃ b n c, v5 = .slice b n c := by
          obtain ⟨b, c, h, -⟩ := Sep.intsShape (A := []) (C := []) hs
          exact ⟨b, _, c, h⟩
        rw [← HRN.out] at hs
        have HS5 := Lib.hid hs
        have HB5 := Lib.hid (HB4.out.trans hb)
        clear hs hb HS4 HB4 hg4
        go_wp2
        go_roundw
        case rel => exact ⟨k + 1, _, _, _, by omega, by go_num, rfl, HS5.out, HB5.out⟩
        case measure => simp [intOf]; omega
      · have hq1 : ((p : Int) == x1) = false := by simp [h1]
        rw [if_neg h1] at hrn
        by_cases h2 : (p : Int) = x2
        · rw [if_pos h2] at hrn
          have hq2 : ((p : Int) == x2) = true := by simp [h2]
          have HRN := Lib.hid hrn
          clear hrn hx h1 h2 HS3 HB3 hg3
          go_wp2_with (at_builtin; refine wpList_append_int (A := []) rfl (.tmp 28) (.tmp 31) rfl elemInt8 rfl HS4.out hg4 (by rw [HZ4.out]; rfl) hll ?_)
          intro v5 w5 hs hb
          obtain ⟨a5, n5, c5, rfl⟩ : ∃ b n c, v5 = .slice b n c := by
            obtain ⟨b, c, h, -⟩ := Sep.intsShape (A := []) (C := []) hs
            exact ⟨b, _, c, h⟩
          rw [← HRN.out] at hs
          have HS5 := Lib.hid hs
          have HB5 := Lib.hid (HB4.out.trans hb)
          clear hs hb HS4 HB4 hg4
          go_wp2
          go_roundw
          case rel => exact ⟨k + 1, _, _, _, by omega, by go_num, rfl, HS5.out, HB5.out⟩
          case measure => simp [intOf]; omega
        · rw [if_neg h2, List.append_nil] at hrn
          have hq2 : ((p : Int) == x2) = false := by simp [h2]
          have HRN := Lib.hid hrn
          clear hrn hx h1 h2 HS3 HB3 hg3
          go_wp2
          go_roundw
          case rel => exact ⟨k + 1, _, _, _, by omega, by go_num, rfl, by rw [HRN.out]; exact HS4.out, HB4.out⟩
          case measure => simp [intOf]; omega
    · obtain rfl : k = L.length := by omega
      have hs := HS3.out
      rw [List.take_length] at hs
      have hn5 : n5 = (rawOf (p : Int) L).length := by
        obtain ⟨a, c, h, -⟩ := Sep.intsShape (A := []) (C := []) hs
        simp only [Value.slice.injEq] at h
        exact h.2.1
      rw [List.take_length] at hll
      have HNB := Lib.hid (nbr_once HOK.out p)
      obtain ⟨xs, hxs⟩ : ∃ xs, xs = rawOf (p : Int) L := ⟨_, rfl⟩
      rw [← hxs] at hs hn5 hll
      have HXS := Lib.hid hxs
      have HS4 := Lib.hid hs
      subst hn5
      clear hs HS3 hxs
      rcases Nat.eq_zero_or_pos xs.length with h0 | h0
      · obtain rfl : xs = [] := List.eq_nil_of_length_eq_zero h0
        have hnil : nbrI n L p = [] := by
          have h1 := compact_less (([] : List Int).mergeSort fun x y => decide (x ≤ y))
          rw [List.length_mergeSort] at h1
          rw [← HNB.out, ← HXS.out]
          exact List.eq_nil_of_length_eq_zero (Nat.le_zero.1 h1)
        have HNI := Lib.hid hnil
        clear hnil h0
        go_wp2_with fail
        refine (shelf_slices_Sort_int_none a5 c5 wr).mono ?_
        rintro e w' ⟨rfl, rfl⟩
        go_wp2_with fail
        refine (shelf_slices_Compact_int_empty a5 c5 _).mono ?_
        rintro e w' ⟨rfl, rfl⟩
        go_wp2
        go_ret
        have hs9 := HS4.out
        have hb9 := HB3.out
        rw [HG.out] at hs9 hb9
        refine ⟨_, rfl, ?_, hb9⟩
        rw [HNI.out]
        exact hs9
      · obtain ⟨g, off, rfl, -⟩ := Sep.rowAt (A := []) (C := []) HS4.out h0
        have hc5 : xs.length ≤ c5 := by
          obtain ⟨a, c, h, hc, -⟩ := Sep.intsShape (A := []) (C := []) HS4.out
          simp only [Value.slice.injEq] at h
          obtain ⟨-, -, rfl⟩ := h
          exact hc
        have hso := shelf_slices_Sort_int g off c5 xs wr (holds_ints (A := []) (C := []) HS4.out) (Sep.rowBlk (A := []) (C := []) HS4.out).2.1 (by omega)
        have HSO := Lib.hid hso
        clear hso
        go_wp2_with fail
        refine HSO.out.mono ?_
        rintro e w4 ⟨rfl, q, os, rfl⟩
        obtain ⟨hs5, hb5⟩ := intsPut (A := []) (C := []) HS4.out (ts := xs.mergeSort fun x y => decide (x ≤ y)) (List.length_mergeSort _) q os
        obtain ⟨w5, hw5⟩ : ∃ w5, w5 = grow (putRow (Value.int .i64) (Sort.ahead wr q) g off (xs.mergeSort fun x y => decide (x ≤ y)).toArray) os := ⟨_, rfl⟩
        rw [← hw5] at hs5 hb5 ⊢
        obtain ⟨ys, hys⟩ : ∃ ys, ys = xs.mergeSort fun x y => decide (x ≤ y) := ⟨_, rfl⟩
        rw [← hys] at hs5
        have hyl : ys.length = xs.length := by rw [hys]; exact List.length_mergeSort _
        have hs6 : Sep G w5 [Ent.ints 3 (.slice (some ⟨g, off, none⟩) ys.length c5) ys] := by rw [hyl]; exact hs5
        have HS6 := Lib.hid hs6
        have HB6 := Lib.hid (HB3.out.trans hb5)
        have hcm : compact ys = nbrI n L p := by rw [hys, HXS.out]; exact HNB.out
        have hco := shelf_slices_Compact_int g off c5 ys w5 (holds_ints (A := []) (C := []) hs6) (by omega) (by omega)
        rw [hcm, hyl] at hco
        have hle : (nbrI n L p).length ≤ xs.length := by rw [← hcm, ← hyl]; exact compact_less ys
        have HCO := Lib.hid hco
        have HLE := Lib.hid hle
        have HYL := Lib.hid hyl
        clear hs5 hb5 hw5 hys hs6 hcm hco hle hyl HSO HS4 HB3
        go_wp2_with fail
        refine HCO.out.mono ?_
        rintro e w7 ⟨rfl, q2, rfl⟩
        obtain ⟨hs7, hb7⟩ := intsPut (A := []) (C := []) HS6.out (ts := nbrI n L p ++ List.replicate (xs.length - (nbrI n L p).length) 0) (by rw [List.length_append, List.length_replicate, HYL.out]; have := HLE.out; omega) q2 #[]
        rw [grow_empty] at hs7 hb7
        have hs8 : Sep G (putRow (Value.int .i64) (Sort.ahead w5 q2) g off (nbrI n L p ++ List.replicate (xs.length - (nbrI n L p).length) 0).toArray) [Ent.ints 3 (.slice (some ⟨g, off, none⟩) (nbrI n L p).length c5) (nbrI n L p)] := by
          have hlen : (nbrI n L p ++ List.replicate (xs.length - (nbrI n L p).length) 0).length = ys.length := by rw [List.length_append, List.length_replicate, HYL.out]; have := HLE.out; omega
          unfold Ent.ints at hs7 ⊢
          rw [hlen] at hs7
          have h1 := Sep.rowFirst (A := []) (C := []) hs7 (k := (nbrI n L p).length) (by rw [HYL.out]; exact HLE.out)
          rw [Nat.mul_one, ← List.map_take, List.take_left' rfl] at h1
          exact h1
        have HS8 := Lib.hid hs8
        have HB8 := Lib.hid (HB6.out.trans hb7)
        clear hs7 hb7 hs8
        generalize putRow (Value.int .i64) (Sort.ahead w5 q2) g off (nbrI n L p ++ List.replicate (xs.length - (nbrI n L p).length) 0).toArray = w8 at *
        go_wp2
        go_ret
        have hs9 := HS8.out
        have hb9 := HB8.out
        rw [HG.out] at hs9 hb9
        exact ⟨_, rfl, hs9, hb9⟩
end Go.Proofs.YtnmddgjgmdegoaaDoor
