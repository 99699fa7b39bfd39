/- rounds.items: the things of all queues, in the order of their rounds. -/
import Derived.Test.YtpfpaheafpibiaaDoorStab
import Derived.Test.YtpfpaheafpibiaaDoorRndPlain
import Derived.Test.YtpfpaheafpibiaaDoorDrrCheck
namespace Go.Proofs.YtpfpaheafpibiaaDoor
open Go.RowKit
set_option linter.unusedVariables false
set_option linter.unusedSimpArgs false
set_option maxRecDepth 100000

theorem elemIt : ElemTy Tryd.prog 39 42 4 32 (.agg #[.int .i64 0, .int .i64 0, .int .i64 0, .int .i64 0]) := ⟨Tryd.underlying39, info_parts (by kernel_rfl), rfl, by decide⟩
def nsOf (qs : List (List Int)) : List (List Nat) := qs.map fun q => q.map Int.toNat
theorem nsOf_len (qs : List (List Int)) : (nsOf qs).length = qs.length := by simp [nsOf]
theorem nsOf_get {qs : List (List Int)} {k : Nat} {q : List Int} (h : qs[k]? = some q) : (nsOf qs).getD k [] = q.map Int.toNat := by simp [nsOf, List.getD_eq_getElem?_getD, h]
theorem nsOf_pos {qs : List (List Int)} (h : QsOk qs) : Pos (nsOf qs) := by
  intro l hl x hx
  obtain ⟨q, hq, rfl⟩ := List.mem_map.1 hl
  obtain ⟨y, hy, rfl⟩ := List.mem_map.1 hx
  have := ((h.all q hq).2 y hy).1
  omega
/-- 'append(out, one)'. -/
theorem wpList_append_itm {B : Nat} {w : World} {C : List Ent} {v : Value} {X : List Itm} {x : Itm} {te : TypeId} {ops : Array Oper} {rest : List Oper} {o : Oper} {a : Act} {Q : Exit → Act → World → Prop} (hgd : Region.wanted o (yielded ops a.tmps) = true) (s y : Operand)
    (ho : o.op = .call { callee := .builtin .append, args := #[s, y], argTypes := #[39, 39] }) (hs : a.eval s = v) (hsep : Sep B w (itE v X :: C)) (hB : B ≤ w.heap.size)
    (hx : a.eval y = .slice (some ⟨w.heap.size, 0, none⟩) 1 1) (hlen : X.length ≤ 1000000)
    (h : ∀ v' w', Sep B w' (itE v' (X ++ [x]) :: C) → Below B w w' → wpList Tryd.prog ops Q rest (a.put o.dst v') w') : wpList Tryd.prog ops Q (o :: rest) a (w.alloc (.cells #[.int .i64 x.1, .int .i64 x.2.1, .int .i64 x.2.2.1, .int .i64 x.2.2.2] te)) := by
  refine wpList_append_sep hgd s y ho elemIt hs (A := []) (C := C) (hsep.alloc _) (by simp; omega) ⟨w.heap.size, 0, none⟩ 1 1 (itC x) hx rfl ?_ ?_ (by decide) (by omega) (by unfold maxLen; omega) ?_
  · intro j u hj
    match j, hj with
    | 0, hj => simp [itC] at hj; subst hj; simp [Addr.add]
    | 1, hj => simp [itC] at hj; subst hj; simp [Addr.add]
    | 2, hj => simp [itC] at hj; subst hj; simp [Addr.add]
    | 3, hj => simp [itC] at hj; subst hj; simp [Addr.add]
  · intro u hu
    simp only [itC, List.mem_cons, List.not_mem_nil, or_false] at hu
    rcases hu with rfl | rfl | rfl | rfl <;> rfl
  · intro v' w' h1 h2
    refine h v' w' ?_ (((Below.refl B w).alloc hB _).trans h2)
    simp only [List.nil_append] at h1
    unfold itE
    rw [List.length_append, List.length_singleton, List.flatMap_append, show [x].flatMap itC = itC x by simp]
    exact h1
theorem rawTo_le {qs : List (List Int)} (h : QsOk qs) : ∀ k, k ≤ qs.length → (rawTo (nsOf qs) k).length ≤ 8 * k
  | 0, _ => by simp [rawTo]
  | k + 1, hk => by
    have ih := rawTo_le h k (by omega)
    obtain ⟨q, hq⟩ : ∃ q, qs[k]? = some q := ⟨_, List.getElem?_eq_getElem (by omega)⟩
    have := (h.all q (List.mem_iff_getElem?.2 ⟨k, hq⟩)).1
    rw [rawTo_succ, List.length_append, nsOf_get hq]
    simp [rawQ]; omega
theorem itAt_next {q : List Int} {k j : Nat} {x : Int} (hx : q[j]? = some x) : itAt k (q.map Int.toNat) j = (k, j, ((q.map Int.toNat).take j).sum + x.toNat, x.toNat) := by
  have hj : j < q.length := (List.getElem?_eq_some_iff.1 hx).1
  have h2 : (q.map Int.toNat).getD j 0 = x.toNat := by rw [List.getD_eq_getElem?_getD, List.getElem?_map, hx]; rfl
  unfold itAt
  rw [take_sum_succN (by simpa using hj), h2]

set_option maxHeartbeats 2000000 in
theorem items_any (ao : Option Addr) (len ac B : Nat) (rs : List Stp) (w : World) (hA : RowSl B w ao 1 (rs.map stpC)) (hr : StpsOk B w rs) (hlen : len = rs.length) (hB : B ≤ w.heap.size) (hok : QsOk (rowsOf rs)) :
    Calls Tryd.prog 14 #[.slice ao len ac] w fun e w' => ∃ v, e = .returned v ∧ Sep w.heap.size w' [itE v (rnd (nsOf (rowsOf rs)))] ∧ Below w.heap.size w w' := by
  subst hlen
  have hn5 : rs.length ≤ 5 := by rw [← rowsOf_len]; exact hok.few
  obtain ⟨g, hg⟩ : ∃ g, g = w.heap.size := ⟨_, rfl⟩
  have hs0 : Sep g w [itE (.slice none 0 0) (rawTo (nsOf (rowsOf rs)) 0)] := (Sep.nil g w).rowNil 4 _
  have hgw : g ≤ w.heap.size := Nat.le_of_eq hg
  have hBg : B ≤ g := by omega
  rw [← hg]
  have HA := Lib.hid hA
  have HR := Lib.hid hr
  have HOK := Lib.hid hok
  have HS0 := Lib.hid hs0
  have HG := Lib.hid hg
  clear hA hr hok hs0 hg hB
  go_enter Tryd.func14, Tryd.ntmps14
  go_wp2
  go_loopg [3, 11] rs.length (fun gk v i wr => ∃ (k : Nat) (vv : Value), gk + k = rs.length ∧ i = .int .i64 k ∧ vv = v ∧ Sep g wr [itE vv (rawTo (nsOf (rowsOf rs)) k)] ∧ Below g w wr)
  case atStart => exact ⟨0, _, by omega, rfl, rfl, HS0.out, Below.refl _ _⟩
  case round =>
    obtain ⟨gi, hgi0⟩ : ∃ gi, gi = gk := ⟨_, rfl⟩
    obtain ⟨k, vv, hgk, rfl, rfl, hs, hbl⟩ := hrel
    have hgw1 : g ≤ wr.heap.size := Nat.le_trans hgw hbl.size
    have HS1 := Lib.hid hs
    have HB1 := Lib.hid hbl
    have hle := rawTo_le HOK.out k (by rw [rowsOf_len]; omega)
    clear hs hbl HS0
    by_cases hlt : k < rs.length
    · obtain ⟨⟨ra, rc, xs⟩, hrk⟩ : ∃ r, rs[k]? = some r := ⟨_, List.getElem?_eq_getElem hlt⟩
      obtain ⟨b, off, rfl, hbb, c0⟩ := rows_at (HA.out.below (HB1.out.mono hBg)) hrk
      have hrg := rowsOf_get hrk
      have hx8 := HOK.out.all xs (List.mem_iff_getElem?.2 ⟨k, hrg⟩)
      have hxl := hx8.1
      have hi := (HR.out _ (List.mem_iff_getElem?.2 ⟨k, hrk⟩)).1
      simp only at hi
      have HI := Lib.hid hi
      have HX8 := Lib.hid hx8.2
      have HGK := Lib.hid hgk
      obtain ⟨ys, hys⟩ : ∃ ys, ys = xs.map Int.toNat := ⟨_, rfl⟩
      have hnx : rawTo (nsOf (rowsOf rs)) (k + 1) = rawTo (nsOf (rowsOf rs)) k ++ (List.range xs.length).map (itAt k ys) := by
        rw [rawTo_succ, nsOf_get hrg, hys]; simp [rawQ]
      obtain ⟨R0, hR0⟩ : ∃ R0, R0 = rawTo (nsOf (rowsOf rs)) k := ⟨_, rfl⟩
      rw [← hR0] at hnx HS1 hle
      have HNX := Lib.hid hnx
      have HYS := Lib.hid hys
      clear hrk hrg hx8 hi hgk hgi0 hys hnx hR0
      go_wp2
      go_loopg [3, 6, 18] xs.length (fun gk v s i wr => ∃ (j sm : Nat) (vv : Value), gk + j = xs.length ∧ i = .int .i64 j ∧ s = .int .i64 sm ∧ vv = v ∧ sm ≤ 20 * j ∧ Hid (sm = (ys.take j).sum) ∧ Sep g wr [itE vv (R0 ++ (List.range j).map (itAt k ys))] ∧ Below g w wr)
      case atStart => exact ⟨0, 0, _, by omega, rfl, rfl, rfl, by omega, by simp [Hid], by simpa using HS1.out, HB1.out⟩
      case round =>
        obtain ⟨gj, hgj0⟩ : ∃ gj, gj = gk := ⟨_, rfl⟩
        obtain ⟨j, sm, vu, hgk, rfl, rfl, rfl, hsm, hsum, hs, hbl⟩ := hrel
        have hgw2 : g ≤ wr.heap.size := Nat.le_trans hgw hbl.size
        have HS2 := Lib.hid hs
        have HB2 := Lib.hid hbl
        clear hs hbl HS1 HB1
        by_cases hlt2 : j < xs.length
        · obtain ⟨x, hx⟩ : ∃ x, xs[j]? = some x := ⟨_, List.getElem?_eq_getElem hlt2⟩
          obtain ⟨b2, off2, rfl, hb2, c2⟩ := (HI.out.below (HB2.out.mono hBg)) j x hx
          obtain ⟨h1x, h2x⟩ := HX8.out x (List.mem_iff_getElem?.2 ⟨j, hx⟩)
          obtain ⟨y, rfl⟩ := Int.eq_ofNat_of_zero_le (by omega : 0 ≤ x)
          have hat := itAt_next (k := k) hx
          rw [← HYS.out, ← hsum.out, Int.toNat_natCast] at hat
          have HAT := Lib.hid hat
          have HNS : Hid (sm + y = (ys.take (j + 1)).sum) := Lib.hid (by
            have hjl : j < ys.length := by rw [HYS.out]; simpa using hlt2
            rw [take_sum_succN hjl, ← hsum.out, HYS.out, List.getD_eq_getElem?_getD, List.getElem?_map, hx]; rfl)
          have HGK2 := Lib.hid hgk
          have hll : (R0 ++ (List.range j).map (itAt k ys)).length ≤ 1000000 := by simp; omega
          have HLL := Lib.hid hll
          clear hx hat hgk hgj0 hll
          go_wp2_with (at_builtin; refine wpList_append_itm (B := g) (w := wr) (v := vu) (C := []) (X := R0 ++ (List.range j).map (itAt k ys)) (x := (k, j, sm + y, y)) ?_ (.tmp 26) (.tmp 32) ?_ ?_ ?_ ?_ ?_ ?_ ?_; rfl; rfl; rfl; exact HS2.out; exact hgw2; rfl; exact HLL.out)
          intro v' w' h1 h2
          have HS3 := Lib.hid h1
          have HB3 := Lib.hid (HB2.out.trans h2)
          clear h1 h2
          go_wp2
          go_roundg (xs.length - (j + 1))
          case measure => have := HGK2.out; omega
          case rel => exact ⟨j + 1, sm + y, _, by omega, by go_num, by go_num, rfl, by omega, HNS.out, by rw [List.range_succ, List.map_append, ← List.append_assoc, List.map_singleton, HAT.out]; simpa using HS3.out, HB3.out⟩
        · have hjn : j = xs.length := by omega
          have hs9 := HS2.out
          rw [hjn, ← HNX.out] at hs9
          have HS9 := Lib.hid hs9
          clear hs9 hjn hgk hgj0
          go_wp2
          go_roundg (rs.length - (k + 1))
          case measure => have := HGK.out; omega
          case rel => exact ⟨k + 1, _, by omega, by go_num, rfl, HS9.out, HB2.out⟩
    · have hkn : k = rs.length := by omega
      have hs9 := HS1.out
      rw [hkn] at hs9 hle
      have hl40 : (rawTo (nsOf (rowsOf rs)) rs.length).length ≤ 40 := by omega
      have hc := sort_any g vv _ [] wr hl40 hgw1 hs9
      have HC := Lib.hid hc
      clear hkn hs9 hc hgk hgi0 hle hl40
      go_wp2_with fail
      refine HC.out.mono ?_
      rintro e w2 ⟨rfl, ⟨C, p1, p2, hs⟩, hb⟩
      have heq : C = rnd (nsOf (rowsOf rs)) := rnd_eq (nsOf_pos HOK.out) (by unfold raw; rw [nsOf_len, rowsOf_len]; exact p1) p2
      rw [heq] at hs
      have HS5 := Lib.hid hs
      have HB5 := Lib.hid (HB1.out.trans hb)
      clear p1 p2 hs hb heq HC
      go_wp2
      go_ret
      exact ⟨_, rfl, HS5.out, HB5.out⟩
end Go.Proofs.YtpfpaheafpibiaaDoor
