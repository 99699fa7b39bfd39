/- rounds.Run: the order, and when each is served. -/
import Derived.Test.YtpfpaheafpibiaaDoorItems
import Derived.Test.YtpfpaheafpibiaaDoorElem
namespace Go.Proofs.YtpfpaheafpibiaaDoor
open Go.RowKit
set_option linter.unusedVariables false
set_option linter.unusedSimpArgs false
set_option maxRecDepth 100000

def ordOf (S : List Itm) : List Int := S.map fun x => (x.1 : Int)
def endsOf (S : List Itm) : List Int := (List.range S.length).map fun j => ((endAt S (j + 1) : Nat) : Int)
def bitsOf (ns : List (List Nat)) (S : List Itm) : List Int := S.map fun x => ((bitOf ns x.2.2.1 : Nat) : Int)

set_option maxHeartbeats 1000000 in
theorem rndRun_err (ao : Option Addr) (len ac B : Nat) (rs : List Stp) (c : Int) (w : World) (hA : RowSl B w ao 1 (rs.map stpC)) (hr : StpsOk B w rs) (hlen : len = rs.length) (hl : rs.length ≤ 9223372036854775807) (hc : c = checkCode (rowsOf rs)) (h0 : ¬ c = 0) :
    Calls Tryd.prog 7 #[.slice ao len ac] w fun e w' => e = .returned (.tuple #[.slice none 0 0, .slice none 0 0, errV c]) ∧ w = w' := by
  have HC := Lib.hid (drrCheck_any ao len ac B rs w hA hr hlen hl)
  rw [errV_not h0]
  have HE : Hid (errV (checkCode (rowsOf rs)) = .iface 43 (.int .i64 c)) := Lib.hid (by rw [← hc, errV_not h0])
  clear hA hr hlen hc
  go_enter Tryd.func7, Tryd.ntmps7
  go_wp2_with fail
  refine HC.out.mono ?_
  rintro e w' ⟨rfl, rfl⟩
  rw [HE.out]
  go_wp2
  go_ret3
  exact ⟨rfl, rfl⟩

theorem nsOf_at {qs : List (List Int)} {k : Nat} (h : k < (nsOf qs).length) : ∃ q, qs[k]? = some q ∧ (nsOf qs).getD k [] = q.map Int.toNat := by
  obtain ⟨q, hq⟩ : ∃ q, qs[k]? = some q := ⟨_, List.getElem?_eq_getElem (by rw [nsOf_len] at h; exact h)⟩
  exact ⟨q, hq, nsOf_get hq⟩
theorem sum_bd {q : List Int} (h : ∀ x ∈ q, 1 ≤ x ∧ x ≤ 20) : ∀ k, ((q.map Int.toNat).take k).sum ≤ 20 * k
  | 0 => by simp
  | k + 1 => by
    have ih := sum_bd h k
    rw [List.take_add_one, List.sum_append]
    cases hx : (q.map Int.toNat)[k]? with
    | none => simp; omega
    | some y =>
      rw [List.getElem?_map] at hx
      obtain ⟨x, hx1, rfl⟩ := Option.map_eq_some_iff.1 hx
      have := (h x (List.mem_iff_getElem?.2 ⟨k, hx1⟩)).2
      simp; omega
theorem rnd_bd {qs : List (List Int)} (h : QsOk qs) {i : Nat} {x : Itm} (hx : (rnd (nsOf qs))[i]? = some x) : x.2.2.2 ≤ 20 ∧ x.2.2.1 ≤ 160 ∧ x.1 < qs.length ∧ x.2.1 < 8 ∧ 1 ≤ x.2.2.2 := by
  obtain ⟨h1, h2, h3, h4⟩ := rnd_place (nsOf_pos h) hx
  obtain ⟨h5, h6⟩ := rnd_size (nsOf_pos h) hx
  obtain ⟨q, hq, e⟩ := nsOf_at h3
  have hq8 := h.all q (List.mem_iff_getElem?.2 ⟨_, hq⟩)
  rw [e] at h2 h4 h6
  rw [List.length_map] at h4
  have hr : x.2.2.1 = ((q.map Int.toNat).take (x.2.1 + 1)).sum := by rw [h2]; rfl
  have hb := sum_bd hq8.2 (x.2.1 + 1)
  refine ⟨?_, by omega, by rw [nsOf_len] at h3; exact h3, by omega, h5⟩
  rw [h6, List.getD_eq_getElem?_getD, List.getElem?_map, List.getElem?_eq_getElem h4]
  have := (hq8.2 _ (List.getElem_mem h4)).2
  simp; omega
theorem rnd_len40 {qs : List (List Int)} (h : QsOk qs) : (rnd (nsOf qs)).length ≤ 40 := by
  have h1 := rawTo_le h qs.length (Nat.le_refl _)
  have h2 := h.few
  rw [(rnd_perm _).length_eq]; unfold raw; rw [nsOf_len]; omega

set_option maxHeartbeats 2000000 in
theorem rndRun_ok (ao : Option Addr) (len ac B : Nat) (rs : List Stp) (w : World) (hA : RowSl B w ao 1 (rs.map stpC)) (hr : StpsOk B w rs) (hlen : len = rs.length) (hB : B ≤ w.heap.size) (hok : QsOk (rowsOf rs)) :
    Calls Tryd.prog 7 #[.slice ao len ac] w fun e w' => ∃ va vb, e = .returned (.tuple #[va, vb, .nilIface]) ∧ Sep w.heap.size w' [Ent.ints 3 vb (endsOf (rnd (nsOf (rowsOf rs)))), Ent.ints 3 va (ordOf (rnd (nsOf (rowsOf rs))))] ∧ Below w.heap.size w w' := by
  have hn5 : rs.length ≤ 5 := by rw [← rowsOf_len]; exact hok.few
  have HC := Lib.hid (drrCheck_any ao len ac B rs w hA hr hlen (by omega))
  have HI := Lib.hid (items_any ao len ac B rs w hA hr hlen hB hok)
  rw [checkCode_zero.2 hok, errV_zero] at HC
  obtain ⟨g, hg⟩ : ∃ g, g = w.heap.size := ⟨_, rfl⟩
  rw [← hg] at HI ⊢
  have HG := Lib.hid hg
  obtain ⟨S, hS⟩ : ∃ S, S = rnd (nsOf (rowsOf rs)) := ⟨_, rfl⟩
  have hbd : ∀ (i : Nat) (x : Itm), S[i]? = some x → x.2.2.2 ≤ 20 ∧ x.1 < 5 := fun i x hx => by
    rw [hS] at hx; have := rnd_bd hok hx; have := hok.few; omega
  have hl40 : S.length ≤ 40 := by rw [hS]; exact rnd_len40 hok
  rw [← hS] at HI ⊢
  have HBD := Lib.hid hbd
  clear hA hr hlen hok hS hbd hg
  go_enter Tryd.func7, Tryd.ntmps7
  go_wp2_with fail
  refine HC.out.mono ?_
  rintro e w' ⟨rfl, rfl⟩
  go_wp2_with fail
  refine HI.out.mono ?_
  rintro e w1 ⟨v1, rfl, hs, hb⟩
  obtain ⟨-, a1, c1, rfl, -, -⟩ := hs.rowShape (A := [])
  have HS1 := Lib.hid ((hs.intsNil 3).intsNil 3)
  have HB1 := Lib.hid hb
  have hgw : g ≤ w.heap.size := Nat.le_of_eq HG.out
  clear hs hb HC HI
  go_wp2
  go_loopg [2, 3, 6, 17] S.length (fun gk o e n i wr => ∃ (k nw : Nat) (vo ve : Value) (eo ee : List Int), gk + k = S.length ∧ i = .int .i64 k ∧ n = .int .i64 nw ∧ vo = o ∧ ve = e ∧ Hid (nw = endAt S k) ∧ nw ≤ 20 * k ∧
    Hid (ee = (List.range k).map fun j => ((endAt S (j + 1) : Nat) : Int)) ∧ Hid (eo = (S.take k).map fun x => (x.1 : Int)) ∧ Sep g wr [Ent.ints 3 ve ee, Ent.ints 3 vo eo, itE (.slice a1 S.length c1) S] ∧ Below g w wr)
  case atStart => exact ⟨0, 0, _, _, [], [], by omega, rfl, rfl, rfl, rfl, by simp [Hid, endAt], by omega, by simp [Hid], by simp [Hid], HS1.out, HB1.out⟩
  case round =>
    obtain ⟨gi, hgi0⟩ : ∃ gi, gi = gk := ⟨_, rfl⟩
    obtain ⟨k, nw, vo, ve, eo, ee, hgk, rfl, rfl, rfl, rfl, hnw, hnb, hee, heo, hs, hbl⟩ := hrel
    have hgw1 : g ≤ wr.heap.size := Nat.le_trans hgw hbl.size
    have HS2 := Lib.hid hs
    have HB2 := Lib.hid hbl
    clear hs hbl HS1 HB1
    by_cases hlt : k < S.length
    · obtain ⟨⟨q, p, r, s⟩, hx⟩ : ∃ x, S[k]? = some x := ⟨_, List.getElem?_eq_getElem hlt⟩
      obtain ⟨hs20, hq5⟩ := HBD.out k _ hx
      try dsimp only at hs20 hq5
      obtain ⟨g1, off, rfl, hgg, ⟨c0, c1', c2, c3⟩, hf⟩ := it_at (A := [_, _]) HS2.out hx
      try dsimp only at c0 c1' c2 c3
      have HX := Lib.hid hx
      have HGK := Lib.hid hgk
      have hlo : eo.length ≤ 1000000000 := by rw [heo.out]; simp; omega
      have hle : ee.length ≤ 1000000000 := by rw [hee.out]; simp; omega
      have HLO := Lib.hid hlo
      have HLE := Lib.hid hle
      have HAL := Lib.hid (fun o => HS2.out.alloc o)
      have hga : ∀ o, g ≤ (wr.alloc o).heap.size := fun o => by simp; omega
      have HGA := Lib.hid hga
      have hnx : nw + s = endAt S (k + 1) := by rw [end_succ hx, ← hnw.out]
      have HNX := Lib.hid hnx
      clear hx hgk hgi0 hlo hle hga hnx hgg
      go_wp2_with (at_builtin; refine wpList_append_int (B := g) (w := wr.alloc (.cells #[.int .i64 (q : Int), .int .i64 (p : Int), .int .i64 (r : Int), .int .i64 (s : Int)] 42)) (v := vo) (y := (q : Int)) (xs := eo) (A := [Ent.ints 3 ve ee]) (C := [itE (.slice (some ⟨g1, off, none⟩) S.length c1) S]) ?_ (.tmp 25) (.tmp 28) ?_ elemInt8 ?_ (HAL.out _) (HGA.out _) ?_ HLO.out ?_; rfl; rfl; rfl; (rw [World.size_alloc]; rfl))
      intro v' w3 h1 h2
      have HS3 := Lib.hid h1
      have HB3 := Lib.hid ((HB2.out.alloc hgw1 _).trans h2)
      have hg3 : g ≤ w3.heap.size := by have := h2.size; simp at this; omega
      clear h1 h2 c0 c1' c2 c3 hf
      go_wp2_with (at_builtin; refine wpList_append_int (B := g) (w := w3) (v := ve) (y := (nw : Int) + (s : Int)) (xs := ee) (A := []) (C := [Ent.ints 3 v' (eo ++ [(q : Int)]), itE (.slice (some ⟨g1, off, none⟩) S.length c1) S]) ?_ (.tmp 30) (.tmp 32) ?_ elemInt8 ?_ HS3.out hg3 ?_ HLE.out ?_; rfl; rfl; rfl; rfl)
      intro v'' w4 h1 h2
      have HS4 := Lib.hid h1
      have HB4 := Lib.hid (HB3.out.trans h2)
      clear h1 h2
      go_wp2
      go_roundg (S.length - (k + 1))
      case measure => have := HGK.out; omega
      case rel =>
        refine ⟨k + 1, nw + s, _, _, _, _, by omega, by go_num, by go_num, rfl, rfl, HNX.out, by omega, ?_, ?_, HS4.out, HB4.out⟩
        · show _ = _
          rw [List.range_succ, List.map_append, List.map_singleton, ← HNX.out, ← hee.out]; rfl
        · show _ = _
          rw [List.take_add_one, HX.out, List.map_append, ← heo.out]; rfl
    · have hkn : k = S.length := by omega
      have hs9 := HS2.out
      rw [hee.out, heo.out, hkn, List.take_length] at hs9
      have HS9 := Lib.hid (hs9.sub (List.Sublist.cons_cons _ (List.Sublist.cons_cons _ (List.nil_sublist _))))
      clear hs9 hkn hgk hgi0
      go_wp2
      go_ret3
      exact ⟨_, _, rfl, HS9.out, HB2.out⟩
end Go.Proofs.YtpfpaheafpibiaaDoor
