/- drrFact: the closed fact holds; how many a slice has of a number, how many things queues have, and their sum. -/
import Derived.Test.YtommedhaaojgiaaDrrRun
import Derived.Test.YtommedhaaojgiaaInts
import Derived.Test.YtommedhaaojgiaaCnts
namespace Go.Proofs.Ytommedhaaojgiaa
open Go.RowKit
set_option linter.unusedVariables false

theorem rowSl_new (w : World) (g : Nat) (hg : g = w.heap.size) (cs : Array Value) (e : TypeId) (rs : List Stp) (h : cs.toList = rs.map fun r => Value.slice r.1 r.2.2.length r.2.1) : RowSl (g + 1) (w.alloc (.cells cs e)) (some ⟨g, 0, none⟩) 1 (rs.map stpC) := by
  subst hg
  intro j row hj
  rw [List.getElem?_map] at hj
  cases hr : rs[j]? with
  | none => rw [hr] at hj; cases hj
  | some r =>
    rw [hr] at hj
    obtain rfl : stpC r = row := by simpa using hj
    refine ⟨w.heap.size, 0, rfl, by omega, ?_⟩
    intro i v hv
    match i, hv with
    | 0, hv =>
      obtain rfl : Value.slice r.1 r.2.2.length r.2.1 = v := by simpa [stpC] using hv
      have h1 : cs.toList[j]? = some (.slice r.1 r.2.2.length r.2.1) := by rw [h, List.getElem?_map, hr]; rfl
      have h2 : (w.alloc (.cells cs e)).heap[w.heap.size]? = some (.cells cs e) := heap_alloc_new w _
      rw [show 0 + j * 1 + 0 = j by omega]
      rw [cell_of_row _ _ j cs e (0, 0) h2]
      simpa using h1
    | i + 1, hv => simp [stpC] at hv

theorem drrFact_out : drrOut [[3, 3], [1, 1, 1, 1]] 3 = [0, 1, 1, 1, 0, 1] := by decide +kernel
theorem drrFact_args : QsOk [[3, 3], [1, 1, 1, 1]] := ⟨by decide, by decide⟩

set_option maxHeartbeats 1000000 in
theorem drrFact_any (w : World) : Calls Try.prog 20 #[] w fun e w' => e = .returned (.bool true) ∧ Below w.heap.size w w' := by
  obtain ⟨rs, hrs⟩ : ∃ rs : List Stp, rs = [(some ⟨w.heap.size, 0, none⟩, 2, [3, 3]), (some ⟨w.heap.size + 1, 0, none⟩, 4, [1, 1, 1, 1])] := ⟨_, rfl⟩
  have h1 : IntSl (w.heap.size + 1) (w.alloc (.cells #[.int .i64 3, .int .i64 3] 3)) (some ⟨w.heap.size, 0, none⟩) [3, 3] := intSl_new w _ _ [3, 3] rfl
  have h1b := (h1.past (by simp) (.cells #[.int .i64 1, .int .i64 1, .int .i64 1, .int .i64 1] 3)).past (by simp) (.cells #[.slice (some ⟨w.heap.size, 0, none⟩) 2 2, .slice (some ⟨w.heap.size + 1, 0, none⟩) 4 4] 26)
  have h2 : IntSl (w.heap.size + 1 + 1) ((w.alloc (.cells #[.int .i64 3, .int .i64 3] 3)).alloc (.cells #[.int .i64 1, .int .i64 1, .int .i64 1, .int .i64 1] 3)) (some ⟨w.heap.size + 1, 0, none⟩) [1, 1, 1, 1] := by
    have := intSl_new (w.alloc (.cells #[.int .i64 3, .int .i64 3] 3)) #[.int .i64 1, .int .i64 1, .int .i64 1, .int .i64 1] 3 [1, 1, 1, 1] rfl
    simpa using this
  have h2b := h2.past (by simp) (.cells #[.slice (some ⟨w.heap.size, 0, none⟩) 2 2, .slice (some ⟨w.heap.size + 1, 0, none⟩) 4 4] 26)
  have h3 : RowSl (w.heap.size + 1 + 1 + 1) (((w.alloc (.cells #[.int .i64 3, .int .i64 3] 3)).alloc (.cells #[.int .i64 1, .int .i64 1, .int .i64 1, .int .i64 1] 3)).alloc (.cells #[.slice (some ⟨w.heap.size, 0, none⟩) 2 2, .slice (some ⟨w.heap.size + 1, 0, none⟩) 4 4] 26)) (some ⟨w.heap.size + 1 + 1, 0, none⟩) 1 (rs.map stpC) :=
    rowSl_new _ _ (by simp) _ _ rs (by rw [hrs]; rfl)
  have h4 : StpsOk (w.heap.size + 1 + 1 + 1) (((w.alloc (.cells #[.int .i64 3, .int .i64 3] 3)).alloc (.cells #[.int .i64 1, .int .i64 1, .int .i64 1, .int .i64 1] 3)).alloc (.cells #[.slice (some ⟨w.heap.size, 0, none⟩) 2 2, .slice (some ⟨w.heap.size + 1, 0, none⟩) 4 4] 26)) rs := by
    intro r hr
    rw [hrs] at hr
    simp only [List.mem_cons, List.not_mem_nil, or_false] at hr
    rcases hr with rfl | rfl
    · exact ⟨h1b.mono (by omega), by simp, by simp [maxLen]⟩
    · exact ⟨h2b.mono (by omega), by simp, by simp [maxLen]⟩
  have hrl : rs.length = 2 := by rw [hrs]; rfl
  have hro : rowsOf rs = [[3, 3], [1, 1, 1, 1]] := by rw [hrs]; rfl
  have H3 := Lib.hid h3
  have H4 := Lib.hid h4
  have HRL := Lib.hid hrl
  have HRO := Lib.hid hro
  clear h1 h1b h2 h2b h3 h4 hrl hro hrs
  have hbel : Below w.heap.size w (((w.alloc (.cells #[.int .i64 3, .int .i64 3] 3)).alloc (.cells #[.int .i64 1, .int .i64 1, .int .i64 1, .int .i64 1] 3)).alloc (.cells #[.slice (some ⟨w.heap.size, 0, none⟩) 2 2, .slice (some ⟨w.heap.size + 1, 0, none⟩) 4 4] 26)) :=
    ((below_alloc w _).alloc (by simp) _).alloc (by simp; omega) _
  have HBE := Lib.hid hbel; clear hbel
  go_enter Try.func20, Try.ntmps20
  go_wp2_with fail
  refine (drrRun_ok _ 2 2 _ rs 3 _ H3.out H4.out HRL.out.symm (by simp) (by rw [HRO.out]; exact drrFact_args) (by decide)).mono ?_
  rintro e w1 ⟨va, rfl, hs, hb⟩
  have HB1 := Lib.hid (HBE.out.trans (hb.mono HBE.out.size)); clear hb
  rw [HRO.out, show Int.toNat 3 = 3 from rfl, drrFact_out] at hs
  obtain ⟨ao1, c1, rfl, _, _⟩ := hs.intsShape (A := []) (C := [])
  have HX := Lib.hid (hs.intSl (A := []) (C := [])); clear hs
  have HX2 := Lib.hid (fun o => HX.out.past (Nat.le_refl _) o)
  go_wp2_with fail
  refine (ints_any _ _ _ _ _ _ _ _ [0, 1, 1, 1, 0, 1] [0, 1, 1, 1, 0, 1] true _ (HX2.out _) (intSl_new _ _ _ _ rfl) rfl rfl (by decide) (by decide)).mono ?_
  rintro e w3 ⟨rfl, hd⟩
  have HB3 := Lib.hid (below_past (below_of_drew hd)); clear hd
  go_wp2
  go_ret
  exact ⟨rfl, HB1.out.trans (HB3.out.mono HB1.out.size)⟩

set_option maxHeartbeats 400000 in
theorem count_any (ao : Option Addr) (len ac B : Nat) (xs : List Int) (y : Int) (w : World) (hA : IntSl B w ao xs) (hlen : len = xs.length) (hl : xs.length ≤ 1000000) :
    Calls Try.prog 22 #[.slice ao len ac, .int .i64 y] w fun e w' => e = .returned (.int .i64 (xs.count y)) ∧ w = w' := by
  subst hlen
  have HA := Lib.hid hA; clear hA
  obtain ⟨s, hs⟩ : ∃ s, s = xs.count y := ⟨_, rfl⟩
  rw [← hs]
  have HS := Lib.hid hs; clear hs
  go_enter Try.func22, Try.ntmps22
  go_wp2
  go_loop [5, 6] (fun m i => ∃ (k c : Nat), k ≤ xs.length ∧ i = .int .i64 k ∧ m = .int .i64 c ∧ Hid (c = (xs.take k).count y) ∧ c ≤ k) (fun _ i => xs.length - (intOf i).toNat)
  case atStart => exact ⟨0, 0, Nat.zero_le _, rfl, rfl, by simp [Hid], Nat.le_refl _⟩
  case round =>
    obtain ⟨k, c, hk, rfl, rfl, hc, hck⟩ := hrel
    by_cases hlt : k < xs.length
    · obtain ⟨x, hx⟩ : ∃ x, xs[k]? = some x := ⟨_, List.getElem?_eq_getElem hlt⟩
      obtain ⟨b, off, rfl, _, c1⟩ := HA.out k x hx
      have Hx := Lib.hid hx; clear hx
      by_cases hxy : x = y
      · subst hxy
        have hb : (x == x) = true := by simp
        go_wp2
        go_round
        case rel => exact ⟨k + 1, c + 1, by omega, by go_num, by go_num, by simp only [Hid]; rw [List.take_add_one, Hx.out, List.count_append, ← hc.out]; simp, by omega⟩
        case measure => simp [intOf]; omega
      · have hb : (x == y) = false := by simp [hxy]
        go_wp2
        go_round
        case rel => exact ⟨k + 1, c, by omega, by go_num, rfl, by simp only [Hid]; rw [List.take_add_one, Hx.out, List.count_append, ← hc.out]; simp [List.count_cons, hb], by omega⟩
        case measure => simp [intOf]; omega
    · have hfin : c = s := by rw [hc.out, List.take_of_length_le (by omega), ← HS.out]
      subst hfin
      go_wp2
      go_ret
      exact ⟨rfl, rfl⟩

set_option maxHeartbeats 400000 in
theorem things_any (ao : Option Addr) (len ac B : Nat) (rs : List Stp) (w : World) (hA : RowSl B w ao 1 (rs.map stpC)) (hlen : len = rs.length) (hok : QsOk (rowsOf rs)) :
    Calls Try.prog 23 #[.slice ao len ac] w fun e w' => e = .returned (.int .i64 (drrTot (rowsOf rs))) ∧ w = w' := by
  subst hlen
  have HA := Lib.hid hA; clear hA
  have hn5 : rs.length ≤ 5 := by rw [← rowsOf_len]; exact hok.few
  have HOK := Lib.hid hok; clear hok
  obtain ⟨s, hs⟩ : ∃ s, s = drrTot (rowsOf rs) := ⟨_, rfl⟩
  rw [← hs]
  have HS := Lib.hid hs; clear hs
  go_enter Try.func23, Try.ntmps23
  go_wp2
  go_loop [3, 4] (fun m i => ∃ (k c : Nat), k ≤ rs.length ∧ i = .int .i64 k ∧ m = .int .i64 c ∧ Hid (c = psum (fun i => ((rowsOf rs).getD i []).length) k) ∧ c ≤ 8 * k) (fun _ i => rs.length - (intOf i).toNat)
  case atStart => exact ⟨0, 0, Nat.zero_le _, rfl, rfl, rfl, by omega⟩
  case round =>
    obtain ⟨k, c, hk, rfl, rfl, hc, hck⟩ := hrel
    by_cases hlt : k < rs.length
    · obtain ⟨⟨ra, rc, xs⟩, hrk⟩ : ∃ r, rs[k]? = some r := ⟨_, List.getElem?_eq_getElem hlt⟩
      obtain ⟨b, off, rfl, hbb, c0⟩ := rows_at HA.out hrk
      have hrg := rowsOf_get hrk
      have hx8 := (HOK.out.all xs (List.mem_iff_getElem?.2 ⟨k, hrg⟩)).1
      have hnx : psum (fun i => ((rowsOf rs).getD i []).length) (k + 1) = c + xs.length := by
        rw [psum, ← hc.out, List.getD_eq_getElem?_getD, hrg]; rfl
      have HN := Lib.hid hnx; clear hnx hrk hrg
      go_wp2
      go_round
      case rel => exact ⟨k + 1, c + xs.length, by omega, by go_num, by go_num, HN.out.symm, by omega⟩
      case measure => simp [intOf]; omega
    · have hkn : k = rs.length := by omega
      have hfin : c = s := by rw [HS.out, hc.out, hkn]; unfold drrTot; rw [rowsOf_len]
      subst hfin
      clear hkn
      go_wp2
      go_ret
      exact ⟨rfl, rfl⟩

set_option maxHeartbeats 400000 in
/-- ferryhytheref3.All: of numbers that are small, and not many. -/
theorem all3_any (ao : Option Addr) (len ac B : Nat) (xs : List Int) (w : World) (hA : IntSl B w ao xs) (hlen : len = xs.length) (hl : xs.length ≤ 1000) (hb : ∀ x ∈ xs, 0 ≤ x ∧ x ≤ 1000000) :
    Calls Try.prog 24 #[.slice ao len ac] w fun e w' => e = .returned (.int .i64 xs.sum) ∧ w = w' := by
  subst hlen
  have HA := Lib.hid hA; clear hA
  have HB := Lib.hid hb; clear hb
  obtain ⟨s, hs⟩ : ∃ s, s = xs.sum := ⟨_, rfl⟩
  rw [← hs]
  have HS := Lib.hid hs; clear hs
  go_enter Try.func24, Try.ntmps24
  go_wp2
  go_loop [3, 4] (fun m i => ∃ (k : Nat) (y : Int), k ≤ xs.length ∧ i = .int .i64 k ∧ m = .int .i64 y ∧ Hid (y = (xs.take k).sum) ∧ 0 ≤ y ∧ y ≤ 1000000000000) (fun _ i => xs.length - (intOf i).toNat)
  case atStart => exact ⟨0, 0, Nat.zero_le _, rfl, rfl, by simp [Hid], by omega, by omega⟩
  case round =>
    obtain ⟨k, y, hk, rfl, rfl, hy, hy0, hy1⟩ := hrel
    by_cases hlt : k < xs.length
    · obtain ⟨x, hx⟩ : ∃ x, xs[k]? = some x := ⟨_, List.getElem?_eq_getElem hlt⟩
      obtain ⟨b, off, rfl, _, c1⟩ := HA.out k x hx
      have hxb := HB.out x (List.mem_iff_getElem?.2 ⟨k, hx⟩)
      have h0 := sum_take_nonneg xs (k + 1) (fun x hx => (HB.out x hx).1)
      have h1 := take_sum_le HB.out (k + 1) (by omega)
      rw [take_sum_succ hx, ← hy.out] at h0 h1
      have H1 : 0 ≤ y + x ∧ y + x ≤ 1000000000000 := by omega
      have hst : y + x = (xs.take (k + 1)).sum := by rw [take_sum_succ hx, ← hy.out]
      have HST := Lib.hid hst; clear hst hx h0 h1
      go_wp2
      go_round
      case rel => exact ⟨k + 1, y + x, by omega, by go_num, by first | rfl | go_num, HST.out, H1.1, H1.2⟩
      case measure => simp [intOf]; omega
    · have hfin : y = s := by rw [hy.out, List.take_of_length_le (by omega), ← HS.out]
      have HF := Lib.hid hfin; clear hfin
      go_wp2
      go_ret
      exact ⟨ret_int HF.out, rfl⟩
end Go.Proofs.Ytommedhaaojgiaa
