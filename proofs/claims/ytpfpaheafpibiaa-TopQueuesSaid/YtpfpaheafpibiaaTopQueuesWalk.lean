/- TopQueues returns true: of queues of things of one size, both serve one of each in turn. -/
import Derived.Test.YtpfpaheafpibiaaTopQPlain
import Derived.Test.YtpfpaheafpibiaaRingRun
import Derived.Test.YtpfpaheafpibiaaRws
import Derived.Test.YtpfpaheafpibiaaInts
import Derived.Test.YtpfpaheafpibiaaAllR
import Derived.Test.YtpfpaheafpibiaaInTop
namespace Go.Proofs.Ytpfpaheafpibiaa
open Go.RowKit
set_option linter.unusedVariables false
set_option linter.unusedSimpArgs false
set_option maxRecDepth 100000

theorem elemS : ElemTy Try.prog 22 24 1 24 (.slice none 0 0) := ⟨Try.underlying22, info_parts (by kernel_rfl), rfl, by decide⟩
/-- A row of the call's own, by its slice. -/
def rowE (r : Stp) : Ent := Ent.ints 3 (stpV r) r.2.2
theorem Sep.rowCap {B : Nat} {w : World} {A C : List Ent} {ao : Option Addr} {n cap size : Nat} {e : TypeId} {xs : List Value} (h : Sep B w (A ++ Ent.row (.slice ao n cap) n size e xs :: C)) : n ≤ cap ∧ cap ≤ maxLen := by
  rcases h.mem.1.2 with ⟨h1, h2⟩ | ⟨g, off, cap', cur, hv, _, h1, h2, _⟩
  · simp only [Value.slice.injEq] at h1
    obtain ⟨_, _, rfl⟩ := h1
    exact ⟨by omega, Nat.zero_le _⟩
  · simp only [Value.slice.injEq] at hv
    obtain ⟨_, _, rfl⟩ := hv
    exact ⟨h1, h2⟩
theorem Sep.rowsOk {B : Nat} {w : World} {A : List Ent} {rs : List Stp} (h : Sep B w (A ++ rs.map rowE)) : StpsOk w.heap.size w rs := by
  intro r hr
  obtain ⟨s, t, e⟩ := List.append_of_mem hr
  rw [e, List.map_append, List.map_cons, ← List.append_assoc] at h
  have h2 : Sep B w (A ++ s.map rowE ++ Ent.ints 3 (.slice r.1 r.2.2.length r.2.1) r.2.2 :: t.map rowE) := h
  exact ⟨h2.intSl, Sep.rowCap h2⟩

def q1W (w : World) : World := (w.alloc (.cells #[.int .i64 2] 3)).alloc (.cells #[.slice (some ⟨w.heap.size, 0, none⟩) 1 1] 24)
theorem q1_run (w : World) : Calls Try.prog 13 #[.slice (some ⟨w.heap.size + 1, 0, none⟩) 1 1, .int .i64 2] (q1W w) fun e w' => ∃ va, e = .returned (.tuple #[va, .nilIface]) ∧ Sep (w.heap.size + 1 + 1) w' [Ent.ints 3 va [0]] ∧ Below w.heap.size w w' := by
  have h1 : IntSl (w.heap.size + 1) (w.alloc (.cells #[.int .i64 2] 3)) (some ⟨w.heap.size, 0, none⟩) [2] := intSl_new w _ _ [2] rfl
  have h1b := h1.past (by simp) (.cells #[.slice (some ⟨w.heap.size, 0, none⟩) 1 1] 24)
  have hA : RowSl (w.heap.size + 1 + 1) (q1W w) (some ⟨w.heap.size + 1, 0, none⟩) 1 ([((some ⟨w.heap.size, 0, none⟩, 1, [2]) : Stp)].map stpC) := rowSl_new _ _ (by simp) _ _ _ rfl
  have hr : StpsOk (w.heap.size + 1 + 1) (q1W w) [((some ⟨w.heap.size, 0, none⟩, 1, [2]) : Stp)] := by
    intro r hr
    obtain rfl := List.mem_singleton.1 hr
    exact ⟨h1b.mono (by omega), by simp, by simp [maxLen]⟩
  have hsz : (q1W w).heap.size = w.heap.size + 1 + 1 := by simp [q1W]
  have hb : Below w.heap.size w (q1W w) := (below_alloc w _).alloc (by simp) _
  have h := drrRun_ok _ 1 1 _ [((some ⟨w.heap.size, 0, none⟩, 1, [2]) : Stp)] 2 (q1W w) hA hr rfl (by omega) (show QsOk [[2]] from ⟨by decide, by decide⟩) (by decide)
  have e : drrOut (rowsOf [((some ⟨w.heap.size, 0, none⟩, 1, [2]) : Stp)]) (Int.toNat 2) = [0] := drr_one (s := 2) (ms := [1]) (by decide) (by decide) (by decide) (by decide)
  rw [e, hsz] at h
  refine h.mono ?_
  rintro e w' ⟨va, e1, e2, e3⟩
  exact ⟨va, e1, e2, hb.trans (e3.mono (by omega))⟩

set_option maxHeartbeats 1000000 in
theorem topQ_many (ao : Option Addr) (ac : Nat) (xs : List Int) (size : Int) (w : World) (hA : IntSl w.heap.size w ao xs) (hl : xs.length ≤ 9223372036854775807) (h5 : 5 < xs.length) :
    Calls Try.prog 5 #[.slice ao xs.length ac, .int .i64 size] w fun e w' => e = .returned (.bool true) ∧ Below w.heap.size w w' := by
  have d1 : decide ((5 : Int) < (xs.length : Int)) = true := decide_eq_true (by omega)
  have d1N : decide (5 < xs.length) = true := decide_eq_true h5
  clear hA
  have HQ := Lib.hid (q1_run w)
  unfold q1W at HQ
  go_enter Try.func5, Try.ntmps5
  go_wp2_with fail
  refine HQ.out.mono ?_
  rintro e w1 ⟨va, rfl, hs, hb⟩
  obtain ⟨ao1, c1, rfl, _, _⟩ := hs.intsShape (A := []) (C := [])
  have HX := Lib.hid (hs.intSl (A := []) (C := []))
  have HX2 := Lib.hid (fun o => HX.out.past (Nat.le_refl _) o)
  have HB1 := Lib.hid hb
  clear hs hb HQ HX
  go_wp2_with fail
  refine (ints_any _ _ _ _ _ _ _ _ [0] [0] true _ (HX2.out _) (intSl_new _ _ _ _ rfl) rfl rfl (by decide) (by decide)).mono ?_
  rintro e w2 ⟨rfl, hd⟩
  have HB2 := Lib.hid (HB1.out.trans ((below_past (below_of_drew hd)).mono HB1.out.size))
  clear hd HB1 HX2
  go_wp2
  go_ret
  exact ⟨rfl, HB2.out⟩
set_option maxHeartbeats 1000000 in
theorem topQ_out (ao : Option Addr) (ac : Nat) (xs : List Int) (size : Int) (w : World) (hA : IntSl w.heap.size w ao xs) (h5 : xs.length ≤ 5) (hb : ¬ ((∀ x ∈ xs, 0 ≤ x ∧ x ≤ 8) ∧ 1 ≤ size ∧ size ≤ 20)) :
    Calls Try.prog 5 #[.slice ao xs.length ac, .int .i64 size] w fun e w' => e = .returned (.bool true) ∧ Below w.heap.size w w' := by
  have d1 : decide ((5 : Int) < (xs.length : Int)) = false := decide_eq_false (by omega)
  have d1N : decide (5 < xs.length) = false := decide_eq_false (by omega)
  have HA := Lib.hid hA
  clear hA
  by_cases hx : ∀ x ∈ xs, 0 ≤ x ∧ x ≤ 8
  · have HN : Hid (¬ (1 ≤ size ∧ size ≤ 20)) := Lib.hid (fun h => hb ⟨hx, h⟩)
    have HXX : Hid (true = decide (∀ y ∈ xs, 0 ≤ y ∧ y ≤ 8)) := Lib.hid (decide_eq_true hx).symm
    clear hb hx
    have HQ := Lib.hid (q1_run w)
    unfold q1W at HQ
    go_enter Try.func5, Try.ntmps5
    go_wp2_with fail
    refine HQ.out.mono ?_
    rintro e w1 ⟨va, rfl, hs, hb⟩
    obtain ⟨ao1, c1, rfl, _, _⟩ := hs.intsShape (A := []) (C := [])
    have HX := Lib.hid (hs.intSl (A := []) (C := []))
    have HX2 := Lib.hid (fun o => HX.out.past (Nat.le_refl _) o)
    have HB1 := Lib.hid hb
    clear hs hb HQ HX
    go_wp2_with fail
    refine (ints_any _ _ _ _ _ _ _ _ [0] [0] true _ (HX2.out _) (intSl_new _ _ _ _ rfl) rfl rfl (by decide) (by decide)).mono ?_
    rintro e w2 ⟨rfl, hd⟩
    have HB2 := Lib.hid (HB1.out.trans ((below_past (below_of_drew hd)).mono HB1.out.size))
    clear hd HB1 HX2
    go_wp2_with fail
    refine (allR_any _ _ _ _ xs 0 8 true _ (HA.out.below HB2.out) rfl (by omega) HXX.out).mono ?_
    rintro e w' ⟨rfl, rfl⟩
    go_wp2_with fail
    refine (inTop_no _ _ _ _ HN.out).mono ?_
    rintro e w' ⟨rfl, rfl⟩
    go_wp2
    go_ret
    exact ⟨rfl, HB2.out⟩
  · have HXX : Hid (false = decide (∀ y ∈ xs, 0 ≤ y ∧ y ≤ 8)) := Lib.hid (decide_eq_false hx).symm
    clear hb hx
    have HQ := Lib.hid (q1_run w)
    unfold q1W at HQ
    go_enter Try.func5, Try.ntmps5
    go_wp2_with fail
    refine HQ.out.mono ?_
    rintro e w1 ⟨va, rfl, hs, hb⟩
    obtain ⟨ao1, c1, rfl, _, _⟩ := hs.intsShape (A := []) (C := [])
    have HX := Lib.hid (hs.intSl (A := []) (C := []))
    have HX2 := Lib.hid (fun o => HX.out.past (Nat.le_refl _) o)
    have HB1 := Lib.hid hb
    clear hs hb HQ HX
    go_wp2_with fail
    refine (ints_any _ _ _ _ _ _ _ _ [0] [0] true _ (HX2.out _) (intSl_new _ _ _ _ rfl) rfl rfl (by decide) (by decide)).mono ?_
    rintro e w2 ⟨rfl, hd⟩
    have HB2 := Lib.hid (HB1.out.trans ((below_past (below_of_drew hd)).mono HB1.out.size))
    clear hd HB1 HX2
    go_wp2_with fail
    refine (allR_any _ _ _ _ xs 0 8 false _ (HA.out.below HB2.out) rfl (by omega) HXX.out).mono ?_
    rintro e w' ⟨rfl, rfl⟩
    go_wp2
    go_ret
    exact ⟨rfl, HB2.out⟩
set_option maxHeartbeats 4000000 in
theorem topQ_ok (ao : Option Addr) (ac : Nat) (xs : List Int) (ms : List Nat) (s : Nat) (w : World) (hA : IntSl w.heap.size w ao xs) (hxs : xs = ms.map fun (m : Nat) => (m : Int)) (h5 : ms.length ≤ 5) (h8 : ∀ m ∈ ms, m ≤ 8) (hs1 : 1 ≤ s) (hs2 : s ≤ 20) :
    Calls Try.prog 5 #[.slice ao xs.length ac, .int .i64 s] w fun e w' => e = .returned (.bool true) ∧ Below w.heap.size w w' := by
  have hn : xs.length = ms.length := by rw [hxs, List.length_map]
  have hall : ∀ x ∈ xs, 0 ≤ x ∧ x ≤ 8 := fun x hx => by
    rw [hxs] at hx
    obtain ⟨m, hm, rfl⟩ := List.mem_map.1 hx
    have := h8 m hm; omega
  have HXX : Hid (true = decide (∀ y ∈ xs, 0 ≤ y ∧ y ≤ 8)) := Lib.hid (decide_eq_true hall).symm
  obtain ⟨n, hnn⟩ : ∃ n, n = ms.length := ⟨_, rfl⟩
  have hget : ∀ (k m : Nat), ms[k]? = some m → xs[k]? = some (m : Int) := fun k m h => by rw [hxs, List.getElem?_map, h]; rfl
  have HGET := Lib.hid hget
  have HOUT1 := Lib.hid (drr_one hs1 hs2 h5 h8)
  have HOUT2 := Lib.hid (rnd_one hs1 hs2 h5 h8)
  have HOUT3 := Lib.hid (ringOut_one h8)
  have HQOK := Lib.hid (eqQ_ok hs1 hs2 h5 h8)
  have HMS := Lib.hid h8
  have HXS := Lib.hid hxs
  have HA := Lib.hid hA
  rw [hn, ← hnn]
  have HNN := Lib.hid hnn
  have HXN : Hid (xs.length = n) := Lib.hid (by rw [hn, hnn])
  have hn5 : n ≤ 5 := by omega
  have hs1I : (1 : Int) ≤ (s : Int) := by omega
  have hs2I : (s : Int) ≤ 20 := by omega
  obtain ⟨out, hout⟩ : ∃ out, out = oneOut ms := ⟨_, rfl⟩
  have hol : out.length ≤ 1000 := by
    rw [hout]; unfold oneOut; rw [turns_len (oneServed ms)]
    have h1 := psum_le (fun i => oneSrv ms i 8) 8 (fun i => by unfold oneSrv; omega) ms.length
    omega
  rw [← hout] at HOUT1 HOUT2 HOUT3
  have d1 : decide ((5 : Int) < (n : Int)) = false := decide_eq_false (by omega)
  have d1N : decide (5 < n) = false := decide_eq_false (by omega)
  clear hn hall hnn hget hxs h8 hA hout h5
  have HQ := Lib.hid (q1_run w)
  unfold q1W at HQ
  go_enter Try.func5, Try.ntmps5
  go_wp2_with fail
  refine HQ.out.mono ?_
  rintro e w1 ⟨va, rfl, hs, hb⟩
  obtain ⟨ao1, c1, rfl, _, _⟩ := hs.intsShape (A := []) (C := [])
  have HX := Lib.hid (hs.intSl (A := []) (C := []))
  have HX2 := Lib.hid (fun o => HX.out.past (Nat.le_refl _) o)
  have HB1 := Lib.hid hb
  clear hs hb HQ HX
  go_wp2_with fail
  refine (ints_any _ _ _ _ _ _ _ _ [0] [0] true _ (HX2.out _) (intSl_new _ _ _ _ rfl) rfl rfl (by decide) (by decide)).mono ?_
  rintro e w2 ⟨rfl, hd⟩
  have HB2 := Lib.hid (HB1.out.trans ((below_past (below_of_drew hd)).mono HB1.out.size))
  clear hd HB1 HX2
  go_wp2_with fail
  refine (allR_any _ _ _ _ xs 0 8 true _ (HA.out.below HB2.out) HXN.out.symm (by rw [HXN.out]; omega) HXX.out).mono ?_
  rintro e w' ⟨rfl, rfl⟩
  go_wp2_with fail
  refine (inTop_yes _ _ _ _ hs1I hs2I).mono ?_
  rintro e w' ⟨rfl, rfl⟩
  obtain ⟨g, hg⟩ : ∃ g, g = w.heap.size := ⟨_, rfl⟩
  have HG := Lib.hid hg
  rw [← hg] at HB2 ⊢
  have HA2 : Hid (IntSl g w ao xs) := Lib.hid (by rw [HG.out]; exact HA.out)
  have hgw : g ≤ w.heap.size := Nat.le_of_eq hg
  have HS0 := Lib.hid ((Sep.nil g w2).rowNil 1 24)
  clear hg HA
  go_wp2
  go_loopg [7, 8, 9, 10] n (fun gk q i l j wr => ∃ (k : Nat) (vq : Value) (rs : List Stp), gk + k = n ∧ i = .int .i64 k ∧ vq = q ∧ Hid (rowsOf rs = eqQ s (ms.take k)) ∧ Hid (rs.length = k) ∧ Sep g wr (Ent.row vq k 1 24 (rs.map stpV) :: rs.map rowE) ∧ Below g w wr)
  case atStart => exact ⟨0, _, [], by omega, rfl, rfl, by simp [Hid, rowsOf, eqQ], by simp [Hid], HS0.out, HB2.out⟩
  case round =>
    obtain ⟨gi, hgi0⟩ : ∃ gi, gi = gk := ⟨_, rfl⟩
    obtain ⟨k, vq, rs, hgk, rfl, rfl, hrw, hrl, hs, hbl⟩ := hrel
    have hgw1 : g ≤ wr.heap.size := Nat.le_trans hgw hbl.size
    have HS1 := Lib.hid hs
    have HB3 := Lib.hid hbl
    clear hs hbl HS0 HB2
    by_cases hlt : k < n
    · obtain ⟨m, hm⟩ : ∃ m, ms[k]? = some m := ⟨_, List.getElem?_eq_getElem (by rw [← HNN.out]; exact hlt)⟩
      have hm8 := HMS.out m (List.mem_iff_getElem?.2 ⟨k, hm⟩)
      have HX := Lib.hid (HGET.out k m hm)
      have HGK := Lib.hid hgk
      have hnx : eqQ s (ms.take (k + 1)) = eqQ s (ms.take k) ++ [List.replicate m (s : Int)] := by
        unfold eqQ; rw [List.take_add_one, hm, List.map_append]; rfl
      have HNX := Lib.hid hnx
      have hki : (k : Int) < (n : Int) := by omega
      have HS2 := Lib.hid (HS1.out.intsNil 3)
      clear hm hgk hgi0 hnx
      go_wp2
      go_loopg [9, 10] m (fun gk l j wr => ∃ (t : Nat) (vl : Value) (es : List Int), gk + t = m ∧ j = .int .i64 t ∧ vl = l ∧ Hid (es = List.replicate t (s : Int)) ∧ es.length ≤ 8 ∧ Sep g wr (Ent.ints 3 vl es :: Ent.row vq k 1 24 (rs.map stpV) :: rs.map rowE) ∧ Below g w wr)
      case atStart => exact ⟨0, _, [], by omega, rfl, rfl, by simp [Hid], by simp, HS2.out, HB3.out⟩
      case round =>
        obtain ⟨gj, hgj0⟩ : ∃ gj, gj = gk := ⟨_, rfl⟩
        obtain ⟨t, vl, es, hgk, rfl, rfl, hes, hel, hs, hbl⟩ := hrel
        have hgw2 : g ≤ wr.heap.size := Nat.le_trans hgw hbl.size
        have HS3 := Lib.hid hs
        have HB4 := Lib.hid hbl
        have hA3 := HA2.out.below hbl
        obtain ⟨b, off, rfl, hbb, cx⟩ := hA3 k _ HX.out
        clear hs hbl HS1 HB3 HS2 hA3
        by_cases hlt2 : t < m
        · have htI : (t : Int) < (m : Int) := by omega
          have HGJ := Lib.hid hgk
          have hll : es.length ≤ 1000000000 := by omega
          clear hgk hgj0
          go_wp2_with (at_builtin; refine wpList_append_int (B := g) (w := wr) (v := vl) (y := (s : Int)) (xs := es) (A := []) (C := Ent.row vq k 1 24 (rs.map stpV) :: rs.map rowE) ?_ (.tmp 59) (.tmp 61) ?_ elemInt8 ?_ HS3.out hgw2 ?_ hll ?_; rfl; rfl; rfl; rfl)
          intro v' w3 h1 h2
          have HS5 := Lib.hid h1
          have HB5 := Lib.hid (HB4.out.trans h2)
          clear h1 h2
          have hel2 : es.length = t := by rw [hes.out, List.length_replicate]
          have HEL := Lib.hid hel2
          clear hel2
          go_wp2
          go_roundg (m - (t + 1))
          case measure => have := HGJ.out; omega
          case rel => exact ⟨t + 1, _, _, by omega, by go_num, rfl, by show _ = _; rw [List.replicate_succ', ← hes.out], by have := HEL.out; simp; omega, HS5.out, HB5.out⟩
        · have htI : decide ((t : Int) < (m : Int)) = false := decide_eq_false (by omega)
          have htN : decide (t < m) = false := decide_eq_false hlt2
          have htm : t = m := by omega
          obtain ⟨al, cl, rfl, hcl, -⟩ := HS3.out.intsShape (A := [])
          have hesm : es = List.replicate m (s : Int) := by rw [hes.out, htm]
          have HES := Lib.hid hesm
          have hkl : k ≤ 1000000 := by omega
          clear hgk hgj0 htm hesm
          go_wp2_with (at_builtin; refine wpList_append_one (size := 1) (B := g) (w := wr) (v := vq) (y := .slice al es.length cl) (xs := rs.map stpV) (n := k) (bytes := 24) (z := .slice none 0 0) (A := [Ent.ints 3 (.slice al es.length cl) es]) (C := rs.map rowE) ?_ (.tmp 63) (.tmp 65) ?_ elemS ?_ HS3.out hgw2 ?_ rfl hkl (by decide) ?_; rfl; rfl; rfl; rfl)
          intro v' w3 h1 h2
          have hs7 : Sep g w3 (Ent.row v' (k + 1) 1 24 ((rs ++ [((al, cl, es) : Stp)]).map stpV) :: (rs ++ [((al, cl, es) : Stp)]).map rowE) := by
            rw [List.map_append, List.map_append]
            refine Sep.perm h1 ?_
            exact (List.Perm.swap _ _ _).trans ((List.perm_append_singleton _ _).symm.cons _)
          have HS7 := Lib.hid hs7
          have HB7 := Lib.hid (HB4.out.trans h2)
          clear h1 h2 hs7
          go_wp2
          go_roundg (n - (k + 1))
          case measure => have := HGK.out; omega
          case rel => exact ⟨k + 1, _, _, by omega, by go_num, rfl, by show _ = _; rw [HNX.out, ← hrw.out, ← HES.out]; simp [rowsOf], by show _ = _; rw [List.length_append, hrl.out]; rfl, HS7.out, HB7.out⟩
    · have hki : decide ((k : Int) < (n : Int)) = false := decide_eq_false (by omega)
      have hkN : decide (k < n) = false := decide_eq_false hlt
      have hkn : k = n := by omega
      have hrw2 : rowsOf rs = eqQ s ms := by rw [hrw.out, hkn, HNN.out, List.take_length]
      have HRW := Lib.hid hrw2
      have hrl2 : rs.length = n := by rw [hrl.out, hkn]
      have HRL := Lib.hid hrl2
      have hok := HS1.out.rowsOk (A := [_])
      obtain ⟨-, aq, cq, rfl, -, -⟩ := HS1.out.rowShape (A := [])
      have hra := Sep.rowRows (A := []) HS1.out hrl.out
      rw [hkn] at *
      have HRO := Lib.hid hok
      have HRA := Lib.hid hra
      have HB9 := Lib.hid HB3.out
      clear hkn hrw2 hrl2 hok hra hgk hgi0 hlt HS1 HB3 hki hkN hrw hrl
      have hki : decide ((n : Int) < (n : Int)) = false := by simp
      go_wp2_with fail
      refine (drrRun_ok _ _ _ _ rs s _ HRA.out HRO.out HRL.out.symm (Nat.le_refl _) (by rw [HRW.out]; exact HQOK.out) ⟨hs1I, hs2I⟩).mono ?_
      rintro e w3 ⟨va, rfl, hs, hb⟩
      rw [HRW.out, Int.toNat_natCast, HOUT1.out] at hs
      obtain ⟨a3, c3, rfl, -, -⟩ := hs.intsShape (A := []) (C := [])
      have HX3 := Lib.hid (hs.intSl (A := []) (C := []))
      have HB3 := Lib.hid (HB9.out.trans (hb.mono hgw1))
      have HRA3 := Lib.hid (HRA.out.below hb)
      have HRO3 := Lib.hid (HRO.out.below hb)
      have hz3 := hb.size
      clear hs hb HRA HRO
      go_wp2_with fail
      refine (rndRun_ok _ _ _ _ rs _ HRA3.out HRO3.out HRL.out.symm hz3 (by rw [HRW.out]; exact HQOK.out)).mono ?_
      rintro e w4 ⟨vb, vc, rfl, hs, hb⟩
      rw [HRW.out, HOUT2.out] at hs
      obtain ⟨a4, c4, rfl, -, -⟩ := hs.intsShape (A := [_]) (C := [])
      have HX4 := Lib.hid (hs.intSl (A := [_]) (C := []))
      have HX34 := Lib.hid (HX3.out.below hb)
      have hz4 := hb.size
      have HB4 := Lib.hid (HB3.out.trans (hb.mono (Nat.le_trans hgw HB3.out.size)))
      clear hs hb HX3 HRA3 HRO3
      go_wp2_with fail
      rcases Nat.eq_zero_or_pos n with h0 | h0
      · have e0 : ((n : Int) == 0) = true := by simp; exact h0
        have HE0 := Lib.hid h0
        clear h0
        refine (ints_any _ _ _ _ _ _ _ _ out out true _ HX34.out HX4.out rfl rfl (by omega) (decide_eq_true rfl).symm).mono ?_
        rintro e w5 ⟨rfl, hd⟩
        have HB5 := Lib.hid (HB4.out.trans ((below_of_drew hd).mono (Nat.le_trans hgw HB4.out.size)))
        clear hd
        go_wp2
        go_ret
        exact ⟨rfl, by have := HB5.out; rw [HG.out] at this; exact this⟩
      · have e0 : ((n : Int) == 0) = false := by simp; omega
        refine (ints_any _ _ _ _ _ _ _ _ out out true _ HX34.out HX4.out rfl rfl (by omega) (decide_eq_true rfl).symm).mono ?_
        rintro e w5 ⟨rfl, hd⟩
        have hb5 := below_of_drew hd
        have HB5 := Lib.hid (HB4.out.trans (hb5.mono (Nat.le_trans hgw HB4.out.size)))
        have HX35 := Lib.hid (HX34.out.below (hb5.mono hz4))
        have hz5 := Nat.le_trans hz4 hb5.size
        clear hd hb5 HX34 HX4
        have hrok : RingOk xs 1 := ⟨by rw [HXN.out]; exact h0, by rw [HXN.out]; omega, fun x hx => by
          have := of_decide_eq_true HXX.out.symm x hx; omega, by decide, by decide⟩
        have HROK := Lib.hid hrok
        clear hrok
        go_wp2_with fail
        refine (ringRun_ok _ _ _ g xs 1 _ (HA2.out.below HB5.out) HXN.out.symm (Nat.le_trans hgw HB5.out.size) HROK.out).mono ?_
        rintro e w6 ⟨vd, rfl, hs, hb⟩
        rw [HXS.out, show Int.toNat 1 = 1 from rfl, HOUT3.out] at hs
        obtain ⟨a6, c6, rfl, -, -⟩ := hs.intsShape (A := []) (C := [])
        have HX6 := Lib.hid (hs.intSl (A := []) (C := []))
        have HX36 := Lib.hid (HX35.out.below (hb.mono hz5))
        have HB6 := Lib.hid (HB5.out.trans (hb.mono (Nat.le_trans hgw HB5.out.size)))
        clear hs hb HX35
        go_wp2_with fail
        refine (ints_any _ _ _ _ _ _ _ _ out out true _ HX36.out HX6.out rfl rfl (by omega) (decide_eq_true rfl).symm).mono ?_
        rintro e w7 ⟨rfl, hd⟩
        have HB7 := Lib.hid (HB6.out.trans ((below_of_drew hd).mono (Nat.le_trans hgw HB6.out.size)))
        clear hd
        go_wp2
        go_ret
        exact ⟨rfl, by have := HB7.out; rw [HG.out] at this; exact this⟩
theorem topQueues_walk (ao : Option Addr) (ac : Nat) (xs : List Int) (size : Int) (w : World) (hA : IntSl w.heap.size w ao xs) (hac : xs.length ≤ ac) (hmax : ac ≤ maxLen) (_ : ∀ x ∈ xs, -9223372036854775808 ≤ x ∧ x ≤ 9223372036854775807) (_ : -9223372036854775808 ≤ size ∧ size ≤ 9223372036854775807) :
    Calls Try.prog 5 #[.slice ao xs.length ac, .int .i64 size] w fun e w' => e = .returned (.bool true) ∧ Below w.heap.size w w' := by
  unfold maxLen at hmax
  by_cases h5 : 5 < xs.length
  · exact topQ_many ao ac xs size w hA (by omega) h5
  · by_cases hb : (∀ x ∈ xs, 0 ≤ x ∧ x ≤ 8) ∧ 1 ≤ size ∧ size ≤ 20
    · obtain ⟨hx, h1, h2⟩ := hb
      obtain ⟨s, rfl⟩ := Int.eq_ofNat_of_zero_le (by omega : 0 ≤ size)
      refine topQ_ok ao ac xs (xs.map Int.toNat) s w hA ?_ (by rw [List.length_map]; omega) (fun m hm => ?_) (by omega) (by omega)
      · rw [List.map_map]
        conv => lhs; rw [← List.map_id xs]
        refine List.map_congr_left fun x hx' => ?_
        have := (hx x hx').1
        simp; omega
      · obtain ⟨x, hx', rfl⟩ := List.mem_map.1 hm
        have := hx x hx'
        omega
    · exact topQ_out ao ac xs size w hA (by omega) hb
end Go.Proofs.Ytpfpaheafpibiaa
