/- LearnForgets returns true: who was heard longest ago is forgotten first: of the last eight that were heard each one is known. -/
import Derived.Test.YtommedhaaojgiaaDoorTold
import Derived.Test.YtommedhaaojgiaaDoorForgetPlain
import Derived.Test.YtommedhaaojgiaaDoorLearnFact
import Derived.Test.YtommedhaaojgiaaDoorLearnDown
import Derived.Test.YtommedhaaojgiaaDoorRow2
import Derived.Test.YtommedhaaojgiaaDoorIn3
import Derived.Deep.LoopGhost
import Derived.Deep.RegionHeld3
import Derived.BigQuiet
namespace Go.Proofs.YtommedhaaojgiaaDoor
open Go.RowKit
set_option linter.unusedVariables false

set_option maxHeartbeats 3000000 in
set_option maxRecDepth 100000 in
theorem learnForgets_walk (ao : Option Addr) (ac : Nat) (rs : List Stp) (bo : Option Addr) (bc : Nat) (ms : List Int) (p : Int) (w : World) (hdoor : Door w) (hA : RowSl w.heap.size w ao 1 (rs.map stpC)) (hac : rs.length ≤ ac) (hmax : ac ≤ maxLen) (hr : StpsOk w.heap.size w rs)
    (hM : IntSl w.heap.size w bo ms) (hbc : ms.length ≤ bc) (hbx : bc ≤ maxLen) (_ : ∀ x ∈ ms, -9223372036854775808 ≤ x ∧ x ≤ 9223372036854775807) (_ : -9223372036854775808 ≤ p ∧ p ≤ 9223372036854775807) :
    Calls Tryd.prog 3 #[.slice ao rs.length ac, .slice bo ms.length bc, .int .i64 p] w fun e w' => e = .returned (.bool true) ∧ Below w.heap.size w w' := by
  unfold maxLen at hmax hbx
  have HA := Lib.hid hA; clear hA
  have HR := Lib.hid hr; clear hr
  have HM := Lib.hid hM; clear hM
  have HD := Lib.hid hdoor; clear hdoor
  obtain ⟨B, hBe⟩ : ∃ B, B = w.heap.size := ⟨_, rfl⟩
  have HBE := Lib.hid hBe; clear hBe
  go_enter Tryd.func3, Tryd.ntmps3
  go_wp2_with fail
  refine (learnFact_any _).mono ?_
  rintro e w1 ⟨rfl, hb⟩
  have HB1 := Lib.hid (show Below B w w1 by rw [HBE.out]; exact hb)
  have hg1 : B ≤ w1.heap.size := by have := HB1.out.size; rw [← HBE.out] at this; exact this
  have HA1 : Hid (RowSl w1.heap.size w1 ao 1 (rs.map stpC)) := by
    intro j cs hj
    obtain ⟨b, off, h1, h2, h3⟩ := (HA.out.below hb) j cs hj
    exact ⟨b, off, h1, Nat.lt_of_lt_of_le h2 hb.size, h3⟩
  have HR1 : Hid (StpsOk w1.heap.size w1 rs) := fun r hr => ⟨((HR.out.below hb) r hr).1.mono hb.size, ((HR.out.below hb) r hr).2⟩
  clear hb
  go_wp2_with fail
  refine (heard_any ao ac rs _ HA1.out hac (by omega) HR1.out).mono ?_
  rintro e w2 ⟨g, v0, T0, rfl, hg0, hs, hb⟩
  have HS2 := Lib.hid (hs.mono hg1)
  have HG0 := Lib.hid hg0
  have HB2 := Lib.hid (HB1.out.trans (hb.mono hg1))
  have hg2 : B ≤ w2.heap.size := by have := HB2.out.size; rw [← HBE.out] at this; exact this
  clear hs hb hg0
  by_cases hp : 0 ≤ p ∧ p ≤ 3
  · go_wp2_with fail
    refine (in3_yes _ _ _ _ hp.1 hp.2).mono ?_
    rintro e w' ⟨rfl, rfl⟩
    have hs0 := (HS2.out.intsNil 3).perm (List.perm_append_comm (l₁ := [_]) (l₂ := swE g v0 T0))
    have HS3 := Lib.hid hs0
    clear hs0
    go_wp2
    go_loopg [11, 12] 30 (fun gk lv iv wr => ∃ (i : Nat) (v vl : Value) (T : Tab) (last : List Int), gk + i = 30 ∧ vl = lv ∧ iv = .int .i64 i ∧ i ≤ ms.length ∧ last.length ≤ 8 ∧ Hid (Good T) ∧ Hid (Ends8 T last p) ∧ Sep B wr (swE g v T ++ [Ent.ints 3 vl last]) ∧ Below B w wr)
    case atStart => exact ⟨0, v0, _, T0, [], by omega, rfl, rfl, Nat.zero_le _, by simp, HG0, Lib.hid (Ends8.nil T0 p), HS3.out, HB2.out⟩
    case round =>
      obtain ⟨gi, rfl⟩ : ∃ gi, gi = gk := ⟨_, rfl⟩
      obtain ⟨i, v, vl, T, last, hgi, rfl, rfl, hi, hl8, HGT, HEN, hsep, hbel⟩ := hrel
      clear HS3 HB2 HB1 hg1 hg2 HS2
      have HS3 := Lib.hid hsep; clear hsep
      have HB3 := Lib.hid hbel; clear hbel
      by_cases hlt : i < ms.length
      · have hii : (i : Int) < (ms.length : Int) := by omega
        have hi0 : (0 : Int) ≤ (i : Int) := by omega
        by_cases h30 : i < 30
        · have hd30 : decide ((i : Int) < 30) = true := decide_eq_true (by omega)
          obtain ⟨a, ha⟩ : ∃ a, ms[i]? = some a := ⟨_, List.getElem?_eq_getElem hlt⟩
          obtain ⟨bb, off, rfl, hbb, c0⟩ := HM.out i a ha
          have hca : ∀ w', Below B w w' → w'.cell? ⟨bb, off + i, none⟩ = some (.int .i64 a) := fun w' h => (h.cell (p := ⟨bb, off + i, none⟩) (by rw [HBE.out]; exact hbb)).trans c0
          have HCA := Lib.hid hca
          clear c0 hca ha
          have c3 := HCA.out _ HB3.out
          obtain ⟨w3, hw3⟩ : ∃ w3, w3 = wr := ⟨_, rfl⟩
          obtain rfl := hw3
          have hg3 : B ≤ w3.heap.size := by have := HB3.out.size; rw [← HBE.out] at this; exact this
          by_cases hva : 0 ≤ a ∧ a ≤ 65535
          · have hv : Valid a a p := ⟨hva, hva, hp⟩
            have HT' := Lib.hid (HEN.out.heard (a := a) (t := a) HGT.out)
            have HG' := Lib.hid (HGT.out.heard hv)
            obtain ⟨T', hT'⟩ : ∃ T', heardT T a p = T' := ⟨_, rfl⟩
            obtain ⟨lo', hlo⟩ : ∃ l, outs T' a p = l := ⟨_, rfl⟩
            rw [hT'] at HT' HG'
            have HFR := Lib.hid (frame_res B g v T T' lo' [Ent.ints 3 vl last] a a p w3.drew hv HGT.out.len hT' hlo HS3.out.drew hg3)
            have HK0 := Lib.hid (show w3.drew.cell? ⟨bb, off + i, none⟩ = some (.int .i64 a) from c3)
            clear hv hT' hlo hva
            go_wp2_with fail
            go_region_held3 (fun w' => w'.cell? ⟨bb, off + i, none⟩ = some (.int .i64 a)) (first | exact HK1.out | exact HK0.out) (first
              | (go_at_call 12; refine HFR.out.mono ?_; rintro e w4 ⟨lo, lc, v', rfl, hlc, hs, hb⟩; have HB4 := Lib.hid (HB3.out.trans ((below_drew B w3).trans hb)); have HK1 := Lib.hid (HCA.out _ HB4.out); have HSF := Lib.hid hs; clear hs hb)
              | fail)
            have hs := HSF.out
            have hg4 : B ≤ w4.heap.size := by have := HB4.out.size; rw [← HBE.out] at this; exact this
            obtain ⟨al, cl, rfl, -⟩ := hs.intsShape (A := swE g v' T' ++ [_]) (C := [])
            have hs4 : Sep B w4 (swE g v' T' ++ [Ent.ints 3 (.slice al last.length cl) last]) := hs.sub (List.Sublist.append (List.Sublist.refl _) (List.sublist_cons_self _ _))
            have HS4 := Lib.hid (hs4.intsNil 3)
            have HL4 := Lib.hid hs4
            clear hs hs4 HFR c3 HS3 HSF HK0
            go_wp2
            go_loopw [15, 16] (fun nv kv wr => ∃ (k : Nat) (vn : Value), k ≤ last.length ∧ vn = nv ∧ kv = .int .i64 k ∧ Sep B wr (Ent.ints 3 vn (keepL (last.take k) a) :: (swE g v' T' ++ [Ent.ints 3 (.slice al last.length cl) last])) ∧ Below B w wr) (fun _ kv _ => last.length - (intOf kv).toNat)
            case atStart => exact ⟨0, _, Nat.zero_le _, rfl, rfl, HS4.out, HB4.out⟩
            case round =>
              obtain ⟨k, vn, hk, rfl, rfl, hsep, hbel⟩ := hrel
              clear HS4 HB4 hg4 HL4
              have HS5 := Lib.hid hsep; clear hsep
              have HB5 := Lib.hid hbel; clear hbel
              obtain ⟨w5, hw5⟩ : ∃ w5, w5 = wr := ⟨_, rfl⟩
              obtain rfl := hw5
              have hg5 : B ≤ w5.heap.size := by have := HB5.out.size; rw [← HBE.out] at this; exact this
              have c5 := HCA.out _ HB5.out
              by_cases hkl : k < last.length
              · have hki : (k : Int) < (last.length : Int) := by omega
                have hk0 : (0 : Int) ≤ (k : Int) := by omega
                obtain ⟨x, hx⟩ : ∃ x, last[k]? = some x := ⟨_, List.getElem?_eq_getElem hkl⟩
                obtain ⟨gl, ol, rfl, d1, -⟩ := Sep.intsAt (A := Ent.ints 3 vn (keepL (last.take k) a) :: swE g v' T') (C := []) HS5.out hx
                have hkb : (keepL (last.take k) a).length ≤ 1000000000 := by
                  unfold keepL
                  have h1 := List.length_filter_le (fun x => !decide (x = a)) (last.take k)
                  have h2 := List.length_take_le k last
                  omega
                have HKB := Lib.hid hkb
                clear hkb
                by_cases hxa : x = a
                · have hxe : (x != a) = false := by simp [hxa]
                  have HNX := Lib.hid (keepL_no hx hxa)
                  clear hx hxa
                  go_wp2_with fail
                  go_quiet (fail)
                  have HS6 := Lib.hid (HS5.out.drewN nq)
                  have HB6 := Lib.hid (HB5.out.trans (below_drewN _ w5 nq))
                  clear c5 d1 HS5 HB5 hg5
                  generalize w5.drewN nq = w6 at *
                  go_wp2
                  go_roundw
                  case rel => exact ⟨k + 1, _, by omega, rfl, by go_num, by rw [HNX.out]; exact HS6.out, HB6.out⟩
                  case measure => simp [intOf]; omega
                · have hxe : (x != a) = true := by simp [hxa]
                  have HNX := Lib.hid (keepL_yes hx hxa)
                  clear hx hxa
                  go_wp2_with fail
                  go_quiet (fail)
                  have HS6 := Lib.hid (HS5.out.drewN nq)
                  have HB6 := Lib.hid (HB5.out.trans (below_drewN _ w5 nq))
                  have d2 : (w5.drewN nq).cell? ⟨gl, ol + k, none⟩ = some (.int .i64 x) := d1
                  clear c5 d1 HS5 HB5 hg5
                  generalize w5.drewN nq = w6 at *
                  have hg6 : B ≤ w6.heap.size := by have := HB6.out.size; rw [← HBE.out] at this; exact this
                  go_wp2_with (at_builtin; refine wpList_append_int rfl (.tmp 83) (.tmp 88) rfl elemI (A := []) rfl HS6.out hg6 rfl HKB.out ?_)
                  intro v7 w7 hs hb
                  rw [← HNX.out] at hs
                  have HS7 := Lib.hid hs
                  have HB7 := Lib.hid (HB6.out.trans hb)
                  clear hs hb d2
                  go_wp2
                  go_roundw
                  case rel => exact ⟨k + 1, _, by omega, rfl, by go_num, HS7.out, HB7.out⟩
                  case measure => simp [intOf]; omega
              · obtain rfl : k = last.length := by omega
                have hki : decide ((last.length : Int) < (last.length : Int)) = false := by simp
                have hs5 := HS5.out
                rw [List.take_length] at hs5
                have HS6 := Lib.hid hs5
                have hkb : (keepL last a).length ≤ 1000000000 := by
                  unfold keepL
                  have h1 := List.length_filter_le (fun x => !decide (x = a)) last
                  omega
                have HKB := Lib.hid hkb
                clear hkb hs5 HS5
                go_wp2_with (at_builtin; refine wpList_append_int rfl (.tmp 90) (.tmp 95) rfl elemI (A := []) rfl HS6.out hg5 rfl HKB.out ?_)
                intro v7 w7 hs hb
                have hs7 := (hs.sub (L' := Ent.ints 3 v7 (nextL last a) :: swE g v' T') ((List.sublist_append_left _ _).cons_cons _)).perm (List.perm_append_comm (l₁ := [_]) (l₂ := swE g v' T'))
                obtain ⟨a7, c7, rfl, hc7, -⟩ := hs7.intsShape (A := swE g v' T') (C := [])
                have HS7 := Lib.hid hs7
                have HB7 := Lib.hid (HB5.out.trans hb)
                have hg7 : B ≤ w7.heap.size := by have := HB7.out.size; rw [← HBE.out] at this; exact this
                have hnl : (nextL last a).length ≤ 9 := by
                  unfold nextL keepL
                  rw [List.length_append, List.length_singleton]
                  have h1 := List.length_filter_le (fun x => !decide (x = a)) last
                  omega
                clear hs hb hs7 c5 HS6 HB5 hg5
                by_cases h8 : 8 < (nextL last a).length
                · have h8d : decide ((8 : Int) < ((nextL last a).length : Int)) = true := decide_eq_true (by omega)
                  have h9 : (nextL last a).length = 9 := by omega
                  have hll : lastL last a = (nextL last a).drop 1 := by unfold lastL; rw [if_pos h8]
                  obtain ⟨y, hy⟩ : ∃ y, (nextL last a)[0]? = some y := ⟨_, List.getElem?_eq_getElem (by omega)⟩
                  obtain ⟨g7, o7, rfl, -⟩ := HS7.out.intsAt (A := swE g v' T') (C := []) hy
                  have hcut : cutAddr (some ⟨g7, o7, none⟩) c7 1 1 = some ⟨g7, o7 + 1, none⟩ := by unfold cutAddr; rw [if_neg (by omega)]; rfl
                  have hs8 := Sep.rowCut (A := swE g v' T') (C := []) HS7.out 1 ((nextL last a).length - 1) (c7 - 1) (by omega) (by omega)
                  have hs9 : Sep B w7 (swE g v' T' ++ [Ent.ints 3 (.slice (some ⟨g7, o7 + 1, none⟩) ((nextL last a).length - 1) (c7 - 1)) (lastL last a)]) := by
                    rw [hll]
                    unfold Ent.ints
                    rw [List.length_drop, List.map_drop]
                    exact hs8
                  have HS9 := Lib.hid hs9
                  have HCUT := Lib.hid hcut
                  have HLL := Lib.hid (show (nextL last a).length - 1 = (lastL last a).length by rw [hll, List.length_drop])
                  have hk1 : 1 ≤ (nextL last a).length := by omega
                  clear hs8 hs9 hcut hll hy HS7 h8
                  go_wp2_with (refine wpList_slice_from rfl (.tmp 100) (.const (.int .i64 1)) rfl elemI _ _ _ rfl 1 .i64 rfl hk1 ?_; rw [HCUT.out, HLL.out])
                  go_loopw [17] (fun kv wr => ∃ k : Nat, k ≤ (lastL last a).length ∧ kv = .int .i64 k ∧ Sep B wr (swE g v' T' ++ [Ent.ints 3 (.slice (some ⟨g7, o7 + 1, none⟩) (lastL last a).length (c7 - 1)) (lastL last a)]) ∧ Below B w wr) (fun kv _ => (lastL last a).length - (intOf kv).toNat)
                  case atStart => exact ⟨0, Nat.zero_le _, rfl, (by first | exact HS9.out | (have := HS9.out; rwa [HLL.out] at this)), HB7.out⟩
                  case round =>
                    obtain ⟨k, hk, rfl, hsep, hbel⟩ := hrel
                    clear HS9 HB7 hg7
                    have HS8 := Lib.hid hsep; clear hsep
                    have HB8 := Lib.hid hbel; clear hbel
                    obtain ⟨w8, hw8⟩ : ∃ w8, w8 = wr := ⟨_, rfl⟩
                    obtain rfl := hw8
                    have hl88 := lastL_len last a hl8
                    have hg8 : B ≤ w8.heap.size := by have := HB8.out.size; rw [← HBE.out] at this; exact this
                    by_cases hkl : k < (lastL last a).length
                    · have hki : (k : Int) < ((lastL last a).length : Int) := by omega
                      have hk0 : (0 : Int) ≤ (k : Int) := by omega
                      obtain ⟨x, hx⟩ : ∃ x, (lastL last a)[k]? = some x := ⟨_, List.getElem?_eq_getElem hkl⟩
                      have hlx := HT'.out.look HG'.out (List.mem_iff_getElem?.2 ⟨k, hx⟩)
                      obtain ⟨gl, ol, he, d1, -⟩ := HS8.out.intsAt (A := swE g v' T') (C := []) hx
                      simp only [Option.some.injEq, Addr.mk.injEq, and_true] at he; obtain ⟨rfl, rfl⟩ := he
                      have HPO := Lib.hid (port_any B g v' T' _ x w8 (by have := HG'.out.len; omega) HS8.out)
                      rw [hlx] at HPO
                      have hpp : (p != p) = false := by simp
                      clear hx hlx
                      go_wp2_with fail
                      refine HPO.out.mono ?_
                      rintro e w9 ⟨rfl, hb⟩
                      have HS10 := Lib.hid (HS8.out.kept hb)
                      have HB9 := Lib.hid (HB8.out.trans (hb.mono hg8))
                      have hg9 : B ≤ w9.heap.size := by have := HB9.out.size; rw [← HBE.out] at this; exact this
                      clear hb d1 hpp
                      go_wp2
                      go_roundw
                      case rel => exact ⟨k + 1, by omega, by go_num, HS10.out, HB9.out⟩
                      case measure => simp [intOf]; omega
                    · have hki : decide ((k : Int) < ((lastL last a).length : Int)) = false := decide_eq_false (by omega)
                      have hki2 : decide (k < (lastL last a).length) = false := decide_eq_false hkl
                      have HLN := Lib.hid (lastL_len last a hl8)
                      go_wp2
                      go_roundg (gi - 1)
                      case measure => omega
                      case rel => exact ⟨i + 1, v', _, T', lastL last a, by omega, rfl, by first | rfl | go_num, by omega, HLN.out, HG', HT', HS8.out, HB8.out⟩
                · have h8d : decide ((8 : Int) < ((nextL last a).length : Int)) = false := decide_eq_false (by omega)
                  have h8e : decide (8 < (nextL last a).length) = false := decide_eq_false h8
                  have hll : nextL last a = lastL last a := by unfold lastL; rw [if_neg h8]
                  rw [hll] at HS7 h8d h8e hc7 ⊢
                  have HS9 := HS7
                  clear hll HS7 h8
                  go_wp2
                  go_loopw [17] (fun kv wr => ∃ k : Nat, k ≤ (lastL last a).length ∧ kv = .int .i64 k ∧ Sep B wr (swE g v' T' ++ [Ent.ints 3 (.slice a7 (lastL last a).length c7) (lastL last a)]) ∧ Below B w wr) (fun kv _ => (lastL last a).length - (intOf kv).toNat)
                  case atStart => exact ⟨0, Nat.zero_le _, rfl, (by first | exact HS9.out | (have := HS9.out; rwa [HLL.out] at this)), HB7.out⟩
                  case round =>
                    obtain ⟨k, hk, rfl, hsep, hbel⟩ := hrel
                    clear HS9 HB7 hg7
                    have HS8 := Lib.hid hsep; clear hsep
                    have HB8 := Lib.hid hbel; clear hbel
                    obtain ⟨w8, hw8⟩ : ∃ w8, w8 = wr := ⟨_, rfl⟩
                    obtain rfl := hw8
                    have hl88 := lastL_len last a hl8
                    have hg8 : B ≤ w8.heap.size := by have := HB8.out.size; rw [← HBE.out] at this; exact this
                    by_cases hkl : k < (lastL last a).length
                    · have hki : (k : Int) < ((lastL last a).length : Int) := by omega
                      have hk0 : (0 : Int) ≤ (k : Int) := by omega
                      obtain ⟨x, hx⟩ : ∃ x, (lastL last a)[k]? = some x := ⟨_, List.getElem?_eq_getElem hkl⟩
                      have hlx := HT'.out.look HG'.out (List.mem_iff_getElem?.2 ⟨k, hx⟩)
                      obtain ⟨gl, ol, he, d1, -⟩ := HS8.out.intsAt (A := swE g v' T') (C := []) hx
                      subst he
                      have HPO := Lib.hid (port_any B g v' T' _ x w8 (by have := HG'.out.len; omega) HS8.out)
                      rw [hlx] at HPO
                      have hpp : (p != p) = false := by simp
                      clear hx hlx
                      go_wp2_with fail
                      refine HPO.out.mono ?_
                      rintro e w9 ⟨rfl, hb⟩
                      have HS10 := Lib.hid (HS8.out.kept hb)
                      have HB9 := Lib.hid (HB8.out.trans (hb.mono hg8))
                      have hg9 : B ≤ w9.heap.size := by have := HB9.out.size; rw [← HBE.out] at this; exact this
                      clear hb d1 hpp
                      go_wp2
                      go_roundw
                      case rel => exact ⟨k + 1, by omega, by go_num, HS10.out, HB9.out⟩
                      case measure => simp [intOf]; omega
                    · have hki : decide ((k : Int) < ((lastL last a).length : Int)) = false := decide_eq_false (by omega)
                      have hki2 : decide (k < (lastL last a).length) = false := decide_eq_false hkl
                      have HLN := Lib.hid (lastL_len last a hl8)
                      go_wp2
                      go_roundg (gi - 1)
                      case measure => omega
                      case rel => exact ⟨i + 1, v', _, T', lastL last a, by omega, rfl, by first | rfl | go_num, by omega, HLN.out, HG', HT', HS8.out, HB8.out⟩
          · have HVA := Lib.hid hva
            have hv : ¬ Valid a a p := fun h => hva h.1
            have HV := Lib.hid hv
            clear hva hv
            have HK0 := Lib.hid (show w3.drew.cell? ⟨bb, off + i, none⟩ = some (.int .i64 a) from c3)
            have HB4 := Lib.hid (HB3.out.trans (below_drew B w3))
            go_wp2_with fail
            go_region_held3 (fun w' => w'.cell? ⟨bb, off + i, none⟩ = some (.int .i64 a)) (first | exact HK0.out) (first
              | (go_at_call 12; refine (frame_no _ a a p _ HV.out).mono ?_; rintro e w4 ⟨rfl, rfl⟩)
              | fail)
            have c4 := HK0.out
            go_wp2_with fail
            refine (in3_no _ _ _ _ HVA.out).mono ?_
            rintro e w' ⟨rfl, rfl⟩
            go_wp2
            go_ret
            exact ⟨rfl, by have := HB4.out; rw [HBE.out] at this; exact this⟩
        · have hd30 : decide ((i : Int) < 30) = false := decide_eq_false (by omega)
          obtain ⟨w20, hw20⟩ : ∃ w20, w20 = wr := ⟨_, rfl⟩
          obtain rfl := hw20
          have HB20 := HB3
          have hg20 : B ≤ w20.heap.size := by have := HB20.out.size; rw [← HBE.out] at this; exact this
          obtain ⟨al, cl, rfl, -⟩ := HS3.out.intsShape (A := swE g v T) (C := [])
          have hdn := HEN.out.down HGT.out
          have hdl := downT_len T p
          have htl := HGT.out.len
          obtain ⟨dd, hdd⟩ : ∃ dd, dd = (downT T p).length := ⟨_, rfl⟩
          have HDN := Lib.hid (down_ok B g v T [Ent.ints 3 (.slice al last.length cl) last] p w20 hp htl HS3.out hg20)
          rw [← hdd] at HDN hdn hdl
          obtain ⟨nn, hnn⟩ : ∃ nn, nn = (T.length : Int) - (dd : Int) := ⟨_, rfl⟩
          rw [← hnn] at HDN
          have hn1 : decide ((last.length : Int) ≤ nn) = true := decide_eq_true (by omega)
          have hn2 : decide (nn ≤ 8) = true := decide_eq_true (by omega)
          have HDD := Lib.hid hdd
          clear hdd hnn hdn hdl htl
          go_wp2_with fail
          refine HDN.out.mono ?_
          rintro e w21 ⟨rfl, ⟨v21, hs⟩, hb⟩
          have HS21 := Lib.hid hs
          have HB21 := Lib.hid (HB20.out.trans hb)
          have hg21 : B ≤ w21.heap.size := by have := HB21.out.size; rw [← HBE.out] at this; exact this
          clear hs hb HDN
          by_cases hz : last.length = 0
          · have hz1 : ((last.length : Int) == 0) = true := by simp [hz]
            have hz2 : (last.length == 0) = true := by simp [hz]
            have hz3 : last = [] := List.eq_nil_of_length_eq_zero hz
            have HZ3 := Lib.hid hz3
            clear hz hz3
            go_wp2
            go_ret
            exact ⟨rfl, by have := HB21.out; rw [HBE.out] at this; exact this⟩
          · have hz1 : ((last.length : Int) == 0) = false := beq_eq_false_iff_ne.2 (by omega)
            have hz2 : (last.length == 0) = false := by simp [hz]
            obtain ⟨x, hx⟩ : ∃ x, last[0]? = some x := ⟨_, List.getElem?_eq_getElem (by omega)⟩
            have hlx := HEN.out.look HGT.out (List.mem_iff_getElem?.2 ⟨0, hx⟩)
            have hly := down_look HGT.out hlx hp.1
            obtain ⟨gl, ol, rfl, d0, -⟩ := HS21.out.intsAt (A := swE g v21 (downT T p)) (C := []) hx
            rw [Nat.add_zero] at d0
            have hlp : (0 : Int) < (last.length : Int) := by omega
            have hdt : (downT T p).length ≤ 9 := by have := downT_len T p; have := HGT.out.len; omega
            have HPO := Lib.hid (port_any B g v21 (downT T p) _ x w21 hdt HS21.out)
            rw [hly] at HPO
            clear hz hx hlx hly hdt
            go_wp2_with fail
            refine HPO.out.mono ?_
            rintro e w22 ⟨rfl, hb⟩
            have HB22 := Lib.hid (HB21.out.trans (hb.mono hg21))
            have hg22 : B ≤ w22.heap.size := by have := HB22.out.size; rw [← HBE.out] at this; exact this
            clear hb d0
            go_wp2
            go_ret
            exact ⟨rfl, by have := HB22.out; rw [HBE.out] at this; exact this⟩
      · have hii : decide ((i : Int) < (ms.length : Int)) = false := decide_eq_false (by omega)
        have hii2 : decide (i < ms.length) = false := decide_eq_false hlt
        obtain ⟨w20, hw20⟩ : ∃ w20, w20 = wr := ⟨_, rfl⟩
        obtain rfl := hw20
        have HB20 := HB3
        have hg20 : B ≤ w20.heap.size := by have := HB20.out.size; rw [← HBE.out] at this; exact this
        obtain ⟨al, cl, rfl, -⟩ := HS3.out.intsShape (A := swE g v T) (C := [])
        have hdn := HEN.out.down HGT.out
        have hdl := downT_len T p
        have htl := HGT.out.len
        obtain ⟨dd, hdd⟩ : ∃ dd, dd = (downT T p).length := ⟨_, rfl⟩
        have HDN := Lib.hid (down_ok B g v T [Ent.ints 3 (.slice al last.length cl) last] p w20 hp htl HS3.out hg20)
        rw [← hdd] at HDN hdn hdl
        obtain ⟨nn, hnn⟩ : ∃ nn, nn = (T.length : Int) - (dd : Int) := ⟨_, rfl⟩
        rw [← hnn] at HDN
        have hn1 : decide ((last.length : Int) ≤ nn) = true := decide_eq_true (by omega)
        have hn2 : decide (nn ≤ 8) = true := decide_eq_true (by omega)
        have HDD := Lib.hid hdd
        clear hdd hnn hdn hdl htl
        go_wp2_with fail
        refine HDN.out.mono ?_
        rintro e w21 ⟨rfl, ⟨v21, hs⟩, hb⟩
        have HS21 := Lib.hid hs
        have HB21 := Lib.hid (HB20.out.trans hb)
        have hg21 : B ≤ w21.heap.size := by have := HB21.out.size; rw [← HBE.out] at this; exact this
        clear hs hb HDN
        by_cases hz : last.length = 0
        · have hz1 : ((last.length : Int) == 0) = true := by simp [hz]
          have hz2 : (last.length == 0) = true := by simp [hz]
          have hz3 : last = [] := List.eq_nil_of_length_eq_zero hz
          have HZ3 := Lib.hid hz3
          clear hz hz3
          go_wp2
          go_ret
          exact ⟨rfl, by have := HB21.out; rw [HBE.out] at this; exact this⟩
        · have hz1 : ((last.length : Int) == 0) = false := beq_eq_false_iff_ne.2 (by omega)
          have hz2 : (last.length == 0) = false := by simp [hz]
          obtain ⟨x, hx⟩ : ∃ x, last[0]? = some x := ⟨_, List.getElem?_eq_getElem (by omega)⟩
          have hlx := HEN.out.look HGT.out (List.mem_iff_getElem?.2 ⟨0, hx⟩)
          have hly := down_look HGT.out hlx hp.1
          obtain ⟨gl, ol, rfl, d0, -⟩ := HS21.out.intsAt (A := swE g v21 (downT T p)) (C := []) hx
          rw [Nat.add_zero] at d0
          have hlp : (0 : Int) < (last.length : Int) := by omega
          have hdt : (downT T p).length ≤ 9 := by have := downT_len T p; have := HGT.out.len; omega
          have HPO := Lib.hid (port_any B g v21 (downT T p) _ x w21 hdt HS21.out)
          rw [hly] at HPO
          clear hz hx hlx hly hdt
          go_wp2_with fail
          refine HPO.out.mono ?_
          rintro e w22 ⟨rfl, hb⟩
          have HB22 := Lib.hid (HB21.out.trans (hb.mono hg21))
          have hg22 : B ≤ w22.heap.size := by have := HB22.out.size; rw [← HBE.out] at this; exact this
          clear hb d0
          go_wp2
          go_ret
          exact ⟨rfl, by have := HB22.out; rw [HBE.out] at this; exact this⟩
  · have HP := Lib.hid hp
    clear hp
    have hsame : ∀ w', Below B w w' → Calls Tryd.prog 11 #[.iface 62 (.int .i64 1), .int .i64 1] w' fun x w'' => x = .returned (.bool true) ∧ Below w'.heap.size w' w'' := fun w' h => by
      have := same_any 1 1 true w' (HD.out.on (by rw [← HBE.out]; exact h)) rfl
      rw [errV_not (by decide)] at this
      exact this
    have HSAME := Lib.hid hsame
    clear hsame
    go_wp2_with fail
    refine (in3_no _ _ _ _ HP.out).mono ?_
    rintro e w' ⟨rfl, rfl⟩
    go_wp2_with fail
    refine (down_no _ p _ HP.out).mono ?_
    rintro e w' ⟨rfl, rfl⟩
    go_wp2_with fail
    refine (HSAME.out _ HB2.out).mono ?_
    rintro e w3 ⟨rfl, hb⟩
    have HB3 := Lib.hid (HB2.out.trans (hb.mono hg2))
    have hg3 : B ≤ w3.heap.size := by have := HB3.out.size; rw [← HBE.out] at this; exact this
    clear hb
    go_wp2
    go_ret
    exact ⟨rfl, by have := HB3.out; rw [HBE.out] at this; exact this⟩
end Go.Proofs.YtommedhaaojgiaaDoor
