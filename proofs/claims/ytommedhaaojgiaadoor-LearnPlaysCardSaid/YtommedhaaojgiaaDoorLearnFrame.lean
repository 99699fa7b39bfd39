/- learn: Port, Frame. -/
import Derived.Test.YtommedhaaojgiaaDoorLearnFind
import Derived.StillTailTactics
import Derived.Deep.DeepCutAuto
namespace Go.Proofs.YtommedhaaojgiaaDoor
open Go.RowKit
set_option linter.unusedVariables false

theorem elemEnt : ElemTy Tryd.prog 57 61 2 16 (.agg #[.int .i64 0, .int .i64 0]) :=
  ⟨Tryd.underlying57, info_parts (by kernel_rfl), by kernel_rfl, by decide⟩

theorem port_any (B g : Nat) (v : Value) (T : Tab) (F : List Ent) (a : Int) (w : World) (hl : T.length ≤ 9) (hsep : Sep B w (swE g v T ++ F)) :
    Calls Tryd.prog 13 #[.pointer (some ⟨g, 0, none⟩), .int .i64 a] w fun e w' => e = .returned (.int .i64 (look T a)) ∧ Below w.heap.size w w' := by
  have HS := Lib.hid hsep; clear hsep
  cases hf : tfind T a with
  | none =>
    have hlk : look T a = -1 := by unfold look; rw [hf]
    rw [hlk]
    clear hlk
    have HF := Lib.hid hf; clear hf
    go_enter Tryd.func13, Tryd.ntmps13
    go_wp2_with fail
    refine (find_any B g v T F a _ hl HS.out).mono ?_
    rintro e w1 ⟨rfl, hb⟩
    rw [HF.out]
    simp only [idx]
    have HB := Lib.hid hb; clear hb
    go_wp2
    go_ret
    exact ⟨rfl, HB.out⟩
  | some k =>
    obtain ⟨p, hp, hlk, _⟩ := tfind_some hf
    rw [hlk]
    clear hlk
    obtain ⟨ao, cap, rfl, hcap, hnil⟩ := HS.out.swShape
    have hk := tfind_lt hf
    have HN := Lib.hid hnil; clear hnil
    have HF := Lib.hid hf; clear hf
    have HP := Lib.hid hp; clear hp
    go_enter Tryd.func13, Tryd.ntmps13
    go_wp2_with fail
    refine (find_any B g _ T F a _ hl HS.out).mono ?_
    rintro e w1 ⟨rfl, hb⟩
    rw [HF.out]
    simp only [idx]
    have HS1 := Lib.hid (HS.out.kept hb)
    have HB := Lib.hid hb; clear hb
    have cv := HS1.out.swCell.1
    obtain ⟨b, off, rfl, c0, c1⟩ := HS1.out.swEnt HP.out
    go_wp2
    go_ret
    exact ⟨rfl, HB.out⟩

/-- 'append(table, entry{a, p})': the entry lies in a new block, the last one. -/
theorem wpList_append_ent {P : Program} {B : Nat} {w : World} {A C : List Ent} {v : Value} {t e te : TypeId} {T : Tab} {y : Int × Int} {ops : Array Oper} {rest : List Oper} {o : Oper} {a : Act} {Q : Exit → Act → World → Prop} (hgd : Region.wanted o (yielded ops a.tmps) = true) (s x : Operand)
    (ho : o.op = .call { callee := .builtin .append, args := #[s, x], argTypes := #[t, t] }) (E : ElemTy P t e 2 16 (.agg #[.int .i64 0, .int .i64 0]))
    (hs : a.eval s = v) (hsep : Sep B w (A ++ Ent.row v T.length 2 e (T.flatMap entC) :: C)) (hBw : B ≤ w.heap.size)
    (hx : a.eval x = .slice (some ⟨w.heap.size, 0, none⟩) 1 1) (hlen : T.length ≤ 1000000000)
    (h : ∀ v' w', Sep B w' (A ++ Ent.row v' (T ++ [y]).length 2 e ((T ++ [y]).flatMap entC) :: C) → Below B w w' → wpList P ops Q rest (a.put o.dst v') w') : wpList P ops Q (o :: rest) a (w.alloc (.cells #[.int .i64 y.1, .int .i64 y.2] te)) := by
  refine wpList_append_sep hgd s x ho E hs (hsep.alloc _) (by simp; omega) ⟨w.heap.size, 0, none⟩ 1 1 (entC y) hx rfl ?_ ?_ (by omega) (by omega) (by unfold maxLen; omega) ?_
  · intro j u hj
    match j, hj with
    | 0, hj => simp [entC] at hj; subst hj; simp [Addr.add]
    | 1, hj => simp [entC] at hj; subst hj; simp [Addr.add]
  · intro u hu; simp [entC] at hu; rcases hu with rfl | rfl <;> rfl
  · intro v' w' h1 h2
    refine h v' w' ?_ (((Below.refl B w).alloc hBw _).trans h2)
    simpa using h1

theorem elemI : ElemTy Tryd.prog 23 3 1 8 (.int .i64 0) := ⟨Tryd.underlying23, info_parts (by kernel_rfl), rfl, by decide⟩
/-- The ports below k but the one. -/
def fourTo (p : Int) (k : Nat) : List Int := (([0, 1, 2, 3] : List Int).take k).filter fun x => !decide (x = p)
theorem four_get {k : Nat} (h : k < 4) : ([0, 1, 2, 3] : List Int)[k]? = some (k : Int) := by
  match k, h with
  | 0, _ => rfl
  | 1, _ => rfl
  | 2, _ => rfl
  | 3, _ => rfl
theorem fourTo_skip {p : Int} {k : Nat} (h : k < 4) (e : (k : Int) = p) : fourTo p (k + 1) = fourTo p k := by
  unfold fourTo
  rw [List.take_add_one, four_get h]
  simp [e]
theorem fourTo_add {p : Int} {k : Nat} (h : k < 4) (e : ¬ (k : Int) = p) : fourTo p (k + 1) = fourTo p k ++ [(k : Int)] := by
  unfold fourTo
  rw [List.take_add_one, four_get h]
  simp [e]
theorem fourTo_len (p : Int) (k : Nat) : (fourTo p k).length ≤ 4 := by
  refine Nat.le_trans (List.length_filter_le _ _) ?_
  rw [List.length_take]
  exact Nat.min_le_right _ _
theorem gone_len (T : Tab) (a : Int) : (gone T a).length ≤ T.length := by
  unfold gone
  cases hf : tfind T a with
  | none => exact Nat.le_refl _
  | some k => have := tfind_lt hf; simp; omega

set_option maxHeartbeats 2000000 in
set_option maxRecDepth 100000 in
theorem frame_ok (B g : Nat) (v : Value) (T : Tab) (F : List Ent) (a t p : Int) (w : World) (ha : 0 ≤ a ∧ a ≤ 65535) (ht : 0 ≤ t ∧ t ≤ 65535) (hp : 0 ≤ p ∧ p ≤ 3) (hl : T.length ≤ 8) (hsep : Sep B w (swE g v T ++ F)) (hB : B ≤ w.heap.size) :
    Calls Tryd.prog 12 #[.pointer (some ⟨g, 0, none⟩), .int .i64 a, .int .i64 t, .int .i64 p] w fun e w' => ∃ lv v', e = .returned (.tuple #[lv, .nilIface]) ∧
      Sep B w' (Ent.ints 3 lv (outs (heardT T a p) t p) :: (swE g v' (heardT T a p) ++ F)) ∧ Below B w w' := by
  have HS := Lib.hid hsep; clear hsep
  go_enter Tryd.func12, Tryd.ntmps12
  go_wp2_with fail
  refine (check_yes _ _ _ ⟨ha, hp⟩).mono ?_
  rintro e w' ⟨rfl, rfl⟩
  go_wp2_with fail
  refine (check_yes _ _ _ ⟨ht, by omega⟩).mono ?_
  rintro e w' ⟨rfl, rfl⟩
  go_wp2_with fail
  refine (find_any B g v T F a _ (by omega) HS.out).mono ?_
  rintro e w1 ⟨rfl, hb⟩
  have HS1 := Lib.hid (HS.out.kept hb)
  have HB1 := Lib.hid (hb.mono hB); clear hb
  go_upto_if 32 with fail
  go_cut [12] (fun s12 wx => ∃ v', Sep B wx (swE g v' (gone T a) ++ F) ∧ Below B w wx)
  case first =>
    cases hf : tfind T a with
    | none =>
      have hg : gone T a = T := by unfold gone; rw [hf]
      have HG := Lib.hid hg; clear hg
      have HF := Lib.hid hf; clear hf
      simp only [idx]
      go_wp2_with fail
      go_meet
      exact ⟨v, by rw [HG.out]; exact HS1.out, HB1.out⟩
    | some k =>
      have hg : gone T a = T.take k ++ T.drop (k + 1) := by unfold gone; rw [hf]
      have HG := Lib.hid hg; clear hg
      have hk := tfind_lt hf
      have HF := Lib.hid hf; clear hf
      simp only [idx]
      obtain ⟨n, hn⟩ : ∃ n, T.length = n := ⟨_, rfl⟩
      obtain ⟨m, hm⟩ : ∃ m, n = k + 1 + m := ⟨n - (k + 1), by omega⟩
      obtain ⟨ao, cap, rfl, hcap, hnil⟩ := HS1.out.swShape
      obtain ⟨b, off, rfl⟩ : ∃ b off, ao = some ⟨b, off, none⟩ := by
        obtain ⟨b, off, h, _⟩ := Sep.rowAt (A := [_]) HS1.out (by omega)
        exact ⟨b, off, h⟩
      clear hnil
      rw [hn] at hcap hk hl
      obtain ⟨xs, hxs⟩ : ∃ xs, xs = T.flatMap entC := ⟨_, rfl⟩
      have hrow : Sep B w1 ([Ent.blk1 g 59 [.slice (some ⟨b, off, none⟩) n cap]] ++ Ent.row (.slice (some ⟨b, off, none⟩) n cap) n 2 61 xs :: F) := by
        have := HS1.out
        unfold swE at this
        rw [hn] at this
        rw [hxs]
        exact this
      have hdel := (Sep.drew hrow).rowDel k m hm
      have hxl : xs.length = n * 2 := hrow.mem.1.1
      obtain ⟨_, hbn, cur, hcur, _, hcm, hcs, htk⟩ := Sep.rowBlk hrow
      have hcell : ∀ j, j < n * 2 → w1.drew.cell? ⟨b, off + j, none⟩ = xs[j]? := by
        intro j hj
        obtain ⟨g', o', he, _, hc, _⟩ := Sep.rowAt (Sep.drew hrow) (by omega)
        simp only [Option.some.injEq, Addr.mk.injEq, and_true] at he
        obtain ⟨rfl, rfl⟩ := he
        exact hc j hj
      have hfroz : ∀ j, w1.drew.frozen? ⟨b, j, none⟩ = false := fun j => frozen_of_row w1.drew b j cur _ hcur
      obtain ⟨A, hA, hnews⟩ : ∃ A : Addr, (if cap = k + 1 then some (⟨b, off, none⟩ : Addr) else some ⟨b, off + (k + 1) * 2, none⟩) = some A ∧ Hid (∀ j u, (xs.drop ((k + 1) * 2))[j]? = some u → w1.drew.cell? (A.add j) = some u) := by
        by_cases h : cap = k + 1
        · refine ⟨⟨b, off, none⟩, by simp [h], fun j u hu => ?_⟩
          rw [List.drop_of_length_le (by omega)] at hu
          simp at hu
        · refine ⟨⟨b, off + (k + 1) * 2, none⟩, by simp [h], fun j u hu => ?_⟩
          rw [List.getElem?_drop] at hu
          have hj : (k + 1) * 2 + j < xs.length := (List.getElem?_eq_some_iff.1 hu).1
          have e1 : (⟨b, off + (k + 1) * 2, none⟩ : Addr).add j = ⟨b, off + ((k + 1) * 2 + j), none⟩ := by rw [Addr.add_lit, Nat.add_assoc]
          rw [e1, hcell _ (by omega)]
          exact hu
      have s1 : Hid ((xs.drop ((k + 1) * 2)).length = (n - (k + 1)) * 2) := by show _ = _; rw [List.length_drop, hxl]; omega
      have s2 : Hid (∀ u ∈ xs.drop ((k + 1) * 2), u.oneCell' = true) := by
        intro u hu
        have := List.mem_of_mem_drop hu
        rw [hxs, List.mem_flatMap] at this
        obtain ⟨y, _, hy⟩ := this
        simp [entC] at hy
        rcases hy with rfl | rfl <;> rfl
      have s3 : Hid (∀ j, j < (xs.drop ((k + 1) * 2)).length → (w1.drew.cell? ⟨b, off + k * 2 + j, none⟩).isSome = true ∧ w1.drew.frozen? ⟨b, off + k * 2 + j, none⟩ = false) := by
        intro j hj
        rw [List.length_drop] at hj
        refine ⟨?_, hfroz _⟩
        rw [Nat.add_assoc, hcell _ (by omega), List.getElem?_eq_getElem (by omega)]
        rfl
      have hwr : IntKind.i64.wrap ((k : Int) + 1) = (k : Int) + 1 := by rw [IntKind.wrap_i64]; omega
      have hp0 : (0 : Int) ≤ (k : Int) + 1 := by omega
      have hp1 : (k : Int) + 1 ≤ (n : Int) := by omega
      have hp2 : ((k : Int) + 1).toNat = k + 1 := by omega
      have hkc : k ≤ cap := by omega
      have k0 := (Sep.blkAt (A := []) (j := 0) hdel rfl).1
      have e0 := (Sep.blkAt (A := []) (j := 0) hdel rfl).2
      have c0 := (Sep.blkAt (A := []) (j := 0) hrow rfl).1
      have HD := Lib.hid hdel; clear hdel
      have hBb : B ≤ b := (Sep.rowBlk hrow).1
      have hBg : B ≤ g := (Sep.blkLt (A := []) hrow).1
      have HBD := Lib.hid (below_setCells_own hBb (xs.drop ((k + 1) * 2)) (off + k * 2) w1.drew)
      obtain ⟨news, hnw⟩ : ∃ news, news = xs.drop ((k + 1) * 2) := ⟨_, rfl⟩
      rw [← hnw] at hnews s1 s2 s3 k0 e0 HD HBD
      have HNW := Lib.hid hnw; clear hnw
      have HXS := Lib.hid hxs; clear hxs
      have HRW := Lib.hid hrow; clear hrow
      have HM := Lib.hid hm
      have HTL := Lib.hid hn
      clear hcur hcs htk hcell hfroz hxl hn hm
      obtain ⟨i0, hi0, hz0, hz1, hz2⟩ := elemEnt.info
      go_wp2_with fail
      go_region_law (refine step_append_room rfl (.tmp 39) (.tmp 46) 57 rfl 61 i0 2 elemEnt.under hi0 hz1 b off k cap (by simp [Act.eval, Act.put]) A (n - (k + 1)) (cap - (k + 1)) news (by simp [Act.eval, Act.put]) s1.out hnews.out s2.out (by omega) s3.out ?_)
      all_goals go_wp2_with fail
      all_goals go_meet
      all_goals refine ⟨.slice (some ⟨b, off, none⟩) (k + m) cap, ?_, HB1.out.trans (((below_drew B w1).trans HBD.out).setCell (p := ⟨g, 0, none⟩) hBg _)⟩
      all_goals (
        have h1 := Sep.blkSet (A := []) HD.out 0 (.slice (some ⟨b, off, none⟩) (k + m) cap)
        have hxs2 : (T.take k ++ T.drop (k + 1)).flatMap entC = xs.take (k * 2) ++ news := by
          rw [List.flatMap_append, flat_take entC 2 entC_len, flat_drop entC 2 entC_len, HNW.out, HXS.out]
        have hgl : (T.take k ++ T.drop (k + 1)).length = k + m := by
          have h5 := HTL.out
          have h6 := HM.out
          simp only [List.length_append, List.length_take, List.length_drop]
          omega
        rw [show k + (n - (k + 1)) = k + m by have := HM.out; omega, HG.out]
        unfold swE
        rw [hxs2, hgl]
        exact h1)
  case rest =>
    obtain ⟨v1, hsep1, hb1⟩ := hcut
    have hgl := gone_len T a
    have hhd : heardT T a p = if 8 < (gone T a ++ [(a, p)]).length then (gone T a ++ [(a, p)]).drop 1 else gone T a ++ [(a, p)] := rfl
    obtain ⟨T1, hT1⟩ : ∃ T1, T1 = gone T a := ⟨_, rfl⟩
    obtain ⟨T2, hT2⟩ : ∃ T2, T2 = heardT T a p := ⟨_, rfl⟩
    rw [← hT2, ← hT1] at hhd
    rw [← hT1] at hsep1 hgl
    have HT1 := Lib.hid hT1; clear hT1
    have HT2 := Lib.hid hT2; clear hT2
    have HHD := Lib.hid hhd; clear hhd
    clear HS1 HB1
    have HS2 := Lib.hid hsep1; clear hsep1
    have HB2 := Lib.hid hb1; clear hb1
    have hBw : B ≤ wc.heap.size := Nat.le_trans hB HB2.out.size
    have cv1 := HS2.out.swCell.1
    go_upto_if 67 with (at_builtin; refine wpList_append_ent (y := (a, p)) rfl (.tmp 54) (.tmp 58) rfl elemEnt (A := [_]) rfl HS2.out hBw rfl (by omega) ?_)
    intro v2 w2 hsep2 hbel2
    have hT1l : (T1 ++ [(a, p)]).length = T1.length + 1 := by simp
    have hfl : (T1 ++ [(a, p)]).flatMap entC = T1.flatMap entC ++ entC (a, p) := by simp
    have HFL := Lib.hid hfl; clear hfl
    obtain ⟨ao2, cap2, rfl, hc2, hn2⟩ := (Sep.rowShape (A := [_]) hsep2).2
    obtain ⟨cv2, fv2⟩ := Sep.blkAt (A := []) (j := 0) hsep2 rfl
    have hsep3 := Sep.blkSet (A := []) hsep2 0 (.slice ao2 (T1.length + 1) cap2)
    have hBg : B ≤ g := (Sep.blkLt (A := []) hsep2).1
    have hb3 : Below B w (w2.setCell ⟨g, 0, none⟩ (.slice ao2 (T1.length + 1) cap2)) := (HB2.out.trans hbel2).setCell (p := ⟨g, 0, none⟩) hBg _
    have HS3 : Hid (Sep B (w2.setCell ⟨g, 0, none⟩ (.slice ao2 (T1.length + 1) cap2)) ([Ent.blk1 g 59 [.slice ao2 (T1.length + 1) cap2]] ++ Ent.row (.slice ao2 (T1.length + 1) cap2) (T1.length + 1) 2 61 (T1.flatMap entC ++ entC (a, p)) :: F)) := hsep3
    have HB3 := Lib.hid hb3
    have HTL := Lib.hid hT1l
    clear hsep3 hb3 hsep2 hbel2 hT1l
    obtain ⟨b, off, rfl⟩ : ∃ b off, ao2 = some ⟨b, off, none⟩ := by
      obtain ⟨b, off, h, _⟩ := Sep.rowAt (A := [_]) HS3.out (by omega)
      exact ⟨b, off, h⟩
    clear hn2
    go_upto_if 67 with fail
    generalize w2.setCell ⟨g, 0, none⟩ (.slice (some ⟨b, off, none⟩) (T1.length + 1) cap2) = w3 at HS3 HB3 ⊢
    clear cv1 cv2 fv2
    go_cut [] (fun wx => ∃ v', Sep B wx (swE g v' T2 ++ F) ∧ Below B w wx)
    case first =>
      obtain ⟨cv3, fv3⟩ := Sep.blkAt (A := []) (j := 0) HS3.out rfl
      by_cases hlong : 8 < T1.length + 1
      · obtain ⟨c, hc⟩ : ∃ c, cap2 = 1 + c := ⟨cap2 - 1, by omega⟩
        have hcut2 := Sep.rowCut (A := [_]) HS3.out 1 T1.length c (by omega) hc
        have hlst := Sep.blkSet (A := []) hcut2 0 (.slice (some ⟨b, off + 1 * 2, none⟩) T1.length c)
        have hT2e : T2 = (T1 ++ [(a, p)]).drop 1 := by rw [HHD.out, if_pos (by rw [HTL.out]; exact hlong)]
        have HT2E := Lib.hid hT2e; clear hT2e
        have HLST := Lib.hid hlst; clear hlst hcut2
        have hca : cutAddr (some ⟨b, off, none⟩) cap2 1 2 = some ⟨b, off + 1 * 2, none⟩ := by
          unfold cutAddr
          rw [if_neg (by omega)]
          simp [Addr.add]
        have hc1 : cap2 - 1 = c := by omega
        have hn1 : T1.length + 1 - 1 = T1.length := by omega
        have HC := Lib.hid hc; clear hc
        have HCA := Lib.hid hca; clear hca
        have HC1 := Lib.hid hc1; clear hc1
        have hd : decide ((8 : Int) < (T1.length : Int) + 1) = true := decide_eq_true (by omega)
        go_wp2_with (refine wpList_slice_from rfl (.tmp 72) (.const (.int .i64 1)) rfl elemEnt _ _ _ rfl 1 .i64 rfl (by omega) ?_; rw [HCA.out, HC1.out])
        go_meet
        refine ⟨.slice (some ⟨b, off + 2, none⟩) T1.length c, ?_, HB3.out.setCell (p := ⟨g, 0, none⟩) hBg _⟩
        have hl : ((T1 ++ [(a, p)]).drop 1).length = T1.length := by rw [List.length_drop, HTL.out]; omega
        rw [HT2E.out]
        unfold swE
        rw [hl, flat_drop entC 2 entC_len, HFL.out]
        exact HLST.out
      · have hd : decide ((8 : Int) < (T1.length : Int) + 1) = false := decide_eq_false (by omega)
        have hT2e : T2 = T1 ++ [(a, p)] := by rw [HHD.out, if_neg (by rw [HTL.out]; exact hlong)]
        have HT2E := Lib.hid hT2e; clear hT2e
        go_wp2_with fail
        go_meet
        refine ⟨.slice (some ⟨b, off, none⟩) (T1.length + 1) cap2, ?_, HB3.out⟩
        rw [HT2E.out]
        unfold swE
        rw [HTL.out, HFL.out]
        exact HS3.out
    case rest =>
      obtain ⟨v3, hsep3, hb3⟩ := hcut
      have hl2 : T2.length ≤ 8 := by
        have h1 := HTL.out
        have h2 : T1.length ≤ 8 := by omega
        rw [HHD.out]
        split
        · rw [List.length_drop, h1]; omega
        · omega
      clear HS3 HB3 HS2 HB2
      rename_i wd
      have HS4 := Lib.hid hsep3; clear hsep3
      have HB4 := Lib.hid hb3; clear hb3
      go_wp2_with fail
      refine (find_any B g v3 T2 F t _ (by omega) HS4.out).mono ?_
      rintro e w5 ⟨rfl, hb⟩
      have HS5 := Lib.hid (HS4.out.kept hb)
      have HB5 := Lib.hid (HB4.out.trans (hb.mono (Nat.le_trans hB HB4.out.size))); clear hb
      have hB5 : B ≤ w5.heap.size := Nat.le_trans hB HB5.out.size
      cases hf : tfind T2 t with
      | none =>
        have houts : outs T2 t p = ([0, 1, 2, 3] : List Int).filter fun x => !decide (x = p) := by unfold outs; rw [hf]
        have HO := Lib.hid houts; clear houts
        have HF := Lib.hid hf; clear hf
        simp only [idx]
        go_wp2
        go_loopw [15, 94] (fun o x wr => ∃ (k : Nat), k ≤ 4 ∧ x = .int .i64 k ∧ Sep B wr (Ent.ints 3 o (fourTo p k) :: (swE g v3 T2 ++ F)) ∧ Below B w wr) (fun _ x _ => 4 - (intOf x).toNat)
        case atStart => exact ⟨0, by omega, rfl, Sep.intsNil HS5.out _, HB5.out⟩
        case round =>
          obtain ⟨k, hk, rfl, hs, hb⟩ := hrel
          have HS := Lib.hid hs; clear hs
          have HB := Lib.hid hb; clear hb
          have hBw : B ≤ wr.heap.size := Nat.le_trans hB HB.out.size
          by_cases hlt : k < 4
          · by_cases hkp : (k : Int) = p
            · have hq : ((k : Int) != p) = false := by simp [hkp]
              have h4 := fourTo_skip hlt hkp
              have H4 := Lib.hid h4; clear h4
              have HKP := Lib.hid hkp; clear hkp
              go_wp2
              go_roundw
              case rel => exact ⟨k + 1, by omega, by go_num, by rw [H4.out]; exact HS.out, HB.out⟩
              case measure => simp [intOf]; omega
            · have hq : ((k : Int) != p) = true := by simp [hkp]
              have h4 := fourTo_add hlt hkp
              have H4 := Lib.hid h4; clear h4
              have h4l := fourTo_len p k
              have HKP := Lib.hid hkp; clear hkp
              go_wp2_with (at_builtin; refine wpList_append_int rfl (.tmp 100) (.tmp 102) rfl elemI (A := []) rfl HS.out hBw rfl (by omega) ?_)
              intro v' w6 hs6 hb6
              go_wp2
              go_roundw
              case rel => exact ⟨k + 1, by omega, by go_num, by rw [H4.out]; exact hs6, HB.out.trans hb6⟩
              case measure => simp [intOf]; omega
          · have hk4 : k = 4 := by omega
            subst hk4
            go_wp2
            go_ret2
            exact ⟨_, v3, rfl, by rw [← HT2.out, HO.out]; exact HS.out, HB.out⟩
      | some k =>
        obtain ⟨q, hq, hlk, _⟩ := tfind_some hf
        obtain ⟨ao, cap, rfl, hcap, hnil⟩ := HS5.out.swShape
        have hk := tfind_lt hf
        have houts : outs T2 t p = if q = p then [] else [q] := by unfold outs; rw [hf, hlk]
        clear hlk hnil
        have HO := Lib.hid houts; clear houts
        have HF := Lib.hid hf; clear hf
        simp only [idx]
        have cv := HS5.out.swCell.1
        obtain ⟨b, off, rfl, c0, c1⟩ := HS5.out.swEnt hq
        have HQ := Lib.hid hq; clear hq
        by_cases hqp : q = p
        · have hb1 : (q != p) = false := by simp [hqp]
          have HQP := Lib.hid hqp; clear hqp
          go_wp2
          go_ret2
          exact ⟨_, rfl, ⟨_, by rw [← HT2.out, HO.out, if_pos HQP.out]; exact Sep.intsNil HS5.out _⟩, HB5.out⟩
        · have hb1 : (q != p) = true := by simp [hqp]
          have HQP := Lib.hid hqp; clear hqp
          go_wp2
          go_ret2
          exact ⟨_, rfl, ⟨_, by rw [← HT2.out, HO.out, if_neg HQP.out]; exact HS5.out.rowMade hB5 #[.int .i64 q] 1 1 3 rfl (by decide)⟩, HB5.out.trans ((below_alloc _ _).mono hB5)⟩
end Go.Proofs.YtommedhaaojgiaaDoor
