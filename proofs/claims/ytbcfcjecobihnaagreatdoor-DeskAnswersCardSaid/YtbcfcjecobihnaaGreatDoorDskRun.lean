/- desk.Run. -/
import Derived.Test.YtbcfcjecobihnaaGreatDoorDskLoop
import Derived.Test.YtbcfcjecobihnaaGreatDoorDskLine
import Derived.Test.YtbcfcjecobihnaaGreatDoorDskB
namespace Go.Proofs.YtbcfcjecobihnaaGreatDoor
open Go.RowKit
attribute [local go_sem] Oper.semAt_some
set_option linter.unusedVariables false
set_option linter.unusedSimpArgs false
set_option maxRecDepth 100000

theorem errT_len (c : Int) : (errT c).length ≤ 9 := by
  unfold errT
  repeat' split
  all_goals decide
theorem ans_len {B bb tb : Nat} {w : World} {b : Bk} {F : List Ent} (h : BkM B w bb tb b F) (hf : FineB b) (s : List UInt8) : (ansD b s).2.length ≤ 60 := by
  have hL := (BkS.facts h).1
  unfold ansD verbD
  split
  · show badT.length ≤ 60
    decide
  · split
    · have := errT_len (bkSet b (numV ((cutL 32 s).tail.getD 0 [])) (numV ((cutL 32 s).tail.getD 1 [])) (numV ((cutL 32 s).tail.getD 2 []))).2
      show (errT _).length ≤ 60
      omega
    · split
      · have := errT_len (bkDrop b (numV ((cutL 32 s).tail.getD 0 [])) (numV ((cutL 32 s).tail.getD 1 []))).2
        show (errT _).length ≤ 60
        omega
      · split
        · show (findA b _).length ≤ 60
          unfold findA
          split
          · rename_i hz
            obtain ⟨p, k, e, hp, hk⟩ := findR_nat h _ hz
            rw [e]
            have h1 := digits_len p (by omega)
            have h2 := digits_len k (by omega)
            simp only [Int.toNat_natCast, List.length_append, List.length_cons]
            omega
          · have := errT_len (findR b.1 (numV ((cutL 32 s).tail.getD 0 []))).2.2
            omega
        · split
          · have h1 := digits_len b.1.length (by omega)
            show (Lib.decDigits b.1.length).length ≤ 60
            omega
          · split
            · obtain ⟨-, h2, O, h3⟩ := hf
              obtain ⟨k, o, e1, e2, e3, e4⟩ := crash_open h3 h2 (numV ((cutL 32 s).tail.getD 0 [])).toNat
              unfold crashD
              rw [e2]
              have h5 := digits_len k (by have := h2.2; omega)
              have h6 : foundT.length = 6 := rfl
              simp only [List.length_append]
              omega
            · show badT.length ≤ 60
              decide
/-- The builder in the frame, taken out. -/
theorem outCall {B bb tb gq : Nat} {w : World} {b : Bk} {ad v : Value} {l : List UInt8} {P F : List Ent} (h : BkM B w bb tb b (P ++ bldE gq ad v :: Ent.rowF v l :: F)) :
    ∃ C, Sep B w (bldE gq ad v :: Ent.rowF v l :: C) ∧ ∀ w' ad' v' l', Sep B w' (bldE gq ad' v' :: Ent.rowF v' l' :: C) → BkM B w' bb tb b (P ++ bldE gq ad' v' :: Ent.rowF v' l' :: F) := by
  obtain ⟨E, hE, hs⟩ := bkM_iff.1 h
  have hp : ∀ x y : Ent, (E ++ (P ++ x :: y :: F)).Perm (x :: y :: (E ++ (P ++ F))) := fun x y => by
    rw [← List.append_assoc, ← List.append_assoc]
    exact List.perm_middle.trans (List.Perm.cons _ List.perm_middle)
  exact ⟨E ++ (P ++ F), hs.perm (hp _ _), fun w' ad' v' l' h' => bkM_iff.2 ⟨E, hE, h'.perm (hp _ _).symm⟩⟩
set_option maxHeartbeats 1000000 in
theorem writeB_any {B bb : Nat} {w : World} {ad v : Value} {l : List UInt8} {C : List Ent} (c : UInt8) (h : Sep B w (bldE bb ad v :: Ent.rowF v l :: C)) (hB : B ≤ w.heap.size) (had : ad = .pointer none ∨ ad = .pointer (some ⟨bb, 0, none⟩)) (hl : l.length + 1 ≤ 140737488355328) :
    Calls Tryz.prog 51 #[.pointer (some ⟨bb, 0, none⟩), .int .u8 (c.toNat : Int)] w fun e w' => e = .returned .nilIface ∧ (∃ v', Sep B w' (bldE bb (.pointer (some ⟨bb, 0, none⟩)) v' :: Ent.rowF v' (l ++ [c]) :: C)) ∧ Below B w w' := by
  have HC := Lib.hid (copy_anyO h had)
  go_enter Tryz.func51, Tryz.ntmps51
  go_wp2_with fail
  refine HC.out.mono ?_
  rintro e w1 ⟨rfl, h1, hb1⟩
  have hB1 : B ≤ w1.heap.size := Nat.le_trans hB hb1.size
  have c2 := (Sep.blkAt (A := []) h1 (j := 1) rfl).1
  have h1n := Sep.blkNew h1 hB1 #[.int .u8 (c.toNat : Int)] 5
  have hq := (Sep.blkAt (A := []) h1n (j := 0) rfl).1
  obtain ⟨v', w2, hr, h2, hb2⟩ := run_append1_rowF (A := [_, _]) h1n (by simp; omega) c _ hq hl
  obtain ⟨d2, f2⟩ := Sep.blkAt (A := [_]) h2 (j := 1) rfl
  have h3 := Sep.blkSet (A := [_]) h2 1 v'
  have hb3 := ((hb1.alloc hB1 _).trans hb2).setCell (p := ⟨bb, 1, none⟩) (Sep.blkLt (A := [_]) h2).1 v'
  obtain ⟨ao, n', cap, rfl⟩ : ∃ ao n' cap, v' = .slice ao n' cap := by
    rcases (h2.mem (A := [_, _])).1 with ⟨hv, _⟩ | ⟨g, cap, cur, fz, hv, _⟩
    · exact ⟨_, _, _, hv⟩
    · exact ⟨_, _, _, hv⟩
  have H3 := Lib.hid h3
  have HB3 := Lib.hid hb3
  have HR := Lib.hid hr
  clear h h1 h1n h2 h3 hb1 hb2 hb3 HC hq hr
  go_wp2_with (at_builtin; refine wpList_append_known rfl _ _ 31 31 rfl _ _ rfl rfl HR.out ?_)
  go_wp2
  go_ret
  exact ⟨rfl, ⟨_, H3.out.sub (List.sublist_cons_self _ _)⟩, HB3.out⟩
/-! ### The loop -/
abbrev rnF (gd bb gc l D gq : Nat) (ad v : Value) (o : Obj) (rest out : List UInt8) (F0 : List Ent) : List Ent :=
  dskE gd bb :: Ent.blk1 gc 9 [.string (bytesOf rest)] :: Ent.raw l o :: Ent.raw D (.deferred (some [])) :: bldE gq ad v :: Ent.rowF v out :: F0
def RnK (B gc l D gd gq : Nat) (F0 : List Ent) (o : Obj) (s : Bk × List UInt8) (rest : List UInt8) (W : World) : Prop :=
  ∃ bb tb ad v, (ad = .pointer none ∨ ad = .pointer (some ⟨gq, 0, none⟩)) ∧ BkM B W bb tb s.1 (rnF gd bb gc l D gq ad v o rest s.2 F0)
def RnJ (B gc l D gd gq : Nat) (F0 : List Ent) (w : World) (o : Obj) (s : Bk × List UInt8) (rest : List UInt8) (W : World) : Prop :=
  FineB s.1 ∧ rest.length ≤ 3000 ∧ s.2.length ≤ 100 * (3000 - rest.length) ∧ RnK B gc l D gd gq F0 o s rest W ∧ Below B w W
def RnJB (B gc l D gd gq : Nat) (F0 : List Ent) (w : World) (o : Obj) (s : Bk × List UInt8) (line rest : List UInt8) (W : World) : Prop :=
  FineB s.1 ∧ rest.length ≤ 3000 ∧ s.2.length + 100 ≤ 100 * (3000 - rest.length) ∧ RnK B gc l D gd gq F0 o s rest W ∧ Below B w W
theorem perm6 (a b c d e f : Ent) (F : List Ent) : (a :: b :: c :: d :: e :: f :: F).Perm (f :: c :: a :: b :: e :: d :: F) :=
  (List.perm_middle (l₁ := [a, b, c, d, e]) (a := f) (l₂ := F)).trans (List.Perm.cons _ ((List.perm_middle (l₁ := [a, b]) (a := c) (l₂ := d :: e :: F)).trans (List.Perm.cons _ (List.Perm.cons _ (List.Perm.cons _ (List.Perm.swap _ _ _))))))
theorem rnPut {B gc l D gd gq : Nat} {F0 : List Ent} {w W : World} {o : Obj} {s : Bk × List UInt8} {rest : List UInt8} (o' : Obj) (h : RnK B gc l D gd gq F0 o s rest W) (hb : Below B w W) : RnK B gc l D gd gq F0 o' s rest (W.putObj l o') ∧ Below B w (W.putObj l o') := by
  obtain ⟨bb, tb, ad, v, had, h2⟩ := h
  obtain ⟨h4, h5⟩ := BkS.rawSet (A := [_, _]) o' h2 hb
  exact ⟨⟨bb, tb, ad, v, had, h4⟩, h5⟩
theorem rnRaw {B gc l D gd gq : Nat} {F0 : List Ent} {W : World} {o : Obj} {s : Bk × List UInt8} {rest : List UInt8} (h : RnK B gc l D gd gq F0 o s rest W) : W.heap[l]? = some o := by
  obtain ⟨bb, tb, ad, v, had, h2⟩ := h
  exact BkS.rawMem h2 (by simp)
def rnStep (s : Bk × List UInt8) (line : List UInt8) : (Bk × List UInt8) ⊕ Unit := .inl (dskStep s line)
set_option maxHeartbeats 4000000 in
theorem deskRun_short (B : Nat) (F0 : List Ent) (text : List UInt8) (hlen : text.length ≤ 3000) (w : World) (hB : B ≤ w.heap.size) (hs : Sep B w F0) (hW : DskW B w) :
    CallsIn Fence.wide 5 Tryz.prog 24 #[.string (bytesOf text)] w fun e w' => e = .returned (.string (bytesOf (sesD (bk0, []) (linesOf text)).2)) ∧ Below B w w' ∧ (sesD (bk0, []) (linesOf text)).2.length ≤ 300000 := by
  have hro : Fence.wide.round = none := rfl
  refine callsIn_of_wp_marks Tryz.func24 rfl trivial ?_ hro
  simp only [Tryz.ntmps24, List.size_toArray, List.length_cons, List.length_nil, Nat.reduceAdd, Nat.reduceSub, Array.replicate_succ, Array.replicate_zero, List.push_toArray, List.append_toArray, List.nil_append, List.cons_append]
  refine wpIn_wide.2 ?_
  have hd : decide ((3000 : Int) < (text.length : Int)) = false := decide_eq_false (by omega)
  have hsz : (bytesOf text).size = text.length := rfl
  have HNEW := Lib.hid (bookNew_any B F0 w hB hs)
  have HW := Lib.hid hW
  clear hs hW
  go_wp2_with fail
  refine HNEW.out.mono ?_
  rintro e w1 ⟨bb, tb, rfl, ht, hb⟩
  have HT1 := Lib.hid ht
  have HB1 := Lib.hid hb
  have hz1 : B ≤ w1.heap.size := Nat.le_trans hB HB1.out.size
  clear ht hb HNEW
  have hx := BkS.box HT1.out hz1 #[.pointer (some ⟨bb, 0, none⟩)] 93
  obtain ⟨w2, hw2⟩ : ∃ w2, w2 = w1.alloc (.cells #[.pointer (some ⟨bb, 0, none⟩)] 93) := ⟨_, rfl⟩
  obtain ⟨gd, hgd⟩ : ∃ x, x = w1.heap.size := ⟨_, rfl⟩
  rw [← hw2, ← hgd] at hx
  have hb2 : Below B w w2 := by rw [hw2]; exact HB1.out.alloc hz1 _
  have hz2 : B ≤ w2.heap.size := Nat.le_trans hB hb2.size
  have hx2 := BkS.box hx hz2 #[.pointer none, .slice none 0 0] 48
  obtain ⟨w3, hw3⟩ : ∃ w3, w3 = w2.alloc (.cells #[.pointer none, .slice none 0 0] 48) := ⟨_, rfl⟩
  obtain ⟨gq, hgq⟩ : ∃ x, x = w2.heap.size := ⟨_, rfl⟩
  rw [← hw3, ← hgq] at hx2
  have hb3 : Below B w w3 := by rw [hw3]; exact hb2.alloc hz2 _
  have hz3 : B ≤ w3.heap.size := Nat.le_trans hB hb3.size
  have HT3 := Lib.hid (BkS.push (E := Ent.rowF (.slice none 0 0) []) hx2 (fun L0 h => h.rowFNil))
  have HB3 := Lib.hid hb3
  have HW2 := Lib.hid hw2
  have HW3 := Lib.hid hw3
  have HGD := Lib.hid hgd
  have hgq2 : gq = gd + 1 := by rw [hgq, hw2, hgd]; simp
  have HGQ := Lib.hid hgq2
  clear hx hx2 hw2 hw3 hgd hgq hgq2 hb2 hb3 HT1 HB1 hz1
  go_upto_region 5 with fail
  rw [← HW2.out, ← HGD.out]
  rw [← HW3.out, ← HGQ.out]
  clear HW2 HW3
  go_wp2_with fail
  refine (linesFn_any (bytesOf text) w3).mono ?_
  rintro e w4 ⟨rfl, hw4⟩
  have hx := BkS.box HT3.out hz3 #[.string (bytesOf text)] 9
  obtain ⟨gc, hgc⟩ : ∃ x, x = w3.heap.size := ⟨_, rfl⟩
  rw [← hw4, ← hgc] at hx
  have HT4 := Lib.hid hx
  have HB4 := Lib.hid (show Below B w w4 by rw [hw4]; exact HB3.out.alloc hz3 _)
  have hz4 : B ≤ w4.heap.size := Nat.le_trans hB HB4.out.size
  rw [← hgc]
  clear hx hw4 hgc HT3 HB3 hz3 hz2 HGD HGQ
  go_wp2
  refine wp_lines2 (σ := Bk × List UInt8) (τ := Unit) rnStep (fun _ => ⟨false, 0⟩) 3000 gc rfl (RnJ B gc (w4.heap.size + 1) w4.heap.size gd gq F0 w) (RnJB B gc (w4.heap.size + 1) w4.heap.size gd gq F0 w) (fun _ _ _ => False) ?hobj ?hobjb ?hobjx ?hput ?hputb ?hputx ?hcell ?hset ?hdrew (bk0, []) text hlen (by decide) ?h0
    (fun line => { tmps := #[.string (bytesOf text), undef, .string ⟨#[]⟩, .pointer (some ⟨gd, 0, none⟩), .pointer (some ⟨gq, 0, none⟩), .string (bytesOf line), .string (bytesOf text), .int .i64 text.length, .bool false, .pointer (some ⟨bb, 0, none⟩), .agg #[.pointer (some ⟨bb, 0, none⟩)], .string (bytesOf text), .func (Fn.func 57) #[] #[.pointer (some ⟨gc, 0, none⟩)], .string (bytesOf line), undef, undef, undef, undef, undef, undef], defers := [] }) ?hassign ?hbody ?hdone ?hstop
  case hobj =>
    rintro o s rest W ⟨-, -, -, h, -⟩
    exact rnRaw h
  case hobjb =>
    rintro o s line rest W ⟨-, -, -, h, -⟩
    exact rnRaw h
  case hobjx => rintro o t W h; exact h.elim
  case hput =>
    rintro o o' s rest W ⟨h1, h2, h3, h4, h5⟩
    obtain ⟨h6, h7⟩ := rnPut o' h4 h5
    exact ⟨h1, h2, h3, h6, h7⟩
  case hputb =>
    rintro o o' s line rest W ⟨h1, h2, h3, h4, h5⟩
    obtain ⟨h6, h7⟩ := rnPut o' h4 h5
    exact ⟨h1, h2, h3, h6, h7⟩
  case hputx => rintro o o' t W h; exact h.elim
  case hcell =>
    rintro o s rest W ⟨-, -, -, ⟨bb, tb, ad, v, had, h⟩, -⟩
    exact (BkS.mem h (g := gc) (e := 9) (cs := [.string (bytesOf rest)]) (by simp)).1 0 _ rfl
  case hset =>
    rintro o s rest line rest' W hrest hne ⟨h1, h2, h3, ⟨bb, tb, ad, v, had, h⟩, h5⟩
    obtain ⟨h6, h7⟩ := BkS.cellSet (A := [_]) 0 (.string (bytesOf rest')) h h5
    have h8 : 0 < line.length := List.length_pos_iff.2 hne
    rw [hrest, List.length_append] at h2 h3
    exact ⟨h1, by omega, by omega, ⟨bb, tb, ad, v, had, h6⟩, h7⟩
  case hdrew =>
    rintro o s rest W ⟨h1, h2, h3, ⟨bb, tb, ad, v, had, h⟩, h5⟩
    exact ⟨h1, h2, h3, ⟨bb, tb, ad, v, had, BkS.kept h (below_drew _ _)⟩, h5.drew⟩
  case h0 =>
    intro o
    have k1 := BkS.boxRaw HT4.out hz4 (.deferred (some []))
    have k2 := BkS.boxRaw k1 (by simp; omega) o
    rw [show (w4.alloc (.deferred (some []))).heap.size = w4.heap.size + 1 by simp] at k2
    exact ⟨FineB.start, hlen, Nat.zero_le _, ⟨bb, tb, _, _, .inl rfl, BkS.perm k2 (perm6 ..)⟩, (HB4.out.alloc hz4 _).alloc (by simp; omega) _⟩
  case hassign =>
    intro l line W K hK
    simp only [List.setIfInBounds_toArray, List.set_cons_zero, List.set_cons_succ]
    gi_wp2
    exact hK
  case hbody =>
    intro l o s rest line W hl2 hJ
    obtain ⟨hf, hrl, hol, ⟨bb2, tb2, ad, v, had, hbk⟩, hbel⟩ := hJ
    have hzW : B ≤ W.heap.size := Nat.le_trans hB hbel.size
    have hts : Calls Tryz.prog 50 #[.string (bytesOf line), .string ⟨#[10]⟩] W fun e w' => e = .returned (.string (bytesOf (Lib.trimSuffix line [10]))) ∧ w' = W := shelf_strings_TrimSuffix (bytesOf line) ⟨#[10]⟩ W (by show line.length ≤ _; omega)
    obtain ⟨ln, hln⟩ : ∃ ln, ln = Lib.trimSuffix line [10] := ⟨_, rfl⟩
    rw [← hln] at hts
    have hlnl : ln.length ≤ 10000 := by
      have : (Lib.trimSuffix line [10]).length ≤ line.length := by
        unfold Lib.trimSuffix
        split <;> simp
      rw [hln]; omega
    have hline := dskLine_any B bb2 tb2 gd s.1 _ ln W hzW hbk hf.2.1 (HW.out.below hbel) hlnl
    have hal := ans_len hbk hf ln
    obtain ⟨hn10, hane⟩ := ansD_no10 s.1 ln
    have hf2 := hf.ans ln
    have hst : rnStep s line = .inl ((ansD s.1 ln).1, s.2 ++ (ansD s.1 ln).2 ++ [10]) := by unfold rnStep dskStep; rw [← hln]
    rw [hst]
    obtain ⟨R, hR⟩ : ∃ R, R = ansD s.1 ln := ⟨_, rfl⟩
    rw [← hR] at hline hal hane hf2 ⊢
    have HTS := Lib.hid hts
    have HLINE := Lib.hid hline
    have HF2 := Lib.hid hf2
    have HBL := Lib.hid hbel
    have hpos : 0 < (bytesOf R.2).size := List.length_pos_iff.2 hane
    have hsz2 : (bytesOf R.2).size = R.2.length := rfl
    have HPOS := Lib.hid (And.intro hpos (And.intro hsz2 (And.intro hal (And.intro hol hrl))))
    have HAD := Lib.hid had
    clear hts hline hf2 hbel hal hn10 hane hst hR hf hbk hln hpos hsz2 hol hrl had hlnl
    gi_wp2_with (refine ⟨trivial, ?_⟩; gi_at_call 50; refine (CallsIn.inRound l (callsIn_wide.2 HTS.out)).mono ?_; rintro e w' ⟨rfl, hw⟩; rw [hw]; clear hw)
    refine ⟨trivial, ?_⟩
    refine (CallsIn.inRound l (callsIn_wide.2 HLINE.out)).mono ?_
    rintro e w5 ⟨rfl, ⟨bb3, tb3, hk5⟩, -, hb5⟩
    have HB5 := Lib.hid (HBL.out.trans hb5)
    have hz5 : B ≤ w5.heap.size := Nat.le_trans hB HB5.out.size
    obtain ⟨C, hC, hback⟩ := outCall (P := [_, _, _, _]) hk5
    obtain ⟨p1, p2, p3, p4, p5⟩ := HPOS.out
    have HWS := Lib.hid (write_anyO (bytesOf R.2) hC hz5 HAD.out p1 (by rw [p2]; omega))
    have HBACK := Lib.hid hback
    clear hk5 hb5 hC hback p1 p2 p3 p4 p5 HLINE HBL
    gi_wp2_with fail
    refine ⟨trivial, ?_⟩
    refine (CallsIn.inRound l (callsIn_wide.2 HWS.out)).mono ?_
    rintro e w6 ⟨⟨nn, rfl⟩, ⟨v6, hs6⟩, hb6⟩
    have HB6 := Lib.hid (HB5.out.trans hb6)
    have hz6 : B ≤ w6.heap.size := Nat.le_trans hB HB6.out.size
    have hwb := writeB_any 10 hs6 hz6 (.inr rfl) (by
      obtain ⟨p1, p2, p3, p4, p5⟩ := HPOS.out
      simp only [List.length_append, bytes_len]
      omega)
    have HWB := Lib.hid (show Calls Tryz.prog 51 #[.pointer (some ⟨gq, 0, none⟩), .int .u8 10] w6 _ from hwb)
    clear hs6 hb6 hwb HWS HB5
    gi_wp2_with fail
    refine ⟨trivial, ?_⟩
    refine (CallsIn.inRound l (callsIn_wide.2 HWB.out)).mono ?_
    rintro e w7 ⟨rfl, ⟨v7, hs7⟩, hb7⟩
    have hk7 := HBACK.out w7 _ v7 _ hs7
    rw [show s.2 ++ (bytesOf R.2).data.toList ++ [10] = s.2 ++ (R.2 ++ [10]) by simp [bytesOf]] at hk7
    have HK7 := Lib.hid hk7
    have HB7 := Lib.hid (HB6.out.trans hb7)
    clear hk7 hs7 hb7 HBACK HWB HB6
    gi_wp2
    obtain ⟨p1, p2, p3, p4, p5⟩ := HPOS.out
    refine ⟨HF2.out, p5, ?_, ⟨bb3, tb3, _, v7, .inr rfl, ?_⟩, HB7.out⟩
    · simp only [List.length_append, List.length_cons, List.length_nil]
      omega
    · exact HK7.out
  case hdone =>
    rintro o s W hrun ⟨hf, hrl, hol, ⟨bb2, tb2, ad, v, had, hbk⟩, hbel⟩
    have hse : s = sesD (bk0, []) (linesOf text) := by
      have h1 := runL_fold (τ := Unit) dskStep (linesOf text) (bk0, [])
      have h2 : (Sum.inl s : (Bk × List UInt8) ⊕ Unit) = .inl (sesD (bk0, []) (linesOf text)) := hrun.symm.trans h1
      exact Sum.inl.inj h2
    obtain ⟨C, hC, hback⟩ := outCall (P := [_, _, _, _]) hbk
    have HSE := Lib.hid hse
    have HST := Lib.hid (string_anyO hC)
    have HBACK := Lib.hid hback
    have HBL := Lib.hid hbel
    have HOL := Lib.hid (show s.2.length ≤ 300000 from hol)
    clear hrun hf hrl hol hbk hbel hse hC hback had
    go_wp2_with fail
    refine HST.out.mono ?_
    rintro e w5 ⟨rfl, hs5, hb5⟩
    have hk5 := HBACK.out w5 _ _ _ hs5
    have hD : w5.heap[w4.heap.size]? = some (.deferred (some [])) := BkS.rawMem hk5 (by simp)
    have HKF := Lib.hid hk5
    have HB5 := Lib.hid (HBL.out.trans hb5)
    clear hs5 hb5 hk5 HBACK HST HBL
    go_wp2
    refine ⟨by simp, .inl ⟨_, _, rfl, run_takeDeferred hD, ?_⟩⟩
    refine ⟨.string (bytesOf s.2), by simp [results, Tryz.results24, go_sem], ?_⟩
    rw [← HSE.out]
    obtain ⟨-, hbf⟩ := BkS.rawSet (A := [_, _, _]) (.deferred none) HKF.out HB5.out
    exact ⟨rfl, hbf, HOL.out⟩
  case hstop => rintro o t W hrun h; exact h.elim
set_option maxHeartbeats 1000000 in
theorem run_long (text : List UInt8) (hlen : 3000 < text.length) (w : World) :
    Calls Tryz.prog 24 #[.string (bytesOf text)] w fun e w' => e = .returned (.string (bytesOf tooT)) ∧ w' = w := by
  have hd : decide ((3000 : Int) < (text.length : Int)) = true := decide_eq_true (by omega)
  have hsz : (bytesOf text).size = text.length := rfl
  go_enter Tryz.func24, Tryz.ntmps24
  go_wp2
  go_ret
  exact ⟨rfl, rfl⟩
/-- desk.Run. -/
theorem run_any {B : Nat} (text : List UInt8) (w : World) (hB : B ≤ w.heap.size) (hW : DskW B w) :
    Calls Tryz.prog 24 #[.string (bytesOf text)] w fun e w' => e = .returned (.string (bytesOf (runD text))) ∧ Below w.heap.size w w' ∧ (text.length ≤ 3000 → (runD text).length ≤ 300000) := by
  unfold runD
  by_cases h : 3000 < text.length
  · rw [if_pos h]
    refine (run_long text h w).mono ?_
    rintro e w' ⟨rfl, rfl⟩
    exact ⟨rfl, Below.refl _ _, fun h2 => by omega⟩
  · rw [if_neg h]
    refine (callsIn_wide.1 (deskRun_short w.heap.size [] text (by omega) w (Nat.le_refl _) (Sep.nil _ _) (DskW.of hW.door hW.lib))).mono ?_
    rintro e w' ⟨rfl, hb, hl⟩
    exact ⟨rfl, hb, fun _ => hl⟩
end Go.Proofs.YtbcfcjecobihnaaGreatDoor
