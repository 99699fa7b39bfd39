/- ferryhytheref4.Session. -/
import Derived.Test.YtbcfcjecobihnaaGreatDoorRtAnsA
import Derived.Test.YtbcfcjecobihnaaGreatDoorDskRun
namespace Go.Proofs.YtbcfcjecobihnaaGreatDoor
open Go.RowKit
set_option linter.unusedVariables false
set_option linter.unusedSimpArgs false
set_option maxRecDepth 100000

theorem ans_len2 {b : Bk} (hf : FineB b) (s : List UInt8) : (ansD b s).2.length ≤ 60 := by
  have hL := hf.all.1
  unfold ansD verbD
  split
  · show badT.length ≤ 60
    decide
  · split
    · have := errT_len (bkSet b (numV ((cutL 32 s).tail.getD 0 [])) (numV ((cutL 32 s).tail.getD 1 [])) (numV ((cutL 32 s).tail.getD 2 []))).2
      show (errT _).length ≤ 60
      omega
    · split
      · have := errT_len (bkDrop b (numV ((cutL 32 s).tail.getD 0 [])) (numV ((cutL 32 s).tail.getD 1 []))).2
        show (errT _).length ≤ 60
        omega
      · split
        · show (findA b _).length ≤ 60
          unfold findA
          split
          · rename_i hz
            obtain ⟨p, k, e, hp, hk⟩ := findR_all hf.all _ hz
            rw [e]
            have h1 := digits_len p (by omega)
            have h2 := digits_len k (by omega)
            simp only [Int.toNat_natCast, List.length_append, List.length_cons]
            omega
          · have := errT_len (findR b.1 (numV ((cutL 32 s).tail.getD 0 []))).2.2
            omega
        · split
          · have h1 := digits_len b.1.length (by omega)
            show (Lib.decDigits b.1.length).length ≤ 60
            omega
          · split
            · obtain ⟨-, h2, O, h3⟩ := hf
              obtain ⟨k, o, e1, e2, e3, e4⟩ := crash_open h3 h2 (numV ((cutL 32 s).tail.getD 0 [])).toNat
              unfold crashD
              rw [e2]
              have h5 := digits_len k (by have := h2.2; omega)
              have h6 : foundT.length = 6 := rfl
              simp only [List.length_append]
              omega
            · show badT.length ≤ 60
              decide
/-- Where a session stands. -/
def SesAt (t : List UInt8) (fr : Nat) (b : Bk) (out : List UInt8) : Prop :=
  FineB b ∧ out.length ≤ 100 * fr ∧ fr ≤ t.length + 1 ∧ (sesD (bk0, []) (linesOf t)).2 = (sesD (b, out) (linesOf (t.drop fr))).2
theorem SesAt.start (t : List UInt8) : SesAt t 0 bk0 [] := ⟨FineB.start, Nat.le_refl _, Nat.zero_le _, rfl⟩
theorem SesAt.fin {t : List UInt8} {fr : Nat} {b : Bk} {out : List UInt8} (h : SesAt t fr b out) (hf : t.length ≤ fr) : (sesD (bk0, []) (linesOf t)).2 = out := by
  rw [h.2.2.2, List.drop_of_length_le hf]; rfl
theorem trim_none {l : List UInt8} (h : ∀ k : Nat, l[k]? ≠ some 10) : Lib.trimSuffix l [10] = l := by
  unfold Lib.trimSuffix
  rw [if_neg]
  intro hs
  unfold Lib.hasSuffix at hs
  rw [List.isSuffixOf_iff_suffix] at hs
  obtain ⟨x, hx⟩ := hs
  refine h x.length ?_
  rw [← hx, List.getElem?_append_right (Nat.le_refl _), Nat.sub_self]; rfl
theorem SesAt.next {t : List UInt8} {fr i : Nat} {b : Bk} {out : List UInt8} (h : SesAt t fr b out) (hfl : fr < t.length) (h1 : fr ≤ i) (h2 : i ≤ t.length) (h3 : ∀ k : Nat, fr ≤ k → k < i → t[k]? ≠ some 10) (h4 : i = t.length ∨ t[i]? = some 10) :
    SesAt t (i + 1) (ansD b ((t.take i).drop fr)).1 (out ++ (ansD b ((t.take i).drop fr)).2 ++ [10]) := by
  obtain ⟨k1, k2, k3, k4⟩ := h
  have hal := ans_len2 k1 ((t.take i).drop fr)
  refine ⟨k1.ans _, ?_, by omega, ?_⟩
  · simp only [List.length_append, List.length_cons, List.length_nil]
    omega
  · rw [k4]
    by_cases hi : i = t.length
    · have e1 : (t.take i).drop fr = t.drop fr := by rw [hi, List.take_of_length_le (Nat.le_refl _)]
      have hno : ∀ k : Nat, (t.drop fr)[k]? ≠ some 10 := fun k hk => by
        rw [List.getElem?_drop] at hk
        have hl : fr + k < t.length := (List.getElem?_eq_some_iff.1 hk).1
        exact h3 (fr + k) (by omega) (by omega) hk
      have hne : t.drop fr ≠ [] := by
        intro e
        have := congrArg List.length e
        rw [List.length_drop, List.length_nil] at this; omega
      rw [linesOf_none hne hno, e1, List.drop_of_length_le (show t.length ≤ i + 1 by omega)]
      show (dskStep (b, out) (t.drop fr)).2 = _
      unfold dskStep
      rw [trim_none hno]
      rfl
    · have h5 : t[i]? = some 10 := h4.resolve_left hi
      have hh := linesOf_hit (l := t.drop fr) (i := i - fr) (by rw [List.getElem?_drop, show fr + (i - fr) = i by omega]; exact h5) (fun k hk => by rw [List.getElem?_drop]; exact h3 (fr + k) (by omega) (by omega))
      have e1 : (t.drop fr).take (i - fr + 1) = (t.take i).drop fr ++ [10] := by
        rw [List.take_add_one, List.getElem?_drop, show fr + (i - fr) = i by omega, h5, List.drop_take]; rfl
      rw [hh, e1, List.drop_drop, show fr + (i - fr + 1) = i + 1 by omega]
      show (sesD (dskStep (b, out) ((t.take i).drop fr ++ [10])) (linesOf (t.drop (i + 1)))).2 = _
      unfold dskStep
      rw [trim_line]

abbrev sesE (gs : Nat) (sp : Value) (b : Bk) (F : List Ent) : List Ent := rteE sp b.1 :: Ent.blk1 gs 56 (bkC sp (bkT b.2.1) (b.2.2 : Int)) :: F
set_option maxHeartbeats 8000000 in
theorem refSes_in (B : Nat) (F : List Ent) (t : List UInt8) (hlen : t.length ≤ 3000) (w : World) (hB : B ≤ w.heap.size) (hs : Sep B w F) :
    Calls Tryz.prog 25 #[.string (bytesOf t)] w fun e w' => e = .returned (.string (bytesOf (sesD (bk0, []) (linesOf t)).2)) ∧ Below B w w' := by
  obtain ⟨tb, htb⟩ : ∃ tb, tb = bytesOf t := ⟨_, rfl⟩
  obtain ⟨L, hL⟩ : ∃ L, L = t.length := ⟨_, rfl⟩
  have hsz : tb.size = L := by rw [htb, hL]; rfl
  have hd : decide ((3000 : Int) < (L : Int)) = false := decide_eq_false (by omega)
  have HAT := Lib.hid (fun (j : Nat) (c : UInt8) (h : t[j]? = some c) => (show tb[j]? = some c by rw [htb]; exact bytes_at h))
  have HEX := Lib.hid (fun a b => (show tb.extract a b = bytesOf ((t.take b).drop a) by rw [htb]; exact ext_mid t a b))
  have HL := Lib.hid hL
  have h1 := hs.blkNew hB #[.slice none 0 0, .string ⟨#[]⟩, .int .i64 0] 56
  have hb := (Below.refl B w).alloc hB (.cells #[.slice none 0 0, .string ⟨#[]⟩, .int .i64 0] 56)
  obtain ⟨w1, hw1⟩ : ∃ w1, w1 = w.alloc (.cells #[.slice none 0 0, .string ⟨#[]⟩, .int .i64 0] 56) := ⟨_, rfl⟩
  obtain ⟨gs, hgs⟩ : ∃ gs, gs = w.heap.size := ⟨_, rfl⟩
  rw [← hw1, ← hgs] at h1
  rw [← hw1] at hb
  have HS1 := Lib.hid (show Sep B w1 (sesE gs (.slice none 0 0) bk0 F) from h1.rowNil 3 40)
  have HB1 := Lib.hid hb
  have HW := Lib.hid hw1
  have HGS := Lib.hid hgs
  rw [← htb]
  rw [← hL] at hlen
  clear htb hL h1 hb hw1 hgs hs
  go_enter Tryz.func25, Tryz.ntmps25
  go_upto_region 4 with fail
  rw [← HW.out, ← HGS.out]
  clear HW HGS
  go_wp2
  go_loopg [4, 5] (L + 1) (fun gk ov iv wr => ∃ (fr : Nat) (b : Bk) (sp : Value) (out : List UInt8), gk + fr = L + 1 ∧ iv = .int .i64 fr ∧ ov = .string (bytesOf out) ∧ Hid (SesAt t fr b out) ∧ Sep B wr (sesE gs sp b F) ∧ Below B w wr)
  case atStart => exact ⟨0, bk0, _, [], rfl, rfl, rfl, SesAt.start t, HS1.out, HB1.out⟩
  case round =>
    obtain ⟨gi, hgi0⟩ : ∃ gi, gi = gk := ⟨_, rfl⟩
    obtain ⟨fr, b, sp, out, hgk, rfl, rfl, HST, hsp, hbel⟩ := hrel
    have HGK := Lib.hid (And.intro hgi0 hgk)
    obtain ⟨spo, spc, rfl, -⟩ := rte_shape (A := []) hsp
    have HS2 := Lib.hid hsp
    have HB2 := Lib.hid hbel
    obtain ⟨ob, hob⟩ : ∃ ob, ob = bytesOf out := ⟨_, rfl⟩
    have hobs : ob.size ≤ 400000 := by
      rw [hob]
      show out.length ≤ 400000
      have h1 := HST.out.2.1
      omega
    have HOB := Lib.hid hob
    rw [← hob]
    clear hob hsp hbel HS1 HB1 hgi0
    by_cases hlt : fr < L
    · have hfl1 : decide ((fr : Int) < (L : Int)) = true := decide_eq_true (by omega)
      have hfl2 : decide (fr < L) = true := decide_eq_true hlt
      have hflt : fr < t.length := by rw [← HL.out]; exact hlt
      have HFL := Lib.hid hflt
      have HGF := Lib.hid hgk
      clear hgk hlt hflt
      go_wp2
      go_loopg [6] L (fun gk iv wr => ∃ (i : Nat), gk + i = L + fr ∧ fr ≤ i ∧ i ≤ L ∧ iv = .int .i64 i ∧ Hid (∀ k : Nat, fr ≤ k → k < i → t[k]? ≠ some 10) ∧ Sep B wr (sesE gs (.slice spo b.1.length spc) b F) ∧ Below B w wr)
      case atStart => exact ⟨fr, by omega, Nat.le_refl _, by have := HFL.out; have := HL.out; omega, rfl, fun k h1 h2 => by omega, HS2.out, HB2.out⟩
      case round =>
        obtain ⟨gj, hgj0⟩ : ∃ gj, gj = gk := ⟨_, rfl⟩
        obtain ⟨i, hgk, hfi, hil0, rfl, HNOK, hsp, hbel⟩ := hrel
        obtain ⟨w3, hw3⟩ : ∃ w3, w3 = wr := ⟨_, rfl⟩
        obtain rfl := hw3
        have HS3 := Lib.hid hsp
        have HB3 := Lib.hid hbel
        have hno := HNOK.out
        have hfl := HFL.out
        have hil : i ≤ t.length := by have := HL.out; omega
        clear hsp hbel HS2 HB2
        rcases Nat.lt_or_ge i L with hlt | hge
        · obtain ⟨c, hc⟩ : ∃ c, t[i]? = some c := ⟨_, List.getElem?_eq_getElem (by rw [← HL.out]; exact hlt)⟩
          have hjs : i < tb.size := by omega
          have hte := byte_at (HAT.out i c hc) hjs
          have hij : decide ((i : Int) < (L : Int)) = true := decide_eq_true (by omega)
          have hij2 : decide (i < L) = true := decide_eq_true hlt
          have hi0 : (0 : Int) ≤ (i : Int) := by omega
          have hiLt : (i : Int) < (L : Int) := by omega
          by_cases hc10 : c = 10
          · subst hc10
            have hcn : (((10 : UInt8).toNat : Int) != 10) = false := by decide
            have hend : i = t.length ∨ t[i]? = some 10 := .inr hc
            clear hlt hgk hgj0 hc HNOK
            have HNX := Lib.hid (HST.out.next hfl hfi hil hno hend)
            obtain ⟨ln, hln⟩ : ∃ ln, ln = (t.take i).drop fr := ⟨_, rfl⟩
            have hex := HEX.out fr i
            have hlnl : ln.length ≤ 10000 := by rw [hln, List.length_drop, List.length_take]; omega
            rw [← hln] at HNX hex
            have hAns := fun (w4 : World) (F' : List Ent) (h1 : Sep B w4 (rteE (.slice spo b.1.length spc) b.1 :: F')) (h2 : B ≤ w4.heap.size) => refAns_any B (.slice spo b.1.length spc) b F' ln w4 h1 h2 hlnl HST.out.1
            have hal := ans_len2 HST.out.1 ln
            obtain ⟨r, hr⟩ : ∃ r, r = ansD b ln := ⟨_, rfl⟩
            rw [← hr] at HNX hAns hal
            have HANS := Lib.hid hAns
            have HR := Lib.hid (And.intro hr hal)
            have hfr0 : (0 : Int) ≤ (fr : Int) := by omega
            have hfiI : (fr : Int) ≤ (i : Int) := by omega
            have hiL : (i : Int) ≤ (L : Int) := by omega
            have hiLn : i ≤ L := by omega
            have HMS := Lib.hid (And.intro hfi (And.intro hil (And.intro hfl HL.out)))
            have hstat : ∀ w', Sep B w' [Ent.blk1 gs 56 (bkC (.slice spo b.1.length spc) (bkT b.2.1) (b.2.2 : Int))] → w'.cell? ⟨gs, 0, none⟩ = some (.slice spo b.1.length spc) ∧ w'.cell? ⟨gs, 1, none⟩ = some (.string (bkT b.2.1)) ∧ w'.cell? ⟨gs, 2, none⟩ = some (.int .i64 (b.2.2 : Int)) := fun w' h =>
              ⟨(Sep.blkAt (A := []) h (j := 0) rfl).1, (Sep.blkAt (A := []) h (j := 1) rfl).1, (Sep.blkAt (A := []) h (j := 2) rfl).1⟩
            have HSTAT := Lib.hid hstat
            clear hstat hAns hr hal hln hlnl hfl hfi hil hno hend HST
            go_upto_region 10 with fail
            obtain ⟨w4, hw4⟩ : ∃ w4, w4 = w3.drew := ⟨_, rfl⟩
            have HS4 := Lib.hid (show Sep B w4 (sesE gs (.slice spo b.1.length spc) b F) by rw [hw4]; exact HS3.out.drew)
            have HB4 := Lib.hid (show Below B w w4 by rw [hw4]; exact HB3.out.drew)
            have hg4 : B ≤ w4.heap.size := Nat.le_trans hB HB4.out.size
            have HST4 := Lib.hid (HSTAT.out w4 (HS4.out.sub (List.Sublist.cons _ (List.Sublist.cons_cons _ (List.nil_sublist _)))))
            refine wp_region_held_drew (S := fun w' => w'.cell? ⟨gs, 0, none⟩ = some (.slice spo b.1.length spc) ∧ w'.cell? ⟨gs, 1, none⟩ = some (.string (bkT b.2.1)) ∧ w'.cell? ⟨gs, 2, none⟩ = some (.int .i64 (b.2.2 : Int))) (by kernel_rfl) (by simp only [← hw4]; exact HST4.out) (fun hHeld => ?_)
            rw [← hw4] at hHeld ⊢
            clear hw4 HS3 HB3 HST4
            refine wpAnyH_take (i := 0) (v := ?vpa0) rfl (by kernel_rfl) (by kernel_rfl) (by kernel_rfl) (fun _ _ _ h => h) (Or.inl ⟨by rfl, ?hypa0⟩) (by assumption) ?restpa0
            case hypa0 =>
              intro w hSw
              try dsimp only at hSw
              go_simp
              try with_reducible rfl
            try simp only [Act.put, List.setIfInBounds_toArray, List.set_cons_zero, List.set_cons_succ, List.getElem_toArray, List.getElem_cons_zero]
            refine wpAnyH_take (i := 1) (v := ?vpa1) rfl (by kernel_rfl) (by kernel_rfl) (by kernel_rfl) (fun _ _ _ h => h) (Or.inl ⟨by rfl, ?hypa1⟩) (by assumption) ?restpa1
            case hypa1 =>
              intro w hSw
              try dsimp only at hSw
              go_simp
              try with_reducible rfl
            try simp only [Act.put, List.setIfInBounds_toArray, List.set_cons_zero, List.set_cons_succ, List.getElem_toArray, List.getElem_cons_zero, List.getElem_cons_succ]
            refine wpAnyH_take (i := 2) (v := ?vpa2) rfl (by kernel_rfl) (by kernel_rfl) (by kernel_rfl) (fun _ _ _ h => h) (Or.inl ⟨by rfl, ?hypa2⟩) (by assumption) ?restpa2
            case hypa2 =>
              intro w hSw
              try dsimp only at hSw
              go_simp
              try with_reducible rfl
            try simp only [Act.put, List.setIfInBounds_toArray, List.set_cons_zero, List.set_cons_succ, List.getElem_toArray, List.getElem_cons_zero, List.getElem_cons_succ]
            refine wpAnyH_take (i := 3) (v := ?vpa3) rfl (by kernel_rfl) (by kernel_rfl) (by kernel_rfl) (fun _ _ _ h => h) (Or.inl ⟨by rfl, ?hypa3⟩) (by assumption) ?restpa3
            case hypa3 =>
              intro w hSw
              try dsimp only at hSw
              go_simp
              try with_reducible rfl
            try simp only [Act.put, List.setIfInBounds_toArray, List.set_cons_zero, List.set_cons_succ, List.getElem_toArray, List.getElem_cons_zero, List.getElem_cons_succ]
            refine wpAnyH_take (i := 4) (v := ?vpa4) rfl (by kernel_rfl) (by kernel_rfl) (by kernel_rfl) (fun _ _ _ h => h) (Or.inl ⟨by rfl, ?hypa4⟩) (by assumption) ?restpa4
            case hypa4 =>
              intro w hSw
              try dsimp only at hSw
              go_simp
              try with_reducible rfl
            try simp only [Act.put, List.setIfInBounds_toArray, List.set_cons_zero, List.set_cons_succ, List.getElem_toArray, List.getElem_cons_zero, List.getElem_cons_succ]
            refine wpAnyH_ready (rs := [5, 9]) (by kernel_rfl) (by simp) ?_
            refine AllReadyH.cons rfl (fun K hK => ?_) (AllReadyH.cons rfl (fun K hK => ?_) AllReadyH.nil)
            · go_simp
              go_at_call 52
              refine (HANS.out w4 _ HS4.out hg4).mono ?_
              rintro e w5 ⟨sp', rfl, hs5, hb5⟩
              obtain ⟨ao', N', cap', rfl⟩ : ∃ a n c, sp' = .slice a n c := by
                obtain ⟨a', c', e, -⟩ := rte_shape (A := []) hs5
                exact ⟨a', _, c', e⟩
              have HS5 := Lib.hid hs5
              have HB5 := Lib.hid (HB4.out.trans hb5)
              have hg5 : B ≤ w5.heap.size := Nat.le_trans hB HB5.out.size
              have HST5 := Lib.hid (HSTAT.out w5 (hs5.sub (List.Sublist.cons _ (List.Sublist.cons_cons _ (List.nil_sublist _)))))
              clear hs5 hb5 HS4 HB4 HANS hg4
              go_wp2_with fail
              refine hK.out _ _ ?_ (fun hHeld5 => ?_)
              · exact HST5.out
              clear hK K
              try simp only [Act.put, List.setIfInBounds_toArray, List.set_cons_zero, List.set_cons_succ, List.getElem_toArray, List.getElem_cons_zero, List.getElem_cons_succ]
              refine wpAnyH_take (i := 6) (v := ?vpb6) rfl (by kernel_rfl) (by kernel_rfl) (by kernel_rfl) (fun _ _ _ h => h) (Or.inl ⟨by rfl, ?hypb6⟩) (by assumption) ?restpb6
              case hypb6 =>
                intro w hSw
                try dsimp only at hSw
                go_simp
                try with_reducible rfl
              try simp only [Act.put, List.setIfInBounds_toArray, List.set_cons_zero, List.set_cons_succ, List.getElem_toArray, List.getElem_cons_zero, List.getElem_cons_succ]
              refine wpAnyH_take (i := 7) (v := ?vpb7) rfl (by kernel_rfl) (by kernel_rfl) (by kernel_rfl) (fun _ _ _ h => h) (Or.inl ⟨by rfl, ?hypb7⟩) (by assumption) ?restpb7
              case hypb7 =>
                intro w hSw
                try dsimp only at hSw
                go_simp
                try with_reducible rfl
              try simp only [Act.put, List.setIfInBounds_toArray, List.set_cons_zero, List.set_cons_succ, List.getElem_toArray, List.getElem_cons_zero, List.getElem_cons_succ]
              refine wpAnyH_take (i := 8) (v := ?vpb8) rfl (by kernel_rfl) (by kernel_rfl) (by kernel_rfl) (fun _ _ _ h => h) (Or.inl ⟨by rfl, ?hypb8⟩) (by assumption) ?restpb8
              case hypb8 =>
                intro w hSw
                try dsimp only at hSw
                go_simp
                try with_reducible rfl
              try simp only [Act.put, List.setIfInBounds_toArray, List.set_cons_zero, List.set_cons_succ, List.getElem_toArray, List.getElem_cons_zero, List.getElem_cons_succ]
              obtain ⟨tt, htt⟩ : ∃ tt, tt = bkT r.1.2.1 := ⟨_, rfl⟩
              obtain ⟨mm, hmm⟩ : ∃ mm : Int, mm = (r.1.2.2 : Int) := ⟨_, rfl⟩
              obtain ⟨an, han⟩ : ∃ an, an = bytesOf r.2 := ⟨_, rfl⟩
              rw [← htt, ← hmm, ← han]
              have hansz : an.size ≤ 60 := by rw [han]; exact HR.out.2
              have HTT := Lib.hid (And.intro htt (And.intro hmm han))
              clear htt hmm han
              have q0 := HS5.out.blkNew hg5 #[.slice none 0 0, .string ⟨#[]⟩, .int .i64 0] 56
              have q3 := HS5.out.blkNew hg5 #[.slice ao' N' cap', .string tt, .int .i64 mm] 56
              obtain ⟨c0, d0⟩ := Sep.blkAt (A := []) q0 (j := 0) rfl
              obtain ⟨c1, d1⟩ := Sep.blkAt (A := []) q0 (j := 1) rfl
              obtain ⟨c2, d2⟩ := Sep.blkAt (A := []) q0 (j := 2) rfl
              have HST6 := Lib.hid (HSTAT.out _ (q0.sub (List.Sublist.cons _ (List.Sublist.cons _ (List.Sublist.cons_cons _ (List.nil_sublist _))))))
              have HST7 := Lib.hid (HSTAT.out _ (q3.sub (List.Sublist.cons _ (List.Sublist.cons _ (List.Sublist.cons_cons _ (List.nil_sublist _))))))
              have hb7 := HB5.out.alloc hg5 (.cells #[.slice ao' N' cap', .string tt, .int .i64 mm] 56)
              obtain ⟨w7, hw7⟩ : ∃ w7, w7 = w5.alloc (.cells #[.slice ao' N' cap', .string tt, .int .i64 mm] 56) := ⟨_, rfl⟩
              obtain ⟨gc, hgc⟩ : ∃ gc, gc = w5.heap.size := ⟨_, rfl⟩
              have HS7 := Lib.hid (show Sep B w7 (Ent.blk1 gc 56 [.slice ao' N' cap', .string tt, .int .i64 mm] :: rteE (.slice ao' N' cap') r.1.1 :: Ent.blk1 gs 56 (bkC (.slice spo b.1.length spc) (bkT b.2.1) (b.2.2 : Int)) :: F) by rw [hw7, hgc]; exact q3)
              have HB7 := Lib.hid (show Below B w w7 by rw [hw7]; exact hb7)
              have HW7 := Lib.hid hw7
              have HGC := Lib.hid hgc
              clear q0 q3 HS5 HB5 HST5 hb7 hw7 hgc
              refine wpAnyH_ready (rs := [9]) (by kernel_rfl) (by simp) ?_
              refine AllReadyH.cons rfl (fun K hK => ?_) AllReadyH.nil
              go_simp
              go_wp2_with fail
              refine hK.out _ _ ?_ (fun hHeld9 => ?_)
              · exact HST6.out
              clear hK K
              try simp only [Act.put, List.setIfInBounds_toArray, List.set_cons_zero, List.set_cons_succ, List.getElem_toArray, List.getElem_cons_zero, List.getElem_cons_succ]
              refine wpAnyH_ready (rs := [10]) (by kernel_rfl) (by simp) ?_
              refine AllReadyH.cons rfl (fun K hK => ?_) AllReadyH.nil
              go_simp
              go_wp2_with fail
              refine hK.out _ _ ?_ (fun hHeld10 => ?_)
              · exact HST7.out
              clear hK K
              try simp only [Act.put, List.setIfInBounds_toArray, List.set_cons_zero, List.set_cons_succ, List.getElem_toArray, List.getElem_cons_zero, List.getElem_cons_succ]
              refine wpAnyH_take (i := 11) (v := ?vpb11) rfl (by kernel_rfl) (by kernel_rfl) (by kernel_rfl) (fun _ _ _ h => h) (Or.inl ⟨by rfl, ?hypb11⟩) (by assumption) ?restpb11
              case hypb11 =>
                intro w hSw
                try dsimp only at hSw
                go_simp
                try with_reducible rfl
              try simp only [Act.put, List.setIfInBounds_toArray, List.set_cons_zero, List.set_cons_succ, List.getElem_toArray, List.getElem_cons_zero, List.getElem_cons_succ]
              refine wpAnyH_done (by kernel_rfl) ?_ _
              clear c0 d0 c1 d1 c2 d2 HST6 HST7
              rw [← HW7.out, ← HGC.out]
              clear HW7 HGC
              obtain ⟨c0, -⟩ := Sep.blkAt (A := []) HS7.out (j := 0) rfl
              obtain ⟨c1, -⟩ := Sep.blkAt (A := []) HS7.out (j := 1) rfl
              obtain ⟨c2, -⟩ := Sep.blkAt (A := []) HS7.out (j := 2) rfl
              obtain ⟨s0, f0⟩ := Sep.blkAt (A := [_, _]) HS7.out (j := 0) rfl
              obtain ⟨s1, f1⟩ := Sep.blkAt (A := [_, _]) HS7.out (j := 1) rfl
              obtain ⟨s2, f2⟩ := Sep.blkAt (A := [_, _]) HS7.out (j := 2) rfl
              have hl7 := (Sep.blkLt (A := [_, _]) HS7.out).1
              have q1 := Sep.blkSet (A := [_, _]) HS7.out 0 (.slice ao' N' cap')
              have q2 := Sep.blkSet (A := [_, _]) q1 1 (.string tt)
              have q3 := Sep.blkSet (A := [_, _]) q2 2 (.int .i64 mm)
              have HE1 := Lib.hid (q3.sub (List.sublist_cons_self _ _))
              have HE2 := Lib.hid (((HB7.out.setCell (p := ⟨gs, 0, none⟩) hl7 (.slice ao' N' cap')).setCell (p := ⟨gs, 1, none⟩) hl7 (.string tt)).setCell (p := ⟨gs, 2, none⟩) hl7 (.int .i64 mm))
              have kk0 : ¬ 9223372036854775807 < ob.size + an.size := by omega
              have kk1 : ¬ 9223372036854775807 < ob.size + an.size + 1 := by omega
              have HCAT := Lib.hid (show ob ++ an ++ ⟨#[10]⟩ = bytesOf (out ++ r.2 ++ [10]) by
                rw [HTT.out.2.2, HOB.out]
                apply ByteArray.ext
                simp [bytesOf, ByteArray.data_append])
              clear q1 q2 q3 hl7
              go_wp2
              go_roundg (L - i)
              case measure => have := HMS.out; have := HGK.out; omega
              case rel =>
                obtain ⟨e1, e2, e3⟩ := HTT.out
                refine ⟨i + 1, r.1, .slice ao' N' cap', out ++ r.2 ++ [10], by have := HMS.out; omega, by go_num, by rw [HCAT.out], HNX.out, ?_, HE2.out⟩
                have h9 := HE1.out
                rw [e1, e2] at h9
                rw [e1, e2]
                exact h9
            · go_simp
              have q0 := (HS4.out.blkNew hg4 #[.slice none 0 0, .string ⟨#[]⟩, .int .i64 0] 56).perm (List.Perm.swap ..)
              have hb4 := HB4.out.alloc hg4 (.cells #[.slice none 0 0, .string ⟨#[]⟩, .int .i64 0] 56)
              obtain ⟨w6, hw6⟩ : ∃ w6, w6 = w4.alloc (.cells #[.slice none 0 0, .string ⟨#[]⟩, .int .i64 0] 56) := ⟨_, rfl⟩
              obtain ⟨gc, hgc⟩ : ∃ gc, gc = w4.heap.size := ⟨_, rfl⟩
              rw [← hw6] at q0 hb4
              rw [← hgc] at q0
              have HS6 := Lib.hid q0
              have HB6 := Lib.hid hb4
              have hg6 : B ≤ w6.heap.size := Nat.le_trans hB HB6.out.size
              have HST6 := Lib.hid (HSTAT.out w6 (q0.sub (List.Sublist.cons _ (List.Sublist.cons _ (List.Sublist.cons_cons _ (List.nil_sublist _))))))
              have HW6 := Lib.hid hw6
              have HGC := Lib.hid hgc
              clear q0 hb4 hw6 hgc HS4 HB4
              go_wp2_with fail
              rw [← HW6.out, ← HGC.out]
              refine hK.out _ _ ?_ (fun hHeld9 => ?_)
              · exact HST6.out
              clear hK K
              try simp only [Act.put, List.setIfInBounds_toArray, List.set_cons_zero, List.set_cons_succ, List.getElem_toArray, List.getElem_cons_zero, List.getElem_cons_succ]
              refine wpAnyH_ready (rs := [5]) (by kernel_rfl) (by simp) ?_
              refine AllReadyH.cons rfl (fun K hK => ?_) AllReadyH.nil
              go_simp
              go_at_call 52
              refine (HANS.out w6 _ HS6.out hg6).mono ?_
              rintro e w5 ⟨sp', rfl, hs5, hb5⟩
              obtain ⟨ao', N', cap', rfl⟩ : ∃ a n c, sp' = .slice a n c := by
                obtain ⟨a', c', e, -⟩ := rte_shape (A := []) hs5
                exact ⟨a', _, c', e⟩
              have HS5 := Lib.hid hs5
              have HB5 := Lib.hid (HB6.out.trans hb5)
              have hg5 : B ≤ w5.heap.size := Nat.le_trans hB HB5.out.size
              have HST5 := Lib.hid (HSTAT.out w5 (hs5.sub (List.Sublist.cons _ (List.Sublist.cons _ (List.Sublist.cons_cons _ (List.nil_sublist _))))))
              clear hs5 hb5 HS6 HB6 HANS hg4 HW6 HGC HST6
              go_wp2_with fail
              refine hK.out _ _ ?_ (fun hHeld5 => ?_)
              · exact HST5.out
              clear hK K
              try simp only [Act.put, List.setIfInBounds_toArray, List.set_cons_zero, List.set_cons_succ, List.getElem_toArray, List.getElem_cons_zero, List.getElem_cons_succ]
              refine wpAnyH_take (i := 6) (v := ?vpc6) rfl (by kernel_rfl) (by kernel_rfl) (by kernel_rfl) (fun _ _ _ h => h) (Or.inl ⟨by rfl, ?hypc6⟩) (by assumption) ?restpc6
              case hypc6 =>
                intro w hSw
                try dsimp only at hSw
                go_simp
                try with_reducible rfl
              try simp only [Act.put, List.setIfInBounds_toArray, List.set_cons_zero, List.set_cons_succ, List.getElem_toArray, List.getElem_cons_zero, List.getElem_cons_succ]
              refine wpAnyH_take (i := 7) (v := ?vpc7) rfl (by kernel_rfl) (by kernel_rfl) (by kernel_rfl) (fun _ _ _ h => h) (Or.inl ⟨by rfl, ?hypc7⟩) (by assumption) ?restpc7
              case hypc7 =>
                intro w hSw
                try dsimp only at hSw
                go_simp
                try with_reducible rfl
              try simp only [Act.put, List.setIfInBounds_toArray, List.set_cons_zero, List.set_cons_succ, List.getElem_toArray, List.getElem_cons_zero, List.getElem_cons_succ]
              refine wpAnyH_take (i := 8) (v := ?vpc8) rfl (by kernel_rfl) (by kernel_rfl) (by kernel_rfl) (fun _ _ _ h => h) (Or.inl ⟨by rfl, ?hypc8⟩) (by assumption) ?restpc8
              case hypc8 =>
                intro w hSw
                try dsimp only at hSw
                go_simp
                try with_reducible rfl
              try simp only [Act.put, List.setIfInBounds_toArray, List.set_cons_zero, List.set_cons_succ, List.getElem_toArray, List.getElem_cons_zero, List.getElem_cons_succ]
              obtain ⟨tt, htt⟩ : ∃ tt, tt = bkT r.1.2.1 := ⟨_, rfl⟩
              obtain ⟨mm, hmm⟩ : ∃ mm : Int, mm = (r.1.2.2 : Int) := ⟨_, rfl⟩
              obtain ⟨an, han⟩ : ∃ an, an = bytesOf r.2 := ⟨_, rfl⟩
              rw [← htt, ← hmm, ← han]
              have hansz : an.size ≤ 60 := by rw [han]; exact HR.out.2
              have HTT := Lib.hid (And.intro htt (And.intro hmm han))
              clear htt hmm han
              obtain ⟨c0, d0⟩ := Sep.blkAt (A := [_]) HS5.out (j := 0) rfl
              obtain ⟨c1, d1⟩ := Sep.blkAt (A := [_]) HS5.out (j := 1) rfl
              obtain ⟨c2, d2⟩ := Sep.blkAt (A := [_]) HS5.out (j := 2) rfl
              have hgz2 := (Sep.blkLt (A := [_]) HS5.out).1
              have q1 := Sep.blkSet (A := [_]) HS5.out 0 (.slice ao' N' cap')
              have q2 := Sep.blkSet (A := [_]) q1 1 (.string tt)
              have q3 := Sep.blkSet (A := [_]) q2 2 (.int .i64 mm)
              have hb7 := ((HB5.out.setCell (p := ⟨gc, 0, none⟩) hgz2 (.slice ao' N' cap')).setCell (p := ⟨gc, 1, none⟩) hgz2 (.string tt)).setCell (p := ⟨gc, 2, none⟩) hgz2 (.int .i64 mm)
              have HST7 := Lib.hid (HSTAT.out _ (q3.sub (List.Sublist.cons _ (List.Sublist.cons _ (List.Sublist.cons_cons _ (List.nil_sublist _))))))
              obtain ⟨w7, hw7⟩ : ∃ w7, w7 = ((w5.setCell ⟨gc, 0, none⟩ (.slice ao' N' cap')).setCell ⟨gc, 1, none⟩ (.string tt)).setCell ⟨gc, 2, none⟩ (.int .i64 mm) := ⟨_, rfl⟩
              have HS7 := Lib.hid (show Sep B w7 (Ent.blk1 gc 56 [.slice ao' N' cap', .string tt, .int .i64 mm] :: rteE (.slice ao' N' cap') r.1.1 :: Ent.blk1 gs 56 (bkC (.slice spo b.1.length spc) (bkT b.2.1) (b.2.2 : Int)) :: F) by rw [hw7]; exact q3.perm (List.Perm.swap ..))
              have HB7 := Lib.hid (show Below B w w7 by rw [hw7]; exact hb7)
              have HW7 := Lib.hid hw7
              clear q1 q2 q3 HS5 HB5 HST5 hb7 hw7 hgz2
              refine wpAnyH_ready (rs := [10]) (by kernel_rfl) (by simp) ?_
              refine AllReadyH.cons rfl (fun K hK => ?_) AllReadyH.nil
              go_simp
              go_wp2_with fail
              refine hK.out _ _ ?_ (fun hHeld10 => ?_)
              · exact HST7.out
              clear hK K
              try simp only [Act.put, List.setIfInBounds_toArray, List.set_cons_zero, List.set_cons_succ, List.getElem_toArray, List.getElem_cons_zero, List.getElem_cons_succ]
              refine wpAnyH_take (i := 11) (v := ?vpc11) rfl (by kernel_rfl) (by kernel_rfl) (by kernel_rfl) (fun _ _ _ h => h) (Or.inl ⟨by rfl, ?hypc11⟩) (by assumption) ?restpc11
              case hypc11 =>
                intro w hSw
                try dsimp only at hSw
                go_simp
                try with_reducible rfl
              try simp only [Act.put, List.setIfInBounds_toArray, List.set_cons_zero, List.set_cons_succ, List.getElem_toArray, List.getElem_cons_zero, List.getElem_cons_succ]
              refine wpAnyH_done (by kernel_rfl) ?_ _
              clear c0 d0 c1 d1 c2 d2 HST7
              rw [← HW7.out]
              clear HW7
              obtain ⟨c0, -⟩ := Sep.blkAt (A := []) HS7.out (j := 0) rfl
              obtain ⟨c1, -⟩ := Sep.blkAt (A := []) HS7.out (j := 1) rfl
              obtain ⟨c2, -⟩ := Sep.blkAt (A := []) HS7.out (j := 2) rfl
              obtain ⟨s0, f0⟩ := Sep.blkAt (A := [_, _]) HS7.out (j := 0) rfl
              obtain ⟨s1, f1⟩ := Sep.blkAt (A := [_, _]) HS7.out (j := 1) rfl
              obtain ⟨s2, f2⟩ := Sep.blkAt (A := [_, _]) HS7.out (j := 2) rfl
              have hl7 := (Sep.blkLt (A := [_, _]) HS7.out).1
              have q1 := Sep.blkSet (A := [_, _]) HS7.out 0 (.slice ao' N' cap')
              have q2 := Sep.blkSet (A := [_, _]) q1 1 (.string tt)
              have q3 := Sep.blkSet (A := [_, _]) q2 2 (.int .i64 mm)
              have HE1 := Lib.hid (q3.sub (List.sublist_cons_self _ _))
              have HE2 := Lib.hid (((HB7.out.setCell (p := ⟨gs, 0, none⟩) hl7 (.slice ao' N' cap')).setCell (p := ⟨gs, 1, none⟩) hl7 (.string tt)).setCell (p := ⟨gs, 2, none⟩) hl7 (.int .i64 mm))
              have kk0 : ¬ 9223372036854775807 < ob.size + an.size := by omega
              have kk1 : ¬ 9223372036854775807 < ob.size + an.size + 1 := by omega
              have HCAT := Lib.hid (show ob ++ an ++ ⟨#[10]⟩ = bytesOf (out ++ r.2 ++ [10]) by
                rw [HTT.out.2.2, HOB.out]
                apply ByteArray.ext
                simp [bytesOf, ByteArray.data_append])
              clear q1 q2 q3 hl7
              go_wp2
              go_roundg (L - i)
              case measure => have := HMS.out; have := HGK.out; omega
              case rel =>
                obtain ⟨e1, e2, e3⟩ := HTT.out
                refine ⟨i + 1, r.1, .slice ao' N' cap', out ++ r.2 ++ [10], by have := HMS.out; omega, by go_num, by rw [HCAT.out], HNX.out, ?_, HE2.out⟩
                have h9 := HE1.out
                rw [e1, e2] at h9
                rw [e1, e2]
                exact h9
          · have hcn : ((c.toNat : Int) != 10) = true := bne_iff_ne.2 (fun h => hc10 (UInt8.toNat_inj.1 (show c.toNat = (10 : UInt8).toNat by simpa using (by omega : c.toNat = 10))))
            have HN2 := Lib.hid (show ∀ k : Nat, fr ≤ k → k < i + 1 → t[k]? ≠ some 10 from fun k h1 h2 => by
              by_cases hk : k = i
              · rw [hk, hc]; simpa using hc10
              · exact hno k h1 (by omega))
            have HGJ := Lib.hid (And.intro hgj0 (And.intro hgk (And.intro hfi hlt)))
            clear hlt hgk hgj0 hc HNOK hno hfl hil hc10 hfi hil0
            go_wp2
            go_roundg (gj - 1)
            case measure => have := HGJ.out; omega
            case rel => exact ⟨i + 1, by have := HGJ.out; omega, by have := HGJ.out; omega, by have := HGJ.out; omega, by go_num, HN2.out, HS3.out, HB3.out⟩
        · have hij : decide ((i : Int) < (L : Int)) = false := decide_eq_false (by omega)
          have hij2 : decide (i < L) = false := decide_eq_false (by omega)
          have hend : i = t.length ∨ t[i]? = some 10 := .inl (by have := HL.out; omega)
          clear hge hgk hgj0 HNOK
          have HNX := Lib.hid (HST.out.next hfl hfi hil hno hend)
          obtain ⟨ln, hln⟩ : ∃ ln, ln = (t.take i).drop fr := ⟨_, rfl⟩
          have hex := HEX.out fr i
          have hlnl : ln.length ≤ 10000 := by rw [hln, List.length_drop, List.length_take]; omega
          rw [← hln] at HNX hex
          have hAns := fun (w4 : World) (F' : List Ent) (h1 : Sep B w4 (rteE (.slice spo b.1.length spc) b.1 :: F')) (h2 : B ≤ w4.heap.size) => refAns_any B (.slice spo b.1.length spc) b F' ln w4 h1 h2 hlnl HST.out.1
          have hal := ans_len2 HST.out.1 ln
          obtain ⟨r, hr⟩ : ∃ r, r = ansD b ln := ⟨_, rfl⟩
          rw [← hr] at HNX hAns hal
          have HANS := Lib.hid hAns
          have HR := Lib.hid (And.intro hr hal)
          have hfr0 : (0 : Int) ≤ (fr : Int) := by omega
          have hfiI : (fr : Int) ≤ (i : Int) := by omega
          have hiL : (i : Int) ≤ (L : Int) := by omega
          have hiLn : i ≤ L := by omega
          have HMS := Lib.hid (And.intro hfi (And.intro hil (And.intro hfl HL.out)))
          have hstat : ∀ w', Sep B w' [Ent.blk1 gs 56 (bkC (.slice spo b.1.length spc) (bkT b.2.1) (b.2.2 : Int))] → w'.cell? ⟨gs, 0, none⟩ = some (.slice spo b.1.length spc) ∧ w'.cell? ⟨gs, 1, none⟩ = some (.string (bkT b.2.1)) ∧ w'.cell? ⟨gs, 2, none⟩ = some (.int .i64 (b.2.2 : Int)) := fun w' h =>
            ⟨(Sep.blkAt (A := []) h (j := 0) rfl).1, (Sep.blkAt (A := []) h (j := 1) rfl).1, (Sep.blkAt (A := []) h (j := 2) rfl).1⟩
          have HSTAT := Lib.hid hstat
          clear hstat hAns hr hal hln hlnl hfl hfi hil hno hend HST
          go_upto_region 10 with fail
          obtain ⟨w4, hw4⟩ : ∃ w4, w4 = w3.drew := ⟨_, rfl⟩
          have HS4 := Lib.hid (show Sep B w4 (sesE gs (.slice spo b.1.length spc) b F) by rw [hw4]; exact HS3.out.drew)
          have HB4 := Lib.hid (show Below B w w4 by rw [hw4]; exact HB3.out.drew)
          have hg4 : B ≤ w4.heap.size := Nat.le_trans hB HB4.out.size
          have HST4 := Lib.hid (HSTAT.out w4 (HS4.out.sub (List.Sublist.cons _ (List.Sublist.cons_cons _ (List.nil_sublist _)))))
          refine wp_region_held_drew (S := fun w' => w'.cell? ⟨gs, 0, none⟩ = some (.slice spo b.1.length spc) ∧ w'.cell? ⟨gs, 1, none⟩ = some (.string (bkT b.2.1)) ∧ w'.cell? ⟨gs, 2, none⟩ = some (.int .i64 (b.2.2 : Int))) (by kernel_rfl) (by simp only [← hw4]; exact HST4.out) (fun hHeld => ?_)
          rw [← hw4] at hHeld ⊢
          clear hw4 HS3 HB3 HST4
          refine wpAnyH_take (i := 0) (v := ?vqa0) rfl (by kernel_rfl) (by kernel_rfl) (by kernel_rfl) (fun _ _ _ h => h) (Or.inl ⟨by rfl, ?hyqa0⟩) (by assumption) ?restqa0
          case hyqa0 =>
            intro w hSw
            try dsimp only at hSw
            go_simp
            try with_reducible rfl
          try simp only [Act.put, List.setIfInBounds_toArray, List.set_cons_zero, List.set_cons_succ, List.getElem_toArray, List.getElem_cons_zero]
          refine wpAnyH_take (i := 1) (v := ?vqa1) rfl (by kernel_rfl) (by kernel_rfl) (by kernel_rfl) (fun _ _ _ h => h) (Or.inl ⟨by rfl, ?hyqa1⟩) (by assumption) ?restqa1
          case hyqa1 =>
            intro w hSw
            try dsimp only at hSw
            go_simp
            try with_reducible rfl
          try simp only [Act.put, List.setIfInBounds_toArray, List.set_cons_zero, List.set_cons_succ, List.getElem_toArray, List.getElem_cons_zero, List.getElem_cons_succ]
          refine wpAnyH_take (i := 2) (v := ?vqa2) rfl (by kernel_rfl) (by kernel_rfl) (by kernel_rfl) (fun _ _ _ h => h) (Or.inl ⟨by rfl, ?hyqa2⟩) (by assumption) ?restqa2
          case hyqa2 =>
            intro w hSw
            try dsimp only at hSw
            go_simp
            try with_reducible rfl
          try simp only [Act.put, List.setIfInBounds_toArray, List.set_cons_zero, List.set_cons_succ, List.getElem_toArray, List.getElem_cons_zero, List.getElem_cons_succ]
          refine wpAnyH_take (i := 3) (v := ?vqa3) rfl (by kernel_rfl) (by kernel_rfl) (by kernel_rfl) (fun _ _ _ h => h) (Or.inl ⟨by rfl, ?hyqa3⟩) (by assumption) ?restqa3
          case hyqa3 =>
            intro w hSw
            try dsimp only at hSw
            go_simp
            try with_reducible rfl
          try simp only [Act.put, List.setIfInBounds_toArray, List.set_cons_zero, List.set_cons_succ, List.getElem_toArray, List.getElem_cons_zero, List.getElem_cons_succ]
          refine wpAnyH_take (i := 4) (v := ?vqa4) rfl (by kernel_rfl) (by kernel_rfl) (by kernel_rfl) (fun _ _ _ h => h) (Or.inl ⟨by rfl, ?hyqa4⟩) (by assumption) ?restqa4
          case hyqa4 =>
            intro w hSw
            try dsimp only at hSw
            go_simp
            try with_reducible rfl
          try simp only [Act.put, List.setIfInBounds_toArray, List.set_cons_zero, List.set_cons_succ, List.getElem_toArray, List.getElem_cons_zero, List.getElem_cons_succ]
          refine wpAnyH_ready (rs := [5, 9]) (by kernel_rfl) (by simp) ?_
          refine AllReadyH.cons rfl (fun K hK => ?_) (AllReadyH.cons rfl (fun K hK => ?_) AllReadyH.nil)
          · go_simp
            go_at_call 52
            refine (HANS.out w4 _ HS4.out hg4).mono ?_
            rintro e w5 ⟨sp', rfl, hs5, hb5⟩
            obtain ⟨ao', N', cap', rfl⟩ : ∃ a n c, sp' = .slice a n c := by
              obtain ⟨a', c', e, -⟩ := rte_shape (A := []) hs5
              exact ⟨a', _, c', e⟩
            have HS5 := Lib.hid hs5
            have HB5 := Lib.hid (HB4.out.trans hb5)
            have hg5 : B ≤ w5.heap.size := Nat.le_trans hB HB5.out.size
            have HST5 := Lib.hid (HSTAT.out w5 (hs5.sub (List.Sublist.cons _ (List.Sublist.cons_cons _ (List.nil_sublist _)))))
            clear hs5 hb5 HS4 HB4 HANS hg4
            go_wp2_with fail
            refine hK.out _ _ ?_ (fun hHeld5 => ?_)
            · exact HST5.out
            clear hK K
            try simp only [Act.put, List.setIfInBounds_toArray, List.set_cons_zero, List.set_cons_succ, List.getElem_toArray, List.getElem_cons_zero, List.getElem_cons_succ]
            refine wpAnyH_take (i := 6) (v := ?vqb6) rfl (by kernel_rfl) (by kernel_rfl) (by kernel_rfl) (fun _ _ _ h => h) (Or.inl ⟨by rfl, ?hyqb6⟩) (by assumption) ?restqb6
            case hyqb6 =>
              intro w hSw
              try dsimp only at hSw
              go_simp
              try with_reducible rfl
            try simp only [Act.put, List.setIfInBounds_toArray, List.set_cons_zero, List.set_cons_succ, List.getElem_toArray, List.getElem_cons_zero, List.getElem_cons_succ]
            refine wpAnyH_take (i := 7) (v := ?vqb7) rfl (by kernel_rfl) (by kernel_rfl) (by kernel_rfl) (fun _ _ _ h => h) (Or.inl ⟨by rfl, ?hyqb7⟩) (by assumption) ?restqb7
            case hyqb7 =>
              intro w hSw
              try dsimp only at hSw
              go_simp
              try with_reducible rfl
            try simp only [Act.put, List.setIfInBounds_toArray, List.set_cons_zero, List.set_cons_succ, List.getElem_toArray, List.getElem_cons_zero, List.getElem_cons_succ]
            refine wpAnyH_take (i := 8) (v := ?vqb8) rfl (by kernel_rfl) (by kernel_rfl) (by kernel_rfl) (fun _ _ _ h => h) (Or.inl ⟨by rfl, ?hyqb8⟩) (by assumption) ?restqb8
            case hyqb8 =>
              intro w hSw
              try dsimp only at hSw
              go_simp
              try with_reducible rfl
            try simp only [Act.put, List.setIfInBounds_toArray, List.set_cons_zero, List.set_cons_succ, List.getElem_toArray, List.getElem_cons_zero, List.getElem_cons_succ]
            obtain ⟨tt, htt⟩ : ∃ tt, tt = bkT r.1.2.1 := ⟨_, rfl⟩
            obtain ⟨mm, hmm⟩ : ∃ mm : Int, mm = (r.1.2.2 : Int) := ⟨_, rfl⟩
            obtain ⟨an, han⟩ : ∃ an, an = bytesOf r.2 := ⟨_, rfl⟩
            rw [← htt, ← hmm, ← han]
            have hansz : an.size ≤ 60 := by rw [han]; exact HR.out.2
            have HTT := Lib.hid (And.intro htt (And.intro hmm han))
            clear htt hmm han
            have q0 := HS5.out.blkNew hg5 #[.slice none 0 0, .string ⟨#[]⟩, .int .i64 0] 56
            have q3 := HS5.out.blkNew hg5 #[.slice ao' N' cap', .string tt, .int .i64 mm] 56
            obtain ⟨c0, d0⟩ := Sep.blkAt (A := []) q0 (j := 0) rfl
            obtain ⟨c1, d1⟩ := Sep.blkAt (A := []) q0 (j := 1) rfl
            obtain ⟨c2, d2⟩ := Sep.blkAt (A := []) q0 (j := 2) rfl
            have HST6 := Lib.hid (HSTAT.out _ (q0.sub (List.Sublist.cons _ (List.Sublist.cons _ (List.Sublist.cons_cons _ (List.nil_sublist _))))))
            have HST7 := Lib.hid (HSTAT.out _ (q3.sub (List.Sublist.cons _ (List.Sublist.cons _ (List.Sublist.cons_cons _ (List.nil_sublist _))))))
            have hb7 := HB5.out.alloc hg5 (.cells #[.slice ao' N' cap', .string tt, .int .i64 mm] 56)
            obtain ⟨w7, hw7⟩ : ∃ w7, w7 = w5.alloc (.cells #[.slice ao' N' cap', .string tt, .int .i64 mm] 56) := ⟨_, rfl⟩
            obtain ⟨gc, hgc⟩ : ∃ gc, gc = w5.heap.size := ⟨_, rfl⟩
            have HS7 := Lib.hid (show Sep B w7 (Ent.blk1 gc 56 [.slice ao' N' cap', .string tt, .int .i64 mm] :: rteE (.slice ao' N' cap') r.1.1 :: Ent.blk1 gs 56 (bkC (.slice spo b.1.length spc) (bkT b.2.1) (b.2.2 : Int)) :: F) by rw [hw7, hgc]; exact q3)
            have HB7 := Lib.hid (show Below B w w7 by rw [hw7]; exact hb7)
            have HW7 := Lib.hid hw7
            have HGC := Lib.hid hgc
            clear q0 q3 HS5 HB5 HST5 hb7 hw7 hgc
            refine wpAnyH_ready (rs := [9]) (by kernel_rfl) (by simp) ?_
            refine AllReadyH.cons rfl (fun K hK => ?_) AllReadyH.nil
            go_simp
            go_wp2_with fail
            refine hK.out _ _ ?_ (fun hHeld9 => ?_)
            · exact HST6.out
            clear hK K
            try simp only [Act.put, List.setIfInBounds_toArray, List.set_cons_zero, List.set_cons_succ, List.getElem_toArray, List.getElem_cons_zero, List.getElem_cons_succ]
            refine wpAnyH_ready (rs := [10]) (by kernel_rfl) (by simp) ?_
            refine AllReadyH.cons rfl (fun K hK => ?_) AllReadyH.nil
            go_simp
            go_wp2_with fail
            refine hK.out _ _ ?_ (fun hHeld10 => ?_)
            · exact HST7.out
            clear hK K
            try simp only [Act.put, List.setIfInBounds_toArray, List.set_cons_zero, List.set_cons_succ, List.getElem_toArray, List.getElem_cons_zero, List.getElem_cons_succ]
            refine wpAnyH_take (i := 11) (v := ?vqb11) rfl (by kernel_rfl) (by kernel_rfl) (by kernel_rfl) (fun _ _ _ h => h) (Or.inl ⟨by rfl, ?hyqb11⟩) (by assumption) ?restqb11
            case hyqb11 =>
              intro w hSw
              try dsimp only at hSw
              go_simp
              try with_reducible rfl
            try simp only [Act.put, List.setIfInBounds_toArray, List.set_cons_zero, List.set_cons_succ, List.getElem_toArray, List.getElem_cons_zero, List.getElem_cons_succ]
            refine wpAnyH_done (by kernel_rfl) ?_ _
            clear c0 d0 c1 d1 c2 d2 HST6 HST7
            rw [← HW7.out, ← HGC.out]
            clear HW7 HGC
            obtain ⟨c0, -⟩ := Sep.blkAt (A := []) HS7.out (j := 0) rfl
            obtain ⟨c1, -⟩ := Sep.blkAt (A := []) HS7.out (j := 1) rfl
            obtain ⟨c2, -⟩ := Sep.blkAt (A := []) HS7.out (j := 2) rfl
            obtain ⟨s0, f0⟩ := Sep.blkAt (A := [_, _]) HS7.out (j := 0) rfl
            obtain ⟨s1, f1⟩ := Sep.blkAt (A := [_, _]) HS7.out (j := 1) rfl
            obtain ⟨s2, f2⟩ := Sep.blkAt (A := [_, _]) HS7.out (j := 2) rfl
            have hl7 := (Sep.blkLt (A := [_, _]) HS7.out).1
            have q1 := Sep.blkSet (A := [_, _]) HS7.out 0 (.slice ao' N' cap')
            have q2 := Sep.blkSet (A := [_, _]) q1 1 (.string tt)
            have q3 := Sep.blkSet (A := [_, _]) q2 2 (.int .i64 mm)
            have HE1 := Lib.hid (q3.sub (List.sublist_cons_self _ _))
            have HE2 := Lib.hid (((HB7.out.setCell (p := ⟨gs, 0, none⟩) hl7 (.slice ao' N' cap')).setCell (p := ⟨gs, 1, none⟩) hl7 (.string tt)).setCell (p := ⟨gs, 2, none⟩) hl7 (.int .i64 mm))
            have kk0 : ¬ 9223372036854775807 < ob.size + an.size := by omega
            have kk1 : ¬ 9223372036854775807 < ob.size + an.size + 1 := by omega
            have HCAT := Lib.hid (show ob ++ an ++ ⟨#[10]⟩ = bytesOf (out ++ r.2 ++ [10]) by
              rw [HTT.out.2.2, HOB.out]
              apply ByteArray.ext
              simp [bytesOf, ByteArray.data_append])
            clear q1 q2 q3 hl7
            go_wp2
            go_roundg (L - i)
            case measure => have := HMS.out; have := HGK.out; omega
            case rel =>
              obtain ⟨e1, e2, e3⟩ := HTT.out
              refine ⟨i + 1, r.1, .slice ao' N' cap', out ++ r.2 ++ [10], by have := HMS.out; omega, by go_num, by rw [HCAT.out], HNX.out, ?_, HE2.out⟩
              have h9 := HE1.out
              rw [e1, e2] at h9
              rw [e1, e2]
              exact h9
          · go_simp
            have q0 := (HS4.out.blkNew hg4 #[.slice none 0 0, .string ⟨#[]⟩, .int .i64 0] 56).perm (List.Perm.swap ..)
            have hb4 := HB4.out.alloc hg4 (.cells #[.slice none 0 0, .string ⟨#[]⟩, .int .i64 0] 56)
            obtain ⟨w6, hw6⟩ : ∃ w6, w6 = w4.alloc (.cells #[.slice none 0 0, .string ⟨#[]⟩, .int .i64 0] 56) := ⟨_, rfl⟩
            obtain ⟨gc, hgc⟩ : ∃ gc, gc = w4.heap.size := ⟨_, rfl⟩
            rw [← hw6] at q0 hb4
            rw [← hgc] at q0
            have HS6 := Lib.hid q0
            have HB6 := Lib.hid hb4
            have hg6 : B ≤ w6.heap.size := Nat.le_trans hB HB6.out.size
            have HST6 := Lib.hid (HSTAT.out w6 (q0.sub (List.Sublist.cons _ (List.Sublist.cons _ (List.Sublist.cons_cons _ (List.nil_sublist _))))))
            have HW6 := Lib.hid hw6
            have HGC := Lib.hid hgc
            clear q0 hb4 hw6 hgc HS4 HB4
            go_wp2_with fail
            rw [← HW6.out, ← HGC.out]
            refine hK.out _ _ ?_ (fun hHeld9 => ?_)
            · exact HST6.out
            clear hK K
            try simp only [Act.put, List.setIfInBounds_toArray, List.set_cons_zero, List.set_cons_succ, List.getElem_toArray, List.getElem_cons_zero, List.getElem_cons_succ]
            refine wpAnyH_ready (rs := [5]) (by kernel_rfl) (by simp) ?_
            refine AllReadyH.cons rfl (fun K hK => ?_) AllReadyH.nil
            go_simp
            go_at_call 52
            refine (HANS.out w6 _ HS6.out hg6).mono ?_
            rintro e w5 ⟨sp', rfl, hs5, hb5⟩
            obtain ⟨ao', N', cap', rfl⟩ : ∃ a n c, sp' = .slice a n c := by
              obtain ⟨a', c', e, -⟩ := rte_shape (A := []) hs5
              exact ⟨a', _, c', e⟩
            have HS5 := Lib.hid hs5
            have HB5 := Lib.hid (HB6.out.trans hb5)
            have hg5 : B ≤ w5.heap.size := Nat.le_trans hB HB5.out.size
            have HST5 := Lib.hid (HSTAT.out w5 (hs5.sub (List.Sublist.cons _ (List.Sublist.cons _ (List.Sublist.cons_cons _ (List.nil_sublist _))))))
            clear hs5 hb5 HS6 HB6 HANS hg4 HW6 HGC HST6
            go_wp2_with fail
            refine hK.out _ _ ?_ (fun hHeld5 => ?_)
            · exact HST5.out
            clear hK K
            try simp only [Act.put, List.setIfInBounds_toArray, List.set_cons_zero, List.set_cons_succ, List.getElem_toArray, List.getElem_cons_zero, List.getElem_cons_succ]
            refine wpAnyH_take (i := 6) (v := ?vqc6) rfl (by kernel_rfl) (by kernel_rfl) (by kernel_rfl) (fun _ _ _ h => h) (Or.inl ⟨by rfl, ?hyqc6⟩) (by assumption) ?restqc6
            case hyqc6 =>
              intro w hSw
              try dsimp only at hSw
              go_simp
              try with_reducible rfl
            try simp only [Act.put, List.setIfInBounds_toArray, List.set_cons_zero, List.set_cons_succ, List.getElem_toArray, List.getElem_cons_zero, List.getElem_cons_succ]
            refine wpAnyH_take (i := 7) (v := ?vqc7) rfl (by kernel_rfl) (by kernel_rfl) (by kernel_rfl) (fun _ _ _ h => h) (Or.inl ⟨by rfl, ?hyqc7⟩) (by assumption) ?restqc7
            case hyqc7 =>
              intro w hSw
              try dsimp only at hSw
              go_simp
              try with_reducible rfl
            try simp only [Act.put, List.setIfInBounds_toArray, List.set_cons_zero, List.set_cons_succ, List.getElem_toArray, List.getElem_cons_zero, List.getElem_cons_succ]
            refine wpAnyH_take (i := 8) (v := ?vqc8) rfl (by kernel_rfl) (by kernel_rfl) (by kernel_rfl) (fun _ _ _ h => h) (Or.inl ⟨by rfl, ?hyqc8⟩) (by assumption) ?restqc8
            case hyqc8 =>
              intro w hSw
              try dsimp only at hSw
              go_simp
              try with_reducible rfl
            try simp only [Act.put, List.setIfInBounds_toArray, List.set_cons_zero, List.set_cons_succ, List.getElem_toArray, List.getElem_cons_zero, List.getElem_cons_succ]
            obtain ⟨tt, htt⟩ : ∃ tt, tt = bkT r.1.2.1 := ⟨_, rfl⟩
            obtain ⟨mm, hmm⟩ : ∃ mm : Int, mm = (r.1.2.2 : Int) := ⟨_, rfl⟩
            obtain ⟨an, han⟩ : ∃ an, an = bytesOf r.2 := ⟨_, rfl⟩
            rw [← htt, ← hmm, ← han]
            have hansz : an.size ≤ 60 := by rw [han]; exact HR.out.2
            have HTT := Lib.hid (And.intro htt (And.intro hmm han))
            clear htt hmm han
            obtain ⟨c0, d0⟩ := Sep.blkAt (A := [_]) HS5.out (j := 0) rfl
            obtain ⟨c1, d1⟩ := Sep.blkAt (A := [_]) HS5.out (j := 1) rfl
            obtain ⟨c2, d2⟩ := Sep.blkAt (A := [_]) HS5.out (j := 2) rfl
            have hgz2 := (Sep.blkLt (A := [_]) HS5.out).1
            have q1 := Sep.blkSet (A := [_]) HS5.out 0 (.slice ao' N' cap')
            have q2 := Sep.blkSet (A := [_]) q1 1 (.string tt)
            have q3 := Sep.blkSet (A := [_]) q2 2 (.int .i64 mm)
            have hb7 := ((HB5.out.setCell (p := ⟨gc, 0, none⟩) hgz2 (.slice ao' N' cap')).setCell (p := ⟨gc, 1, none⟩) hgz2 (.string tt)).setCell (p := ⟨gc, 2, none⟩) hgz2 (.int .i64 mm)
            have HST7 := Lib.hid (HSTAT.out _ (q3.sub (List.Sublist.cons _ (List.Sublist.cons _ (List.Sublist.cons_cons _ (List.nil_sublist _))))))
            obtain ⟨w7, hw7⟩ : ∃ w7, w7 = ((w5.setCell ⟨gc, 0, none⟩ (.slice ao' N' cap')).setCell ⟨gc, 1, none⟩ (.string tt)).setCell ⟨gc, 2, none⟩ (.int .i64 mm) := ⟨_, rfl⟩
            have HS7 := Lib.hid (show Sep B w7 (Ent.blk1 gc 56 [.slice ao' N' cap', .string tt, .int .i64 mm] :: rteE (.slice ao' N' cap') r.1.1 :: Ent.blk1 gs 56 (bkC (.slice spo b.1.length spc) (bkT b.2.1) (b.2.2 : Int)) :: F) by rw [hw7]; exact q3.perm (List.Perm.swap ..))
            have HB7 := Lib.hid (show Below B w w7 by rw [hw7]; exact hb7)
            have HW7 := Lib.hid hw7
            clear q1 q2 q3 HS5 HB5 HST5 hb7 hw7 hgz2
            refine wpAnyH_ready (rs := [10]) (by kernel_rfl) (by simp) ?_
            refine AllReadyH.cons rfl (fun K hK => ?_) AllReadyH.nil
            go_simp
            go_wp2_with fail
            refine hK.out _ _ ?_ (fun hHeld10 => ?_)
            · exact HST7.out
            clear hK K
            try simp only [Act.put, List.setIfInBounds_toArray, List.set_cons_zero, List.set_cons_succ, List.getElem_toArray, List.getElem_cons_zero, List.getElem_cons_succ]
            refine wpAnyH_take (i := 11) (v := ?vqc11) rfl (by kernel_rfl) (by kernel_rfl) (by kernel_rfl) (fun _ _ _ h => h) (Or.inl ⟨by rfl, ?hyqc11⟩) (by assumption) ?restqc11
            case hyqc11 =>
              intro w hSw
              try dsimp only at hSw
              go_simp
              try with_reducible rfl
            try simp only [Act.put, List.setIfInBounds_toArray, List.set_cons_zero, List.set_cons_succ, List.getElem_toArray, List.getElem_cons_zero, List.getElem_cons_succ]
            refine wpAnyH_done (by kernel_rfl) ?_ _
            clear c0 d0 c1 d1 c2 d2 HST7
            rw [← HW7.out]
            clear HW7
            obtain ⟨c0, -⟩ := Sep.blkAt (A := []) HS7.out (j := 0) rfl
            obtain ⟨c1, -⟩ := Sep.blkAt (A := []) HS7.out (j := 1) rfl
            obtain ⟨c2, -⟩ := Sep.blkAt (A := []) HS7.out (j := 2) rfl
            obtain ⟨s0, f0⟩ := Sep.blkAt (A := [_, _]) HS7.out (j := 0) rfl
            obtain ⟨s1, f1⟩ := Sep.blkAt (A := [_, _]) HS7.out (j := 1) rfl
            obtain ⟨s2, f2⟩ := Sep.blkAt (A := [_, _]) HS7.out (j := 2) rfl
            have hl7 := (Sep.blkLt (A := [_, _]) HS7.out).1
            have q1 := Sep.blkSet (A := [_, _]) HS7.out 0 (.slice ao' N' cap')
            have q2 := Sep.blkSet (A := [_, _]) q1 1 (.string tt)
            have q3 := Sep.blkSet (A := [_, _]) q2 2 (.int .i64 mm)
            have HE1 := Lib.hid (q3.sub (List.sublist_cons_self _ _))
            have HE2 := Lib.hid (((HB7.out.setCell (p := ⟨gs, 0, none⟩) hl7 (.slice ao' N' cap')).setCell (p := ⟨gs, 1, none⟩) hl7 (.string tt)).setCell (p := ⟨gs, 2, none⟩) hl7 (.int .i64 mm))
            have kk0 : ¬ 9223372036854775807 < ob.size + an.size := by omega
            have kk1 : ¬ 9223372036854775807 < ob.size + an.size + 1 := by omega
            have HCAT := Lib.hid (show ob ++ an ++ ⟨#[10]⟩ = bytesOf (out ++ r.2 ++ [10]) by
              rw [HTT.out.2.2, HOB.out]
              apply ByteArray.ext
              simp [bytesOf, ByteArray.data_append])
            clear q1 q2 q3 hl7
            go_wp2
            go_roundg (L - i)
            case measure => have := HMS.out; have := HGK.out; omega
            case rel =>
              obtain ⟨e1, e2, e3⟩ := HTT.out
              refine ⟨i + 1, r.1, .slice ao' N' cap', out ++ r.2 ++ [10], by have := HMS.out; omega, by go_num, by rw [HCAT.out], HNX.out, ?_, HE2.out⟩
              have h9 := HE1.out
              rw [e1, e2] at h9
              rw [e1, e2]
              exact h9
    · have hfl1 : decide ((fr : Int) < (L : Int)) = false := decide_eq_false (by omega)
      have hfl2 : decide (fr < L) = false := decide_eq_false hlt
      have hfin := HST.out.fin (by rw [← HL.out]; omega)
      have HFIN := Lib.hid hfin
      clear hfin hgk hlt
      go_wp2
      go_ret
      rw [HFIN.out, ← HOB.out]
      exact ⟨rfl, HB2.out⟩
set_option maxHeartbeats 2000000 in
/-- The whole session. -/
theorem refSes_any (B : Nat) (F : List Ent) (t : List UInt8) (w : World) (hB : B ≤ w.heap.size) (hs : Sep B w F) (hlt : t.length ≤ 9223372036854775807) :
    Calls Tryz.prog 25 #[.string (bytesOf t)] w fun e w' => e = .returned (.string (bytesOf (runD t))) ∧ Below B w w' := by
  by_cases h3 : 3000 < t.length
  · obtain ⟨tb, htb⟩ : ∃ tb, tb = bytesOf t := ⟨_, rfl⟩
    obtain ⟨L, hL⟩ : ∃ L, L = t.length := ⟨_, rfl⟩
    have hsz : tb.size = L := by rw [htb, hL]; rfl
    have hd : decide ((3000 : Int) < (L : Int)) = true := decide_eq_true (by omega)
    have hdn : decide (3000 < L) = true := decide_eq_true (by omega)
    have hr : runD t = tooT := by unfold runD; rw [if_pos h3]
    rw [hr, ← htb]
    clear htb hL hr h3
    go_enter Tryz.func25, Tryz.ntmps25
    go_wp2
    go_ret
    exact ⟨rfl, Below.refl _ _⟩
  · have hr : runD t = (sesD (bk0, []) (linesOf t)).2 := by unfold runD; rw [if_neg h3]
    rw [hr]
    exact refSes_in B F t (by omega) w hB hs
end Go.Proofs.YtbcfcjecobihnaaGreatDoor
