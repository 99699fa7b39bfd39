/- ferryhytheref4.Open. -/
import Derived.Test.YtbcfcjecobihnaaGreatDoorRtLine
namespace Go.Proofs.YtbcfcjecobihnaaGreatDoor
open Go.RowKit
set_option linter.unusedVariables false
set_option linter.unusedSimpArgs false
set_option maxRecDepth 100000

/-- What is so of each book of the reference. -/
def RefB (b : Bk) : Prop := b.1.length ≤ 32 ∧ SrtR b.1 ∧ BkOk b
theorem setRR_small {L : List Rte} (h1 : L.length ≤ 32) (h2 : SrtR L) (a n x : Int) : (setRR L a n x).1.length ≤ 32 ∧ SrtR (setRR L a n x).1 := by
  unfold setRR
  split
  · exact ⟨h1, h2⟩
  · split
    · exact ⟨h1, h2⟩
    · split
      · exact ⟨h1, h2⟩
      · rename_i h3
        refine ⟨?_, setL_srt h2⟩
        show (setL L a.toNat n.toNat x.toNat).length ≤ 32
        rw [setL_len h2]
        split
        · exact h1
        · rename_i h4
          have h5 : ¬ L.length = 32 := fun e => h3 ⟨by simpa using h4, e⟩
          omega
theorem dropR_small {L : List Rte} (h1 : L.length ≤ 32) (h2 : SrtR L) (a n : Int) : (dropR L a n).1.length ≤ 32 ∧ SrtR (dropR L a n).1 := by
  unfold dropR
  repeat' split
  all_goals first
    | exact ⟨h1, h2⟩
    | exact ⟨Nat.le_trans (List.length_filter_le ..) h1, dropL_srt h2⟩
theorem RefB.set {b : Bk} (h : RefB b) (a n x : Int) : RefB (bkSet b a n x).1 := by
  refine ⟨?_, ?_, h.2.2.set a n x⟩
  · unfold bkSet
    split
    · exact h.1
    · split
      · exact (setRR_small h.1 h.2.1 a n x).1
      · exact h.1
  · unfold bkSet
    split
    · exact h.2.1
    · split
      · exact (setRR_small h.1 h.2.1 a n x).2
      · exact h.2.1
theorem RefB.drop {b : Bk} (h : RefB b) (a n : Int) : RefB (bkDrop b a n).1 := by
  refine ⟨?_, ?_, h.2.2.drop a n⟩
  · unfold bkDrop
    split
    · exact h.1
    · split
      · exact (dropR_small h.1 h.2.1 a n).1
      · exact h.1
  · unfold bkDrop
    split
    · exact h.2.1
    · split
      · exact (dropR_small h.1 h.2.1 a n).2
      · exact h.2.1
theorem RefB.line {b : Bk} (h : RefB b) (l : List UInt8) : RefB (bkLine b l).1 := by
  unfold bkLine
  split
  · exact h
  · split
    · exact h
    · split
      · exact h
      · unfold lineDo
        split
        · exact h
        · split
          · exact h.set ..
          · split
            · exact h.drop ..
            · exact h
theorem RefB.start : RefB ([], [], 0) := ⟨by decide, List.Pairwise.nil, ⟨by decide, by decide⟩⟩
/-- What Open hands back. -/
def RtOpenEnd (B : Nat) (F : List Ent) (w : World) (e : Ending) (w' : World) : Option Bk × Nat × Int → Prop
  | (some b, n, c) => ∃ sp, e = .returned (.tuple #[.agg #[sp, .string (bkT b.2.1), .int .i64 (b.2.2 : Int)], .int .i64 (n : Int), .int .i64 c]) ∧ Sep B w' (rteE sp b.1 :: F) ∧ RefB b ∧ Below B w w'
  | (none, n, c) => e = .returned (.tuple #[.agg #[.slice none 0 0, .string ⟨#[]⟩, .int .i64 0], .int .i64 (n : Int), .int .i64 c]) ∧ Sep B w' F ∧ Below B w w'
/-! ### The frame: the result's block, the book's, the row of lines -/
abbrev opE (gr gb : Nat) (sp : Value) (b : Bk) (F : List Ent) : List Ent := rteE sp b.1 :: bkE0 gr :: Ent.blk1 gb 56 (bkC sp (bkT b.2.1) (b.2.2 : Int)) :: F
set_option maxHeartbeats 1000000 in
theorem refOpen_long (B : Nat) (F : List Ent) (text : List UInt8) (hlen : 2000 < text.length) (w : World) (hB : B ≤ w.heap.size) (hs : Sep B w F) :
    Calls Tryz.prog 23 #[.string (bytesOf text)] w fun e w' => RtOpenEnd B F w e w' (openB text) := by
  have hd : decide ((2000 : Int) < (text.length : Int)) = true := decide_eq_true (by omega)
  have hsz : (bytesOf text).size = text.length := rfl
  have hopen : openB text = (none, 0, 4) := by unfold openB; rw [if_pos hlen]
  have HO := Lib.hid hopen
  have h1 := hs.blkNew hB #[.slice none 0 0, .string ⟨#[]⟩, .int .i64 0] 56
  have hb := (Below.refl B w).alloc hB (.cells #[.slice none 0 0, .string ⟨#[]⟩, .int .i64 0] 56)
  obtain ⟨w1, hw1⟩ : ∃ w1, w1 = w.alloc (.cells #[.slice none 0 0, .string ⟨#[]⟩, .int .i64 0] 56) := ⟨_, rfl⟩
  obtain ⟨gr, hgr⟩ : ∃ gr, gr = w.heap.size := ⟨_, rfl⟩
  rw [← hw1, ← hgr] at h1
  rw [← hw1] at hb
  have HS := Lib.hid h1
  have HB := Lib.hid hb
  have HW := Lib.hid hw1
  have HGR := Lib.hid hgr
  clear hopen hs h1 hb hw1 hgr
  go_enter Tryz.func23, Tryz.ntmps23
  go_upto_region 1 with fail
  rw [← HW.out, ← HGR.out]
  clear HW HGR
  obtain ⟨s0, f0⟩ := Sep.blkAt (A := []) HS.out (j := 0) rfl
  obtain ⟨s1, f1⟩ := Sep.blkAt (A := []) HS.out (j := 1) rfl
  obtain ⟨s2, f2⟩ := Sep.blkAt (A := []) HS.out (j := 2) rfl
  have hl := (Sep.blkLt (A := []) HS.out).1
  have q1 := Sep.blkSet (A := []) HS.out 0 (.slice none 0 0)
  have q2 := Sep.blkSet (A := []) q1 1 (.string ⟨#[]⟩)
  have q3 := Sep.blkSet (A := []) q2 2 (.int .i64 0)
  have hb3 := ((HB.out.setCell (p := ⟨gr, 0, none⟩) hl (.slice none 0 0)).setCell (p := ⟨gr, 1, none⟩) hl (.string ⟨#[]⟩)).setCell (p := ⟨gr, 2, none⟩) hl (.int .i64 0)
  have k0 := (Sep.blkAt (A := []) q3 (j := 0) rfl).1
  have k1 := (Sep.blkAt (A := []) q3 (j := 1) rfl).1
  have k2 := (Sep.blkAt (A := []) q3 (j := 2) rfl).1
  have HE1 := Lib.hid (q3.sub (List.sublist_cons_self _ _))
  have HE2 := Lib.hid hb3
  clear q1 q2 q3 hb3 hl
  go_wp2
  try simp only [Exit.inBlock, Exit.then]
  refine bodyPost_ret (v := .tuple #[.agg #[.slice none 0 0, .string ⟨#[]⟩, .int .i64 0], .int .i64 0, .int .i64 4]) (by simp [results, Tryz.results23, go_sem, k0, k1, k2]) rfl ?_
  rw [HO.out]
  exact ⟨rfl, HE1.out, HE2.out⟩
theorem open_err {text : List UInt8} (ht : ¬ 2000 < text.length) {b : Bk} {i : Nat} {x : List UInt8} (h : opL ([], [], 0) ((cutL 10 text).take i) = .inl b) (hx : (cutL 10 text)[i]? = some x) (hi : i + 1 < (cutL 10 text).length) (hz : ¬ (bkLine b x).2 = 0) :
    openB text = (none, i + 1, (bkLine b x).2) := by
  obtain ⟨h1, h2⟩ := opEnd_at (t := text) rfl h (by omega)
  rw [openB_cut ht]
  unfold opEnd
  have h3 : (cutL 10 text).dropLast.drop i = x :: (cutL 10 text).dropLast.drop (i + 1) := by
    have h4 : (cutL 10 text).dropLast[i]? = some x := by
      rw [List.dropLast_eq_take, List.getElem?_take, if_pos (by omega), hx]
    obtain ⟨h5, h6⟩ := List.getElem?_eq_some_iff.1 h4
    rw [List.drop_eq_getElem_cons h5, h6]
  rw [h2, h3, opL, if_neg hz]
  simp only
  rw [h1]
theorem open_ok2 {text : List UInt8} (ht : ¬ 2000 < text.length) {b : Bk} {i : Nat} (h : opL ([], [], 0) ((cutL 10 text).take i) = .inl b) (hi : i + 1 = (cutL 10 text).length) :
    openB text = (some b, i, 0) := by
  obtain ⟨h1, h2⟩ := opEnd_at (t := text) rfl h (by omega)
  rw [openB_cut ht]
  unfold opEnd
  rw [h2, List.drop_of_length_le (by rw [List.length_dropLast]; omega), opL]
  simp only
  rw [h1]
/-- All cells that the loop reads. -/
theorem opE_cells {B gr gb : Nat} {sp : Value} {b : Bk} {F : List Ent} {E : Ent} {w : World} (h : Sep B w (E :: opE gr gb sp b F)) :
    (w.cell? ⟨gb, 0, none⟩ = some sp ∧ w.cell? ⟨gb, 1, none⟩ = some (.string (bkT b.2.1)) ∧ w.cell? ⟨gb, 2, none⟩ = some (.int .i64 (b.2.2 : Int))) :=
  ⟨(Sep.blkAt (A := [_, _, _]) h (j := 0) rfl).1, (Sep.blkAt (A := [_, _, _]) h (j := 1) rfl).1, (Sep.blkAt (A := [_, _, _]) h (j := 2) rfl).1⟩
set_option maxHeartbeats 4000000 in
theorem refOpen_in (B : Nat) (F : List Ent) (text : List UInt8) (hlen : ¬ 2000 < text.length) (w : World) (hB : B ≤ w.heap.size) (hs : Sep B w F) :
    Calls Tryz.prog 23 #[.string (bytesOf text)] w fun e w' => RtOpenEnd B F w e w' (openB text) := by
  have hd : decide ((2000 : Int) < (text.length : Int)) = false := decide_eq_false (by omega)
  have hsz : (bytesOf text).size = text.length := rfl
  have h1 := hs.blkNew hB #[.slice none 0 0, .string ⟨#[]⟩, .int .i64 0] 56
  have hb := (Below.refl B w).alloc hB (.cells #[.slice none 0 0, .string ⟨#[]⟩, .int .i64 0] 56)
  have h2 := h1.blkNew (by simp; omega) #[.slice none 0 0, .string ⟨#[]⟩, .int .i64 0] 56
  have hb2 := hb.alloc (by simp; omega) (.cells #[.slice none 0 0, .string ⟨#[]⟩, .int .i64 0] 56)
  rw [show (w.alloc (.cells #[.slice none 0 0, .string ⟨#[]⟩, .int .i64 0] 56)).heap.size = w.heap.size + 1 by simp] at h2
  obtain ⟨w1, hw1⟩ : ∃ w1, w1 = (w.alloc (.cells #[.slice none 0 0, .string ⟨#[]⟩, .int .i64 0] 56)).alloc (.cells #[.slice none 0 0, .string ⟨#[]⟩, .int .i64 0] 56) := ⟨_, rfl⟩
  obtain ⟨gb, hgb⟩ : ∃ gb, gb = w.heap.size + 1 := ⟨_, rfl⟩
  obtain ⟨gr, hgr⟩ : ∃ gr, gr = w.heap.size := ⟨_, rfl⟩
  rw [← hw1, ← hgb, ← hgr] at h2
  rw [← hw1] at hb2
  have HS1 := Lib.hid (show Sep B w1 (opE gr gb (.slice none 0 0) ([], [], 0) F) from (h2.perm (List.Perm.swap ..)).rowNil 3 40)
  have HB1 := Lib.hid hb2
  have HW := Lib.hid hw1
  have HGB := Lib.hid hgb
  have HGR := Lib.hid hgr
  have hg1 : B ≤ w1.heap.size := Nat.le_trans hB hb2.size
  have hcn := cutL_cnt 10 text
  obtain ⟨LS, hLS⟩ : ∃ LS, LS = cutL 10 text := ⟨_, rfl⟩
  have hne : LS ≠ [] := by rw [hLS]; exact cutL_ne _ _
  have hcl := cutL_len 10 text
  rw [← hLS] at hcn hcl
  obtain ⟨n1, hn1⟩ : ∃ n1, n1 = LS.length := ⟨_, rfl⟩
  have hn1p : 1 ≤ n1 := by rw [hn1]; exact List.length_pos_iff.2 hne
  have hn1b : n1 ≤ 2001 := by omega
  have HOE := Lib.hid (fun (b : Bk) (i : Nat) (x : List UInt8) (h1 : opL ([], [], 0) (LS.take i) = .inl b) (h2 : LS[i]? = some x) (h3 : i + 1 < n1) (h4 : ¬ (bkLine b x).2 = 0) => (show openB text = (none, i + 1, (bkLine b x).2) by rw [hLS] at h1 h2; exact open_err hlen h1 h2 (by rw [← hLS, ← hn1]; exact h3) h4))
  have HOK := Lib.hid (fun (b : Bk) (i : Nat) (h1 : opL ([], [], 0) (LS.take i) = .inl b) (h3 : i + 1 = n1) => (show openB text = (some b, i, 0) by rw [hLS] at h1; exact open_ok2 hlen h1 (by rw [← hLS, ← hn1]; exact h3)))
  have HCL := Lib.hid (fun x hx => Nat.le_trans (hcl x hx) (show text.length ≤ 10000 by omega))
  have HN1 := Lib.hid hn1
  have hcut : Calls Tryz.prog 46 #[.string (bytesOf text), .int .u8 10] w1 fun e w' => ∃ v, e = .returned v ∧ Sep B w' (strE v (cutL 10 text) :: opE gr gb (.slice none 0 0) ([], [], 0) F) ∧ Below B w1 w' := refCut_any B _ text 10 w1 hg1 HS1.out (by omega)
  rw [← hLS] at hcut
  have HCUT := Lib.hid hcut
  clear hs h1 hb h2 hb2 hw1 hgb hgr hcn hLS hne hcl hn1 hcut hlen
  go_enter Tryz.func23, Tryz.ntmps23
  go_upto_region 4 with fail
  rw [← HW.out, ← HGB.out, ← HGR.out]
  clear HW HGB HGR
  go_wp2_with fail
  refine HCUT.out.mono ?_
  rintro e w2 ⟨sv, rfl, hs2, hb2⟩
  obtain ⟨so, sc, rfl, -⟩ := strShape (A := []) hs2
  rw [← HN1.out] at hs2 ⊢
  have HS2 := Lib.hid hs2
  have HB2 := Lib.hid (HB1.out.trans hb2)
  clear hs2 hb2 HS1 HB1 HCUT hg1
  go_wp2
  go_loopg [7] n1 (fun gk iv wr => ∃ (i : Nat) (sp : Value) (b : Bk), gk + i = n1 ∧ i + 1 ≤ n1 ∧ iv = .int .i64 i ∧ Hid (opL ([], [], 0) (LS.take i) = .inl b ∧ RefB b) ∧ Sep B wr (strE (.slice so n1 sc) LS :: opE gr gb sp b F) ∧ Below B w wr)
  case atStart => exact ⟨0, _, ([], [], 0), rfl, hn1p, rfl, ⟨rfl, RefB.start⟩, HS2.out, HB2.out⟩
  case round =>
    obtain ⟨gi, rfl⟩ : ∃ gi, gi = gk := ⟨_, rfl⟩
    obtain ⟨i, sp, b, hgi, hin, rfl, HST, hsp, hbel⟩ := hrel
    clear HS2 HB2
    have HS3 := Lib.hid hsp
    have HB3 := Lib.hid hbel
    obtain ⟨w3, hw3⟩ : ∃ w3, w3 = wr := ⟨_, rfl⟩
    obtain rfl := hw3
    have hg3 : B ≤ w3.heap.size := Nat.le_trans hB hbel.size
    obtain ⟨spo, spc, rfl, -⟩ := rte_shape (A := [_]) hsp
    clear hsp hbel
    obtain ⟨i1, hi1⟩ : ∃ i1, i1 = i + 1 := ⟨_, rfl⟩
    have hiI : (i : Int) + 1 = (i1 : Int) := by omega
    have hi1b : (i1 : Int) ≤ 2001 := by omega
    by_cases hlt : i1 < n1
    · have hlI : (i1 : Int) < (n1 : Int) := by omega
      have hld : decide ((i1 : Int) < (n1 : Int)) = true := decide_eq_true hlI
      have hldn : decide (i1 < n1) = true := decide_eq_true hlt
      obtain ⟨x, hx⟩ : ∃ x, LS[i]? = some x := ⟨_, List.getElem?_eq_getElem (by rw [← HN1.out]; omega)⟩
      have hxm : x ∈ LS := List.mem_iff_getElem?.2 ⟨i, hx⟩
      have hAT := by
        have h1 := HS3.out
        rw [HN1.out] at h1
        exact strAt (A := []) h1 i x hx
      obtain ⟨g, off, rfl, -, -⟩ := hAT
      have hi0 : (0 : Int) ≤ (i : Int) := by omega
      have hin2 : (i : Int) < (n1 : Int) := by omega
      have hin2d : decide ((i : Int) < (n1 : Int)) = true := decide_eq_true hin2
      have hstat : ∀ w', Sep B w' [strE (.slice (some ⟨g, off, none⟩) n1 sc) LS, Ent.blk1 gb 56 (bkC (.slice spo b.1.length spc) (bkT b.2.1) (b.2.2 : Int))] →
          w'.cell? ⟨gb, 0, none⟩ = some (.slice spo b.1.length spc) ∧ w'.cell? ⟨gb, 1, none⟩ = some (.string (bkT b.2.1)) ∧ w'.cell? ⟨gb, 2, none⟩ = some (.int .i64 (b.2.2 : Int)) ∧ w'.cell? ⟨g, off + i, none⟩ = some (.string (bytesOf x)) := fun w' h => by
        have h1 := h
        rw [HN1.out] at h1
        obtain ⟨g', off', he, -, hcz⟩ := strAt (A := []) h1 i x hx
        cases he
        exact ⟨(Sep.blkAt (A := [_]) h (j := 0) rfl).1, (Sep.blkAt (A := [_]) h (j := 1) rfl).1, (Sep.blkAt (A := [_]) h (j := 2) rfl).1, hcz⟩
      have HSTAT := Lib.hid hstat
      have hLn := fun (w4 : World) (F' : List Ent) (h1 : Sep B w4 (rteE (.slice spo b.1.length spc) b.1 :: F')) (h2 : B ≤ w4.heap.size) => refLine_any B (.slice spo b.1.length spc) b F' x w4 h1 h2 (HCL.out x hxm) HST.out.2.1 HST.out.2.2.1 HST.out.2.2.2
      obtain ⟨r, hr⟩ : ∃ r, r = bkLine b x := ⟨_, rfl⟩
      rw [← hr] at hLn
      have HLN := Lib.hid hLn
      have HR := Lib.hid (And.intro hr (And.intro hx (And.intro hlt (And.intro hi1 hgi))))
      clear hstat hLn hr hx hxm hlt hgi hin hi1
      go_upto_region 8 with fail
      obtain ⟨w4, hw4⟩ : ∃ w4, w4 = w3.drew := ⟨_, rfl⟩
      have HS4 := Lib.hid (show Sep B w4 (rteE (.slice spo b.1.length spc) b.1 :: strE (.slice (some ⟨g, off, none⟩) n1 sc) LS :: bkE0 gr :: Ent.blk1 gb 56 (bkC (.slice spo b.1.length spc) (bkT b.2.1) (b.2.2 : Int)) :: F) by
        rw [hw4]
        exact HS3.out.drew.perm (List.Perm.swap ..))
      have HB4 := Lib.hid (show Below B w w4 by rw [hw4]; exact HB3.out.drew)
      have hg4 : B ≤ w4.heap.size := Nat.le_trans hB HB4.out.size
      have HST4 := Lib.hid (HSTAT.out w4 (HS4.out.sub (List.Sublist.cons _ (List.Sublist.cons_cons _ (List.Sublist.cons _ (List.Sublist.cons_cons _ (List.nil_sublist _)))))))
      refine wp_region_held_drew (S := fun w' => w'.cell? ⟨gb, 0, none⟩ = some (.slice spo b.1.length spc) ∧ w'.cell? ⟨gb, 1, none⟩ = some (.string (bkT b.2.1)) ∧ w'.cell? ⟨gb, 2, none⟩ = some (.int .i64 (b.2.2 : Int)) ∧ w'.cell? ⟨g, off + i, none⟩ = some (.string (bytesOf x))) (by kernel_rfl) (by simp only [← hw4]; exact HST4.out) (fun hHeld => ?_)
      rw [← hw4] at hHeld ⊢
      clear hw4 HS3 HB3 HST4
      refine wpAnyH_take (i := 0) (v := ?va0) rfl (by kernel_rfl) (by kernel_rfl) (by kernel_rfl) (fun _ _ _ h => h) (Or.inl ⟨by rfl, ?hya0⟩) (by assumption) ?resta0
      case hya0 =>
        intro w hSw
        try dsimp only at hSw
        go_simp
        try with_reducible rfl
      try simp only [Act.put, List.setIfInBounds_toArray, List.set_cons_zero, List.set_cons_succ, List.getElem_toArray, List.getElem_cons_zero]
      refine wpAnyH_take (i := 1) (v := ?va1) rfl (by kernel_rfl) (by kernel_rfl) (by kernel_rfl) (fun _ _ _ h => h) (Or.inl ⟨by rfl, ?hya1⟩) (by assumption) ?resta1
      case hya1 =>
        intro w hSw
        try dsimp only at hSw
        go_simp
        try with_reducible rfl
      try simp only [Act.put, List.setIfInBounds_toArray, List.set_cons_zero, List.set_cons_succ, List.getElem_toArray, List.getElem_cons_zero, List.getElem_cons_succ]
      refine wpAnyH_take (i := 2) (v := ?va2) rfl (by kernel_rfl) (by kernel_rfl) (by kernel_rfl) (fun _ _ _ h => h) (Or.inl ⟨by rfl, ?hya2⟩) (by assumption) ?resta2
      case hya2 =>
        intro w hSw
        try dsimp only at hSw
        go_simp
        try with_reducible rfl
      try simp only [Act.put, List.setIfInBounds_toArray, List.set_cons_zero, List.set_cons_succ, List.getElem_toArray, List.getElem_cons_zero, List.getElem_cons_succ]
      refine wpAnyH_take (i := 3) (v := ?va3) rfl (by kernel_rfl) (by kernel_rfl) (by kernel_rfl) (fun _ _ _ h => h) (Or.inl ⟨by rfl, ?hya3⟩) (by assumption) ?resta3
      case hya3 =>
        intro w hSw
        try dsimp only at hSw
        go_simp
        try with_reducible rfl
      try simp only [Act.put, List.setIfInBounds_toArray, List.set_cons_zero, List.set_cons_succ, List.getElem_toArray, List.getElem_cons_zero, List.getElem_cons_succ]
      refine wpAnyH_take (i := 4) (v := ?va4) rfl (by kernel_rfl) (by kernel_rfl) (by kernel_rfl) (fun _ _ _ h => h) (Or.inl ⟨by rfl, ?hya4⟩) (by assumption) ?resta4
      case hya4 =>
        intro w hSw
        try dsimp only at hSw
        go_simp
        try with_reducible rfl
      try simp only [Act.put, List.setIfInBounds_toArray, List.set_cons_zero, List.set_cons_succ, List.getElem_toArray, List.getElem_cons_zero, List.getElem_cons_succ]
      refine wpAnyH_ready (rs := [5, 9]) (by kernel_rfl) (by simp) ?_
      refine AllReadyH.cons rfl (fun K hK => ?_) (AllReadyH.cons rfl (fun K hK => ?_) AllReadyH.nil)
      · go_simp
        go_at_call 47
        refine (HLN.out w4 _ HS4.out hg4).mono ?_
        rintro e w5 ⟨sp', rfl, hs5, hb5⟩
        obtain ⟨ao', N', cap', rfl⟩ : ∃ a n c, sp' = .slice a n c := by
          obtain ⟨a', c', e, -⟩ := rte_shape (A := []) hs5
          exact ⟨a', _, c', e⟩
        have HS5 := Lib.hid hs5
        have HB5 := Lib.hid (HB4.out.trans hb5)
        have hg5 : B ≤ w5.heap.size := Nat.le_trans hB HB5.out.size
        have HST5 := Lib.hid (HSTAT.out w5 (hs5.sub (List.Sublist.cons _ (List.Sublist.cons_cons _ (List.Sublist.cons _ (List.Sublist.cons_cons _ (List.nil_sublist _)))))))
        clear hs5 hb5 HS4 HB4 HLN hg4
        go_wp2_with fail
        refine hK.out _ _ ?_ (fun hHeld5 => ?_)
        · exact HST5.out
        clear hK K
        try simp only [Act.put, List.setIfInBounds_toArray, List.set_cons_zero, List.set_cons_succ, List.getElem_toArray, List.getElem_cons_zero, List.getElem_cons_succ]
        refine wpAnyH_take (i := 6) (v := ?vb6) rfl (by kernel_rfl) (by kernel_rfl) (by kernel_rfl) (fun _ _ _ h => h) (Or.inl ⟨by rfl, ?hyb6⟩) (by assumption) ?restb6
        case hyb6 =>
          intro w hSw
          try dsimp only at hSw
          go_simp
          try with_reducible rfl
        try simp only [Act.put, List.setIfInBounds_toArray, List.set_cons_zero, List.set_cons_succ, List.getElem_toArray, List.getElem_cons_zero, List.getElem_cons_succ]
        refine wpAnyH_take (i := 7) (v := ?vb7) rfl (by kernel_rfl) (by kernel_rfl) (by kernel_rfl) (fun _ _ _ h => h) (Or.inl ⟨by rfl, ?hyb7⟩) (by assumption) ?restb7
        case hyb7 =>
          intro w hSw
          try dsimp only at hSw
          go_simp
          try with_reducible rfl
        try simp only [Act.put, List.setIfInBounds_toArray, List.set_cons_zero, List.set_cons_succ, List.getElem_toArray, List.getElem_cons_zero, List.getElem_cons_succ]
        refine wpAnyH_take (i := 8) (v := ?vb8) rfl (by kernel_rfl) (by kernel_rfl) (by kernel_rfl) (fun _ _ _ h => h) (Or.inl ⟨by rfl, ?hyb8⟩) (by assumption) ?restb8
        case hyb8 =>
          intro w hSw
          try dsimp only at hSw
          go_simp
          try with_reducible rfl
        try simp only [Act.put, List.setIfInBounds_toArray, List.set_cons_zero, List.set_cons_succ, List.getElem_toArray, List.getElem_cons_zero, List.getElem_cons_succ]
        obtain ⟨tt, htt⟩ : ∃ tt, tt = bkT r.1.2.1 := ⟨_, rfl⟩
        obtain ⟨mm, hmm⟩ : ∃ mm : Int, mm = (r.1.2.2 : Int) := ⟨_, rfl⟩
        obtain ⟨rc, hrc⟩ : ∃ rc : Int, rc = r.2 := ⟨_, rfl⟩
        rw [← htt, ← hmm, ← hrc]
        have HTT := Lib.hid (And.intro htt (And.intro hmm hrc))
        clear htt hmm hrc
        have q0 := HS5.out.blkNew hg5 #[.slice none 0 0, .string ⟨#[]⟩, .int .i64 0] 56
        have q3 := HS5.out.blkNew hg5 #[.slice ao' N' cap', .string tt, .int .i64 mm] 56
        obtain ⟨c0, d0⟩ := Sep.blkAt (A := []) q0 (j := 0) rfl
        obtain ⟨c1, d1⟩ := Sep.blkAt (A := []) q0 (j := 1) rfl
        obtain ⟨c2, d2⟩ := Sep.blkAt (A := []) q0 (j := 2) rfl
        have HST6 := Lib.hid (HSTAT.out _ (q0.sub (List.Sublist.cons _ (List.Sublist.cons _ (List.Sublist.cons_cons _ (List.Sublist.cons _ (List.Sublist.cons_cons _ (List.nil_sublist _))))))))
        have HST7 := Lib.hid (HSTAT.out _ (q3.sub (List.Sublist.cons _ (List.Sublist.cons _ (List.Sublist.cons_cons _ (List.Sublist.cons _ (List.Sublist.cons_cons _ (List.nil_sublist _))))))))
        have hb7 := HB5.out.alloc hg5 (.cells #[.slice ao' N' cap', .string tt, .int .i64 mm] 56)
        obtain ⟨w7, hw7⟩ : ∃ w7, w7 = w5.alloc (.cells #[.slice ao' N' cap', .string tt, .int .i64 mm] 56) := ⟨_, rfl⟩
        obtain ⟨gc, hgc⟩ : ∃ gc, gc = w5.heap.size := ⟨_, rfl⟩
        have HS7 := Lib.hid (show Sep B w7 (Ent.blk1 gc 56 [.slice ao' N' cap', .string tt, .int .i64 mm] :: rteE (.slice ao' N' cap') r.1.1 :: strE (.slice (some ⟨g, off, none⟩) n1 sc) LS :: bkE0 gr :: Ent.blk1 gb 56 (bkC (.slice spo b.1.length spc) (bkT b.2.1) (b.2.2 : Int)) :: F) by rw [hw7, hgc]; exact q3)
        have HB7 := Lib.hid (show Below B w w7 by rw [hw7]; exact hb7)
        have HW7 := Lib.hid (And.intro hw7 hgc)
        clear q0 q3 HS5 HB5 HST5 hb7 hw7 hgc
        refine wpAnyH_ready (rs := [9]) (by kernel_rfl) (by simp) ?_
        refine AllReadyH.cons rfl (fun K hK => ?_) AllReadyH.nil
        go_simp
        go_wp2_with fail
        refine hK.out _ _ ?_ (fun hHeld9 => ?_)
        · exact HST6.out
        clear hK K
        try simp only [Act.put, List.setIfInBounds_toArray, List.set_cons_zero, List.set_cons_succ, List.getElem_toArray, List.getElem_cons_zero, List.getElem_cons_succ]
        refine wpAnyH_ready (rs := [10]) (by kernel_rfl) (by simp) ?_
        refine AllReadyH.cons rfl (fun K hK => ?_) AllReadyH.nil
        go_simp
        go_wp2_with fail
        refine hK.out _ _ ?_ (fun hHeld10 => ?_)
        · exact HST7.out
        clear hK K
        try simp only [Act.put, List.setIfInBounds_toArray, List.set_cons_zero, List.set_cons_succ, List.getElem_toArray, List.getElem_cons_zero, List.getElem_cons_succ]
        refine wpAnyH_take (i := 11) (v := ?vb11) rfl (by kernel_rfl) (by kernel_rfl) (by kernel_rfl) (fun _ _ _ h => h) (Or.inl ⟨by rfl, ?hyb11⟩) (by assumption) ?restb11
        case hyb11 =>
          intro w hSw
          try dsimp only at hSw
          go_simp
          try with_reducible rfl
        try simp only [Act.put, List.setIfInBounds_toArray, List.set_cons_zero, List.set_cons_succ, List.getElem_toArray, List.getElem_cons_zero, List.getElem_cons_succ]
        refine wpAnyH_done (by kernel_rfl) ?_ _
        clear c0 d0 c1 d1 c2 d2
        rw [← HW7.out.1, ← HW7.out.2]
        clear HW7 HST6 HST7
        obtain ⟨c0, -⟩ := Sep.blkAt (A := []) HS7.out (j := 0) rfl
        obtain ⟨c1, -⟩ := Sep.blkAt (A := []) HS7.out (j := 1) rfl
        obtain ⟨c2, -⟩ := Sep.blkAt (A := []) HS7.out (j := 2) rfl
        by_cases hz : rc = 0
        · have hzb : (rc != 0) = false := by rw [hz]; rfl
          obtain ⟨s0, f0⟩ := Sep.blkAt (A := [_, _, _, _]) HS7.out (j := 0) rfl
          obtain ⟨s1, f1⟩ := Sep.blkAt (A := [_, _, _, _]) HS7.out (j := 1) rfl
          obtain ⟨s2, f2⟩ := Sep.blkAt (A := [_, _, _, _]) HS7.out (j := 2) rfl
          have hl7 := (Sep.blkLt (A := [_, _, _, _]) HS7.out).1
          have q1 := Sep.blkSet (A := [_, _, _, _]) HS7.out 0 (.slice ao' N' cap')
          have q2 := Sep.blkSet (A := [_, _, _, _]) q1 1 (.string tt)
          have q3 := Sep.blkSet (A := [_, _, _, _]) q2 2 (.int .i64 mm)
          have HE1 := Lib.hid (q3.sub (List.sublist_cons_self _ _))
          have HE2 := Lib.hid (((HB7.out.setCell (p := ⟨gb, 0, none⟩) hl7 (.slice ao' N' cap')).setCell (p := ⟨gb, 1, none⟩) hl7 (.string tt)).setCell (p := ⟨gb, 2, none⟩) hl7 (.int .i64 mm))
          have HZ := Lib.hid hz
          clear q1 q2 q3 hl7 hz
          go_wp2
          go_roundg (gi - 1)
          case measure => have := HR.out.2.2.2.2; have := HR.out.2.2.1; omega
          case rel =>
            obtain ⟨hr, hx, hlt, hi1, hgi⟩ := HR.out
            obtain ⟨e1, e2, e3⟩ := HTT.out
            refine ⟨i1, .slice ao' N' cap', r.1, by omega, by omega, by go_num, ⟨?_, ?_⟩, ?_, HE2.out⟩
            · rw [hi1, hr]
              exact opL_next HST.out.1 hx (by rw [← hr, ← e3]; exact HZ.out)
            · rw [hr]; exact HST.out.2.line x
            · have h9 := HE1.out.perm (List.Perm.swap ..)
              rw [e1, e2] at h9
              rw [e1, e2]
              exact h9
        · have hzb : (rc != 0) = true := bne_iff_ne.2 hz
          obtain ⟨s0, f0⟩ := Sep.blkAt (A := [_, _, _]) HS7.out (j := 0) rfl
          obtain ⟨s1, f1⟩ := Sep.blkAt (A := [_, _, _]) HS7.out (j := 1) rfl
          obtain ⟨s2, f2⟩ := Sep.blkAt (A := [_, _, _]) HS7.out (j := 2) rfl
          have hl7 := (Sep.blkLt (A := [_, _, _]) HS7.out).1
          have q1 := Sep.blkSet (A := [_, _, _]) HS7.out 0 (.slice none 0 0)
          have q2 := Sep.blkSet (A := [_, _, _]) q1 1 (.string ⟨#[]⟩)
          have q3 := Sep.blkSet (A := [_, _, _]) q2 2 (.int .i64 0)
          have k0 := (Sep.blkAt (A := [_, _, _]) q3 (j := 0) rfl).1
          have k1 := (Sep.blkAt (A := [_, _, _]) q3 (j := 1) rfl).1
          have k2 := (Sep.blkAt (A := [_, _, _]) q3 (j := 2) rfl).1
          have HE1 := Lib.hid (q3.sub (List.Sublist.cons _ (List.Sublist.cons _ (List.Sublist.cons _ (List.Sublist.cons _ (List.Sublist.cons _ (List.Sublist.refl _)))))))
          have HE2 := Lib.hid (((HB7.out.setCell (p := ⟨gr, 0, none⟩) hl7 (.slice none 0 0)).setCell (p := ⟨gr, 1, none⟩) hl7 (.string ⟨#[]⟩)).setCell (p := ⟨gr, 2, none⟩) hl7 (.int .i64 0))
          have hop : openB text = (none, i1, rc) := by
            obtain ⟨hr, hx, hlt, hi1, hgi⟩ := HR.out
            obtain ⟨e1, e2, e3⟩ := HTT.out
            rw [HOE.out b i x HST.out.1 hx (by omega) (by rw [← hr, ← e3]; exact hz), ← hr, ← e3, hi1]
          have HOP := Lib.hid hop
          clear q1 q2 q3 hl7 hop hz
          go_wp2
          try simp only [Exit.inBlock, Exit.then]
          refine bodyPost_ret (v := .tuple #[.agg #[.slice none 0 0, .string ⟨#[]⟩, .int .i64 0], .int .i64 (i1 : Int), .int .i64 rc]) (by simp [results, Tryz.results23, go_sem, k0, k1, k2]) rfl ?_
          rw [HOP.out]
          exact ⟨rfl, HE1.out, HE2.out⟩
      · go_simp
        have q0 := (HS4.out.blkNew hg4 #[.slice none 0 0, .string ⟨#[]⟩, .int .i64 0] 56).perm (List.Perm.swap ..)
        have hb4 := HB4.out.alloc hg4 (.cells #[.slice none 0 0, .string ⟨#[]⟩, .int .i64 0] 56)
        obtain ⟨w6, hw6⟩ : ∃ w6, w6 = w4.alloc (.cells #[.slice none 0 0, .string ⟨#[]⟩, .int .i64 0] 56) := ⟨_, rfl⟩
        obtain ⟨gc, hgc⟩ : ∃ gc, gc = w4.heap.size := ⟨_, rfl⟩
        rw [← hw6] at q0 hb4
        rw [← hgc] at q0
        have HS6 := Lib.hid q0
        have HB6 := Lib.hid hb4
        have hg6 : B ≤ w6.heap.size := Nat.le_trans hB HB6.out.size
        have HST6 := Lib.hid (HSTAT.out w6 (q0.sub (List.Sublist.cons _ (List.Sublist.cons _ (List.Sublist.cons_cons _ (List.Sublist.cons _ (List.Sublist.cons_cons _ (List.nil_sublist _))))))))
        have HW6 := Lib.hid hw6
        have HGC := Lib.hid hgc
        clear q0 hb4 hw6 hgc HS4 HB4
        go_wp2_with fail
        rw [← HW6.out, ← HGC.out]
        refine hK.out _ _ ?_ (fun hHeld9 => ?_)
        · exact HST6.out
        clear hK K
        try simp only [Act.put, List.setIfInBounds_toArray, List.set_cons_zero, List.set_cons_succ, List.getElem_toArray, List.getElem_cons_zero, List.getElem_cons_succ]
        refine wpAnyH_ready (rs := [5]) (by kernel_rfl) (by simp) ?_
        refine AllReadyH.cons rfl (fun K hK => ?_) AllReadyH.nil
        go_simp
        go_at_call 47
        refine (HLN.out w6 _ HS6.out hg6).mono ?_
        rintro e w5 ⟨sp', rfl, hs5, hb5⟩
        obtain ⟨ao', N', cap', rfl⟩ : ∃ a n c, sp' = .slice a n c := by
          obtain ⟨a', c', e, -⟩ := rte_shape (A := []) hs5
          exact ⟨a', _, c', e⟩
        have HS5 := Lib.hid hs5
        have HB5 := Lib.hid (HB6.out.trans hb5)
        have hg5 : B ≤ w5.heap.size := Nat.le_trans hB HB5.out.size
        have HST5 := Lib.hid (HSTAT.out w5 (hs5.sub (List.Sublist.cons _ (List.Sublist.cons _ (List.Sublist.cons_cons _ (List.Sublist.cons _ (List.Sublist.cons_cons _ (List.nil_sublist _))))))))
        clear hs5 hb5 HS6 HB6 HLN hg4 HW6 HGC HST6
        go_wp2_with fail
        refine hK.out _ _ ?_ (fun hHeld5 => ?_)
        · exact HST5.out
        clear hK K
        try simp only [Act.put, List.setIfInBounds_toArray, List.set_cons_zero, List.set_cons_succ, List.getElem_toArray, List.getElem_cons_zero, List.getElem_cons_succ]
        refine wpAnyH_take (i := 6) (v := ?vc6) rfl (by kernel_rfl) (by kernel_rfl) (by kernel_rfl) (fun _ _ _ h => h) (Or.inl ⟨by rfl, ?hyc6⟩) (by assumption) ?restc6
        case hyc6 =>
          intro w hSw
          try dsimp only at hSw
          go_simp
          try with_reducible rfl
        try simp only [Act.put, List.setIfInBounds_toArray, List.set_cons_zero, List.set_cons_succ, List.getElem_toArray, List.getElem_cons_zero, List.getElem_cons_succ]
        refine wpAnyH_take (i := 7) (v := ?vc7) rfl (by kernel_rfl) (by kernel_rfl) (by kernel_rfl) (fun _ _ _ h => h) (Or.inl ⟨by rfl, ?hyc7⟩) (by assumption) ?restc7
        case hyc7 =>
          intro w hSw
          try dsimp only at hSw
          go_simp
          try with_reducible rfl
        try simp only [Act.put, List.setIfInBounds_toArray, List.set_cons_zero, List.set_cons_succ, List.getElem_toArray, List.getElem_cons_zero, List.getElem_cons_succ]
        refine wpAnyH_take (i := 8) (v := ?vc8) rfl (by kernel_rfl) (by kernel_rfl) (by kernel_rfl) (fun _ _ _ h => h) (Or.inl ⟨by rfl, ?hyc8⟩) (by assumption) ?restc8
        case hyc8 =>
          intro w hSw
          try dsimp only at hSw
          go_simp
          try with_reducible rfl
        try simp only [Act.put, List.setIfInBounds_toArray, List.set_cons_zero, List.set_cons_succ, List.getElem_toArray, List.getElem_cons_zero, List.getElem_cons_succ]
        obtain ⟨tt, htt⟩ : ∃ tt, tt = bkT r.1.2.1 := ⟨_, rfl⟩
        obtain ⟨mm, hmm⟩ : ∃ mm : Int, mm = (r.1.2.2 : Int) := ⟨_, rfl⟩
        obtain ⟨rc, hrc⟩ : ∃ rc : Int, rc = r.2 := ⟨_, rfl⟩
        rw [← htt, ← hmm, ← hrc]
        have HTT := Lib.hid (And.intro htt (And.intro hmm hrc))
        clear htt hmm hrc
        obtain ⟨c0, d0⟩ := Sep.blkAt (A := [_]) HS5.out (j := 0) rfl
        obtain ⟨c1, d1⟩ := Sep.blkAt (A := [_]) HS5.out (j := 1) rfl
        obtain ⟨c2, d2⟩ := Sep.blkAt (A := [_]) HS5.out (j := 2) rfl
        have hgz := (Sep.blkLt (A := [_]) HS5.out).1
        have q1 := Sep.blkSet (A := [_]) HS5.out 0 (.slice ao' N' cap')
        have q2 := Sep.blkSet (A := [_]) q1 1 (.string tt)
        have q3 := Sep.blkSet (A := [_]) q2 2 (.int .i64 mm)
        have hb7 := ((HB5.out.setCell (p := ⟨gc, 0, none⟩) hgz (.slice ao' N' cap')).setCell (p := ⟨gc, 1, none⟩) hgz (.string tt)).setCell (p := ⟨gc, 2, none⟩) hgz (.int .i64 mm)
        have HST7 := Lib.hid (HSTAT.out _ (q3.sub (List.Sublist.cons _ (List.Sublist.cons _ (List.Sublist.cons_cons _ (List.Sublist.cons _ (List.Sublist.cons_cons _ (List.nil_sublist _))))))))
        obtain ⟨w7, hw7⟩ : ∃ w7, w7 = ((w5.setCell ⟨gc, 0, none⟩ (.slice ao' N' cap')).setCell ⟨gc, 1, none⟩ (.string tt)).setCell ⟨gc, 2, none⟩ (.int .i64 mm) := ⟨_, rfl⟩
        have HS7 := Lib.hid (show Sep B w7 (Ent.blk1 gc 56 [.slice ao' N' cap', .string tt, .int .i64 mm] :: rteE (.slice ao' N' cap') r.1.1 :: strE (.slice (some ⟨g, off, none⟩) n1 sc) LS :: bkE0 gr :: Ent.blk1 gb 56 (bkC (.slice spo b.1.length spc) (bkT b.2.1) (b.2.2 : Int)) :: F) by rw [hw7]; exact q3.perm (List.Perm.swap ..))
        have HB7 := Lib.hid (show Below B w w7 by rw [hw7]; exact hb7)
        have HW7 := Lib.hid hw7
        clear q1 q2 q3 HS5 HB5 HST5 hb7 hw7 hgz
        refine wpAnyH_ready (rs := [10]) (by kernel_rfl) (by simp) ?_
        refine AllReadyH.cons rfl (fun K hK => ?_) AllReadyH.nil
        go_simp
        go_wp2_with fail
        refine hK.out _ _ ?_ (fun hHeld10 => ?_)
        · exact HST7.out
        clear hK K
        try simp only [Act.put, List.setIfInBounds_toArray, List.set_cons_zero, List.set_cons_succ, List.getElem_toArray, List.getElem_cons_zero, List.getElem_cons_succ]
        refine wpAnyH_take (i := 11) (v := ?vc11) rfl (by kernel_rfl) (by kernel_rfl) (by kernel_rfl) (fun _ _ _ h => h) (Or.inl ⟨by rfl, ?hyc11⟩) (by assumption) ?restc11
        case hyc11 =>
          intro w hSw
          try dsimp only at hSw
          go_simp
          try with_reducible rfl
        try simp only [Act.put, List.setIfInBounds_toArray, List.set_cons_zero, List.set_cons_succ, List.getElem_toArray, List.getElem_cons_zero, List.getElem_cons_succ]
        refine wpAnyH_done (by kernel_rfl) ?_ _
        clear c0 d0 c1 d1 c2 d2
        rw [← HW7.out]
        clear HW7 HST7
        obtain ⟨c0, -⟩ := Sep.blkAt (A := []) HS7.out (j := 0) rfl
        obtain ⟨c1, -⟩ := Sep.blkAt (A := []) HS7.out (j := 1) rfl
        obtain ⟨c2, -⟩ := Sep.blkAt (A := []) HS7.out (j := 2) rfl
        by_cases hz : rc = 0
        · have hzb : (rc != 0) = false := by rw [hz]; rfl
          obtain ⟨s0, f0⟩ := Sep.blkAt (A := [_, _, _, _]) HS7.out (j := 0) rfl
          obtain ⟨s1, f1⟩ := Sep.blkAt (A := [_, _, _, _]) HS7.out (j := 1) rfl
          obtain ⟨s2, f2⟩ := Sep.blkAt (A := [_, _, _, _]) HS7.out (j := 2) rfl
          have hl7 := (Sep.blkLt (A := [_, _, _, _]) HS7.out).1
          have q1 := Sep.blkSet (A := [_, _, _, _]) HS7.out 0 (.slice ao' N' cap')
          have q2 := Sep.blkSet (A := [_, _, _, _]) q1 1 (.string tt)
          have q3 := Sep.blkSet (A := [_, _, _, _]) q2 2 (.int .i64 mm)
          have HE1 := Lib.hid (q3.sub (List.sublist_cons_self _ _))
          have HE2 := Lib.hid (((HB7.out.setCell (p := ⟨gb, 0, none⟩) hl7 (.slice ao' N' cap')).setCell (p := ⟨gb, 1, none⟩) hl7 (.string tt)).setCell (p := ⟨gb, 2, none⟩) hl7 (.int .i64 mm))
          have HZ := Lib.hid hz
          clear q1 q2 q3 hl7 hz
          go_wp2
          go_roundg (gi - 1)
          case measure => have := HR.out.2.2.2.2; have := HR.out.2.2.1; omega
          case rel =>
            obtain ⟨hr, hx, hlt, hi1, hgi⟩ := HR.out
            obtain ⟨e1, e2, e3⟩ := HTT.out
            refine ⟨i1, .slice ao' N' cap', r.1, by omega, by omega, by go_num, ⟨?_, ?_⟩, ?_, HE2.out⟩
            · rw [hi1, hr]
              exact opL_next HST.out.1 hx (by rw [← hr, ← e3]; exact HZ.out)
            · rw [hr]; exact HST.out.2.line x
            · have h9 := HE1.out.perm (List.Perm.swap ..)
              rw [e1, e2] at h9
              rw [e1, e2]
              exact h9
        · have hzb : (rc != 0) = true := bne_iff_ne.2 hz
          obtain ⟨s0, f0⟩ := Sep.blkAt (A := [_, _, _]) HS7.out (j := 0) rfl
          obtain ⟨s1, f1⟩ := Sep.blkAt (A := [_, _, _]) HS7.out (j := 1) rfl
          obtain ⟨s2, f2⟩ := Sep.blkAt (A := [_, _, _]) HS7.out (j := 2) rfl
          have hl7 := (Sep.blkLt (A := [_, _, _]) HS7.out).1
          have q1 := Sep.blkSet (A := [_, _, _]) HS7.out 0 (.slice none 0 0)
          have q2 := Sep.blkSet (A := [_, _, _]) q1 1 (.string ⟨#[]⟩)
          have q3 := Sep.blkSet (A := [_, _, _]) q2 2 (.int .i64 0)
          have k0 := (Sep.blkAt (A := [_, _, _]) q3 (j := 0) rfl).1
          have k1 := (Sep.blkAt (A := [_, _, _]) q3 (j := 1) rfl).1
          have k2 := (Sep.blkAt (A := [_, _, _]) q3 (j := 2) rfl).1
          have HE1 := Lib.hid (q3.sub (List.Sublist.cons _ (List.Sublist.cons _ (List.Sublist.cons _ (List.Sublist.cons _ (List.Sublist.cons _ (List.Sublist.refl _)))))))
          have HE2 := Lib.hid (((HB7.out.setCell (p := ⟨gr, 0, none⟩) hl7 (.slice none 0 0)).setCell (p := ⟨gr, 1, none⟩) hl7 (.string ⟨#[]⟩)).setCell (p := ⟨gr, 2, none⟩) hl7 (.int .i64 0))
          have hop : openB text = (none, i1, rc) := by
            obtain ⟨hr, hx, hlt, hi1, hgi⟩ := HR.out
            obtain ⟨e1, e2, e3⟩ := HTT.out
            rw [HOE.out b i x HST.out.1 hx (by omega) (by rw [← hr, ← e3]; exact hz), ← hr, ← e3, hi1]
          have HOP := Lib.hid hop
          clear q1 q2 q3 hl7 hop hz
          go_wp2
          try simp only [Exit.inBlock, Exit.then]
          refine bodyPost_ret (v := .tuple #[.agg #[.slice none 0 0, .string ⟨#[]⟩, .int .i64 0], .int .i64 (i1 : Int), .int .i64 rc]) (by simp [results, Tryz.results23, go_sem, k0, k1, k2]) rfl ?_
          rw [HOP.out]
          exact ⟨rfl, HE1.out, HE2.out⟩
    · obtain rfl : i1 = n1 := by omega
      have hld : decide ((i1 : Int) < (i1 : Int)) = false := by simp
      obtain ⟨b0, b1, b2⟩ := opE_cells HS3.out
      obtain ⟨s0, f0⟩ := Sep.blkAt (A := [_, _]) HS3.out (j := 0) rfl
      obtain ⟨s1, f1⟩ := Sep.blkAt (A := [_, _]) HS3.out (j := 1) rfl
      obtain ⟨s2, f2⟩ := Sep.blkAt (A := [_, _]) HS3.out (j := 2) rfl
      have hl3 := (Sep.blkLt (A := [_, _]) HS3.out).1
      obtain ⟨tt, htt⟩ : ∃ tt, tt = bkT b.2.1 := ⟨_, rfl⟩
      obtain ⟨mm, hmm⟩ : ∃ mm : Int, mm = (b.2.2 : Int) := ⟨_, rfl⟩
      obtain ⟨N', hN'⟩ : ∃ N', N' = b.1.length := ⟨_, rfl⟩
      rw [← htt] at b1
      rw [← hmm] at b2
      rw [← hN'] at b0
      have q1 := Sep.blkSet (A := [_, _]) HS3.out 0 (.slice spo N' spc)
      have q2 := Sep.blkSet (A := [_, _]) q1 1 (.string tt)
      have q3 := Sep.blkSet (A := [_, _]) q2 2 (.int .i64 mm)
      have hb7 := ((HB3.out.setCell (p := ⟨gr, 0, none⟩) hl3 (.slice spo N' spc)).setCell (p := ⟨gr, 1, none⟩) hl3 (.string tt)).setCell (p := ⟨gr, 2, none⟩) hl3 (.int .i64 mm)
      have k0 := (Sep.blkAt (A := [_, _]) q3 (j := 0) rfl).1
      have k1 := (Sep.blkAt (A := [_, _]) q3 (j := 1) rfl).1
      have k2 := (Sep.blkAt (A := [_, _]) q3 (j := 2) rfl).1
      have HE1 := Lib.hid (q3.sub (List.Sublist.cons _ (List.Sublist.cons_cons _ (List.Sublist.cons _ (List.Sublist.cons _ (List.Sublist.refl _))))))
      have HE2 := Lib.hid hb7
      have HTT := Lib.hid (And.intro htt (And.intro hmm hN'))
      have hop := HOK.out b i HST.out.1 hi1.symm
      have HOP := Lib.hid hop
      have hiw : (i1 : Int) - 1 = (i : Int) := by omega
      clear q1 q2 q3 hb7 htt hmm hN' hop hl3 hgi hin hi1 hlt
      go_wp2
      try simp only [Exit.inBlock, Exit.then]
      refine bodyPost_ret (v := .tuple #[.agg #[.slice spo N' spc, .string tt, .int .i64 mm], .int .i64 (i : Int), .int .i64 0]) (by simp [results, Tryz.results23, go_sem, k0, k1, k2]) rfl ?_
      rw [HOP.out]
      obtain ⟨e1, e2, e3⟩ := HTT.out
      exact ⟨_, by rw [e1, e2, e3], HE1.out, HST.out.2, HE2.out⟩
theorem refOpen_any (B : Nat) (F : List Ent) (text : List UInt8) (w : World) (hB : B ≤ w.heap.size) (hs : Sep B w F) :
    Calls Tryz.prog 23 #[.string (bytesOf text)] w fun e w' => RtOpenEnd B F w e w' (openB text) := by
  by_cases h : 2000 < text.length
  · exact refOpen_long B F text h w hB hs
  · exact refOpen_in B F text h w hB hs
end Go.Proofs.YtbcfcjecobihnaaGreatDoor
