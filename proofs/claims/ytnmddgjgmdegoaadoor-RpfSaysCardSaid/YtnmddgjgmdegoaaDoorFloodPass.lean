/- rpf.Flood's 'pass': to all neighbours but one. -/
import Derived.Test.YtnmddgjgmdegoaaDoorNeighb
import Derived.Test.YtnmddgjgmdegoaaDoorQueueCp
namespace Go.Proofs.YtnmddgjgmdegoaaDoor
open Go.RowKit
set_option linter.unusedVariables false
set_option maxRecDepth 100000

def outK (n : Nat) (L : List Lnk) (p : Nat) (b : Int) (k : Nat) : List Nat := ((nbrs n L p).take k).filter fun v => decide (¬ (v : Int) = b)
theorem outK_succ {n : Nat} {L : List Lnk} {p : Nat} {b : Int} {k y : Nat} (h : (nbrs n L p)[k]? = some y) : outK n L p b (k + 1) = outK n L p b k ++ (if (y : Int) = b then [] else [y]) := by
  unfold outK
  rw [List.take_add_one, h, List.filter_append]
  by_cases e : (y : Int) = b
  · rw [if_pos e]; simp [e]
  · rw [if_neg e]; simp [e]
theorem outK_len {n : Nat} {L : List Lnk} {p : Nat} {b : Int} {k : Nat} : (outK n L p b k).length ≤ n := by
  unfold outK
  have h1 := List.length_filter_le (fun v => decide (¬ ((v : Nat) : Int) = b)) ((nbrs n L p).take k)
  have h2 := List.length_take_le' k (nbrs n L p)
  have h3 := List.length_filter_le (fun v => decide (cst L p v < 1000)) (List.range n)
  rw [List.length_range] at h3
  unfold nbrs at *
  omega
theorem outK_all {n : Nat} {L : List Lnk} {o p : Nat} : (outK n L p (byOf n L o p) (nbrs n L p).length).map (fun v => (v, p)) = send n L o p := by
  unfold outK send outs; rw [List.take_length]
theorem outK_count {n : Nat} {L : List Lnk} {o p : Nat} : (outK n L p (byOf n L o p) (nbrs n L p).length).length = (send n L o p).length := by
  rw [← outK_all, List.length_map]
theorem nbrs_few (n : Nat) (L : List Lnk) (p : Nat) : (nbrs n L p).length ≤ n := by
  have h3 := List.length_filter_le (fun v => decide (cst L p v < 1000)) (List.range n)
  rw [List.length_range] at h3
  exact h3
abbrev lkB (g : Nat) (ao : Option Addr) (len ac : Nat) : Ent := Ent.blk1 g 54 [.slice ao len ac]
abbrev snB (g : Nat) (s : Nat) : Ent := Ent.blk1 g 3 [.int .i64 s]
set_option maxHeartbeats 2000000 in
theorem pass_any (n : Nat) (ao : Option Addr) (ac B B0 : Nat) (L : List Lnk) (p : Nat) (b : Int) (gl gs gq s : Nat) (v : Value) (Q : List (Nat × Nat)) (F : List Ent) (w : World) (hA : RowSl B0 w ao 3 (L.map lnkC)) (hB0 : B0 ≤ B) (hB : B ≤ w.heap.size) (hok : VOk n L)
    (hs1 : s ≤ 1000) (hq1 : Q.length ≤ 1000) (hsep : Sep B w (quB gq v :: cpE v Q :: snB gs s :: lkB gl ao L.length ac :: F)) :
    Calls Tryd.prog 38 #[.int .i64 p, .int .i64 b, .pointer (some ⟨gl, 0, none⟩), .pointer (some ⟨gs, 0, none⟩), .pointer (some ⟨gq, 0, none⟩)] w fun e w' => e = .returned (.tuple #[]) ∧
      (∃ v', Sep B w' (quB gq v' :: cpE v' (Q ++ (outK n L p b (nbrs n L p).length).map fun v => (v, p)) :: snB gs (s + (outK n L p b (nbrs n L p).length).length) :: lkB gl ao L.length ac :: F)) ∧ Below B w w' := by
  have hl32 := hok.few
  have hn8 := hok.n8
  have hnf := nbrs_few n L p
  have HA := Lib.hid hA
  have HOK := Lib.hid hok
  have HS := Lib.hid hsep
  obtain ⟨l0, l1⟩ := Sep.blkAt (A := [_, _, _]) hsep (j := 0) rfl
  clear hA hok hsep
  go_enter Tryd.func38, Tryd.ntmps38
  go_wp2_with fail
  refine (neighb_any n _ _ _ B0 L p _ HA.out rfl (Nat.le_trans hB0 hB) HOK.out).mono ?_
  rintro e w1 ⟨vn, rfl, hsn, hbn⟩
  have hj := Sep.join HS.out hB hbn hsn
  have hj2 := hj.perm (L' := quB gq v :: cpE v Q :: Ent.ints 3 vn (nbrI n L p) :: snB gs s :: lkB gl ao L.length ac :: F) (by
    simp only [List.cons_append, List.nil_append]
    exact (List.Perm.swap _ _ _).trans ((List.Perm.swap _ _ _).cons _))
  obtain ⟨an, cn, rfl, hcn, -⟩ := Sep.intsShape (A := [_, _]) hj2
  have hnl : (nbrI n L p).length = (nbrs n L p).length := by unfold nbrI; rw [List.length_map]
  rw [hnl] at hj2 hcn
  obtain ⟨N, hN⟩ : ∃ N, N = (nbrs n L p).length := ⟨_, rfl⟩
  rw [← hN] at hj2 hcn hnf
  have HS1 := Lib.hid hj2
  have HB1 := Lib.hid (hbn.mono hB)
  have HN := Lib.hid hN
  have HNL := Lib.hid hnl
  rw [hnl, ← hN]
  clear hj hj2 hsn hbn l0 l1 hnl hN HS
  go_wp2
  go_loopg [13] N (fun gk iv wr => ∃ (k : Nat) (v' : Value), gk + k = N ∧ iv = .int .i64 k ∧ Sep B wr (quB gq v' :: cpE v' (Q ++ (outK n L p b k).map fun v => (v, p)) :: Ent.ints 3 (.slice an N cn) (nbrI n L p) :: snB gs (s + (outK n L p b k).length) :: lkB gl ao L.length ac :: F) ∧ Below B w wr)
  case atStart =>
    refine ⟨0, v, by omega, rfl, ?_, HB1.out⟩
    have h0 : outK n L p b 0 = [] := by simp [outK]
    rw [h0]
    simpa using HS1.out
  case round =>
    obtain ⟨gi, rfl⟩ : ∃ gi, gi = gk := ⟨_, rfl⟩
    obtain ⟨k, v3, hgi, rfl, hs, hb⟩ := hrel
    have HS3 := Lib.hid hs
    have HB3 := Lib.hid hb
    have hg3 : B ≤ wr.heap.size := Nat.le_trans hB hb.size
    clear hs hb HS1 HB1
    by_cases hlt : k < N
    · have hki : (k : Int) < (N : Int) := by omega
      have hk0 : (0 : Int) ≤ (k : Int) := by omega
      obtain ⟨y, hy⟩ : ∃ y, (nbrs n L p)[k]? = some y := ⟨_, List.getElem?_eq_getElem (by rw [← HN.out]; exact hlt)⟩
      have hyI : (nbrI n L p)[k]? = some (y : Int) := by unfold nbrI; rw [List.getElem?_map, hy]; rfl
      have hs3' : Sep B wr ([quB gq v3, cpE v3 (Q ++ (outK n L p b k).map fun v => (v, p))] ++ Ent.ints 3 (.slice an (nbrI n L p).length cn) (nbrI n L p) :: (snB gs (s + (outK n L p b k).length) :: lkB gl ao L.length ac :: F)) := by rw [HNL.out, ← HN.out]; exact HS3.out
      obtain ⟨gn, on, rfl, cy, -⟩ := Sep.intsAt hs3' hyI
      clear hs3'
      have hyn := (mem_nbrs.1 (List.mem_iff_getElem?.2 ⟨k, hy⟩)).1
      have hnx := outK_succ (b := b) hy
      have hol := outK_len (n := n) (L := L) (p := p) (b := b) (k := k)
      by_cases hyb : (y : Int) = b
      · have hq : ((y : Int) != b) = false := by simp [hyb]
        rw [if_pos hyb, List.append_nil] at hnx
        have HNX := Lib.hid hnx
        clear hnx hyb hy hyI hol
        go_wp2
        go_roundg (gi - 1)
        case measure => omega
        case rel => exact ⟨k + 1, v3, by omega, by go_num, by rw [HNX.out]; exact HS3.out, HB3.out⟩
      · have hq : ((y : Int) != b) = true := by simp [hyb]
        rw [if_neg hyb] at hnx
        obtain ⟨sm, hsm⟩ : ∃ sm, sm = s + (outK n L p b k).length := ⟨_, rfl⟩
        have hs4 := HS3.out
        rw [← hsm] at hs4
        obtain ⟨m0, m1⟩ := Sep.blkAt (A := [_, _, _]) hs4 (j := 0) rfl
        have hsmb : sm ≤ 2000 := by omega
        have hs5 := Sep.blkSet (A := [_, _, _]) hs4 0 (.int .i64 ((sm : Int) + 1))
        have hb5 := HB3.out.setCell (p := ⟨gs, 0, none⟩) (Sep.blkLt (A := [_, _, _]) hs4).1 (.int .i64 ((sm : Int) + 1))
        have hg5 : B ≤ (wr.setCell ⟨gs, 0, none⟩ (.int .i64 ((sm : Int) + 1))).heap.size := Nat.le_trans hB hb5.size
        have hql : (Q ++ (outK n L p b k).map fun v => (v, p)).length ≤ 1000000 := by rw [List.length_append, List.length_map]; omega
        have HPU := Lib.hid (cpush_any B gq v3 (Q ++ (outK n L p b k).map fun v => (v, p)) (y, p) _ _ hql hg5 hs5)
        have HNX := Lib.hid hnx
        have HSM := Lib.hid hsm
        have HB5 := Lib.hid hb5
        clear hnx hyb hy hyI hol hs4 hs5 hb5 hg5 hql hsm
        go_wp2_with fail
        refine HPU.out.mono ?_
        rintro e w6 ⟨rfl, ⟨v6, hs6⟩, hb6⟩
        have hs7 : Sep B w6 (quB gq v6 :: cpE v6 (Q ++ (outK n L p b (k + 1)).map fun v => (v, p)) :: Ent.ints 3 (.slice (some ⟨gn, on, none⟩) N cn) (nbrI n L p) :: snB gs (s + (outK n L p b (k + 1)).length) :: lkB gl ao L.length ac :: F) := by
          rw [HNX.out, List.map_append, List.length_append, ← List.append_assoc, ← Nat.add_assoc, ← HSM.out]
          exact hs6
        have HS7 := Lib.hid hs7
        have HB7 := Lib.hid (HB5.out.trans hb6)
        clear hs6 hb6 hs7
        go_wp2
        go_roundg (gi - 1)
        case measure => omega
        case rel => exact ⟨k + 1, v6, by omega, by go_num, HS7.out, HB7.out⟩
    · obtain rfl : k = N := by omega
      have HS8 := Lib.hid (HS3.out.sub (L' := quB gq v3 :: cpE v3 (Q ++ (outK n L p b k).map fun v => (v, p)) :: snB gs (s + (outK n L p b k).length) :: lkB gl ao L.length ac :: F) ((List.Sublist.refl _ |>.cons _).cons_cons _ |>.cons_cons _))
      go_wp2
      go_end0
      exact ⟨rfl, ⟨_, by rw [← HN.out]; exact HS8.out⟩, HB3.out⟩
end Go.Proofs.YtnmddgjgmdegoaaDoor
