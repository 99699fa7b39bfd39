/- vector.Rounds where nothing is wrong. -/
import Derived.Test.YtnmddgjgmdegoaaVRounds
namespace Go.Proofs.Ytnmddgjgmdegoaa
open Go.RowKit
set_option linter.unusedVariables false

theorem mat_cell {B : Nat} {w : World} {F C : List Ent} {g o c : Nat} {P : Nat → Nat × Nat × Nat} {m n : Nat} {M : Nat → Nat → Int} (h : Sep B w (F ++ (matE (.slice (some ⟨g, o, none⟩) m c) P m n M ++ C))) {i : Nat} (hi : i < m) : w.cell? ⟨g, o + i, none⟩ = some (rowV P n i) := by
  obtain ⟨ao, c', he, _, h2⟩ := mat_out h
  obtain ⟨g', o', h3, _, h4⟩ := h2 (by omega)
  simp only [Value.slice.injEq] at he
  obtain ⟨rfl, _, _⟩ := he
  simp only [Option.some.injEq, Addr.mk.injEq, and_true] at h3
  obtain ⟨rfl, rfl⟩ := h3
  exact h4 i hi

/-- The cells that one store of a round reads: the row r of what is new, the row s of what is known. -/
theorem two_cells {B : Nat} {w : World} {gl gx ox cx gn on cn n : Nat} {lk : List Value} {el : TypeId} {Px Pn : Nat → Nat × Nat × Nat} {M N : Nat → Nat → Int}
    (h : Sep B w (Ent.blk1 gl el lk :: (matE (.slice (some ⟨gx, ox, none⟩) n cx) Px n n M ++ (matE (.slice (some ⟨gn, on, none⟩) n cn) Pn n n N ++ [])))) {r s j : Nat} (hr : r < n) (hs : s < n) (hj : j < n) :
    w.cell? ⟨gx, ox + r, none⟩ = some (rowV Px n r) ∧ w.cell? ⟨gn, on + s, none⟩ = some (rowV Pn n s) ∧ w.cell? ⟨(Px r).1, (Px r).2.1 + j, none⟩ = some (.int .i64 (M r j)) ∧ w.frozen? ⟨(Px r).1, (Px r).2.1 + j, none⟩ = false ∧
      w.cell? ⟨(Pn s).1, (Pn s).2.1 + j, none⟩ = some (.int .i64 (N s j)) ∧ B ≤ (Px r).1 ∧
      ∀ y, Sep B (w.setCell ⟨(Px r).1, (Px r).2.1 + j, none⟩ (.int .i64 y)) (Ent.blk1 gl el lk :: (matE (.slice (some ⟨gx, ox, none⟩) n cx) Px n n (upd2 M r j y) ++ (matE (.slice (some ⟨gn, on, none⟩) n cn) Pn n n N ++ []))) := by
  have h1 : Sep B w ([Ent.blk1 gl el lk] ++ (matE (.slice (some ⟨gx, ox, none⟩) n cx) Px n n M ++ (matE (.slice (some ⟨gn, on, none⟩) n cn) Pn n n N ++ []))) := h
  have h2 : Sep B w ((Ent.blk1 gl el lk :: matE (.slice (some ⟨gx, ox, none⟩) n cx) Px n n M) ++ (matE (.slice (some ⟨gn, on, none⟩) n cn) Pn n n N ++ [])) := h
  obtain ⟨a1, a2, a3, a4⟩ := mat_at h1 hr hj
  obtain ⟨b1, _, _, _⟩ := mat_at h2 hs hj
  exact ⟨mat_cell h1 hr, mat_cell h2 hs, a1, a2, b1, a3, a4⟩

set_option maxHeartbeats 8000000 in
set_option maxRecDepth 100000 in
theorem rounds_ok (n : Nat) (ao : Option Addr) (len ac B0 : Nat) (L : List Lnk) (r : Nat) (w : World) (hA : RowSl B0 w ao 3 (L.map lnkC)) (hlen : len = L.length) (hB : B0 ≤ w.heap.size) (hok : VOk n L) (hr : r ≤ 20) :
    Calls Try.prog 31 #[.int .i64 n, .slice ao len ac, .int .i64 r] w fun e w' => ∃ v P, e = .returned (.tuple #[v, .nilIface]) ∧ Sep w.heap.size w' (matE v P n n (bell (edges L) r)) ∧ Below w.heap.size w w' := by
  subst hlen
  have hn1 := hok.n1
  have hn8 := hok.n8
  have hl32 := hok.few
  have HA := Lib.hid hA; clear hA
  have HOK := Lib.hid hok; clear hok
  obtain ⟨g, hg⟩ : ∃ g, g = w.heap.size := ⟨_, rfl⟩
  have hB0 : B0 ≤ g := by omega
  have HG := Lib.hid hg; clear hg
  have hri : (r : Int) ≤ 20 := by omega
  have hr0 : (0 : Int) ≤ (r : Int) := by omega
  go_enter Try.func31, Try.ntmps31
  go_wp2_with fail
  refine (vCheck_any _ _ _ _ _ L _ HA.out rfl (by omega) hB).mono ?_
  rintro e w1 ⟨rfl, hb⟩
  rw [vCode_nat.2 HOK.out, errV_zero]
  have HB1 := Lib.hid (show Below g w w1 by rw [HG.out]; exact hb); clear hb
  have hg1 : g ≤ w1.heap.size := by have := HB1.out.size; rw [← HG.out] at this; exact this
  go_wp2_with fail
  refine (within_yes _ _ _ _ hr0 hri).mono ?_
  rintro e w' ⟨rfl, rfl⟩
  go_wp2_with fail
  refine (begin_any n ⟨hn1, hn8⟩ _).mono ?_
  rintro e w2 ⟨v0, P0, rfl, hs, hb⟩
  have HS2 := Lib.hid (hs.mono hg1)
  have HB2 := Lib.hid (HB1.out.trans (hb.mono hg1))
  clear hs hb
  go_wp2
  go_loopg [9, 27] r (fun gk vv i wr => ∃ (t : Nat) (vn : Value) (Pn : Nat → Nat × Nat × Nat), gk + t = r ∧ vn = vv ∧ i = .int .i64 t ∧ Sep g wr (matE vn Pn n n (bell (edges L) t)) ∧ Below g w wr)
  case atStart => exact ⟨0, _, P0, by omega, rfl, rfl, HS2.out, HB2.out⟩
  case round =>
    obtain ⟨gi, rfl⟩ : ∃ gi, gi = gk := ⟨_, rfl⟩
    obtain ⟨t, vn, Pn, hgt, rfl, rfl, hsep, hbel⟩ := hrel
    have HS3 := Lib.hid hsep; clear hsep
    have HB3 := Lib.hid hbel; clear hbel
    have hg3 : g ≤ wr.heap.size := by have := HB3.out.size; rw [← HG.out] at this; exact this
    by_cases hlt : t < r
    · have hti : (t : Int) < (r : Int) := by omega
      go_wp2_with fail
      refine (begin_any n ⟨hn1, hn8⟩ _).mono ?_
      rintro e w4 ⟨vx, Px, rfl, hs, hb⟩
      have hs4 := Sep.join HS3.out hg3 hb hs
      have hb4 := HB3.out.trans (hb.mono hg3)
      obtain ⟨N, hN⟩ : ∃ N, N = bell (edges L) t := ⟨_, rfl⟩
      rw [← hN] at hs4
      have hs5 : Sep g w4 ([] ++ (matE vx Px n n base ++ (matE vn Pn n n N ++ []))) := by rw [List.append_nil]; exact hs4
      have hs6 : Sep g w4 (matE vx Px n n base ++ (matE vn Pn n n N ++ [])) := hs5
      obtain ⟨ax, cx, rfl, hcx, hx⟩ := mat_out hs5
      obtain ⟨an, cn, rfl, hcn, hnn⟩ := mat_out hs6
      obtain ⟨gx, ox, rfl, _, _⟩ := hx (by omega)
      obtain ⟨gn, on, rfl, _, _⟩ := hnn (by omega)
      have hNr : ∀ i j, 0 ≤ N i j ∧ N i j ≤ 1000 := fun i j => by rw [hN]; exact ⟨(bell_lst HOK.out.net t i j).nonneg HOK.out.net, (bell_lst HOK.out.net t i j).2.1⟩
      have hE0 : ∀ u v c, (u, v, c) ∈ edges L → 0 ≤ c := fun u v c he => by have := HOK.out.net.dom _ _ _ he; omega
      have hsr : ∀ q i j, 0 ≤ srow (edges (L.take q)) N i j ∧ srow (edges (L.take q)) N i j ≤ 1000 := fun q i j => srow_range (fun u v c he => by
        obtain ⟨x, hx, hxe⟩ := mem_edges.1 he
        exact hE0 u v c (mem_edges.2 ⟨x, List.mem_of_mem_take hx, hxe⟩)) (fun i j => (hNr i j).1) i j
      have HN := Lib.hid hN
      have HNR := Lib.hid hNr
      have HE0 := Lib.hid hE0
      have HSR := Lib.hid hsr
      have HS6 := Lib.hid hs6
      have HB6 := Lib.hid hb4
      clear hs hb hs4 hb4 hs5 hs6 hx hnn hN hNr hE0 hsr HS2 HB2 HS3
      go_wp2
      go_loopw [33] (fun i wr => ∃ q : Nat, q ≤ L.length ∧ i = .int .i64 q ∧ Sep g wr (matE (.slice (some ⟨gx, ox, none⟩) n cx) Px n n (srow (edges (L.take q)) N) ++ (matE (.slice (some ⟨gn, on, none⟩) n cn) Pn n n N ++ [])) ∧ Below g w wr) (fun i _ => L.length - (intOf i).toNat)
      case atStart => exact ⟨0, Nat.zero_le _, rfl, HS6.out, HB6.out⟩
      case round =>
        obtain ⟨q, hq, rfl, hsep, hbel⟩ := hrel
        have HS7 := Lib.hid hsep; clear hsep
        have HB7 := Lib.hid hbel; clear hbel
        have hg7 : g ≤ wr.heap.size := by have := HB7.out.size; rw [← HG.out] at this; exact this
        by_cases hql : q < L.length
        · obtain ⟨x, hx⟩ : ∃ x, L[q]? = some x := ⟨_, List.getElem?_eq_getElem hql⟩
          obtain ⟨b, off, rfl, hbb, c0, c1, c2⟩ := (HA.out.below (HB7.out.mono hB0)).lnk hx
          have hlo := HOK.out.each x (List.mem_iff_getElem?.2 ⟨q, hx⟩)
          obtain ⟨xa, xb, xc⟩ := x
          obtain ⟨⟨la1, la2⟩, ⟨lb1, lb2⟩, ⟨lc1, lc2⟩, lne⟩ := hlo
          simp only at c0 c1 c2 la1 la2 lb1 lb2 lc1 lc2 lne
          obtain ⟨A, rfl⟩ := Int.eq_ofNat_of_zero_le la1
          obtain ⟨B, rfl⟩ := Int.eq_ofNat_of_zero_le lb1
          have hAn : A < n := by omega
          have hBn : B < n := by omega
          have hAB : A ≠ B := by omega
          have HX := Lib.hid hx
          clear hx la1 la2 lb1 lb2 lne
          have hs8 := Sep.blkNew HS7.out hg7 #[.int .i64 A, .int .i64 B, .int .i64 xc] 71
          have HS8 := Lib.hid hs8; clear hs8
          have HB8 := Lib.hid (HB7.out.alloc hg7 (.cells #[.int .i64 A, .int .i64 B, .int .i64 xc] 71))
          have hqi : (q : Int) < (L.length : Int) := by omega
          go_upto_region 13 with fail
          obtain ⟨gl, hgl⟩ : ∃ gl, gl = wr.heap.size := ⟨_, rfl⟩
          rw [← hgl] at HS8 hg7 ⊢
          generalize wr.alloc (.cells #[.int .i64 A, .int .i64 B, .int .i64 xc] 71) = w8 at *
          clear c0 c1 c2 hgl HS7 HB7 hqi
          have hst : Sep g w8 (Ent.blk1 gl 71 [.int .i64 A, .int .i64 B, .int .i64 xc] :: (matE (.slice (some ⟨gx, ox, none⟩) n cx) Px n n (colM (srow (edges (L.take q)) N) (srow (edges (L.take (q + 1))) N) 0) ++ (matE (.slice (some ⟨gn, on, none⟩) n cn) Pn n n N ++ []))) := by
            rw [mat_congr (M := colM (srow (edges (L.take q)) N) (srow (edges (L.take (q + 1))) N) 0) (M' := srow (edges (L.take q)) N) (fun i j _ _ => if_neg (Nat.not_lt_zero _))]
            exact HS8.out
          have HST := Lib.hid hst; clear hst HS8
          go_wp2
          go_loopw [38] (fun i wr => ∃ J : Nat, J ≤ n ∧ i = .int .i64 J ∧ Sep g wr (Ent.blk1 gl 71 [.int .i64 A, .int .i64 B, .int .i64 xc] :: (matE (.slice (some ⟨gx, ox, none⟩) n cx) Px n n (colM (srow (edges (L.take q)) N) (srow (edges (L.take (q + 1))) N) J) ++ (matE (.slice (some ⟨gn, on, none⟩) n cn) Pn n n N ++ []))) ∧ Below g w wr) (fun i _ => n - (intOf i).toNat)
          case atStart => exact ⟨0, Nat.zero_le _, rfl, HST.out, HB8.out⟩
          case round =>
            obtain ⟨J, hJn, rfl, hsep, hbel⟩ := hrel
            have HS9 := Lib.hid hsep; clear hsep
            have HB9 := Lib.hid hbel; clear hbel
            by_cases hJ : J < n
            · have hJi : (J : Int) < (n : Int) := by omega
              have hJ0 : (0 : Int) ≤ (J : Int) := by omega
              have hAi : (A : Int) < (n : Int) := by omega
              have hBi : (B : Int) < (n : Int) := by omega
              obtain ⟨sa, hsa⟩ : ∃ sa, sa = srow (edges (L.take q)) N A J := ⟨_, rfl⟩
              obtain ⟨sb, hsb⟩ : ∃ sb, sb = srow (edges (L.take q)) N B J := ⟨_, rfl⟩
              obtain ⟨na, hna⟩ : ∃ na, na = N A J := ⟨_, rfl⟩
              obtain ⟨nb, hnb⟩ : ∃ nb, nb = N B J := ⟨_, rfl⟩
              have r1 := HNR.out A J
              have r2 := HNR.out B J
              rw [← hna] at r1
              rw [← hnb] at r2
              obtain ⟨ya, hya⟩ : ∃ ya, ya = xc + nb := ⟨_, rfl⟩
              obtain ⟨yb, hyb⟩ : ∃ yb, yb = xc + na := ⟨_, rfl⟩
              have hwa : IntKind.i64.wrap (xc + nb) = ya := by rw [hya]; simp [IntKind.wrap, IntKind.bits, IntKind.signed]; omega
              have hwb : IntKind.i64.wrap (xc + na) = yb := by rw [hyb]; simp [IntKind.wrap, IntKind.bits, IntKind.signed]; omega
              have HSA := Lib.hid hsa
              have HSB := Lib.hid hsb
              have HNA := Lib.hid hna
              have HNB := Lib.hid hnb
              have HYA := Lib.hid hya
              have HYB := Lib.hid hyb
              clear hsa hsb hna hnb hya hyb r1 r2
              obtain ⟨M, hM⟩ : ∃ M, M = colM (srow (edges (L.take q)) N) (srow (edges (L.take (q + 1))) N) J := ⟨_, rfl⟩
              have hMA : M A J = sa := by rw [hM, colM_here, HSA.out]
              have hMB : M B J = sb := by rw [hM, colM_here, HSB.out]
              have HS9' := Lib.hid (show Sep g wr (Ent.blk1 gl 71 [.int .i64 A, .int .i64 B, .int .i64 xc] :: (matE (.slice (some ⟨gx, ox, none⟩) n cx) Px n n M ++ (matE (.slice (some ⟨gn, on, none⟩) n cn) Pn n n N ++ []))) by rw [hM]; exact HS9.out)
              have HM := Lib.hid hM
              have HMA := Lib.hid hMA
              have HMB := Lib.hid hMB
              clear hM hMA hMB HS9
              by_cases hJA : J = A
              · subst hJA
                have hna1 : ((J : Int) != (J : Int)) = false := by simp
                have hnb1 : ((J : Int) != (B : Int)) = true := by simp; omega
                obtain ⟨l0, _⟩ := Sep.blkAt (A := []) HS9'.out (j := 0) rfl
                go_upto_region 18 with fail
                clear l0
                obtain ⟨p1, p2, p3, p4, p5, p6, p7⟩ := two_cells HS9'.out hBn hAn hJ
                obtain ⟨l0, _⟩ := Sep.blkAt (A := []) HS9'.out (j := 0) rfl
                obtain ⟨l1, _⟩ := Sep.blkAt (A := []) HS9'.out (j := 1) rfl
                obtain ⟨l2, _⟩ := Sep.blkAt (A := []) HS9'.out (j := 2) rfl
                unfold rowV at p1 p2
                rw [HMB.out] at p3
                rw [← HNA.out] at p5
                go_upto_region 19 with fail
                go_still_tail 27, (by kernel_rfl)
                change wpList _ _ _ _ _ (World.drew wr)
                have HSD := Lib.hid HS9'.out.drew
                have HBD := Lib.hid (HB9.out.trans (below_drew g wr))
                clear p1 p2 p3 p4 p5 p6 p7 l0 l1 l2
                generalize World.drew wr = wd at *
                obtain ⟨_, _, p3, p4, _, p6, p7⟩ := two_cells HSD.out hBn hAn hJ
                rw [HMB.out] at p3
                have HS10 := Lib.hid (p7 (min sb yb))
                have HB10 := Lib.hid (HBD.out.setCell (p := ⟨(Px B).1, (Px B).2.1 + J, none⟩) p6 (.int .i64 (min sb yb)))
                clear p7
                go_upto_region 20 with fail
                generalize wd.setCell ⟨(Px B).1, (Px B).2.1 + J, none⟩ (.int .i64 (min sb yb)) = w10 at *
                clear p3 p4 p6 HSD HBD
                have hfin : Sep g w10 (Ent.blk1 gl 71 [.int .i64 J, .int .i64 B, .int .i64 xc] :: (matE (.slice (some ⟨gx, ox, none⟩) n cx) Px n n (colM (srow (edges (L.take q)) N) (srow (edges (L.take (q + 1))) N) (J + 1)) ++ (matE (.slice (some ⟨gn, on, none⟩) n cn) Pn n n N ++ []))) := by
                  have h := HS10.out
                  rw [HM.out, HSB.out, HYB.out, HNA.out, mat_congr (fun i j _ _ => col_second HX.out hAB HE0.out (by omega) (fun i j => (HNR.out i j).1) i j)] at h
                  exact h
                have HF := Lib.hid hfin; clear hfin
                go_wp2
                go_roundw
                case rel => exact ⟨J + 1, by omega, by go_num, HF.out, HB10.out⟩
                case measure => simp [intOf]; omega
              · by_cases hJB : J = B
                · subst hJB
                  have hna1 : ((J : Int) != (A : Int)) = true := by simp; omega
                  have hnb1 : ((J : Int) != (J : Int)) = false := by simp
                  obtain ⟨p1, p2, p3, p4, p5, p6, p7⟩ := two_cells HS9'.out hAn hBn hJ
                  obtain ⟨l0, _⟩ := Sep.blkAt (A := []) HS9'.out (j := 0) rfl
                  obtain ⟨l1, _⟩ := Sep.blkAt (A := []) HS9'.out (j := 1) rfl
                  obtain ⟨l2, _⟩ := Sep.blkAt (A := []) HS9'.out (j := 2) rfl
                  unfold rowV at p1 p2
                  rw [HMA.out] at p3
                  rw [← HNB.out] at p5
                  go_upto_region 17 with fail
                  go_still_tail 27, (by kernel_rfl)
                  change wpList _ _ _ _ _ (World.drew wr)
                  have HSD := Lib.hid HS9'.out.drew
                  have HBD := Lib.hid (HB9.out.trans (below_drew g wr))
                  clear p1 p2 p3 p4 p5 p6 p7 l0 l1 l2
                  generalize World.drew wr = wd at *
                  obtain ⟨_, _, p3, p4, _, p6, p7⟩ := two_cells HSD.out hAn hBn hJ
                  rw [HMA.out] at p3
                  have HS10 := Lib.hid (p7 (min sa ya))
                  have HB10 := Lib.hid (HBD.out.setCell (p := ⟨(Px A).1, (Px A).2.1 + J, none⟩) p6 (.int .i64 (min sa ya)))
                  clear p7
                  go_upto_region 18 with fail
                  generalize wd.setCell ⟨(Px A).1, (Px A).2.1 + J, none⟩ (.int .i64 (min sa ya)) = w10 at *
                  clear p3 p4 p6 HSD HBD
                  obtain ⟨l1, _⟩ := Sep.blkAt (A := []) HS10.out (j := 1) rfl
                  have hfin : Sep g w10 (Ent.blk1 gl 71 [.int .i64 A, .int .i64 J, .int .i64 xc] :: (matE (.slice (some ⟨gx, ox, none⟩) n cx) Px n n (colM (srow (edges (L.take q)) N) (srow (edges (L.take (q + 1))) N) (J + 1)) ++ (matE (.slice (some ⟨gn, on, none⟩) n cn) Pn n n N ++ []))) := by
                    have h := HS10.out
                    rw [HM.out, HSA.out, HYA.out, HNB.out, mat_congr (fun i j _ _ => col_first HX.out hAB HE0.out (by omega) (fun i j => (HNR.out i j).1) i j)] at h
                    exact h
                  have HF := Lib.hid hfin; clear hfin
                  go_wp2
                  go_roundw
                  case rel => exact ⟨J + 1, by omega, by go_num, HF.out, HB10.out⟩
                  case measure => simp [intOf]; omega
                · have hna1 : ((J : Int) != (A : Int)) = true := by simp; omega
                  have hnb1 : ((J : Int) != (B : Int)) = true := by simp; omega
                  obtain ⟨p1, p2, p3, p4, p5, p6, p7⟩ := two_cells HS9'.out hAn hBn hJ
                  obtain ⟨l0, _⟩ := Sep.blkAt (A := []) HS9'.out (j := 0) rfl
                  obtain ⟨l1, _⟩ := Sep.blkAt (A := []) HS9'.out (j := 1) rfl
                  obtain ⟨l2, _⟩ := Sep.blkAt (A := []) HS9'.out (j := 2) rfl
                  unfold rowV at p1 p2
                  rw [HMA.out] at p3
                  rw [← HNB.out] at p5
                  go_upto_region 17 with fail
                  go_still_tail 27, (by kernel_rfl)
                  change wpList _ _ _ _ _ (World.drew wr)
                  have HSD := Lib.hid HS9'.out.drew
                  have HBD := Lib.hid (HB9.out.trans (below_drew g wr))
                  clear p1 p2 p3 p4 p5 p6 p7 l0 l1 l2
                  generalize World.drew wr = wd at *
                  obtain ⟨_, _, p3, p4, _, p6, p7⟩ := two_cells HSD.out hAn hBn hJ
                  rw [HMA.out] at p3
                  have HS10 := Lib.hid (p7 (min sa ya))
                  have HB10 := Lib.hid (HBD.out.setCell (p := ⟨(Px A).1, (Px A).2.1 + J, none⟩) p6 (.int .i64 (min sa ya)))
                  clear p7
                  go_upto_region 18 with fail
                  generalize wd.setCell ⟨(Px A).1, (Px A).2.1 + J, none⟩ (.int .i64 (min sa ya)) = w10 at *
                  clear p3 p4 p6 HSD HBD
                  have hMB2 : upd2 M A J (min sa ya) B J = sb := by rw [upd2_at, if_neg (fun e => hAB e.1.symm)]; exact HMB.out
                  obtain ⟨p1, p2, p3, p4, p5, p6, p7⟩ := two_cells HS10.out hBn hAn hJ
                  obtain ⟨l0, _⟩ := Sep.blkAt (A := []) HS10.out (j := 0) rfl
                  obtain ⟨l1, _⟩ := Sep.blkAt (A := []) HS10.out (j := 1) rfl
                  obtain ⟨l2, _⟩ := Sep.blkAt (A := []) HS10.out (j := 2) rfl
                  unfold rowV at p1 p2
                  rw [hMB2] at p3
                  rw [← HNA.out] at p5
                  go_upto_region 19 with fail
                  go_still_tail 27, (by kernel_rfl)
                  change wpList _ _ _ _ _ (World.drew w10)
                  have HSD := Lib.hid HS10.out.drew
                  have HBD := Lib.hid (HB10.out.trans (below_drew g w10))
                  clear p1 p2 p3 p4 p5 p6 p7 l0 l1 l2
                  generalize World.drew w10 = wd at *
                  obtain ⟨_, _, p3, p4, _, p6, p7⟩ := two_cells HSD.out hBn hAn hJ
                  rw [hMB2] at p3
                  have HS11 := Lib.hid (p7 (min sb yb))
                  have HB11 := Lib.hid (HBD.out.setCell (p := ⟨(Px B).1, (Px B).2.1 + J, none⟩) p6 (.int .i64 (min sb yb)))
                  clear p7
                  go_upto_region 20 with fail
                  generalize wd.setCell ⟨(Px B).1, (Px B).2.1 + J, none⟩ (.int .i64 (min sb yb)) = w11 at *
                  clear p3 p4 p6 HSD HBD
                  have hfin : Sep g w11 (Ent.blk1 gl 71 [.int .i64 A, .int .i64 B, .int .i64 xc] :: (matE (.slice (some ⟨gx, ox, none⟩) n cx) Px n n (colM (srow (edges (L.take q)) N) (srow (edges (L.take (q + 1))) N) (J + 1)) ++ (matE (.slice (some ⟨gn, on, none⟩) n cn) Pn n n N ++ []))) := by
                    have h := HS11.out
                    rw [HM.out, HSA.out, HYA.out, HNB.out, HSB.out, HYB.out, HNA.out, mat_congr (fun i j _ _ => col_both HX.out hAB i j)] at h
                    exact h
                  have HF := Lib.hid hfin; clear hfin hMB2
                  go_wp2
                  go_roundw
                  case rel => exact ⟨J + 1, by omega, by go_num, HF.out, HB11.out⟩
                  case measure => simp [intOf]; omega
            · obtain rfl : J = n := by omega
              have hJi : decide ((J : Int) < (J : Int)) = false := by simp
              have hs10 : Sep g wr (matE (.slice (some ⟨gx, ox, none⟩) J cx) Px J J (srow (edges (L.take (q + 1))) N) ++ (matE (.slice (some ⟨gn, on, none⟩) J cn) Pn J J N ++ [])) := by
                rw [← mat_congr (M := colM (srow (edges (L.take q)) N) (srow (edges (L.take (q + 1))) N) J) (fun i j _ hj => if_pos hj)]
                exact HS9.out.sub (List.sublist_cons_self _ _)
              have HS10 := Lib.hid hs10; clear hs10
              go_wp2
              go_roundw
              case rel => exact ⟨q + 1, by omega, by go_num, HS10.out, HB9.out⟩
              case measure => simp [intOf]; omega
        · obtain rfl : q = L.length := by omega
          have hs8 : Sep g wr (matE (.slice (some ⟨gx, ox, none⟩) n cx) Px n n (bell (edges L) (t + 1))) := by
            rw [bell_succ, ← HN.out]
            have h := HS7.out
            rw [List.take_length] at h
            exact h.sub (List.sublist_append_left _ _)
          have HS8 := Lib.hid hs8; clear hs8
          go_wp2
          go_roundg (gi - 1)
          case measure => omega
          case rel => exact ⟨t + 1, _, _, by omega, rfl, by first | rfl | go_num, HS8.out, HB7.out⟩
    · obtain rfl : t = r := by omega
      have hti : decide ((t : Int) < (t : Int)) = false := by simp
      go_wp2
      go_ret2
      exact ⟨_, Pn, rfl, by have := HS3.out; rw [HG.out] at this; exact this, by have := HB3.out; rw [HG.out] at this; exact this⟩
end Go.Proofs.Ytnmddgjgmdegoaa
