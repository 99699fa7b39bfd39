/- rpf.Flood: how many copies come to each point, and how many are sent. -/
import Derived.Test.YtnmddgjgmdegoaaDoorFloodPass
import Derived.Test.YtnmddgjgmdegoaaDoorFromOk
import Derived.Test.YtnmddgjgmdegoaaDoorCnts
import Derived.OwnWalk
namespace Go.Proofs.YtnmddgjgmdegoaaDoor
open Go.RowKit
set_option linter.unusedVariables false
set_option maxRecDepth 100000

theorem cpop_any (B g : Nat) (v : Value) (R : List (Nat × Nat)) (F : List Ent) (w : World) (hl : R.length ≤ 1000000) (hB : B ≤ w.heap.size) (hsep : Sep B w (quB g v :: cpE v R :: F)) :
    Calls Tryd.prog 41 #[.pointer (some ⟨g, 0, none⟩)] w fun e w' => e = .returned (.tuple #[.agg #[.int .i64 (R.headD (0, 0)).1, .int .i64 (R.headD (0, 0)).2], .bool (!R.isEmpty)]) ∧ (∃ v', Sep B w' (quB g v' :: cpE v' R.tail :: F)) ∧ Below B w w' := by
  cases R with
  | nil =>
    refine (cpop_none B g v F w hB hsep).mono ?_
    rintro e w' ⟨rfl, hs, hb⟩
    exact ⟨rfl, ⟨_, hs⟩, hb⟩
  | cons x Q =>
    simp only [List.length_cons] at hl
    refine (cpop_some B g v x Q F w (by omega) hB hsep).mono ?_
    rintro e w' ⟨rfl, hs, hb⟩
    exact ⟨rfl, hs, hb⟩
theorem made_arr (g n : Nat) (e : TypeId) : Ent.row (.slice (some ⟨g, 0, none⟩) n n) n 1 e (madeCells #[.int .i64 0] n).toList = Ent.ints e (.slice (some ⟨g, 0, none⟩) n n) (arr (fun _ => (0 : Int)) n) := by
  unfold Ent.ints
  rw [arr_len, ← arr_const, madeInts]
set_option maxHeartbeats 1000000 in
theorem flood_err (n : Int) (ao : Option Addr) (len ac B : Nat) (L : List Lnk) (o c : Int) (w : World) (hA : RowSl B w ao 3 (L.map lnkC)) (hlen : len = L.length) (hl : L.length ≤ 9223372036854775807) (hB : B ≤ w.heap.size) (hc : c = fCode n L o) (h0 : ¬ c = 0) :
    Calls Tryd.prog 25 #[.int .i64 n, .slice ao len ac, .int .i64 o] w fun e w' => e = .returned (.tuple #[.slice none 0 0, .int .i64 0, .iface 64 (.int .i64 c)]) ∧ Below w.heap.size w w' := by
  subst hlen
  unfold fCode at hc
  by_cases hv : vCode n L = 0
  · rw [if_pos hv] at hc
    obtain ⟨m, hm, hok⟩ := vCode_zero.1 hv
    have hm1 := hok.n1
    have hm8 := hok.n8
    clear hok
    subst hm
    by_cases ho : 0 ≤ o ∧ o ≤ (m : Int) - 1
    · rw [if_pos ho] at hc; exact absurd hc h0
    · rw [if_neg ho] at hc
      subst hc
      clear h0
      have HO := Lib.hid ho; clear ho
      have HV := Lib.hid hv; clear hv
      obtain ⟨g, hg⟩ : ∃ g, g = w.heap.size := ⟨_, rfl⟩
      have hs0 := ((Sep.nil g w).blkNew (by omega) #[.slice ao L.length ac] 54).blkNew (by simp; omega) #[.int .i64 0] 3
      have hb0 := (((Below.refl g w).alloc (by omega) (.cells #[.slice ao L.length ac] 54)).alloc (by simp; omega) (.cells #[.int .i64 0] 3))
      have hsz : (w.alloc (.cells #[.slice ao L.length ac] 54)).heap.size = g + 1 := by simp [hg]
      have hsz2 : ((w.alloc (.cells #[.slice ao L.length ac] 54)).alloc (.cells #[.int .i64 0] 3)).heap.size = g + 2 := by simp [hg]
      rw [hsz, ← hg] at hs0
      have HSZ := Lib.hid hsz2
      have HS0 : Hid (Sep g ((w.alloc (.cells #[.slice ao L.length ac] 54)).alloc (.cells #[.int .i64 0] 3)) [snB (g + 1) 0, lkB g ao L.length ac]) := Lib.hid hs0
      have HB0 := Lib.hid hb0
      have HA := Lib.hid hA
      have HG := Lib.hid hg
      rw [← hg] at hB
      clear hA hs0 hb0 hsz hsz2 hg
      go_enter Tryd.func25, Tryd.ntmps25
      go_upto_region 1 with fail
      rw [← HG.out]
      generalize (w.alloc (.cells #[.slice ao L.length ac] 54)).alloc (.cells #[.int .i64 0] 3) = w0 at *
      have hg0 : g ≤ w0.heap.size := by rw [HSZ.out]; omega
      obtain ⟨l0, l1⟩ := Sep.blkAt (A := [_]) HS0.out (j := 0) rfl
      go_wp2_with fail
      refine (vCheck_any _ _ _ _ _ L _ (HA.out.below (HB0.out.mono hB)) rfl hl (Nat.le_trans hB hg0)).mono ?_
      rintro e w1 ⟨rfl, hb⟩
      have HS1 := Lib.hid (HS0.out.kept hb)
      have HB1 := Lib.hid (HB0.out.trans (hb.mono hg0))
      clear HS0 HB0 hb hg0 l0 l1 HSZ
      rw [HV.out, errV_zero]
      go_wp2_with fail
      refine (within_no _ _ _ _ HO.out).mono ?_
      rintro e w' ⟨rfl, rfl⟩
      obtain ⟨s0, s1⟩ := Sep.blkAt (A := []) HS1.out (j := 0) rfl
      have k1 : (w1.setCell ⟨g + 1, 0, none⟩ (.int .i64 0)).cell? ⟨g + 1, 0, none⟩ = some (.int .i64 0) := (Sep.blkAt (A := []) (Sep.blkSet (A := []) HS1.out 0 (.int .i64 0)) (j := 0) rfl).1
      have HB2 := Lib.hid (HB1.out.setCell (p := ⟨g + 1, 0, none⟩) (Nat.le_succ g) (.int .i64 0))
      go_wp2
      exact bodyPost_ret (v := .tuple #[.slice none 0 0, .int .i64 0, .iface 64 (.int .i64 1)]) (by simp [results, Tryd.results25, go_sem, k1]) rfl ⟨rfl, by rw [← HG.out]; exact HB2.out⟩
  · rw [if_neg hv] at hc
    have HC := Lib.hid hc
    have HV := Lib.hid hv; clear hv h0
    clear hc
    obtain ⟨g, hg⟩ : ∃ g, g = w.heap.size := ⟨_, rfl⟩
    have hs0 := ((Sep.nil g w).blkNew (by omega) #[.slice ao L.length ac] 54).blkNew (by simp; omega) #[.int .i64 0] 3
    have hb0 := (((Below.refl g w).alloc (by omega) (.cells #[.slice ao L.length ac] 54)).alloc (by simp; omega) (.cells #[.int .i64 0] 3))
    have hsz : (w.alloc (.cells #[.slice ao L.length ac] 54)).heap.size = g + 1 := by simp [hg]
    have hsz2 : ((w.alloc (.cells #[.slice ao L.length ac] 54)).alloc (.cells #[.int .i64 0] 3)).heap.size = g + 2 := by simp [hg]
    rw [hsz, ← hg] at hs0
    have HSZ := Lib.hid hsz2
    have HS0 : Hid (Sep g ((w.alloc (.cells #[.slice ao L.length ac] 54)).alloc (.cells #[.int .i64 0] 3)) [snB (g + 1) 0, lkB g ao L.length ac]) := Lib.hid hs0
    have HB0 := Lib.hid hb0
    have HA := Lib.hid hA
    have HG := Lib.hid hg
    rw [← hg] at hB
    clear hA hs0 hb0 hsz hsz2 hg
    go_enter Tryd.func25, Tryd.ntmps25
    go_upto_region 1 with fail
    rw [← HG.out]
    generalize (w.alloc (.cells #[.slice ao L.length ac] 54)).alloc (.cells #[.int .i64 0] 3) = w0 at *
    have hg0 : g ≤ w0.heap.size := by rw [HSZ.out]; omega
    obtain ⟨l0, l1⟩ := Sep.blkAt (A := [_]) HS0.out (j := 0) rfl
    go_wp2_with fail
    refine (vCheck_any _ _ _ _ _ L _ (HA.out.below (HB0.out.mono hB)) rfl hl (Nat.le_trans hB hg0)).mono ?_
    rintro e w1 ⟨rfl, hb⟩
    have HS1 := Lib.hid (HS0.out.kept hb)
    have HB1 := Lib.hid (HB0.out.trans (hb.mono hg0))
    clear HS0 HB0 hb hg0 l0 l1 HSZ
    rw [errV_not HV.out, ← HC.out]
    obtain ⟨s0, s1⟩ := Sep.blkAt (A := []) HS1.out (j := 0) rfl
    have k1 : (w1.setCell ⟨g + 1, 0, none⟩ (.int .i64 0)).cell? ⟨g + 1, 0, none⟩ = some (.int .i64 0) := (Sep.blkAt (A := []) (Sep.blkSet (A := []) HS1.out 0 (.int .i64 0)) (j := 0) rfl).1
    have HB2 := Lib.hid (HB1.out.setCell (p := ⟨g + 1, 0, none⟩) (Nat.le_succ g) (.int .i64 0))
    go_wp2
    exact bodyPost_ret (v := .tuple #[.slice none 0 0, .int .i64 0, .iface 64 (.int .i64 c)]) (by simp [results, Tryd.results25, go_sem, k1]) rfl ⟨rfl, by rw [← HG.out]; exact HB2.out⟩
abbrev flL (g gq gc : Nat) (ao : Option Addr) (len ac : Nat) (v : Value) (R : List (Nat × Nat)) (s : Nat) (c : Nat × Nat) (T : List Ent) : List Ent := quB gq v :: cpE v R :: snB (g + 1) s :: lkB g ao len ac :: Ent.blk1 gc 88 (cpC c) :: T
def cntI (D : List (Nat × Nat)) (v : Nat) : Int := ((D.countP fun y => decide (y.1 = v) : Nat) : Int)
theorem cntI_snoc (D : List (Nat × Nat)) (x : Nat × Nat) (v : Nat) : (if v = x.1 then cntI D x.1 + 1 else cntI D v) = cntI (D ++ [x]) v := by
  unfold cntI
  rw [List.countP_append]
  by_cases e : v = x.1
  · subst e; rw [if_pos rfl]; simp
  · rw [if_neg e]
    have : ¬ x.1 = v := fun h => e h.symm
    simp [this]
theorem send_few (n : Nat) (L : List Lnk) (o p : Nat) : (send n L o p).length ≤ n := by
  unfold send; rw [List.length_map]; exact outs_len n L o p
theorem fl_new {B : Nat} {w : World} {g gq gc : Nat} {ao : Option Addr} {len ac : Nat} {v : Value} {R : List (Nat × Nat)} {s : Nat} {c : Nat × Nat} {T : List Ent} (h : Sep B w (flL g gq gc ao len ac v R s c T)) (hB : B ≤ w.heap.size) (x : Nat × Nat) :
    Sep B (w.alloc (.cells #[.int .i64 x.1, .int .i64 x.2] 88)) (flL g gq w.heap.size ao len ac v R s x T) := by
  have h1 := h.blkNew hB #[.int .i64 x.1, .int .i64 x.2] 88
  have h2 := h1.perm (List.perm_middle (l₁ := [quB gq v, cpE v R, snB (g + 1) s, lkB g ao len ac])).symm
  exact h2.sub ((((List.Sublist.refl T).cons _).cons_cons _).cons_cons _ |>.cons_cons _ |>.cons_cons _ |>.cons_cons _)
theorem fl_put {B : Nat} {w : World} {g gq gc : Nat} {ao : Option Addr} {len ac : Nat} {v : Value} {R : List (Nat × Nat)} {s : Nat} {c : Nat × Nat} {T : List Ent} (h : Sep B w (flL g gq gc ao len ac v R s c T)) (x : Nat × Nat) :
    Sep B ((w.setCell ⟨gc, 0, none⟩ (.int .i64 x.1)).setCell ⟨gc, 1, none⟩ (.int .i64 x.2)) (flL g gq gc ao len ac v R s x T) := by
  have h1 := Sep.blkSet (A := [_, _, _, _]) h 0 (.int .i64 x.1)
  exact Sep.blkSet (A := [_, _, _, _]) h1 1 (.int .i64 x.2)
set_option maxHeartbeats 4000000 in
theorem flood_ok (n : Nat) (ao : Option Addr) (len ac B0 : Nat) (L : List Lnk) (o : Nat) (w : World) (hA : RowSl B0 w ao 3 (L.map lnkC)) (hlen : len = L.length) (hB : B0 ≤ w.heap.size) (hok : VOk n L) (ho : o < n) :
    Calls Tryd.prog 25 #[.int .i64 n, .slice ao len ac, .int .i64 o] w fun e w' => ∃ v, e = .returned (.tuple #[v, .int .i64 (sentOf n L o), .nilIface]) ∧ Sep w.heap.size w' [Ent.ints 3 v (arr (fun i => (copies n L o i : Int)) n)] ∧ Below w.heap.size w w' := by
  subst hlen
  have hn1 := hok.n1
  have hn8 := hok.n8
  have hl32 := hok.few
  have HOK := Lib.hid hok; clear hok
  have hoi : (o : Int) ≤ (n : Int) - 1 := by omega
  have hoi0 : (0 : Int) ≤ (o : Int) := by omega
  have hoin : (o : Int) < (n : Int) := by omega
  have hci : Tryd.prog.cellsOf 3 = 1 := by kernel_rfl
  obtain ⟨g, hg⟩ : ∃ g, g = w.heap.size := ⟨_, rfl⟩
  have hs0 := ((Sep.nil g w).blkNew (by omega) #[.slice ao L.length ac] 54).blkNew (by simp; omega) #[.int .i64 0] 3
  have hb0 := (((Below.refl g w).alloc (by omega) (.cells #[.slice ao L.length ac] 54)).alloc (by simp; omega) (.cells #[.int .i64 0] 3))
  have hsz : (w.alloc (.cells #[.slice ao L.length ac] 54)).heap.size = g + 1 := by simp [hg]
  have hsz2 : ((w.alloc (.cells #[.slice ao L.length ac] 54)).alloc (.cells #[.int .i64 0] 3)).heap.size = g + 2 := by simp [hg]
  rw [hsz, ← hg] at hs0
  have HSZ := Lib.hid hsz2
  have HS0 : Hid (Sep g ((w.alloc (.cells #[.slice ao L.length ac] 54)).alloc (.cells #[.int .i64 0] 3)) [snB (g + 1) 0, lkB g ao L.length ac]) := Lib.hid hs0
  have HB0 := Lib.hid hb0
  have HA := Lib.hid hA
  have HG := Lib.hid hg
  rw [← hg] at hB
  clear hA hs0 hb0 hsz hsz2 hg
  go_enter Tryd.func25, Tryd.ntmps25
  go_upto_region 1 with fail
  rw [← HG.out]
  generalize (w.alloc (.cells #[.slice ao L.length ac] 54)).alloc (.cells #[.int .i64 0] 3) = w0 at *
  have hg0 : g ≤ w0.heap.size := by rw [HSZ.out]; omega
  obtain ⟨l0, l1⟩ := Sep.blkAt (A := [_]) HS0.out (j := 0) rfl
  go_wp2_with fail
  refine (vCheck_any _ _ _ _ _ L _ (HA.out.below (HB0.out.mono hB)) rfl (by omega) (Nat.le_trans hB hg0)).mono ?_
  rintro e w1 ⟨rfl, hb⟩
  have HS1 := Lib.hid (HS0.out.kept hb)
  have HB1 := Lib.hid (HB0.out.trans (hb.mono hg0))
  clear HS0 HB0 hb hg0 l0 l1 HSZ
  rw [vCode_nat.2 HOK.out, errV_zero]
  go_wp2_with fail
  refine (within_yes _ _ _ _ hoi0 hoi).mono ?_
  rintro e w' ⟨rfl, rfl⟩
  have hg1 : g ≤ w1.heap.size := by have := HB1.out.size; rw [← HG.out] at this; exact this
  go_wp2_with (at_make; refine wpList_make_sep rfl _ _ rfl elemInt8 .i64 .i64 n n n rfl rfl rfl rfl (by omega) (by unfold maxLen; omega) HS1.out hg1 ?_)
  intro w2 hs2 hb2 _
  obtain ⟨gu, hgu⟩ : ∃ gu, gu = w1.heap.size := ⟨_, rfl⟩
  rw [← hgu] at hs2 ⊢
  rw [made_arr] at hs2
  have HS2 := Lib.hid hs2
  have HB2 := Lib.hid (HB1.out.trans (hb2.mono hg1))
  clear hs2 hb2 hgu hg1 HS1 HB1
  go_wp2
  go_loopg [34] n (fun gk iv wr => ∃ i : Nat, gk + i = n ∧ iv = .int .i64 i ∧ Sep g wr [Ent.ints 3 (.slice (some ⟨gu, 0, none⟩) n n) (arr (fun j => if j < i then byOf n L o j else 0) n), snB (g + 1) 0, lkB g ao L.length ac] ∧ Below g w wr)
  case atStart => exact ⟨0, by omega, rfl, HS2.out, HB2.out⟩
  case round =>
    obtain ⟨gi, rfl⟩ : ∃ gi, gi = gk := ⟨_, rfl⟩
    obtain ⟨i, hgi, rfl, hs, hb⟩ := hrel
    have HS3 := Lib.hid hs
    have HB3 := Lib.hid hb
    have hg3 : g ≤ wr.heap.size := by have := HB3.out.size; rw [← HG.out] at this; exact this
    clear hs hb HS2 HB2
    by_cases hlt : i < n
    · have hii : (i : Int) < (n : Int) := by omega
      have hi0 : (0 : Int) ≤ (i : Int) := by omega
      obtain ⟨l0, l1⟩ := Sep.blkAt (A := [_, _]) HS3.out (j := 0) rfl
      go_wp2_with fail
      refine (from_ok n _ _ _ B0 L i _ (HA.out.below (HB3.out.mono hB)) rfl (Nat.le_trans hB hg3) HOK.out hlt).mono ?_
      rintro e w4 ⟨vf, vh, hf, rfl, hhop, hs, hb⟩
      obtain ⟨ah, ch, rfl, -, -⟩ := hs.intsShape (A := [_]) (C := [])
      rw [arr_len] at hs ⊢
      obtain ⟨gh, oh, rfl, -, h0, -, -⟩ := arrI_at (A := [_]) (C := []) hs ho
      have hof : hf o = byOf n L o i := hopOf_of (hhop o ho)
      rw [hof] at h0
      obtain ⟨b, hbv⟩ : ∃ b, b = byOf n L o i := ⟨_, rfl⟩
      rw [← hbv] at h0
      have hs4 := HS3.out.kept hb
      obtain ⟨g', o', he, _, n1, n2, nset⟩ := arrI_at (A := []) hs4 hlt
      simp only [Option.some.injEq, Addr.mk.injEq, and_true] at he
      obtain ⟨rfl, rfl⟩ := he
      simp only [Nat.zero_add] at n1 n2 nset
      have hset := nset b
      have e1 : arr (fun j => if j = i then b else if j < i then byOf n L o j else 0) n = arr (fun j => if j < i + 1 then byOf n L o j else 0) n := arr_congr fun j _ => by
        by_cases e : j = i
        · subst e; rw [if_pos rfl, if_pos (Nat.lt_succ_self j), hbv]
        · rw [if_neg e]
          by_cases e2 : j < i
          · rw [if_pos e2, if_pos (by omega)]
          · rw [if_neg e2, if_neg (by omega)]
      rw [e1] at hset
      have HSET := Lib.hid hset
      have HBS := Lib.hid ((HB3.out.trans (hb.mono hg3)).setCell (p := ⟨gu, i, none⟩) ((Sep.mem (A := []) hs4).2 gu rfl).1 (.int .i64 b))
      clear hs hb hset e1 hs4 nset hhop hof hbv l0 l1
      go_wp2
      go_roundg (gi - 1)
      case measure => omega
      case rel => exact ⟨i + 1, by omega, by go_num, HSET.out, HBS.out⟩
    · have hii : decide ((i : Int) < (n : Int)) = false := decide_eq_false (by omega)
      have hs5 := HS3.out
      rw [show arr (fun j => if j < i then byOf n L o j else 0) n = arr (byOf n L o) n from arr_congr fun j hj => by rw [if_pos (by omega)]] at hs5
      have HS5 := Lib.hid hs5
      clear hs5 HS3
      go_wp2_with (at_make; refine wpList_make_sep rfl _ _ rfl elemInt8 .i64 .i64 n n n rfl rfl rfl rfl (by omega) (by unfold maxLen; omega) HS5.out hg3 ?_)
      intro w6 hs6 hb6 hz6
      obtain ⟨gp, hgp⟩ : ∃ gp, gp = wr.heap.size := ⟨_, rfl⟩
      rw [← hgp] at hs6 ⊢
      rw [made_arr] at hs6
      have hb7 := HB3.out.trans (hb6.mono hg3)
      have hg6 : g ≤ w6.heap.size := by have := hb7.size; rw [← HG.out] at this; exact this
      have hs7 := hs6.blkNew hg6 #[.slice none 0 0] 84
      obtain ⟨gq, hgq⟩ : ∃ gq, gq = wr.heap.size + 1 := ⟨_, rfl⟩
      rw [hz6, ← hgq] at hs7
      have hs8 := cp_nil (A := [quB gq (.slice none 0 0)]) hs7 none
      have hs9 := hs8.perm (((List.perm_append_comm (l₁ := [Ent.ints 3 (.slice (some ⟨gp, 0, none⟩) n n) (arr (fun _ => (0 : Int)) n), Ent.ints 3 (.slice (some ⟨gu, 0, none⟩) n n) (arr (byOf n L o) n)]) (l₂ := [snB (g + 1) 0, lkB g ao L.length ac])).cons (cpE (.slice none 0 0) [])).cons (quB gq (.slice none 0 0)))
      have HS9 := Lib.hid hs9
      have HB9 := Lib.hid (hb7.alloc hg6 (.cells #[.slice none 0 0] 84))
      have HGQ := Lib.hid hgq
      clear hs6 hb6 hs7 hb7 hs8 hs9 hg6 hgq hgp HS5 HB3 hg3 hii
      go_upto_region 16 with fail
      rw [← HGQ.out]
      generalize w6.alloc (.cells #[.slice none 0 0] 84) = w7 at *
      have hg7 : g ≤ w7.heap.size := by have := HB9.out.size; rw [← HG.out] at this; exact this
      go_wp2_with fail
      refine (pass_any n ao ac g B0 L o (-1) g (g + 1) gq 0 (.slice none 0 0) [] _ w7 (HA.out.below (HB9.out.mono hB)) hB hg7 HOK.out (by omega) (by simp) HS9.out).mono ?_
      rintro e w8 ⟨rfl, ⟨v8, hs8⟩, hb8⟩
      rw [← by_self n L o, outK_count, outK_all, List.nil_append, Nat.zero_add] at hs8
      have HS8 := Lib.hid hs8
      have HB8 := Lib.hid (HB9.out.trans hb8)
      have hsf := send_few n L o o
      have hg8 : g ≤ w8.heap.size := by have := HB8.out.size; rw [← HG.out] at this; exact this
      clear hs8 hb8 HS9 HB9 hg7
      go_wp2_with fail
      refine (cpop_any g gq v8 (send n L o o) _ _ (by omega) hg8 HS8.out).mono ?_
      rintro e w9 ⟨rfl, ⟨v9, hs9⟩, hb9⟩
      obtain ⟨c, hc⟩ : ∃ c, c = (send n L o o).headD (0, 0) := ⟨_, rfl⟩
      obtain ⟨bk, hbk⟩ : ∃ bk, bk = !(send n L o o).isEmpty := ⟨_, rfl⟩
      rw [← hc, ← hbk]
      have hb10 := HB8.out.trans hb9
      have hg9 : g ≤ w9.heap.size := by have := hb10.size; rw [← HG.out] at this; exact this
      have hs10 := hs9.blkNew hg9 #[.int .i64 c.1, .int .i64 c.2] 88
      have hs11 : Sep g (w9.alloc (.cells #[.int .i64 c.1, .int .i64 c.2] 88)) (flL g gq w9.heap.size ao L.length ac v9 (send n L o o).tail (send n L o o).length c [Ent.ints 3 (.slice (some ⟨gp, 0, none⟩) n n) (arr (fun _ => (0 : Int)) n), Ent.ints 3 (.slice (some ⟨gu, 0, none⟩) n n) (arr (byOf n L o) n)]) :=
        hs10.perm (List.perm_middle (l₁ := [quB gq v9, cpE v9 (send n L o o).tail, snB (g + 1) (send n L o o).length, lkB g ao L.length ac])).symm
      have HS11 := Lib.hid hs11
      have HB11 := Lib.hid (hb10.alloc hg9 (.cells #[.int .i64 c.1, .int .i64 c.2] 88))
      have HC := Lib.hid hc
      have HBK := Lib.hid hbk
      clear hs9 hb9 hs10 hs11 hb10 hg9 hc hbk HS8 HB8 hg8 hsf
      go_wp2
      go_loopg [17, 18] (n * n) (fun gk pv bv wr => ∃ (D R : List (Nat × Nat)) (gc : Nat) (v : Value) (bk : Bool) (c : Nat × Nat), gk + D.length = n * n ∧ pv = .pointer (some ⟨gc, 0, none⟩) ∧ bv = .bool bk ∧ (bk = !R.isEmpty) ∧ c = R.headD (0, 0) ∧ FInv n L o D R ∧
        Sep g wr (flL g gq gc ao L.length ac v R.tail (D.length + R.length) c [Ent.ints 3 (.slice (some ⟨gp, 0, none⟩) n n) (arr (cntI D) n), Ent.ints 3 (.slice (some ⟨gu, 0, none⟩) n n) (arr (byOf n L o) n)]) ∧ Below g w wr)
      case atStart =>
        refine ⟨[], send n L o o, _, v9, bk, c, by simp, rfl, rfl, HBK.out, HC.out, FInv.start n L o, ?_, HB11.out⟩
        have e0 : arr (cntI []) n = arr (fun _ => (0 : Int)) n := arr_congr fun i _ => by simp [cntI]
        rw [e0, List.length_nil, Nat.zero_add]
        exact HS11.out
      case round =>
        obtain ⟨gi, rfl⟩ : ∃ gi, gi = gk := ⟨_, rfl⟩
        obtain ⟨D, R, gc, v, bk', c', hgi, rfl, rfl, hbk, hc, hfi, hs, hb⟩ := hrel
        have HS12 := Lib.hid hs
        have HB12 := Lib.hid hb
        have HFI := Lib.hid hfi
        clear hs hb hfi HS11 HB11 HC HBK
        cases R with
        | nil =>
          obtain rfl : bk' = false := hbk
          clear hc
          obtain ⟨hcn, hdl⟩ := HFI.out.counts HOK.out ho
          have hs13 := HS12.out
          rw [List.length_nil, Nat.add_zero, hdl, show arr (cntI D) n = arr (fun i => (copies n L o i : Int)) n from arr_congr fun i _ => by unfold cntI; rw [hcn i]] at hs13
          obtain ⟨sN, hsN⟩ : ∃ sN, sN = sentOf n L o := ⟨_, rfl⟩
          rw [← hsN] at hs13
          obtain ⟨s0, s1⟩ := Sep.blkAt (A := [_, _]) hs13 (j := 0) rfl
          have hs14 := Sep.blkSet (A := [_, _]) hs13 0 (.int .i64 sN)
          have hb14 := HB12.out.setCell (p := ⟨g + 1, 0, none⟩) (Nat.le_succ g) (.int .i64 sN)
          have hk : (wr.setCell ⟨g + 1, 0, none⟩ (.int .i64 sN)).cell? ⟨g + 1, 0, none⟩ = some (.int .i64 sN) := (Sep.blkAt (A := [_, _]) hs14 (j := 0) rfl).1
          have hs15 := (hs14.drew).sub (L' := [Ent.ints 3 (.slice (some ⟨gp, 0, none⟩) n n) (arr (fun i => (copies n L o i : Int)) n)]) ((((((List.nil_sublist _).cons_cons _).cons _).cons _).cons _).cons _ |>.cons _)
          have HK := Lib.hid hk
          have HS15 := Lib.hid hs15
          have HB15 := Lib.hid (hb14.drew)
          have HSN := Lib.hid hsN
          clear hs13 hs14 hb14 hk hs15 hcn hdl hsN HS12 HB12
          go_upto_region 25 with fail
          go_region
          all_goals
            go_wp2_with fail
            have hk := HK.out
            have hs16 := HS15.out
            have hb16 := HB15.out
            exact bodyPost_ret (v := .tuple #[.slice (some ⟨gp, 0, none⟩) n n, .int .i64 sN, .nilIface]) (by simp [results, Tryd.results25, go_sem, hk]) rfl ⟨_, by rw [HSN.out], by rw [← HG.out]; exact hs16, by rw [← HG.out]; exact hb16⟩
        | cons x Q =>
          obtain rfl : bk' = true := hbk
          obtain rfl : c' = x := hc
          obtain ⟨hm1, hm2⟩ := HFI.out.mem (x := c') (by simp)
          have hx1 : c'.1 < n := (mem_outs.1 hm2).1.1
          have hfew := HFI.out.few ho
          have hnn : n * n ≤ 64 := by have := Nat.mul_le_mul hn8 hn8; omega
          simp only [List.length_cons] at hfew
          obtain ⟨x, hx⟩ : ∃ x, x = c' := ⟨_, rfl⟩
          rw [← hx] at HS12 HFI hm1 hm2 hx1
          clear hx hm1
          have hxi : (x.1 : Int) < (n : Int) := by omega
          have hx0 : (0 : Int) ≤ (x.1 : Int) := by omega
          simp only [List.tail_cons, List.length_cons] at HS12
          obtain ⟨k0, -⟩ := Sep.blkAt (A := [_, _, _, _]) HS12.out (j := 0) (v := .int .i64 x.1) rfl
          obtain ⟨g', o', he, _, n1, n2, nset⟩ := arrI_at (A := [_, _, _, _, _]) (C := [_]) HS12.out hx1
          simp only [Option.some.injEq, Addr.mk.injEq, and_true] at he
          obtain ⟨rfl, rfl⟩ := he
          simp only [Nat.zero_add] at n1 n2 nset
          obtain ⟨cn, hcn⟩ : ∃ cn : Nat, (cn : Int) = cntI D x.1 := ⟨_, rfl⟩
          have hcb : cn ≤ 64 := by
            have h1 := List.countP_le_length (p := fun y : Nat × Nat => decide (y.1 = x.1)) (l := D)
            unfold cntI at hcn
            omega
          rw [← hcn] at n1
          have hset := nset ((cn : Int) + 1)
          rw [hcn, show arr (fun i => if i = x.1 then cntI D x.1 + 1 else cntI D i) n = arr (cntI (D ++ [x])) n from arr_congr fun i _ => cntI_snoc D x i, ← hcn] at hset
          have HS20 := Lib.hid hset
          have HB20 := Lib.hid (HB12.out.setCell (p := ⟨gp, x.1, none⟩) ((Sep.mem (A := [_, _, _, _, _]) HS12.out).2 gp rfl).1 (.int .i64 ((cn : Int) + 1)))
          have hnx := HFI.out.step
          have HNX := Lib.hid hnx
          clear hset nset hcn hnx HS12 HB12
          go_upto_region 21 with fail
          generalize wr.setCell ⟨gp, x.1, none⟩ (.int .i64 ((cn : Int) + 1)) = w20 at *
          clear k0 n1 n2
          obtain ⟨k0, -⟩ := Sep.blkAt (A := [_, _, _, _]) HS20.out (j := 0) (v := .int .i64 x.1) rfl
          obtain ⟨k1, -⟩ := Sep.blkAt (A := [_, _, _, _]) HS20.out (j := 1) (v := .int .i64 x.2) rfl
          obtain ⟨g', o', he, _, u0, -⟩ := arrI_at (A := [_, _, _, _, _, _]) (C := []) HS20.out hx1
          simp only [Option.some.injEq, Addr.mk.injEq, and_true] at he
          obtain ⟨rfl, rfl⟩ := he
          simp only [Nat.zero_add] at u0
          obtain ⟨u, hu⟩ : ∃ u, u = byOf n L o x.1 := ⟨_, rfl⟩
          rw [← hu] at u0
          have HU := Lib.hid hu
          clear hu
          by_cases hxo : x.1 = o
          · have hq1 : ((x.1 : Int) != (o : Int)) = false := by simp [hxo]
            have hgd : ¬ good n L o x = true := by unfold good; simp [hxo]
            have hnx := HNX.out
            rw [if_neg hgd, List.append_nil] at hnx
            have HFN := Lib.hid hnx
            clear hnx hgd HNX hxo
            go_quiet (fail)
            have HSQ := Lib.hid (HS20.out.drewN nq)
            have HBQ := Lib.hid (HB20.out.trans (below_drewN g w20 nq))
            clear k0 k1 u0 HS20 HB20
            generalize w20.drewN nq = wq at *
            obtain ⟨Rn, hRn⟩ : ∃ Rn, Rn = Q := ⟨_, rfl⟩
            obtain ⟨vq, hvq⟩ : ∃ vq, vq = v := ⟨_, rfl⟩
            have HSN := Lib.hid (show D.length + (Rn.length + 1) = (D ++ [x]).length + Rn.length by rw [List.length_append, List.length_singleton]; omega)
            have HRN := Lib.hid (show Rn.length ≤ 1000 by rw [hRn]; omega)
            rw [← hRn] at HSQ HFN
            rw [← hvq] at HSQ
            clear hRn hvq
            have hgr : g ≤ wq.heap.size := by have := HBQ.out.size; rw [← HG.out] at this; exact this
            obtain ⟨r0, r1⟩ := Sep.blkAt (A := [_, _, _, _]) HSQ.out (j := 0) (v := .int .i64 x.1) rfl
            obtain ⟨r2, r3⟩ := Sep.blkAt (A := [_, _, _, _]) HSQ.out (j := 1) (v := .int .i64 x.2) rfl
            obtain ⟨gc2, hgc2⟩ : ∃ gc2, gc2 = wq.heap.size := ⟨_, rfl⟩
            have hsa := fl_new HSQ.out hgr x
            rw [← hgc2] at hsa
            have hba := HBQ.out.alloc hgr (.cells #[.int .i64 x.1, .int .i64 x.2] 88)
            have hga : g ≤ (wq.alloc (.cells #[.int .i64 x.1, .int .i64 x.2] 88)).heap.size := by have := hba.size; rw [← HG.out] at this; exact this
            have HPO := Lib.hid (cpop_any g gq vq Rn _ _ (by have := HRN.out; omega) hga hsa)
            have HGC := Lib.hid hgc2
            have HBA := Lib.hid hba
            clear hsa hba hga hgc2
            go_wp2_with fail
            refine HPO.out.mono ?_
            rintro e w22 ⟨rfl, ⟨v22, hs22⟩, hb22⟩
            rw [← HGC.out]
            obtain ⟨c, hc⟩ : ∃ c, c = Rn.headD (0, 0) := ⟨_, rfl⟩
            obtain ⟨bk, hbk⟩ : ∃ bk, bk = !Rn.isEmpty := ⟨_, rfl⟩
            rw [← hc, ← hbk]
            obtain ⟨p0, p1⟩ := Sep.blkAt (A := [_, _, _, _]) hs22 (j := 0) (v := .int .i64 x.1) rfl
            obtain ⟨p2, p3⟩ := Sep.blkAt (A := [_, _, _, _]) hs22 (j := 1) (v := .int .i64 x.2) rfl
            have hgg := (Sep.blkLt (A := [_, _, _, _]) hs22).1
            have HS23 := Lib.hid (fl_put hs22 c)
            have HB23 := Lib.hid (((HBA.out.trans hb22).setCell (p := ⟨gc2, 0, none⟩) hgg (.int .i64 c.1)).setCell (p := ⟨gc2, 1, none⟩) hgg (.int .i64 c.2))
            have HC := Lib.hid hc
            have HBK := Lib.hid hbk
            clear hs22 hb22 hc hbk hgg HPO HSQ HBQ r0 r1 r2 r3
            go_wp2
            go_roundg (gi - 1)
            case measure => omega
            case rel => exact ⟨D ++ [x], Rn, gc2, v22, bk, c, by rw [List.length_append, List.length_singleton]; omega, rfl, rfl, HBK.out, HC.out, HFN.out, by rw [← HSN.out]; exact HS23.out, HB23.out⟩
          · have hq1 : ((x.1 : Int) != (o : Int)) = true := by simp; omega
            by_cases hux : u = (x.2 : Int)
            · have hq2 : (u == (x.2 : Int)) = true := by simp [hux]
              have hgd : good n L o x = true := by unfold good; rw [← HU.out]; simp [hxo, hux]
              have hnx := HNX.out
              rw [if_pos hgd] at hnx
              have HUX := Lib.hid (show (x.2 : Int) = byOf n L o x.1 by rw [← HU.out, hux])
              have HNX2 := Lib.hid hnx
              clear hnx hgd HNX hux hxo
              go_quiet (fail)
              have HS21 := Lib.hid (HS20.out.drewN nq)
              have HB21 := Lib.hid (HB20.out.trans (below_drewN g w20 nq))
              change w20.cell? _ = _ at k0
              change w20.cell? _ = _ at k1
              have k2 : (w20.drewN nq).cell? ⟨gc, 0, none⟩ = some (.int .i64 x.1) := k0
              have k3 : (w20.drewN nq).cell? ⟨gc, 1, none⟩ = some (.int .i64 x.2) := k1
              clear k0 k1 u0 HS20 HB20
              generalize w20.drewN nq = w21 at *
              have hg21 : g ≤ w21.heap.size := by have := HB21.out.size; rw [← HG.out] at this; exact this
              go_wp2_with fail
              refine (pass_any n ao ac g B0 L x.1 (x.2 : Int) g (g + 1) gq (D.length + (Q.length + 1)) v Q _ w21 (HA.out.below (HB21.out.mono hB)) hB hg21 HOK.out (by omega) (by omega) HS21.out).mono ?_
              rintro e wq ⟨rfl, ⟨vq, hsq⟩, hbq⟩
              rw [HUX.out, outK_count, outK_all] at hsq
              obtain ⟨Rn, hRn⟩ : ∃ Rn, Rn = Q ++ send n L o x.1 := ⟨_, rfl⟩
              have hnx2 := HNX2.out
              rw [← hRn] at hsq hnx2
              have HSQ := Lib.hid hsq
              have HBQ := Lib.hid (HB21.out.trans hbq)
              have HFN := Lib.hid hnx2
              have HSN := Lib.hid (show D.length + (Q.length + 1) + (send n L o x.1).length = (D ++ [x]).length + Rn.length by rw [hRn, List.length_append, List.length_append, List.length_singleton]; omega)
              have HRN := Lib.hid (show Rn.length ≤ 1000 by rw [hRn, List.length_append]; have := send_few n L o x.1; omega)
              clear hsq hbq hnx2 hRn HS21 HB21 HNX2 k2 k3 hg21
              have hgr : g ≤ wq.heap.size := by have := HBQ.out.size; rw [← HG.out] at this; exact this
              obtain ⟨r0, r1⟩ := Sep.blkAt (A := [_, _, _, _]) HSQ.out (j := 0) (v := .int .i64 x.1) rfl
              obtain ⟨r2, r3⟩ := Sep.blkAt (A := [_, _, _, _]) HSQ.out (j := 1) (v := .int .i64 x.2) rfl
              obtain ⟨gc2, hgc2⟩ : ∃ gc2, gc2 = wq.heap.size := ⟨_, rfl⟩
              have hsa := fl_new HSQ.out hgr x
              rw [← hgc2] at hsa
              have hba := HBQ.out.alloc hgr (.cells #[.int .i64 x.1, .int .i64 x.2] 88)
              have hga : g ≤ (wq.alloc (.cells #[.int .i64 x.1, .int .i64 x.2] 88)).heap.size := by have := hba.size; rw [← HG.out] at this; exact this
              have HPO := Lib.hid (cpop_any g gq vq Rn _ _ (by have := HRN.out; omega) hga hsa)
              have HGC := Lib.hid hgc2
              have HBA := Lib.hid hba
              clear hsa hba hga hgc2
              go_wp2_with fail
              refine HPO.out.mono ?_
              rintro e w22 ⟨rfl, ⟨v22, hs22⟩, hb22⟩
              rw [← HGC.out]
              obtain ⟨c, hc⟩ : ∃ c, c = Rn.headD (0, 0) := ⟨_, rfl⟩
              obtain ⟨bk, hbk⟩ : ∃ bk, bk = !Rn.isEmpty := ⟨_, rfl⟩
              rw [← hc, ← hbk]
              obtain ⟨p0, p1⟩ := Sep.blkAt (A := [_, _, _, _]) hs22 (j := 0) (v := .int .i64 x.1) rfl
              obtain ⟨p2, p3⟩ := Sep.blkAt (A := [_, _, _, _]) hs22 (j := 1) (v := .int .i64 x.2) rfl
              have hgg := (Sep.blkLt (A := [_, _, _, _]) hs22).1
              have HS23 := Lib.hid (fl_put hs22 c)
              have HB23 := Lib.hid (((HBA.out.trans hb22).setCell (p := ⟨gc2, 0, none⟩) hgg (.int .i64 c.1)).setCell (p := ⟨gc2, 1, none⟩) hgg (.int .i64 c.2))
              have HC := Lib.hid hc
              have HBK := Lib.hid hbk
              clear hs22 hb22 hc hbk hgg HPO HSQ HBQ r0 r1 r2 r3
              go_wp2
              go_roundg (gi - 1)
              case measure => omega
              case rel => exact ⟨D ++ [x], Rn, gc2, v22, bk, c, by rw [List.length_append, List.length_singleton]; omega, rfl, rfl, HBK.out, HC.out, HFN.out, by rw [← HSN.out]; exact HS23.out, HB23.out⟩
            · have hq2 : (u == (x.2 : Int)) = false := by simp [hux]
              have hgd : ¬ good n L o x = true := by unfold good; rw [← HU.out]; simp [hux]
              have hnx := HNX.out
              rw [if_neg hgd, List.append_nil] at hnx
              have HFN := Lib.hid hnx
              clear hnx hgd HNX hxo
              go_quiet (fail)
              have HSQ := Lib.hid (HS20.out.drewN nq)
              have HBQ := Lib.hid (HB20.out.trans (below_drewN g w20 nq))
              clear k0 k1 u0 HS20 HB20
              generalize w20.drewN nq = wq at *
              obtain ⟨Rn, hRn⟩ : ∃ Rn, Rn = Q := ⟨_, rfl⟩
              obtain ⟨vq, hvq⟩ : ∃ vq, vq = v := ⟨_, rfl⟩
              have HSN := Lib.hid (show D.length + (Rn.length + 1) = (D ++ [x]).length + Rn.length by rw [List.length_append, List.length_singleton]; omega)
              have HRN := Lib.hid (show Rn.length ≤ 1000 by rw [hRn]; omega)
              rw [← hRn] at HSQ HFN
              rw [← hvq] at HSQ
              clear hRn hvq
              have hgr : g ≤ wq.heap.size := by have := HBQ.out.size; rw [← HG.out] at this; exact this
              obtain ⟨r0, r1⟩ := Sep.blkAt (A := [_, _, _, _]) HSQ.out (j := 0) (v := .int .i64 x.1) rfl
              obtain ⟨r2, r3⟩ := Sep.blkAt (A := [_, _, _, _]) HSQ.out (j := 1) (v := .int .i64 x.2) rfl
              obtain ⟨gc2, hgc2⟩ : ∃ gc2, gc2 = wq.heap.size := ⟨_, rfl⟩
              have hsa := fl_new HSQ.out hgr x
              rw [← hgc2] at hsa
              have hba := HBQ.out.alloc hgr (.cells #[.int .i64 x.1, .int .i64 x.2] 88)
              have hga : g ≤ (wq.alloc (.cells #[.int .i64 x.1, .int .i64 x.2] 88)).heap.size := by have := hba.size; rw [← HG.out] at this; exact this
              have HPO := Lib.hid (cpop_any g gq vq Rn _ _ (by have := HRN.out; omega) hga hsa)
              have HGC := Lib.hid hgc2
              have HBA := Lib.hid hba
              clear hsa hba hga hgc2
              go_wp2_with fail
              refine HPO.out.mono ?_
              rintro e w22 ⟨rfl, ⟨v22, hs22⟩, hb22⟩
              rw [← HGC.out]
              obtain ⟨c, hc⟩ : ∃ c, c = Rn.headD (0, 0) := ⟨_, rfl⟩
              obtain ⟨bk, hbk⟩ : ∃ bk, bk = !Rn.isEmpty := ⟨_, rfl⟩
              rw [← hc, ← hbk]
              obtain ⟨p0, p1⟩ := Sep.blkAt (A := [_, _, _, _]) hs22 (j := 0) (v := .int .i64 x.1) rfl
              obtain ⟨p2, p3⟩ := Sep.blkAt (A := [_, _, _, _]) hs22 (j := 1) (v := .int .i64 x.2) rfl
              have hgg := (Sep.blkLt (A := [_, _, _, _]) hs22).1
              have HS23 := Lib.hid (fl_put hs22 c)
              have HB23 := Lib.hid (((HBA.out.trans hb22).setCell (p := ⟨gc2, 0, none⟩) hgg (.int .i64 c.1)).setCell (p := ⟨gc2, 1, none⟩) hgg (.int .i64 c.2))
              have HC := Lib.hid hc
              have HBK := Lib.hid hbk
              clear hs22 hb22 hc hbk hgg HPO HSQ HBQ r0 r1 r2 r3
              go_wp2
              go_roundg (gi - 1)
              case measure => omega
              case rel => exact ⟨D ++ [x], Rn, gc2, v22, bk, c, by rw [List.length_append, List.length_singleton]; omega, rfl, rfl, HBK.out, HC.out, HFN.out, by rw [← HSN.out]; exact HS23.out, HB23.out⟩
end Go.Proofs.YtnmddgjgmdegoaaDoor
