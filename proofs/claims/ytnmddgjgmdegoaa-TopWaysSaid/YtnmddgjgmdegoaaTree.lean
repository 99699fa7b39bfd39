/- stp.Tree. -/
import Derived.Test.YtnmddgjgmdegoaaWords
import Derived.Test.YtnmddgjgmdegoaaLess
import Derived.Test.YtnmddgjgmdegoaaVCheck
import Derived.Test.YtnmddgjgmdegoaaRepeat
import Derived.Test.YtnmddgjgmdegoaaIdx2
import Derived.Test.YtnmddgjgmdegoaaLnkRow
import Derived.Deep.LoopGhost
import Derived.Deep.DeepCutAuto
import Derived.Deep.RegionHeld3
namespace Go.Proofs.Ytnmddgjgmdegoaa
open Go.RowKit
set_option linter.unusedVariables false

theorem results_tmp4 {fn : Func} {t u v x : Tmp} (h : fn.results = #[.tmp t, .tmp u, .tmp v, .tmp x]) (tmps : Array Value) (P : Program) (w : World) :
    (results fn tmps).run P w = .ok (.tuple #[tmps.getD t undef, tmps.getD u undef, tmps.getD v undef, tmps.getD x undef]) w := by
  simp [results, h]
theorem wordsE_congr {v : Value} {n : Nat} {f g : Nat → Word} (h : ∀ j, j < n → f j = g j) : wordsE v n f = wordsE v n g := by unfold wordsE; rw [arr_congr h]
theorem arr_next {α : Type} (f : Nat → α) (n : Nat) : arr f (n + 1) = arr f n ++ [f n] := by unfold arr; rw [List.range_succ, List.map_append]; rfl
/-- One number behind a row of the call's own; it lies in a block that was built before. -/
theorem app_one {B : Nat} {w : World} {A C : List Ent} {v : Value} {f : Nat → Int} {q X : Nat} (h : Sep B w (A ++ Ent.ints 3 v (arr f q) :: C)) (hB : B ≤ w.heap.size) (hq : q ≤ 8) (hx : w.cell? ⟨X, 0, none⟩ = some (.int .i64 (f q))) :
    ∃ v' w', (Builtin.append_ #[28, 28] 28 #[v, .slice (some ⟨X, 0, none⟩) 1 1]).run Try.prog w = .ok v' w' ∧ Sep B w' (A ++ Ent.ints 3 v' (arr f (q + 1)) :: C) ∧ Below B w w' := by
  unfold Ent.ints at h
  rw [arr_len] at h
  obtain ⟨v', w', hr, hs, hb⟩ := run_append_sep elemInt8 28 h hB ⟨X, 0, none⟩ 1 1 [.int .i64 (f q)] rfl (fun j u hj => by
    match j, hj with
    | 0, hj => simp at hj; subst hj; simpa [Addr.add] using hx) (fun u hu => by simp at hu; subst hu; rfl) (by omega) (by omega) (by unfold maxLen; omega)
  refine ⟨v', w', hr, ?_, hb⟩
  unfold Ent.ints
  rw [arr_len, arr_next, List.map_append]
  exact hs
/-- 'make' as one step of a region that draws. -/
theorem step_make {P : Program} {ops : Array Oper} {o : Oper} {a : Act} {w : World} {K : Act → World → Prop} {Q : Exit → Act → World → Prop} {E : Prop} {t e : TypeId} {size bytes : Nat} {z : Value} (hgd : o.guard = none) (l c : Operand) (hop : o.op = Op.makeSlice t l c) (T : ElemTy P t e size bytes z)
    (n : Nat) (hl : a.eval l = .int .i64 n) (hc : a.eval c = .int .i64 n) (b2 : bytes * n ≤ 281474976710656) (b3 : n ≤ maxLen)
    (h : K (a.put o.dst (.slice (some ⟨w.heap.size, 0, none⟩) n n)) (w.alloc (.cells (madeCells z.cells (n * size)) e))) : if Region.wanted o (yielded ops a.tmps) = true then Oper.wp P o a w K Q else E := by
  have hw : Region.wanted o (yielded ops a.tmps) = true := by simp [Region.wanted, hgd]
  rw [if_pos hw]
  obtain ⟨ht, ⟨i, hi, hz, rfl, rfl⟩, hzs, hsz⟩ := T
  have h63' : (n : Int) ≤ 9223372036854775807 := by simp only [maxLen] at b3; omega
  have hb' : (i.bytes : Int) * (n : Int) ≤ 281474976710656 := by
    have h : ((i.bytes * n : Nat) : Int) ≤ 281474976710656 := by omega
    rwa [Int.natCast_mul] at h
  have hr := run_make (P := P) w t e i z ht hi hz .i64 .i64 n n (by omega) (Int.le_refl _) hb' h63'
  simp only [Int.toNat_natCast] at hr
  unfold Oper.wp
  simp [execOp, hop, hl, hc, hr, Result.andThen]
  exact h

theorem intSl_at' (w : World) (g : Nat) (hg : g = w.heap.size) (cs : Array Value) (e : TypeId) (xs : List Int) (h : cs.toList = xs.map (Value.int .i64)) : IntSl (g + 1) (w.alloc (.cells cs e)) (some ⟨g, 0, none⟩) xs := by
  subst hg; exact intSl_new w cs e xs h
abbrev madeW (n : Nat) : Obj := .cells (madeCells #[.int .i64 0, .int .i64 0, .int .i64 0] (n * 3)) 127
abbrev oneC : Obj := .cells #[.int .i64 (-1)] 3
section
variable {g gx n : Nat} {wr w4 : World} {F : List Ent} {vf : Value}
theorem round_from (h1 : 1 ≤ n) {W : World} (h : Sep g W (wordsE (.slice (some ⟨gx, 0, none⟩) n n) n (fun _ => (0, 0, 0)) :: F)) (hg : g ≤ W.heap.size) (hs : Sep W.heap.size w4 [Ent.ints 3 vf (List.replicate n (-1))]) (hb : Below W.heap.size W w4) :
    ∃ gf fo cf, vf = .slice (some ⟨gf, fo, none⟩) n cf ∧ Sep g w4 (wordsE (.slice (some ⟨gx, 0, none⟩) n n) n (fun _ => (0, 0, 0)) :: Ent.ints 3 (.slice (some ⟨gf, fo, none⟩) n cf) (arr (fun _ => (-1 : Int)) n) :: F) := by
  obtain ⟨af, cf, rfl, hcf, _⟩ := hs.intsShape (A := []) (C := [])
  have hj := (Sep.join h hg hb hs).perm (List.Perm.swap _ _ _)
  simp only [List.length_replicate] at hj hcf ⊢
  rw [arr_const] at hj
  obtain ⟨gf, fo, rfl, _⟩ := arrI_at (A := [_]) hj (show 0 < n by omega)
  exact ⟨gf, fo, cf, rfl, hj⟩
theorem round_words (h : Sep g wr F) (hg : g ≤ wr.heap.size) (h8 : n ≤ 8) : Sep g (wr.alloc (madeW n)) (wordsE (.slice (some ⟨wr.heap.size, 0, none⟩) n n) n (fun _ => (0, 0, 0)) :: F) := by
  unfold wordsE
  rw [← made_words]
  exact h.rowMade hg _ n 3 _ (size_madeCells _ _) (by unfold maxLen; omega)
end
/-- The words behind t rounds; over whom behind t rounds. -/
def wordT (E : List Edge) (n t : Nat) (j : Nat) : Word := ((said E n t j).1, (said E n t j).2, (j : Int))
def overT (E : List Edge) (n t : Nat) (i : Nat) : Int := if t = 0 then -1 else (E.foldl (hear (said E n (t - 1)) i) (((i : Int), 0, (i : Int)), -1)).2

theorem tree_err (n : Int) (ao : Option Addr) (len ac B : Nat) (L : List Lnk) (c : Int) (w : World) (hA : RowSl B w ao 3 (L.map lnkC)) (hlen : len = L.length) (hl : L.length ≤ 9223372036854775807) (hB : B ≤ w.heap.size) (hc : c = vCode n L) (h0 : ¬ c = 0) :
    Calls Try.prog 32 #[.int .i64 n, .slice ao len ac] w fun e w' => e = .returned (.tuple #[.slice none 0 0, .slice none 0 0, .slice none 0 0, .iface 76 (.int .i64 c)]) ∧ Below w.heap.size w w' := by
  subst hlen
  have HA := Lib.hid hA; clear hA
  have HC := Lib.hid hc
  have H0 := Lib.hid h0
  clear hc h0
  go_enter Try.func32, Try.ntmps32
  go_wp2_with fail
  refine (vCheck_any _ _ _ _ _ L _ HA.out rfl hl hB).mono ?_
  rintro e w1 ⟨rfl, hb⟩
  rw [← HC.out, errV_not H0.out]
  have HB := Lib.hid hb; clear hb
  go_wp2
  try simp only [Exit.inBlock, Exit.then]
  refine bodyPost_ret (results_tmp4 rfl _ _ _) rfl ?_
  exact ⟨rfl, HB.out⟩

set_option maxHeartbeats 8000000 in
set_option maxRecDepth 100000 in
theorem tree_ok (n : Nat) (ao : Option Addr) (len ac B0 : Nat) (L : List Lnk) (w : World) (hA : RowSl B0 w ao 3 (L.map lnkC)) (hlen : len = L.length) (hB : B0 ≤ w.heap.size) (hok : VOk n L) :
    Calls Try.prog 32 #[.int .i64 n, .slice ao len ac] w fun e w' => ∃ vr vf vo, e = .returned (.tuple #[vr, vf, vo, .nilIface]) ∧
      Sep w.heap.size w' [Ent.ints 3 vr (arr (fun i => (rootF n (edges L) i : Int)) n), Ent.ints 3 vf (arr (fun i => far (edges L) i (rootF n (edges L) i)) n), Ent.ints 3 vo (arr (fun i => hopOf n (edges L) i (rootF n (edges L) i)) n)] ∧ Below w.heap.size w w' := by
  subst hlen
  have hn1 := hok.n1
  have hn8 := hok.n8
  have hl32 := hok.few
  have HA := Lib.hid hA; clear hA
  have HOK := Lib.hid hok; clear hok
  obtain ⟨g, hg⟩ : ∃ g, g = w.heap.size := ⟨_, rfl⟩
  have hB0 : B0 ≤ g := by omega
  have HG := Lib.hid hg; clear hg
  go_enter Try.func32, Try.ntmps32
  go_wp2_with fail
  refine (vCheck_any _ _ _ _ _ L _ HA.out rfl (by omega) hB).mono ?_
  rintro e w1 ⟨rfl, hb⟩
  rw [vCode_nat.2 HOK.out, errV_zero]
  have HB1 := Lib.hid (show Below g w w1 by rw [HG.out]; exact hb); clear hb
  have hg1 : g ≤ w1.heap.size := by have := HB1.out.size; rw [← HG.out] at this; exact this
  have HNIL := Lib.hid (Sep.nil g w1)
  go_wp2_with (at_make; refine wpList_make_sep rfl _ _ rfl elemWord .i64 .i64 n n n rfl rfl rfl rfl (by omega) (by unfold maxLen; omega) HNIL.out hg1 ?_)
  intro w2 hs hb hsz
  obtain ⟨gn, hgn⟩ : ∃ gn, gn = w1.heap.size := ⟨_, rfl⟩
  rw [← hgn] at hs ⊢
  have hs2 : Sep g w2 [wordsE (.slice (some ⟨gn, 0, none⟩) n n) n (fun _ => (0, 0, 0))] := by
    unfold wordsE
    rw [← made_words]
    exact hs
  have HS2 := Lib.hid hs2
  have HB2 := Lib.hid (HB1.out.trans (hb.mono hg1))
  have hg2 : g ≤ w2.heap.size := by have := HB2.out.size; rw [← HG.out] at this; exact this
  clear hs hb hsz hs2 hgn
  go_wp2_with fail
  have hsz2 : (w2.alloc (.cells #[.int .i64 (-1)] 3)).heap.size = w2.heap.size + 1 := by simp
  refine (repeat_any _ 1 (w2.heap.size + 1) (-1) n _ (intSl_new w2 #[.int .i64 (-1)] _ [-1] rfl) (by rw [hsz2]; exact Nat.le_refl _) ⟨hn1, hn8⟩).mono ?_
  rintro e w3 ⟨vh, rfl, hs3, hb3⟩
  have hs3 := Sep.join (L := [_]) (HS2.out.alloc (.cells #[.int .i64 (-1)] 3)) (by rw [hsz2]; omega) hb3 hs3
  have hb3 : Below g w w3 := (HB2.out.alloc hg2 _).trans (hb3.mono (by rw [hsz2]; omega))
  have hs4 := hs3.perm (List.Perm.swap _ _ [])
  have HS3 := Lib.hid hs4
  have HB3 := Lib.hid hb3
  clear hs3 hb3 hsz2 hs4 HS2 HB2
  go_wp2
  go_loopw [36] (fun i wr => ∃ k : Nat, k ≤ n ∧ i = .int .i64 k ∧ Sep g wr [wordsE (.slice (some ⟨gn, 0, none⟩) n n) n (fun j => if j < k then ((j : Int), 0, (j : Int)) else (0, 0, 0)), Ent.ints 3 vh (List.replicate n (-1))] ∧ Below g w wr) (fun i _ => n - (intOf i).toNat)
  case atStart => exact ⟨0, Nat.zero_le _, rfl, by simpa using HS3.out, HB3.out⟩
  case round =>
    obtain ⟨k, hk, rfl, hsep, hbel⟩ := hrel
    have HS := Lib.hid hsep; clear hsep
    have HB := Lib.hid hbel; clear hbel
    by_cases hlt : k < n
    · have hki : (k : Int) < (n : Int) := by omega
      have hk0 : (0 : Int) ≤ (k : Int) := by omega
      obtain ⟨⟨c0, c1, c2⟩, ⟨f0, f1, f2⟩, hgg, hset⟩ := words_at (A := []) HS.out hlt
      simp only [Nat.zero_add] at c0 c1 c2 f0 f1 f2 hset
      have hset := hset ((k : Int), 0, (k : Int))
      have hfun : arr (updf (fun j => if j < k then ((j : Int), 0, (j : Int)) else (0, 0, 0)) k ((k : Int), 0, (k : Int))) n = arr (fun j => if j < k + 1 then (((j : Int), 0, (j : Int)) : Word) else (0, 0, 0)) n := arr_congr fun j _ => by
        by_cases e : j = k
        · subst e; rw [updf_same, if_pos (Nat.lt_succ_self _)]
        · rw [updf_other e]
          by_cases hl : j < k
          · rw [if_pos hl, if_pos (by omega)]
          · rw [if_neg hl, if_neg (by omega)]
      unfold wordsE at hset
      rw [hfun] at hset
      have HSET := Lib.hid hset
      have HBS := Lib.hid (((HB.out.setCell (p := ⟨gn, k * 3, none⟩) hgg (.int .i64 k)).setCell (p := ⟨gn, k * 3 + 1, none⟩) hgg (.int .i64 0)).setCell (p := ⟨gn, k * 3 + 2, none⟩) hgg (.int .i64 k))
      clear hset hfun
      go_wp2
      go_roundw
      case rel => exact ⟨k + 1, by omega, by go_num, HSET.out, HBS.out⟩
      case measure => simp [intOf]; omega
    · obtain rfl : k = n := by omega
      have hki : decide ((k : Int) < (k : Int)) = false := by simp
      have hs5 : Sep g wr [wordsE (.slice (some ⟨gn, 0, none⟩) k k) k (wordT (edges L) k 0), Ent.ints 3 vh (arr (overT (edges L) k 0) k)] := by
        have h := HS.out
        unfold wordsE at h ⊢
        rw [arr_congr (f := fun j => if j < k then (((j : Int), 0, (j : Int)) : Word) else (0, 0, 0)) (g := wordT (edges L) k 0) (fun j hj => by rw [if_pos hj]; unfold wordT; rw [said_zero HOK.out.net hj]), arr_const] at h
        exact h
      have HS5 := Lib.hid hs5; clear hs5
      go_wp2
      go_loopg [6, 9, 47] k (fun gk vo vn iv wr => ∃ (t : Nat) (gn : Nat) (vv : Value), gk + t = k ∧ vv = vo ∧ vn = .slice (some ⟨gn, 0, none⟩) k k ∧ iv = .int .i64 t ∧ Sep g wr [wordsE (.slice (some ⟨gn, 0, none⟩) k k) k (wordT (edges L) k t), Ent.ints 3 vv (arr (overT (edges L) k t) k)] ∧ Below g w wr)
      case atStart => exact ⟨0, gn, _, by omega, rfl, rfl, rfl, HS5.out, HB.out⟩
      case round =>
        obtain ⟨gi, rfl⟩ : ∃ gi, gi = gk := ⟨_, rfl⟩
        obtain ⟨t, gn, vo, hgt, rfl, rfl, rfl, hsep, hbel⟩ := hrel
        obtain ⟨n, rfl⟩ : ∃ n, n = k := ⟨_, rfl⟩
        have HS6 := Lib.hid hsep; clear hsep
        have HB6 := Lib.hid hbel; clear hbel
        clear HS HB HS5 HS3 HB3
        have hg6 : g ≤ wr.heap.size := by have := HB6.out.size; rw [← HG.out] at this; exact this
        by_cases hlt : t < n
        · have hti : (t : Int) < (n : Int) := by omega
          have ht0 : (0 : Int) ≤ (t : Int) := by omega
          go_upto_region 13 with fail
          go_cut [11, 12] (fun vx vf wx => ∃ (gx gf fo cf : Nat), vx = .slice (some ⟨gx, 0, none⟩) n n ∧ vf = .slice (some ⟨gf, fo, none⟩) n cf ∧
            Sep g wx [wordsE (.slice (some ⟨gx, 0, none⟩) n n) n (fun _ => (0, 0, 0)), Ent.ints 3 (.slice (some ⟨gf, fo, none⟩) n cf) (arr (fun _ => (-1 : Int)) n), wordsE (.slice (some ⟨gn, 0, none⟩) n n) n (wordT (edges L) n t), Ent.ints 3 vo (arr (overT (edges L) n t) n)] ∧ Below g w wx)
          case first =>
            refine wp_region_held_drew (S := fun _ => True) (by kernel_rfl) trivial (fun _ => ?_)
            refine wpAnyH_take (i := 0) (v := ?v0a) rfl (by kernel_rfl) (by kernel_rfl) (by kernel_rfl) (fun _ _ _ h => h) (Or.inl ⟨by rfl, ?hy0a⟩) (by trivial) ?rest0a
            case hy0a =>
              intro w hSw
              go_simp
              try with_reducible rfl
            simp only [Act.put, List.setIfInBounds_toArray, List.set_cons_zero, List.set_cons_succ, List.getElem_toArray, List.getElem_cons_zero]
            refine wpAnyH_take (i := 3) (v := ?v3a) rfl (by kernel_rfl) (by kernel_rfl) (by kernel_rfl) (fun _ _ _ h => h) (Or.inl ⟨by rfl, ?hy3a⟩) (by trivial) ?rest3a
            case hy3a =>
              intro w hSw
              go_simp
              try with_reducible rfl
            simp only [Act.put, List.setIfInBounds_toArray, List.set_cons_zero, List.set_cons_succ, List.getElem_toArray, List.getElem_cons_zero, List.getElem_cons_succ]
            refine wpAnyH_ready (rs := [1, 2]) (by kernel_rfl) (by simp) ?_
            refine AllReadyH.cons rfl (fun K hK => ?_) (AllReadyH.cons rfl (fun K hK => ?_) AllReadyH.nil)
            · refine step_make (n := n) rfl _ _ rfl elemWord rfl rfl (by omega) (by unfold maxLen; omega) ?_
              refine hK.out _ _ trivial (fun _ => ?_)
              clear hK K
              try simp only [Act.put, List.setIfInBounds_toArray, List.set_cons_zero, List.set_cons_succ, List.getElem_toArray, List.getElem_cons_zero, List.getElem_cons_succ]
              refine wpAnyH_ready (rs := [2]) (by kernel_rfl) (by simp) ?_
              refine AllReadyH.cons rfl (fun K hK => ?_) AllReadyH.nil
              go_simp
              refine hK.out _ _ trivial (fun _ => ?_)
              clear hK K
              try simp only [Act.put, List.setIfInBounds_toArray, List.set_cons_zero, List.set_cons_succ, List.getElem_toArray, List.getElem_cons_zero, List.getElem_cons_succ]
              refine wpAnyH_ready (rs := [4]) (by kernel_rfl) (by simp) ?_
              refine AllReadyH.cons rfl (fun K hK => ?_) AllReadyH.nil
              go_simp
              go_at_call 58
              have hmz : ((wr.alloc (.cells (madeCells #[.int .i64 0, .int .i64 0, .int .i64 0] (n * 3)) 127)).alloc (.cells #[.int .i64 (-1)] 3)).drew.heap.size = wr.heap.size + 1 + 1 := by show (World.alloc _ _).heap.size = _; simp
              refine (repeat_any _ 1 (wr.heap.size + 1 + 1) (-1) n _ ((intSl_at' _ _ (by simp) #[.int .i64 (-1)] 3 [-1] rfl).below (below_drew _ _)) (Nat.le_of_eq hmz.symm) ⟨hn1, hn8⟩).mono ?_
              rintro e w4 ⟨vf, rfl, hs, hb⟩
              go_wp2_with fail
              refine hK.out _ _ trivial (fun _ => ?_)
              clear hK K
              try simp only [Act.put, List.setIfInBounds_toArray, List.set_cons_zero, List.set_cons_succ, List.getElem_toArray, List.getElem_cons_zero, List.getElem_cons_succ]
              refine wpAnyH_take (i := 5) (v := ?v5b) rfl (by kernel_rfl) (by kernel_rfl) (by kernel_rfl) (fun _ _ _ h => h) (Or.inl ⟨by rfl, ?hy5b⟩) (by trivial) ?rest5b
              case hy5b =>
                intro w hSw
                go_simp
                try with_reducible rfl
              simp only [Act.put, List.setIfInBounds_toArray, List.set_cons_zero, List.set_cons_succ, List.getElem_toArray, List.getElem_cons_zero, List.getElem_cons_succ]
              refine wpAnyH_take (i := 6) (v := ?v6b) rfl (by kernel_rfl) (by kernel_rfl) (by kernel_rfl) (fun _ _ _ h => h) (Or.inl ⟨by rfl, ?hy6b⟩) (by trivial) ?rest6b
              case hy6b =>
                intro w hSw
                go_simp
                try with_reducible rfl
              simp only [Act.put, List.setIfInBounds_toArray, List.set_cons_zero, List.set_cons_succ, List.getElem_toArray, List.getElem_cons_zero, List.getElem_cons_succ]
              refine wpAnyH_done (by kernel_rfl) ?_ _
              go_wp2
              go_meet
              have hw := (((round_words HS6.out hg6 hn8).alloc oneC).drew)
              have hgw : g ≤ ((wr.alloc (madeW n)).alloc oneC).drew.heap.size := by show g ≤ (World.alloc _ _).heap.size; simp; omega
              obtain ⟨gf, fo, cf, rfl, hj⟩ := round_from hn1 hw hgw (hs.mono (Nat.le_refl _)) hb
              exact ⟨wr.heap.size, gf, fo, cf, rfl, rfl, hj, HB6.out.trans (((((Below.refl g wr).alloc hg6 (madeW n)).alloc (by simp; omega) oneC).drew).trans (hb.mono hgw))⟩
            · go_simp
              refine hK.out _ _ trivial (fun _ => ?_)
              clear hK K
              try simp only [Act.put, List.setIfInBounds_toArray, List.set_cons_zero, List.set_cons_succ, List.getElem_toArray, List.getElem_cons_zero, List.getElem_cons_succ]
              refine wpAnyH_ready (rs := [1, 4]) (by kernel_rfl) (by simp) ?_
              refine AllReadyH.cons rfl (fun K hK => ?_) (AllReadyH.cons rfl (fun K hK => ?_) AllReadyH.nil)
              · refine step_make (n := n) rfl _ _ rfl elemWord rfl rfl (by omega) (by unfold maxLen; omega) ?_
                refine hK.out _ _ trivial (fun _ => ?_)
                clear hK K
                try simp only [Act.put, List.setIfInBounds_toArray, List.set_cons_zero, List.set_cons_succ, List.getElem_toArray, List.getElem_cons_zero, List.getElem_cons_succ]
                refine wpAnyH_ready (rs := [4]) (by kernel_rfl) (by simp) ?_
                refine AllReadyH.cons rfl (fun K hK => ?_) AllReadyH.nil
                go_simp
                go_at_call 58
                have hmz : ((wr.alloc oneC).alloc (madeW n)).drew.heap.size = wr.heap.size + 1 + 1 := by show (World.alloc _ _).heap.size = _; simp
                refine (repeat_any _ 1 (wr.heap.size + 1 + 1) (-1) n _ ((((intSl_new wr #[.int .i64 (-1)] 3 [-1] rfl).past (by simp) (madeW n)).mono (Nat.le_succ _)).below (below_drew _ _)) (Nat.le_of_eq hmz.symm) ⟨hn1, hn8⟩).mono ?_
                rintro e w4 ⟨vf, rfl, hs, hb⟩
                go_wp2_with fail
                refine hK.out _ _ trivial (fun _ => ?_)
                clear hK K
                try simp only [Act.put, List.setIfInBounds_toArray, List.set_cons_zero, List.set_cons_succ, List.getElem_toArray, List.getElem_cons_zero, List.getElem_cons_succ]
                refine wpAnyH_take (i := 5) (v := ?v5c) rfl (by kernel_rfl) (by kernel_rfl) (by kernel_rfl) (fun _ _ _ h => h) (Or.inl ⟨by rfl, ?hy5c⟩) (by trivial) ?rest5c
                case hy5c =>
                  intro w hSw
                  go_simp
                  try with_reducible rfl
                simp only [Act.put, List.setIfInBounds_toArray, List.set_cons_zero, List.set_cons_succ, List.getElem_toArray, List.getElem_cons_zero, List.getElem_cons_succ]
                refine wpAnyH_take (i := 6) (v := ?v6c) rfl (by kernel_rfl) (by kernel_rfl) (by kernel_rfl) (fun _ _ _ h => h) (Or.inl ⟨by rfl, ?hy6c⟩) (by trivial) ?rest6c
                case hy6c =>
                  intro w hSw
                  go_simp
                  try with_reducible rfl
                simp only [Act.put, List.setIfInBounds_toArray, List.set_cons_zero, List.set_cons_succ, List.getElem_toArray, List.getElem_cons_zero, List.getElem_cons_succ]
                refine wpAnyH_done (by kernel_rfl) ?_ _
                go_wp2
                go_meet
                have hw := (round_words (HS6.out.alloc oneC) (show g ≤ (wr.alloc oneC).heap.size by simp; omega) hn8).drew
                have hgw : g ≤ ((wr.alloc oneC).alloc (madeW n)).drew.heap.size := by show g ≤ (World.alloc _ _).heap.size; simp; omega
                obtain ⟨gf, fo, cf, rfl, hj⟩ := round_from hn1 hw hgw (hs.mono (Nat.le_refl _)) hb
                exact ⟨_, gf, fo, cf, by first | rfl | simp, rfl, hj, HB6.out.trans (((((Below.refl g wr).alloc hg6 oneC).alloc (by simp; omega) (madeW n)).drew).trans (hb.mono hgw))⟩
              · go_simp
                go_at_call 58
                have hmz : (wr.alloc oneC).drew.heap.size = wr.heap.size + 1 := by show (World.alloc _ _).heap.size = _; simp
                refine (repeat_any _ 1 (wr.heap.size + 1) (-1) n _ ((intSl_new wr #[.int .i64 (-1)] 3 [-1] rfl).below (below_drew _ _)) (Nat.le_of_eq hmz.symm) ⟨hn1, hn8⟩).mono ?_
                rintro e w4 ⟨vf, rfl, hs, hb⟩
                go_wp2_with fail
                refine hK.out _ _ trivial (fun _ => ?_)
                clear hK K
                try simp only [Act.put, List.setIfInBounds_toArray, List.set_cons_zero, List.set_cons_succ, List.getElem_toArray, List.getElem_cons_zero, List.getElem_cons_succ]
                refine wpAnyH_ready (rs := [1]) (by kernel_rfl) (by simp) ?_
                refine AllReadyH.cons rfl (fun K hK => ?_) AllReadyH.nil
                refine step_make (n := n) rfl _ _ rfl elemWord rfl rfl (by omega) (by unfold maxLen; omega) ?_
                refine hK.out _ _ trivial (fun _ => ?_)
                clear hK K
                try simp only [Act.put, List.setIfInBounds_toArray, List.set_cons_zero, List.set_cons_succ, List.getElem_toArray, List.getElem_cons_zero, List.getElem_cons_succ]
                have hgw : g ≤ (wr.alloc oneC).drew.heap.size := by show g ≤ (World.alloc _ _).heap.size; simp; omega
                have hg4 : g ≤ w4.heap.size := Nat.le_trans hgw hb.size
                have hj := Sep.join (L := [_]) ((HS6.out.alloc oneC).drew) hgw hb hs
                have hw := round_words hj hg4 hn8
                obtain ⟨af, cf, rfl, hcf, _⟩ := Sep.intsShape (A := [_]) hw
                simp only [List.length_replicate] at hw hcf
                rw [arr_const] at hw
                obtain ⟨gf, fo, rfl, _⟩ := arrI_at (A := [_]) hw (show 0 < n by omega)
                refine wpAnyH_take (i := 5) (v := ?v5d) rfl (by kernel_rfl) (by kernel_rfl) (by kernel_rfl) (fun _ _ _ h => h) (Or.inl ⟨by rfl, ?hy5d⟩) (by trivial) ?rest5d
                case hy5d =>
                  intro w hSw
                  go_simp
                  try with_reducible rfl
                simp only [Act.put, List.setIfInBounds_toArray, List.set_cons_zero, List.set_cons_succ, List.getElem_toArray, List.getElem_cons_zero, List.getElem_cons_succ]
                refine wpAnyH_take (i := 6) (v := ?v6d) rfl (by kernel_rfl) (by kernel_rfl) (by kernel_rfl) (fun _ _ _ h => h) (Or.inl ⟨by rfl, ?hy6d⟩) (by trivial) ?rest6d
                case hy6d =>
                  intro w hSw
                  go_simp
                  try with_reducible rfl
                simp only [Act.put, List.setIfInBounds_toArray, List.set_cons_zero, List.set_cons_succ, List.getElem_toArray, List.getElem_cons_zero, List.getElem_cons_succ]
                refine wpAnyH_done (by kernel_rfl) ?_ _
                go_wp2
                go_meet
                exact ⟨_, gf, fo, cf, rfl, by simp, hw, HB6.out.trans (((((Below.refl g wr).alloc hg6 oneC).drew).trans (hb.mono hgw)).alloc hg4 (madeW n))⟩
          case rest =>
            obtain ⟨gx, gf, fo, cf, rfl, rfl, hsep, hbel⟩ := hcut
            have HS7 := Lib.hid hsep; clear hsep
            have HB7 := Lib.hid hbel; clear hbel
            obtain ⟨f, hf⟩ : ∃ f, f = said (edges L) n t := ⟨_, rfl⟩
            have hfr : ∀ j, j < n → 0 ≤ (f j).2 ∧ (f j).2 ≤ 1000 := fun j hj => by
              rw [hf]
              exact ⟨(bell_lst HOK.out.net t j _).nonneg HOK.out.net, (bell_lst HOK.out.net t j _).2.1⟩
            have HF := Lib.hid hf
            have HFR := Lib.hid hfr
            clear hf hfr HS6 HB6
            go_wp2
            go_loopw [55] (fun i wr => ∃ k : Nat, k ≤ n ∧ i = .int .i64 k ∧ Sep g wr [wordsE (.slice (some ⟨gx, 0, none⟩) n n) n (fun j => if j < k then wordT (edges L) n (t + 1) j else (0, 0, 0)), Ent.ints 3 (.slice (some ⟨gf, fo, none⟩) n cf) (arr (fun j => if j < k then overT (edges L) n (t + 1) j else (-1 : Int)) n),
                wordsE (.slice (some ⟨gn, 0, none⟩) n n) n (wordT (edges L) n t), Ent.ints 3 vo (arr (overT (edges L) n t) n)] ∧ Below g w wr) (fun i _ => n - (intOf i).toNat)
            case atStart => exact ⟨0, Nat.zero_le _, rfl, by simpa using HS7.out, HB7.out⟩
            case round =>
              obtain ⟨k, hk, rfl, hsep, hbel⟩ := hrel
              have HS8 := Lib.hid hsep; clear hsep
              have HB8 := Lib.hid hbel; clear hbel
              have hg8 : g ≤ wr.heap.size := by have := HB8.out.size; rw [← HG.out] at this; exact this
              by_cases hkn : k < n
              · have hki : (k : Int) < (n : Int) := by omega
                have hk0 : (0 : Int) ≤ (k : Int) := by omega
                obtain ⟨F0, hF0⟩ : ∃ F0 : Nat → Int, F0 = fun j => if j < k then overT (edges L) n (t + 1) j else (-1 : Int) := ⟨_, rfl⟩
                obtain ⟨W0, hW0⟩ : ∃ W0 : Nat → Word, W0 = fun j => if j < k then wordT (edges L) n (t + 1) j else (0, 0, 0) := ⟨_, rfl⟩
                have HF0 := Lib.hid hF0
                have HW0 := Lib.hid hW0
                have hs9 := Sep.blkNew HS8.out hg8 #[.int .i64 k, .int .i64 0, .int .i64 k] 127
                have hb9 := HB8.out.alloc hg8 (.cells #[.int .i64 k, .int .i64 0, .int .i64 k] 127)
                have hup : arr (updf F0 k (-1)) n = arr F0 n := arr_congr fun j _ => by
                  by_cases e : j = k
                  · subst e; rw [updf_same, hF0]; simp
                  · rw [updf_other e]
                rw [← hF0, ← hW0, ← hup] at hs9
                have HS9 := Lib.hid hs9
                have HB9 := Lib.hid hb9
                clear hs9 hb9 hup hF0 hW0
                go_upto_region 18 with fail
                obtain ⟨gb, hgb⟩ : ∃ gb, gb = wr.heap.size := ⟨_, rfl⟩
                rw [← hgb] at HS9 hg8 ⊢
                generalize wr.alloc (.cells #[.int .i64 k, .int .i64 0, .int .i64 k] 127) = w9 at *
                clear hgb HS8 HB8
                go_wp2
                go_loopw [63] (fun i wr => ∃ q : Nat, q ≤ L.length ∧ i = .int .i64 q ∧ Sep g wr (Ent.blk1 gb 127 (wC ((edges (L.take q)).foldl (hear f k) (((k : Int), 0, (k : Int)), -1)).1) :: [wordsE (.slice (some ⟨gx, 0, none⟩) n n) n W0,
                    Ent.ints 3 (.slice (some ⟨gf, fo, none⟩) n cf) (arr (updf F0 k ((edges (L.take q)).foldl (hear f k) (((k : Int), 0, (k : Int)), -1)).2) n), wordsE (.slice (some ⟨gn, 0, none⟩) n n) n (wordT (edges L) n t), Ent.ints 3 vo (arr (overT (edges L) n t) n)]) ∧ Below g w wr) (fun i _ => L.length - (intOf i).toNat)
                case atStart => exact ⟨0, Nat.zero_le _, rfl, HS9.out, HB9.out⟩
                case round =>
                  obtain ⟨q, hq, rfl, hsep, hbel⟩ := hrel
                  have HS10 := Lib.hid hsep; clear hsep
                  have HB10 := Lib.hid hbel; clear hbel
                  have hg10 : g ≤ wr.heap.size := by have := HB10.out.size; rw [← HG.out] at this; exact this
                  obtain ⟨s1, hs1⟩ : ∃ s1, s1 = (edges (L.take q)).foldl (hear f k) (((k : Int), 0, (k : Int)), -1) := ⟨_, rfl⟩
                  rw [← hs1] at HS10
                  have HS1 := Lib.hid hs1; clear hs1
                  by_cases hql : q < L.length
                  · obtain ⟨x, hx⟩ : ∃ x, L[q]? = some x := ⟨_, List.getElem?_eq_getElem hql⟩
                    obtain ⟨b, off, rfl, hbb, c0, c1, c2⟩ := (HA.out.below (HB10.out.mono hB0)).lnk hx
                    have hlo := HOK.out.each x (List.mem_iff_getElem?.2 ⟨q, hx⟩)
                    have hnext := edges_take_succ hx
                    obtain ⟨xa, xb, xc⟩ := x
                    obtain ⟨⟨la1, la2⟩, ⟨lb1, lb2⟩, ⟨lc1, lc2⟩, lne⟩ := hlo
                    simp only at c0 c1 c2 la1 la2 lb1 lb2 lc1 lc2 lne
                    obtain ⟨ua, rfl⟩ := Int.eq_ofNat_of_zero_le la1
                    obtain ⟨ub, rfl⟩ := Int.eq_ofNat_of_zero_le lb1
                    have hua : ua < n := by omega
                    have hub : ub < n := by omega
                    have HNX := Lib.hid hnext
                    clear hnext hx la1 la2 lb1 lb2 lne
                    have hs11 := Sep.blkNew HS10.out hg10 #[.int .i64 ua, .int .i64 ub, .int .i64 xc] 71
                    have HS11 := Lib.hid hs11; clear hs11
                    have HB11 := Lib.hid (HB10.out.alloc hg10 (.cells #[.int .i64 ua, .int .i64 ub, .int .i64 xc] 71))
                    have hqi : (q : Int) < (L.length : Int) := by omega
                    go_upto_region 21 with fail
                    obtain ⟨gl, hgl⟩ : ∃ gl, gl = wr.heap.size := ⟨_, rfl⟩
                    rw [← hgl] at HS11 hg10 ⊢
                    generalize wr.alloc (.cells #[.int .i64 ua, .int .i64 ub, .int .i64 xc] 71) = w11 at *
                    clear c0 c1 c2 hgl HS10 HB10 hqi
                    obtain ⟨e0, _⟩ := Sep.blkAt (A := []) HS11.out (j := 0) rfl
                    obtain ⟨e1, _⟩ := Sep.blkAt (A := []) HS11.out (j := 1) rfl
                    go_wp2
                    clear e0 e1
                    go_loopw [78] (fun p wr => ∃ j : Nat, j ≤ 2 ∧ p = .int .i64 j ∧ Sep g wr (Ent.blk1 gl 71 [.int .i64 ua, .int .i64 ub, .int .i64 xc] :: Ent.blk1 gb 127 (wC (((edgesOf ((ua : Int), (ub : Int), xc)).take j).foldl (hear f k) s1).1) :: [wordsE (.slice (some ⟨gx, 0, none⟩) n n) n W0,
                        Ent.ints 3 (.slice (some ⟨gf, fo, none⟩) n cf) (arr (updf F0 k (((edgesOf ((ua : Int), (ub : Int), xc)).take j).foldl (hear f k) s1).2) n), wordsE (.slice (some ⟨gn, 0, none⟩) n n) n (wordT (edges L) n t), Ent.ints 3 vo (arr (overT (edges L) n t) n)]) ∧ Below g w wr) (fun p _ => 2 - (intOf p).toNat)
                    case atStart => exact ⟨0, by omega, rfl, HS11.out, HB11.out⟩
                    case round =>
                      obtain ⟨j, hj, rfl, hsep, hbel⟩ := hrel
                      have HS12 := Lib.hid hsep; clear hsep
                      have HB12 := Lib.hid hbel; clear hbel
                      have hg12 : g ≤ wr.heap.size := by have := HB12.out.size; rw [← HG.out] at this; exact this
                      have h3 : j = 0 ∨ j = 1 ∨ j = 2 := by omega
                      rcases h3 with rfl | rfl | rfl
                      · skip
                        obtain ⟨s2, hs2⟩ : ∃ s2, s2 = ((edgesOf ((ua : Int), (ub : Int), xc)).take 0).foldl (hear f k) s1 := ⟨_, rfl⟩
                        have hnx : ((edgesOf ((ua : Int), (ub : Int), xc)).take 1).foldl (hear f k) s1 = hear f k s2 (ua, ub, xc) := by rw [hs2]; rfl
                        have hs13 := HS12.out
                        rw [← hs2] at hs13
                        have HNXT := Lib.hid hnx
                        have hs14 := Sep.blkNew hs13 hg12 #[.int .i64 ua, .int .i64 ub] 122
                        have HS14 := Lib.hid hs14
                        have HB14 := Lib.hid (HB12.out.alloc hg12 (.cells #[.int .i64 ua, .int .i64 ub] 122))
                        clear hs2 hnx hs13 hs14 HS12 HB12
                        have hja : decide ((0 : Int) < 2) = true := by decide
                        obtain ⟨hix0, hix1⟩ := idx2_run (ua : Int) (ub : Int) (ub : Int) (ua : Int) wr
                        go_upto_region 24 with fail
                        clear hix0 hix1
                        obtain ⟨ge, hge⟩ : ∃ ge, ge = wr.heap.size := ⟨_, rfl⟩
                        rw [← hge] at HS14 hg12 ⊢
                        generalize wr.alloc (.cells #[.int .i64 ua, .int .i64 ub] 122) = w14 at *
                        clear hge hja
                        have hg14 : g ≤ w14.heap.size := by have := HB14.out.size; rw [← HG.out] at this; exact this
                        obtain ⟨c0, _⟩ := Sep.blkAt (A := []) HS14.out (j := 0) rfl
                        obtain ⟨c1, _⟩ := Sep.blkAt (A := []) HS14.out (j := 1) rfl
                        have hyi : (ub : Int) < (n : Int) := by omega
                        have hy0 : (0 : Int) ≤ (ub : Int) := by omega
                        by_cases hxk : ua = k
                        · have hbe : ((ua : Int) != (k : Int)) = false := by simp [hxk]
                          obtain ⟨⟨v0, v1, v2⟩, _, _, _⟩ := words_at (A := [_, _, _, _, _]) HS14.out hub
                          simp only [Nat.zero_add] at v0 v1 v2
                          unfold wordT at v0 v1 v2
                          simp only [← HF.out] at v0 v1 v2
                          have hfr := HFR.out ub hub
                          obtain ⟨r, hr⟩ : ∃ r, r = (f ub).1 := ⟨_, rfl⟩
                          obtain ⟨d, hd⟩ : ∃ d, d = (f ub).2 := ⟨_, rfl⟩
                          rw [← hr] at v0
                          rw [← hd] at v1 hfr
                          obtain ⟨sm, hsm⟩ : ∃ sm, sm = d + xc := ⟨_, rfl⟩
                          have hws : IntKind.i64.wrap (d + xc) = sm := by rw [hsm]; simp [IntKind.wrap, IntKind.bits, IntKind.signed]; omega
                          have hheard : heard f (ua, ub, xc) = (r, sm, (ub : Int)) := by unfold heard; simp only; rw [← hr, ← hd, ← hsm]
                          have HHE := Lib.hid hheard
                          obtain ⟨⟨⟨b0, b1, b2⟩, so⟩, hs2⟩ : ∃ x, x = s2 := ⟨_, rfl⟩
                          subst hs2
                          have HXK := Lib.hid hxk
                          clear hr hd hsm hheard hxk
                          obtain ⟨l2, _⟩ := Sep.blkAt (A := [_]) HS14.out (j := 2) rfl
                          have hs15 := Sep.blkNew HS14.out hg14 #[.int .i64 r, .int .i64 d, .int .i64 ub] 127
                          have hz15 : (w14.alloc (.cells #[.int .i64 r, .int .i64 d, .int .i64 ub] 127)).heap.size = w14.heap.size + 1 := by simp
                          have hs16 := Sep.blkNew hs15 (by omega) #[.int .i64 r, .int .i64 sm, .int .i64 ub] 127
                          rw [hz15] at hs16
                          have HS16 := Lib.hid hs16
                          have HB16 := Lib.hid ((HB14.out.alloc hg14 (.cells #[.int .i64 r, .int .i64 d, .int .i64 ub] 127)).alloc (by omega) (.cells #[.int .i64 r, .int .i64 sm, .int .i64 ub] 127))
                          obtain ⟨l3, _⟩ := Sep.blkAt (A := [_, _]) hs15 (j := 2) rfl
                          obtain ⟨c3, _⟩ := Sep.blkAt (A := [_]) hs15 (j := 1) rfl
                          clear hs15 hz15 hs16
                          go_upto_region 27 with fail
                          clear v0 v1 v2 c0 c1 l2 l3 c3 HS14 HB14
                          generalize (w14.alloc (.cells #[.int .i64 r, .int .i64 d, .int .i64 ub] 127)).alloc (.cells #[.int .i64 r, .int .i64 sm, .int .i64 ub] 127) = w16 at *
                          have hg16 : g ≤ w16.heap.size := by have := HB16.out.size; rw [← HG.out] at this; exact this
                          obtain ⟨q0, _⟩ := Sep.blkAt (A := []) HS16.out (j := 0) rfl
                          obtain ⟨q1, _⟩ := Sep.blkAt (A := []) HS16.out (j := 1) rfl
                          obtain ⟨q2, _⟩ := Sep.blkAt (A := []) HS16.out (j := 2) rfl
                          obtain ⟨t0, _⟩ := Sep.blkAt (A := [_, _, _, _]) HS16.out (j := 0) (v := .int .i64 b0) rfl
                          obtain ⟨t1, _⟩ := Sep.blkAt (A := [_, _, _, _]) HS16.out (j := 1) (v := .int .i64 b1) rfl
                          obtain ⟨t2, _⟩ := Sep.blkAt (A := [_, _, _, _]) HS16.out (j := 2) (v := .int .i64 b2) rfl
                          go_wp2_with fail
                          refine (less_any r sm ub b0 b1 b2 _).mono ?_
                          rintro e w17 ⟨rfl, hb⟩
                          have HS17 := Lib.hid (HS16.out.kept hb)
                          have HB17 := Lib.hid (HB16.out.trans (hb.mono hg16))
                          clear hb q0 q1 q2 t0 t1 t2 HS16 HB16
                          obtain ⟨lv, hlv⟩ : ∃ lv, lv = lessI (r, sm, (ub : Int)) (b0, b1, b2) := ⟨_, rfl⟩
                          rw [← hlv]
                          by_cases hl : lv < 0
                          · have hld : decide (lv < 0) = true := decide_eq_true hl
                            have hhr : hear f k ((b0, b1, b2), so) (ua, ub, xc) = ((r, sm, (ub : Int)), (ub : Int)) := by
                              unfold hear
                              rw [HHE.out, if_pos ⟨HXK.out, by rw [← hlv]; exact hl⟩]
                            have HHR := Lib.hid hhr
                            clear hhr hlv
                            obtain ⟨q0, _⟩ := Sep.blkAt (A := []) HS17.out (j := 0) rfl
                            obtain ⟨q1, _⟩ := Sep.blkAt (A := []) HS17.out (j := 1) rfl
                            obtain ⟨q2, _⟩ := Sep.blkAt (A := []) HS17.out (j := 2) rfl
                            obtain ⟨c1, _⟩ := Sep.blkAt (A := [_, _]) HS17.out (j := 1) rfl
                            obtain ⟨t0, u0⟩ := Sep.blkAt (A := [_, _, _, _]) HS17.out (j := 0) (v := .int .i64 b0) rfl
                            obtain ⟨t1, u1⟩ := Sep.blkAt (A := [_, _, _, _]) HS17.out (j := 1) (v := .int .i64 b1) rfl
                            obtain ⟨t2, u2⟩ := Sep.blkAt (A := [_, _, _, _]) HS17.out (j := 2) (v := .int .i64 b2) rfl
                            obtain ⟨gf', fo', he, hgf, m1, m2, m3⟩ := arrI_at (A := [_, _, _, _, _, _]) HS17.out hkn
                            simp only [Option.some.injEq, Addr.mk.injEq, and_true] at he
                            obtain ⟨rfl, rfl⟩ := he
                            have n1 := Sep.apart (A := [_, _, _, _]) (C := [_]) HS17.out rfl rfl
                            have n2 : ¬ gf = gb := fun e => n1 e.symm
                            have n3 := Sep.apart (A := [_, _]) (C := [_]) HS17.out rfl rfl
                            have n4 : ¬ gb = ge := fun e => n3 e.symm
                            have n5 := Sep.apart (A := [_, _]) (C := [_, _, _]) HS17.out rfl rfl
                            have n6 : ¬ gf = ge := fun e => n5 e.symm
                            have n7 := Sep.apart (A := []) (C := [_, _, _]) HS17.out rfl rfl
                            have n8 : ¬ gb = w14.heap.size + 1 := fun e => n7 e.symm
                            have n9 := Sep.apart (A := []) (C := [_, _, _, _, _]) HS17.out rfl rfl
                            have n10 : ¬ gf = w14.heap.size + 1 := fun e => n9 e.symm
                            have hgb17 := (HS17.out.mem (A := [_, _, _, _])).2 gb rfl
                            have hsA := Sep.blkSet (A := [_, _, _, _]) (Sep.blkSet (A := [_, _, _, _]) (Sep.blkSet (A := [_, _, _, _]) HS17.out 0 (.int .i64 r)) 1 (.int .i64 sm)) 2 (.int .i64 ub)
                            obtain ⟨_, _, he, _, _, _, hsA⟩ := arrI_at (A := [_, _, _, _, _, _]) hsA hkn
                            simp only [Option.some.injEq, Addr.mk.injEq, and_true] at he
                            obtain ⟨rfl, rfl⟩ := he
                            have hsA := hsA ub
                            have hsB := m3 ub
                            have hsB := Sep.blkSet (A := [_, _, _, _]) (Sep.blkSet (A := [_, _, _, _]) (Sep.blkSet (A := [_, _, _, _]) hsB 0 (.int .i64 r)) 1 (.int .i64 sm)) 2 (.int .i64 ub)
                            have hsA := hsA.sub (List.Sublist.cons _ (List.Sublist.cons _ (List.Sublist.cons _ (List.Sublist.refl _))))
                            have hsB := hsB.sub (List.Sublist.cons _ (List.Sublist.cons _ (List.Sublist.cons _ (List.Sublist.refl _))))
                            have hup : arr (fun i => if i = k then (ub : Int) else updf F0 k so i) n = arr (updf F0 k (ub : Int)) n := arr_congr fun j _ => by
                              by_cases e : j = k
                              · subst e; rw [if_pos rfl, updf_same]
                              · rw [if_neg e, updf_other e, updf_other e]
                            rw [hup] at hsA hsB
                            have HSA := Lib.hid hsA
                            have HSB := Lib.hid hsB
                            have HBA := Lib.hid ((((HB17.out.setCell (p := ⟨gb, 0, none⟩) hgb17.1 (.int .i64 r)).setCell (p := ⟨gb, 1, none⟩) hgb17.1 (.int .i64 sm)).setCell (p := ⟨gb, 2, none⟩) hgb17.1 (.int .i64 ub)).setCell (p := ⟨gf, fo + k, none⟩) hgf (.int .i64 ub))
                            have HBB := Lib.hid ((((HB17.out.setCell (p := ⟨gf, fo + k, none⟩) hgf (.int .i64 ub)).setCell (p := ⟨gb, 0, none⟩) hgb17.1 (.int .i64 r)).setCell (p := ⟨gb, 1, none⟩) hgb17.1 (.int .i64 sm)).setCell (p := ⟨gb, 2, none⟩) hgb17.1 (.int .i64 ub))
                            clear hsA hsB hup m3
                            go_wp2_with fail
                            go_region
                            all_goals
                              go_wp2
                              go_roundw
                              case rel => exact ⟨1, by omega, by go_num, by rw [HNXT.out, HHR.out]; first | exact HSA.out | exact HSB.out | exact HSA.out.drew | exact HSB.out.drew, by first | exact HBA.out | exact HBB.out | exact HBA.out.drew | exact HBB.out.drew⟩
                              case measure => simp [intOf]; try omega
                          · have hld : decide (lv < 0) = false := decide_eq_false hl
                            have hhr : hear f k ((b0, b1, b2), so) (ua, ub, xc) = ((b0, b1, b2), so) := by
                              unfold hear
                              rw [HHE.out, if_neg (fun h => hl (by rw [hlv]; exact h.2))]
                            have HHR := Lib.hid hhr
                            clear hhr hlv hl
                            go_wp2
                            go_roundw
                            case rel => exact ⟨1, by omega, by go_num, by rw [HNXT.out, HHR.out]; exact HS17.out.sub (List.Sublist.cons _ (List.Sublist.cons _ (List.Sublist.cons _ (List.Sublist.refl _)))), HB17.out⟩
                            case measure => simp [intOf]; try omega
                        · have hbe : ((ua : Int) != (k : Int)) = true := by simp; omega
                          have hsk : hear f k s2 (ua, ub, xc) = s2 := by unfold hear; rw [if_neg (fun h => hxk h.1)]
                          have HSK := Lib.hid hsk
                          clear hsk hxk
                          go_wp2
                          go_roundw
                          case rel => exact ⟨1, by omega, by go_num, by rw [HNXT.out, HSK.out]; exact HS14.out.sub (List.sublist_cons_self _ _), HB14.out⟩
                          case measure => simp [intOf]; try omega
                      · skip
                        obtain ⟨s2, hs2⟩ : ∃ s2, s2 = ((edgesOf ((ua : Int), (ub : Int), xc)).take 1).foldl (hear f k) s1 := ⟨_, rfl⟩
                        have hnx : ((edgesOf ((ua : Int), (ub : Int), xc)).take 2).foldl (hear f k) s1 = hear f k s2 (ub, ua, xc) := by rw [hs2]; rfl
                        have hs13 := HS12.out
                        rw [← hs2] at hs13
                        have HNXT := Lib.hid hnx
                        have hs14 := Sep.blkNew hs13 hg12 #[.int .i64 ub, .int .i64 ua] 122
                        have HS14 := Lib.hid hs14
                        have HB14 := Lib.hid (HB12.out.alloc hg12 (.cells #[.int .i64 ub, .int .i64 ua] 122))
                        clear hs2 hnx hs13 hs14 HS12 HB12
                        have hja : decide ((1 : Int) < 2) = true := by decide
                        obtain ⟨hix0, hix1⟩ := idx2_run (ua : Int) (ub : Int) (ub : Int) (ua : Int) wr
                        go_upto_region 24 with fail
                        clear hix0 hix1
                        obtain ⟨ge, hge⟩ : ∃ ge, ge = wr.heap.size := ⟨_, rfl⟩
                        rw [← hge] at HS14 hg12 ⊢
                        generalize wr.alloc (.cells #[.int .i64 ub, .int .i64 ua] 122) = w14 at *
                        clear hge hja
                        have hg14 : g ≤ w14.heap.size := by have := HB14.out.size; rw [← HG.out] at this; exact this
                        obtain ⟨c0, _⟩ := Sep.blkAt (A := []) HS14.out (j := 0) rfl
                        obtain ⟨c1, _⟩ := Sep.blkAt (A := []) HS14.out (j := 1) rfl
                        have hyi : (ua : Int) < (n : Int) := by omega
                        have hy0 : (0 : Int) ≤ (ua : Int) := by omega
                        by_cases hxk : ub = k
                        · have hbe : ((ub : Int) != (k : Int)) = false := by simp [hxk]
                          obtain ⟨⟨v0, v1, v2⟩, _, _, _⟩ := words_at (A := [_, _, _, _, _]) HS14.out hua
                          simp only [Nat.zero_add] at v0 v1 v2
                          unfold wordT at v0 v1 v2
                          simp only [← HF.out] at v0 v1 v2
                          have hfr := HFR.out ua hua
                          obtain ⟨r, hr⟩ : ∃ r, r = (f ua).1 := ⟨_, rfl⟩
                          obtain ⟨d, hd⟩ : ∃ d, d = (f ua).2 := ⟨_, rfl⟩
                          rw [← hr] at v0
                          rw [← hd] at v1 hfr
                          obtain ⟨sm, hsm⟩ : ∃ sm, sm = d + xc := ⟨_, rfl⟩
                          have hws : IntKind.i64.wrap (d + xc) = sm := by rw [hsm]; simp [IntKind.wrap, IntKind.bits, IntKind.signed]; omega
                          have hheard : heard f (ub, ua, xc) = (r, sm, (ua : Int)) := by unfold heard; simp only; rw [← hr, ← hd, ← hsm]
                          have HHE := Lib.hid hheard
                          obtain ⟨⟨⟨b0, b1, b2⟩, so⟩, hs2⟩ : ∃ x, x = s2 := ⟨_, rfl⟩
                          subst hs2
                          have HXK := Lib.hid hxk
                          clear hr hd hsm hheard hxk
                          obtain ⟨l2, _⟩ := Sep.blkAt (A := [_]) HS14.out (j := 2) rfl
                          have hs15 := Sep.blkNew HS14.out hg14 #[.int .i64 r, .int .i64 d, .int .i64 ua] 127
                          have hz15 : (w14.alloc (.cells #[.int .i64 r, .int .i64 d, .int .i64 ua] 127)).heap.size = w14.heap.size + 1 := by simp
                          have hs16 := Sep.blkNew hs15 (by omega) #[.int .i64 r, .int .i64 sm, .int .i64 ua] 127
                          rw [hz15] at hs16
                          have HS16 := Lib.hid hs16
                          have HB16 := Lib.hid ((HB14.out.alloc hg14 (.cells #[.int .i64 r, .int .i64 d, .int .i64 ua] 127)).alloc (by omega) (.cells #[.int .i64 r, .int .i64 sm, .int .i64 ua] 127))
                          obtain ⟨l3, _⟩ := Sep.blkAt (A := [_, _]) hs15 (j := 2) rfl
                          obtain ⟨c3, _⟩ := Sep.blkAt (A := [_]) hs15 (j := 1) rfl
                          clear hs15 hz15 hs16
                          go_upto_region 27 with fail
                          clear v0 v1 v2 c0 c1 l2 l3 c3 HS14 HB14
                          generalize (w14.alloc (.cells #[.int .i64 r, .int .i64 d, .int .i64 ua] 127)).alloc (.cells #[.int .i64 r, .int .i64 sm, .int .i64 ua] 127) = w16 at *
                          have hg16 : g ≤ w16.heap.size := by have := HB16.out.size; rw [← HG.out] at this; exact this
                          obtain ⟨q0, _⟩ := Sep.blkAt (A := []) HS16.out (j := 0) rfl
                          obtain ⟨q1, _⟩ := Sep.blkAt (A := []) HS16.out (j := 1) rfl
                          obtain ⟨q2, _⟩ := Sep.blkAt (A := []) HS16.out (j := 2) rfl
                          obtain ⟨t0, _⟩ := Sep.blkAt (A := [_, _, _, _]) HS16.out (j := 0) (v := .int .i64 b0) rfl
                          obtain ⟨t1, _⟩ := Sep.blkAt (A := [_, _, _, _]) HS16.out (j := 1) (v := .int .i64 b1) rfl
                          obtain ⟨t2, _⟩ := Sep.blkAt (A := [_, _, _, _]) HS16.out (j := 2) (v := .int .i64 b2) rfl
                          go_wp2_with fail
                          refine (less_any r sm ua b0 b1 b2 _).mono ?_
                          rintro e w17 ⟨rfl, hb⟩
                          have HS17 := Lib.hid (HS16.out.kept hb)
                          have HB17 := Lib.hid (HB16.out.trans (hb.mono hg16))
                          clear hb q0 q1 q2 t0 t1 t2 HS16 HB16
                          obtain ⟨lv, hlv⟩ : ∃ lv, lv = lessI (r, sm, (ua : Int)) (b0, b1, b2) := ⟨_, rfl⟩
                          rw [← hlv]
                          by_cases hl : lv < 0
                          · have hld : decide (lv < 0) = true := decide_eq_true hl
                            have hhr : hear f k ((b0, b1, b2), so) (ub, ua, xc) = ((r, sm, (ua : Int)), (ua : Int)) := by
                              unfold hear
                              rw [HHE.out, if_pos ⟨HXK.out, by rw [← hlv]; exact hl⟩]
                            have HHR := Lib.hid hhr
                            clear hhr hlv
                            obtain ⟨q0, _⟩ := Sep.blkAt (A := []) HS17.out (j := 0) rfl
                            obtain ⟨q1, _⟩ := Sep.blkAt (A := []) HS17.out (j := 1) rfl
                            obtain ⟨q2, _⟩ := Sep.blkAt (A := []) HS17.out (j := 2) rfl
                            obtain ⟨c1, _⟩ := Sep.blkAt (A := [_, _]) HS17.out (j := 1) rfl
                            obtain ⟨t0, u0⟩ := Sep.blkAt (A := [_, _, _, _]) HS17.out (j := 0) (v := .int .i64 b0) rfl
                            obtain ⟨t1, u1⟩ := Sep.blkAt (A := [_, _, _, _]) HS17.out (j := 1) (v := .int .i64 b1) rfl
                            obtain ⟨t2, u2⟩ := Sep.blkAt (A := [_, _, _, _]) HS17.out (j := 2) (v := .int .i64 b2) rfl
                            obtain ⟨gf', fo', he, hgf, m1, m2, m3⟩ := arrI_at (A := [_, _, _, _, _, _]) HS17.out hkn
                            simp only [Option.some.injEq, Addr.mk.injEq, and_true] at he
                            obtain ⟨rfl, rfl⟩ := he
                            have n1 := Sep.apart (A := [_, _, _, _]) (C := [_]) HS17.out rfl rfl
                            have n2 : ¬ gf = gb := fun e => n1 e.symm
                            have n3 := Sep.apart (A := [_, _]) (C := [_]) HS17.out rfl rfl
                            have n4 : ¬ gb = ge := fun e => n3 e.symm
                            have n5 := Sep.apart (A := [_, _]) (C := [_, _, _]) HS17.out rfl rfl
                            have n6 : ¬ gf = ge := fun e => n5 e.symm
                            have n7 := Sep.apart (A := []) (C := [_, _, _]) HS17.out rfl rfl
                            have n8 : ¬ gb = w14.heap.size + 1 := fun e => n7 e.symm
                            have n9 := Sep.apart (A := []) (C := [_, _, _, _, _]) HS17.out rfl rfl
                            have n10 : ¬ gf = w14.heap.size + 1 := fun e => n9 e.symm
                            have hgb17 := (HS17.out.mem (A := [_, _, _, _])).2 gb rfl
                            have hsA := Sep.blkSet (A := [_, _, _, _]) (Sep.blkSet (A := [_, _, _, _]) (Sep.blkSet (A := [_, _, _, _]) HS17.out 0 (.int .i64 r)) 1 (.int .i64 sm)) 2 (.int .i64 ua)
                            obtain ⟨_, _, he, _, _, _, hsA⟩ := arrI_at (A := [_, _, _, _, _, _]) hsA hkn
                            simp only [Option.some.injEq, Addr.mk.injEq, and_true] at he
                            obtain ⟨rfl, rfl⟩ := he
                            have hsA := hsA ua
                            have hsB := m3 ua
                            have hsB := Sep.blkSet (A := [_, _, _, _]) (Sep.blkSet (A := [_, _, _, _]) (Sep.blkSet (A := [_, _, _, _]) hsB 0 (.int .i64 r)) 1 (.int .i64 sm)) 2 (.int .i64 ua)
                            have hsA := hsA.sub (List.Sublist.cons _ (List.Sublist.cons _ (List.Sublist.cons _ (List.Sublist.refl _))))
                            have hsB := hsB.sub (List.Sublist.cons _ (List.Sublist.cons _ (List.Sublist.cons _ (List.Sublist.refl _))))
                            have hup : arr (fun i => if i = k then (ua : Int) else updf F0 k so i) n = arr (updf F0 k (ua : Int)) n := arr_congr fun j _ => by
                              by_cases e : j = k
                              · subst e; rw [if_pos rfl, updf_same]
                              · rw [if_neg e, updf_other e, updf_other e]
                            rw [hup] at hsA hsB
                            have HSA := Lib.hid hsA
                            have HSB := Lib.hid hsB
                            have HBA := Lib.hid ((((HB17.out.setCell (p := ⟨gb, 0, none⟩) hgb17.1 (.int .i64 r)).setCell (p := ⟨gb, 1, none⟩) hgb17.1 (.int .i64 sm)).setCell (p := ⟨gb, 2, none⟩) hgb17.1 (.int .i64 ua)).setCell (p := ⟨gf, fo + k, none⟩) hgf (.int .i64 ua))
                            have HBB := Lib.hid ((((HB17.out.setCell (p := ⟨gf, fo + k, none⟩) hgf (.int .i64 ua)).setCell (p := ⟨gb, 0, none⟩) hgb17.1 (.int .i64 r)).setCell (p := ⟨gb, 1, none⟩) hgb17.1 (.int .i64 sm)).setCell (p := ⟨gb, 2, none⟩) hgb17.1 (.int .i64 ua))
                            clear hsA hsB hup m3
                            go_wp2_with fail
                            go_region
                            all_goals
                              go_wp2
                              go_roundw
                              case rel => exact ⟨2, by omega, by go_num, by rw [HNXT.out, HHR.out]; first | exact HSA.out | exact HSB.out | exact HSA.out.drew | exact HSB.out.drew, by first | exact HBA.out | exact HBB.out | exact HBA.out.drew | exact HBB.out.drew⟩
                              case measure => simp [intOf]; try omega
                          · have hld : decide (lv < 0) = false := decide_eq_false hl
                            have hhr : hear f k ((b0, b1, b2), so) (ub, ua, xc) = ((b0, b1, b2), so) := by
                              unfold hear
                              rw [HHE.out, if_neg (fun h => hl (by rw [hlv]; exact h.2))]
                            have HHR := Lib.hid hhr
                            clear hhr hlv hl
                            go_wp2
                            go_roundw
                            case rel => exact ⟨2, by omega, by go_num, by rw [HNXT.out, HHR.out]; exact HS17.out.sub (List.Sublist.cons _ (List.Sublist.cons _ (List.Sublist.cons _ (List.Sublist.refl _)))), HB17.out⟩
                            case measure => simp [intOf]; try omega
                        · have hbe : ((ub : Int) != (k : Int)) = true := by simp; omega
                          have hsk : hear f k s2 (ub, ua, xc) = s2 := by unfold hear; rw [if_neg (fun h => hxk h.1)]
                          have HSK := Lib.hid hsk
                          clear hsk hxk
                          go_wp2
                          go_roundw
                          case rel => exact ⟨2, by omega, by go_num, by rw [HNXT.out, HSK.out]; exact HS14.out.sub (List.sublist_cons_self _ _), HB14.out⟩
                          case measure => simp [intOf]; try omega
                      · have hs13 : Sep g wr (Ent.blk1 gl 71 [.int .i64 ua, .int .i64 ub, .int .i64 xc] :: Ent.blk1 gb 127 (wC ((edges (L.take (q + 1))).foldl (hear f k) (((k : Int), 0, (k : Int)), -1)).1) :: [wordsE (.slice (some ⟨gx, 0, none⟩) n n) n W0,
                            Ent.ints 3 (.slice (some ⟨gf, fo, none⟩) n cf) (arr (updf F0 k ((edges (L.take (q + 1))).foldl (hear f k) (((k : Int), 0, (k : Int)), -1)).2) n), wordsE (.slice (some ⟨gn, 0, none⟩) n n) n (wordT (edges L) n t), Ent.ints 3 vo (arr (overT (edges L) n t) n)]) := by
                          rw [HNX.out, List.foldl_append, ← HS1.out]
                          exact HS12.out
                        have HS13 := Lib.hid (hs13.sub (List.sublist_cons_self _ _)); clear hs13
                        go_wp2
                        go_roundw
                        case rel => exact ⟨q + 1, by omega, by go_num, HS13.out, HB12.out⟩
                        case measure => simp [intOf]; omega
                  · obtain rfl : q = L.length := by omega
                    have hqi : decide ((L.length : Int) < (L.length : Int)) = false := by simp
                    have hrs : s1 = (edges L).foldl (hear f k) (((k : Int), 0, (k : Int)), -1) := by rw [HS1.out, List.take_length]
                    obtain ⟨wo, ov, he, _⟩ := round_spec HOK.out.net (t := t) (by omega) hkn
                    have hov : overT (edges L) n (t + 1) k = ov := by
                      unfold overT
                      rw [if_neg (by omega)]
                      show (List.foldl (hear (said (edges L) n t) k) _ (edges L)).2 = ov
                      rw [he]
                    rw [← HF.out, ← hrs] at he
                    obtain ⟨b0, hb0⟩ : ∃ b0 : Int, b0 = (rootT (edges L) n (t + 1) k : Int) := ⟨_, rfl⟩
                    obtain ⟨b1, hb1⟩ : ∃ b1 : Int, b1 = bell (edges L) (t + 1) k (rootT (edges L) n (t + 1) k) := ⟨_, rfl⟩
                    have hwd : wordT (edges L) n (t + 1) k = (b0, b1, (k : Int)) := by unfold wordT said; rw [hb0, hb1]
                    rw [← hb0, ← hb1] at he
                    have hc1 : wordsE (.slice (some ⟨gx, 0, none⟩) n n) n (updf W0 k (b0, b1, (k : Int))) = wordsE (.slice (some ⟨gx, 0, none⟩) n n) n (fun j => if j < k + 1 then wordT (edges L) n (t + 1) j else (0, 0, 0)) := wordsE_congr fun j _ => by
                      by_cases e : j = k
                      · subst e; rw [updf_same, if_pos (Nat.lt_succ_self _), hwd]
                      · rw [updf_other e, HW0.out]
                        show (if j < k then wordT (edges L) n (t + 1) j else (0, 0, 0)) = _
                        by_cases hl : j < k
                        · rw [if_pos hl, if_pos (by omega)]
                        · rw [if_neg hl, if_neg (by omega)]
                    have hc2 : arr (updf F0 k ov) n = arr (fun j => if j < k + 1 then overT (edges L) n (t + 1) j else (-1 : Int)) n := arr_congr fun j _ => by
                      by_cases e : j = k
                      · subst e; rw [updf_same, if_pos (Nat.lt_succ_self _), hov]
                      · rw [updf_other e, HF0.out]
                        show (if j < k then overT (edges L) n (t + 1) j else (-1 : Int)) = _
                        by_cases hl : j < k
                        · rw [if_pos hl, if_pos (by omega)]
                        · rw [if_neg hl, if_neg (by omega)]
                    rw [he] at HS10
                    clear hrs hb0 hb1 hwd hov he
                    obtain ⟨a0, _⟩ := Sep.blkAt (A := []) HS10.out (j := 0) (v := .int .i64 b0) rfl
                    obtain ⟨a1, _⟩ := Sep.blkAt (A := []) HS10.out (j := 1) (v := .int .i64 b1) rfl
                    obtain ⟨⟨c0, c1, c2⟩, ⟨f0, f1, f2⟩, hgg, hset⟩ := words_at (A := [_]) HS10.out hkn
                    simp only [Nat.zero_add] at c0 c1 c2 f0 f1 f2 hset
                    have hset := hset (b0, b1, (k : Int))
                    rw [hc1, hc2] at hset
                    have HSET := Lib.hid (hset.sub (List.sublist_cons_self _ _))
                    have HBS := Lib.hid (((HB10.out.setCell (p := ⟨gx, k * 3, none⟩) hgg (.int .i64 b0)).setCell (p := ⟨gx, k * 3 + 1, none⟩) hgg (.int .i64 b1)).setCell (p := ⟨gx, k * 3 + 2, none⟩) hgg (.int .i64 k))
                    clear hset hc1 hc2
                    go_wp2
                    go_roundw
                    case rel => exact ⟨k + 1, by omega, by go_num, HSET.out, HBS.out⟩
                    case measure => simp [intOf]; omega
              · obtain rfl : k = n := by omega
                have hki : decide ((k : Int) < (k : Int)) = false := by simp
                have hs9 : Sep g wr [wordsE (.slice (some ⟨gx, 0, none⟩) k k) k (wordT (edges L) k (t + 1)), Ent.ints 3 (.slice (some ⟨gf, fo, none⟩) k cf) (arr (overT (edges L) k (t + 1)) k)] := by
                  have h := HS8.out.sub (L' := [_, _]) (List.Sublist.cons_cons _ (List.Sublist.cons_cons _ (List.nil_sublist _)))
                  rw [wordsE_congr (g := wordT (edges L) k (t + 1)) (fun j hj => if_pos hj), arr_congr (g := overT (edges L) k (t + 1)) (fun j hj => if_pos hj)] at h
                  exact h
                have HS9 := Lib.hid hs9; clear hs9
                go_wp2
                go_roundg (gi - 1)
                case measure => omega
                case rel => exact ⟨t + 1, gx, _, by omega, rfl, rfl, by go_num, HS9.out, HB8.out⟩
        · obtain rfl : t = n := by omega
          have hti : decide ((t : Int) < (t : Int)) = false := by simp
          obtain ⟨R, hR⟩ : ∃ R : Nat → Int, R = fun i => (rootF t (edges L) i : Int) := ⟨_, rfl⟩
          obtain ⟨D, hD⟩ : ∃ D : Nat → Int, D = fun i => far (edges L) i (rootF t (edges L) i) := ⟨_, rfl⟩
          obtain ⟨O, hO⟩ : ∃ O : Nat → Int, O = fun i => hopOf t (edges L) i (rootF t (edges L) i) := ⟨_, rfl⟩
          have hs7 : Sep g wr [wordsE (.slice (some ⟨gn, 0, none⟩) t t) t (fun j => (R j, D j, (j : Int))), Ent.ints 3 vo (arr O t)] := by
            have h := HS6.out
            rw [wordsE_congr (g := fun j => (R j, D j, (j : Int))) (fun j hj => by
              unfold wordT said
              rw [rootT_rootF HOK.out.net hn8 (by omega) hj, bell_far HOK.out.net hn8 (by omega) (rootF_spec HOK.out.net hj).1, hR, hD]), arr_congr (g := O) (fun j hj => by
              unfold overT
              rw [if_neg (by omega)]
              obtain ⟨_, he⟩ := round_last HOK.out.net hn8 hn1 hj
              rw [he, hO])] at h
            exact h
          have HS7 := Lib.hid ((hs7.intsNil 3).intsNil 3)
          have HR := Lib.hid hR
          have HD := Lib.hid hD
          have HO := Lib.hid hO
          clear hs7 hR hD hO HS6
          go_wp2
          go_loopw [4, 5, 127] (fun vr vf i wr => ∃ q : Nat, q ≤ t ∧ i = .int .i64 q ∧ Sep g wr [Ent.ints 3 vr (arr R q), Ent.ints 3 vf (arr D q), wordsE (.slice (some ⟨gn, 0, none⟩) t t) t (fun j => (R j, D j, (j : Int))), Ent.ints 3 vo (arr O t)] ∧ Below g w wr) (fun _ _ i _ => t - (intOf i).toNat)
          case atStart => exact ⟨0, Nat.zero_le _, rfl, HS7.out, HB6.out⟩
          case round =>
            obtain ⟨q, hq, rfl, hsep, hbel⟩ := hrel
            have HS8 := Lib.hid hsep; clear hsep
            have HB8 := Lib.hid hbel; clear hbel
            have hg8 : g ≤ wr.heap.size := by have := HB8.out.size; rw [← HG.out] at this; exact this
            by_cases hqt : q < t
            · have hqi : (q : Int) < (t : Int) := by omega
              have hq0 : (0 : Int) ≤ (q : Int) := by omega
              obtain ⟨⟨c0, c1, c2⟩, _, _, _⟩ := words_at (A := [_, _]) HS8.out hqt
              simp only [Nat.zero_add] at c0 c1 c2
              have hs := Sep.blkNew HS8.out hg8 #[.int .i64 (R q), .int .i64 (D q), .int .i64 q] 127
              have hb := HB8.out.alloc hg8 (.cells #[.int .i64 (R q), .int .i64 (D q), .int .i64 q] 127)
              have HSN := Lib.hid hs
              have HBN := Lib.hid hb
              clear hs hb
              go_upto_region 38 with fail
              have hs := HSN.out
              have hb := HBN.out
              clear c0 c1 c2 HS8 HB8 HSN HBN
              obtain ⟨gw, hgw⟩ : ∃ gw, gw = wr.heap.size := ⟨_, rfl⟩
              rw [← hgw] at hs hg8 ⊢
              clear hgw
              generalize wr.alloc (.cells #[.int .i64 (R q), .int .i64 (D q), .int .i64 q] 127) = wr at hs hb ⊢
              have hgr : g ≤ wr.heap.size := by have := hb.size; rw [← HG.out] at this; exact this
              have hS := And.intro (Sep.blkAt (A := []) hs (j := 0) (v := .int .i64 (R q)) rfl).1 (Sep.blkAt (A := []) hs (j := 1) (v := .int .i64 (D q)) rfl).1
              refine wp_region_held_drew (S := fun w' => w'.cell? ⟨gw, 0, none⟩ = some (.int .i64 (R q)) ∧ w'.cell? ⟨gw, 1, none⟩ = some (.int .i64 (D q))) (by kernel_rfl) hS (fun _ => ?_)
              refine wpAnyH_take (i := 0) (v := ?v0y) rfl (by kernel_rfl) (by kernel_rfl) (by kernel_rfl) (fun _ _ _ h => h) (Or.inl ⟨by rfl, ?hy0y⟩) (by assumption) ?rest0y
              case hy0y =>
                intro w hSw
                obtain ⟨s0, s1⟩ := hSw
                go_simp
                try with_reducible rfl
              try simp only [Act.put, List.setIfInBounds_toArray, List.getElem_toArray]
              refine wpAnyH_take (i := 1) (v := ?v1y) rfl (by kernel_rfl) (by kernel_rfl) (by kernel_rfl) (fun _ _ _ h => h) (Or.inl ⟨by rfl, ?hy1y⟩) (by assumption) ?rest1y
              case hy1y =>
                intro w hSw
                obtain ⟨s0, s1⟩ := hSw
                go_simp
                try with_reducible rfl
              try simp only [Act.put, List.getElem_toArray]
              refine wpAnyH_take (i := 2) (v := ?v2y) rfl (by kernel_rfl) (by kernel_rfl) (by kernel_rfl) (fun _ _ _ h => h) (Or.inl ⟨by rfl, ?hy2y⟩) (by assumption) ?rest2y
              case hy2y =>
                intro w hSw
                obtain ⟨s0, s1⟩ := hSw
                go_simp
                try with_reducible rfl
              try simp only [Act.put, List.getElem_toArray]
              refine wpAnyH_take (i := 5) (v := ?v5y) rfl (by kernel_rfl) (by kernel_rfl) (by kernel_rfl) (fun _ _ _ h => h) (Or.inl ⟨by rfl, ?hy5y⟩) (by assumption) ?rest5y
              case hy5y =>
                intro w hSw
                obtain ⟨s0, s1⟩ := hSw
                go_simp
                try with_reducible rfl
              try simp only [Act.put, List.getElem_toArray]
              refine wpAnyH_take (i := 6) (v := ?v6y) rfl (by kernel_rfl) (by kernel_rfl) (by kernel_rfl) (fun _ _ _ h => h) (Or.inl ⟨by rfl, ?hy6y⟩) (by assumption) ?rest6y
              case hy6y =>
                intro w hSw
                obtain ⟨s0, s1⟩ := hSw
                go_simp
                try with_reducible rfl
              try simp only [Act.put, List.getElem_toArray]
              refine wpAnyH_take (i := 7) (v := ?v7y) rfl (by kernel_rfl) (by kernel_rfl) (by kernel_rfl) (fun _ _ _ h => h) (Or.inl ⟨by rfl, ?hy7y⟩) (by assumption) ?rest7y
              case hy7y =>
                intro w hSw
                obtain ⟨s0, s1⟩ := hSw
                go_simp
                try with_reducible rfl
              try simp only [Act.put, List.getElem_toArray]
              clear hS
              refine wpAnyH_ready (rs := [3, 8]) (by kernel_rfl) (by simp) ?_
              refine AllReadyH.cons rfl (fun K hK => ?_) (AllReadyH.cons rfl (fun K hK => ?_) AllReadyH.nil)
              · skip
                have hsn := Sep.blkNew hs hgr #[.int .i64 (R q)] 3
                have hbn := hb.alloc hgr (.cells #[.int .i64 (R q)] 3)
                have hgn : g ≤ (wr.alloc (.cells #[.int .i64 (R q)] 3)).heap.size := by simp; omega
                go_simp
                refine hK.out _ _ ⟨(Sep.blkAt (A := [_]) hsn (j := 0) rfl).1, (Sep.blkAt (A := [_]) hsn (j := 1) rfl).1⟩ (fun _ => ?_)
                clear hK K
                try simp only [Act.put, List.setIfInBounds_toArray, List.set_cons_zero, List.set_cons_succ, List.getElem_toArray, List.getElem_cons_zero, List.getElem_cons_succ]
                obtain ⟨xr, hX⟩ : ∃ x, x = wr.heap.size := ⟨_, rfl⟩
                rw [← hX] at hsn ⊢
                clear hs hb hgr hX
                generalize wr.alloc (.cells #[.int .i64 (R q)] 3) = wr at hsn hbn hgn ⊢
                have hs := hsn
                have hb := hbn
                have hgr := hgn
                clear hsn hbn hgn
                refine wpAnyH_ready (rs := [4, 8]) (by kernel_rfl) (by simp) ?_
                refine AllReadyH.cons rfl (fun K hK => ?_) (AllReadyH.cons rfl (fun K hK => ?_) AllReadyH.nil)
                · skip
                  have hsd : Sep g wr.drew _ := hs.drew
                  obtain ⟨v', w', hr, hsn, hbn⟩ := app_one (A := [_,_]) hsd hgr (by omega) (Sep.blkAt (A := []) hsd (j := 0) rfl).1
                  refine step_append_run rfl (.tmp 131) (.tmp 134) 28 rfl _ (.slice (some ⟨xr, 0, none⟩) 1 1) rfl rfl hr ?_
                  refine hK.out _ _ ⟨(Sep.blkAt (A := [_]) hsn (j := 0) rfl).1, (Sep.blkAt (A := [_]) hsn (j := 1) rfl).1⟩ (fun _ => ?_)
                  clear hK K
                  try simp only [Act.put, List.setIfInBounds_toArray, List.set_cons_zero, List.set_cons_succ, List.getElem_toArray, List.getElem_cons_zero, List.getElem_cons_succ]
                  have hb2 := (show Below g w wr.drew from hb.drew).trans hbn
                  have hg2 : g ≤ w'.heap.size := Nat.le_trans hgr hbn.size
                  clear hr hbn hs hsd hgr hb
                  obtain ⟨wr, rfl⟩ : ∃ x, x = w' := ⟨_, rfl⟩
                  have hs := hsn
                  have hb := hb2
                  have hgr := hg2
                  clear hsn hb2 hg2
                  refine wpAnyH_ready (rs := [8]) (by kernel_rfl) (by simp) ?_
                  refine AllReadyH.cons rfl (fun K hK => ?_) AllReadyH.nil
                  have hsn := Sep.blkNew hs hgr #[.int .i64 (D q)] 3
                  have hbn := hb.alloc hgr (.cells #[.int .i64 (D q)] 3)
                  have hgn : g ≤ (wr.alloc (.cells #[.int .i64 (D q)] 3)).heap.size := by simp; omega
                  go_simp
                  refine hK.out _ _ ⟨(Sep.blkAt (A := [_,_]) hsn (j := 0) rfl).1, (Sep.blkAt (A := [_,_]) hsn (j := 1) rfl).1⟩ (fun _ => ?_)
                  clear hK K
                  try simp only [Act.put, List.setIfInBounds_toArray, List.set_cons_zero, List.set_cons_succ, List.getElem_toArray, List.getElem_cons_zero, List.getElem_cons_succ]
                  obtain ⟨xd, hX⟩ : ∃ x, x = wr.heap.size := ⟨_, rfl⟩
                  rw [← hX] at hsn ⊢
                  clear hs hb hgr hX
                  generalize wr.alloc (.cells #[.int .i64 (D q)] 3) = wr at hsn hbn hgn ⊢
                  have hs := hsn
                  have hb := hbn
                  have hgr := hgn
                  clear hsn hbn hgn
                  refine wpAnyH_ready (rs := [9]) (by kernel_rfl) (by simp) ?_
                  refine AllReadyH.cons rfl (fun K hK => ?_) AllReadyH.nil
                  have hsd : Sep g wr _ := hs
                  obtain ⟨v', w', hr, hsn, hbn⟩ := app_one (A := [_,_,_,_]) hsd hgr (by omega) (Sep.blkAt (A := []) hsd (j := 0) rfl).1
                  refine step_append_run rfl (.tmp 136) (.tmp 139) 28 rfl _ (.slice (some ⟨xd, 0, none⟩) 1 1) rfl rfl hr ?_
                  refine hK.out _ _ ⟨(Sep.blkAt (A := [_,_]) hsn (j := 0) rfl).1, (Sep.blkAt (A := [_,_]) hsn (j := 1) rfl).1⟩ (fun _ => ?_)
                  clear hK K
                  try simp only [Act.put, List.setIfInBounds_toArray, List.set_cons_zero, List.set_cons_succ, List.getElem_toArray, List.getElem_cons_zero, List.getElem_cons_succ]
                  have hb2 := (show Below g w wr from hb).trans hbn
                  have hg2 : g ≤ w'.heap.size := Nat.le_trans hgr hbn.size
                  clear hr hbn hs hsd hgr hb
                  obtain ⟨wr, rfl⟩ : ∃ x, x = w' := ⟨_, rfl⟩
                  have hs := hsn
                  have hb := hb2
                  have hgr := hg2
                  clear hsn hb2 hg2
                  have hS := And.intro (Sep.blkAt (A := [_, _]) hs (j := 0) (v := .int .i64 (R q)) rfl).1 (Sep.blkAt (A := [_, _]) hs (j := 1) (v := .int .i64 (D q)) rfl).1
                  refine wpAnyH_take (i := 10) (v := ?v10z3489) rfl (by kernel_rfl) (by kernel_rfl) (by kernel_rfl) (fun _ _ _ h => h) (Or.inl ⟨by rfl, ?hy10z3489⟩) (by assumption) ?rest10z3489
                  case hy10z3489 =>
                    intro w hSw
                    obtain ⟨s0, s1⟩ := hSw
                    go_simp
                    try with_reducible rfl
                  try simp only [Act.put, List.setIfInBounds_toArray, List.getElem_toArray]
                  refine wpAnyH_take (i := 11) (v := ?v11z3489) rfl (by kernel_rfl) (by kernel_rfl) (by kernel_rfl) (fun _ _ _ h => h) (Or.inl ⟨by rfl, ?hy11z3489⟩) (by assumption) ?rest11z3489
                  case hy11z3489 =>
                    intro w hSw
                    obtain ⟨s0, s1⟩ := hSw
                    go_simp
                    try with_reducible rfl
                  try simp only [Act.put, List.getElem_toArray]
                  refine wpAnyH_done (by kernel_rfl) ?_ _
                  have HS11 := Lib.hid (hs.sub (List.Sublist.cons _ (List.Sublist.cons _ (List.Sublist.cons _ (List.Sublist.refl _)))))
                  have HB11 := Lib.hid hb
                  clear hs hb hS
                  go_wp2
                  go_roundw
                  case rel => exact ⟨q + 1, by omega, by go_num, HS11.out, HB11.out⟩
                  case measure => simp [intOf]; omega
                · skip
                  have hsn := Sep.blkNew hs hgr #[.int .i64 (D q)] 3
                  have hbn := hb.alloc hgr (.cells #[.int .i64 (D q)] 3)
                  have hgn : g ≤ (wr.alloc (.cells #[.int .i64 (D q)] 3)).heap.size := by simp; omega
                  go_simp
                  refine hK.out _ _ ⟨(Sep.blkAt (A := [_,_]) hsn (j := 0) rfl).1, (Sep.blkAt (A := [_,_]) hsn (j := 1) rfl).1⟩ (fun _ => ?_)
                  clear hK K
                  try simp only [Act.put, List.setIfInBounds_toArray, List.set_cons_zero, List.set_cons_succ, List.getElem_toArray, List.getElem_cons_zero, List.getElem_cons_succ]
                  obtain ⟨xd, hX⟩ : ∃ x, x = wr.heap.size := ⟨_, rfl⟩
                  rw [← hX] at hsn ⊢
                  clear hs hb hgr hX
                  generalize wr.alloc (.cells #[.int .i64 (D q)] 3) = wr at hsn hbn hgn ⊢
                  have hs := hsn
                  have hb := hbn
                  have hgr := hgn
                  clear hsn hbn hgn
                  refine wpAnyH_ready (rs := [4]) (by kernel_rfl) (by simp) ?_
                  refine AllReadyH.cons rfl (fun K hK => ?_) AllReadyH.nil
                  have hsd : Sep g wr.drew _ := hs.drew
                  obtain ⟨v', w', hr, hsn, hbn⟩ := app_one (A := [_,_,_]) hsd hgr (by omega) (Sep.blkAt (A := [_]) hsd (j := 0) rfl).1
                  refine step_append_run rfl (.tmp 131) (.tmp 134) 28 rfl _ (.slice (some ⟨xr, 0, none⟩) 1 1) rfl rfl hr ?_
                  refine hK.out _ _ ⟨(Sep.blkAt (A := [_,_]) hsn (j := 0) rfl).1, (Sep.blkAt (A := [_,_]) hsn (j := 1) rfl).1⟩ (fun _ => ?_)
                  clear hK K
                  try simp only [Act.put, List.setIfInBounds_toArray, List.set_cons_zero, List.set_cons_succ, List.getElem_toArray, List.getElem_cons_zero, List.getElem_cons_succ]
                  have hb2 := (show Below g w wr.drew from hb.drew).trans hbn
                  have hg2 : g ≤ w'.heap.size := Nat.le_trans hgr hbn.size
                  clear hr hbn hs hsd hgr hb
                  obtain ⟨wr, rfl⟩ : ∃ x, x = w' := ⟨_, rfl⟩
                  have hs := hsn
                  have hb := hb2
                  have hgr := hg2
                  clear hsn hb2 hg2
                  refine wpAnyH_ready (rs := [9]) (by kernel_rfl) (by simp) ?_
                  refine AllReadyH.cons rfl (fun K hK => ?_) AllReadyH.nil
                  have hsd : Sep g wr _ := hs
                  obtain ⟨v', w', hr, hsn, hbn⟩ := app_one (A := [_,_,_,_]) hsd hgr (by omega) (Sep.blkAt (A := []) hsd (j := 0) rfl).1
                  refine step_append_run rfl (.tmp 136) (.tmp 139) 28 rfl _ (.slice (some ⟨xd, 0, none⟩) 1 1) rfl rfl hr ?_
                  refine hK.out _ _ ⟨(Sep.blkAt (A := [_,_]) hsn (j := 0) rfl).1, (Sep.blkAt (A := [_,_]) hsn (j := 1) rfl).1⟩ (fun _ => ?_)
                  clear hK K
                  try simp only [Act.put, List.setIfInBounds_toArray, List.set_cons_zero, List.set_cons_succ, List.getElem_toArray, List.getElem_cons_zero, List.getElem_cons_succ]
                  have hb2 := (show Below g w wr from hb).trans hbn
                  have hg2 : g ≤ w'.heap.size := Nat.le_trans hgr hbn.size
                  clear hr hbn hs hsd hgr hb
                  obtain ⟨wr, rfl⟩ : ∃ x, x = w' := ⟨_, rfl⟩
                  have hs := hsn
                  have hb := hb2
                  have hgr := hg2
                  clear hsn hb2 hg2
                  have hS := And.intro (Sep.blkAt (A := [_, _]) hs (j := 0) (v := .int .i64 (R q)) rfl).1 (Sep.blkAt (A := [_, _]) hs (j := 1) (v := .int .i64 (D q)) rfl).1
                  refine wpAnyH_take (i := 10) (v := ?v10z3849) rfl (by kernel_rfl) (by kernel_rfl) (by kernel_rfl) (fun _ _ _ h => h) (Or.inl ⟨by rfl, ?hy10z3849⟩) (by assumption) ?rest10z3849
                  case hy10z3849 =>
                    intro w hSw
                    obtain ⟨s0, s1⟩ := hSw
                    go_simp
                    try with_reducible rfl
                  try simp only [Act.put, List.setIfInBounds_toArray, List.getElem_toArray]
                  refine wpAnyH_take (i := 11) (v := ?v11z3849) rfl (by kernel_rfl) (by kernel_rfl) (by kernel_rfl) (fun _ _ _ h => h) (Or.inl ⟨by rfl, ?hy11z3849⟩) (by assumption) ?rest11z3849
                  case hy11z3849 =>
                    intro w hSw
                    obtain ⟨s0, s1⟩ := hSw
                    go_simp
                    try with_reducible rfl
                  try simp only [Act.put, List.getElem_toArray]
                  refine wpAnyH_done (by kernel_rfl) ?_ _
                  have HS11 := Lib.hid (hs.sub (List.Sublist.cons _ (List.Sublist.cons _ (List.Sublist.cons _ (List.Sublist.refl _)))))
                  have HB11 := Lib.hid hb
                  clear hs hb hS
                  go_wp2
                  go_roundw
                  case rel => exact ⟨q + 1, by omega, by go_num, HS11.out, HB11.out⟩
                  case measure => simp [intOf]; omega
              · skip
                have hsn := Sep.blkNew hs hgr #[.int .i64 (D q)] 3
                have hbn := hb.alloc hgr (.cells #[.int .i64 (D q)] 3)
                have hgn : g ≤ (wr.alloc (.cells #[.int .i64 (D q)] 3)).heap.size := by simp; omega
                go_simp
                refine hK.out _ _ ⟨(Sep.blkAt (A := [_]) hsn (j := 0) rfl).1, (Sep.blkAt (A := [_]) hsn (j := 1) rfl).1⟩ (fun _ => ?_)
                clear hK K
                try simp only [Act.put, List.setIfInBounds_toArray, List.set_cons_zero, List.set_cons_succ, List.getElem_toArray, List.getElem_cons_zero, List.getElem_cons_succ]
                obtain ⟨xd, hX⟩ : ∃ x, x = wr.heap.size := ⟨_, rfl⟩
                rw [← hX] at hsn ⊢
                clear hs hb hgr hX
                generalize wr.alloc (.cells #[.int .i64 (D q)] 3) = wr at hsn hbn hgn ⊢
                have hs := hsn
                have hb := hbn
                have hgr := hgn
                clear hsn hbn hgn
                refine wpAnyH_ready (rs := [3]) (by kernel_rfl) (by simp) ?_
                refine AllReadyH.cons rfl (fun K hK => ?_) AllReadyH.nil
                have hsn := Sep.blkNew hs hgr #[.int .i64 (R q)] 3
                have hbn := hb.alloc hgr (.cells #[.int .i64 (R q)] 3)
                have hgn : g ≤ (wr.alloc (.cells #[.int .i64 (R q)] 3)).heap.size := by simp; omega
                go_simp
                refine hK.out _ _ ⟨(Sep.blkAt (A := [_,_]) hsn (j := 0) rfl).1, (Sep.blkAt (A := [_,_]) hsn (j := 1) rfl).1⟩ (fun _ => ?_)
                clear hK K
                try simp only [Act.put, List.setIfInBounds_toArray, List.set_cons_zero, List.set_cons_succ, List.getElem_toArray, List.getElem_cons_zero, List.getElem_cons_succ]
                obtain ⟨xr, hX⟩ : ∃ x, x = wr.heap.size := ⟨_, rfl⟩
                rw [← hX] at hsn ⊢
                clear hs hb hgr hX
                generalize wr.alloc (.cells #[.int .i64 (R q)] 3) = wr at hsn hbn hgn ⊢
                have hs := hsn
                have hb := hbn
                have hgr := hgn
                clear hsn hbn hgn
                refine wpAnyH_ready (rs := [4]) (by kernel_rfl) (by simp) ?_
                refine AllReadyH.cons rfl (fun K hK => ?_) AllReadyH.nil
                have hsd : Sep g wr.drew _ := hs.drew
                obtain ⟨v', w', hr, hsn, hbn⟩ := app_one (A := [_,_,_]) hsd hgr (by omega) (Sep.blkAt (A := []) hsd (j := 0) rfl).1
                refine step_append_run rfl (.tmp 131) (.tmp 134) 28 rfl _ (.slice (some ⟨xr, 0, none⟩) 1 1) rfl rfl hr ?_
                refine hK.out _ _ ⟨(Sep.blkAt (A := [_,_]) hsn (j := 0) rfl).1, (Sep.blkAt (A := [_,_]) hsn (j := 1) rfl).1⟩ (fun _ => ?_)
                clear hK K
                try simp only [Act.put, List.setIfInBounds_toArray, List.set_cons_zero, List.set_cons_succ, List.getElem_toArray, List.getElem_cons_zero, List.getElem_cons_succ]
                have hb2 := (show Below g w wr.drew from hb.drew).trans hbn
                have hg2 : g ≤ w'.heap.size := Nat.le_trans hgr hbn.size
                clear hr hbn hs hsd hgr hb
                obtain ⟨wr, rfl⟩ : ∃ x, x = w' := ⟨_, rfl⟩
                have hs := hsn
                have hb := hb2
                have hgr := hg2
                clear hsn hb2 hg2
                refine wpAnyH_ready (rs := [9]) (by kernel_rfl) (by simp) ?_
                refine AllReadyH.cons rfl (fun K hK => ?_) AllReadyH.nil
                have hsd : Sep g wr _ := hs
                obtain ⟨v', w', hr, hsn, hbn⟩ := app_one (A := [_,_,_,_]) hsd hgr (by omega) (Sep.blkAt (A := [_]) hsd (j := 0) rfl).1
                refine step_append_run rfl (.tmp 136) (.tmp 139) 28 rfl _ (.slice (some ⟨xd, 0, none⟩) 1 1) rfl rfl hr ?_
                refine hK.out _ _ ⟨(Sep.blkAt (A := [_,_]) hsn (j := 0) rfl).1, (Sep.blkAt (A := [_,_]) hsn (j := 1) rfl).1⟩ (fun _ => ?_)
                clear hK K
                try simp only [Act.put, List.setIfInBounds_toArray, List.set_cons_zero, List.set_cons_succ, List.getElem_toArray, List.getElem_cons_zero, List.getElem_cons_succ]
                have hb2 := (show Below g w wr from hb).trans hbn
                have hg2 : g ≤ w'.heap.size := Nat.le_trans hgr hbn.size
                clear hr hbn hs hsd hgr hb
                obtain ⟨wr, rfl⟩ : ∃ x, x = w' := ⟨_, rfl⟩
                have hs := hsn
                have hb := hb2
                have hgr := hg2
                clear hsn hb2 hg2
                have hS := And.intro (Sep.blkAt (A := [_, _]) hs (j := 0) (v := .int .i64 (R q)) rfl).1 (Sep.blkAt (A := [_, _]) hs (j := 1) (v := .int .i64 (D q)) rfl).1
                refine wpAnyH_take (i := 10) (v := ?v10z8349) rfl (by kernel_rfl) (by kernel_rfl) (by kernel_rfl) (fun _ _ _ h => h) (Or.inl ⟨by rfl, ?hy10z8349⟩) (by assumption) ?rest10z8349
                case hy10z8349 =>
                  intro w hSw
                  obtain ⟨s0, s1⟩ := hSw
                  go_simp
                  try with_reducible rfl
                try simp only [Act.put, List.setIfInBounds_toArray, List.getElem_toArray]
                refine wpAnyH_take (i := 11) (v := ?v11z8349) rfl (by kernel_rfl) (by kernel_rfl) (by kernel_rfl) (fun _ _ _ h => h) (Or.inl ⟨by rfl, ?hy11z8349⟩) (by assumption) ?rest11z8349
                case hy11z8349 =>
                  intro w hSw
                  obtain ⟨s0, s1⟩ := hSw
                  go_simp
                  try with_reducible rfl
                try simp only [Act.put, List.getElem_toArray]
                refine wpAnyH_done (by kernel_rfl) ?_ _
                have HS11 := Lib.hid (hs.sub (List.Sublist.cons _ (List.Sublist.cons _ (List.Sublist.cons _ (List.Sublist.refl _)))))
                have HB11 := Lib.hid hb
                clear hs hb hS
                go_wp2
                go_roundw
                case rel => exact ⟨q + 1, by omega, by go_num, HS11.out, HB11.out⟩
                case measure => simp [intOf]; omega
            · obtain rfl : q = t := by omega
              have hqi : decide ((q : Int) < (q : Int)) = false := by simp
              have hs := HS8.out.sub (List.Sublist.cons_cons _ (List.Sublist.cons_cons _ (List.sublist_cons_self _ _)))
              rw [HG.out, HR.out, HD.out, HO.out] at hs
              have HS9 := Lib.hid hs
              have hb := HB8.out
              rw [HG.out] at hb
              have HB9 := Lib.hid hb
              clear hs hb
              go_wp2
              try simp only [Exit.inBlock, Exit.then]
              refine bodyPost_ret (results_tmp4 rfl _ _ _) rfl ?_
              exact ⟨_, _, _, rfl, HS9.out, HB9.out⟩
end Go.Proofs.Ytnmddgjgmdegoaa
