/- (*lpm.Table).Routes: the walk over the tree. -/
import Derived.Test.YtbcfcjecobihnaaDoorLpmSet
import Derived.Test.YtbcfcjecobihnaaDoorLnkStep
import Derived.Test.YtbcfcjecobihnaaDoorLpmCmp
import Derived.Deep.RegionLaw
import Derived.StillTailTactics
namespace Go.Proofs.YtbcfcjecobihnaaDoor
open Go.RowKit
set_option linter.unusedVariables false
set_option linter.unusedSimpArgs false
set_option maxRecDepth 100000

theorem elemRte : ElemTy Tryd.prog 25 36 3 24 (.agg #[.int .i64 0, .int .i64 0, .int .i64 0]) := ⟨Tryd.underlying25, info_parts (by kernel_rfl), rfl, by decide⟩
abbrev rteE (v : Value) (X : List Rte) : Ent := Ent.row v X.length 3 36 (X.flatMap rteL)
/-- 'out = append(out, r)', out a variable in a block of its own. -/
theorem rtePush {B : Nat} {w : World} {g : Nat} {A C : List Ent} {v : Value} {X : List Rte} (x : Rte) (h : Sep B w (Ent.blk1 g 25 [v] :: (A ++ rteE v X :: C))) (hB : B ≤ w.heap.size) (hl : X.length ≤ 1000000) :
    ∃ v' w', (Builtin.append_ #[25, 25] 25 #[v, .slice (some ⟨w.heap.size, 0, none⟩) 1 1]).run Tryd.prog (w.alloc (.cells #[.int .i64 x.1, .int .i64 x.2.1, .int .i64 x.2.2] 36)).drew = .ok v' w' ∧
      w'.cell? ⟨g, 0, none⟩ = some v ∧ w'.frozen? ⟨g, 0, none⟩ = false ∧ Sep B (w'.setCell ⟨g, 0, none⟩ v') (Ent.blk1 g 25 [v'] :: (A ++ rteE v' (X ++ [x]) :: C)) ∧ Below B w (w'.setCell ⟨g, 0, none⟩ v') := by
  have hs := (h.alloc (.cells #[.int .i64 x.1, .int .i64 x.2.1, .int .i64 x.2.2] 36)).drew
  have hgs : B ≤ (w.alloc (.cells #[.int .i64 x.1, .int .i64 x.2.1, .int .i64 x.2.2] 36)).drew.heap.size := by show B ≤ (w.alloc _).heap.size; simp; omega
  obtain ⟨v', w', hr, hs2, hb⟩ := run_append_sep (A := Ent.blk1 g 25 [v] :: A) elemRte 25 hs hgs ⟨w.heap.size, 0, none⟩ 1 1 (rteL x) rfl (fun j u hu => by
    show (w.alloc _).cell? _ = _
    rw [show (⟨w.heap.size, 0, none⟩ : Addr).add j = ⟨w.heap.size, 0 + j, none⟩ by unfold Addr.add; split <;> simp_all, World.cell?_alloc_mark, Nat.zero_add, ← hu]; simp [rteL])
    (fun u hu => by
      simp only [rteL, List.mem_cons, List.not_mem_nil, or_false] at hu
      rcases hu with rfl | rfl | rfl <;> rfl) (by decide) (by omega) (by unfold maxLen; omega)
  have hs3 : Sep B w' (Ent.blk1 g 25 [v] :: (A ++ rteE v' (X ++ [x]) :: C)) := by
    unfold rteE
    rw [List.length_append, List.length_singleton, List.flatMap_append, show [x].flatMap rteL = rteL x by simp]
    exact hs2
  obtain ⟨c1, c2⟩ := Sep.blkAt (A := []) hs3 (j := 0) rfl
  exact ⟨v', w', hr, c1, c2, Sep.blkSet (A := []) hs3 0 v', ((((Below.refl B w).alloc hB _).drew).trans hb).setCell (p := ⟨g, 0, none⟩) (Sep.blkLt (A := []) hs3).1 v'⟩

theorem kids_run (p q : Value) (w : World) (hp : p.cells = #[p]) :
    (Instr.index 69 (.agg #[p, q]) (.int .i64 0)).run Tryd.prog w = .ok p w ∧
    (Instr.index 69 (.agg #[p, q]) (.int .i64 1)).run Tryd.prog w = .ok q w := by
  have hu : Tryd.prog.underlying 69 = some (.array 2 68) := by kernel_rfl
  have hu2 := Tryd.underlying68
  obtain ⟨i, hi, hs⟩ : ∃ i, Tryd.prog.info? 68 = some i ∧ i.size = 1 := by
    have h : (Tryd.prog.info? 68).map (·.size) = some 1 := by kernel_rfl
    exact Option.map_eq_some_iff.1 h
  constructor
  · simp [Instr.index, run_underlying hu, run_underlying hu2, asIntOf, part, isAgg, sizeOf, typeInfo, hi, hs, Result.andThen, go_sem]
  · simp [Instr.index, run_underlying hu, run_underlying hu2, asIntOf, part, isAgg, sizeOf, typeInfo, hi, hs, Result.andThen, go_sem]

abbrev walkV (bo bw : Nat) : Value := .func (Fn.func 25) #[] #[.pointer (some ⟨bo, 0, none⟩), .pointer (some ⟨bw, 0, none⟩)]
abbrev outE (bo bw : Nat) (v : Value) (X : List Rte) (F : List Ent) : List Ent := Ent.blk1 bo 25 [v] :: Ent.blk1 bw 67 [walkV bo bw] :: rteE v X :: F
def WalkOk (B bo bw : Nat) (t : LT) : Prop := ∀ (π : List Bool) (F : List Ent) (v : Value) (X : List Rte) (w : World), t ≠ .nil → t.deep (17 - π.length) → π.length ≤ 16 → (∀ E ∈ t.ents, E ∈ F) → (∀ τ, t.at τ ≤ 9) → X.length + (t.rts π).length ≤ 1000 → B ≤ w.heap.size → Sep B w (outE bo bw v X F) →
  Calls Tryd.prog 25 #[t.ptr, .agg #[.int .i64 (lpAddr π), .int .i64 π.length], .pointer (some ⟨bo, 0, none⟩), .pointer (some ⟨bw, 0, none⟩)] w fun e w' => e = .returned (.tuple #[]) ∧ ∃ v', Sep B w' (outE bo bw v' (X ++ t.rts π) F) ∧ Below B w w'
theorem or_step (y : Bool) {A m : Nat} (hA : A < 65536) (hm : m ≤ 15) (hd : A % 2 ^ (m + 1) = 0) : bits .or .i64 (A : Int) (IntKind.i64.wrap (if y then 2 ^ m else 0)) = ((A + y.toNat * 2 ^ m : Nat) : Int) := by
  have h1 : (2 : Nat) ^ m ≤ 32768 := Nat.pow_le_pow_right (by decide) (by omega : m ≤ 15)
  have e : ((2 : Int) ^ m) = ((2 ^ m : Nat) : Int) := by simp
  have hw : IntKind.i64.wrap (if y then (2 : Int) ^ m else 0) = ((y.toNat * 2 ^ m : Nat) : Int) := by
    cases y
    · simp [IntKind.wrap, IntKind.bits, IntKind.signed]
    · simp only [if_true, Bool.toNat_true, Nat.one_mul, e]
      exact wrap_i64_small _ (by omega) (by omega)
  rw [hw, bits_join .i64 20 (by decide) wrap_i64_small (m + 1) (A : Int) _ (by omega) (by exact_mod_cast hd) (by omega) (by omega) ?_ ?_]
  · simp
  · have h2 : y.toNat * 2 ^ m < 2 ^ (m + 1) := by rw [Nat.pow_succ]; cases y <;> simp <;> omega
    exact_mod_cast h2
  · have : y.toNat * 2 ^ m ≤ 2 ^ m := by cases y <;> simp
    omega
set_option maxHeartbeats 2000000 in
theorem walk_node (B bo bw b : Nat) (h : Int) (l r : LT) (IHl : WalkOk B bo bw l) (IHr : WalkOk B bo bw r) : WalkOk B bo bw (.node b h l r) := by
  intro π F v X w hne hd hπ hin hhi hlen hB hs
  obtain ⟨A, hA⟩ : ∃ A, A = lpAddr π := ⟨_, rfl⟩
  obtain ⟨n, hn⟩ : ∃ n, n = π.length := ⟨_, rfl⟩
  have hA16 : A < 65536 := by rw [hA]; exact lpAddr_lt π hπ
  obtain ⟨W, hW⟩ : ∃ W, W = w.alloc (.cells #[.int .i64 (A : Int), .int .i64 (n : Int)] 34) := ⟨_, rfl⟩
  obtain ⟨g, hg⟩ : ∃ g, g = w.heap.size := ⟨_, rfl⟩
  have hbW : Below B w W := by rw [hW]; exact (Below.refl B w).alloc hB _
  have hBW : B ≤ W.heap.size := Nat.le_trans hB hbW.size
  obtain ⟨F1, hF1⟩ : ∃ F1, F1 = Ent.blk1 g 34 [.int .i64 (A : Int), .int .i64 (n : Int)] :: F := ⟨_, rfl⟩
  have hsW : Sep B W (outE bo bw v X F1) := by
    rw [hW, hF1, hg]
    refine Sep.perm (Sep.blkNew hs hB _ _) ?_
    exact (List.perm_middle (l₁ := [_, _, _])).symm
  have hbox : ∀ (w' : World) (v' : Value) (X' : List Rte), Sep B w' (outE bo bw v' X' F1) → (w'.cell? ⟨g, 0, none⟩ = some (.int .i64 (A : Int)) ∧ w'.cell? ⟨g, 1, none⟩ = some (.int .i64 (n : Int))) ∧ w'.cell? ⟨bw, 0, none⟩ = some (walkV bo bw) ∧ (w'.cell? ⟨b, 0, none⟩ = some l.ptr ∧ w'.cell? ⟨b, 1, none⟩ = some r.ptr ∧ w'.cell? ⟨b, 2, none⟩ = some (.int .i64 h)) ∧ w'.cell? ⟨bo, 0, none⟩ = some v' := fun w' v' X' h' => by
    have h1 := h'.member (g := g) (cs := [.int .i64 (A : Int), .int .i64 (n : Int)]) (e := 34) (by rw [hF1]; simp [outE])
    have h2 := h'.member (g := b) (cs := [l.ptr, r.ptr, .int .i64 h]) (e := 71) (by
      have := hin (nodE b h l r) (List.mem_cons_self ..)
      rw [hF1]; simp [outE, this])
    have h3 := Sep.blkAt (A := [_]) h' (j := 0) rfl
    have h4 := Sep.blkAt (A := []) h' (j := 0) rfl
    exact ⟨⟨(h1.1 0 _ rfl).1, (h1.1 1 _ rfl).1⟩, h3.1, ⟨(h2.1 0 _ rfl).1, (h2.1 1 _ rfl).1, (h2.1 2 _ rfl).1⟩, h4.1⟩
  have HBOX := Lib.hid hbox
  have hh9 : h ≤ 9 := hhi []
  obtain ⟨⟨hp0, hp1⟩, hpw, ⟨c0, c1, c2⟩, co⟩ := hbox W v X hsW
  have HSW := Lib.hid hsW
  have HBW := Lib.hid hbW
  have HW := Lib.hid hW
  have HG := Lib.hid hg
  have HF1 := Lib.hid hF1
  rw [← hA, ← hn]
  rw [← hn] at hπ
  have HA := Lib.hid hA
  have HN := Lib.hid hn
  have HIN := Lib.hid hin
  have HHI := Lib.hid hhi
  have HD := Lib.hid hd
  have HLEN := Lib.hid hlen
  have HIL := Lib.hid IHl
  have HIR := Lib.hid IHr
  clear hbox hsW hbW hW hg hF1 hA hn hs hin hhi hd hlen IHl IHr hne
  change Calls _ _ #[Value.pointer (some ⟨b, 0, none⟩), _, _, _] _ _
  go_enter Tryd.func25, Tryd.ntmps25
  go_upto_region 1 with fail
  rw [← HW.out, ← HG.out]
  obtain ⟨Y, hY⟩ : ∃ Y : List Rte, Y = if 0 ≤ h then [(A, n, h.toNat)] else [] := ⟨_, rfl⟩
  have HY := Lib.hid hY
  clear hY
  go_upto_if 12 with fail
  go_cut [] (fun wx => ∃ v1, Sep B wx (outE bo bw v1 (X ++ Y) F1) ∧ Below B w wx)
  case first =>
    by_cases h0 : 0 ≤ h
    · obtain ⟨k, rfl⟩ := Int.eq_ofNat_of_zero_le h0
      have d0 : decide ((0 : Int) ≤ (k : Int)) = true := decide_eq_true h0
      obtain ⟨v1, w1, hr, e1, e2, e3, e4⟩ := rtePush (A := [_]) (A, n, k) HSW.out hBW (by have := HLEN.out; omega)
      have hy : Y = [(A, n, k)] := by rw [HY.out, if_pos h0]; rfl
      obtain ⟨av, mv, cv, rfl⟩ : ∃ a m c, v1 = .slice a m c := by
        obtain ⟨-, a, c, h1, -⟩ := Sep.rowShape (A := [_, _]) e3
        exact ⟨a, _, c, h1⟩
      have HYY := Lib.hid hy
      have co2 := (Sep.blkAt (A := []) (HSW.out.alloc (.cells #[.int .i64 (A : Int), .int .i64 (n : Int), .int .i64 (k : Int)] 36)) (j := 0) rfl).1
      have HR := Lib.hid hr
      have HS1 := Lib.hid e3
      have HB1 := Lib.hid (HBW.out.trans e4)
      clear hr e3 e4 hy
      go_wp2_with fail
      go_region_law (refine step_append_run rfl (.tmp 13) (.tmp 20) 25 rfl v (.slice (some ⟨W.heap.size, 0, none⟩) 1 1) ?_ ?_ HR.out ?_; rfl; rfl)
      all_goals
        go_wp2_with fail
        go_meet
        exact ⟨_, by rw [HYY.out]; exact HS1.out, HB1.out⟩
    · have d0 : decide (0 ≤ h) = false := decide_eq_false h0
      have hy : Y = [] := by rw [HY.out, if_neg h0]
      have HYY := Lib.hid hy
      clear hy
      go_wp2_with fail
      go_meet
      exact ⟨v, by rw [HYY.out, List.append_nil]; exact HSW.out, HBW.out⟩
  case rest =>
    obtain ⟨v1, hs1, hb1⟩ := hcut
    have HS1 := Lib.hid hs1
    have HB1 := Lib.hid hb1
    obtain ⟨w1, hw1⟩ : ∃ w1, w1 = wc := ⟨_, rfl⟩
    obtain rfl := hw1
    obtain ⟨-, -, ⟨c0', c1', -⟩, -⟩ := HBOX.out w1 v1 _ hs1
    clear hs1 hb1 hp0 hp1 hpw c0 c1 c2 co HSW HBW
    obtain ⟨Zl, hZl⟩ : ∃ Z, Z = l.rts (π ++ [false]) := ⟨_, rfl⟩
    obtain ⟨Zr, hZr⟩ : ∃ Z, Z = r.rts (π ++ [true]) := ⟨_, rfl⟩
    have hrts : (LT.node b h l r).rts π = Y ++ Zl ++ Zr := by rw [HY.out, hZl, hZr, HA.out, HN.out]; rfl
    obtain ⟨pl, hpl⟩ : ∃ p, p = l.ptr := ⟨_, rfl⟩
    obtain ⟨pr, hpr⟩ : ∃ p, p = r.ptr := ⟨_, rfl⟩
    rw [← hpl] at c0'
    rw [← hpr] at c1'
    have hpl1 : pl.cells = #[pl] := by rw [hpl]; cases l <;> rfl
    have HPL := Lib.hid hpl
    have HPR := Lib.hid hpr
    have HKR := Lib.hid (fun w => kids_run pl pr w hpl1)
    clear hpl hpr hpl1
    have HRTS := Lib.hid hrts
    have HZL := Lib.hid hZl
    have HZR := Lib.hid hZr
    clear hrts hZl hZr
    go_wp2_with fail
    go_loopg [6, 7, 26] 2 (fun gk s6 s7 i wr => ∃ (v2 : Value) (X2 : List Rte), Sep B wr (outE bo bw v2 X2 F1) ∧ Below B w wr ∧ ((gk = 2 ∧ i = .int .i64 0 ∧ Hid (X2 = X ++ Y)) ∨ (gk = 1 ∧ i = .int .i64 1 ∧ Hid (X2 = X ++ Y ++ Zl)) ∨ (gk = 0 ∧ i = .int .i64 2 ∧ Hid (X2 = X ++ Y ++ Zl ++ Zr))))
    case atStart => exact ⟨v1, _, HS1.out, HB1.out, .inl ⟨rfl, rfl, rfl⟩⟩
    case round =>
      obtain ⟨gi, hgi0⟩ : ∃ gi, gi = gk := ⟨_, rfl⟩
      obtain ⟨v2, X2, hs2, hb2, hcase⟩ := hrel
      have hBr : B ≤ wr.heap.size := Nat.le_trans hB hb2.size
      obtain ⟨⟨hp0, hp1⟩, hpw, -, -⟩ := HBOX.out wr v2 X2 hs2
      have HS2 := Lib.hid hs2
      have HB2 := Lib.hid hb2
      clear hs2 hb2 HS1 HB1
      rcases hcase with ⟨hgk, rfl, hX2⟩ | ⟨hgk, rfl, hX2⟩ | ⟨hgk, rfl, hX2⟩
      · have HGK := Lib.hid hgk
        clear hgk hgi0
        by_cases hl : l = .nil
        · have hz : Zl = [] := by rw [HZL.out, hl]; rfl
          have HZ := Lib.hid hz
          have hk0 : ∀ w, (Instr.index 69 (.agg #[pl, pr]) (.int .i64 0)).run Tryd.prog w = .ok (.pointer none) w := fun w => by rw [(HKR.out w).1, HPL.out, hl]; rfl
          clear hz hl
          go_wp2
          go_roundg 1
          case measure => rw [HGK.out]; omega
          case rel => exact ⟨v2, X2, HS2.out, HB2.out, .inr (.inl ⟨rfl, rfl, by show _ = _; rw [hX2.out, HZ.out, List.append_nil]⟩)⟩
        · obtain ⟨bl, hl1, ll, lr, hl⟩ := LT.is_node hl
          have hk0 : ∀ w, (Instr.index 69 (.agg #[pl, pr]) (.int .i64 0)).run Tryd.prog w = .ok (.pointer (some ⟨bl, 0, none⟩)) w := fun w => by rw [(HKR.out w).1, HPL.out, hl]; rfl
          have hn15 : n ≤ 15 := by
            have h1 := HD.out
            rw [← HN.out] at h1
            rcases Nat.lt_or_ge 15 n with h2 | h2
            · have e : n = 16 := by omega
              rw [e] at h1
              have h3 := h1.1
              rw [hl] at h3
              exact h3.elim
            · exact h2
          obtain ⟨m, hm⟩ : ∃ m : Nat, (15 : Int) - (n : Int) = (m : Int) := ⟨15 - n, by omega⟩
          have hmw : IntKind.i64.wrap (m : Int) = (m : Int) := by simp [IntKind.wrap, IntKind.bits, IntKind.signed]; omega
          have hm0 : (0 : Int) ≤ (m : Int) := by omega
          have hn1w : IntKind.i64.wrap ((n : Int) + 1) = ((n + 1 : Nat) : Int) := by simp [IntKind.wrap, IntKind.bits, IntKind.signed]; omega
          obtain ⟨A2, hA2⟩ : ∃ A2, A2 = lpAddr (π ++ [false]) := ⟨_, rfl⟩
          have hmn : m = 15 - n := by omega
          have hAs : A2 = A + (false).toNat * 2 ^ m := by rw [hA2, lpAddr_snoc _ _ (by rw [← HN.out]; exact hn15), ← HA.out, ← HN.out, hmn]
          have hAd : A % 2 ^ (m + 1) = 0 := by
            have h1 := lpAddr_div π
            rw [← HA.out, ← HN.out, show 16 - n = m + 1 by omega] at h1
            exact h1
          have hor : bits .or .i64 (A : Int) (IntKind.i64.wrap 0) = (A2 : Int) := by
            rw [hAs]; exact or_step false hA16 (by omega) hAd
          have hl2 : (π ++ [false]).length = n + 1 := by rw [List.length_append, List.length_singleton, ← HN.out]
          have hcall : ∀ w' : World, B ≤ w'.heap.size → Sep B w' (outE bo bw v2 X2 F1) → Calls Tryd.prog 25 #[.pointer (some ⟨bl, 0, none⟩), .agg #[.int .i64 A2, .int .i64 (n + 1 : Nat)], .pointer (some ⟨bo, 0, none⟩), .pointer (some ⟨bw, 0, none⟩)] w' fun e w'' => e = .returned (.tuple #[]) ∧ ∃ v', Sep B w'' (outE bo bw v' (X2 ++ l.rts (π ++ [false])) F1) ∧ Below B w' w'' := by
            intro w' hB' hs'
            have h1 := HIL.out (π ++ [false]) F1 v2 X2 w' (by rw [hl]; simp) (by
              have h1 := HD.out
              rw [← HN.out] at h1
              rw [hl2, show 17 - (n + 1) = 16 - n by omega]
              rw [show 17 - n = 16 - n + 1 by omega] at h1
              exact h1.1) (by rw [hl2]; omega) (fun E hE => by
                rw [HF1.out]
                refine List.mem_cons_of_mem _ (HIN.out E (List.mem_cons_of_mem _ (List.mem_append.2 ?_)))
                first | exact .inl hE | exact .inr hE) (fun τ => by have := HHI.out (false :: τ); rw [LT.at_cons] at this; simpa using this) (by
                have h2 := HLEN.out
                rw [HRTS.out] at h2
                rw [hX2.out]
                simp only [List.length_append, ← HZL.out, ← HZR.out] at h2 ⊢
                omega) hB' hs'
            rw [← hA2, hl2, hl] at h1
            rw [hl]
            exact h1
          have HCALL := Lib.hid hcall
          clear hl hA2 hmn hAs hAd hl2 hcall
          go_upto_region 7 with fail
          go_still_tail 14, (by kernel_rfl)
          change wpList _ _ _ _ _ wr.drew
          have HSD := Lib.hid HS2.out.drew
          have HBD := Lib.hid (HB2.out.trans (below_drew B wr))
          have hBd : B ≤ wr.drew.heap.size := hBr
          try simp only [hor, hn1w]
          clear hor hn1w hm hmw hm0 hp0 hp1 hpw HS2 HB2
          generalize wr.drew = w2 at *
          go_wp2_with fail
          refine (HCALL.out _ hBd HSD.out).mono ?_
          rintro e w3 ⟨rfl, v3, hs3, hb3⟩
          have HS3 := Lib.hid hs3
          have HB3 := Lib.hid (HBD.out.trans hb3)
          clear hs3 hb3
          go_wp2
          go_roundg 1
          case measure => rw [HGK.out]; omega
          case rel => exact ⟨v3, _, HS3.out, HB3.out, .inr (.inl ⟨rfl, rfl, by show _ = _; rw [hX2.out, HZL.out]⟩)⟩
      · have HGK := Lib.hid hgk
        clear hgk hgi0
        by_cases hl : r = .nil
        · have hz : Zr = [] := by rw [HZR.out, hl]; rfl
          have HZ := Lib.hid hz
          have hk0 : ∀ w, (Instr.index 69 (.agg #[pl, pr]) (.int .i64 1)).run Tryd.prog w = .ok (.pointer none) w := fun w => by rw [(HKR.out w).2, HPR.out, hl]; rfl
          clear hz hl
          go_wp2
          go_roundg 0
          case measure => rw [HGK.out]; omega
          case rel => exact ⟨v2, X2, HS2.out, HB2.out, .inr (.inr ⟨rfl, rfl, by show _ = _; rw [hX2.out, HZ.out, List.append_nil]⟩)⟩
        · obtain ⟨bl, hl1, ll, lr, hl⟩ := LT.is_node hl
          have hk0 : ∀ w, (Instr.index 69 (.agg #[pl, pr]) (.int .i64 1)).run Tryd.prog w = .ok (.pointer (some ⟨bl, 0, none⟩)) w := fun w => by rw [(HKR.out w).2, HPR.out, hl]; rfl
          have hn15 : n ≤ 15 := by
            have h1 := HD.out
            rw [← HN.out] at h1
            rcases Nat.lt_or_ge 15 n with h2 | h2
            · have e : n = 16 := by omega
              rw [e] at h1
              have h3 := h1.2
              rw [hl] at h3
              exact h3.elim
            · exact h2
          obtain ⟨m, hm⟩ : ∃ m : Nat, (15 : Int) - (n : Int) = (m : Int) := ⟨15 - n, by omega⟩
          have hmw : IntKind.i64.wrap (m : Int) = (m : Int) := by simp [IntKind.wrap, IntKind.bits, IntKind.signed]; omega
          have hm0 : (0 : Int) ≤ (m : Int) := by omega
          have hn1w : IntKind.i64.wrap ((n : Int) + 1) = ((n + 1 : Nat) : Int) := by simp [IntKind.wrap, IntKind.bits, IntKind.signed]; omega
          obtain ⟨A2, hA2⟩ : ∃ A2, A2 = lpAddr (π ++ [true]) := ⟨_, rfl⟩
          have hmn : m = 15 - n := by omega
          have hAs : A2 = A + (true).toNat * 2 ^ m := by rw [hA2, lpAddr_snoc _ _ (by rw [← HN.out]; exact hn15), ← HA.out, ← HN.out, hmn]
          have hAd : A % 2 ^ (m + 1) = 0 := by
            have h1 := lpAddr_div π
            rw [← HA.out, ← HN.out, show 16 - n = m + 1 by omega] at h1
            exact h1
          have hor : bits .or .i64 (A : Int) (IntKind.i64.wrap (2 ^ m)) = (A2 : Int) := by
            rw [hAs]; exact or_step true hA16 (by omega) hAd
          have hl2 : (π ++ [true]).length = n + 1 := by rw [List.length_append, List.length_singleton, ← HN.out]
          have hcall : ∀ w' : World, B ≤ w'.heap.size → Sep B w' (outE bo bw v2 X2 F1) → Calls Tryd.prog 25 #[.pointer (some ⟨bl, 0, none⟩), .agg #[.int .i64 A2, .int .i64 (n + 1 : Nat)], .pointer (some ⟨bo, 0, none⟩), .pointer (some ⟨bw, 0, none⟩)] w' fun e w'' => e = .returned (.tuple #[]) ∧ ∃ v', Sep B w'' (outE bo bw v' (X2 ++ r.rts (π ++ [true])) F1) ∧ Below B w' w'' := by
            intro w' hB' hs'
            have h1 := HIR.out (π ++ [true]) F1 v2 X2 w' (by rw [hl]; simp) (by
              have h1 := HD.out
              rw [← HN.out] at h1
              rw [hl2, show 17 - (n + 1) = 16 - n by omega]
              rw [show 17 - n = 16 - n + 1 by omega] at h1
              exact h1.2) (by rw [hl2]; omega) (fun E hE => by
                rw [HF1.out]
                refine List.mem_cons_of_mem _ (HIN.out E (List.mem_cons_of_mem _ (List.mem_append.2 ?_)))
                first | exact .inl hE | exact .inr hE) (fun τ => by have := HHI.out (true :: τ); rw [LT.at_cons] at this; simpa using this) (by
                have h2 := HLEN.out
                rw [HRTS.out] at h2
                rw [hX2.out]
                simp only [List.length_append, ← HZL.out, ← HZR.out] at h2 ⊢
                omega) hB' hs'
            rw [← hA2, hl2, hl] at h1
            rw [hl]
            exact h1
          have HCALL := Lib.hid hcall
          clear hl hA2 hmn hAs hAd hl2 hcall
          go_upto_region 7 with fail
          go_still_tail 14, (by kernel_rfl)
          change wpList _ _ _ _ _ wr.drew
          have HSD := Lib.hid HS2.out.drew
          have HBD := Lib.hid (HB2.out.trans (below_drew B wr))
          have hBd : B ≤ wr.drew.heap.size := hBr
          try simp only [hor, hn1w]
          clear hor hn1w hm hmw hm0 hp0 hp1 hpw HS2 HB2
          generalize wr.drew = w2 at *
          go_wp2_with fail
          refine (HCALL.out _ hBd HSD.out).mono ?_
          rintro e w3 ⟨rfl, v3, hs3, hb3⟩
          have HS3 := Lib.hid hs3
          have HB3 := Lib.hid (HBD.out.trans hb3)
          clear hs3 hb3
          go_wp2
          go_roundg 0
          case measure => rw [HGK.out]; omega
          case rel => exact ⟨v3, _, HS3.out, HB3.out, .inr (.inr ⟨rfl, rfl, by show _ = _; rw [hX2.out, HZR.out]⟩)⟩
      · have hfin : ∃ v', Sep B wr (outE bo bw v' (X ++ (LT.node b h l r).rts π) F) := by
          refine ⟨v2, ?_⟩
          have h1 := HS2.out
          rw [hX2.out, HF1.out] at h1
          rw [HRTS.out, ← List.append_assoc, ← List.append_assoc]
          exact h1.sub (List.Sublist.cons_cons _ (List.Sublist.cons_cons _ (List.Sublist.cons_cons _ (List.sublist_cons_self _ _))))
        have HFIN := Lib.hid hfin
        clear hfin hgk hgi0
        go_wp2
        go_end0
        obtain ⟨v', h1⟩ := HFIN.out
        exact ⟨rfl, v', h1, HB2.out⟩
theorem walk_any (B bo bw : Nat) : ∀ t : LT, WalkOk B bo bw t
  | .nil => fun _ _ _ _ _ h => absurd rfl h
  | .node b h l r => walk_node B bo bw b h l r (walk_any B bo bw l) (walk_any B bo bw r)
end Go.Proofs.YtbcfcjecobihnaaDoor
