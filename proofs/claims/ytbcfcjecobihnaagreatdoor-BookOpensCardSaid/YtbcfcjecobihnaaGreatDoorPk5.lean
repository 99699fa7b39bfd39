/- Of the laws that the given statement is lifted from; each holds for every input that it names: (*lpm.Table).Routes: the walk over the tree. · Rows of routes: read, cut, appended. · Plain: the reference's table of routes (a place in a rising list) is the law's. · ferryhytheref1.Routes.at. · ferryhytheref1.in: whether a number lies within bounds. · ferryhytheref1.Power, Prefix, In. -/
import Derived.Test.YtbcfcjecobihnaaGreatDoorPk4
import Derived.Deep.RegionLaw
import Derived.StillTailTactics
import Derived.Test.YtbcfcjecobihnaaGreatDoorPk3
import Derived.BigQuiet
import Derived.Deep.DeepCutAuto
import Derived.Test.YtbcfcjecobihnaaGreatDoorRows
import Derived.Test.YtbcfcjecobihnaaGreatDoorPk1
import Derived.Test.YtbcfcjecobihnaaGreatDoorPk2

section
/- (*lpm.Table).Routes: the walk over the tree. -/
namespace Go.Proofs.YtbcfcjecobihnaaGreatDoor
open Go.RowKit
set_option linter.unusedVariables false
set_option linter.unusedSimpArgs false
set_option maxRecDepth 100000

theorem elemRte : ElemTy Tryz.prog 43 40 3 24 (.agg #[.int .i64 0, .int .i64 0, .int .i64 0]) := ⟨Tryz.underlying43, info_parts (by kernel_rfl), rfl, by decide⟩
abbrev rteE (v : Value) (X : List Rte) : Ent := Ent.row v X.length 3 40 (X.flatMap rteL)
/-- 'out = append(out, r)', out a variable in a block of its own. -/
theorem rtePush {B : Nat} {w : World} {g : Nat} {A C : List Ent} {v : Value} {X : List Rte} (x : Rte) (h : Sep B w (Ent.blk1 g 43 [v] :: (A ++ rteE v X :: C))) (hB : B ≤ w.heap.size) (hl : X.length ≤ 1000000) :
    ∃ v' w', (Builtin.append_ #[43, 43] 43 #[v, .slice (some ⟨w.heap.size, 0, none⟩) 1 1]).run Tryz.prog (w.alloc (.cells #[.int .i64 x.1, .int .i64 x.2.1, .int .i64 x.2.2] 40)).drew = .ok v' w' ∧
      w'.cell? ⟨g, 0, none⟩ = some v ∧ w'.frozen? ⟨g, 0, none⟩ = false ∧ Sep B (w'.setCell ⟨g, 0, none⟩ v') (Ent.blk1 g 43 [v'] :: (A ++ rteE v' (X ++ [x]) :: C)) ∧ Below B w (w'.setCell ⟨g, 0, none⟩ v') := by
  have hs := (h.alloc (.cells #[.int .i64 x.1, .int .i64 x.2.1, .int .i64 x.2.2] 40)).drew
  have hgs : B ≤ (w.alloc (.cells #[.int .i64 x.1, .int .i64 x.2.1, .int .i64 x.2.2] 40)).drew.heap.size := by show B ≤ (w.alloc _).heap.size; simp; omega
  obtain ⟨v', w', hr, hs2, hb⟩ := run_append_sep (A := Ent.blk1 g 43 [v] :: A) elemRte 43 hs hgs ⟨w.heap.size, 0, none⟩ 1 1 (rteL x) rfl (fun j u hu => by
    show (w.alloc _).cell? _ = _
    rw [show (⟨w.heap.size, 0, none⟩ : Addr).add j = ⟨w.heap.size, 0 + j, none⟩ by unfold Addr.add; split <;> simp_all, World.cell?_alloc_mark, Nat.zero_add, ← hu]; simp [rteL])
    (fun u hu => by
      simp only [rteL, List.mem_cons, List.not_mem_nil, or_false] at hu
      rcases hu with rfl | rfl | rfl <;> rfl) (by decide) (by omega) (by unfold maxLen; omega)
  have hs3 : Sep B w' (Ent.blk1 g 43 [v] :: (A ++ rteE v' (X ++ [x]) :: C)) := by
    unfold rteE
    rw [List.length_append, List.length_singleton, List.flatMap_append, show [x].flatMap rteL = rteL x by simp]
    exact hs2
  obtain ⟨c1, c2⟩ := Sep.blkAt (A := []) hs3 (j := 0) rfl
  exact ⟨v', w', hr, c1, c2, Sep.blkSet (A := []) hs3 0 v', ((((Below.refl B w).alloc hB _).drew).trans hb).setCell (p := ⟨g, 0, none⟩) (Sep.blkLt (A := []) hs3).1 v'⟩

theorem kids_run (p q : Value) (w : World) (hp : p.cells = #[p]) :
    (Instr.index 79 (.agg #[p, q]) (.int .i64 0)).run Tryz.prog w = .ok p w ∧
    (Instr.index 79 (.agg #[p, q]) (.int .i64 1)).run Tryz.prog w = .ok q w := by
  have hu : Tryz.prog.underlying 79 = some (.array 2 78) := by kernel_rfl
  have hu2 := Tryz.underlying78
  obtain ⟨i, hi, hs⟩ : ∃ i, Tryz.prog.info? 78 = some i ∧ i.size = 1 := by
    have h : (Tryz.prog.info? 78).map (·.size) = some 1 := by kernel_rfl
    exact Option.map_eq_some_iff.1 h
  constructor
  · simp [Instr.index, run_underlying hu, run_underlying hu2, asIntOf, part, isAgg, sizeOf, typeInfo, hi, hs, Result.andThen, go_sem]
  · simp [Instr.index, run_underlying hu, run_underlying hu2, asIntOf, part, isAgg, sizeOf, typeInfo, hi, hs, Result.andThen, go_sem]

abbrev walkV (bo bw : Nat) : Value := .func (Fn.func 41) #[] #[.pointer (some ⟨bo, 0, none⟩), .pointer (some ⟨bw, 0, none⟩)]
abbrev outE (bo bw : Nat) (v : Value) (X : List Rte) (F : List Ent) : List Ent := Ent.blk1 bo 43 [v] :: Ent.blk1 bw 77 [walkV bo bw] :: rteE v X :: F
def WalkOk (B bo bw : Nat) (t : LT) : Prop := ∀ (π : List Bool) (F : List Ent) (v : Value) (X : List Rte) (w : World), t ≠ .nil → t.deep (17 - π.length) → π.length ≤ 16 → (∀ E ∈ t.ents, E ∈ F) → (∀ τ, t.at τ ≤ 9) → X.length + (t.rts π).length ≤ 1000 → B ≤ w.heap.size → Sep B w (outE bo bw v X F) →
  Calls Tryz.prog 41 #[t.ptr, .agg #[.int .i64 (lpAddr π), .int .i64 π.length], .pointer (some ⟨bo, 0, none⟩), .pointer (some ⟨bw, 0, none⟩)] w fun e w' => e = .returned (.tuple #[]) ∧ ∃ v', Sep B w' (outE bo bw v' (X ++ t.rts π) F) ∧ Below B w w'
theorem or_step (y : Bool) {A m : Nat} (hA : A < 65536) (hm : m ≤ 15) (hd : A % 2 ^ (m + 1) = 0) : bits .or .i64 (A : Int) (IntKind.i64.wrap (if y then 2 ^ m else 0)) = ((A + y.toNat * 2 ^ m : Nat) : Int) := by
  have h1 : (2 : Nat) ^ m ≤ 32768 := Nat.pow_le_pow_right (by decide) (by omega : m ≤ 15)
  have e : ((2 : Int) ^ m) = ((2 ^ m : Nat) : Int) := by simp
  have hw : IntKind.i64.wrap (if y then (2 : Int) ^ m else 0) = ((y.toNat * 2 ^ m : Nat) : Int) := by
    cases y
    · simp [IntKind.wrap, IntKind.bits, IntKind.signed]
    · simp only [if_true, Bool.toNat_true, Nat.one_mul, e]
      exact wrap_i64_small _ (by omega) (by omega)
  rw [hw, bits_join .i64 20 (by decide) wrap_i64_small (m + 1) (A : Int) _ (by omega) (by exact_mod_cast hd) (by omega) (by omega) ?_ ?_]
  · simp
  · have h2 : y.toNat * 2 ^ m < 2 ^ (m + 1) := by rw [Nat.pow_succ]; cases y <;> simp <;> omega
    exact_mod_cast h2
  · have : y.toNat * 2 ^ m ≤ 2 ^ m := by cases y <;> simp
    omega
set_option maxHeartbeats 2000000 in
theorem walk_node (B bo bw b : Nat) (h : Int) (l r : LT) (IHl : WalkOk B bo bw l) (IHr : WalkOk B bo bw r) : WalkOk B bo bw (.node b h l r) := by
  intro π F v X w hne hd hπ hin hhi hlen hB hs
  obtain ⟨A, hA⟩ : ∃ A, A = lpAddr π := ⟨_, rfl⟩
  obtain ⟨n, hn⟩ : ∃ n, n = π.length := ⟨_, rfl⟩
  have hA16 : A < 65536 := by rw [hA]; exact lpAddr_lt π hπ
  obtain ⟨W, hW⟩ : ∃ W, W = w.alloc (.cells #[.int .i64 (A : Int), .int .i64 (n : Int)] 38) := ⟨_, rfl⟩
  obtain ⟨g, hg⟩ : ∃ g, g = w.heap.size := ⟨_, rfl⟩
  have hbW : Below B w W := by rw [hW]; exact (Below.refl B w).alloc hB _
  have hBW : B ≤ W.heap.size := Nat.le_trans hB hbW.size
  obtain ⟨F1, hF1⟩ : ∃ F1, F1 = Ent.blk1 g 38 [.int .i64 (A : Int), .int .i64 (n : Int)] :: F := ⟨_, rfl⟩
  have hsW : Sep B W (outE bo bw v X F1) := by
    rw [hW, hF1, hg]
    refine Sep.perm (Sep.blkNew hs hB _ _) ?_
    exact (List.perm_middle (l₁ := [_, _, _])).symm
  have hbox : ∀ (w' : World) (v' : Value) (X' : List Rte), Sep B w' (outE bo bw v' X' F1) → (w'.cell? ⟨g, 0, none⟩ = some (.int .i64 (A : Int)) ∧ w'.cell? ⟨g, 1, none⟩ = some (.int .i64 (n : Int))) ∧ w'.cell? ⟨bw, 0, none⟩ = some (walkV bo bw) ∧ (w'.cell? ⟨b, 0, none⟩ = some l.ptr ∧ w'.cell? ⟨b, 1, none⟩ = some r.ptr ∧ w'.cell? ⟨b, 2, none⟩ = some (.int .i64 h)) ∧ w'.cell? ⟨bo, 0, none⟩ = some v' := fun w' v' X' h' => by
    have h1 := h'.member (g := g) (cs := [.int .i64 (A : Int), .int .i64 (n : Int)]) (e := 38) (by rw [hF1]; simp [outE])
    have h2 := h'.member (g := b) (cs := [l.ptr, r.ptr, .int .i64 h]) (e := 81) (by
      have := hin (nodE b h l r) (List.mem_cons_self ..)
      rw [hF1]; simp [outE, this])
    have h3 := Sep.blkAt (A := [_]) h' (j := 0) rfl
    have h4 := Sep.blkAt (A := []) h' (j := 0) rfl
    exact ⟨⟨(h1.1 0 _ rfl).1, (h1.1 1 _ rfl).1⟩, h3.1, ⟨(h2.1 0 _ rfl).1, (h2.1 1 _ rfl).1, (h2.1 2 _ rfl).1⟩, h4.1⟩
  have HBOX := Lib.hid hbox
  have hh9 : h ≤ 9 := hhi []
  obtain ⟨⟨hp0, hp1⟩, hpw, ⟨c0, c1, c2⟩, co⟩ := hbox W v X hsW
  have HSW := Lib.hid hsW
  have HBW := Lib.hid hbW
  have HW := Lib.hid hW
  have HG := Lib.hid hg
  have HF1 := Lib.hid hF1
  rw [← hA, ← hn]
  rw [← hn] at hπ
  have HA := Lib.hid hA
  have HN := Lib.hid hn
  have HIN := Lib.hid hin
  have HHI := Lib.hid hhi
  have HD := Lib.hid hd
  have HLEN := Lib.hid hlen
  have HIL := Lib.hid IHl
  have HIR := Lib.hid IHr
  clear hbox hsW hbW hW hg hF1 hA hn hs hin hhi hd hlen IHl IHr hne
  change Calls _ _ #[Value.pointer (some ⟨b, 0, none⟩), _, _, _] _ _
  go_enter Tryz.func41, Tryz.ntmps41
  go_upto_region 1 with fail
  rw [← HW.out, ← HG.out]
  obtain ⟨Y, hY⟩ : ∃ Y : List Rte, Y = if 0 ≤ h then [(A, n, h.toNat)] else [] := ⟨_, rfl⟩
  have HY := Lib.hid hY
  clear hY
  go_upto_if 12 with fail
  go_cut [] (fun wx => ∃ v1, Sep B wx (outE bo bw v1 (X ++ Y) F1) ∧ Below B w wx)
  case first =>
    by_cases h0 : 0 ≤ h
    · obtain ⟨k, rfl⟩ := Int.eq_ofNat_of_zero_le h0
      have d0 : decide ((0 : Int) ≤ (k : Int)) = true := decide_eq_true h0
      obtain ⟨v1, w1, hr, e1, e2, e3, e4⟩ := rtePush (A := [_]) (A, n, k) HSW.out hBW (by have := HLEN.out; omega)
      have hy : Y = [(A, n, k)] := by rw [HY.out, if_pos h0]; rfl
      obtain ⟨av, mv, cv, rfl⟩ : ∃ a m c, v1 = .slice a m c := by
        obtain ⟨-, a, c, h1, -⟩ := Sep.rowShape (A := [_, _]) e3
        exact ⟨a, _, c, h1⟩
      have HYY := Lib.hid hy
      have co2 := (Sep.blkAt (A := []) (HSW.out.alloc (.cells #[.int .i64 (A : Int), .int .i64 (n : Int), .int .i64 (k : Int)] 40)) (j := 0) rfl).1
      have HR := Lib.hid hr
      have HS1 := Lib.hid e3
      have HB1 := Lib.hid (HBW.out.trans e4)
      clear hr e3 e4 hy
      go_wp2_with fail
      go_region_law (refine step_append_run rfl (.tmp 13) (.tmp 20) 43 rfl v (.slice (some ⟨W.heap.size, 0, none⟩) 1 1) ?_ ?_ HR.out ?_; rfl; rfl)
      all_goals
        go_wp2_with fail
        go_meet
        exact ⟨_, by rw [HYY.out]; exact HS1.out, HB1.out⟩
    · have d0 : decide (0 ≤ h) = false := decide_eq_false h0
      have hy : Y = [] := by rw [HY.out, if_neg h0]
      have HYY := Lib.hid hy
      clear hy
      go_wp2_with fail
      go_meet
      exact ⟨v, by rw [HYY.out, List.append_nil]; exact HSW.out, HBW.out⟩
  case rest =>
    obtain ⟨v1, hs1, hb1⟩ := hcut
    have HS1 := Lib.hid hs1
    have HB1 := Lib.hid hb1
    obtain ⟨w1, hw1⟩ : ∃ w1, w1 = wc := ⟨_, rfl⟩
    obtain rfl := hw1
    obtain ⟨-, -, ⟨c0', c1', -⟩, -⟩ := HBOX.out w1 v1 _ hs1
    clear hs1 hb1 hp0 hp1 hpw c0 c1 c2 co HSW HBW
    obtain ⟨Zl, hZl⟩ : ∃ Z, Z = l.rts (π ++ [false]) := ⟨_, rfl⟩
    obtain ⟨Zr, hZr⟩ : ∃ Z, Z = r.rts (π ++ [true]) := ⟨_, rfl⟩
    have hrts : (LT.node b h l r).rts π = Y ++ Zl ++ Zr := by rw [HY.out, hZl, hZr, HA.out, HN.out]; rfl
    obtain ⟨pl, hpl⟩ : ∃ p, p = l.ptr := ⟨_, rfl⟩
    obtain ⟨pr, hpr⟩ : ∃ p, p = r.ptr := ⟨_, rfl⟩
    rw [← hpl] at c0'
    rw [← hpr] at c1'
    have hpl1 : pl.cells = #[pl] := by rw [hpl]; cases l <;> rfl
    have HPL := Lib.hid hpl
    have HPR := Lib.hid hpr
    have HKR := Lib.hid (fun w => kids_run pl pr w hpl1)
    clear hpl hpr hpl1
    have HRTS := Lib.hid hrts
    have HZL := Lib.hid hZl
    have HZR := Lib.hid hZr
    clear hrts hZl hZr
    go_wp2_with fail
    go_loopg [6, 7, 26] 2 (fun gk s6 s7 i wr => ∃ (v2 : Value) (X2 : List Rte), Sep B wr (outE bo bw v2 X2 F1) ∧ Below B w wr ∧ ((gk = 2 ∧ i = .int .i64 0 ∧ Hid (X2 = X ++ Y)) ∨ (gk = 1 ∧ i = .int .i64 1 ∧ Hid (X2 = X ++ Y ++ Zl)) ∨ (gk = 0 ∧ i = .int .i64 2 ∧ Hid (X2 = X ++ Y ++ Zl ++ Zr))))
    case atStart => exact ⟨v1, _, HS1.out, HB1.out, .inl ⟨rfl, rfl, rfl⟩⟩
    case round =>
      obtain ⟨gi, hgi0⟩ : ∃ gi, gi = gk := ⟨_, rfl⟩
      obtain ⟨v2, X2, hs2, hb2, hcase⟩ := hrel
      have hBr : B ≤ wr.heap.size := Nat.le_trans hB hb2.size
      obtain ⟨⟨hp0, hp1⟩, hpw, -, -⟩ := HBOX.out wr v2 X2 hs2
      have HS2 := Lib.hid hs2
      have HB2 := Lib.hid hb2
      clear hs2 hb2 HS1 HB1
      rcases hcase with ⟨hgk, rfl, hX2⟩ | ⟨hgk, rfl, hX2⟩ | ⟨hgk, rfl, hX2⟩
      · have HGK := Lib.hid hgk
        clear hgk hgi0
        by_cases hl : l = .nil
        · have hz : Zl = [] := by rw [HZL.out, hl]; rfl
          have HZ := Lib.hid hz
          have hk0 : ∀ w, (Instr.index 79 (.agg #[pl, pr]) (.int .i64 0)).run Tryz.prog w = .ok (.pointer none) w := fun w => by rw [(HKR.out w).1, HPL.out, hl]; rfl
          clear hz hl
          go_wp2
          go_roundg 1
          case measure => rw [HGK.out]; omega
          case rel => exact ⟨v2, X2, HS2.out, HB2.out, .inr (.inl ⟨rfl, rfl, by show _ = _; rw [hX2.out, HZ.out, List.append_nil]⟩)⟩
        · obtain ⟨bl, hl1, ll, lr, hl⟩ := LT.is_node hl
          have hk0 : ∀ w, (Instr.index 79 (.agg #[pl, pr]) (.int .i64 0)).run Tryz.prog w = .ok (.pointer (some ⟨bl, 0, none⟩)) w := fun w => by rw [(HKR.out w).1, HPL.out, hl]; rfl
          have hn15 : n ≤ 15 := by
            have h1 := HD.out
            rw [← HN.out] at h1
            rcases Nat.lt_or_ge 15 n with h2 | h2
            · have e : n = 16 := by omega
              rw [e] at h1
              have h3 := h1.1
              rw [hl] at h3
              exact h3.elim
            · exact h2
          obtain ⟨m, hm⟩ : ∃ m : Nat, (15 : Int) - (n : Int) = (m : Int) := ⟨15 - n, by omega⟩
          have hmw : IntKind.i64.wrap (m : Int) = (m : Int) := by simp [IntKind.wrap, IntKind.bits, IntKind.signed]; omega
          have hm0 : (0 : Int) ≤ (m : Int) := by omega
          have hn1w : IntKind.i64.wrap ((n : Int) + 1) = ((n + 1 : Nat) : Int) := by simp [IntKind.wrap, IntKind.bits, IntKind.signed]; omega
          obtain ⟨A2, hA2⟩ : ∃ A2, A2 = lpAddr (π ++ [false]) := ⟨_, rfl⟩
          have hmn : m = 15 - n := by omega
          have hAs : A2 = A + (false).toNat * 2 ^ m := by rw [hA2, lpAddr_snoc _ _ (by rw [← HN.out]; exact hn15), ← HA.out, ← HN.out, hmn]
          have hAd : A % 2 ^ (m + 1) = 0 := by
            have h1 := lpAddr_div π
            rw [← HA.out, ← HN.out, show 16 - n = m + 1 by omega] at h1
            exact h1
          have hor : bits .or .i64 (A : Int) (IntKind.i64.wrap 0) = (A2 : Int) := by
            rw [hAs]; exact or_step false hA16 (by omega) hAd
          have hl2 : (π ++ [false]).length = n + 1 := by rw [List.length_append, List.length_singleton, ← HN.out]
          have hcall : ∀ w' : World, B ≤ w'.heap.size → Sep B w' (outE bo bw v2 X2 F1) → Calls Tryz.prog 41 #[.pointer (some ⟨bl, 0, none⟩), .agg #[.int .i64 A2, .int .i64 (n + 1 : Nat)], .pointer (some ⟨bo, 0, none⟩), .pointer (some ⟨bw, 0, none⟩)] w' fun e w'' => e = .returned (.tuple #[]) ∧ ∃ v', Sep B w'' (outE bo bw v' (X2 ++ l.rts (π ++ [false])) F1) ∧ Below B w' w'' := by
            intro w' hB' hs'
            have h1 := HIL.out (π ++ [false]) F1 v2 X2 w' (by rw [hl]; simp) (by
              have h1 := HD.out
              rw [← HN.out] at h1
              rw [hl2, show 17 - (n + 1) = 16 - n by omega]
              rw [show 17 - n = 16 - n + 1 by omega] at h1
              exact h1.1) (by rw [hl2]; omega) (fun E hE => by
                rw [HF1.out]
                refine List.mem_cons_of_mem _ (HIN.out E (List.mem_cons_of_mem _ (List.mem_append.2 ?_)))
                first | exact .inl hE | exact .inr hE) (fun τ => by have := HHI.out (false :: τ); rw [LT.at_cons] at this; simpa using this) (by
                have h2 := HLEN.out
                rw [HRTS.out] at h2
                rw [hX2.out]
                simp only [List.length_append, ← HZL.out, ← HZR.out] at h2 ⊢
                omega) hB' hs'
            rw [← hA2, hl2, hl] at h1
            rw [hl]
            exact h1
          have HCALL := Lib.hid hcall
          clear hl hA2 hmn hAs hAd hl2 hcall
          go_upto_region 7 with fail
          go_still_tail 14, (by kernel_rfl)
          change wpList _ _ _ _ _ wr.drew
          have HSD := Lib.hid HS2.out.drew
          have HBD := Lib.hid (HB2.out.trans (below_drew B wr))
          have hBd : B ≤ wr.drew.heap.size := hBr
          try simp only [hor, hn1w]
          clear hor hn1w hm hmw hm0 hp0 hp1 hpw HS2 HB2
          generalize wr.drew = w2 at *
          go_wp2_with fail
          refine (HCALL.out _ hBd HSD.out).mono ?_
          rintro e w3 ⟨rfl, v3, hs3, hb3⟩
          have HS3 := Lib.hid hs3
          have HB3 := Lib.hid (HBD.out.trans hb3)
          clear hs3 hb3
          go_wp2
          go_roundg 1
          case measure => rw [HGK.out]; omega
          case rel => exact ⟨v3, _, HS3.out, HB3.out, .inr (.inl ⟨rfl, rfl, by show _ = _; rw [hX2.out, HZL.out]⟩)⟩
      · have HGK := Lib.hid hgk
        clear hgk hgi0
        by_cases hl : r = .nil
        · have hz : Zr = [] := by rw [HZR.out, hl]; rfl
          have HZ := Lib.hid hz
          have hk0 : ∀ w, (Instr.index 79 (.agg #[pl, pr]) (.int .i64 1)).run Tryz.prog w = .ok (.pointer none) w := fun w => by rw [(HKR.out w).2, HPR.out, hl]; rfl
          clear hz hl
          go_wp2
          go_roundg 0
          case measure => rw [HGK.out]; omega
          case rel => exact ⟨v2, X2, HS2.out, HB2.out, .inr (.inr ⟨rfl, rfl, by show _ = _; rw [hX2.out, HZ.out, List.append_nil]⟩)⟩
        · obtain ⟨bl, hl1, ll, lr, hl⟩ := LT.is_node hl
          have hk0 : ∀ w, (Instr.index 79 (.agg #[pl, pr]) (.int .i64 1)).run Tryz.prog w = .ok (.pointer (some ⟨bl, 0, none⟩)) w := fun w => by rw [(HKR.out w).2, HPR.out, hl]; rfl
          have hn15 : n ≤ 15 := by
            have h1 := HD.out
            rw [← HN.out] at h1
            rcases Nat.lt_or_ge 15 n with h2 | h2
            · have e : n = 16 := by omega
              rw [e] at h1
              have h3 := h1.2
              rw [hl] at h3
              exact h3.elim
            · exact h2
          obtain ⟨m, hm⟩ : ∃ m : Nat, (15 : Int) - (n : Int) = (m : Int) := ⟨15 - n, by omega⟩
          have hmw : IntKind.i64.wrap (m : Int) = (m : Int) := by simp [IntKind.wrap, IntKind.bits, IntKind.signed]; omega
          have hm0 : (0 : Int) ≤ (m : Int) := by omega
          have hn1w : IntKind.i64.wrap ((n : Int) + 1) = ((n + 1 : Nat) : Int) := by simp [IntKind.wrap, IntKind.bits, IntKind.signed]; omega
          obtain ⟨A2, hA2⟩ : ∃ A2, A2 = lpAddr (π ++ [true]) := ⟨_, rfl⟩
          have hmn : m = 15 - n := by omega
          have hAs : A2 = A + (true).toNat * 2 ^ m := by rw [hA2, lpAddr_snoc _ _ (by rw [← HN.out]; exact hn15), ← HA.out, ← HN.out, hmn]
          have hAd : A % 2 ^ (m + 1) = 0 := by
            have h1 := lpAddr_div π
            rw [← HA.out, ← HN.out, show 16 - n = m + 1 by omega] at h1
            exact h1
          have hor : bits .or .i64 (A : Int) (IntKind.i64.wrap (2 ^ m)) = (A2 : Int) := by
            rw [hAs]; exact or_step true hA16 (by omega) hAd
          have hl2 : (π ++ [true]).length = n + 1 := by rw [List.length_append, List.length_singleton, ← HN.out]
          have hcall : ∀ w' : World, B ≤ w'.heap.size → Sep B w' (outE bo bw v2 X2 F1) → Calls Tryz.prog 41 #[.pointer (some ⟨bl, 0, none⟩), .agg #[.int .i64 A2, .int .i64 (n + 1 : Nat)], .pointer (some ⟨bo, 0, none⟩), .pointer (some ⟨bw, 0, none⟩)] w' fun e w'' => e = .returned (.tuple #[]) ∧ ∃ v', Sep B w'' (outE bo bw v' (X2 ++ r.rts (π ++ [true])) F1) ∧ Below B w' w'' := by
            intro w' hB' hs'
            have h1 := HIR.out (π ++ [true]) F1 v2 X2 w' (by rw [hl]; simp) (by
              have h1 := HD.out
              rw [← HN.out] at h1
              rw [hl2, show 17 - (n + 1) = 16 - n by omega]
              rw [show 17 - n = 16 - n + 1 by omega] at h1
              exact h1.2) (by rw [hl2]; omega) (fun E hE => by
                rw [HF1.out]
                refine List.mem_cons_of_mem _ (HIN.out E (List.mem_cons_of_mem _ (List.mem_append.2 ?_)))
                first | exact .inl hE | exact .inr hE) (fun τ => by have := HHI.out (true :: τ); rw [LT.at_cons] at this; simpa using this) (by
                have h2 := HLEN.out
                rw [HRTS.out] at h2
                rw [hX2.out]
                simp only [List.length_append, ← HZL.out, ← HZR.out] at h2 ⊢
                omega) hB' hs'
            rw [← hA2, hl2, hl] at h1
            rw [hl]
            exact h1
          have HCALL := Lib.hid hcall
          clear hl hA2 hmn hAs hAd hl2 hcall
          go_upto_region 7 with fail
          go_still_tail 14, (by kernel_rfl)
          change wpList _ _ _ _ _ wr.drew
          have HSD := Lib.hid HS2.out.drew
          have HBD := Lib.hid (HB2.out.trans (below_drew B wr))
          have hBd : B ≤ wr.drew.heap.size := hBr
          try simp only [hor, hn1w]
          clear hor hn1w hm hmw hm0 hp0 hp1 hpw HS2 HB2
          generalize wr.drew = w2 at *
          go_wp2_with fail
          refine (HCALL.out _ hBd HSD.out).mono ?_
          rintro e w3 ⟨rfl, v3, hs3, hb3⟩
          have HS3 := Lib.hid hs3
          have HB3 := Lib.hid (HBD.out.trans hb3)
          clear hs3 hb3
          go_wp2
          go_roundg 0
          case measure => rw [HGK.out]; omega
          case rel => exact ⟨v3, _, HS3.out, HB3.out, .inr (.inr ⟨rfl, rfl, by show _ = _; rw [hX2.out, HZR.out]⟩)⟩
      · have hfin : ∃ v', Sep B wr (outE bo bw v' (X ++ (LT.node b h l r).rts π) F) := by
          refine ⟨v2, ?_⟩
          have h1 := HS2.out
          rw [hX2.out, HF1.out] at h1
          rw [HRTS.out, ← List.append_assoc, ← List.append_assoc]
          exact h1.sub (List.Sublist.cons_cons _ (List.Sublist.cons_cons _ (List.Sublist.cons_cons _ (List.sublist_cons_self _ _))))
        have HFIN := Lib.hid hfin
        clear hfin hgk hgi0
        go_wp2
        go_end0
        obtain ⟨v', h1⟩ := HFIN.out
        exact ⟨rfl, v', h1, HB2.out⟩
theorem walk_any (B bo bw : Nat) : ∀ t : LT, WalkOk B bo bw t
  | .nil => fun _ _ _ _ _ h => absurd rfl h
  | .node b h l r => walk_node B bo bw b h l r (walk_any B bo bw l) (walk_any B bo bw r)
end Go.Proofs.YtbcfcjecobihnaaGreatDoor

end

section
/- Rows of routes: read, cut, appended. -/
namespace Go.Proofs.YtbcfcjecobihnaaGreatDoor
open Go.RowKit
set_option linter.unusedVariables false
set_option maxRecDepth 100000

abbrev RteSl (B : Nat) (w : World) (ao : Option Addr) (L : List Rte) : Prop := RowSl B w ao 3 (L.map rteL)
theorem rte_len (L : List Rte) : (L.flatMap rteL).length = L.length * 3 := flat_len rteL 3 (fun _ => rfl) L
theorem rte_one {L : List Rte} : ∀ u ∈ L.flatMap rteL, u.oneCell' = true := by
  intro u hu
  obtain ⟨x, _, hx⟩ := List.mem_flatMap.1 hu
  simp only [rteL, List.mem_cons, List.not_mem_nil, or_false] at hx
  rcases hx with rfl | rfl | rfl <;> rfl
theorem rteSl_flat {B : Nat} {w : World} {b off : Nat} {L : List Rte} (h : RteSl B w (some ⟨b, off, none⟩) L) : ∀ (j : Nat) (u : Value), (L.flatMap rteL)[j]? = some u → w.cell? ((⟨b, off, none⟩ : Addr).add j) = some u := by
  intro j u hu
  have hlen := rte_len L
  have hj := (List.getElem?_eq_some_iff.1 hu).1
  obtain ⟨x, hx⟩ : ∃ x, L[j / 3]? = some x := ⟨_, List.getElem?_eq_getElem (by omega)⟩
  have h3 : j % 3 < 3 := Nat.mod_lt _ (by decide)
  have hf := flat_get rteL 3 (fun _ => rfl) h3 L (j / 3) x hx
  rw [show j / 3 * 3 + j % 3 = j by omega, hu] at hf
  obtain ⟨b', off', he, _, hc⟩ := h (j / 3) (rteL x) (by rw [List.getElem?_map, hx]; rfl)
  simp only [Option.some.injEq, Addr.mk.injEq, and_true] at he
  obtain ⟨rfl, rfl⟩ := he
  have := hc (j % 3) u hf.symm
  rw [← this]
  congr 1
  rw [show (⟨b, off, none⟩ : Addr).add j = ⟨b, off + j, none⟩ by unfold Addr.add; split <;> simp_all]
  congr 1
  omega
/-- A row of routes of the call's own, read. -/
theorem Sep.rteSl {B : Nat} {w : World} {A C : List Ent} {e : TypeId} {ao : Option Addr} {n cap : Nat} {L : List Rte} (h : Sep B w (A ++ Ent.row (.slice ao n cap) n 3 e (L.flatMap rteL) :: C)) : RteSl w.heap.size w ao L := by
  intro j r hr
  rw [List.getElem?_map] at hr
  obtain ⟨x, hx, rfl⟩ := Option.map_eq_some_iff.1 hr
  have hl := h.mem.1.1
  rw [rte_len] at hl
  have hj := (List.getElem?_eq_some_iff.1 hx).1
  obtain ⟨g, off, rfl, _, hc, _⟩ := h.rowAt (by omega)
  refine ⟨g, off, rfl, (h.mem.2 g rfl).2, fun t v hv => ?_⟩
  have ht : t < 3 := (List.getElem?_eq_some_iff.1 hv).1
  rw [Nat.add_assoc, hc (j * 3 + t) (by omega), flat_get rteL 3 (fun _ => rfl) ht L j x hx]
  exact hv
theorem rte_shape {B : Nat} {w : World} {A C : List Ent} {v : Value} {L : List Rte} (h : Sep B w (A ++ rteE v L :: C)) : ∃ ao cap, v = .slice ao L.length cap ∧ L.length ≤ cap := by
  obtain ⟨-, ao, cap, rfl, h1, -⟩ := Sep.rowShape h
  exact ⟨ao, cap, rfl, h1⟩
/-- One route of a row that is read. -/
theorem rteSl_at {B : Nat} {w : World} {ao : Option Addr} {L : List Rte} (h : RteSl B w ao L) {k : Nat} {x : Rte} (hx : L[k]? = some x) :
    ∃ b o, ao = some ⟨b, o, none⟩ ∧ b < B ∧ w.cell? ⟨b, o + k * 3, none⟩ = some (.int .i64 x.1) ∧ w.cell? ⟨b, o + k * 3 + 1, none⟩ = some (.int .i64 x.2.1) ∧ w.cell? ⟨b, o + k * 3 + 2, none⟩ = some (.int .i64 x.2.2) := by
  obtain ⟨b, o, rfl, hb, hc⟩ := h k (rteL x) (by rw [List.getElem?_map, hx]; rfl)
  exact ⟨b, o, rfl, hb, hc 0 _ rfl, hc 1 _ rfl, hc 2 _ rfl⟩
theorem rteSl_take {B : Nat} {w : World} {ao : Option Addr} {L : List Rte} (h : RteSl B w ao L) (k : Nat) : RteSl B w ao (L.take k) := by
  intro j cs hj
  refine h j cs ?_
  rw [List.map_take] at hj
  rw [List.getElem?_take] at hj
  split at hj
  · exact hj
  · cases hj
theorem rteSl_cut {B : Nat} {w : World} {ao : Option Addr} {L : List Rte} {cap : Nat} (h : RteSl B w ao L) (hc : L.length ≤ cap) (k : Nat) : RteSl B w (cutAddr ao cap k 3) (L.drop k) := by
  intro j cs hj
  rw [List.map_drop, List.getElem?_drop] at hj
  obtain ⟨b, off, rfl, hb, hx⟩ := h (k + j) cs hj
  have hlt : k + j < L.length := by
    have := (List.getElem?_eq_some_iff.1 hj).1
    simpa using this
  refine ⟨b, off + k * 3, ?_, hb, fun t v hv => ?_⟩
  · unfold cutAddr
    rw [if_neg (by omega)]
    simp [Addr.add]
  · rw [show off + k * 3 + j * 3 + t = off + (k + j) * 3 + t by omega]
    exact hx t v hv
/-- 'append' of nothing. -/
theorem run_append_none {P : Program} {w : World} {t e ty : TypeId} {size bytes : Nat} {z : Value} (T : ElemTy P t e size bytes z) {ao bo : Option Addr} {n cap c : Nat} (hn : n ≤ cap) (hb : bo = none → n = 0 ∧ cap = 0) :
    (Builtin.append_ #[t, t] ty #[.slice bo n cap, .slice ao 0 c]).run P w = .ok (.slice bo n cap) w := by
  obtain ⟨ht, ⟨i, hi, hz, rfl, rfl⟩, hzs, hsz⟩ := T
  cases bo with
  | none =>
    obtain ⟨rfl, rfl⟩ := hb rfl
    cases ao <;> simp [Builtin.append_, run_underlying ht, sizeOf, typeInfo, hi, Builtin.lenOf, Builtin.firstCells, loadCells, loadCellsFrom]
  | some b =>
    cases ao <;> simp [Builtin.append_, run_underlying ht, sizeOf, typeInfo, hi, Builtin.lenOf, Builtin.firstCells, loadCells, loadCellsFrom, hn, storeCells]
/-- 'append(out, some..)'. -/
theorem rteApp {B B' : Nat} {w : World} {A C : List Ent} {v : Value} {X ys : List Rte} {ao : Option Addr} {c : Nat} (ty : TypeId) (h : Sep B w (A ++ rteE v X :: C)) (hB : B ≤ w.heap.size) (hA : RteSl B' w ao ys) (hl : X.length + ys.length ≤ 1000000) :
    ∃ v' w', (Builtin.append_ #[43, 43] ty #[v, .slice ao ys.length c]).run Tryz.prog w = .ok v' w' ∧ Sep B w' (A ++ rteE v' (X ++ ys) :: C) ∧ Below B w w' := by
  rcases Nat.eq_zero_or_pos ys.length with h0 | h0
  · obtain rfl : ys = [] := List.eq_nil_of_length_eq_zero h0
    obtain ⟨-, bo, cap, rfl, hn, hb⟩ := Sep.rowShape h
    refine ⟨_, w, run_append_none elemRte hn hb, ?_, Below.refl _ _⟩
    rw [List.append_nil]; exact h
  · obtain ⟨y, hy⟩ : ∃ y, ys[0]? = some y := ⟨_, List.getElem?_eq_getElem h0⟩
    obtain ⟨b, o, rfl, -, -⟩ := rteSl_at hA hy
    obtain ⟨v', w', hr, hs, hb⟩ := run_append_sep elemRte ty h hB ⟨b, o, none⟩ ys.length c (ys.flatMap rteL) (rte_len ys) (rteSl_flat hA) rte_one h0 (by omega) (by unfold maxLen; omega)
    refine ⟨v', w', hr, ?_, hb⟩
    unfold rteE
    rw [List.length_append, List.flatMap_append]
    exact hs
/-- A route of one's own in a new block, the last one. -/
theorem rteSl_new (w : World) (g : Nat) (hg : g = w.heap.size) (x : Rte) (e : TypeId) : RteSl (g + 1) (w.alloc (.cells #[.int .i64 x.1, .int .i64 x.2.1, .int .i64 x.2.2] e)) (some ⟨g, 0, none⟩) [x] := by
  subst hg
  intro j r hr
  rw [List.getElem?_map] at hr
  obtain ⟨y, hy, rfl⟩ := Option.map_eq_some_iff.1 hr
  match j, hy with
  | 0, hy =>
    obtain rfl : x = y := by simpa using hy
    refine ⟨w.heap.size, 0, rfl, Nat.lt_succ_self _, fun t v hv => ?_⟩
    rw [World.cell?_alloc_mark]
    simp only [Nat.zero_mul, Nat.zero_add]
    rw [← Array.getElem?_toList]
    exact hv
end Go.Proofs.YtbcfcjecobihnaaGreatDoor

end

section
/- Plain: the reference's table of routes (a place in a rising list) is the law's. -/
namespace Go.Proofs.YtbcfcjecobihnaaGreatDoor
set_option linter.unusedVariables false

/-- How many stand before. -/
def atK (L : List Rte) (a n : Nat) : Nat := (L.takeWhile fun x => ltK x a n).length
def isK (L : List Rte) (a n : Nat) : Bool := match L[atK L a n]? with | some x => keyIs x a n | none => false
theorem atK_le (L : List Rte) (a n : Nat) : atK L a n ≤ L.length := by
  unfold atK; exact (List.takeWhile_sublist _).length_le
theorem atK_nil (a n : Nat) : atK [] a n = 0 := rfl
theorem atK_lt {x : Rte} {L : List Rte} {a n : Nat} (h : ltK x a n = true) : atK (x :: L) a n = atK L a n + 1 := by
  unfold atK; rw [List.takeWhile_cons, if_pos h]; rfl
theorem atK_ge {x : Rte} {L : List Rte} {a n : Nat} (h : ltK x a n = false) : atK (x :: L) a n = 0 := by
  unfold atK; rw [List.takeWhile_cons, if_neg (by rw [h]; decide)]; rfl
/-- Found: none before is so, and the one here is not. -/
theorem atK_is : ∀ {L : List Rte} {a n k : Nat}, k ≤ L.length → (∀ j x, j < k → L[j]? = some x → ltK x a n = true) → (∀ x, L[k]? = some x → ltK x a n = false) → atK L a n = k
  | [], a, n, k, hk, _, _ => by simp at hk; rw [hk]; rfl
  | y :: L, a, n, 0, _, _, h => atK_ge (h y rfl)
  | y :: L, a, n, k + 1, hk, h1, h2 => by
    rw [atK_lt (h1 0 y (by omega) rfl), atK_is (by simpa using hk) (fun j x hj hx => h1 (j + 1) x (by omega) (by simpa using hx)) (fun x hx => h2 x (by simpa using hx))]
theorem setL_at : ∀ {L : List Rte} {a n h : Nat}, setL L a n h = L.take (atK L a n) ++ (a, n, h) :: L.drop (if isK L a n then atK L a n + 1 else atK L a n)
  | [], a, n, h => rfl
  | x :: L, a, n, h => by
    unfold setL
    cases h1 : ltK x a n with
    | true =>
      have ih := setL_at (L := L) (a := a) (n := n) (h := h)
      have hi : isK (x :: L) a n = isK L a n := by unfold isK; rw [atK_lt h1, List.getElem?_cons_succ]
      rw [if_pos rfl, hi, atK_lt h1, ih]
      split <;> simp
    | false =>
      rw [if_neg (by decide)]
      have hi : isK (x :: L) a n = keyIs x a n := by unfold isK; rw [atK_ge h1]; rfl
      rw [hi, atK_ge h1]
      cases keyIs x a n <;> simp
theorem hasL_is : ∀ {L : List Rte} {a n : Nat}, SrtR L → hasL L a n = isK L a n
  | [], a, n, _ => rfl
  | x :: L, a, n, hs => by
    have hs' := List.pairwise_cons.1 hs
    cases h1 : ltK x a n with
    | true =>
      have hi : isK (x :: L) a n = isK L a n := by unfold isK; rw [atK_lt h1, List.getElem?_cons_succ]
      have hk : keyIs x a n = false := by
        have := of_decide_eq_true h1
        simp [keyIs]; omega
      rw [hi, ← hasL_is hs'.2]
      unfold hasL; rw [List.any_cons, hk, Bool.false_or]
    | false =>
      have hi : isK (x :: L) a n = keyIs x a n := by unfold isK; rw [atK_ge h1]; rfl
      have h1' : ¬ (x.1 < a ∨ (x.1 = a ∧ x.2.1 < n)) := of_decide_eq_false h1
      rw [hi]
      unfold hasL; rw [List.any_cons]
      have : (L.any fun x => keyIs x a n) = false := by
        rw [List.any_eq_false]
        intro y hy
        have := hs'.1 y hy
        unfold ltR at this
        simp [keyIs]; omega
      rw [this, Bool.or_false]
theorem dropL_at : ∀ {L : List Rte} {a n : Nat}, SrtR L → isK L a n = true → dropL L a n = L.take (atK L a n) ++ L.drop (atK L a n + 1)
  | [], a, n, _, h => by simp [isK] at h
  | x :: L, a, n, hs, h => by
    have hs' := List.pairwise_cons.1 hs
    cases h1 : ltK x a n with
    | true =>
      have hi : isK (x :: L) a n = isK L a n := by unfold isK; rw [atK_lt h1, List.getElem?_cons_succ]
      have hk : keyIs x a n = false := by
        have := of_decide_eq_true h1
        simp [keyIs]; omega
      rw [hi] at h
      rw [atK_lt h1, List.take_succ_cons, List.drop_succ_cons, List.cons_append, ← dropL_at hs'.2 h]
      unfold dropL; rw [List.filter_cons, if_pos (by rw [hk]; rfl)]
    | false =>
      have hi : isK (x :: L) a n = keyIs x a n := by unfold isK; rw [atK_ge h1]; rfl
      have h1' : ¬ (x.1 < a ∨ (x.1 = a ∧ x.2.1 < n)) := of_decide_eq_false h1
      rw [hi] at h
      rw [atK_ge h1]
      unfold dropL
      rw [List.filter_cons, if_neg (by rw [h]; decide)]
      simp only [List.take_zero, List.nil_append, Nat.zero_add, List.drop_succ_cons, List.drop_zero]
      refine List.filter_eq_self.2 fun y hy => ?_
      have := hs'.1 y hy
      unfold ltR at this
      have h2 := keyIs_iff.1 h
      simp [keyIs]; omega

/-- An address lies in a prefix. -/
def inR (x : Rte) (a : Nat) : Prop := x.1 ≤ a ∧ a < x.1 + 2 ^ (16 - x.2.1)
instance (x : Rte) (a : Nat) : Decidable (inR x a) := by unfold inR; infer_instance
theorem inR_key {x : Rte} {a : Nat} (hk : lpOk x.1 x.2.1) : inR x a ↔ x.1 = a - a % 2 ^ (16 - x.2.1) := by
  obtain ⟨h1, h2, h3⟩ := hk
  unfold inR
  have hp : 0 < 2 ^ (16 - x.2.1) := Nat.pow_pos (by decide)
  generalize 2 ^ (16 - x.2.1) = p at *
  have e1 := Nat.div_add_mod x.1 p
  have e2 := Nat.div_add_mod a p
  have e3 := Nat.mod_lt a hp
  rw [h3] at e1
  constructor
  · rintro ⟨g1, g2⟩
    have : a / p = x.1 / p := by
      have k1 : x.1 / p ≤ a / p := Nat.div_le_div_right g1
      have k2 : a / p < x.1 / p + 1 := by
        rw [Nat.div_lt_iff_lt_mul hp, Nat.add_mul, Nat.one_mul, Nat.mul_comm]; omega
      omega
    rw [this] at e2; omega
  · intro e
    have k1 := Nat.mod_le a p
    omega
/-- The longest of the first ones in which an address lies. -/
def BestR (L : List Rte) (a k : Nat) : Option Nat → Prop
  | none => ∀ x ∈ L.take k, ¬ inR x a
  | some j => j < k ∧ ∃ x, L[j]? = some x ∧ inR x a ∧ ∀ y ∈ L.take k, inR y a → y.2.1 ≤ x.2.1
theorem findL_no {L : List Rte} {a : Nat} (hok : ∀ x ∈ L, lpOk x.1 x.2.1) (h : ∀ x ∈ L, ¬ inR x a) : ∀ i, findL L a i = none
  | 0 => rfl
  | i + 1 => by
    have : lookL L (a - a % 2 ^ (16 - i)) i = -1 := lookL_not fun x hx => by
      cases hk : keyIs x (a - a % 2 ^ (16 - i)) i with
      | false => rfl
      | true =>
        obtain ⟨e1, e2⟩ := keyIs_iff.1 hk
        exact absurd ((inR_key (hok x hx)).2 (by rw [e2]; exact e1)) (h x hx)
    rw [findL, this, if_neg (by decide), findL_no hok h i]
theorem findL_best {L : List Rte} {a : Nat} (hs : SrtR L) (hok : ∀ x ∈ L, lpOk x.1 x.2.1) {x : Rte} (hx : x ∈ L) (hi : inR x a) (hb : ∀ y ∈ L, inR y a → y.2.1 ≤ x.2.1) : ∀ m, findL L a (x.2.1 + 1 + m) = some (x.2.2, x.2.1)
  | 0 => by
    have e := (inR_key (hok x hx)).1 hi
    have h1 := lookL_of hs (a := x.1) (n := x.2.1) (h := x.2.2) hx
    rw [Nat.add_zero, findL, ← e, h1, if_pos (by omega)]; rfl
  | m + 1 => by
    have : lookL L (a - a % 2 ^ (16 - (x.2.1 + 1 + m))) (x.2.1 + 1 + m) = -1 := lookL_not fun y hy => by
      cases hk : keyIs y (a - a % 2 ^ (16 - (x.2.1 + 1 + m))) (x.2.1 + 1 + m) with
      | false => rfl
      | true =>
        obtain ⟨e1, e2⟩ := keyIs_iff.1 hk
        have := hb y hy ((inR_key (hok y hy)).2 (by rw [e2]; exact e1))
        omega
    rw [← Nat.add_assoc, findL, this, if_neg (by decide), findL_best hs hok hx hi hb m]
theorem findL_of {L : List Rte} {a : Nat} (hs : SrtR L) (hok : ∀ x ∈ L, lpOk x.1 x.2.1) {o : Option Nat} (h : BestR L a L.length o) : findL L a 17 = (o.bind fun j => L[j]?).map fun x => (x.2.2, x.2.1) := by
  cases o with
  | none =>
    unfold BestR at h
    rw [List.take_length] at h
    rw [findL_no hok h]; rfl
  | some j =>
    obtain ⟨-, x, hx, hi, hb⟩ := h
    rw [List.take_length] at hb
    have hm : x ∈ L := List.mem_iff_getElem?.2 ⟨j, hx⟩
    have h2 := (hok x hm).2.1
    have := findL_best hs hok hm hi hb (16 - x.2.1)
    rw [show x.2.1 + 1 + (16 - x.2.1) = 17 by omega] at this
    rw [this]; simp [hx]
theorem bestR_no {L : List Rte} {a k : Nat} {o : Option Nat} {x : Rte} (h : BestR L a k o) (hx : L[k]? = some x) (hi : ¬ inR x a) : BestR L a (k + 1) o := by
  have ht : ∀ y, y ∈ L.take (k + 1) → y ∈ L.take k ∨ y = x := fun y hy => by
    rw [List.take_add_one, hx] at hy
    simpa using hy
  cases o with
  | none => exact fun y hy => (ht y hy).elim (h y) fun e => by rw [e]; exact hi
  | some j =>
    obtain ⟨hj, z, hz, h1, h2⟩ := h
    exact ⟨by omega, z, hz, h1, fun y hy hy' => (ht y hy).elim (fun hm => h2 y hm hy') fun e => absurd (by rw [← e]; exact hy') hi⟩
theorem bestR_keep {L : List Rte} {a k j : Nat} {x z : Rte} (h : BestR L a k (some j)) (hz : L[j]? = some z) (hx : L[k]? = some x) (hl : x.2.1 ≤ z.2.1) : BestR L a (k + 1) (some j) := by
  obtain ⟨hj, z', hz', h1, h2⟩ := h
  rw [hz] at hz'; cases hz'
  refine ⟨by omega, z, hz, h1, fun y hy hy' => ?_⟩
  rw [List.take_add_one, hx] at hy
  rcases (by simpa using hy : y ∈ L.take k ∨ y = x) with h | rfl
  · exact h2 y h hy'
  · exact hl
theorem bestR_new {L : List Rte} {a k : Nat} {o : Option Nat} {x : Rte} (h : BestR L a k o) (hx : L[k]? = some x) (hi : inR x a) (hl : ∀ j z, o = some j → L[j]? = some z → z.2.1 ≤ x.2.1) : BestR L a (k + 1) (some k) := by
  refine ⟨by omega, x, hx, hi, fun y hy hy' => ?_⟩
  rw [List.take_add_one, hx] at hy
  rcases (by simpa using hy : y ∈ L.take k ∨ y = x) with hm | rfl
  · cases o with
    | none => exact absurd hy' (h y hm)
    | some j =>
      obtain ⟨-, z, hz, -, h2⟩ := h
      exact Nat.le_trans (h2 y hm hy') (hl j z rfl hz)
  · exact Nat.le_refl _
theorem bestR_zero (L : List Rte) (a : Nat) : BestR L a 0 none := fun x hx => by simp at hx
/-- What is wrong when a place is looked for. -/
theorem findR_of {L : List Rte} {a : Nat} (hs : SrtR L) (hok : ∀ x ∈ L, lpOk x.1 x.2.1) (ha : a ≤ 65535) {o : Option Nat} (h : BestR L a L.length o) : findR L a = match o.bind fun j => L[j]? with | some x => ((x.2.2 : Int), (x.2.1 : Int), 0) | none => (0, 0, 5) := by
  unfold findR
  rw [if_neg (by omega), Int.toNat_natCast, findL_of hs hok h]
  cases o.bind fun j => L[j]? <;> rfl
end Go.Proofs.YtbcfcjecobihnaaGreatDoor

end

section
/- ferryhytheref1.Routes.at. -/
namespace Go.Proofs.YtbcfcjecobihnaaGreatDoor
open Go.RowKit
set_option linter.unusedVariables false
set_option linter.unusedSimpArgs false
set_option maxRecDepth 100000

theorem ltK_iff {x : Rte} {a n : Nat} : ltK x a n = true ↔ (x.1 < a ∨ (x.1 = a ∧ x.2.1 < n)) := by simp [ltK]
theorem ltK_no {x : Rte} {a n : Nat} : ltK x a n = false ↔ ¬ (x.1 < a ∨ (x.1 = a ∧ x.2.1 < n)) := by simp only [ltK, decide_eq_false_iff_not]
set_option maxHeartbeats 2000000 in
theorem refAtR_any (B : Nat) (ao : Option Addr) (cap : Nat) (L : List Rte) (a n : Nat) (w : World) (h : RteSl B w ao L) (hB : B ≤ w.heap.size) (hl : L.length ≤ 1000) :
    Calls Tryz.prog 128 #[.agg #[.slice ao L.length cap], .agg #[.int .i64 (a : Int), .int .i64 (n : Int)]] w fun e w' => e = .returned (.tuple #[.int .i64 (atK L a n : Nat), .bool (isK L a n)]) ∧ Below w.heap.size w w' := by
  have hb := (Below.refl w.heap.size w).alloc (Nat.le_refl _) (.cells #[.slice ao L.length cap] 54) |>.alloc (by simp) (.cells #[.int .i64 (a : Int), .int .i64 (n : Int)] 38)
  have hx := ((Sep.nil w.heap.size w).blkNew (Nat.le_refl _) #[.slice ao L.length cap] 54).blkNew (by simp) #[.int .i64 (a : Int), .int .i64 (n : Int)] 38
  rw [show (w.alloc (.cells #[.slice ao L.length cap] 54)).heap.size = w.heap.size + 1 by simp] at hx
  obtain ⟨gp, hgp⟩ : ∃ gp, gp = w.heap.size + 1 := ⟨_, rfl⟩
  obtain ⟨gb, hgb⟩ : ∃ gb, gb = w.heap.size := ⟨_, rfl⟩
  obtain ⟨W, hW⟩ : ∃ W, W = (w.alloc (.cells #[.slice ao L.length cap] 54)).alloc (.cells #[.int .i64 (a : Int), .int .i64 (n : Int)] 38) := ⟨_, rfl⟩
  rw [← hW] at hb hx
  rw [← hgp, ← hgb] at hx
  have r0 := (Sep.blkAt (A := [_]) hx (j := 0) rfl).1
  have p0 := (Sep.blkAt (A := []) hx (j := 0) rfl).1
  have p1 := (Sep.blkAt (A := []) hx (j := 1) rfl).1
  have HS := Lib.hid (show RteSl B W ao L from RowSl.below h (hb.mono hB))
  have HB := Lib.hid hb
  have HW := Lib.hid hW
  have HGP := Lib.hid hgp
  have HG := Lib.hid hgb
  clear h hb hx hW hgp hgb
  go_enter Tryz.func128, Tryz.ntmps128
  go_wp2
  rw [← HW.out, ← HGP.out, ← HG.out]
  go_loopw [6] (fun x wr => ∃ k : Nat, k ≤ L.length ∧ x = .int .i64 k ∧ Hid (∀ j y, j < k → L[j]? = some y → ltK y a n = true) ∧ ∃ m, wr = W.drewN m) (fun x _ => L.length - (intOf x).toNat)
  case atStart => exact ⟨0, Nat.zero_le _, rfl, (fun j y hj => by omega), 0, rfl⟩
  case round =>
    obtain ⟨k, hk, rfl, HT, m, rfl⟩ := hrel
    by_cases hlt : k < L.length
    · obtain ⟨⟨x1, x2, x3⟩, hx⟩ : ∃ x, L[k]? = some x := ⟨_, List.getElem?_eq_getElem hlt⟩
      obtain ⟨b, o, rfl, -, d0, d1, d2⟩ := rteSl_at HS.out hx
      simp only at d0 d1 d2
      have hki : (k : Int) < (L.length : Int) := by omega
      have hk0 : (0 : Int) ≤ (k : Int) := by omega
      have HX := Lib.hid hx
      clear hx
      by_cases h1 : x1 < a
      · have h2 : True := trivial
        have h3 : True := trivial
        have e1 : decide ((x1 : Int) < (a : Int)) = true := by simp; omega
        have e1' : decide (x1 < a) = true := by simp; omega
        have hnext : ∀ j y, j < k + 1 → L[j]? = some y → ltK y a n = true := by
          intro j y hj hy
          rcases Nat.lt_succ_iff_lt_or_eq.1 hj with h | rfl
          · exact HT.out j y h hy
          · rw [HX.out] at hy
            cases hy
            exact ltK_iff.2 (by simp only; omega)
        have HN := Lib.hid hnext
        clear hnext h1 h2 h3
        go_wp2_with fail
        go_quiet (fail)
        go_wp2
        go_roundw
        case rel => exact ⟨k + 1, by omega, by go_num, HN.out, (by first | exact ⟨_, rfl⟩ | exact drewN_two W _ _)⟩
        case measure => simp [intOf]; omega
      · by_cases h2 : x1 = a
        · by_cases h3 : x2 < n
          · have e1 : decide ((x1 : Int) < (a : Int)) = false := by simp; omega
            have e1' : decide (x1 < a) = false := by simp; omega
            have e2 : ((x1 : Int) == (a : Int)) = true := by simp; omega
            have e2' : (x1 == a) = true := by simp; omega
            have e3 : decide ((x2 : Int) < (n : Int)) = true := by simp; omega
            have e3' : decide (x2 < n) = true := by simp; omega
            have hnext : ∀ j y, j < k + 1 → L[j]? = some y → ltK y a n = true := by
              intro j y hj hy
              rcases Nat.lt_succ_iff_lt_or_eq.1 hj with h | rfl
              · exact HT.out j y h hy
              · rw [HX.out] at hy
                cases hy
                exact ltK_iff.2 (by simp only; omega)
            have HN := Lib.hid hnext
            clear hnext h1 h2 h3
            go_wp2_with fail
            go_quiet (fail)
            go_wp2
            go_roundw
            case rel => exact ⟨k + 1, by omega, by go_num, HN.out, (by first | exact ⟨_, rfl⟩ | exact drewN_two W _ _)⟩
            case measure => simp [intOf]; omega
          · have e1 : decide ((x1 : Int) < (a : Int)) = false := by simp; omega
            have e1' : decide (x1 < a) = false := by simp; omega
            have e2 : ((x1 : Int) == (a : Int)) = true := by simp; omega
            have e2' : (x1 == a) = true := by simp; omega
            have e3 : decide ((x2 : Int) < (n : Int)) = false := by simp; omega
            have e3' : decide (x2 < n) = false := by simp; omega
            by_cases h4 : x2 = n
            · have hat : atK L a n = k := atK_is hk (fun j y hj hy => HT.out j y hj hy) (fun y hy => by
                rw [HX.out] at hy
                cases hy
                exact ltK_no.2 (by simp only; omega))
              have his : isK L a n = true := by
                unfold isK
                rw [hat, HX.out]
                simp [keyIs]; omega
              have f1 : ((x1 : Int) == (a : Int)) = true := by simp; omega
              have f1' : (x1 == a) = true := by simp; omega
              have f2 : ((x2 : Int) == (n : Int)) = true := by simp; omega
              have f2' : (x2 == n) = true := by simp; omega
              have HAT := Lib.hid hat
              have HIS := Lib.hid his
              clear hat his h1 h2 h3
              go_wp2_with fail
              go_quiet (fail)
              go_wp2_with fail
              go_quiet (fail)
              go_wp2
              go_ret2
              rw [HAT.out, HIS.out]
              exact ⟨rfl, HB.out.trans ((below_drewN _ _ _).trans ((below_drewN _ _ _).trans (below_drewN _ _ _)) |>.mono HB.out.size)⟩
            · have hat : atK L a n = k := atK_is hk (fun j y hj hy => HT.out j y hj hy) (fun y hy => by
                rw [HX.out] at hy
                cases hy
                exact ltK_no.2 (by simp only; omega))
              have his : isK L a n = false := by
                unfold isK
                rw [hat, HX.out]
                simp [keyIs]; omega
              have f1 : ((x1 : Int) == (a : Int)) = true := by simp; omega
              have f1' : (x1 == a) = true := by simp; omega
              have f2 : ((x2 : Int) == (n : Int)) = false := by simp; omega
              have f2' : (x2 == n) = false := by simp; omega
              have HAT := Lib.hid hat
              have HIS := Lib.hid his
              clear hat his h1 h2 h3
              go_wp2_with fail
              go_quiet (fail)
              go_wp2_with fail
              go_quiet (fail)
              go_wp2
              go_ret2
              rw [HAT.out, HIS.out]
              exact ⟨rfl, HB.out.trans ((below_drewN _ _ _).trans ((below_drewN _ _ _).trans (below_drewN _ _ _)) |>.mono HB.out.size)⟩
        · have h3 : True := trivial
          have e1 : decide ((x1 : Int) < (a : Int)) = false := by simp; omega
          have e1' : decide (x1 < a) = false := by simp; omega
          have e2 : ((x1 : Int) == (a : Int)) = false := by simp; omega
          have e2' : (x1 == a) = false := by simp; omega
          by_cases h4 : x2 = n
          · have hat : atK L a n = k := atK_is hk (fun j y hj hy => HT.out j y hj hy) (fun y hy => by
              rw [HX.out] at hy
              cases hy
              exact ltK_no.2 (by simp only; omega))
            have his : isK L a n = false := by
              unfold isK
              rw [hat, HX.out]
              simp [keyIs]; omega
            have f1 : ((x1 : Int) == (a : Int)) = false := by simp; omega
            have f1' : (x1 == a) = false := by simp; omega
            have f2 : ((x2 : Int) == (n : Int)) = true := by simp; omega
            have f2' : (x2 == n) = true := by simp; omega
            have HAT := Lib.hid hat
            have HIS := Lib.hid his
            clear hat his h1 h2 h3
            go_wp2_with fail
            go_quiet (fail)
            go_wp2_with fail
            go_quiet (fail)
            go_wp2
            go_ret2
            rw [HAT.out, HIS.out]
            exact ⟨rfl, HB.out.trans ((below_drewN _ _ _).trans ((below_drewN _ _ _).trans (below_drewN _ _ _)) |>.mono HB.out.size)⟩
          · have hat : atK L a n = k := atK_is hk (fun j y hj hy => HT.out j y hj hy) (fun y hy => by
              rw [HX.out] at hy
              cases hy
              exact ltK_no.2 (by simp only; omega))
            have his : isK L a n = false := by
              unfold isK
              rw [hat, HX.out]
              simp [keyIs]; omega
            have f1 : ((x1 : Int) == (a : Int)) = false := by simp; omega
            have f1' : (x1 == a) = false := by simp; omega
            have f2 : ((x2 : Int) == (n : Int)) = false := by simp; omega
            have f2' : (x2 == n) = false := by simp; omega
            have HAT := Lib.hid hat
            have HIS := Lib.hid his
            clear hat his h1 h2 h3
            go_wp2_with fail
            go_quiet (fail)
            go_wp2_with fail
            go_quiet (fail)
            go_wp2
            go_ret2
            rw [HAT.out, HIS.out]
            exact ⟨rfl, HB.out.trans ((below_drewN _ _ _).trans ((below_drewN _ _ _).trans (below_drewN _ _ _)) |>.mono HB.out.size)⟩
    · have hd : decide ((k : Int) < (L.length : Int)) = false := decide_eq_false (by omega)
      have hd2 : decide (k < L.length) = false := decide_eq_false hlt
      have hat : atK L a n = k := atK_is hk (fun j y hj hy => HT.out j y hj hy) (fun y hy => by rw [List.getElem?_eq_none (by omega)] at hy; cases hy)
      have his : isK L a n = false := by
        unfold isK
        rw [hat, List.getElem?_eq_none (by omega)]
      have HAT := Lib.hid hat
      have HIS := Lib.hid his
      clear hat his hlt
      go_wp2_with fail
      go_quiet (fail)
      go_wp2_with fail
      go_quiet (fail)
      go_wp2
      go_ret2
      rw [HAT.out, HIS.out]
      exact ⟨rfl, HB.out.trans ((below_drewN _ _ _).trans ((below_drewN _ _ _).trans (below_drewN _ _ _)) |>.mono HB.out.size)⟩
end Go.Proofs.YtbcfcjecobihnaaGreatDoor

end

section
/- ferryhytheref1.in: whether a number lies within bounds. -/
namespace Go.Proofs.YtbcfcjecobihnaaGreatDoor
open Go.RowKit

theorem inR_yes (a b c : Int) (w : World) (h1 : b ≤ a) (h2 : a ≤ c) : Calls Tryz.prog 110 #[.int .i64 a, .int .i64 b, .int .i64 c] w fun e w' => e = .returned (.bool true) ∧ w = w' := by
  go_enter Tryz.func110, Tryz.ntmps110
  go_wp2
  go_ret
  exact ⟨ret_bool (by simp), rfl⟩

theorem inR_no (a b c : Int) (w : World) (h : ¬ (b ≤ a ∧ a ≤ c)) : Calls Tryz.prog 110 #[.int .i64 a, .int .i64 b, .int .i64 c] w fun e w' => e = .returned (.bool false) ∧ w = w' := by
  by_cases h1 : b ≤ a
  · have h2 : c < a := by omega
    clear h
    go_enter Tryz.func110, Tryz.ntmps110
    go_wp2
    go_ret
    exact ⟨ret_bool (by simpa using h2), rfl⟩
  · clear h
    go_enter Tryz.func110, Tryz.ntmps110
    go_wp2
    go_ret
    exact ⟨rfl, rfl⟩
end Go.Proofs.YtbcfcjecobihnaaGreatDoor

end

section
/- ferryhytheref1.Power, Prefix, In. -/
namespace Go.Proofs.YtbcfcjecobihnaaGreatDoor
open Go.RowKit
set_option linter.unusedVariables false
set_option linter.unusedSimpArgs false
set_option maxRecDepth 100000

theorem pow_next (k : Nat) (hk : k < 16) : (2 ^ k : Nat) ≤ 32768 ∧ 2 * 2 ^ k = 2 ^ (k + 1) :=
  ⟨Nat.pow_le_pow_right (by decide) (by omega : k ≤ 15), by rw [Nat.pow_succ]; omega⟩
theorem refPow_any (n : Nat) (hn : n ≤ 16) (w : World) : Calls Tryz.prog 129 #[.int .i64 (n : Int)] w fun e w' => e = .returned (.int .i64 ((2 ^ n : Nat) : Int)) ∧ w = w' := by
  go_enter Tryz.func129, Tryz.ntmps129
  go_wp2
  go_loop [3, 4] (fun pv iv => ∃ (k p : Nat), k ≤ n ∧ iv = .int .i64 k ∧ pv = .int .i64 (p : Int) ∧ Hid (p = 2 ^ k)) (fun _ iv => n - (intOf iv).toNat)
  case atStart => exact ⟨0, 1, Nat.zero_le _, rfl, rfl, Lib.hid rfl⟩
  case round =>
    obtain ⟨k, p, hk, rfl, rfl, hp⟩ := hrel
    by_cases hlt : k < n
    · have hki : (k : Int) < (n : Int) := by omega
      obtain ⟨h1, h2⟩ := pow_next k (by omega)
      rw [← hp.out] at h1 h2
      obtain ⟨q, hq⟩ : ∃ q, q = 2 * p := ⟨_, rfl⟩
      have hqI : 2 * (p : Int) = (q : Int) := by omega
      have hqw : IntKind.i64.wrap (q : Int) = (q : Int) := by simp [IntKind.wrap, IntKind.bits, IntKind.signed]; omega
      have H2 := Lib.hid (hq.trans h2)
      clear h2 hq
      go_wp2
      go_round
      case rel => exact ⟨k + 1, q, by omega, by go_num, rfl, Lib.hid H2.out⟩
      case measure => simp [intOf]; omega
    · obtain rfl : k = n := by omega
      have hki : decide ((k : Int) < (k : Int)) = false := by simp
      go_wp2
      go_ret
      exact ⟨ret_int (congrArg _ hp.out), rfl⟩
set_option maxHeartbeats 1000000 in
theorem refPre_range (a n : Int) (w : World) (h : ¬ (0 ≤ a ∧ a ≤ 65535 ∧ 0 ≤ n ∧ n ≤ 16)) :
    Calls Tryz.prog 127 #[.agg #[.int .i64 a, .int .i64 n]] w fun e w' => e = .returned (.int .i64 1) ∧ Below w.heap.size w w' := by
  by_cases h1 : 0 ≤ a ∧ a ≤ 65535
  · have HN : Hid (¬ (0 ≤ n ∧ n ≤ 16)) := Lib.hid (fun h2 => h ⟨h1.1, h1.2, h2.1, h2.2⟩)
    obtain ⟨ha1, ha2⟩ := h1
    clear h
    obtain ⟨W, hW⟩ : ∃ W, W = w.alloc (.cells #[.int .i64 a, .int .i64 n] 38) := ⟨_, rfl⟩
    have hbW : Below w.heap.size w W := by rw [hW]; exact below_alloc w _
    have hp0 : W.cell? ⟨w.heap.size, 0, none⟩ = some (.int .i64 a) := by rw [hW, World.cell?_alloc_mark]; rfl
    have hp1 : W.cell? ⟨w.heap.size, 1, none⟩ = some (.int .i64 n) := by rw [hW, World.cell?_alloc_mark]; rfl
    obtain ⟨g, hg⟩ : ∃ g, g = w.heap.size := ⟨_, rfl⟩
    have HBW := Lib.hid hbW
    have HW := Lib.hid hW
    have HG := Lib.hid hg
    rw [← hg] at hp0 hp1
    clear hbW hW hg
    go_enter Tryz.func127, Tryz.ntmps127
    go_upto_region 1 with fail
    rw [← HW.out, ← HG.out]
    go_wp2_with fail
    refine (inR_yes _ _ _ _ ha1 ha2).mono ?_
    rintro e w' ⟨rfl, rfl⟩
    go_wp2_with fail
    refine (inR_no _ _ _ _ HN.out).mono ?_
    rintro e w' ⟨rfl, rfl⟩
    go_wp2
    go_ret
    exact ⟨rfl, HBW.out⟩
  · have HN := Lib.hid h1
    clear h h1
    obtain ⟨W, hW⟩ : ∃ W, W = w.alloc (.cells #[.int .i64 a, .int .i64 n] 38) := ⟨_, rfl⟩
    have hbW : Below w.heap.size w W := by rw [hW]; exact below_alloc w _
    have hp0 : W.cell? ⟨w.heap.size, 0, none⟩ = some (.int .i64 a) := by rw [hW, World.cell?_alloc_mark]; rfl
    have hp1 : W.cell? ⟨w.heap.size, 1, none⟩ = some (.int .i64 n) := by rw [hW, World.cell?_alloc_mark]; rfl
    obtain ⟨g, hg⟩ : ∃ g, g = w.heap.size := ⟨_, rfl⟩
    have HBW := Lib.hid hbW
    have HW := Lib.hid hW
    have HG := Lib.hid hg
    rw [← hg] at hp0 hp1
    clear hbW hW hg
    go_enter Tryz.func127, Tryz.ntmps127
    go_upto_region 1 with fail
    rw [← HW.out, ← HG.out]
    go_wp2_with fail
    refine (inR_no _ _ _ _ HN.out).mono ?_
    rintro e w' ⟨rfl, rfl⟩
    go_wp2
    go_ret
    exact ⟨rfl, HBW.out⟩
set_option maxHeartbeats 1000000 in
theorem refPre_in (a n : Nat) (w : World) (ha : a ≤ 65535) (hn : n ≤ 16) :
    Calls Tryz.prog 127 #[.agg #[.int .i64 a, .int .i64 n]] w fun e w' => e = .returned (.int .i64 (if ¬ a % 2 ^ (16 - n) = 0 then 3 else 0)) ∧ Below w.heap.size w w' := by
  have ha1 : (0 : Int) ≤ (a : Int) := by omega
  have ha2 : (a : Int) ≤ 65535 := by omega
  have hn1 : (0 : Int) ≤ (n : Int) := by omega
  have hn2 : (n : Int) ≤ 16 := by omega
  obtain ⟨m, hm⟩ : ∃ m, m = 2 ^ (16 - n) := ⟨_, rfl⟩
  have hm1 : m ≤ 65536 := by rw [hm]; exact pow16_le n
  have hm0 : 1 ≤ m := by rw [hm]; exact Nat.two_pow_pos _
  have hn16 : IntKind.i64.wrap (16 - (n : Int)) = ((16 - n : Nat) : Int) := by simp [IntKind.wrap, IntKind.bits, IntKind.signed]; omega
  have hn16' : (16 : Int) - (n : Int) = ((16 - n : Nat) : Int) := by omega
  have hn16'' : IntKind.i64.wrap ((16 - n : Nat) : Int) = ((16 - n : Nat) : Int) := by simp [IntKind.wrap, IntKind.bits, IntKind.signed]; omega
  have hpw : ∀ w1 : World, Calls Tryz.prog 129 #[.int .i64 ((16 - n : Nat) : Int)] w1 fun e w' => e = .returned (.int .i64 (m : Int)) ∧ w1 = w' := fun w1 => by rw [hm]; exact refPow_any _ (by omega) w1
  obtain ⟨n', hn'⟩ : ∃ n', n' = 16 - n := ⟨_, rfl⟩
  rw [← hn'] at hn16 hn16' hn16'' hpw
  have HPW := Lib.hid hpw
  clear hpw hn'
  rw [← hm]
  clear hm
  obtain ⟨r, hr⟩ : ∃ r, r = a % m := ⟨_, rfl⟩
  have hrI : (a : Int) % (m : Int) = (r : Int) := by rw [hr]; simp
  have hrT : (a : Int).tmod (m : Int) = (r : Int) := by rw [hr]; simp [Int.tmod_eq_emod_of_nonneg]
  have hr1 : r < m := by rw [hr]; exact Nat.mod_lt _ hm0
  rw [← hr]
  clear hr
  have hmI : ((m : Int) == 0) = false := by simp; omega
  have hmne : ¬ (m : Int) = 0 := by omega
  have hmn : ¬ m = 0 := by omega
  have hrw : IntKind.i64.wrap (r : Int) = (r : Int) := by simp [IntKind.wrap, IntKind.bits, IntKind.signed]; omega
  by_cases hr0 : r = 0
  · have hd : ((r : Int) != 0) = false := by simp [hr0]
    rw [if_neg (by simpa using hr0)]
    clear hr0
    obtain ⟨W, hW⟩ : ∃ W, W = w.alloc (.cells #[.int .i64 (a : Int), .int .i64 (n : Int)] 38) := ⟨_, rfl⟩
    have hbW : Below w.heap.size w W := by rw [hW]; exact below_alloc w _
    have hp0 : W.cell? ⟨w.heap.size, 0, none⟩ = some (.int .i64 (a : Int)) := by rw [hW, World.cell?_alloc_mark]; rfl
    have hp1 : W.cell? ⟨w.heap.size, 1, none⟩ = some (.int .i64 (n : Int)) := by rw [hW, World.cell?_alloc_mark]; rfl
    obtain ⟨g, hg⟩ : ∃ g, g = w.heap.size := ⟨_, rfl⟩
    have HBW := Lib.hid hbW
    have HW := Lib.hid hW
    have HG := Lib.hid hg
    rw [← hg] at hp0 hp1
    clear hbW hW hg
    go_enter Tryz.func127, Tryz.ntmps127
    go_upto_region 1 with fail
    rw [← HW.out, ← HG.out]
    go_wp2_with fail
    refine (inR_yes _ _ _ _ ha1 ha2).mono ?_
    rintro e w' ⟨rfl, rfl⟩
    go_wp2_with fail
    refine (inR_yes _ _ _ _ hn1 hn2).mono ?_
    rintro e w' ⟨rfl, rfl⟩
    go_upto_region 3 with fail
    go_quiet (first | (go_at_call 129; exact quiet_id (HPW.out _) ⟨_, rfl⟩))
    go_wp2
    go_ret
    exact ⟨rfl, HBW.out.trans ((below_drewN _ _ _).mono HBW.out.size)⟩
  · have hd : ((r : Int) != 0) = true := by simp [hr0]
    rw [if_pos hr0]
    clear hr0
    obtain ⟨W, hW⟩ : ∃ W, W = w.alloc (.cells #[.int .i64 (a : Int), .int .i64 (n : Int)] 38) := ⟨_, rfl⟩
    have hbW : Below w.heap.size w W := by rw [hW]; exact below_alloc w _
    have hp0 : W.cell? ⟨w.heap.size, 0, none⟩ = some (.int .i64 (a : Int)) := by rw [hW, World.cell?_alloc_mark]; rfl
    have hp1 : W.cell? ⟨w.heap.size, 1, none⟩ = some (.int .i64 (n : Int)) := by rw [hW, World.cell?_alloc_mark]; rfl
    obtain ⟨g, hg⟩ : ∃ g, g = w.heap.size := ⟨_, rfl⟩
    have HBW := Lib.hid hbW
    have HW := Lib.hid hW
    have HG := Lib.hid hg
    rw [← hg] at hp0 hp1
    clear hbW hW hg
    go_enter Tryz.func127, Tryz.ntmps127
    go_upto_region 1 with fail
    rw [← HW.out, ← HG.out]
    go_wp2_with fail
    refine (inR_yes _ _ _ _ ha1 ha2).mono ?_
    rintro e w' ⟨rfl, rfl⟩
    go_wp2_with fail
    refine (inR_yes _ _ _ _ hn1 hn2).mono ?_
    rintro e w' ⟨rfl, rfl⟩
    go_upto_region 3 with fail
    go_quiet (first | (go_at_call 129; exact quiet_id (HPW.out _) ⟨_, rfl⟩))
    go_wp2
    go_ret
    exact ⟨rfl, HBW.out.trans ((below_drewN _ _ _).mono HBW.out.size)⟩
theorem refPre_any (a n : Int) (w : World) :
    Calls Tryz.prog 127 #[.agg #[.int .i64 a, .int .i64 n]] w fun e w' => e = .returned (.int .i64 (chkP a n)) ∧ Below w.heap.size w w' := by
  unfold chkP
  by_cases h : 0 ≤ a ∧ a ≤ 65535 ∧ 0 ≤ n ∧ n ≤ 16
  · rw [if_neg (fun h' => h' h)]
    obtain ⟨x, rfl⟩ := Int.eq_ofNat_of_zero_le h.1
    obtain ⟨k, rfl⟩ := Int.eq_ofNat_of_zero_le h.2.2.1
    rw [Int.toNat_natCast, Int.toNat_natCast]
    exact refPre_in x k w (by omega) (by omega)
  · rw [if_pos h]; exact refPre_range a n w h
set_option maxHeartbeats 1000000 in
theorem refIn_any (x : Rte) (a : Nat) (w : World) (hk : lpOk x.1 x.2.1) (ha : a ≤ 65535) :
    Calls Tryz.prog 111 #[.agg #[.int .i64 x.1, .int .i64 x.2.1], .int .i64 a] w fun e w' => e = .returned (.bool (decide (x.1 ≤ a ∧ a < x.1 + 2 ^ (16 - x.2.1)))) ∧ Below w.heap.size w w' := by
  obtain ⟨x1, n, h⟩ := x
  obtain ⟨h1, hn, -⟩ := hk
  simp only at h1 hn ⊢
  obtain ⟨m, hm⟩ : ∃ m, m = 2 ^ (16 - n) := ⟨_, rfl⟩
  have hm1 : m ≤ 65536 := by rw [hm]; exact pow16_le n
  have hm0 : 1 ≤ m := by rw [hm]; exact Nat.two_pow_pos _
  have hn16 : IntKind.i64.wrap (16 - (n : Int)) = ((16 - n : Nat) : Int) := by simp [IntKind.wrap, IntKind.bits, IntKind.signed]; omega
  have hn16' : (16 : Int) - (n : Int) = ((16 - n : Nat) : Int) := by omega
  have hn16'' : IntKind.i64.wrap ((16 - n : Nat) : Int) = ((16 - n : Nat) : Int) := by simp [IntKind.wrap, IntKind.bits, IntKind.signed]; omega
  have hpw : ∀ w1 : World, Calls Tryz.prog 129 #[.int .i64 ((16 - n : Nat) : Int)] w1 fun e w' => e = .returned (.int .i64 (m : Int)) ∧ w1 = w' := fun w1 => by rw [hm]; exact refPow_any _ (by omega) w1
  obtain ⟨n', hn'⟩ : ∃ n', n' = 16 - n := ⟨_, rfl⟩
  rw [← hn'] at hn16 hn16' hn16'' hpw
  have HPW := Lib.hid hpw
  clear hpw hn'
  rw [← hm]
  clear hm
  obtain ⟨s, hs⟩ : ∃ s, s = x1 + m := ⟨_, rfl⟩
  rw [← hs]
  have hsI : (x1 : Int) + (m : Int) = (s : Int) := by omega
  have hsw : IntKind.i64.wrap (s : Int) = (s : Int) := by simp [IntKind.wrap, IntKind.bits, IntKind.signed]; omega
  clear hs
  obtain ⟨W, hW⟩ : ∃ W, W = w.alloc (.cells #[.int .i64 (x1 : Int), .int .i64 (n : Int)] 38) := ⟨_, rfl⟩
  have hbW : Below w.heap.size w W := by rw [hW]; exact below_alloc w _
  have hp0 : W.cell? ⟨w.heap.size, 0, none⟩ = some (.int .i64 (x1 : Int)) := by rw [hW, World.cell?_alloc_mark]; rfl
  have hp1 : W.cell? ⟨w.heap.size, 1, none⟩ = some (.int .i64 (n : Int)) := by rw [hW, World.cell?_alloc_mark]; rfl
  obtain ⟨g, hg⟩ : ∃ g, g = w.heap.size := ⟨_, rfl⟩
  have HBW := Lib.hid hbW
  have HW := Lib.hid hW
  have HG := Lib.hid hg
  rw [← hg] at hp0 hp1
  clear hbW hW hg
  by_cases g1 : x1 ≤ a
  · have e1 : decide ((x1 : Int) ≤ (a : Int)) = true := decide_eq_true (by omega)
    have e1' : decide (x1 ≤ a) = true := decide_eq_true g1
    by_cases g2 : a < s
    · have e2 : decide ((a : Int) < (s : Int)) = true := decide_eq_true (by omega)
      have e2' : decide (a < s) = true := decide_eq_true g2
      rw [show decide (x1 ≤ a ∧ a < s) = true from decide_eq_true ⟨g1, g2⟩]
      clear g1 g2
      go_enter Tryz.func111, Tryz.ntmps111
      go_upto_region 1 with fail
      rw [← HW.out, ← HG.out]
      go_quiet (first | (go_at_call 129; exact quiet_id (HPW.out _) ⟨_, rfl⟩))
      go_wp2
      go_ret
      exact ⟨rfl, HBW.out.trans ((below_drewN _ _ _).mono HBW.out.size)⟩
    · have e2 : decide ((a : Int) < (s : Int)) = false := decide_eq_false (by omega)
      have e2' : decide (a < s) = false := decide_eq_false g2
      rw [show decide (x1 ≤ a ∧ a < s) = false from decide_eq_false fun h => g2 h.2]
      clear g1 g2
      go_enter Tryz.func111, Tryz.ntmps111
      go_upto_region 1 with fail
      rw [← HW.out, ← HG.out]
      go_quiet (first | (go_at_call 129; exact quiet_id (HPW.out _) ⟨_, rfl⟩))
      go_wp2
      go_ret
      exact ⟨rfl, HBW.out.trans ((below_drewN _ _ _).mono HBW.out.size)⟩
  · have e1 : decide ((x1 : Int) ≤ (a : Int)) = false := decide_eq_false (by omega)
    have e1' : decide (x1 ≤ a) = false := decide_eq_false g1
    rw [show decide (x1 ≤ a ∧ a < s) = false from decide_eq_false fun h => g1 h.1]
    clear g1
    go_enter Tryz.func111, Tryz.ntmps111
    go_upto_region 1 with fail
    rw [← HW.out, ← HG.out]
    go_quiet (fail)
    go_wp2
    go_ret
    exact ⟨rfl, HBW.out.trans ((below_drewN _ _ _).mono HBW.out.size)⟩
end Go.Proofs.YtbcfcjecobihnaaGreatDoor

end
