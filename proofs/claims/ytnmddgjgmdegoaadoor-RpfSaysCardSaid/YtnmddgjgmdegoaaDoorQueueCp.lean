/- core.Queue[rpf.copyOf]: Push and Pop. -/
import Derived.Test.YtnmddgjgmdegoaaDoorRow2
import Derived.Test.YtnmddgjgmdegoaaDoorLnkRow
import Derived.Test.YtnmddgjgmdegoaaDoorFloodPlain
import Derived.StillTailTactics
import Derived.Deep.RegionLaw
import Derived.Deep.DeepCutAuto
import Derived.Deep.RegionHeld3
namespace Go.Proofs.YtnmddgjgmdegoaaDoor
open Go.RowKit
set_option linter.unusedVariables false
set_option maxRecDepth 100000

def cpC (x : Nat × Nat) : List Value := [.int .i64 x.1, .int .i64 x.2]
theorem cpC_len (Q : List (Nat × Nat)) : (Q.flatMap cpC).length = Q.length * 2 := by
  induction Q with
  | nil => rfl
  | cons x Q ih => rw [List.flatMap_cons, List.length_append, ih, List.length_cons]; simp [cpC]; omega
def DeadV (v : Value) : Prop := ∃ ao, v = .slice ao 0 0
def Ent.naught (P : Prop) : Ent := ⟨none, fun _ => P⟩
theorem Sep.addNaught {B : Nat} {w : World} {L : List Ent} {P : Prop} (h : Sep B w L) (hp : P) : Sep B w (Ent.naught P :: L) := by
  refine ⟨fun F hF => ?_, List.pairwise_cons.2 ⟨fun F _ g hg => by simp [Ent.naught] at hg, h.2⟩⟩
  rcases List.mem_cons.1 hF with rfl | hF
  · exact ⟨hp, fun g hg => by simp [Ent.naught] at hg⟩
  · exact h.1 F hF
def deadB (v : Value) : Bool := match v with
  | .slice _ n c => n == 0 && c == 0
  | _ => false
theorem deadB_iff (v : Value) : deadB v = true ↔ DeadV v := by
  unfold DeadV
  constructor
  · intro h
    cases v <;> simp [deadB] at h
    exact ⟨_, by rw [h.1, h.2]⟩
  · rintro ⟨ao, rfl⟩; simp [deadB]
instance (v : Value) : Decidable (DeadV v) := decidable_of_iff (deadB v = true) (deadB_iff v)
/-- The queue's row; a slice without room owns nothing. -/
def cpE (v : Value) (Q : List (Nat × Nat)) : Ent := if DeadV v then Ent.naught (Q = []) else Ent.row v Q.length 2 88 (Q.flatMap cpC)
theorem cpE_dead {v : Value} (h : DeadV v) (Q : List (Nat × Nat)) : cpE v Q = Ent.naught (Q = []) := by unfold cpE; rw [if_pos h]
theorem cpE_row {v : Value} (h : ¬ DeadV v) (Q : List (Nat × Nat)) : cpE v Q = Ent.row v Q.length 2 88 (Q.flatMap cpC) := by unfold cpE; rw [if_neg h]
theorem elemCp : ElemTy Tryd.prog 82 88 2 16 (.agg #[.int .i64 0, .int .i64 0]) := ⟨Tryd.underlying82, info_parts (by kernel_rfl), rfl, by decide⟩

section
variable {B : Nat} {w : World} {A C : List Ent} {v : Value} {Q : List (Nat × Nat)}
theorem Sep.addAt {F : Ent} (h : Sep B w (F :: (A ++ C))) : Sep B w (A ++ F :: C) := h.perm List.perm_middle.symm
theorem cp_nil (h : Sep B w (A ++ C)) (ao : Option Addr) : Sep B w (A ++ cpE (.slice ao 0 0) [] :: C) := by
  rw [cpE_dead ⟨ao, rfl⟩]
  exact Sep.addAt (h.addNaught rfl)
theorem cp_shape (h : Sep B w (A ++ cpE v Q :: C)) : ∃ ao c, v = .slice ao Q.length c ∧ Q.length ≤ c := by
  by_cases hd : DeadV v
  · rw [cpE_dead hd] at h
    have hq : Q = [] := h.mem.1
    obtain ⟨ao, rfl⟩ := hd
    subst hq
    exact ⟨ao, 0, rfl, Nat.le_refl _⟩
  · rw [cpE_row hd] at h
    obtain ⟨-, ao, c, e, hc, -⟩ := Sep.rowShape h
    exact ⟨ao, c, e, hc⟩
theorem cp_app (h : Sep B w (A ++ cpE v Q :: C)) (hB : B ≤ w.heap.size) (x : Nat × Nat) (hl : Q.length ≤ 1000000) {X : Nat} (h0 : w.cell? ⟨X, 0, none⟩ = some (.int .i64 x.1)) (h1 : w.cell? ⟨X, 1, none⟩ = some (.int .i64 x.2)) :
    ∃ v' w', (Builtin.append_ #[82, 82] 82 #[v, .slice (some ⟨X, 0, none⟩) 1 1]).run Tryd.prog w = .ok v' w' ∧ Sep B w' (A ++ cpE v' (Q ++ [x]) :: C) ∧ Below B w w' := by
  have hnew : ∀ (j : Nat) (u : Value), (cpC x)[j]? = some u → w.cell? ((⟨X, 0, none⟩ : Addr).add j) = some u := fun j u hj => by
    match j, hj with
    | 0, hj => simp [cpC] at hj; subst hj; simpa [Addr.add] using h0
    | 1, hj => simp [cpC] at hj; subst hj; simpa [Addr.add] using h1
  have hone : ∀ u ∈ cpC x, u.oneCell' = true := fun u hu => by
    simp only [cpC, List.mem_cons, List.not_mem_nil, or_false] at hu
    rcases hu with rfl | rfl <;> rfl
  have fin : ∀ (v' : Value) (w' : World), Sep B w' (A ++ Ent.row v' (Q.length + 1) 2 88 (Q.flatMap cpC ++ cpC x) :: C) → Sep B w' (A ++ cpE v' (Q ++ [x]) :: C) := fun v' w' hs => by
    have hnd : ¬ DeadV v' := by
      rintro ⟨ao, rfl⟩
      obtain ⟨-, a2, c2, e, -⟩ := Sep.rowShape hs
      simp at e
    rw [cpE_row hnd, List.length_append, List.flatMap_append]
    simpa using hs
  by_cases hd : DeadV v
  · rw [cpE_dead hd] at h
    have hq : Q = [] := h.mem.1
    subst hq
    obtain ⟨ao, rfl⟩ := hd
    have h2 : Sep B w (A ++ Ent.row (.slice none 0 0) 0 2 88 [] :: C) := Sep.addAt ((h.sub (List.Sublist.append (List.Sublist.refl A) (List.sublist_cons_self _ C))).rowNil 2 88)
    obtain ⟨v', w', hr, hs, hb⟩ := run_append_sep elemCp 82 h2 hB ⟨X, 0, none⟩ 1 1 (cpC x) rfl hnew hone (by omega) (by omega) (by unfold maxLen; omega)
    refine ⟨v', w', ?_, fin v' w' hs, hb⟩
    rw [← hr]
    cases ao with
    | none => rfl
    | some b =>
      obtain ⟨ht, ⟨i, hi, hz, hsz, hby⟩, hzs, _⟩ := elemCp
      have hcl : (cpC x).length = 1 * i.size := by rw [hsz]; rfl
      have hnx := nextslicecap_zero (need := 1) (by omega)
      rw [run_append_nil (P := Tryd.prog) w _ _ _ i _ ht hi hz ⟨X, 0, none⟩ 1 1 (cpC x) hcl hnew (by omega) (by omega) (by rw [hby]; omega),
        run_append_grow (P := Tryd.prog) w _ _ _ i _ ht hi hz b 0 0 [] (by simp) (by simp) ⟨X, 0, none⟩ 1 1 (cpC x) hcl hnew (by omega) (by omega) (by rw [Nat.zero_add, hnx, hby]; omega)]
      simp
  · rw [cpE_row hd] at h
    obtain ⟨v', w', hr, hs, hb⟩ := run_append_sep elemCp 82 h hB ⟨X, 0, none⟩ 1 1 (cpC x) rfl hnew hone (by omega) (by omega) (by unfold maxLen; omega)
    exact ⟨v', w', hr, fin v' w' hs, hb⟩
theorem cp_first {x : Nat × Nat} (h : Sep B w (A ++ cpE v (x :: Q) :: C)) : ∃ g off c, v = .slice (some ⟨g, off, none⟩) (Q.length + 1) c ∧ Q.length + 1 ≤ c ∧ w.cell? ⟨g, off, none⟩ = some (.int .i64 x.1) ∧ w.cell? ⟨g, off + 1, none⟩ = some (.int .i64 x.2) ∧
    Sep B w (A ++ cpE (.slice (cutAddr (some ⟨g, off, none⟩) c 1 2) Q.length (c - 1)) Q :: C) := by
  have hd : ¬ DeadV v := fun hd => by
    rw [cpE_dead hd] at h
    have hq : x :: Q = [] := h.mem.1
    cases hq
  rw [cpE_row hd] at h
  obtain ⟨-, ao, c, rfl, hc, -⟩ := Sep.rowShape h
  obtain ⟨g, off, rfl, -, hcell, -⟩ := Sep.rowAt h (by simp)
  have c0 := hcell 0 (by simp)
  have c1 := hcell 1 (by simp; omega)
  simp only [List.length_cons] at hc
  refine ⟨g, off, c, rfl, hc, by simpa [cpC] using c0, by simpa [cpC] using c1, ?_⟩
  by_cases h1 : c = 1
  · subst h1
    have hq : Q = [] := List.eq_nil_of_length_eq_zero (by omega)
    subst hq
    exact cp_nil (h.sub (List.Sublist.append (List.Sublist.refl A) (List.sublist_cons_self _ C))) _
  · have e : cutAddr (some ⟨g, off, none⟩) c 1 2 = some ⟨g, off + 1 * 2, none⟩ := by
      unfold cutAddr; rw [if_neg h1]; simp [Addr.add]
    have h2 := Sep.rowCut h 1 Q.length (c - 1) (by simp; omega) (by omega)
    rw [cpE_row (by rintro ⟨a2, e2⟩; simp at e2; omega), e]
    exact h2
end
theorem run_cut2 (w : World) (ao : Option Addr) (len cap : Nat) (h1 : 1 ≤ len) : (Instr.sliceAt 82 (.slice ao len cap) (some (.int .i64 1)) none none).run Tryd.prog w = .ok (.slice (cutAddr ao cap 1 2) (len - 1) (cap - 1)) w := by
  obtain ⟨ht, ⟨i, hi, hz, hs, _⟩, hzs, hsz⟩ := elemCp
  have hk' : (0 : Int) ≤ (1 : Int) ∧ (1 : Int) ≤ (len : Int) := by omega
  simp [Instr.sliceAt, Instr.slice, run_underlying ht, Instr.sliceBounds, Instr.sliceBound, asIntOf, sizeOf, typeInfo, hi, cutAddr, hs]
  intro h; omega

abbrev quB (g : Nat) (v : Value) : Ent := Ent.blk1 g 84 [v]
/-- 'q.l = append(q.l, x)'. -/
theorem cp_push {B g : Nat} {v : Value} {Q : List (Nat × Nat)} {F : List Ent} {w1 : World} (x : Nat × Nat) (hl : Q.length ≤ 1000000) (hs1 : Sep B w1 (quB g v :: cpE v Q :: F)) (hg1 : B ≤ w1.heap.size) :
    ∃ v' w', (Builtin.append_ #[82, 82] 82 #[v, .slice (some ⟨w1.heap.size, 0, none⟩) 1 1]).run Tryd.prog (w1.alloc (.cells #[.int .i64 x.1, .int .i64 x.2] 88)).drew = .ok v' w' ∧
      w'.cell? ⟨g, 0, none⟩ = some v ∧ w'.frozen? ⟨g, 0, none⟩ = false ∧ Sep B (w'.setCell ⟨g, 0, none⟩ v') (quB g v' :: cpE v' (Q ++ [x]) :: F) ∧ Below B w1 (w'.setCell ⟨g, 0, none⟩ v') := by
  have hs2 := (hs1.alloc (.cells #[.int .i64 x.1, .int .i64 x.2] 88)).drew
  have hg2 : B ≤ (w1.alloc (.cells #[.int .i64 x.1, .int .i64 x.2] 88)).drew.heap.size := by show B ≤ (w1.alloc _).heap.size; simp; omega
  obtain ⟨v', w', hr, hs3, hb3⟩ := cp_app (A := [_]) (X := w1.heap.size) hs2 hg2 x hl (by show (w1.alloc _).cell? _ = _; rw [World.cell?_alloc_mark]; rfl) (by show (w1.alloc _).cell? _ = _; rw [World.cell?_alloc_mark]; rfl)
  obtain ⟨p0, p1⟩ := Sep.blkAt (A := []) hs3 (j := 0) rfl
  exact ⟨v', w', hr, p0, p1, Sep.blkSet (A := []) hs3 0 v', ((((Below.refl B w1).alloc hg1 _).drew).trans hb3).setCell (p := ⟨g, 0, none⟩) (Sep.blkLt (A := []) hs3).1 v'⟩
set_option maxHeartbeats 1000000 in
theorem cpush_any (B g : Nat) (v : Value) (Q : List (Nat × Nat)) (x : Nat × Nat) (F : List Ent) (w : World) (hl : Q.length ≤ 1000000) (hB : B ≤ w.heap.size) (hsep : Sep B w (quB g v :: cpE v Q :: F)) :
    Calls Tryd.prog 40 #[.pointer (some ⟨g, 0, none⟩), .agg #[.int .i64 x.1, .int .i64 x.2]] w fun e w' => e = .returned (.tuple #[]) ∧ (∃ v', Sep B w' (quB g v' :: cpE v' (Q ++ [x]) :: F)) ∧ Below B w w' := by
  obtain ⟨a0, c0, rfl, -⟩ := cp_shape (A := [_]) hsep
  have HS1 := Lib.hid (hsep.alloc (.cells #[.int .i64 x.1, .int .i64 x.2] 88))
  have HB1 := Lib.hid ((Below.refl B w).alloc hB (.cells #[.int .i64 x.1, .int .i64 x.2] 88))
  have HE0 := Lib.hid (show (w.alloc (.cells #[.int .i64 x.1, .int .i64 x.2] 88)).cell? ⟨w.heap.size, 0, none⟩ = some (.int .i64 x.1) by rw [World.cell?_alloc_mark]; rfl)
  have HE1 := Lib.hid (show (w.alloc (.cells #[.int .i64 x.1, .int .i64 x.2] 88)).cell? ⟨w.heap.size, 1, none⟩ = some (.int .i64 x.2) by rw [World.cell?_alloc_mark]; rfl)
  obtain ⟨W, hW⟩ : ∃ W, W = w.heap.size := ⟨_, rfl⟩
  have HW := Lib.hid hW
  clear hsep hW
  go_enter Tryd.func40, Tryd.ntmps40
  go_upto_region 1 with fail
  rw [← HW.out] at HE0 HE1
  rw [← HW.out]
  generalize w.alloc (.cells #[.int .i64 (x.1 : Int), .int .i64 (x.2 : Int)] 88) = w1 at *
  have hg1 : B ≤ w1.heap.size := Nat.le_trans hB HB1.out.size
  obtain ⟨v', w', hr, p0, p1, hset, hbs⟩ := cp_push x hl HS1.out hg1
  obtain ⟨a9, c9, hv9, -⟩ := cp_shape (A := [_]) hset
  obtain ⟨n9, hn9⟩ : ∃ n9, n9 = (Q ++ [x]).length := ⟨_, rfl⟩
  rw [← hn9] at hv9
  subst hv9
  clear hn9
  obtain ⟨q0, q1⟩ := Sep.blkAt (A := []) HS1.out (j := 0) rfl
  obtain ⟨b0, b1⟩ := Sep.blkAt (A := []) (HS1.out.alloc (.cells #[.int .i64 (x.1 : Int), .int .i64 (x.2 : Int)] 88)) (j := 0) rfl
  have e0 := HE0.out
  have e1 := HE1.out
  have HR := Lib.hid hr
  have HSET := Lib.hid hset
  have HBS := Lib.hid (HB1.out.trans hbs)
  clear hr hset hbs hg1
  go_region_law (refine step_append_run rfl (.tmp 8) (.tmp 10) 82 rfl (.slice a0 Q.length c0) (.slice (some ⟨w1.heap.size, 0, none⟩) 1 1) ?_ ?_ HR.out ?_; rfl; rfl)
  all_goals
    go_wp2
    go_end0
    exact ⟨rfl, ⟨_, HSET.out⟩, HBS.out⟩
set_option maxHeartbeats 1000000 in
theorem cpop_none (B g : Nat) (v : Value) (F : List Ent) (w : World) (hB : B ≤ w.heap.size) (hsep : Sep B w (quB g v :: cpE v [] :: F)) :
    Calls Tryd.prog 41 #[.pointer (some ⟨g, 0, none⟩)] w fun e w' => e = .returned (.tuple #[.agg #[.int .i64 0, .int .i64 0], .bool false]) ∧ Sep B w' (quB g v :: cpE v [] :: F) ∧ Below B w w' := by
  obtain ⟨a0, c0, rfl, -⟩ := cp_shape (A := [_]) hsep
  obtain ⟨q0, q1⟩ := Sep.blkAt (A := []) (hsep.alloc (.cells #[.int .i64 0, .int .i64 0] 88)) (j := 0) rfl
  simp only [List.length_nil] at q0
  have HS1 := Lib.hid (hsep.alloc (.cells #[.int .i64 0, .int .i64 0] 88))
  have HB1 := Lib.hid ((Below.refl B w).alloc hB (.cells #[.int .i64 0, .int .i64 0] 88))
  clear hsep
  go_enter Tryd.func41, Tryd.ntmps41
  go_wp2
  refine bodyPost_ret (v := .tuple #[.agg #[.int .i64 0, .int .i64 0], .bool false]) (by simp [results, Tryd.results41, go_sem]) rfl ⟨rfl, ?_, ?_⟩
  · exact HS1.out
  · exact HB1.out
set_option maxHeartbeats 1000000 in
theorem cpop_some (B g : Nat) (v : Value) (x : Nat × Nat) (Q : List (Nat × Nat)) (F : List Ent) (w : World) (hl : Q.length ≤ 1000000) (hB : B ≤ w.heap.size) (hsep : Sep B w (quB g v :: cpE v (x :: Q) :: F)) :
    Calls Tryd.prog 41 #[.pointer (some ⟨g, 0, none⟩)] w fun e w' => e = .returned (.tuple #[.agg #[.int .i64 x.1, .int .i64 x.2], .bool true]) ∧ (∃ v', Sep B w' (quB g v' :: cpE v' Q :: F)) ∧ Below B w w' := by
  obtain ⟨ga, oa, ca, rfl, hca, -, -, -⟩ := cp_first (A := [_]) hsep
  obtain ⟨W, hW⟩ : ∃ W, W = w.heap.size := ⟨_, rfl⟩
  have HS1 := Lib.hid (hsep.blkNew hB #[.int .i64 0, .int .i64 0] 88)
  have HB1 := Lib.hid ((Below.refl B w).alloc hB (.cells #[.int .i64 0, .int .i64 0] 88))
  rw [← hW] at HS1
  have HW := Lib.hid hW
  have hne : ((Q.length : Int) + 1 == 0) = false := by simp; omega
  have hne2 : (((Q.length + 1 : Nat) : Int) == 0) = false := by simp; omega
  clear hsep hW
  go_enter Tryd.func41, Tryd.ntmps41
  go_upto_region 1 with fail
  rw [← HW.out]
  generalize w.alloc (.cells #[.int .i64 0, .int .i64 0] 88) = w1 at *
  obtain ⟨r0, r1⟩ := Sep.blkAt (A := []) HS1.out (j := 0) rfl
  obtain ⟨r2, r3⟩ := Sep.blkAt (A := []) HS1.out (j := 1) rfl
  obtain ⟨q0, q1⟩ := Sep.blkAt (A := [_]) HS1.out (j := 0) rfl
  have hWg := Sep.apart (A := []) (C := []) HS1.out rfl rfl
  have hgW : ¬ g = W := fun e => hWg e.symm
  obtain ⟨ga', oa', ca', he, hca, c0, c1, hcut⟩ := cp_first (A := [_, _]) HS1.out
  simp only [Value.slice.injEq, Option.some.injEq, Addr.mk.injEq, and_true, true_and] at he
  obtain ⟨⟨rfl, rfl⟩, rfl⟩ := he
  have hrun := fun W : World => run_cut2 W (some ⟨ga, oa, none⟩) (Q.length + 1) ca (by omega)
  simp only [Nat.add_sub_cancel] at hrun
  obtain ⟨ka, hka⟩ : ∃ ka, ka = cutAddr (some ⟨ga, oa, none⟩) ca 1 2 := ⟨_, rfl⟩
  obtain ⟨kc, hkc⟩ : ∃ kc, kc = ca - 1 := ⟨_, rfl⟩
  rw [← hka, ← hkc] at hrun hcut
  clear hka hkc
  have s1 := Sep.blkSet (A := []) hcut 0 (.int .i64 x.1)
  have s2 := Sep.blkSet (A := []) s1 1 (.int .i64 x.2)
  have s3 := Sep.blkSet (A := [_]) s2 0 (.slice ka Q.length kc)
  have s4 := Sep.blkSet (A := []) s3 0 (.int .i64 x.1)
  have s5 := (Sep.blkSet (A := []) s4 1 (.int .i64 x.2)).drew
  obtain ⟨k0, -⟩ := Sep.blkAt (A := []) s5 (j := 0) rfl
  obtain ⟨k1, -⟩ := Sep.blkAt (A := []) s5 (j := 1) rfl
  have hBW := (Sep.blkLt (A := []) HS1.out).1
  have hBg := (Sep.blkLt (A := [_]) HS1.out).1
  have b5 := (((((HB1.out.setCell (p := ⟨W, 0, none⟩) hBW (.int .i64 x.1)).setCell (p := ⟨W, 1, none⟩) hBW (.int .i64 x.2)).setCell (p := ⟨g, 0, none⟩) hBg (.slice ka Q.length kc)).setCell (p := ⟨W, 0, none⟩) hBW (.int .i64 x.1)).setCell (p := ⟨W, 1, none⟩) hBW (.int .i64 x.2)).trans (below_drew B (((((w1.setCell ⟨W, 0, none⟩ (.int .i64 x.1)).setCell ⟨W, 1, none⟩ (.int .i64 x.2)).setCell ⟨g, 0, none⟩ (.slice ka Q.length kc)).setCell ⟨W, 0, none⟩ (.int .i64 x.1)).setCell ⟨W, 1, none⟩ (.int .i64 x.2)))
  have HS5 := Lib.hid s5
  have HB5 := Lib.hid b5
  have K0 := Lib.hid k0
  have K1 := Lib.hid k1
  clear s1 s2 s3 s4 s5 b5 k0 k1 hcut
  go_upto_region 3 with fail
  go_region
  all_goals
    go_wp2_with fail
    have k0 := K0.out
    have k1 := K1.out
    have hsub := HS5.out.sub (List.sublist_cons_self _ _)
    exact bodyPost_ret (v := .tuple #[.agg #[.int .i64 x.1, .int .i64 x.2], .bool true]) (by simp [results, Tryd.results41, go_sem, k0, k1]) rfl ⟨rfl, ⟨_, hsub⟩, HB5.out⟩
end Go.Proofs.YtnmddgjgmdegoaaDoor
