/- ferryhytheref4.Nat: At, Port: by value, a row of ports and a row of places. -/
import Derived.Test.YtnmddgjgmdegoaaDoorNatAny
import Derived.Test.YtnmddgjgmdegoaaDoorNatLaws
import Derived.Test.YtnmddgjgmdegoaaDoorBehind
import Derived.Deep.LoopGhost
import Derived.Deep.DeepCutAuto
namespace Go.Proofs.YtnmddgjgmdegoaaDoor
open Go.RowKit Go.Maps
set_option linter.unusedVariables false
set_option maxRecDepth 100000

def plC (x : Int × Pl) : List Value := [.int .i64 x.2.1, .int .i64 x.2.2]
theorem plC_len (x : Int × Pl) : (plC x).length = 2 := rfl
theorem elemPl : ElemTy Tryd.prog 43 24 2 16 (.agg #[.int .i64 0, .int .i64 0]) := ⟨Tryd.underlying43, info_parts (by kernel_rfl), rfl, by decide⟩
/-- The two rows of the reference's table. -/
def rwE (sp sq : Value) (M : NatM) (F : List Ent) : List Ent := Ent.ints 3 sp (M.map (·.1)) :: Ent.row sq M.length 2 24 (M.flatMap plC) :: F
theorem rw_shape {B : Nat} {w : World} {sp sq : Value} {M : NatM} {F : List Ent} (h : Sep B w (rwE sp sq M F)) : (∃ ao cap, sp = .slice ao M.length cap) ∧ ∃ bo bap, sq = .slice bo M.length bap := by
  obtain ⟨a, c, h1, -⟩ := Sep.intsShape (A := []) h
  rw [List.length_map] at h1
  obtain ⟨_, b, d, h2, -⟩ := Sep.rowShape (A := [_]) h
  exact ⟨⟨a, c, h1⟩, b, d, h2⟩
theorem rw_at {B : Nat} {w : World} {ao bo : Option Addr} {ac bc : Nat} {M : NatM} {F : List Ent} (h : Sep B w (rwE (.slice ao M.length ac) (.slice bo M.length bc) M F)) {k : Nat} {x : Int × Pl} (hx : M[k]? = some x) :
    ∃ a o b q, ao = some ⟨a, o, none⟩ ∧ bo = some ⟨b, q, none⟩ ∧ w.cell? ⟨a, o + k, none⟩ = some (.int .i64 x.1) ∧ w.cell? ⟨b, q + k * 2, none⟩ = some (.int .i64 x.2.1) ∧ w.cell? ⟨b, q + k * 2 + 1, none⟩ = some (.int .i64 x.2.2) := by
  have hk : k < M.length := (List.getElem?_eq_some_iff.1 hx).1
  have h1 : Sep B w (Ent.ints 3 (.slice ao (M.map (·.1)).length ac) (M.map (·.1)) :: Ent.row (.slice bo M.length bc) M.length 2 24 (M.flatMap plC) :: F) := by rw [List.length_map]; exact h
  obtain ⟨a, o, rfl, c1, -⟩ := Sep.intsAt (A := []) h1 (j := k) (x := x.1) (by rw [List.getElem?_map, hx]; rfl)
  obtain ⟨b, q, rfl, _, hc, _⟩ := Sep.rowAt (A := [_]) h (by omega)
  refine ⟨a, o, b, q, rfl, rfl, c1, ?_, ?_⟩
  · rw [hc (k * 2) (by omega), show k * 2 = k * 2 + 0 from rfl, flat_get plC 2 plC_len (by omega) M k x hx]; rfl
  · rw [show q + k * 2 + 1 = q + (k * 2 + 1) by omega, hc (k * 2 + 1) (by omega), flat_get plC 2 plC_len (by omega) M k x hx]; rfl
/-- The place in the table of a port. -/
def atOf : NatM → Int → Option Nat
  | [], _ => none
  | x :: r, q => if x.1 = q then some 0 else (atOf r q).map (· + 1)
def idxN : Option Nat → Int
  | none => -1
  | some k => (k : Int)
theorem atOf_none {q : Int} : ∀ {M : NatM}, atOf M q = none ↔ placeOf M q = none
  | [] => by simp [atOf, placeOf]
  | x :: r => by
    unfold atOf
    by_cases h : x.1 = q
    · rw [if_pos h]; simp [placeOf, h]
    · rw [if_neg h, Option.map_eq_none_iff, atOf_none (M := r)]; simp [placeOf, h]
theorem atOf_some {q : Int} : ∀ {M : NatM} {k : Nat}, atOf M q = some k → ∃ p, M[k]? = some (q, p)
  | [], k, h => by cases h
  | x :: r, k, h => by
    unfold atOf at h
    by_cases hx : x.1 = q
    · rw [if_pos hx] at h; cases h
      exact ⟨x.2, by simp [← hx]⟩
    · rw [if_neg hx] at h
      obtain ⟨j, hj, rfl⟩ := Option.map_eq_some_iff.1 h
      obtain ⟨p, hp⟩ := atOf_some hj
      exact ⟨p, by simpa using hp⟩
theorem atOf_here {q : Int} : ∀ {M : NatM} {k : Nat} {x : Int × Pl}, atOf (M.take k) q = none → M[k]? = some x → x.1 = q → atOf M q = some k
  | [], k, x, _, hx, _ => by simp at hx
  | y :: r, 0, x, _, hx, he => by
    simp at hx; subst hx
    simp [atOf, he]
  | y :: r, k + 1, x, hn, hx, he => by
    simp only [List.take_succ_cons] at hn
    unfold atOf at hn ⊢
    by_cases hy : y.1 = q
    · rw [if_pos hy] at hn; cases hn
    · rw [if_neg hy] at hn ⊢
      rw [atOf_here (Option.map_eq_none_iff.1 hn) (by simpa using hx) he]; rfl
theorem atOf_next {q : Int} {M : NatM} {k : Nat} {x : Int × Pl} (hn : atOf (M.take k) q = none) (hx : M[k]? = some x) (he : ¬ x.1 = q) : atOf (M.take (k + 1)) q = none := by
  rw [atOf_none, placeOf_none] at hn ⊢
  intro y hy
  rw [List.take_add_one, hx] at hy
  rcases List.mem_append.1 hy with h | h
  · exact hn y h
  · simp at h; rw [h]; exact he
set_option maxHeartbeats 1000000 in
theorem refAt_any (B : Nat) (l m : Int) (sp sq : Value) (M : NatM) (F : List Ent) (q : Int) (w : World) (h : Sep B w (rwE sp sq M F)) (hl : M.length ≤ 1000) :
    Calls Tryd.prog 21 #[.agg #[.int .i64 l, .int .i64 m, sp, sq], .int .i64 q] w fun e w' => e = .returned (.int .i64 (idxN (atOf M q))) ∧ Below w.heap.size w w' := by
  obtain ⟨⟨ao, ac, rfl⟩, bo, bc, rfl⟩ := rw_shape h
  have hb := below_alloc w (.cells #[.int .i64 l, .int .i64 m, .slice ao M.length ac, .slice bo M.length bc] 45)
  have hs := h.kept hb
  obtain ⟨gb, hgb⟩ : ∃ gb, gb = w.heap.size := ⟨_, rfl⟩
  obtain ⟨w1, hw1⟩ : ∃ w1, w1 = w.alloc (.cells #[.int .i64 l, .int .i64 m, .slice ao M.length ac, .slice bo M.length bc] 45) := ⟨_, rfl⟩
  have c2 : w1.cell? ⟨gb, 2, none⟩ = some (.slice ao M.length ac) := by rw [hw1, hgb]; exact (World.cell?_alloc_mark ..).trans rfl
  rw [← hw1] at hs hb
  have HS := Lib.hid hs
  have HB := Lib.hid hb
  have HW := Lib.hid hw1
  have HG := Lib.hid hgb
  clear h hb hs hw1 hgb
  go_enter Tryd.func21, Tryd.ntmps21
  go_wp2
  rw [← HW.out, ← HG.out]
  go_loop [5] (fun x => ∃ k : Nat, k ≤ M.length ∧ x = .int .i64 k ∧ Hid (atOf (M.take k) q = none)) (fun x => M.length - (intOf x).toNat)
  case atStart => exact ⟨0, Nat.zero_le _, rfl, rfl⟩
  case round =>
    obtain ⟨k, hk, rfl, ht⟩ := hrel
    by_cases hlt : k < M.length
    · obtain ⟨x, hx⟩ : ∃ x, M[k]? = some x := ⟨_, List.getElem?_eq_getElem hlt⟩
      obtain ⟨a, o, b, q', rfl, rfl, d0, -, -⟩ := rw_at HS.out hx
      have hki : (k : Int) < (M.length : Int) := by omega
      have hk0 : (0 : Int) ≤ (k : Int) := by omega
      by_cases hxq : x.1 = q
      · have hq : (x.1 == q) = true := by simp [hxq]
        have hi : idxN (atOf M q) = (k : Int) := by rw [atOf_here ht.out hx hxq]; rfl
        have HI := Lib.hid hi
        clear hi hxq hx
        go_wp2
        go_ret
        exact ⟨ret_int HI.out.symm, HB.out⟩
      · have hq : (x.1 == q) = false := by simp [hxq]
        have HF := Lib.hid (atOf_next ht.out hx hxq)
        clear hxq hx
        go_wp2
        go_round
        case rel => exact ⟨k + 1, by omega, by go_num, HF.out⟩
        case measure => simp [intOf]; omega
    · obtain rfl : k = M.length := by omega
      have hf := ht.out
      rw [List.take_length] at hf
      have hi : idxN (atOf M q) = -1 := by rw [hf]; rfl
      have HI := Lib.hid hi
      clear hi hf
      go_wp2
      go_ret
      exact ⟨ret_int HI.out.symm, HB.out⟩
theorem portOf_here {p : Pl} : ∀ {M : NatM} {k : Nat} {x : Int × Pl}, portOf (M.take k) p = none → M[k]? = some x → x.2 = p → portOf M p = some x.1
  | [], k, x, _, hx, _ => by simp at hx
  | y :: r, 0, x, _, hx, he => by simp at hx; subst hx; simp [portOf, he]
  | y :: r, k + 1, x, hn, hx, he => by
    simp only [List.take_succ_cons] at hn
    have hy : ¬ y.2 = p := portOf_none.1 hn y (List.mem_cons_self ..)
    have hr : portOf (r.take k) p = none := portOf_none.2 fun z hz => portOf_none.1 hn z (List.mem_cons_of_mem _ hz)
    have := portOf_here hr (by simpa using hx) he
    unfold portOf at this ⊢
    rw [List.find?_cons_of_neg (by simp [hy])]
    exact this
theorem portOf_next {p : Pl} {M : NatM} {k : Nat} {x : Int × Pl} (hn : portOf (M.take k) p = none) (hx : M[k]? = some x) (he : ¬ x.2 = p) : portOf (M.take (k + 1)) p = none := by
  rw [portOf_none] at hn ⊢
  intro y hy
  rw [List.take_add_one, hx] at hy
  rcases List.mem_append.1 hy with h | h
  · exact hn y h
  · simp at h; rw [h]; exact he
set_option maxHeartbeats 2000000 in
theorem refPort_any (B : Nat) (l m : Int) (sp sq : Value) (M : NatM) (F : List Ent) (p : Pl) (w : World) (h : Sep B w (rwE sp sq M F)) (hl : M.length ≤ 1000) :
    Calls Tryd.prog 32 #[.agg #[.int .i64 l, .int .i64 m, sp, sq], .agg #[.int .i64 p.1, .int .i64 p.2]] w fun e w' => e = .returned (.int .i64 ((portOf M p).getD (-1))) ∧ Below w.heap.size w w' := by
  obtain ⟨⟨ao, ac, rfl⟩, bo, bc, rfl⟩ := rw_shape h
  have hb := (Below.refl w.heap.size w).alloc (Nat.le_refl _) (.cells #[.int .i64 l, .int .i64 m, .slice ao M.length ac, .slice bo M.length bc] 45) |>.alloc (by simp) (.cells #[.int .i64 p.1, .int .i64 p.2] 24)
  have hs := h.kept hb
  have hx := ((Sep.nil w.heap.size w).blkNew (Nat.le_refl _) #[.int .i64 l, .int .i64 m, .slice ao M.length ac, .slice bo M.length bc] 45).blkNew (by simp) #[.int .i64 p.1, .int .i64 p.2] 24
  rw [show (w.alloc (.cells #[.int .i64 l, .int .i64 m, .slice ao M.length ac, .slice bo M.length bc] 45)).heap.size = w.heap.size + 1 by simp] at hx
  obtain ⟨gp, hgp⟩ : ∃ gp, gp = w.heap.size + 1 := ⟨_, rfl⟩
  obtain ⟨gb, hgb⟩ : ∃ gb, gb = w.heap.size := ⟨_, rfl⟩
  obtain ⟨w1, hw1⟩ : ∃ w1, w1 = (w.alloc (.cells #[.int .i64 l, .int .i64 m, .slice ao M.length ac, .slice bo M.length bc] 45)).alloc (.cells #[.int .i64 p.1, .int .i64 p.2] 24) := ⟨_, rfl⟩
  rw [← hw1] at hs hb hx
  have HS := Lib.hid hs
  have HB := Lib.hid hb
  have HX : Hid (Sep gb w1 [Ent.blk1 gp 24 [.int .i64 p.1, .int .i64 p.2], Ent.blk1 gb 45 [.int .i64 l, .int .i64 m, .slice ao M.length ac, .slice bo M.length bc]]) := by rw [hgp, hgb]; exact hx
  have HW := Lib.hid hw1
  have HGP := Lib.hid hgp
  have HG := Lib.hid hgb
  clear h hb hs hx hw1 hgb hgp
  go_enter Tryd.func32, Tryd.ntmps32
  go_wp2
  rw [← HW.out, ← HGP.out, ← HG.out]
  go_loopw [5] (fun x wr => ∃ k : Nat, k ≤ M.length ∧ x = .int .i64 k ∧ Hid (portOf (M.take k) p = none) ∧ Sep B wr (rwE (.slice ao M.length ac) (.slice bo M.length bc) M F) ∧ Sep gb wr [Ent.blk1 gp 24 [.int .i64 p.1, .int .i64 p.2], Ent.blk1 gb 45 [.int .i64 l, .int .i64 m, .slice ao M.length ac, .slice bo M.length bc]] ∧ Below w.heap.size w wr) (fun x _ => M.length - (intOf x).toNat)
  case atStart => exact ⟨0, Nat.zero_le _, rfl, rfl, HS.out, HX.out, HB.out⟩
  case round =>
    obtain ⟨k, hk, rfl, ht, hs, hx, hb⟩ := hrel
    have HS2 := Lib.hid hs
    have HX2 := Lib.hid hx
    have HB2 := Lib.hid hb
    obtain ⟨w2, hw2⟩ : ∃ w2, w2 = wr := ⟨_, rfl⟩
    obtain rfl := hw2
    have b2 := (Sep.blkAt (A := [_]) hx (j := 2) rfl).1
    have b3 := (Sep.blkAt (A := [_]) hx (j := 3) rfl).1
    have p0 := (Sep.blkAt (A := []) hx (j := 0) rfl).1
    have p1 := (Sep.blkAt (A := []) hx (j := 1) rfl).1
    clear hs hx hb HS HX HB
    by_cases hlt : k < M.length
    · obtain ⟨x, hx⟩ : ∃ x, M[k]? = some x := ⟨_, List.getElem?_eq_getElem hlt⟩
      obtain ⟨a, o, b, q', rfl, rfl, d0, d1, d2⟩ := rw_at HS2.out hx
      obtain ⟨xq, xa, xb⟩ := x
      simp only at d0 d1 d2
      obtain ⟨pa, pb⟩ := p
      simp only at p0 p1
      have hki : (k : Int) < (M.length : Int) := by omega
      have hk0 : (0 : Int) ≤ (k : Int) := by omega
      by_cases h1 : xa = pa
      · by_cases h2 : xb = pb
        · have e1 : (xa == pa) = true := by simp [h1]
          have e2 : (xb == pb) = true := by simp [h2]
          have hi : (portOf M (pa, pb)).getD (-1) = xq := by rw [portOf_here ht.out hx (by rw [← h1, ← h2])]; rfl
          have HI := Lib.hid hi
          clear hi hx h1 h2
          go_wp2_with fail
          go_quiet (fail)
          have HB3 := Lib.hid (HB2.out.trans (below_drewN _ w2 nq))
          have hb2 : (w2.drewN nq).cell? ⟨gb, 2, none⟩ = some (.slice (some ⟨a, o, none⟩) M.length ac) := b2
          have hd0 : (w2.drewN nq).cell? ⟨a, o + k, none⟩ = some (.int .i64 xq) := d0
          clear b2 b3 p0 p1 d0 d1 d2 HS2 HX2 HB2
          generalize w2.drewN nq = w3 at *
          go_wp2
          go_ret
          exact ⟨ret_int HI.out.symm, HB3.out⟩
        · have e1 : (xa == pa) = true := by simp [h1]
          have e2 : (xb == pb) = false := by simp [h2]
          have HF := Lib.hid (portOf_next ht.out hx (by intro e; exact h2 (congrArg Prod.snd e)))
          clear hx h1 h2
          go_wp2_with fail
          go_quiet (fail)
          have HB3 := Lib.hid (HB2.out.trans (below_drewN _ w2 nq))
          have HS3 := Lib.hid (HS2.out.drewN nq)
          have HX3 := Lib.hid (HX2.out.drewN nq)
          clear b2 b3 p0 p1 d0 d1 d2 HS2 HX2 HB2
          generalize w2.drewN nq = w3 at *
          go_wp2
          go_roundw
          case rel => exact ⟨k + 1, by omega, by go_num, HF.out, HS3.out, HX3.out, HB3.out⟩
          case measure => simp [intOf]; omega
      · have e1 : (xa == pa) = false := by simp [h1]
        have HF := Lib.hid (portOf_next ht.out hx (by intro e; exact h1 (congrArg Prod.fst e)))
        clear hx h1
        go_wp2_with fail
        go_quiet (fail)
        have HB3 := Lib.hid (HB2.out.trans (below_drewN _ w2 nq))
        have HS3 := Lib.hid (HS2.out.drewN nq)
        have HX3 := Lib.hid (HX2.out.drewN nq)
        clear b2 b3 p0 p1 d0 d1 d2 HS2 HX2 HB2
        generalize w2.drewN nq = w3 at *
        go_wp2
        go_roundw
        case rel => exact ⟨k + 1, by omega, by go_num, HF.out, HS3.out, HX3.out, HB3.out⟩
        case measure => simp [intOf]; omega
    · obtain rfl : k = M.length := by omega
      have hf := ht.out
      rw [List.take_length] at hf
      have hi : (portOf M p).getD (-1) = -1 := by rw [hf]; rfl
      have HI := Lib.hid hi
      clear hi hf
      go_wp2
      go_ret
      exact ⟨ret_int HI.out.symm, HB2.out⟩
end Go.Proofs.YtnmddgjgmdegoaaDoor
