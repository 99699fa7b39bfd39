/- ferryhytheref4.Book.Line. -/
import Derived.Test.YtbcfcjecobihnaaGreatDoorRtNum
import Derived.Test.YtbcfcjecobihnaaGreatDoorPk7
import Derived.Test.YtbcfcjecobihnaaGreatDoorDskWords
import Derived.Deep.LoopGhost
namespace Go.Proofs.YtbcfcjecobihnaaGreatDoor
open Go.RowKit
set_option linter.unusedVariables false
set_option linter.unusedSimpArgs false
set_option maxRecDepth 100000

theorem last32 : ∀ (l : List UInt8), (∀ k : Nat, l[k]? ≠ some 32) ∨ ∃ x y, l = x ++ 32 :: y ∧ ∀ k : Nat, y[k]? ≠ some 32
  | [] => .inl (by simp)
  | c :: r => by
    rcases last32 r with h | ⟨x, y, rfl, h⟩
    · by_cases hc : c = 32
      · exact .inr ⟨[], r, by rw [hc]; rfl, h⟩
      · left
        intro k hk
        cases k with
        | zero => simp at hk; exact hc hk
        | succ k => exact h k (by simpa using hk)
    · exact .inr ⟨c :: x, y, rfl, h⟩
theorem lastSp_none {l : List UInt8} (h : ∀ k : Nat, l[k]? ≠ some 32) : lastSp l < 0 := by
  by_cases h1 : lastSp l < 0
  · exact h1
  · exfalso
    rcases Lib.lastIdx_spec ⟨l.toArray⟩ 32 (⟨l.toArray⟩ : ByteArray).size with ⟨h2, -⟩ | ⟨i, hi, h2, h3, -⟩
    · have h4 : lastSp l = -1 := h2
      omega
    · have hil : i < l.length := hi
      refine h i ?_
      rw [List.getElem?_eq_getElem hil]
      have h5 : ((l.toArray[i]!).toNat : Int) = 32 := h3
      have h6 : l.toArray[i]! = l[i] := by simp [hil]
      rw [h6] at h5
      exact congrArg some (UInt8.toNat_inj.1 (show l[i].toNat = (32 : UInt8).toNat by simpa using (by omega : l[i].toNat = 32)))
theorem bkLine_none {b : Bk} {l : List UInt8} (h : ∀ k : Nat, l[k]? ≠ some 32) : bkLine b l = (b, 2) := by
  unfold bkLine
  rw [if_pos (lastSp_none h)]
theorem bkLine_app {b : Bk} {x y : List UInt8} (h : ∀ k : Nat, y[k]? ≠ some 32) : bkLine b (x ++ 32 :: y) = if numOk y = false then (b, 2) else if ¬ numV y = (sumB x : Int) then (b, 6) else lineDo b (cutL 32 x) := by
  unfold bkLine
  rw [lastSp_app h, if_neg (by omega), Int.toNat_natCast, List.take_left, List.drop_append, List.drop_of_length_le (by omega), show x.length + 1 - x.length = 1 by omega]
  rfl
/-! ### The frame -/
abbrev liE (gr gb : Nat) (sp : Value) (s : ByteArray) (m : Int) (L : List Rte) (F : List Ent) : List Ent := rteE sp L :: bkE0 gr :: Ent.blk1 gb 56 (bkC sp s m) :: F
theorem liE_new {B : Nat} {w : World} {sp : Value} {s : ByteArray} {m : Int} {L : List Rte} {F : List Ent} (h : Sep B w (rteE sp L :: F)) (hB : B ≤ w.heap.size) :
    ∃ W, W = (w.alloc (.cells #[sp, .string s, .int .i64 m] 56)).alloc (.cells #[.slice none 0 0, .string ⟨#[]⟩, .int .i64 0] 56) ∧ Sep B W (liE (w.heap.size + 1) w.heap.size sp s m L F) ∧ Below B w W := by
  have h1 := h.blkNew hB #[sp, .string s, .int .i64 m] 56
  have h2 := h1.blkNew (by simp; omega) #[.slice none 0 0, .string ⟨#[]⟩, .int .i64 0] 56
  rw [show (w.alloc (.cells #[sp, .string s, .int .i64 m] 56)).heap.size = w.heap.size + 1 by simp] at h2
  exact ⟨_, rfl, h2.perm (List.perm_append_comm (l₁ := [_, _]) (l₂ := [_]) |>.append_right F), ((Below.refl B w).alloc hB _).alloc (by simp; omega) _⟩
theorem liE_cells {B gr gb : Nat} {sp : Value} {s : ByteArray} {m : Int} {L : List Rte} {F : List Ent} {w : World} (h : Sep B w (liE gr gb sp s m L F)) :
    (w.cell? ⟨gb, 0, none⟩ = some sp ∧ w.cell? ⟨gb, 1, none⟩ = some (.string s) ∧ w.cell? ⟨gb, 2, none⟩ = some (.int .i64 m)) ∧
    (w.cell? ⟨gr, 0, none⟩ = some (.slice none 0 0) ∧ w.cell? ⟨gr, 1, none⟩ = some (.string ⟨#[]⟩) ∧ w.cell? ⟨gr, 2, none⟩ = some (.int .i64 0)) ∧ (w.frozen? ⟨gr, 0, none⟩ = false ∧ w.frozen? ⟨gr, 1, none⟩ = false ∧ w.frozen? ⟨gr, 2, none⟩ = false) ∧ B ≤ w.heap.size :=
  ⟨⟨(Sep.blkAt (A := [_, _]) h (j := 0) rfl).1, (Sep.blkAt (A := [_, _]) h (j := 1) rfl).1, (Sep.blkAt (A := [_, _]) h (j := 2) rfl).1⟩,
    ⟨(Sep.blkAt (A := [_]) h (j := 0) rfl).1, (Sep.blkAt (A := [_]) h (j := 1) rfl).1, (Sep.blkAt (A := [_]) h (j := 2) rfl).1⟩, ⟨(Sep.blkAt (A := [_]) h (j := 0) rfl).2, (Sep.blkAt (A := [_]) h (j := 1) rfl).2, (Sep.blkAt (A := [_]) h (j := 2) rfl).2⟩, by have := Sep.blkLt (A := [_]) h; omega⟩
theorem liE_end {B gr gb : Nat} {sp : Value} {s : ByteArray} {m : Int} {L : List Rte} {F : List Ent} {w w0 : World} (u0 u1 u2 : Value) (h : Sep B w (liE gr gb sp s m L F)) (hb : Below B w0 w) :
    ∃ w', w' = ((w.setCell ⟨gr, 0, none⟩ u0).setCell ⟨gr, 1, none⟩ u1).setCell ⟨gr, 2, none⟩ u2 ∧ Sep B w' (rteE sp L :: F) ∧ Below B w0 w' ∧ w'.cell? ⟨gr, 0, none⟩ = some u0 ∧ w'.cell? ⟨gr, 1, none⟩ = some u1 ∧ w'.cell? ⟨gr, 2, none⟩ = some u2 := by
  have h1 := Sep.blkSet (A := [_]) h 0 u0
  have h2 := Sep.blkSet (A := [_]) h1 1 u1
  have h3 := Sep.blkSet (A := [_]) h2 2 u2
  have hl := (Sep.blkLt (A := [_]) h).1
  exact ⟨_, rfl, h3.sub (List.Sublist.cons_cons _ (List.Sublist.cons _ (List.Sublist.cons _ (List.Sublist.refl _)))), ((hb.setCell (p := ⟨gr, 0, none⟩) hl u0).setCell (p := ⟨gr, 1, none⟩) hl u1).setCell (p := ⟨gr, 2, none⟩) hl u2,
    (Sep.blkAt (A := [_]) h3 (j := 0) rfl).1, (Sep.blkAt (A := [_]) h3 (j := 1) rfl).1, (Sep.blkAt (A := [_]) h3 (j := 2) rfl).1⟩
set_option maxHeartbeats 2000000 in
theorem rbLine_none (B : Nat) (sp : Value) (s : ByteArray) (m : Nat) (L : List Rte) (F : List Ent) (l : List UInt8) (w : World) (h : Sep B w (rteE sp L :: F)) (hB : B ≤ w.heap.size) (hl : l.length ≤ 10000) (hno : ∀ k : Nat, l[k]? ≠ some 32) :
    Calls Tryz.prog 47 #[.agg #[sp, .string s, .int .i64 (m : Int)], .string (bytesOf l)] w fun e w' => e = .returned (.tuple #[.agg #[sp, .string s, .int .i64 (m : Int)], .int .i64 2]) ∧ Sep B w' (rteE sp L :: F) ∧ Below B w w' := by
  obtain ⟨t, ht⟩ : ∃ t, t = bytesOf l := ⟨_, rfl⟩
  obtain ⟨q, hq⟩ : ∃ q, q = l.length := ⟨_, rfl⟩
  have hsz : t.size = q := by rw [ht, hq]; rfl
  have HAT := Lib.hid (fun (j : Nat) (c : UInt8) (h : l[j]? = some c) => (show t[j]? = some c by rw [ht]; exact bytes_at h))
  have HNO := Lib.hid hno
  have HQ := Lib.hid hq
  rw [← ht]
  rw [← hq] at hl
  clear ht hq hno
  obtain ⟨W, hW, hs0, hb0⟩ := liE_new (s := s) (m := (m : Int)) h hB
  obtain ⟨⟨ao, cap, rfl, hcap⟩⟩ : Nonempty _ := ⟨rte_shape (A := []) h⟩
  obtain ⟨gr, hgr⟩ : ∃ x, x = w.heap.size + 1 := ⟨_, rfl⟩
  obtain ⟨gb, hgb⟩ : ∃ x, x = w.heap.size := ⟨_, rfl⟩
  rw [← hgr, ← hgb] at hs0
  have HS0 := Lib.hid hs0
  have HB0 := Lib.hid hb0
  have HW := Lib.hid hW
  have HGR := Lib.hid hgr
  have HGB := Lib.hid hgb
  clear h hs0 hb0 hW hgr hgb
  go_enter Tryz.func47, Tryz.ntmps47
  go_upto_region 1 with fail
  rw [← HW.out, ← HGR.out, ← HGB.out]
  clear HW HGR HGB
  go_wp2
  go_loopg [6] q (fun gk iv wr => ∃ (v : Int), v + 1 = (gk : Int) ∧ gk ≤ q ∧ iv = .int .i64 v ∧ Sep B wr (liE gr gb (.slice ao L.length cap) s (m : Int) L F) ∧ Below B w wr)
  case atStart => exact ⟨_, by omega, Nat.le_refl _, rfl, HS0.out, HB0.out⟩
  case round =>
    obtain ⟨gi, rfl⟩ : ∃ gi, gi = gk := ⟨_, rfl⟩
    obtain ⟨v, hv, hgq, rfl, hsp, hbel⟩ := hrel
    clear HS0 HB0
    have HS1 := Lib.hid hsp
    have HB1 := Lib.hid hbel
    obtain ⟨w1, hw1⟩ : ∃ w1, w1 = wr := ⟨_, rfl⟩
    obtain rfl := hw1
    clear hsp hbel
    rcases Nat.eq_zero_or_pos gi with h0 | h0
    · subst h0
      obtain rfl : v = -1 := by omega
      clear hv
      obtain ⟨wf, hwf, he1, he2, k0, k1, k2⟩ := liE_end (.slice ao L.length cap) (.string s) (.int .i64 (m : Int)) HS1.out HB1.out
      have HE1 := Lib.hid he1
      have HE2 := Lib.hid he2
      have HWF := Lib.hid hwf
      rw [hwf] at k0 k1 k2
      obtain ⟨⟨b0, b1, b2⟩, ⟨s0, s1, s2⟩, ⟨f0, f1, f2⟩, hgz⟩ := liE_cells HS1.out
      clear he1 he2 hwf
      go_wp2
      try simp only [Exit.inBlock, Exit.then]
      refine bodyPost_ret (v := .tuple #[.agg #[.slice ao L.length cap, .string s, .int .i64 (m : Int)], .int .i64 2]) (by simp [results, Tryz.results47, go_sem, k0, k1, k2]) rfl ?_
      rw [← HWF.out]
      exact ⟨rfl, HE1.out, HE2.out⟩
    · obtain ⟨j, rfl⟩ : ∃ j, gi = j + 1 := ⟨gi - 1, by omega⟩
      obtain rfl : v = (j : Int) := by omega
      obtain ⟨c, hc⟩ : ∃ c, l[j]? = some c := ⟨_, List.getElem?_eq_getElem (by rw [← HQ.out]; omega)⟩
      have hjs : j < t.size := by omega
      have hte := byte_at (HAT.out j c hc) hjs
      have hc32 : c ≠ 32 := fun h => HNO.out j (by rw [hc, h])
      have hcn : ((c.toNat : Int) != 32) = true := bne_iff_ne.2 (fun h => hc32 (UInt8.toNat_inj.1 (show c.toNat = (32 : UInt8).toNat by simpa using (by omega : c.toNat = 32))))
      have hj0 : (0 : Int) ≤ (j : Int) := by omega
      have hjq : (j : Int) < (q : Int) := by omega
      clear hv hc hc32 h0
      go_wp2
      go_roundg j
      case measure => omega
      case rel => exact ⟨_, by omega, by omega, rfl, HS1.out, HB1.out⟩
set_option maxHeartbeats 2000000 in
theorem rbLine_bad (B : Nat) (sp : Value) (s : ByteArray) (m : Nat) (L : List Rte) (F : List Ent) (x y : List UInt8) (w : World) (h : Sep B w (rteE sp L :: F)) (hB : B ≤ w.heap.size) (hl : (x ++ 32 :: y).length ≤ 10000) (hno : ∀ k : Nat, y[k]? ≠ some 32) (hok : numOk y = false) :
    Calls Tryz.prog 47 #[.agg #[sp, .string s, .int .i64 (m : Int)], .string (bytesOf (x ++ 32 :: y))] w fun e w' => e = .returned (.tuple #[.agg #[sp, .string s, .int .i64 (m : Int)], .int .i64 2]) ∧ Sep B w' (rteE sp L :: F) ∧ Below B w w' := by
  have HOK := Lib.hid hok
  clear hok
  obtain ⟨l, hlE⟩ : ∃ l, l = x ++ 32 :: y := ⟨_, rfl⟩
  rw [← hlE] at hl ⊢
  obtain ⟨p, hp⟩ : ∃ p, p = x.length := ⟨_, rfl⟩
  obtain ⟨n, hn⟩ : ∃ n, n = y.length := ⟨_, rfl⟩
  have hlen : l.length = p + n + 1 := by rw [hlE, hp, hn]; simp; omega
  have hat : ∀ j c, y[j]? = some c → l[p + 1 + j]? = some c := fun j c h => by
    rw [hlE, hp, List.getElem?_append_right (by omega), show x.length + 1 + j - x.length = j + 1 by omega, List.getElem?_cons_succ, h]
  have hsp32 : l[p]? = some 32 := by rw [hlE, hp, List.getElem?_append_right (Nat.le_refl _), Nat.sub_self]; rfl
  have hext1 : (bytesOf l).extract 0 p = bytesOf x := by rw [ext_take, hlE, hp, List.take_left]
  have hext2 : (bytesOf l).extract (p + 1) l.length = bytesOf y := by
    rw [ext_drop, hlE, hp, List.drop_append, List.drop_of_length_le (by omega), show x.length + 1 - x.length = 1 by omega]; rfl
  obtain ⟨t, ht⟩ : ∃ t, t = bytesOf l := ⟨_, rfl⟩
  have hbt : ∀ k c, l[k]? = some c → t[k]? = some c := fun k c h => by rw [ht]; exact bytes_at h
  obtain ⟨Z, hZ⟩ : ∃ Z, Z = l.length := ⟨_, rfl⟩
  have hsz : t.size = Z := by rw [ht, hZ]; rfl
  rw [← ht] at hext1 hext2 ⊢
  rw [← hZ] at hlen hext2 hl
  have HAT := Lib.hid (fun j c h => hbt _ _ (hat j c h))
  have H32 := Lib.hid (hbt _ _ hsp32)
  have HNO := Lib.hid hno
  have HNL := Lib.hid hn
  obtain ⟨k0, hk0⟩ : ∃ k0, k0 = p + n := ⟨_, rfl⟩
  have hk0I : (Z : Int) - 1 = (k0 : Int) := by omega
  have HK0 := Lib.hid (And.intro hk0 hlen)
  obtain ⟨p1, hp1⟩ : ∃ p1, p1 = p + 1 := ⟨_, rfl⟩
  rw [← hp1] at hext2
  have hp1I : (p : Int) + 1 = (p1 : Int) := by omega
  have HP1 := Lib.hid hp1
  have HPX := Lib.hid hp
  clear hno hlE hp hn hat hsp32 ht hbt hZ hk0 hlen hp1
  obtain ⟨W, hW, hs0, hb0⟩ := liE_new (s := s) (m := (m : Int)) h hB
  obtain ⟨⟨ao, cap, rfl, hcap⟩⟩ : Nonempty _ := ⟨rte_shape (A := []) h⟩
  obtain ⟨gr, hgr⟩ : ∃ x, x = w.heap.size + 1 := ⟨_, rfl⟩
  obtain ⟨gb, hgb⟩ : ∃ x, x = w.heap.size := ⟨_, rfl⟩
  rw [← hgr, ← hgb] at hs0
  have HS0 := Lib.hid hs0
  have HB0 := Lib.hid hb0
  have HW := Lib.hid hW
  have HGR := Lib.hid hgr
  have HGB := Lib.hid hgb
  clear h hs0 hb0 hW hgr hgb
  go_enter Tryz.func47, Tryz.ntmps47
  go_upto_region 1 with fail
  rw [← HW.out, ← HGR.out, ← HGB.out]
  clear HW HGR HGB
  go_wp2
  go_loopg [6] n (fun gk iv wr => ∃ (i : Nat), gk ≤ n ∧ i = p + gk ∧ iv = .int .i64 i ∧ Sep B wr (liE gr gb (.slice ao L.length cap) s (m : Int) L F) ∧ Below B w wr)
  case atStart => exact ⟨k0, Nat.le_refl _, HK0.out.1, rfl, HS0.out, HB0.out⟩
  case round =>
    obtain ⟨gi, rfl⟩ : ∃ gi, gi = gk := ⟨_, rfl⟩
    obtain ⟨i, hjn, hi, rfl, hsp, hbel⟩ := hrel
    clear HS0 HB0
    have HS1 := Lib.hid hsp
    have HB1 := Lib.hid hbel
    obtain ⟨w1, hw1⟩ : ∃ w1, w1 = wr := ⟨_, rfl⟩
    obtain rfl := hw1
    have hg1 : B ≤ w1.heap.size := Nat.le_trans hB hbel.size
    clear hsp hbel
    have hlk := HK0.out
    have hiZ : (i : Int) < (Z : Int) := by omega
    have hi0 : (0 : Int) ≤ (i : Int) := by omega
    have hi00 : decide ((0 : Int) ≤ (i : Int)) = true := decide_eq_true hi0
    have his : i < t.size := by omega
    by_cases hj : 0 < gi
    · obtain ⟨c, hc⟩ : ∃ c, y[gi - 1]? = some c := ⟨_, List.getElem?_eq_getElem (by rw [← HNL.out]; omega)⟩
      have hct0 := HAT.out _ _ hc
      rw [show p + 1 + (gi - 1) = i by omega] at hct0
      have hct := byte_at hct0 his
      have hc32 : c ≠ 32 := fun h => HNO.out (gi - 1) (by rw [hc, h])
      have hcn : ((c.toNat : Int) != 32) = true := bne_iff_ne.2 (fun h => hc32 (UInt8.toNat_inj.1 (show c.toNat = (32 : UInt8).toNat by simpa using (by omega : c.toNat = 32))))
      obtain ⟨i1, hi1⟩ : ∃ i1, i1 = i - 1 := ⟨_, rfl⟩
      have hii : (i : Int) - 1 = (i1 : Int) := by omega
      have HII := Lib.hid (show i1 = p + (gi - 1) by omega)
      clear hc hct0 hc32 hlk hi hi1
      go_wp2
      go_roundg (gi - 1)
      case measure => omega
      case rel => exact ⟨i1, by omega, HII.out, by go_num, HS1.out, HB1.out⟩
    · obtain rfl : gi = 0 := by omega
      obtain rfl : i = p := by omega
      have hct := byte_at H32.out his
      have hcn : (((32 : UInt8).toNat : Int) != 32) = false := by decide
      have hneg : decide ((i : Int) < 0) = false := decide_eq_false (by omega)
      have hp10 : (0 : Int) ≤ (p1 : Int) := by omega
      have hp1Z : (p1 : Int) ≤ (Z : Int) := by have := HP1.out; omega
      have hiZ2 : (i : Int) ≤ (Z : Int) := by omega
      have hiZn : i ≤ Z := by omega
      have hp1Zn : p1 ≤ Z := by have := HP1.out; omega
      have HNUM := Lib.hid (refNum_any y w1 (by rw [← HNL.out]; omega))
      clear hj hi hjn hlk HAT HNO
      go_wp2_with fail
      refine HNUM.out.mono ?_
      rintro e w' ⟨⟨nv, rfl, hnv⟩, hw⟩
      rw [← hw]
      clear hw HNUM
      rw [HOK.out]
      clear hnv
      obtain ⟨wf, hwf, he1, he2, k0, k1, k2⟩ := liE_end (.slice ao L.length cap) (.string s) (.int .i64 (m : Int)) HS1.out HB1.out
      have HE1 := Lib.hid he1
      have HE2 := Lib.hid he2
      have HWF := Lib.hid hwf
      rw [hwf] at k0 k1 k2
      obtain ⟨⟨b0, b1, b2⟩, ⟨s0, s1, s2⟩, ⟨f0, f1, f2⟩, hgz⟩ := liE_cells HS1.out
      clear he1 he2 hwf
      go_wp2
      try simp only [Exit.inBlock, Exit.then]
      refine bodyPost_ret (v := .tuple #[.agg #[.slice ao L.length cap, .string s, .int .i64 (m : Int)], .int .i64 2]) (by simp [results, Tryz.results47, go_sem, k0, k1, k2]) rfl ?_
      rw [← HWF.out]
      exact ⟨rfl, HE1.out, HE2.out⟩
set_option maxHeartbeats 2000000 in
theorem rbLine_sum (B : Nat) (sp : Value) (s : ByteArray) (m : Nat) (L : List Rte) (F : List Ent) (x y : List UInt8) (w : World) (h : Sep B w (rteE sp L :: F)) (hB : B ≤ w.heap.size) (hl : (x ++ 32 :: y).length ≤ 10000) (hno : ∀ k : Nat, y[k]? ≠ some 32) (hok : numOk y = true) (hne : ¬ numV y = (sumB x : Int)) :
    Calls Tryz.prog 47 #[.agg #[sp, .string s, .int .i64 (m : Int)], .string (bytesOf (x ++ 32 :: y))] w fun e w' => e = .returned (.tuple #[.agg #[sp, .string s, .int .i64 (m : Int)], .int .i64 6]) ∧ Sep B w' (rteE sp L :: F) ∧ Below B w w' := by
  have HOK := Lib.hid hok
  obtain ⟨N, hN⟩ : ∃ N, N = numV y := ⟨_, rfl⟩
  obtain ⟨S, hS⟩ : ∃ S, S = sumB x := ⟨_, rfl⟩
  rw [← hN, ← hS] at hne
  have hnb : (N != (S : Int)) = true := bne_iff_ne.2 hne
  have HNVE := Lib.hid hN
  have HSE := Lib.hid hS
  clear hok hN hS hne
  obtain ⟨l, hlE⟩ : ∃ l, l = x ++ 32 :: y := ⟨_, rfl⟩
  rw [← hlE] at hl ⊢
  obtain ⟨p, hp⟩ : ∃ p, p = x.length := ⟨_, rfl⟩
  obtain ⟨n, hn⟩ : ∃ n, n = y.length := ⟨_, rfl⟩
  have hlen : l.length = p + n + 1 := by rw [hlE, hp, hn]; simp; omega
  have hat : ∀ j c, y[j]? = some c → l[p + 1 + j]? = some c := fun j c h => by
    rw [hlE, hp, List.getElem?_append_right (by omega), show x.length + 1 + j - x.length = j + 1 by omega, List.getElem?_cons_succ, h]
  have hsp32 : l[p]? = some 32 := by rw [hlE, hp, List.getElem?_append_right (Nat.le_refl _), Nat.sub_self]; rfl
  have hext1 : (bytesOf l).extract 0 p = bytesOf x := by rw [ext_take, hlE, hp, List.take_left]
  have hext2 : (bytesOf l).extract (p + 1) l.length = bytesOf y := by
    rw [ext_drop, hlE, hp, List.drop_append, List.drop_of_length_le (by omega), show x.length + 1 - x.length = 1 by omega]; rfl
  obtain ⟨t, ht⟩ : ∃ t, t = bytesOf l := ⟨_, rfl⟩
  have hbt : ∀ k c, l[k]? = some c → t[k]? = some c := fun k c h => by rw [ht]; exact bytes_at h
  obtain ⟨Z, hZ⟩ : ∃ Z, Z = l.length := ⟨_, rfl⟩
  have hsz : t.size = Z := by rw [ht, hZ]; rfl
  rw [← ht] at hext1 hext2 ⊢
  rw [← hZ] at hlen hext2 hl
  have HAT := Lib.hid (fun j c h => hbt _ _ (hat j c h))
  have H32 := Lib.hid (hbt _ _ hsp32)
  have HNO := Lib.hid hno
  have HNL := Lib.hid hn
  obtain ⟨k0, hk0⟩ : ∃ k0, k0 = p + n := ⟨_, rfl⟩
  have hk0I : (Z : Int) - 1 = (k0 : Int) := by omega
  have HK0 := Lib.hid (And.intro hk0 hlen)
  obtain ⟨p1, hp1⟩ : ∃ p1, p1 = p + 1 := ⟨_, rfl⟩
  rw [← hp1] at hext2
  have hp1I : (p : Int) + 1 = (p1 : Int) := by omega
  have HP1 := Lib.hid hp1
  have HPX := Lib.hid hp
  clear hno hlE hp hn hat hsp32 ht hbt hZ hk0 hlen hp1
  obtain ⟨W, hW, hs0, hb0⟩ := liE_new (s := s) (m := (m : Int)) h hB
  obtain ⟨⟨ao, cap, rfl, hcap⟩⟩ : Nonempty _ := ⟨rte_shape (A := []) h⟩
  obtain ⟨gr, hgr⟩ : ∃ x, x = w.heap.size + 1 := ⟨_, rfl⟩
  obtain ⟨gb, hgb⟩ : ∃ x, x = w.heap.size := ⟨_, rfl⟩
  rw [← hgr, ← hgb] at hs0
  have HS0 := Lib.hid hs0
  have HB0 := Lib.hid hb0
  have HW := Lib.hid hW
  have HGR := Lib.hid hgr
  have HGB := Lib.hid hgb
  clear h hs0 hb0 hW hgr hgb
  go_enter Tryz.func47, Tryz.ntmps47
  go_upto_region 1 with fail
  rw [← HW.out, ← HGR.out, ← HGB.out]
  clear HW HGR HGB
  go_wp2
  go_loopg [6] n (fun gk iv wr => ∃ (i : Nat), gk ≤ n ∧ i = p + gk ∧ iv = .int .i64 i ∧ Sep B wr (liE gr gb (.slice ao L.length cap) s (m : Int) L F) ∧ Below B w wr)
  case atStart => exact ⟨k0, Nat.le_refl _, HK0.out.1, rfl, HS0.out, HB0.out⟩
  case round =>
    obtain ⟨gi, rfl⟩ : ∃ gi, gi = gk := ⟨_, rfl⟩
    obtain ⟨i, hjn, hi, rfl, hsp, hbel⟩ := hrel
    clear HS0 HB0
    have HS1 := Lib.hid hsp
    have HB1 := Lib.hid hbel
    obtain ⟨w1, hw1⟩ : ∃ w1, w1 = wr := ⟨_, rfl⟩
    obtain rfl := hw1
    have hg1 : B ≤ w1.heap.size := Nat.le_trans hB hbel.size
    clear hsp hbel
    have hlk := HK0.out
    have hiZ : (i : Int) < (Z : Int) := by omega
    have hi0 : (0 : Int) ≤ (i : Int) := by omega
    have hi00 : decide ((0 : Int) ≤ (i : Int)) = true := decide_eq_true hi0
    have his : i < t.size := by omega
    by_cases hj : 0 < gi
    · obtain ⟨c, hc⟩ : ∃ c, y[gi - 1]? = some c := ⟨_, List.getElem?_eq_getElem (by rw [← HNL.out]; omega)⟩
      have hct0 := HAT.out _ _ hc
      rw [show p + 1 + (gi - 1) = i by omega] at hct0
      have hct := byte_at hct0 his
      have hc32 : c ≠ 32 := fun h => HNO.out (gi - 1) (by rw [hc, h])
      have hcn : ((c.toNat : Int) != 32) = true := bne_iff_ne.2 (fun h => hc32 (UInt8.toNat_inj.1 (show c.toNat = (32 : UInt8).toNat by simpa using (by omega : c.toNat = 32))))
      obtain ⟨i1, hi1⟩ : ∃ i1, i1 = i - 1 := ⟨_, rfl⟩
      have hii : (i : Int) - 1 = (i1 : Int) := by omega
      have HII := Lib.hid (show i1 = p + (gi - 1) by omega)
      clear hc hct0 hc32 hlk hi hi1
      go_wp2
      go_roundg (gi - 1)
      case measure => omega
      case rel => exact ⟨i1, by omega, HII.out, by go_num, HS1.out, HB1.out⟩
    · obtain rfl : gi = 0 := by omega
      obtain rfl : i = p := by omega
      have hct := byte_at H32.out his
      have hcn : (((32 : UInt8).toNat : Int) != 32) = false := by decide
      have hneg : decide ((i : Int) < 0) = false := decide_eq_false (by omega)
      have hp10 : (0 : Int) ≤ (p1 : Int) := by omega
      have hp1Z : (p1 : Int) ≤ (Z : Int) := by have := HP1.out; omega
      have hiZ2 : (i : Int) ≤ (Z : Int) := by omega
      have hiZn : i ≤ Z := by omega
      have hp1Zn : p1 ≤ Z := by have := HP1.out; omega
      have HNUM := Lib.hid (refNum_any y w1 (by rw [← HNL.out]; omega))
      clear hj hi hjn hlk HAT HNO
      go_wp2_with fail
      refine HNUM.out.mono ?_
      rintro e w' ⟨⟨nv, rfl, hnv⟩, hw⟩
      rw [← hw]
      clear hw HNUM
      rw [HOK.out]
      have hnv2 := hnv HOK.out
      rw [← HNVE.out] at hnv2
      subst hnv2
      have HSUM := Lib.hid (refSum_any (bytesOf x) w1 (by show x.length ≤ 10000; rw [← HPX.out]; omega))
      have hsx : (bytesOf x).data.toList = x := by simp [bytesOf]
      rw [hsx, ← HSE.out] at HSUM
      clear hnv hsx
      go_wp2_with fail
      refine HSUM.out.mono ?_
      rintro e w' ⟨rfl, hw⟩
      rw [← hw]
      clear hw HSUM
      obtain ⟨wf, hwf, he1, he2, k0, k1, k2⟩ := liE_end (.slice ao L.length cap) (.string s) (.int .i64 (m : Int)) HS1.out HB1.out
      have HE1 := Lib.hid he1
      have HE2 := Lib.hid he2
      have HWF := Lib.hid hwf
      rw [hwf] at k0 k1 k2
      obtain ⟨⟨b0, b1, b2⟩, ⟨s0, s1, s2⟩, ⟨f0, f1, f2⟩, hgz⟩ := liE_cells HS1.out
      clear he1 he2 hwf
      go_wp2
      try simp only [Exit.inBlock, Exit.then]
      refine bodyPost_ret (v := .tuple #[.agg #[.slice ao L.length cap, .string s, .int .i64 (m : Int)], .int .i64 6]) (by simp [results, Tryz.results47, go_sem, k0, k1, k2]) rfl ?_
      rw [← HWF.out]
      exact ⟨rfl, HE1.out, HE2.out⟩
def LnEnd (B : Nat) (F : List Ent) (w : World) (r : Bk × Int) (e : Ending) (w' : World) : Prop :=
  ∃ sp', e = .returned (.tuple #[.agg #[sp', .string (bkT r.1.2.1), .int .i64 (r.1.2.2 : Int)], .int .i64 r.2]) ∧ Sep B w' (rteE sp' r.1.1 :: F) ∧ Below B w w'
set_option maxHeartbeats 8000000 in
theorem rbLine_go (B : Nat) (sp : Value) (s : ByteArray) (tx : List UInt8) (m : Nat) (L : List Rte) (F : List Ent) (x y : List UInt8) (w : World) (h : Sep B w (rteE sp L :: F)) (hB : B ≤ w.heap.size) (hl : (x ++ 32 :: y).length ≤ 10000) (hno : ∀ k : Nat, y[k]? ≠ some 32) (hok : numOk y = true) (heq : numV y = (sumB x : Int))
    (hss : s = bkT tx) (hl32 : L.length ≤ 32) (hsrt : SrtR L) (hbk : BkOk (L, tx, m)) :
    Calls Tryz.prog 47 #[.agg #[sp, .string s, .int .i64 (m : Int)], .string (bytesOf (x ++ 32 :: y))] w fun e w' => LnEnd B F w (lineDo (L, tx, m) (cutL 32 x)) e w' := by
  have HOK := Lib.hid hok
  obtain ⟨S, hS⟩ : ∃ S, S = sumB x := ⟨_, rfl⟩
  rw [← hS] at heq
  have hnb : ((S : Int) != (S : Int)) = false := by simp
  have HNVE := Lib.hid heq.symm
  have HSE := Lib.hid hS
  have HSS := Lib.hid hss
  have HARG := Lib.hid (And.intro hl32 (And.intro hsrt hbk))
  have hcl := cutL_len 32 x
  have hcn := cutL_cnt 32 x
  have hxl : x.length ≤ 10000 := by rw [List.length_append] at hl; omega
  obtain ⟨w0, wt, hws⟩ : ∃ w0 wt, cutL 32 x = w0 :: wt := by
    cases hc : cutL 32 x with
    | nil => exact absurd hc (cutL_ne _ _)
    | cons a r => exact ⟨a, r, rfl⟩
  rw [hws] at hcl hcn ⊢
  have HWS := Lib.hid hws
  have hcl2 : ∀ z ∈ wt, z.length ≤ 10000 := fun z hz => Nat.le_trans (hcl z (List.mem_cons_of_mem _ hz)) hxl
  obtain ⟨q, hq⟩ : ∃ q, q = wt.length := ⟨_, rfl⟩
  obtain ⟨n1, hn1⟩ : ∃ n1, n1 = (w0 :: wt).length := ⟨_, rfl⟩
  have hnq : n1 = q + 1 := by rw [hn1, hq]; rfl
  have hq1 : q ≤ 10001 := by simp only [List.length_cons] at hcn; omega
  have HCL := Lib.hid hcl2
  have HQ := Lib.hid hq
  have HN1 := Lib.hid hn1
  have HNQ := Lib.hid hnq
  clear hok hS heq hss hl32 hsrt hbk hcl hcn hxl hws hcl2 hq hn1 hnq
  obtain ⟨l, hlE⟩ : ∃ l, l = x ++ 32 :: y := ⟨_, rfl⟩
  rw [← hlE] at hl ⊢
  obtain ⟨p, hp⟩ : ∃ p, p = x.length := ⟨_, rfl⟩
  obtain ⟨n, hn⟩ : ∃ n, n = y.length := ⟨_, rfl⟩
  have hlen : l.length = p + n + 1 := by rw [hlE, hp, hn]; simp; omega
  have hat : ∀ j c, y[j]? = some c → l[p + 1 + j]? = some c := fun j c h => by
    rw [hlE, hp, List.getElem?_append_right (by omega), show x.length + 1 + j - x.length = j + 1 by omega, List.getElem?_cons_succ, h]
  have hsp32 : l[p]? = some 32 := by rw [hlE, hp, List.getElem?_append_right (Nat.le_refl _), Nat.sub_self]; rfl
  have hext1 : (bytesOf l).extract 0 p = bytesOf x := by rw [ext_take, hlE, hp, List.take_left]
  have hext2 : (bytesOf l).extract (p + 1) l.length = bytesOf y := by
    rw [ext_drop, hlE, hp, List.drop_append, List.drop_of_length_le (by omega), show x.length + 1 - x.length = 1 by omega]; rfl
  obtain ⟨t, ht⟩ : ∃ t, t = bytesOf l := ⟨_, rfl⟩
  have hbt : ∀ k c, l[k]? = some c → t[k]? = some c := fun k c h => by rw [ht]; exact bytes_at h
  obtain ⟨Z, hZ⟩ : ∃ Z, Z = l.length := ⟨_, rfl⟩
  have hsz : t.size = Z := by rw [ht, hZ]; rfl
  rw [← ht] at hext1 hext2 ⊢
  rw [← hZ] at hlen hext2 hl
  have HAT := Lib.hid (fun j c h => hbt _ _ (hat j c h))
  have H32 := Lib.hid (hbt _ _ hsp32)
  have HNO := Lib.hid hno
  have HNL := Lib.hid hn
  obtain ⟨k0, hk0⟩ : ∃ k0, k0 = p + n := ⟨_, rfl⟩
  have hk0I : (Z : Int) - 1 = (k0 : Int) := by omega
  have HK0 := Lib.hid (And.intro hk0 hlen)
  obtain ⟨p1, hp1⟩ : ∃ p1, p1 = p + 1 := ⟨_, rfl⟩
  rw [← hp1] at hext2
  have hp1I : (p : Int) + 1 = (p1 : Int) := by omega
  have HP1 := Lib.hid hp1
  have HPX := Lib.hid hp
  clear hno hlE hp hn hat hsp32 ht hbt hZ hk0 hlen hp1
  obtain ⟨W, hW, hs0, hb0⟩ := liE_new (s := s) (m := (m : Int)) h hB
  obtain ⟨⟨ao, cap, rfl, hcap⟩⟩ : Nonempty _ := ⟨rte_shape (A := []) h⟩
  obtain ⟨gr, hgr⟩ : ∃ x, x = w.heap.size + 1 := ⟨_, rfl⟩
  obtain ⟨gb, hgb⟩ : ∃ x, x = w.heap.size := ⟨_, rfl⟩
  rw [← hgr, ← hgb] at hs0
  have HS0 := Lib.hid hs0
  have HB0 := Lib.hid hb0
  have HW := Lib.hid hW
  have HGR := Lib.hid hgr
  have HGB := Lib.hid hgb
  clear h hs0 hb0 hW hgr hgb
  go_enter Tryz.func47, Tryz.ntmps47
  go_upto_region 1 with fail
  rw [← HW.out, ← HGR.out, ← HGB.out]
  clear HW HGR HGB
  go_wp2
  go_loopg [6] n (fun gk iv wr => ∃ (i : Nat), gk ≤ n ∧ i = p + gk ∧ iv = .int .i64 i ∧ Sep B wr (liE gr gb (.slice ao L.length cap) s (m : Int) L F) ∧ Below B w wr)
  case atStart => exact ⟨k0, Nat.le_refl _, HK0.out.1, rfl, HS0.out, HB0.out⟩
  case round =>
    obtain ⟨gi, rfl⟩ : ∃ gi, gi = gk := ⟨_, rfl⟩
    obtain ⟨i, hjn, hi, rfl, hsp, hbel⟩ := hrel
    clear HS0 HB0
    have HS1 := Lib.hid hsp
    have HB1 := Lib.hid hbel
    obtain ⟨w1, hw1⟩ : ∃ w1, w1 = wr := ⟨_, rfl⟩
    obtain rfl := hw1
    have hg1 : B ≤ w1.heap.size := Nat.le_trans hB hbel.size
    clear hsp hbel
    have hlk := HK0.out
    have hiZ : (i : Int) < (Z : Int) := by omega
    have hi0 : (0 : Int) ≤ (i : Int) := by omega
    have hi00 : decide ((0 : Int) ≤ (i : Int)) = true := decide_eq_true hi0
    have his : i < t.size := by omega
    by_cases hj : 0 < gi
    · obtain ⟨c, hc⟩ : ∃ c, y[gi - 1]? = some c := ⟨_, List.getElem?_eq_getElem (by rw [← HNL.out]; omega)⟩
      have hct0 := HAT.out _ _ hc
      rw [show p + 1 + (gi - 1) = i by omega] at hct0
      have hct := byte_at hct0 his
      have hc32 : c ≠ 32 := fun h => HNO.out (gi - 1) (by rw [hc, h])
      have hcn : ((c.toNat : Int) != 32) = true := bne_iff_ne.2 (fun h => hc32 (UInt8.toNat_inj.1 (show c.toNat = (32 : UInt8).toNat by simpa using (by omega : c.toNat = 32))))
      obtain ⟨i1, hi1⟩ : ∃ i1, i1 = i - 1 := ⟨_, rfl⟩
      have hii : (i : Int) - 1 = (i1 : Int) := by omega
      have HII := Lib.hid (show i1 = p + (gi - 1) by omega)
      clear hc hct0 hc32 hlk hi hi1
      go_wp2
      go_roundg (gi - 1)
      case measure => omega
      case rel => exact ⟨i1, by omega, HII.out, by go_num, HS1.out, HB1.out⟩
    · obtain rfl : gi = 0 := by omega
      obtain rfl : i = p := by omega
      have hct := byte_at H32.out his
      have hcn : (((32 : UInt8).toNat : Int) != 32) = false := by decide
      have hneg : decide ((i : Int) < 0) = false := decide_eq_false (by omega)
      have hp10 : (0 : Int) ≤ (p1 : Int) := by omega
      have hp1Z : (p1 : Int) ≤ (Z : Int) := by have := HP1.out; omega
      have hiZ2 : (i : Int) ≤ (Z : Int) := by omega
      have hiZn : i ≤ Z := by omega
      have hp1Zn : p1 ≤ Z := by have := HP1.out; omega
      have HNUM := Lib.hid (refNum_any y w1 (by rw [← HNL.out]; omega))
      clear hj hi hjn hlk HAT HNO
      go_wp2_with fail
      refine HNUM.out.mono ?_
      rintro e w' ⟨⟨nv, rfl, hnv⟩, hw⟩
      rw [← hw]
      clear hw HNUM
      rw [HOK.out]
      have hnv2 := hnv HOK.out
      rw [← HNVE.out] at hnv2
      subst hnv2
      have HSUM := Lib.hid (refSum_any (bytesOf x) w1 (by show x.length ≤ 10000; rw [← HPX.out]; omega))
      have hsx : (bytesOf x).data.toList = x := by simp [bytesOf]
      rw [hsx, ← HSE.out] at HSUM
      clear hnv hsx
      go_wp2_with fail
      refine HSUM.out.mono ?_
      rintro e w' ⟨rfl, hw⟩
      rw [← hw]
      clear hw HSUM
      have hcut : Calls Tryz.prog 46 #[.string (bytesOf x), .int .u8 32] w1 fun e w' => ∃ v, e = .returned v ∧ Sep B w' (strE v (cutL 32 x) :: liE gr gb (.slice ao L.length cap) s (m : Int) L F) ∧ Below B w1 w' := refCut_any B _ x 32 w1 hg1 HS1.out (by rw [← HPX.out]; omega)
      rw [HWS.out] at hcut
      have HCUT := Lib.hid hcut
      clear hcut
      go_wp2_with fail
      refine HCUT.out.mono ?_
      rintro e w2 ⟨sv, rfl, hs2, hb2⟩
      obtain ⟨so, sc, rfl, -⟩ := strShape (A := []) hs2
      rw [← HN1.out] at hs2 ⊢
      have HS2 := Lib.hid (hs2.intsNil 3)
      have HB2 := Lib.hid (HB1.out.trans hb2)
      clear hs2 hb2 HS1 HB1 HCUT hg1
      go_wp2
      go_loopg [10, 11] q (fun gk lv iv wr => ∃ (k i : Nat), gk + k = q ∧ i = k + 1 ∧ iv = .int .i64 i ∧ Hid (∀ z ∈ wt.take k, numOk z = true) ∧ Sep B wr (Ent.ints 3 lv ((wt.take k).map numV) :: strE (.slice so n1 sc) (w0 :: wt) :: liE gr gb (.slice ao L.length cap) s (m : Int) L F) ∧ Below B w wr)
      case atStart => exact ⟨0, 1, rfl, rfl, rfl, (fun z hz => by simp at hz), HS2.out, HB2.out⟩
      case round =>
        obtain ⟨gi, rfl⟩ : ∃ gi, gi = gk := ⟨_, rfl⟩
        obtain ⟨k, i2, hgi, hik, rfl, HALL, hsp, hbel⟩ := hrel
        clear HS2 HB2
        have HS3 := Lib.hid hsp
        have HB3 := Lib.hid hbel
        obtain ⟨w3, hw3⟩ : ∃ w3, w3 = wr := ⟨_, rfl⟩
        obtain rfl := hw3
        have hg3 : B ≤ w3.heap.size := Nat.le_trans hB hbel.size
        obtain ⟨na, nc, rfl, -, -⟩ := Sep.intsShape (A := []) hsp
        clear hsp hbel
        have hnq := HNQ.out
        have hAT : ∀ (j : Nat) z, (w0 :: wt)[j]? = some z → ∃ g off, so = some ⟨g, off, none⟩ ∧ g < w3.heap.size ∧ w3.cell? ⟨g, off + j, none⟩ = some (.string (bytesOf z)) := by
          have h1 := HS3.out
          rw [HN1.out] at h1
          exact strAt (A := [_]) h1
        by_cases hlt : k < q
        · obtain ⟨z, hz⟩ : ∃ z, wt[k]? = some z := ⟨_, List.getElem?_eq_getElem (by rw [← HQ.out]; exact hlt)⟩
          have hzm : z ∈ wt := List.mem_iff_getElem?.2 ⟨k, hz⟩
          obtain ⟨g, off, rfl, -, hcz⟩ := hAT i2 z (by rw [hik, List.getElem?_cons_succ, hz])
          have hin : (i2 : Int) < (n1 : Int) := by omega
          have hind : decide ((i2 : Int) < (n1 : Int)) = true := decide_eq_true hin
          have hi20 : (0 : Int) ≤ (i2 : Int) := by omega
          have hi2b : (i2 : Int) ≤ 20000 := by omega
          have HNUM2 := Lib.hid (refNum_any z w3 (HCL.out z hzm))
          obtain ⟨zv, hzv⟩ : ∃ zv, zv = numV z := ⟨_, rfl⟩
          have htk : (wt.take (k + 1)).map numV = (wt.take k).map numV ++ [zv] := by rw [List.take_add_one, hz, List.map_append, hzv]; rfl
          have hlj : ((wt.take k).map numV).length ≤ 100000 := by rw [List.length_map, List.length_take]; omega
          have HZV := Lib.hid hzv
          have HTK := Lib.hid htk
          have HZ := Lib.hid (And.intro hz hzm)
          have HKI := Lib.hid (And.intro hgi (And.intro hik hlt))
          clear hAT hz hzm hzv htk hgi hik hnq hlt
          by_cases hox : numOk z = true
          · have hall : ∀ z' ∈ wt.take (k + 1), numOk z' = true := fun z' hz' => by
              rw [List.take_add_one, HZ.out.1] at hz'
              rcases List.mem_append.1 hz' with h | h
              · exact HALL.out z' h
              · rw [show z' = z by simpa using h]; exact hox
            have HAL2 := Lib.hid hall
            have HOX := Lib.hid hox
            obtain ⟨xs, hxs⟩ : ∃ xs, xs = (wt.take k).map numV := ⟨_, rfl⟩
            rw [← hxs] at HS3 HTK hlj ⊢
            clear hall hox hxs
            go_wp2_with fail
            refine HNUM2.out.mono ?_
            rintro e w' ⟨⟨nv, rfl, hnv2⟩, hw⟩
            rw [← hw]
            have hnv3 := hnv2 HOX.out
            rw [← HZV.out] at hnv3
            rw [HOX.out]
            subst hnv3
            clear hw HNUM2 hnv2 hcz
            go_wp2_with (at_builtin; refine wpList_append_int rfl (.tmp 69) (.tmp 71) rfl elemIntL (A := []) rfl HS3.out hg3 rfl (by omega) ?_)
            intro v' w7 hs hb
            have HS7 := Lib.hid hs
            have HB7 := Lib.hid (HB3.out.trans hb)
            clear hs hb HS3 HB3 hg3
            go_wp2
            go_roundg (gi - 1)
            case measure => have := HKI.out; omega
            case rel => exact ⟨k + 1, i2 + 1, by have := HKI.out; omega, by have := HKI.out; omega, by go_num, HAL2.out, by rw [HTK.out]; exact HS7.out, HB7.out⟩
          · have hox' : numOk z = false := by simpa using hox
            have HOX := Lib.hid hox'
            have HLD := Lib.hid (lineDo_bad (b := (L, tx, m)) (w0 := w0) HZ.out.2 hox')
            have HS4 := Lib.hid (HS3.out.sub ((List.sublist_cons_self _ _).trans (List.sublist_cons_self _ _)))
            have HB4 := Lib.hid HB3.out
            clear hox hox'
            go_wp2_with fail
            refine HNUM2.out.mono ?_
            rintro e w' ⟨⟨nv, rfl, hnv2⟩, hw⟩
            rw [← hw]
            rw [HOX.out]
            clear hw HNUM2 hnv2 hcz
            obtain ⟨wf, hwf, he1, he2, k0, k1, k2⟩ := liE_end (.slice ao L.length cap) (.string s) (.int .i64 (m : Int)) HS4.out HB4.out
            have HE1 := Lib.hid he1
            have HE2 := Lib.hid he2
            have HWF := Lib.hid hwf
            rw [hwf] at k0 k1 k2
            obtain ⟨⟨b0, b1, b2⟩, ⟨s0, s1, s2⟩, ⟨f0, f1, f2⟩, hgz⟩ := liE_cells HS4.out
            clear he1 he2 hwf
            go_wp2
            try simp only [Exit.inBlock, Exit.then]
            refine bodyPost_ret (v := .tuple #[.agg #[.slice ao L.length cap, .string s, .int .i64 (m : Int)], .int .i64 2]) (by simp [results, Tryz.results47, go_sem, k0, k1, k2]) rfl ?_
            rw [← HWF.out, HLD.out]
            exact ⟨_, by rw [HSS.out], HE1.out, HE2.out⟩
        · obtain rfl : k = q := by omega
          obtain rfl : i2 = n1 := by omega
          have hin : decide ((i2 : Int) < (i2 : Int)) = false := by simp
          have hwl : wt.length = k := HQ.out.symm
          have htk : wt.take k = wt := List.take_of_length_le (by omega)
          rw [htk] at HALL HS3
          have hall : wt.all numOk = true := List.all_eq_true.2 fun z hz => HALL.out z hz
          obtain ⟨g, off, rfl, -, hc0'⟩ := hAT 0 w0 rfl
          have hc0 : w3.cell? ⟨g, off, none⟩ = some (.string (bytesOf w0)) := hc0'
          have hn1p : (0 : Int) < (i2 : Int) := by omega
          have hnl : (wt.map numV).length = k := by rw [List.length_map, hwl]
          have hnl0 : ((wt.take k).map numV).length = k := by rw [htk, List.length_map, hwl]
          rw [hnl] at HS3
          rw [hnl0]
          have HALL2 := Lib.hid hall
          clear htk hnl hnl0 hall HALL hlt hAT hc0' hgi hik hnq
          by_cases hw1 : w0 = [115]
          · have a1 : (w0 == [115]) = true := beq_iff_eq.2 hw1
            have a2 : (w0 == [100]) = false := beq_eq_false_iff_ne.2 (by rw [hw1]; decide)
            have a3 : (w0.toArray == #[115]) = true := by rw [hw1]; rfl
            have a4 : (w0.toArray == #[100]) = false := by rw [hw1]; rfl
            by_cases h3 : k = 3
            · obtain ⟨za, zn, zh, rfl⟩ : ∃ a n h, wt = [a, n, h] := by
                match wt, hwl.trans h3 with
                | [a, n, h], _ => exact ⟨a, n, h, rfl⟩
              subst h3
              have hld : lineDo (L, tx, m) (w0 :: [za, zn, zh]) = bkSet (L, tx, m) (numV za) (numV zn) (numV zh) := by
                unfold lineDo
                rw [List.tail_cons, HALL2.out, if_neg (by decide), if_pos (by rw [hw1]; simp)]
                rfl
              obtain ⟨r, hr⟩ : ∃ r, r = bkSet (L, tx, m) (numV za) (numV zn) (numV zh) := ⟨_, rfl⟩
              rw [← hr] at hld
              have HLD := Lib.hid hld
              have HR := Lib.hid hr
              obtain ⟨gn, on, rfl, -, -⟩ := Sep.intSl (A := []) (show Sep B w3 (Ent.ints 3 (.slice na [numV za, numV zn, numV zh].length nc) [numV za, numV zn, numV zh] :: _) from HS3.out) 0 _ rfl
              clear hld hw1 hwl hr
              have hstat : ∀ w', Sep B w' [Ent.ints 3 (.slice (some ⟨gn, on, none⟩) [numV za, numV zn, numV zh].length nc) [numV za, numV zn, numV zh], Ent.blk1 gb 56 (bkC (.slice ao L.length cap) s (m : Int))] → (fun w' => w'.cell? ⟨gb, 0, none⟩ = some (.slice ao L.length cap) ∧ w'.cell? ⟨gb, 1, none⟩ = some (.string s) ∧ w'.cell? ⟨gb, 2, none⟩ = some (.int .i64 (m : Int)) ∧ w'.cell? ⟨gn, on, none⟩ = some (.int .i64 (numV za)) ∧ w'.cell? ⟨gn, on + 1, none⟩ = some (.int .i64 (numV zn)) ∧ w'.cell? ⟨gn, on + 2, none⟩ = some (.int .i64 (numV zh))) w' := fun w' h => by
                have his := Sep.intSl (A := []) h
                (obtain ⟨_, _, he, _, r0⟩ := his 0 _ rfl; cases he; obtain ⟨_, _, he, _, r1⟩ := his 1 _ rfl; cases he; obtain ⟨_, _, he, _, r2⟩ := his 2 _ rfl; cases he)
                exact ⟨(Sep.blkAt (A := [_]) h (j := 0) rfl).1, (Sep.blkAt (A := [_]) h (j := 1) rfl).1, (Sep.blkAt (A := [_]) h (j := 2) rfl).1, r0, r1, r2⟩
              have HSTAT := Lib.hid hstat
              clear hstat
              go_upto_region 21 with fail
              obtain ⟨w4, hw4⟩ : ∃ w4, w4 = w3.drew := ⟨_, rfl⟩
              have HS4 := Lib.hid (show Sep B w4 (rteE (.slice ao L.length cap) L :: Ent.ints 3 (.slice (some ⟨gn, on, none⟩) [numV za, numV zn, numV zh].length nc) [numV za, numV zn, numV zh] :: strE (.slice (some ⟨g, off, none⟩) i2 sc) (w0 :: [za, zn, zh]) :: bkE0 gr :: Ent.blk1 gb 56 (bkC (.slice ao L.length cap) s (m : Int)) :: F) by
                rw [hw4]
                exact HS3.out.drew.perm (List.perm_middle (l₁ := [_, _])))
              have HB4 := Lib.hid (show Below B w w4 by rw [hw4]; exact HB3.out.drew)
              have hg4 : B ≤ w4.heap.size := Nat.le_trans hB HB4.out.size
              have HST4 := Lib.hid (HSTAT.out w4 (HS4.out.sub (List.Sublist.cons _ (List.Sublist.cons_cons _ (List.Sublist.cons _ (List.Sublist.cons _ (List.Sublist.cons_cons _ (List.nil_sublist _))))))))
              clear hc0 a1 a2 a3 a4
              refine wp_region_held_drew (S := (fun w' => w'.cell? ⟨gb, 0, none⟩ = some (.slice ao L.length cap) ∧ w'.cell? ⟨gb, 1, none⟩ = some (.string s) ∧ w'.cell? ⟨gb, 2, none⟩ = some (.int .i64 (m : Int)) ∧ w'.cell? ⟨gn, on, none⟩ = some (.int .i64 (numV za)) ∧ w'.cell? ⟨gn, on + 1, none⟩ = some (.int .i64 (numV zn)) ∧ w'.cell? ⟨gn, on + 2, none⟩ = some (.int .i64 (numV zh)))) (by kernel_rfl) (by simp only [← hw4]; exact HST4.out) (fun hHeld => ?_)
              rw [← hw4] at hHeld ⊢
              clear hw4 HS3 HB3 HST4
              refine wpAnyH_take (i := 0) (v := ?va0) rfl (by kernel_rfl) (by kernel_rfl) (by kernel_rfl) (fun _ _ _ h => h) (Or.inl ⟨by rfl, ?hya0⟩) (by assumption) ?resta0
              case hya0 =>
                intro w hSw
                try dsimp only at hSw
                go_simp
                try with_reducible rfl
              try simp only [Act.put, List.setIfInBounds_toArray, List.set_cons_zero, List.set_cons_succ, List.getElem_toArray, List.getElem_cons_zero]
              refine wpAnyH_take (i := 1) (v := ?va1) rfl (by kernel_rfl) (by kernel_rfl) (by kernel_rfl) (fun _ _ _ h => h) (Or.inl ⟨by rfl, ?hya1⟩) (by assumption) ?resta1
              case hya1 =>
                intro w hSw
                try dsimp only at hSw
                go_simp
                try with_reducible rfl
              try simp only [Act.put, List.setIfInBounds_toArray, List.set_cons_zero, List.set_cons_succ, List.getElem_toArray, List.getElem_cons_zero, List.getElem_cons_succ]
              refine wpAnyH_take (i := 2) (v := ?va2) rfl (by kernel_rfl) (by kernel_rfl) (by kernel_rfl) (fun _ _ _ h => h) (Or.inl ⟨by rfl, ?hya2⟩) (by assumption) ?resta2
              case hya2 =>
                intro w hSw
                try dsimp only at hSw
                go_simp
                try with_reducible rfl
              try simp only [Act.put, List.setIfInBounds_toArray, List.set_cons_zero, List.set_cons_succ, List.getElem_toArray, List.getElem_cons_zero, List.getElem_cons_succ]
              refine wpAnyH_take (i := 3) (v := ?va3) rfl (by kernel_rfl) (by kernel_rfl) (by kernel_rfl) (fun _ _ _ h => h) (Or.inl ⟨by rfl, ?hya3⟩) (by assumption) ?resta3
              case hya3 =>
                intro w hSw
                try dsimp only at hSw
                go_simp
                try with_reducible rfl
              try simp only [Act.put, List.setIfInBounds_toArray, List.set_cons_zero, List.set_cons_succ, List.getElem_toArray, List.getElem_cons_zero, List.getElem_cons_succ]
              refine wpAnyH_take (i := 4) (v := ?va4) rfl (by kernel_rfl) (by kernel_rfl) (by kernel_rfl) (fun _ _ _ h => h) (Or.inl ⟨by rfl, ?hya4⟩) (by assumption) ?resta4
              case hya4 =>
                intro w hSw
                try dsimp only at hSw
                go_simp
                try with_reducible rfl
              try simp only [Act.put, List.setIfInBounds_toArray, List.set_cons_zero, List.set_cons_succ, List.getElem_toArray, List.getElem_cons_zero, List.getElem_cons_succ]
              refine wpAnyH_take (i := 5) (v := ?va5) rfl (by kernel_rfl) (by kernel_rfl) (by kernel_rfl) (fun _ _ _ h => h) (Or.inl ⟨by rfl, ?hya5⟩) (by assumption) ?resta5
              case hya5 =>
                intro w hSw
                try dsimp only at hSw
                go_simp
                try with_reducible rfl
              try simp only [Act.put, List.setIfInBounds_toArray, List.set_cons_zero, List.set_cons_succ, List.getElem_toArray, List.getElem_cons_zero, List.getElem_cons_succ]
              refine wpAnyH_take (i := 6) (v := ?va6) rfl (by kernel_rfl) (by kernel_rfl) (by kernel_rfl) (fun _ _ _ h => h) (Or.inl ⟨by rfl, ?hya6⟩) (by assumption) ?resta6
              case hya6 =>
                intro w hSw
                try dsimp only at hSw
                go_simp
                try with_reducible rfl
              try simp only [Act.put, List.setIfInBounds_toArray, List.set_cons_zero, List.set_cons_succ, List.getElem_toArray, List.getElem_cons_zero, List.getElem_cons_succ]
              refine wpAnyH_take (i := 7) (v := ?va7) rfl (by kernel_rfl) (by kernel_rfl) (by kernel_rfl) (fun _ _ _ h => h) (Or.inl ⟨by rfl, ?hya7⟩) (by assumption) ?resta7
              case hya7 =>
                intro w hSw
                try dsimp only at hSw
                go_simp
                try with_reducible rfl
              try simp only [Act.put, List.setIfInBounds_toArray, List.set_cons_zero, List.set_cons_succ, List.getElem_toArray, List.getElem_cons_zero, List.getElem_cons_succ]
              refine wpAnyH_take (i := 8) (v := ?va8) rfl (by kernel_rfl) (by kernel_rfl) (by kernel_rfl) (fun _ _ _ h => h) (Or.inl ⟨by rfl, ?hya8⟩) (by assumption) ?resta8
              case hya8 =>
                intro w hSw
                try dsimp only at hSw
                go_simp
                try with_reducible rfl
              try simp only [Act.put, List.setIfInBounds_toArray, List.set_cons_zero, List.set_cons_succ, List.getElem_toArray, List.getElem_cons_zero, List.getElem_cons_succ]
              refine wpAnyH_take (i := 9) (v := ?va9) rfl (by kernel_rfl) (by kernel_rfl) (by kernel_rfl) (fun _ _ _ h => h) (Or.inl ⟨by rfl, ?hya9⟩) (by assumption) ?resta9
              case hya9 =>
                intro w hSw
                try dsimp only at hSw
                go_simp
                try with_reducible rfl
              try simp only [Act.put, List.setIfInBounds_toArray, List.set_cons_zero, List.set_cons_succ, List.getElem_toArray, List.getElem_cons_zero, List.getElem_cons_succ]
              refine wpAnyH_take (i := 10) (v := ?va10) rfl (by kernel_rfl) (by kernel_rfl) (by kernel_rfl) (fun _ _ _ h => h) (Or.inl ⟨by rfl, ?hya10⟩) (by assumption) ?resta10
              case hya10 =>
                intro w hSw
                try dsimp only at hSw
                go_simp
                try with_reducible rfl
              try simp only [Act.put, List.setIfInBounds_toArray, List.set_cons_zero, List.set_cons_succ, List.getElem_toArray, List.getElem_cons_zero, List.getElem_cons_succ]
              refine wpAnyH_take (i := 11) (v := ?va11) rfl (by kernel_rfl) (by kernel_rfl) (by kernel_rfl) (fun _ _ _ h => h) (Or.inl ⟨by rfl, ?hya11⟩) (by assumption) ?resta11
              case hya11 =>
                intro w hSw
                try dsimp only at hSw
                go_simp
                try with_reducible rfl
              try simp only [Act.put, List.setIfInBounds_toArray, List.set_cons_zero, List.set_cons_succ, List.getElem_toArray, List.getElem_cons_zero, List.getElem_cons_succ]
              have hcall := rbSet_any B (.slice ao L.length cap) (L, tx, m) _ (numV za) (numV zn) (numV zh) w4 HS4.out hg4 HARG.out.1 HARG.out.2.1 HARG.out.2.2
              simp only at hcall
              rw [← HSS.out, ← HR.out] at hcall
              have HCALL := Lib.hid hcall
              clear hcall
              refine wpAnyH_ready (rs := [12]) (by kernel_rfl) (by simp) ?_
              refine AllReadyH.cons rfl (fun K hK => ?_) AllReadyH.nil
              go_simp
              go_at_call 71
              refine HCALL.out.mono ?_
              rintro e w5 ⟨sp', rfl, hs5, hb5⟩
              obtain ⟨ao', N', cap', rfl⟩ : ∃ a n c, sp' = .slice a n c := by
                obtain ⟨a', c', e, -⟩ := rte_shape (A := []) hs5
                exact ⟨a', _, c', e⟩
              have HS5 := Lib.hid hs5
              have HB5 := Lib.hid (HB4.out.trans hb5)
              have HST5 := Lib.hid (HSTAT.out w5 (hs5.sub (List.Sublist.cons _ (List.Sublist.cons_cons _ (List.Sublist.cons _ (List.Sublist.cons _ (List.Sublist.cons_cons _ (List.nil_sublist _))))))))
              clear hs5 hb5 HS4 HB4
              go_wp2_with fail
              refine hK.out _ _ ?_ (fun hHeld12 => ?_)
              · exact HST5.out
              clear hK K
              try simp only [Act.put, List.setIfInBounds_toArray, List.set_cons_zero, List.set_cons_succ, List.getElem_toArray, List.getElem_cons_zero, List.getElem_cons_succ]
              refine wpAnyH_take (i := 13) (v := ?vb1213) rfl (by kernel_rfl) (by kernel_rfl) (by kernel_rfl) (fun _ _ _ h => h) (Or.inl ⟨by rfl, ?hyb1213⟩) (by assumption) ?restb1213
              case hyb1213 =>
                intro w hSw
                try dsimp only at hSw
                go_simp
                try with_reducible rfl
              try simp only [Act.put, List.setIfInBounds_toArray, List.set_cons_zero, List.set_cons_succ, List.getElem_toArray, List.getElem_cons_zero, List.getElem_cons_succ]
              refine wpAnyH_take (i := 14) (v := ?vb1214) rfl (by kernel_rfl) (by kernel_rfl) (by kernel_rfl) (fun _ _ _ h => h) (Or.inl ⟨by rfl, ?hyb1214⟩) (by assumption) ?restb1214
              case hyb1214 =>
                intro w hSw
                try dsimp only at hSw
                go_simp
                try with_reducible rfl
              try simp only [Act.put, List.setIfInBounds_toArray, List.set_cons_zero, List.set_cons_succ, List.getElem_toArray, List.getElem_cons_zero, List.getElem_cons_succ]
              obtain ⟨s0, f0⟩ := Sep.blkAt (A := [_, _, _]) HS5.out (j := 0) rfl
              obtain ⟨s1, f1⟩ := Sep.blkAt (A := [_, _, _]) HS5.out (j := 1) rfl
              obtain ⟨s2, f2⟩ := Sep.blkAt (A := [_, _, _]) HS5.out (j := 2) rfl
              have hl5 := (Sep.blkLt (A := [_, _, _]) HS5.out).1
              obtain ⟨tt, htt⟩ : ∃ tt, tt = bkT r.1.2.1 := ⟨_, rfl⟩
              obtain ⟨mm, hmm⟩ : ∃ mm : Int, mm = (r.1.2.2 : Int) := ⟨_, rfl⟩
              obtain ⟨rc, hrc⟩ : ∃ rc : Int, rc = r.2 := ⟨_, rfl⟩
              rw [← htt, ← hmm, ← hrc]
              have q1 := Sep.blkSet (A := [_, _, _]) HS5.out 0 (.slice ao' N' cap')
              have q2 := Sep.blkSet (A := [_, _, _]) q1 1 (.string tt)
              have q3 := Sep.blkSet (A := [_, _, _]) q2 2 (.int .i64 mm)
              have hb6 := ((HB5.out.setCell (p := ⟨gr, 0, none⟩) hl5 (.slice ao' N' cap')).setCell (p := ⟨gr, 1, none⟩) hl5 (.string tt)).setCell (p := ⟨gr, 2, none⟩) hl5 (.int .i64 mm)
              have HST6 := Lib.hid (HSTAT.out _ (q3.sub (List.Sublist.cons _ (List.Sublist.cons_cons _ (List.Sublist.cons _ (List.Sublist.cons _ (List.Sublist.cons_cons _ (List.nil_sublist _))))))))
              have K5 := Lib.hid (Sep.blkAt (A := [_, _, _]) q3 (j := 0) rfl).1
              have K6 := Lib.hid (Sep.blkAt (A := [_, _, _]) q3 (j := 1) rfl).1
              have K7 := Lib.hid (Sep.blkAt (A := [_, _, _]) q3 (j := 2) rfl).1
              have HE1 := Lib.hid (q3.sub (List.Sublist.cons_cons _ (List.Sublist.cons _ (List.Sublist.cons _ (List.Sublist.cons _ (List.Sublist.cons _ (List.Sublist.refl _)))))))
              have HE2 := Lib.hid hb6
              have HTT := Lib.hid (And.intro htt (And.intro hmm hrc))
              clear q1 q2 q3 hb6 hl5 htt hmm hrc HS5 HB5 HST5
              refine wpAnyH_ready (rs := [15]) (by kernel_rfl) (by simp) ?_
              refine AllReadyH.cons rfl (fun K hK => ?_) AllReadyH.nil
              go_simp
              go_wp2_with fail
              refine hK.out _ _ ?_ (fun hHeld15 => ?_)
              · exact HST6.out
              clear hK K
              try simp only [Act.put, List.setIfInBounds_toArray, List.set_cons_zero, List.set_cons_succ, List.getElem_toArray, List.getElem_cons_zero, List.getElem_cons_succ]
              refine wpAnyH_take (i := 16) (v := ?vc1216) rfl (by kernel_rfl) (by kernel_rfl) (by kernel_rfl) (fun _ _ _ h => h) (Or.inl ⟨by rfl, ?hyc1216⟩) (by assumption) ?restc1216
              case hyc1216 =>
                intro w hSw
                try dsimp only at hSw
                go_simp
                try with_reducible rfl
              try simp only [Act.put, List.setIfInBounds_toArray, List.set_cons_zero, List.set_cons_succ, List.getElem_toArray, List.getElem_cons_zero, List.getElem_cons_succ]
              refine wpAnyH_done (by kernel_rfl) ?_ _
              clear s0 s1 s2 f0 f1 f2
              have k5 := K5.out
              have k6 := K6.out
              have k7 := K7.out
              go_wp2
              try simp only [Exit.inBlock, Exit.then]
              refine bodyPost_ret (v := .tuple #[.agg #[.slice ao' N' cap', .string tt, .int .i64 mm], .int .i64 rc]) (by simp [results, Tryz.results47, go_sem, k5, k6, k7]) rfl ?_
              rw [HLD.out]
              obtain ⟨e1, e2, e3⟩ := HTT.out
              exact ⟨_, by rw [e1, e2, e3], HE1.out, HE2.out⟩
            · have hj3 : ((k : Int) == 3) = false := beq_eq_false_iff_ne.2 (by omega)
              have hj3' : (k == 3) = false := beq_eq_false_iff_ne.2 h3
              have hld : lineDo (L, tx, m) (w0 :: wt) = ((L, tx, m), 2) := by
                unfold lineDo
                rw [List.tail_cons, HALL2.out, if_neg (by decide), if_neg (by rw [hwl]; exact fun h => h3 h.2), if_neg (by rw [hw1]; simp)]
              have HLD := Lib.hid hld
              have HS4 := Lib.hid (HS3.out.sub ((List.sublist_cons_self _ _).trans (List.sublist_cons_self _ _)))
              have HB4 := Lib.hid HB3.out
              clear hld hw1 hwl h3
              obtain ⟨wf, hwf, he1, he2, k0, k1, k2⟩ := liE_end (.slice ao L.length cap) (.string s) (.int .i64 (m : Int)) HS4.out HB4.out
              have HE1 := Lib.hid he1
              have HE2 := Lib.hid he2
              have HWF := Lib.hid hwf
              rw [hwf] at k0 k1 k2
              obtain ⟨⟨b0, b1, b2⟩, ⟨s0, s1, s2⟩, ⟨f0, f1, f2⟩, hgz⟩ := liE_cells HS4.out
              clear he1 he2 hwf
              go_wp2
              try simp only [Exit.inBlock, Exit.then]
              refine bodyPost_ret (v := .tuple #[.agg #[.slice ao L.length cap, .string s, .int .i64 (m : Int)], .int .i64 2]) (by simp [results, Tryz.results47, go_sem, k0, k1, k2]) rfl ?_
              rw [← HWF.out, HLD.out]
              exact ⟨_, by rw [HSS.out], HE1.out, HE2.out⟩
          · have a1 : (w0 == [115]) = false := beq_eq_false_iff_ne.2 hw1
            have a3 : (w0.toArray == #[115]) = false := beq_eq_false_iff_ne.2 fun h => hw1 (by have := congrArg Array.toList h; simpa using this)
            by_cases hw2 : w0 = [100]
            · have a2 : (w0 == [100]) = true := beq_iff_eq.2 hw2
              have a4 : (w0.toArray == #[100]) = true := by rw [hw2]; rfl
              by_cases h3 : k = 2
              · obtain ⟨za, zn, rfl⟩ : ∃ a n, wt = [a, n] := by
                  match wt, hwl.trans h3 with
                  | [a, n], _ => exact ⟨a, n, rfl⟩
                subst h3
                have hld : lineDo (L, tx, m) (w0 :: [za, zn]) = bkDrop (L, tx, m) (numV za) (numV zn) := by
                  unfold lineDo
                  rw [List.tail_cons, HALL2.out, if_neg (by decide), if_neg (by rw [hw2]; simp), if_pos (by rw [hw2]; simp)]
                  rfl
                obtain ⟨r, hr⟩ : ∃ r, r = bkDrop (L, tx, m) (numV za) (numV zn) := ⟨_, rfl⟩
                rw [← hr] at hld
                have HLD := Lib.hid hld
                have HR := Lib.hid hr
                obtain ⟨gn, on, rfl, -, -⟩ := Sep.intSl (A := []) (show Sep B w3 (Ent.ints 3 (.slice na [numV za, numV zn].length nc) [numV za, numV zn] :: _) from HS3.out) 0 _ rfl
                clear hld hw1 hw2 hwl hr
                have hstat : ∀ w', Sep B w' [Ent.ints 3 (.slice (some ⟨gn, on, none⟩) [numV za, numV zn].length nc) [numV za, numV zn], Ent.blk1 gb 56 (bkC (.slice ao L.length cap) s (m : Int))] → (fun w' => w'.cell? ⟨gb, 0, none⟩ = some (.slice ao L.length cap) ∧ w'.cell? ⟨gb, 1, none⟩ = some (.string s) ∧ w'.cell? ⟨gb, 2, none⟩ = some (.int .i64 (m : Int)) ∧ w'.cell? ⟨gn, on, none⟩ = some (.int .i64 (numV za)) ∧ w'.cell? ⟨gn, on + 1, none⟩ = some (.int .i64 (numV zn))) w' := fun w' h => by
                  have his := Sep.intSl (A := []) h
                  (obtain ⟨_, _, he, _, r0⟩ := his 0 _ rfl; cases he; obtain ⟨_, _, he, _, r1⟩ := his 1 _ rfl; cases he)
                  exact ⟨(Sep.blkAt (A := [_]) h (j := 0) rfl).1, (Sep.blkAt (A := [_]) h (j := 1) rfl).1, (Sep.blkAt (A := [_]) h (j := 2) rfl).1, r0, r1⟩
                have HSTAT := Lib.hid hstat
                clear hstat
                go_upto_region 23 with fail
                obtain ⟨w4, hw4⟩ : ∃ w4, w4 = w3.drew := ⟨_, rfl⟩
                have HS4 := Lib.hid (show Sep B w4 (rteE (.slice ao L.length cap) L :: Ent.ints 3 (.slice (some ⟨gn, on, none⟩) [numV za, numV zn].length nc) [numV za, numV zn] :: strE (.slice (some ⟨g, off, none⟩) i2 sc) (w0 :: [za, zn]) :: bkE0 gr :: Ent.blk1 gb 56 (bkC (.slice ao L.length cap) s (m : Int)) :: F) by
                  rw [hw4]
                  exact HS3.out.drew.perm (List.perm_middle (l₁ := [_, _])))
                have HB4 := Lib.hid (show Below B w w4 by rw [hw4]; exact HB3.out.drew)
                have hg4 : B ≤ w4.heap.size := Nat.le_trans hB HB4.out.size
                have HST4 := Lib.hid (HSTAT.out w4 (HS4.out.sub (List.Sublist.cons _ (List.Sublist.cons_cons _ (List.Sublist.cons _ (List.Sublist.cons _ (List.Sublist.cons_cons _ (List.nil_sublist _))))))))
                clear hc0 a1 a2 a3 a4
                refine wp_region_held_drew (S := (fun w' => w'.cell? ⟨gb, 0, none⟩ = some (.slice ao L.length cap) ∧ w'.cell? ⟨gb, 1, none⟩ = some (.string s) ∧ w'.cell? ⟨gb, 2, none⟩ = some (.int .i64 (m : Int)) ∧ w'.cell? ⟨gn, on, none⟩ = some (.int .i64 (numV za)) ∧ w'.cell? ⟨gn, on + 1, none⟩ = some (.int .i64 (numV zn)))) (by kernel_rfl) (by simp only [← hw4]; exact HST4.out) (fun hHeld => ?_)
                rw [← hw4] at hHeld ⊢
                clear hw4 HS3 HB3 HST4
                refine wpAnyH_take (i := 0) (v := ?vd0) rfl (by kernel_rfl) (by kernel_rfl) (by kernel_rfl) (fun _ _ _ h => h) (Or.inl ⟨by rfl, ?hyd0⟩) (by assumption) ?restd0
                case hyd0 =>
                  intro w hSw
                  try dsimp only at hSw
                  go_simp
                  try with_reducible rfl
                try simp only [Act.put, List.setIfInBounds_toArray, List.set_cons_zero, List.set_cons_succ, List.getElem_toArray, List.getElem_cons_zero]
                refine wpAnyH_take (i := 1) (v := ?vd1) rfl (by kernel_rfl) (by kernel_rfl) (by kernel_rfl) (fun _ _ _ h => h) (Or.inl ⟨by rfl, ?hyd1⟩) (by assumption) ?restd1
                case hyd1 =>
                  intro w hSw
                  try dsimp only at hSw
                  go_simp
                  try with_reducible rfl
                try simp only [Act.put, List.setIfInBounds_toArray, List.set_cons_zero, List.set_cons_succ, List.getElem_toArray, List.getElem_cons_zero, List.getElem_cons_succ]
                refine wpAnyH_take (i := 2) (v := ?vd2) rfl (by kernel_rfl) (by kernel_rfl) (by kernel_rfl) (fun _ _ _ h => h) (Or.inl ⟨by rfl, ?hyd2⟩) (by assumption) ?restd2
                case hyd2 =>
                  intro w hSw
                  try dsimp only at hSw
                  go_simp
                  try with_reducible rfl
                try simp only [Act.put, List.setIfInBounds_toArray, List.set_cons_zero, List.set_cons_succ, List.getElem_toArray, List.getElem_cons_zero, List.getElem_cons_succ]
                refine wpAnyH_take (i := 3) (v := ?vd3) rfl (by kernel_rfl) (by kernel_rfl) (by kernel_rfl) (fun _ _ _ h => h) (Or.inl ⟨by rfl, ?hyd3⟩) (by assumption) ?restd3
                case hyd3 =>
                  intro w hSw
                  try dsimp only at hSw
                  go_simp
                  try with_reducible rfl
                try simp only [Act.put, List.setIfInBounds_toArray, List.set_cons_zero, List.set_cons_succ, List.getElem_toArray, List.getElem_cons_zero, List.getElem_cons_succ]
                refine wpAnyH_take (i := 4) (v := ?vd4) rfl (by kernel_rfl) (by kernel_rfl) (by kernel_rfl) (fun _ _ _ h => h) (Or.inl ⟨by rfl, ?hyd4⟩) (by assumption) ?restd4
                case hyd4 =>
                  intro w hSw
                  try dsimp only at hSw
                  go_simp
                  try with_reducible rfl
                try simp only [Act.put, List.setIfInBounds_toArray, List.set_cons_zero, List.set_cons_succ, List.getElem_toArray, List.getElem_cons_zero, List.getElem_cons_succ]
                refine wpAnyH_take (i := 5) (v := ?vd5) rfl (by kernel_rfl) (by kernel_rfl) (by kernel_rfl) (fun _ _ _ h => h) (Or.inl ⟨by rfl, ?hyd5⟩) (by assumption) ?restd5
                case hyd5 =>
                  intro w hSw
                  try dsimp only at hSw
                  go_simp
                  try with_reducible rfl
                try simp only [Act.put, List.setIfInBounds_toArray, List.set_cons_zero, List.set_cons_succ, List.getElem_toArray, List.getElem_cons_zero, List.getElem_cons_succ]
                refine wpAnyH_take (i := 6) (v := ?vd6) rfl (by kernel_rfl) (by kernel_rfl) (by kernel_rfl) (fun _ _ _ h => h) (Or.inl ⟨by rfl, ?hyd6⟩) (by assumption) ?restd6
                case hyd6 =>
                  intro w hSw
                  try dsimp only at hSw
                  go_simp
                  try with_reducible rfl
                try simp only [Act.put, List.setIfInBounds_toArray, List.set_cons_zero, List.set_cons_succ, List.getElem_toArray, List.getElem_cons_zero, List.getElem_cons_succ]
                refine wpAnyH_take (i := 7) (v := ?vd7) rfl (by kernel_rfl) (by kernel_rfl) (by kernel_rfl) (fun _ _ _ h => h) (Or.inl ⟨by rfl, ?hyd7⟩) (by assumption) ?restd7
                case hyd7 =>
                  intro w hSw
                  try dsimp only at hSw
                  go_simp
                  try with_reducible rfl
                try simp only [Act.put, List.setIfInBounds_toArray, List.set_cons_zero, List.set_cons_succ, List.getElem_toArray, List.getElem_cons_zero, List.getElem_cons_succ]
                have hcall := rbDrop_any B (.slice ao L.length cap) (L, tx, m) _ (numV za) (numV zn) w4 HS4.out hg4 HARG.out.1 HARG.out.2.1 HARG.out.2.2
                simp only at hcall
                rw [← HSS.out, ← HR.out] at hcall
                have HCALL := Lib.hid hcall
                clear hcall
                refine wpAnyH_ready (rs := [8]) (by kernel_rfl) (by simp) ?_
                refine AllReadyH.cons rfl (fun K hK => ?_) AllReadyH.nil
                go_simp
                go_at_call 72
                refine HCALL.out.mono ?_
                rintro e w5 ⟨sp', rfl, hs5, hb5⟩
                obtain ⟨ao', N', cap', rfl⟩ : ∃ a n c, sp' = .slice a n c := by
                  obtain ⟨a', c', e, -⟩ := rte_shape (A := []) hs5
                  exact ⟨a', _, c', e⟩
                have HS5 := Lib.hid hs5
                have HB5 := Lib.hid (HB4.out.trans hb5)
                have HST5 := Lib.hid (HSTAT.out w5 (hs5.sub (List.Sublist.cons _ (List.Sublist.cons_cons _ (List.Sublist.cons _ (List.Sublist.cons _ (List.Sublist.cons_cons _ (List.nil_sublist _))))))))
                clear hs5 hb5 HS4 HB4
                go_wp2_with fail
                refine hK.out _ _ ?_ (fun hHeld8 => ?_)
                · exact HST5.out
                clear hK K
                try simp only [Act.put, List.setIfInBounds_toArray, List.set_cons_zero, List.set_cons_succ, List.getElem_toArray, List.getElem_cons_zero, List.getElem_cons_succ]
                refine wpAnyH_take (i := 9) (v := ?vb89) rfl (by kernel_rfl) (by kernel_rfl) (by kernel_rfl) (fun _ _ _ h => h) (Or.inl ⟨by rfl, ?hyb89⟩) (by assumption) ?restb89
                case hyb89 =>
                  intro w hSw
                  try dsimp only at hSw
                  go_simp
                  try with_reducible rfl
                try simp only [Act.put, List.setIfInBounds_toArray, List.set_cons_zero, List.set_cons_succ, List.getElem_toArray, List.getElem_cons_zero, List.getElem_cons_succ]
                refine wpAnyH_take (i := 10) (v := ?vb810) rfl (by kernel_rfl) (by kernel_rfl) (by kernel_rfl) (fun _ _ _ h => h) (Or.inl ⟨by rfl, ?hyb810⟩) (by assumption) ?restb810
                case hyb810 =>
                  intro w hSw
                  try dsimp only at hSw
                  go_simp
                  try with_reducible rfl
                try simp only [Act.put, List.setIfInBounds_toArray, List.set_cons_zero, List.set_cons_succ, List.getElem_toArray, List.getElem_cons_zero, List.getElem_cons_succ]
                obtain ⟨s0, f0⟩ := Sep.blkAt (A := [_, _, _]) HS5.out (j := 0) rfl
                obtain ⟨s1, f1⟩ := Sep.blkAt (A := [_, _, _]) HS5.out (j := 1) rfl
                obtain ⟨s2, f2⟩ := Sep.blkAt (A := [_, _, _]) HS5.out (j := 2) rfl
                have hl5 := (Sep.blkLt (A := [_, _, _]) HS5.out).1
                obtain ⟨tt, htt⟩ : ∃ tt, tt = bkT r.1.2.1 := ⟨_, rfl⟩
                obtain ⟨mm, hmm⟩ : ∃ mm : Int, mm = (r.1.2.2 : Int) := ⟨_, rfl⟩
                obtain ⟨rc, hrc⟩ : ∃ rc : Int, rc = r.2 := ⟨_, rfl⟩
                rw [← htt, ← hmm, ← hrc]
                have q1 := Sep.blkSet (A := [_, _, _]) HS5.out 0 (.slice ao' N' cap')
                have q2 := Sep.blkSet (A := [_, _, _]) q1 1 (.string tt)
                have q3 := Sep.blkSet (A := [_, _, _]) q2 2 (.int .i64 mm)
                have hb6 := ((HB5.out.setCell (p := ⟨gr, 0, none⟩) hl5 (.slice ao' N' cap')).setCell (p := ⟨gr, 1, none⟩) hl5 (.string tt)).setCell (p := ⟨gr, 2, none⟩) hl5 (.int .i64 mm)
                have HST6 := Lib.hid (HSTAT.out _ (q3.sub (List.Sublist.cons _ (List.Sublist.cons_cons _ (List.Sublist.cons _ (List.Sublist.cons _ (List.Sublist.cons_cons _ (List.nil_sublist _))))))))
                have K5 := Lib.hid (Sep.blkAt (A := [_, _, _]) q3 (j := 0) rfl).1
                have K6 := Lib.hid (Sep.blkAt (A := [_, _, _]) q3 (j := 1) rfl).1
                have K7 := Lib.hid (Sep.blkAt (A := [_, _, _]) q3 (j := 2) rfl).1
                have HE1 := Lib.hid (q3.sub (List.Sublist.cons_cons _ (List.Sublist.cons _ (List.Sublist.cons _ (List.Sublist.cons _ (List.Sublist.cons _ (List.Sublist.refl _)))))))
                have HE2 := Lib.hid hb6
                have HTT := Lib.hid (And.intro htt (And.intro hmm hrc))
                clear q1 q2 q3 hb6 hl5 htt hmm hrc HS5 HB5 HST5
                refine wpAnyH_ready (rs := [11]) (by kernel_rfl) (by simp) ?_
                refine AllReadyH.cons rfl (fun K hK => ?_) AllReadyH.nil
                go_simp
                go_wp2_with fail
                refine hK.out _ _ ?_ (fun hHeld11 => ?_)
                · exact HST6.out
                clear hK K
                try simp only [Act.put, List.setIfInBounds_toArray, List.set_cons_zero, List.set_cons_succ, List.getElem_toArray, List.getElem_cons_zero, List.getElem_cons_succ]
                refine wpAnyH_take (i := 12) (v := ?vc812) rfl (by kernel_rfl) (by kernel_rfl) (by kernel_rfl) (fun _ _ _ h => h) (Or.inl ⟨by rfl, ?hyc812⟩) (by assumption) ?restc812
                case hyc812 =>
                  intro w hSw
                  try dsimp only at hSw
                  go_simp
                  try with_reducible rfl
                try simp only [Act.put, List.setIfInBounds_toArray, List.set_cons_zero, List.set_cons_succ, List.getElem_toArray, List.getElem_cons_zero, List.getElem_cons_succ]
                refine wpAnyH_done (by kernel_rfl) ?_ _
                clear s0 s1 s2 f0 f1 f2
                have k5 := K5.out
                have k6 := K6.out
                have k7 := K7.out
                go_wp2
                try simp only [Exit.inBlock, Exit.then]
                refine bodyPost_ret (v := .tuple #[.agg #[.slice ao' N' cap', .string tt, .int .i64 mm], .int .i64 rc]) (by simp [results, Tryz.results47, go_sem, k5, k6, k7]) rfl ?_
                rw [HLD.out]
                obtain ⟨e1, e2, e3⟩ := HTT.out
                exact ⟨_, by rw [e1, e2, e3], HE1.out, HE2.out⟩
              · have hj3 : ((k : Int) == 2) = false := beq_eq_false_iff_ne.2 (by omega)
                have hj3' : (k == 2) = false := beq_eq_false_iff_ne.2 h3
                have hld : lineDo (L, tx, m) (w0 :: wt) = ((L, tx, m), 2) := by
                  unfold lineDo
                  rw [List.tail_cons, HALL2.out, if_neg (by decide), if_neg (by rw [hw2]; simp), if_neg (by rw [hwl]; exact fun h => h3 h.2)]
                have HLD := Lib.hid hld
                have HS4 := Lib.hid (HS3.out.sub ((List.sublist_cons_self _ _).trans (List.sublist_cons_self _ _)))
                have HB4 := Lib.hid HB3.out
                clear hld hw1 hw2 hwl h3
                obtain ⟨wf, hwf, he1, he2, k0, k1, k2⟩ := liE_end (.slice ao L.length cap) (.string s) (.int .i64 (m : Int)) HS4.out HB4.out
                have HE1 := Lib.hid he1
                have HE2 := Lib.hid he2
                have HWF := Lib.hid hwf
                rw [hwf] at k0 k1 k2
                obtain ⟨⟨b0, b1, b2⟩, ⟨s0, s1, s2⟩, ⟨f0, f1, f2⟩, hgz⟩ := liE_cells HS4.out
                clear he1 he2 hwf
                go_wp2
                try simp only [Exit.inBlock, Exit.then]
                refine bodyPost_ret (v := .tuple #[.agg #[.slice ao L.length cap, .string s, .int .i64 (m : Int)], .int .i64 2]) (by simp [results, Tryz.results47, go_sem, k0, k1, k2]) rfl ?_
                rw [← HWF.out, HLD.out]
                exact ⟨_, by rw [HSS.out], HE1.out, HE2.out⟩
            · have a2 : (w0 == [100]) = false := beq_eq_false_iff_ne.2 hw2
              have a4 : (w0.toArray == #[100]) = false := beq_eq_false_iff_ne.2 fun h => hw2 (by have := congrArg Array.toList h; simpa using this)
              have hld : lineDo (L, tx, m) (w0 :: wt) = ((L, tx, m), 2) := by
                unfold lineDo
                rw [List.tail_cons, HALL2.out, if_neg (by decide), if_neg (fun h => hw1 (by simpa using h.1)), if_neg (fun h => hw2 (by simpa using h.1))]
              have HLD := Lib.hid hld
              have HS4 := Lib.hid (HS3.out.sub ((List.sublist_cons_self _ _).trans (List.sublist_cons_self _ _)))
              have HB4 := Lib.hid HB3.out
              clear hld hw1 hw2 hwl
              obtain ⟨wf, hwf, he1, he2, k0, k1, k2⟩ := liE_end (.slice ao L.length cap) (.string s) (.int .i64 (m : Int)) HS4.out HB4.out
              have HE1 := Lib.hid he1
              have HE2 := Lib.hid he2
              have HWF := Lib.hid hwf
              rw [hwf] at k0 k1 k2
              obtain ⟨⟨b0, b1, b2⟩, ⟨s0, s1, s2⟩, ⟨f0, f1, f2⟩, hgz⟩ := liE_cells HS4.out
              clear he1 he2 hwf
              go_wp2
              try simp only [Exit.inBlock, Exit.then]
              refine bodyPost_ret (v := .tuple #[.agg #[.slice ao L.length cap, .string s, .int .i64 (m : Int)], .int .i64 2]) (by simp [results, Tryz.results47, go_sem, k0, k1, k2]) rfl ?_
              rw [← HWF.out, HLD.out]
              exact ⟨_, by rw [HSS.out], HE1.out, HE2.out⟩
theorem refLine_any (B : Nat) (sp : Value) (b : Bk) (F : List Ent) (l : List UInt8) (w : World) (h : Sep B w (rteE sp b.1 :: F)) (hB : B ≤ w.heap.size) (hl : l.length ≤ 10000) (hl32 : b.1.length ≤ 32) (hsrt : SrtR b.1) (hbk : BkOk b) :
    Calls Tryz.prog 47 #[.agg #[sp, .string (bkT b.2.1), .int .i64 (b.2.2 : Int)], .string (bytesOf l)] w fun e w' => LnEnd B F w (bkLine b l) e w' := by
  obtain ⟨L, tx, m⟩ := b
  simp only at h hl32 hsrt ⊢
  rcases last32 l with hno | ⟨x, y, rfl, hno⟩
  · rw [bkLine_none hno]
    exact (rbLine_none B sp (bkT tx) m L F l w h hB hl hno).mono fun e w' h => ⟨sp, h.1, h.2.1, h.2.2⟩
  · rw [bkLine_app hno]
    by_cases hok : numOk y = false
    · rw [if_pos hok]
      exact (rbLine_bad B sp (bkT tx) m L F x y w h hB hl hno hok).mono fun e w' h => ⟨sp, h.1, h.2.1, h.2.2⟩
    · rw [if_neg hok]
      have hok' : numOk y = true := by simpa using hok
      by_cases hs : numV y = (sumB x : Int)
      · rw [if_neg (fun h => h hs)]
        exact rbLine_go B sp (bkT tx) tx m L F x y w h hB hl hno hok' hs rfl hl32 hsrt hbk
      · rw [if_pos hs]
        exact (rbLine_sum B sp (bkT tx) m L F x y w h hB hl hno hok' hs).mono fun e w' h => ⟨sp, h.1, h.2.1, h.2.2⟩
end Go.Proofs.YtbcfcjecobihnaaGreatDoor
