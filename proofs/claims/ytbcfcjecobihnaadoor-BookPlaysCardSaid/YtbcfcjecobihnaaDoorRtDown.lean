/- ferryhytheref4.Book.down: by value. -/
import Derived.Test.YtbcfcjecobihnaaDoorRtDig
import Derived.Test.YtbcfcjecobihnaaDoorBookDown
namespace Go.Proofs.YtbcfcjecobihnaaDoor
open Go.RowKit
set_option linter.unusedVariables false
set_option linter.unusedSimpArgs false
set_option maxRecDepth 100000

abbrev bkC (sp : Value) (s : ByteArray) (m : Int) : List Value := [sp, .string s, .int .i64 m]
abbrev bkE0 (gs : Nat) : Ent := Ent.blk1 gs 29 (bkC (.slice none 0 0) ⟨#[]⟩ 0)
set_option maxHeartbeats 2000000 in
theorem rbDown_any (ao : Option Addr) (N cap : Nat) (s line : ByteArray) (many : Nat) (w : World) (hs : s.size ≤ 100000) (hl : line.size ≤ 1000) (hm : many ≤ 100) :
    Calls Tryd.prog 17 #[.agg #[.slice ao N cap, .string s, .int .i64 (many : Int)], .string line] w fun e w' => ∃ s', e = .returned (.agg #[.slice ao N cap, .string s', .int .i64 ((many : Int) + 1)]) ∧ s'.data.toList = s.data.toList ++ lineOf line.data.toList ∧ Below w.heap.size w w' := by
  have hx := ((Sep.nil w.heap.size w).blkNew (Nat.le_refl _) #[.slice ao N cap, .string s, .int .i64 (many : Int)] 29).blkNew (by simp) #[.slice none 0 0, .string ⟨#[]⟩, .int .i64 0] 29
  rw [show (w.alloc (.cells #[.slice ao N cap, .string s, .int .i64 (many : Int)] 29)).heap.size = w.heap.size + 1 by simp] at hx
  obtain ⟨W, hW⟩ : ∃ W, W = (w.alloc (.cells #[.slice ao N cap, .string s, .int .i64 (many : Int)] 29)).alloc (.cells #[.slice none 0 0, .string ⟨#[]⟩, .int .i64 0] 29) := ⟨_, rfl⟩
  have hbW : Below w.heap.size w W := by rw [hW]; exact ((Below.refl _ w).alloc (Nat.le_refl _) _).alloc (by simp) _
  obtain ⟨gs, hgs⟩ : ∃ x, x = w.heap.size + 1 := ⟨_, rfl⟩
  obtain ⟨gb, hgb⟩ : ∃ x, x = w.heap.size := ⟨_, rfl⟩
  rw [← hW, ← hgs, ← hgb] at hx
  obtain ⟨w2, hw2⟩ : ∃ w2, w2 = W.drew := ⟨_, rfl⟩
  have HS2 : Hid (Sep gb w2 [Ent.blk1 gs 29 [.slice none 0 0, .string ⟨#[]⟩, .int .i64 0], Ent.blk1 gb 29 [.slice ao N cap, .string s, .int .i64 (many : Int)]]) := Lib.hid (by rw [hw2]; exact hx.drew)
  have HB2 : Hid (Below gb w w2) := Lib.hid (by rw [hw2, hgb]; exact hbW.drew)
  have HW := Lib.hid hW
  have HW2 := Lib.hid hw2
  have HGS := Lib.hid hgs
  have HGB := Lib.hid hgb
  obtain ⟨c0, -⟩ := Sep.blkAt (A := [_]) HS2.out (j := 0) rfl
  obtain ⟨c1, f1⟩ := Sep.blkAt (A := [_]) HS2.out (j := 1) rfl
  obtain ⟨c2, f2⟩ := Sep.blkAt (A := [_]) HS2.out (j := 2) rfl
  clear hx hbW hW hw2 hgs hgb
  obtain ⟨sm, hsm⟩ : ∃ sm, sm = sumB line.data.toList := ⟨_, rfl⟩
  have hsm2 : sm < 9973 := by rw [hsm]; exact sumB_lt _
  have hdl := digits_len sm (by omega)
  have hsum : ∀ w' : World, Calls Tryd.prog 36 #[.string line] w' fun e w'' => e = .returned (.int .i64 (sm : Nat)) ∧ w' = w'' := fun w' => by rw [hsm]; exact refSum_any line w' (by omega)
  have hdig : ∀ w' : World, Calls Tryd.prog 18 #[.int .i64 (sm : Nat)] w' fun e w'' => e = .returned (.string ⟨(Lib.decDigits sm).toArray⟩) ∧ w' = w'' := fun w' => refDigits_any sm w' (by omega)
  have HSUM := Lib.hid hsum
  have HDIG := Lib.hid hdig
  have HSM := Lib.hid hsm
  clear hsum hdig hsm
  obtain ⟨X0, hX0⟩ : ∃ X, X = s ++ line := ⟨_, rfl⟩
  obtain ⟨X1, hX1⟩ : ∃ X, X = X0 ++ (⟨#[32]⟩ : ByteArray) := ⟨_, rfl⟩
  obtain ⟨X2, hX2⟩ : ∃ X, X = X1 ++ (⟨(Lib.decDigits sm).toArray⟩ : ByteArray) := ⟨_, rfl⟩
  obtain ⟨X3, hX3⟩ : ∃ X, X = X2 ++ (⟨#[10]⟩ : ByteArray) := ⟨_, rfl⟩
  have z0 : X0.size = s.size + line.size := by rw [hX0]; exact ByteArray.size_append
  have z1 : X1.size = X0.size + 1 := by rw [hX1]; exact ByteArray.size_append
  have z2 : X2.size = X1.size + (Lib.decDigits sm).length := by rw [hX2, ByteArray.size_append]; rfl
  have k0 : ¬ 9223372036854775807 < s.size + line.size := by omega
  have k1 : ¬ 9223372036854775807 < X0.size + 1 := by omega
  have k2 : ¬ 9223372036854775807 < X1.size + (Lib.decDigits sm).length := by omega
  have k3 : ¬ 9223372036854775807 < X2.size + 1 := by omega
  have hx3 : X3.data.toList = s.data.toList ++ lineOf line.data.toList := by
    rw [hX3, hX2, hX1, hX0, ba_app, ba_app, ba_app, ba_app]
    unfold lineOf
    rw [HSM.out]
    simp
  have HX3 := Lib.hid hx3
  have e0 := hX0.symm
  have e1 := hX1.symm
  have e2 := hX2.symm
  have e3 := hX3.symm
  clear hX0 hX1 hX2 hX3 hx3 z0 z1 z2
  rw [← HGB.out]
  go_enter Tryd.func17, Tryd.ntmps17
  go_upto_region 1 with fail
  rw [← HGS.out, ← HGB.out]
  refine wp_region_held_drew (S := fun w' => True) (by kernel_rfl) ?hS0 (fun hHeld => ?start0)
  case hS0 => trivial
  rw [← HW.out, ← HW2.out]
  refine wpAnyH_take (i := 0) (v := ?va0) rfl (by kernel_rfl) (by kernel_rfl) (by kernel_rfl) (fun _ _ _ h => h) (Or.inl ⟨by rfl, ?hya0⟩) (by assumption) ?resta0
  case hya0 =>
    intro w hSw
    try dsimp only at hSw
    go_simp
    try with_reducible rfl
  try simp only [Act.put, List.setIfInBounds_toArray, List.set_cons_zero, List.set_cons_succ, List.getElem_toArray, List.getElem_cons_zero]
  refine wpAnyH_take (i := 2) (v := ?va2) rfl (by kernel_rfl) (by kernel_rfl) (by kernel_rfl) (fun _ _ _ h => h) (Or.inl ⟨by rfl, ?hya2⟩) (by assumption) ?resta2
  case hya2 =>
    intro w hSw
    try dsimp only at hSw
    go_simp
    try rw [if_neg k0]
    try rw [if_neg k1]
    try rw [if_neg k2]
    try rw [if_neg k3]
    try with_reducible rfl
  try simp only [Act.put, List.setIfInBounds_toArray, List.set_cons_zero, List.set_cons_succ, List.getElem_toArray, List.getElem_cons_zero, List.getElem_cons_succ]
  refine wpAnyH_take (i := 5) (v := ?va5) rfl (by kernel_rfl) (by kernel_rfl) (by kernel_rfl) (fun _ _ _ h => h) (Or.inl ⟨by rfl, ?hya5⟩) (by assumption) ?resta5
  case hya5 =>
    intro w hSw
    try dsimp only at hSw
    go_simp
    try rw [if_neg k0]
    try rw [if_neg k1]
    try rw [if_neg k2]
    try rw [if_neg k3]
    try with_reducible rfl
  try simp only [Act.put, List.setIfInBounds_toArray, List.set_cons_zero, List.set_cons_succ, List.getElem_toArray, List.getElem_cons_zero, List.getElem_cons_succ]
  refine wpAnyH_ready (rs := [1, 6]) (by kernel_rfl) (by simp) ?_
  refine AllReadyH.cons rfl (fun K hK => ?_) (AllReadyH.cons rfl (fun K hK => ?_) AllReadyH.nil)
  · go_simp
    go_wp2_with fail
    refine hK.out _ _ ?_ (fun hHeld1 => ?_)
    · trivial
    clear hK K
    try simp only [Act.put, List.setIfInBounds_toArray, List.set_cons_zero, List.set_cons_succ, List.getElem_toArray, List.getElem_cons_zero, List.getElem_cons_succ]
    refine wpAnyH_take (i := 3) (v := ?vb3) rfl (by kernel_rfl) (by kernel_rfl) (by kernel_rfl) (fun _ _ _ h => h) (Or.inl ⟨by rfl, ?hyb3⟩) (by assumption) ?restb3
    case hyb3 =>
      intro w hSw
      try dsimp only at hSw
      go_simp
      try rw [if_neg k0]
      try rw [if_neg k1]
      try rw [if_neg k2]
      try rw [if_neg k3]
      try with_reducible rfl
    try simp only [Act.put, List.setIfInBounds_toArray, List.set_cons_zero, List.set_cons_succ, List.getElem_toArray, List.getElem_cons_zero, List.getElem_cons_succ]
    refine wpAnyH_take (i := 4) (v := ?vb4) rfl (by kernel_rfl) (by kernel_rfl) (by kernel_rfl) (fun _ _ _ h => h) (Or.inl ⟨by rfl, ?hyb4⟩) (by assumption) ?restb4
    case hyb4 =>
      intro w hSw
      try dsimp only at hSw
      go_simp
      try rw [if_neg k0]
      try rw [if_neg k1]
      try rw [if_neg k2]
      try rw [if_neg k3]
      try with_reducible rfl
    try simp only [Act.put, List.setIfInBounds_toArray, List.set_cons_zero, List.set_cons_succ, List.getElem_toArray, List.getElem_cons_zero, List.getElem_cons_succ]
    refine wpAnyH_ready (rs := [6]) (by kernel_rfl) (by simp) ?_
    refine AllReadyH.cons rfl (fun K hK => ?_) AllReadyH.nil
    go_simp
    go_at_call 36
    refine (HSUM.out _).mono ?_
    rintro e w' ⟨rfl, rfl⟩
    go_wp2_with fail
    refine hK.out _ _ ?_ (fun hHeld1 => ?_)
    · trivial
    clear hK K
    try simp only [Act.put, List.setIfInBounds_toArray, List.set_cons_zero, List.set_cons_succ, List.getElem_toArray, List.getElem_cons_zero, List.getElem_cons_succ]
    refine wpAnyH_ready (rs := [7]) (by kernel_rfl) (by simp) ?_
    refine AllReadyH.cons rfl (fun K hK => ?_) AllReadyH.nil
    go_simp
    go_at_call 18
    refine (HDIG.out _).mono ?_
    rintro e w' ⟨rfl, rfl⟩
    go_wp2_with fail
    refine hK.out _ _ ?_ (fun hHeld2 => ?_)
    · trivial
    clear hK K
    try simp only [Act.put, List.setIfInBounds_toArray, List.set_cons_zero, List.set_cons_succ, List.getElem_toArray, List.getElem_cons_zero, List.getElem_cons_succ]
    refine wpAnyH_take (i := 8) (v := ?vb8) rfl (by kernel_rfl) (by kernel_rfl) (by kernel_rfl) (fun _ _ _ h => h) (Or.inl ⟨by rfl, ?hyb8⟩) (by assumption) ?restb8
    case hyb8 =>
      intro w hSw
      try dsimp only at hSw
      go_simp
      try rw [if_neg k0]
      try rw [if_neg k1]
      try rw [if_neg k2]
      try rw [if_neg k3]
      try with_reducible rfl
    try simp only [Act.put, List.setIfInBounds_toArray, List.set_cons_zero, List.set_cons_succ, List.getElem_toArray, List.getElem_cons_zero, List.getElem_cons_succ]
    refine wpAnyH_take (i := 9) (v := ?vb9) rfl (by kernel_rfl) (by kernel_rfl) (by kernel_rfl) (fun _ _ _ h => h) (Or.inl ⟨by rfl, ?hyb9⟩) (by assumption) ?restb9
    case hyb9 =>
      intro w hSw
      try dsimp only at hSw
      go_simp
      try rw [if_neg k0]
      try rw [if_neg k1]
      try rw [if_neg k2]
      try rw [if_neg k3]
      try with_reducible rfl
    try simp only [Act.put, List.setIfInBounds_toArray, List.set_cons_zero, List.set_cons_succ, List.getElem_toArray, List.getElem_cons_zero, List.getElem_cons_succ]
    refine wpAnyH_take (i := 10) (v := ?vb10) rfl (by kernel_rfl) (by kernel_rfl) (by kernel_rfl) (fun _ _ _ h => h) (Or.inl ⟨by rfl, ?hyb10⟩) (by assumption) ?restb10
    case hyb10 =>
      intro w hSw
      try dsimp only at hSw
      go_simp
      try rw [if_neg k0]
      try rw [if_neg k1]
      try rw [if_neg k2]
      try rw [if_neg k3]
      try with_reducible rfl
    try simp only [Act.put, List.setIfInBounds_toArray, List.set_cons_zero, List.set_cons_succ, List.getElem_toArray, List.getElem_cons_zero, List.getElem_cons_succ]
    refine wpAnyH_ready (rs := [11]) (by kernel_rfl) (by simp) ?_
    refine AllReadyH.cons rfl (fun K hK => ?_) AllReadyH.nil
    go_simp
    go_wp2_with fail
    refine hK.out _ _ ?_ (fun hHeld4 => ?_)
    · trivial
    clear hK K
    try simp only [Act.put, List.setIfInBounds_toArray, List.set_cons_zero, List.set_cons_succ, List.getElem_toArray, List.getElem_cons_zero, List.getElem_cons_succ]
    refine wpAnyH_done (by kernel_rfl) ?_ _
    have hs3 := Sep.blkSet (A := [_]) HS2.out 1 (.string X3)
    have m0 := (Sep.blkAt (A := [_]) hs3 (j := 0) rfl).1
    have m1 := (Sep.blkAt (A := [_]) hs3 (j := 1) rfl).1
    have m2 := (Sep.blkAt (A := [_]) hs3 (j := 2) rfl)
    have hs4 := Sep.blkSet (A := [_]) hs3 2 (.int .i64 ((many : Int) + 1))
    have HB3 := Lib.hid ((HB2.out.setCell (p := ⟨gb, 1, none⟩) (Sep.blkLt (A := [_]) HS2.out).1 (.string X3)).setCell (p := ⟨gb, 2, none⟩) (Sep.blkLt (A := [_]) HS2.out).1 (.int .i64 ((many : Int) + 1)))
    obtain ⟨m3, m4⟩ := m2
    have HS4 := Lib.hid hs4
    clear hs3 hs4 c0 c1 c2 f1 f2 HS2 HB2
    go_upto_region 3 with fail
    have n0 := (Sep.blkAt (A := [_]) HS4.out (j := 0) rfl).1
    have n1 := (Sep.blkAt (A := [_]) HS4.out (j := 1) rfl).1
    have n2 := (Sep.blkAt (A := [_]) HS4.out (j := 2) rfl).1
    clear m0 m1 m3 m4
    generalize (w2.setCell ⟨gb, 1, none⟩ (.string X3)).setCell ⟨gb, 2, none⟩ (.int .i64 ((many : Int) + 1)) = w3 at *
    have s0 := Sep.blkAt (A := []) HS4.out (j := 0) rfl
    have s1 := Sep.blkAt (A := []) HS4.out (j := 1) rfl
    have s2 := Sep.blkAt (A := []) HS4.out (j := 2) rfl
    have h5 := Sep.blkSet (A := []) HS4.out 0 (.slice ao N cap)
    have h6 := Sep.blkSet (A := []) h5 1 (.string X3)
    have h7 := Sep.blkSet (A := []) h6 2 (.int .i64 ((many : Int) + 1))
    have hl := (Sep.blkLt (A := []) HS4.out).1
    have HB7 := Lib.hid (((HB3.out.setCell (p := ⟨gs, 0, none⟩) hl (.slice ao N cap)).setCell (p := ⟨gs, 1, none⟩) hl (.string X3)).setCell (p := ⟨gs, 2, none⟩) hl (.int .i64 ((many : Int) + 1)))
    have t0 := (Sep.blkAt (A := []) h7 (j := 0) rfl).1
    have t1 := (Sep.blkAt (A := []) h7 (j := 1) rfl).1
    have t2 := (Sep.blkAt (A := []) h7 (j := 2) rfl).1
    obtain ⟨s0, s0'⟩ := s0
    obtain ⟨s1, s1'⟩ := s1
    obtain ⟨s2, s2'⟩ := s2
    clear h5 h6 h7 hl
    go_wp2
    try simp only [Exit.inBlock, Exit.then]
    refine bodyPost_ret (v := .agg #[.slice ao N cap, .string X3, .int .i64 ((many : Int) + 1)]) (by simp [results, Tryd.results17, go_sem, t0, t1, t2]) rfl ?_
    exact ⟨X3, rfl, HX3.out, HB7.out⟩
  · go_simp
    go_at_call 36
    refine (HSUM.out _).mono ?_
    rintro e w' ⟨rfl, rfl⟩
    go_wp2_with fail
    refine hK.out _ _ ?_ (fun hHeld1 => ?_)
    · trivial
    clear hK K
    try simp only [Act.put, List.setIfInBounds_toArray, List.set_cons_zero, List.set_cons_succ, List.getElem_toArray, List.getElem_cons_zero, List.getElem_cons_succ]
    refine wpAnyH_ready (rs := [1, 7]) (by kernel_rfl) (by simp) ?_
    refine AllReadyH.cons rfl (fun K hK => ?_) (AllReadyH.cons rfl (fun K hK => ?_) AllReadyH.nil)
    · go_simp
      go_wp2_with fail
      refine hK.out _ _ ?_ (fun hHeld3 => ?_)
      · trivial
      clear hK K
      try simp only [Act.put, List.setIfInBounds_toArray, List.set_cons_zero, List.set_cons_succ, List.getElem_toArray, List.getElem_cons_zero, List.getElem_cons_succ]
      refine wpAnyH_take (i := 3) (v := ?vc3) rfl (by kernel_rfl) (by kernel_rfl) (by kernel_rfl) (fun _ _ _ h => h) (Or.inl ⟨by rfl, ?hyc3⟩) (by assumption) ?restc3
      case hyc3 =>
        intro w hSw
        try dsimp only at hSw
        go_simp
        try rw [if_neg k0]
        try rw [if_neg k1]
        try rw [if_neg k2]
        try rw [if_neg k3]
        try with_reducible rfl
      try simp only [Act.put, List.setIfInBounds_toArray, List.set_cons_zero, List.set_cons_succ, List.getElem_toArray, List.getElem_cons_zero, List.getElem_cons_succ]
      refine wpAnyH_take (i := 4) (v := ?vc4) rfl (by kernel_rfl) (by kernel_rfl) (by kernel_rfl) (fun _ _ _ h => h) (Or.inl ⟨by rfl, ?hyc4⟩) (by assumption) ?restc4
      case hyc4 =>
        intro w hSw
        try dsimp only at hSw
        go_simp
        try rw [if_neg k0]
        try rw [if_neg k1]
        try rw [if_neg k2]
        try rw [if_neg k3]
        try with_reducible rfl
      try simp only [Act.put, List.setIfInBounds_toArray, List.set_cons_zero, List.set_cons_succ, List.getElem_toArray, List.getElem_cons_zero, List.getElem_cons_succ]
      refine wpAnyH_ready (rs := [7]) (by kernel_rfl) (by simp) ?_
      refine AllReadyH.cons rfl (fun K hK => ?_) AllReadyH.nil
      go_simp
      go_at_call 18
      refine (HDIG.out _).mono ?_
      rintro e w' ⟨rfl, rfl⟩
      go_wp2_with fail
      refine hK.out _ _ ?_ (fun hHeld2 => ?_)
      · trivial
      clear hK K
      try simp only [Act.put, List.setIfInBounds_toArray, List.set_cons_zero, List.set_cons_succ, List.getElem_toArray, List.getElem_cons_zero, List.getElem_cons_succ]
      refine wpAnyH_take (i := 8) (v := ?vc8) rfl (by kernel_rfl) (by kernel_rfl) (by kernel_rfl) (fun _ _ _ h => h) (Or.inl ⟨by rfl, ?hyc8⟩) (by assumption) ?restc8
      case hyc8 =>
        intro w hSw
        try dsimp only at hSw
        go_simp
        try rw [if_neg k0]
        try rw [if_neg k1]
        try rw [if_neg k2]
        try rw [if_neg k3]
        try with_reducible rfl
      try simp only [Act.put, List.setIfInBounds_toArray, List.set_cons_zero, List.set_cons_succ, List.getElem_toArray, List.getElem_cons_zero, List.getElem_cons_succ]
      refine wpAnyH_take (i := 9) (v := ?vc9) rfl (by kernel_rfl) (by kernel_rfl) (by kernel_rfl) (fun _ _ _ h => h) (Or.inl ⟨by rfl, ?hyc9⟩) (by assumption) ?restc9
      case hyc9 =>
        intro w hSw
        try dsimp only at hSw
        go_simp
        try rw [if_neg k0]
        try rw [if_neg k1]
        try rw [if_neg k2]
        try rw [if_neg k3]
        try with_reducible rfl
      try simp only [Act.put, List.setIfInBounds_toArray, List.set_cons_zero, List.set_cons_succ, List.getElem_toArray, List.getElem_cons_zero, List.getElem_cons_succ]
      refine wpAnyH_take (i := 10) (v := ?vc10) rfl (by kernel_rfl) (by kernel_rfl) (by kernel_rfl) (fun _ _ _ h => h) (Or.inl ⟨by rfl, ?hyc10⟩) (by assumption) ?restc10
      case hyc10 =>
        intro w hSw
        try dsimp only at hSw
        go_simp
        try rw [if_neg k0]
        try rw [if_neg k1]
        try rw [if_neg k2]
        try rw [if_neg k3]
        try with_reducible rfl
      try simp only [Act.put, List.setIfInBounds_toArray, List.set_cons_zero, List.set_cons_succ, List.getElem_toArray, List.getElem_cons_zero, List.getElem_cons_succ]
      refine wpAnyH_ready (rs := [11]) (by kernel_rfl) (by simp) ?_
      refine AllReadyH.cons rfl (fun K hK => ?_) AllReadyH.nil
      go_simp
      go_wp2_with fail
      refine hK.out _ _ ?_ (fun hHeld4 => ?_)
      · trivial
      clear hK K
      try simp only [Act.put, List.setIfInBounds_toArray, List.set_cons_zero, List.set_cons_succ, List.getElem_toArray, List.getElem_cons_zero, List.getElem_cons_succ]
      refine wpAnyH_done (by kernel_rfl) ?_ _
      have hs3 := Sep.blkSet (A := [_]) HS2.out 1 (.string X3)
      have m0 := (Sep.blkAt (A := [_]) hs3 (j := 0) rfl).1
      have m1 := (Sep.blkAt (A := [_]) hs3 (j := 1) rfl).1
      have m2 := (Sep.blkAt (A := [_]) hs3 (j := 2) rfl)
      have hs4 := Sep.blkSet (A := [_]) hs3 2 (.int .i64 ((many : Int) + 1))
      have HB3 := Lib.hid ((HB2.out.setCell (p := ⟨gb, 1, none⟩) (Sep.blkLt (A := [_]) HS2.out).1 (.string X3)).setCell (p := ⟨gb, 2, none⟩) (Sep.blkLt (A := [_]) HS2.out).1 (.int .i64 ((many : Int) + 1)))
      obtain ⟨m3, m4⟩ := m2
      have HS4 := Lib.hid hs4
      clear hs3 hs4 c0 c1 c2 f1 f2 HS2 HB2
      go_upto_region 3 with fail
      have n0 := (Sep.blkAt (A := [_]) HS4.out (j := 0) rfl).1
      have n1 := (Sep.blkAt (A := [_]) HS4.out (j := 1) rfl).1
      have n2 := (Sep.blkAt (A := [_]) HS4.out (j := 2) rfl).1
      clear m0 m1 m3 m4
      generalize (w2.setCell ⟨gb, 1, none⟩ (.string X3)).setCell ⟨gb, 2, none⟩ (.int .i64 ((many : Int) + 1)) = w3 at *
      have s0 := Sep.blkAt (A := []) HS4.out (j := 0) rfl
      have s1 := Sep.blkAt (A := []) HS4.out (j := 1) rfl
      have s2 := Sep.blkAt (A := []) HS4.out (j := 2) rfl
      have h5 := Sep.blkSet (A := []) HS4.out 0 (.slice ao N cap)
      have h6 := Sep.blkSet (A := []) h5 1 (.string X3)
      have h7 := Sep.blkSet (A := []) h6 2 (.int .i64 ((many : Int) + 1))
      have hl := (Sep.blkLt (A := []) HS4.out).1
      have HB7 := Lib.hid (((HB3.out.setCell (p := ⟨gs, 0, none⟩) hl (.slice ao N cap)).setCell (p := ⟨gs, 1, none⟩) hl (.string X3)).setCell (p := ⟨gs, 2, none⟩) hl (.int .i64 ((many : Int) + 1)))
      have t0 := (Sep.blkAt (A := []) h7 (j := 0) rfl).1
      have t1 := (Sep.blkAt (A := []) h7 (j := 1) rfl).1
      have t2 := (Sep.blkAt (A := []) h7 (j := 2) rfl).1
      obtain ⟨s0, s0'⟩ := s0
      obtain ⟨s1, s1'⟩ := s1
      obtain ⟨s2, s2'⟩ := s2
      clear h5 h6 h7 hl
      go_wp2
      try simp only [Exit.inBlock, Exit.then]
      refine bodyPost_ret (v := .agg #[.slice ao N cap, .string X3, .int .i64 ((many : Int) + 1)]) (by simp [results, Tryd.results17, go_sem, t0, t1, t2]) rfl ?_
      exact ⟨X3, rfl, HX3.out, HB7.out⟩
    · go_simp
      go_at_call 18
      refine (HDIG.out _).mono ?_
      rintro e w' ⟨rfl, rfl⟩
      go_wp2_with fail
      refine hK.out _ _ ?_ (fun hHeld2 => ?_)
      · trivial
      clear hK K
      try simp only [Act.put, List.setIfInBounds_toArray, List.set_cons_zero, List.set_cons_succ, List.getElem_toArray, List.getElem_cons_zero, List.getElem_cons_succ]
      refine wpAnyH_ready (rs := [1]) (by kernel_rfl) (by simp) ?_
      refine AllReadyH.cons rfl (fun K hK => ?_) AllReadyH.nil
      go_simp
      go_wp2_with fail
      refine hK.out _ _ ?_ (fun hHeld3 => ?_)
      · trivial
      clear hK K
      try simp only [Act.put, List.setIfInBounds_toArray, List.set_cons_zero, List.set_cons_succ, List.getElem_toArray, List.getElem_cons_zero, List.getElem_cons_succ]
      refine wpAnyH_take (i := 3) (v := ?vd3) rfl (by kernel_rfl) (by kernel_rfl) (by kernel_rfl) (fun _ _ _ h => h) (Or.inl ⟨by rfl, ?hyd3⟩) (by assumption) ?restd3
      case hyd3 =>
        intro w hSw
        try dsimp only at hSw
        go_simp
        try rw [if_neg k0]
        try rw [if_neg k1]
        try rw [if_neg k2]
        try rw [if_neg k3]
        try with_reducible rfl
      try simp only [Act.put, List.setIfInBounds_toArray, List.set_cons_zero, List.set_cons_succ, List.getElem_toArray, List.getElem_cons_zero, List.getElem_cons_succ]
      refine wpAnyH_take (i := 4) (v := ?vd4) rfl (by kernel_rfl) (by kernel_rfl) (by kernel_rfl) (fun _ _ _ h => h) (Or.inl ⟨by rfl, ?hyd4⟩) (by assumption) ?restd4
      case hyd4 =>
        intro w hSw
        try dsimp only at hSw
        go_simp
        try rw [if_neg k0]
        try rw [if_neg k1]
        try rw [if_neg k2]
        try rw [if_neg k3]
        try with_reducible rfl
      try simp only [Act.put, List.setIfInBounds_toArray, List.set_cons_zero, List.set_cons_succ, List.getElem_toArray, List.getElem_cons_zero, List.getElem_cons_succ]
      refine wpAnyH_take (i := 8) (v := ?vd8) rfl (by kernel_rfl) (by kernel_rfl) (by kernel_rfl) (fun _ _ _ h => h) (Or.inl ⟨by rfl, ?hyd8⟩) (by assumption) ?restd8
      case hyd8 =>
        intro w hSw
        try dsimp only at hSw
        go_simp
        try rw [if_neg k0]
        try rw [if_neg k1]
        try rw [if_neg k2]
        try rw [if_neg k3]
        try with_reducible rfl
      try simp only [Act.put, List.setIfInBounds_toArray, List.set_cons_zero, List.set_cons_succ, List.getElem_toArray, List.getElem_cons_zero, List.getElem_cons_succ]
      refine wpAnyH_take (i := 9) (v := ?vd9) rfl (by kernel_rfl) (by kernel_rfl) (by kernel_rfl) (fun _ _ _ h => h) (Or.inl ⟨by rfl, ?hyd9⟩) (by assumption) ?restd9
      case hyd9 =>
        intro w hSw
        try dsimp only at hSw
        go_simp
        try rw [if_neg k0]
        try rw [if_neg k1]
        try rw [if_neg k2]
        try rw [if_neg k3]
        try with_reducible rfl
      try simp only [Act.put, List.setIfInBounds_toArray, List.set_cons_zero, List.set_cons_succ, List.getElem_toArray, List.getElem_cons_zero, List.getElem_cons_succ]
      refine wpAnyH_take (i := 10) (v := ?vd10) rfl (by kernel_rfl) (by kernel_rfl) (by kernel_rfl) (fun _ _ _ h => h) (Or.inl ⟨by rfl, ?hyd10⟩) (by assumption) ?restd10
      case hyd10 =>
        intro w hSw
        try dsimp only at hSw
        go_simp
        try rw [if_neg k0]
        try rw [if_neg k1]
        try rw [if_neg k2]
        try rw [if_neg k3]
        try with_reducible rfl
      try simp only [Act.put, List.setIfInBounds_toArray, List.set_cons_zero, List.set_cons_succ, List.getElem_toArray, List.getElem_cons_zero, List.getElem_cons_succ]
      refine wpAnyH_ready (rs := [11]) (by kernel_rfl) (by simp) ?_
      refine AllReadyH.cons rfl (fun K hK => ?_) AllReadyH.nil
      go_simp
      go_wp2_with fail
      refine hK.out _ _ ?_ (fun hHeld4 => ?_)
      · trivial
      clear hK K
      try simp only [Act.put, List.setIfInBounds_toArray, List.set_cons_zero, List.set_cons_succ, List.getElem_toArray, List.getElem_cons_zero, List.getElem_cons_succ]
      refine wpAnyH_done (by kernel_rfl) ?_ _
      have hs3 := Sep.blkSet (A := [_]) HS2.out 1 (.string X3)
      have m0 := (Sep.blkAt (A := [_]) hs3 (j := 0) rfl).1
      have m1 := (Sep.blkAt (A := [_]) hs3 (j := 1) rfl).1
      have m2 := (Sep.blkAt (A := [_]) hs3 (j := 2) rfl)
      have hs4 := Sep.blkSet (A := [_]) hs3 2 (.int .i64 ((many : Int) + 1))
      have HB3 := Lib.hid ((HB2.out.setCell (p := ⟨gb, 1, none⟩) (Sep.blkLt (A := [_]) HS2.out).1 (.string X3)).setCell (p := ⟨gb, 2, none⟩) (Sep.blkLt (A := [_]) HS2.out).1 (.int .i64 ((many : Int) + 1)))
      obtain ⟨m3, m4⟩ := m2
      have HS4 := Lib.hid hs4
      clear hs3 hs4 c0 c1 c2 f1 f2 HS2 HB2
      go_upto_region 3 with fail
      have n0 := (Sep.blkAt (A := [_]) HS4.out (j := 0) rfl).1
      have n1 := (Sep.blkAt (A := [_]) HS4.out (j := 1) rfl).1
      have n2 := (Sep.blkAt (A := [_]) HS4.out (j := 2) rfl).1
      clear m0 m1 m3 m4
      generalize (w2.setCell ⟨gb, 1, none⟩ (.string X3)).setCell ⟨gb, 2, none⟩ (.int .i64 ((many : Int) + 1)) = w3 at *
      have s0 := Sep.blkAt (A := []) HS4.out (j := 0) rfl
      have s1 := Sep.blkAt (A := []) HS4.out (j := 1) rfl
      have s2 := Sep.blkAt (A := []) HS4.out (j := 2) rfl
      have h5 := Sep.blkSet (A := []) HS4.out 0 (.slice ao N cap)
      have h6 := Sep.blkSet (A := []) h5 1 (.string X3)
      have h7 := Sep.blkSet (A := []) h6 2 (.int .i64 ((many : Int) + 1))
      have hl := (Sep.blkLt (A := []) HS4.out).1
      have HB7 := Lib.hid (((HB3.out.setCell (p := ⟨gs, 0, none⟩) hl (.slice ao N cap)).setCell (p := ⟨gs, 1, none⟩) hl (.string X3)).setCell (p := ⟨gs, 2, none⟩) hl (.int .i64 ((many : Int) + 1)))
      have t0 := (Sep.blkAt (A := []) h7 (j := 0) rfl).1
      have t1 := (Sep.blkAt (A := []) h7 (j := 1) rfl).1
      have t2 := (Sep.blkAt (A := []) h7 (j := 2) rfl).1
      obtain ⟨s0, s0'⟩ := s0
      obtain ⟨s1, s1'⟩ := s1
      obtain ⟨s2, s2'⟩ := s2
      clear h5 h6 h7 hl
      go_wp2
      try simp only [Exit.inBlock, Exit.then]
      refine bodyPost_ret (v := .agg #[.slice ao N cap, .string X3, .int .i64 ((many : Int) + 1)]) (by simp [results, Tryd.results17, go_sem, t0, t1, t2]) rfl ?_
      exact ⟨X3, rfl, HX3.out, HB7.out⟩
end Go.Proofs.YtbcfcjecobihnaaDoor
