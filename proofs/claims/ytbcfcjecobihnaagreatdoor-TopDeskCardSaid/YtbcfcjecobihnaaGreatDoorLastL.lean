/- lastLine of a text of lines; in. -/
import Derived.Test.YtbcfcjecobihnaaGreatDoorDskPlain
import Derived.Test.YtbcfcjecobihnaaGreatDoorBkTorn
import Derived.Deep.LoopGhost
namespace Go.Proofs.YtbcfcjecobihnaaGreatDoor
open Go.RowKit
set_option linter.unusedVariables false
set_option linter.unusedSimpArgs false
set_option maxRecDepth 100000

theorem endN_take {t : List UInt8} {k : Nat} (h : k = 0 ∨ t[k - 1]? = some 10) : EndN (t.take k) := by
  rcases h with rfl | h
  · exact .inl rfl
  · by_cases hk : k = 0
    · subst hk; exact .inl rfl
    · refine .inr ⟨t.take (k - 1), ?_⟩
      have : k = (k - 1) + 1 := by omega
      conv => lhs; rw [this, List.take_add_one, h]
      rfl
set_option maxHeartbeats 1000000 in
theorem lastLine4_any (P x : List UInt8) (w : World) (hP : EndN P) (hx : (10 : UInt8) ∉ x) (hl : (P ++ (x ++ [10])).length ≤ 10000000) :
    Calls Tryz.prog 28 #[.string (bytesOf (P ++ (x ++ [10])))] w fun e w' => e = .returned (.string (bytesOf (x ++ [10]))) ∧ Below w.heap.size w w' := by
  have hN : 10 ∉ x := hx
  obtain ⟨l, hlE⟩ : ∃ l, l = P ++ (x ++ [10]) := ⟨_, rfl⟩
  obtain ⟨p, hp⟩ : ∃ p, p = P.length := ⟨_, rfl⟩
  obtain ⟨n, hn⟩ : ∃ n, n = x.length := ⟨_, rfl⟩
  have hlen : l.length = p + n + 1 := by rw [hlE, hp, hn]; simp; omega
  have hat : ∀ j c, x[j]? = some c → l[p + j]? = some c := fun j c h => by
    have hj : j < x.length := (List.getElem?_eq_some_iff.1 h).1
    rw [hlE, hp, List.getElem?_append_right (by omega), Nat.add_sub_cancel_left, List.getElem?_append_left hj, h]
  have hnl : 0 < p → l[p - 1]? = some 10 := fun h => by
    rcases hP with rfl | ⟨A, rfl⟩
    · simp at hp; omega
    · rw [hlE, hp, List.length_append, List.length_singleton, Nat.add_sub_cancel, List.append_assoc, List.getElem?_append_right (Nat.le_refl _), Nat.sub_self]; rfl
  have hdr : l.drop p = x ++ [10] := by rw [hlE, hp, List.drop_left]
  have hext : (bytesOf l).extract p l.length = bytesOf (x ++ [10]) := by rw [ext_drop, hdr]
  rw [← hlE] at hl ⊢
  obtain ⟨t, ht⟩ : ∃ t, t = bytesOf l := ⟨_, rfl⟩
  have hsz : t.size = l.length := by rw [ht]; rfl
  have hbt : ∀ k c, l[k]? = some c → t[k]? = some c := fun k c h => by rw [ht]; exact bytes_at h
  rw [← ht] at hext ⊢
  have HAT := Lib.hid (fun j c h => hbt _ _ (hat j c h))
  have HNL := Lib.hid (fun h => hbt _ _ (hnl h))
  have HX := Lib.hid hN
  have HXL := Lib.hid hn
  obtain ⟨k0, hk0⟩ : ∃ k0, k0 = p + n := ⟨_, rfl⟩
  obtain ⟨L, hL⟩ : ∃ L, L = l.length := ⟨_, rfl⟩
  rw [← hL] at hsz hext hl hlen
  have hk0I : (L : Int) - 1 = (k0 : Int) := by omega
  have HB0 := Lib.hid (Below.refl w.heap.size w)
  have HK0 := Lib.hid (And.intro hk0 hlen)
  clear hP hx hN hlE hp hn hat hnl hdr ht hbt hk0 hL hlen
  go_enter Tryz.func28, Tryz.ntmps28
  go_wp2
  go_loopg [3] n (fun gk iv wr => ∃ (j i : Nat), gk = j ∧ j ≤ n ∧ i = p + j ∧ iv = .int .i64 i ∧ Below w.heap.size w wr)
  case atStart => exact ⟨n, k0, rfl, Nat.le_refl _, HK0.out.1, rfl, HB0.out⟩
  case round =>
    obtain ⟨gi, rfl⟩ : ∃ gi, gi = gk := ⟨_, rfl⟩
    obtain ⟨_, i, rfl, hjn, hi, rfl, hbel⟩ := hrel
    have hlk := HK0.out
    have HB1 := Lib.hid hbel
    clear HB0 hbel
    obtain ⟨w1, hw1⟩ : ∃ w1, w1 = wr := ⟨_, rfl⟩
    obtain rfl := hw1
    have hil : i < L := by omega
    by_cases hj : 0 < gi
    · obtain ⟨c, hc⟩ : ∃ c, x[gi - 1]? = some c := ⟨_, List.getElem?_eq_getElem (by rw [← HXL.out]; omega)⟩
      have hct0 := HAT.out _ _ hc
      obtain ⟨i1, hi1⟩ : ∃ i1, i1 = p + (gi - 1) := ⟨_, rfl⟩
      rw [← hi1] at hct0
      have his : i1 < t.size := by omega
      have hct := byte_at hct0 his
      clear hct0
      have hii : (i : Int) - 1 = (i1 : Int) := by omega
      have hi10 : (0 : Int) ≤ (i1 : Int) := by omega
      have hi1l : (i1 : Int) < (L : Int) := by omega
      have hpos : decide ((0 : Int) < (i : Int)) = true := decide_eq_true (by omega)
      have hposn : decide (0 < i) = true := decide_eq_true (by omega)
      have hc10 : c ≠ 10 := fun h => HX.out (List.mem_iff_getElem?.2 ⟨_, by rw [hc, h]⟩)
      have hcn : ((c.toNat : Int) != 10) = true := bne_iff_ne.2 (fun h => hc10 (UInt8.toNat_inj.1 (show c.toNat = (10 : UInt8).toNat by simpa using (by omega : c.toNat = 10))))
      have HI := Lib.hid (show i1 = p + (gi - 1) from hi1)
      clear hc hc10 hi1 hlk hi
      go_wp2
      go_roundg (gi - 1)
      case measure => omega
      case rel => exact ⟨gi - 1, i1, rfl, by omega, HI.out, by go_num, HB1.out⟩
    · obtain rfl : gi = 0 := by omega
      obtain rfl : i = p := by omega
      clear hlk
      have hp0 : (0 : Int) ≤ (i : Int) := by omega
      have hpl : (i : Int) ≤ (L : Int) := by omega
      have hneg : decide ((i : Int) < 0) = false := decide_eq_false (by omega)
      by_cases hpp : 0 < i
      · have hct0 := HNL.out hpp
        obtain ⟨i1, hi1⟩ : ∃ i1, i1 = i - 1 := ⟨_, rfl⟩
        rw [← hi1] at hct0
        have his : i1 < t.size := by omega
        have hct := byte_at hct0 his
        clear hct0
        have hii : (i : Int) - 1 = (i1 : Int) := by omega
        have hi10 : (0 : Int) ≤ (i1 : Int) := by omega
        have hi1l : (i1 : Int) < (L : Int) := by omega
        have hpos : decide ((0 : Int) < (i : Int)) = true := decide_eq_true (by omega)
        have hposn : decide (0 < i) = true := decide_eq_true hpp
        have hcn : (((10 : UInt8).toNat : Int) != 10) = false := by decide
        clear hi1 hi hjn hj hpp
        go_wp2
        go_ret
        exact ⟨rfl, HB1.out⟩
      · have hpos : decide ((0 : Int) < (i : Int)) = false := decide_eq_false (by omega)
        have hposn : decide (0 < i) = false := decide_eq_false hpp
        clear hi hjn hj hpp
        go_wp2
        go_ret
        exact ⟨rfl, HB1.out⟩
set_option maxHeartbeats 1000000 in
theorem lastLineT_any (P x : List UInt8) (w : World) (hP : EndN P) (hx : (10 : UInt8) ∉ x) (hl : (P ++ (x ++ [10])).length ≤ 10000000) :
    Calls Tryz.prog 34 #[.string (bytesOf (P ++ (x ++ [10])))] w fun e w' => e = .returned (.string (bytesOf (x ++ [10]))) ∧ Below w.heap.size w w' := by
  have hN : 10 ∉ x := hx
  obtain ⟨l, hlE⟩ : ∃ l, l = P ++ (x ++ [10]) := ⟨_, rfl⟩
  obtain ⟨p, hp⟩ : ∃ p, p = P.length := ⟨_, rfl⟩
  obtain ⟨n, hn⟩ : ∃ n, n = x.length := ⟨_, rfl⟩
  have hlen : l.length = p + n + 1 := by rw [hlE, hp, hn]; simp; omega
  have hat : ∀ j c, x[j]? = some c → l[p + j]? = some c := fun j c h => by
    have hj : j < x.length := (List.getElem?_eq_some_iff.1 h).1
    rw [hlE, hp, List.getElem?_append_right (by omega), Nat.add_sub_cancel_left, List.getElem?_append_left hj, h]
  have hnl : 0 < p → l[p - 1]? = some 10 := fun h => by
    rcases hP with rfl | ⟨A, rfl⟩
    · simp at hp; omega
    · rw [hlE, hp, List.length_append, List.length_singleton, Nat.add_sub_cancel, List.append_assoc, List.getElem?_append_right (Nat.le_refl _), Nat.sub_self]; rfl
  have hdr : l.drop p = x ++ [10] := by rw [hlE, hp, List.drop_left]
  have hext : (bytesOf l).extract p l.length = bytesOf (x ++ [10]) := by rw [ext_drop, hdr]
  rw [← hlE] at hl ⊢
  obtain ⟨t, ht⟩ : ∃ t, t = bytesOf l := ⟨_, rfl⟩
  have hsz : t.size = l.length := by rw [ht]; rfl
  have hbt : ∀ k c, l[k]? = some c → t[k]? = some c := fun k c h => by rw [ht]; exact bytes_at h
  rw [← ht] at hext ⊢
  have HAT := Lib.hid (fun j c h => hbt _ _ (hat j c h))
  have HNL := Lib.hid (fun h => hbt _ _ (hnl h))
  have HX := Lib.hid hN
  have HXL := Lib.hid hn
  obtain ⟨k0, hk0⟩ : ∃ k0, k0 = p + n := ⟨_, rfl⟩
  obtain ⟨L, hL⟩ : ∃ L, L = l.length := ⟨_, rfl⟩
  rw [← hL] at hsz hext hl hlen
  have hk0I : (L : Int) - 1 = (k0 : Int) := by omega
  have HB0 := Lib.hid (Below.refl w.heap.size w)
  have HK0 := Lib.hid (And.intro hk0 hlen)
  clear hP hx hN hlE hp hn hat hnl hdr ht hbt hk0 hL hlen
  go_enter Tryz.func34, Tryz.ntmps34
  go_wp2
  go_loopg [3] n (fun gk iv wr => ∃ (j i : Nat), gk = j ∧ j ≤ n ∧ i = p + j ∧ iv = .int .i64 i ∧ Below w.heap.size w wr)
  case atStart => exact ⟨n, k0, rfl, Nat.le_refl _, HK0.out.1, rfl, HB0.out⟩
  case round =>
    obtain ⟨gi, rfl⟩ : ∃ gi, gi = gk := ⟨_, rfl⟩
    obtain ⟨_, i, rfl, hjn, hi, rfl, hbel⟩ := hrel
    have hlk := HK0.out
    have HB1 := Lib.hid hbel
    clear HB0 hbel
    obtain ⟨w1, hw1⟩ : ∃ w1, w1 = wr := ⟨_, rfl⟩
    obtain rfl := hw1
    have hil : i < L := by omega
    by_cases hj : 0 < gi
    · obtain ⟨c, hc⟩ : ∃ c, x[gi - 1]? = some c := ⟨_, List.getElem?_eq_getElem (by rw [← HXL.out]; omega)⟩
      have hct0 := HAT.out _ _ hc
      obtain ⟨i1, hi1⟩ : ∃ i1, i1 = p + (gi - 1) := ⟨_, rfl⟩
      rw [← hi1] at hct0
      have his : i1 < t.size := by omega
      have hct := byte_at hct0 his
      clear hct0
      have hii : (i : Int) - 1 = (i1 : Int) := by omega
      have hi10 : (0 : Int) ≤ (i1 : Int) := by omega
      have hi1l : (i1 : Int) < (L : Int) := by omega
      have hpos : decide ((0 : Int) < (i : Int)) = true := decide_eq_true (by omega)
      have hposn : decide (0 < i) = true := decide_eq_true (by omega)
      have hc10 : c ≠ 10 := fun h => HX.out (List.mem_iff_getElem?.2 ⟨_, by rw [hc, h]⟩)
      have hcn : ((c.toNat : Int) != 10) = true := bne_iff_ne.2 (fun h => hc10 (UInt8.toNat_inj.1 (show c.toNat = (10 : UInt8).toNat by simpa using (by omega : c.toNat = 10))))
      have HI := Lib.hid (show i1 = p + (gi - 1) from hi1)
      clear hc hc10 hi1 hlk hi
      go_wp2
      go_roundg (gi - 1)
      case measure => omega
      case rel => exact ⟨gi - 1, i1, rfl, by omega, HI.out, by go_num, HB1.out⟩
    · obtain rfl : gi = 0 := by omega
      obtain rfl : i = p := by omega
      clear hlk
      have hp0 : (0 : Int) ≤ (i : Int) := by omega
      have hpl : (i : Int) ≤ (L : Int) := by omega
      have hneg : decide ((i : Int) < 0) = false := decide_eq_false (by omega)
      by_cases hpp : 0 < i
      · have hct0 := HNL.out hpp
        obtain ⟨i1, hi1⟩ : ∃ i1, i1 = i - 1 := ⟨_, rfl⟩
        rw [← hi1] at hct0
        have his : i1 < t.size := by omega
        have hct := byte_at hct0 his
        clear hct0
        have hii : (i : Int) - 1 = (i1 : Int) := by omega
        have hi10 : (0 : Int) ≤ (i1 : Int) := by omega
        have hi1l : (i1 : Int) < (L : Int) := by omega
        have hpos : decide ((0 : Int) < (i : Int)) = true := decide_eq_true (by omega)
        have hposn : decide (0 < i) = true := decide_eq_true hpp
        have hcn : (((10 : UInt8).toNat : Int) != 10) = false := by decide
        clear hi1 hi hjn hj hpp
        go_wp2
        go_ret
        exact ⟨rfl, HB1.out⟩
      · have hpos : decide ((0 : Int) < (i : Int)) = false := decide_eq_false (by omega)
        have hposn : decide (0 < i) = false := decide_eq_false hpp
        clear hi hjn hj hpp
        go_wp2
        go_ret
        exact ⟨rfl, HB1.out⟩
theorem in4_any (n lo hi : Int) (w : World) : Calls Tryz.prog 26 #[.int .i64 n, .int .i64 lo, .int .i64 hi] w fun e w' => e = .returned (.bool (decide (lo ≤ n ∧ n ≤ hi))) ∧ w' = w := by
  go_enter Tryz.func26, Tryz.ntmps26
  by_cases h1 : lo ≤ n
  · have d1 : decide (lo ≤ n) = true := decide_eq_true h1
    by_cases h2 : n ≤ hi
    · have d2 : decide (n ≤ hi) = true := decide_eq_true h2
      have HB := Lib.hid (show decide (lo ≤ n ∧ n ≤ hi) = true from decide_eq_true ⟨h1, h2⟩)
      clear h1 h2
      go_wp2
      go_ret
      rw [HB.out]
      exact ⟨rfl, rfl⟩
    · have d2 : decide (n ≤ hi) = false := decide_eq_false h2
      have HB := Lib.hid (show decide (lo ≤ n ∧ n ≤ hi) = false from decide_eq_false fun h => h2 h.2)
      clear h1 h2
      go_wp2
      go_ret
      rw [HB.out]
      exact ⟨rfl, rfl⟩
  · have d1 : decide (lo ≤ n) = false := decide_eq_false h1
    have HB := Lib.hid (show decide (lo ≤ n ∧ n ≤ hi) = false from decide_eq_false fun h => h1 h.1)
    clear h1
    go_wp2
    go_ret
    rw [HB.out]
    exact ⟨rfl, rfl⟩
theorem inT_any (n lo hi : Int) (w : World) : Calls Tryz.prog 33 #[.int .i64 n, .int .i64 lo, .int .i64 hi] w fun e w' => e = .returned (.bool (decide (lo ≤ n ∧ n ≤ hi))) ∧ w' = w := by
  go_enter Tryz.func33, Tryz.ntmps33
  by_cases h1 : lo ≤ n
  · have d1 : decide (lo ≤ n) = true := decide_eq_true h1
    by_cases h2 : n ≤ hi
    · have d2 : decide (n ≤ hi) = true := decide_eq_true h2
      have HB := Lib.hid (show decide (lo ≤ n ∧ n ≤ hi) = true from decide_eq_true ⟨h1, h2⟩)
      clear h1 h2
      go_wp2
      go_ret
      rw [HB.out]
      exact ⟨rfl, rfl⟩
    · have d2 : decide (n ≤ hi) = false := decide_eq_false h2
      have HB := Lib.hid (show decide (lo ≤ n ∧ n ≤ hi) = false from decide_eq_false fun h => h2 h.2)
      clear h1 h2
      go_wp2
      go_ret
      rw [HB.out]
      exact ⟨rfl, rfl⟩
  · have d1 : decide (lo ≤ n) = false := decide_eq_false h1
    have HB := Lib.hid (show decide (lo ≤ n ∧ n ≤ hi) = false from decide_eq_false fun h => h1 h.1)
    clear h1
    go_wp2
    go_ret
    rw [HB.out]
    exact ⟨rfl, rfl⟩
/-- One of the law's four lines: the session, and its last line. -/
structure RunLast (f : Nat) (G : Nat) (w : World) (arg y : ByteArray) : Prop where
  go : ∃ (z : ByteArray) (S : Prop), (∀ w1, Below G w w1 → Calls Tryz.prog 24 #[.string arg] w1 fun e w' => e = .returned (.string z) ∧ Below w1.heap.size w1 w' ∧ S) ∧
    (S → ∀ w1, Calls Tryz.prog f #[.string z] w1 fun e w' => e = .returned (.string y) ∧ Below w1.heap.size w1 w')
end Go.Proofs.YtbcfcjecobihnaaGreatDoor
