/- (*book.Book).down, .Text. -/
import Derived.Test.YtbcfcjecobihnaaDoorBook
import Derived.Test.YtbcfcjecobihnaaDoorBookSum
import Derived.Test.YtbcfcjecobihnaaDoorShItoa
import Derived.Lib.ItoaLen
import Derived.Deep.RegionHeld3
namespace Go.Proofs.YtbcfcjecobihnaaDoor
open Go.RowKit
set_option linter.unusedVariables false
set_option maxRecDepth 100000

/-- The library's table of powers of ten is there. -/
def PowT (w : World) : Prop := Lib.TabIs Tryd.prog w "internal/strconv.uint64pow10" .u64 Lib.pow10Tab
theorem pow_named : Tryd.prog.globalNamed "internal/strconv.uint64pow10" = some 1 := by kernel_rfl
theorem PowT.below {B : Nat} {w w' : World} (h : PowT w) (hb : Below B w w') (hB : 1 < B) : PowT w' := by
  unfold PowT Lib.TabIs World.var? at *
  rw [pow_named] at *
  simp only [Option.bind_some] at *
  obtain ⟨-, -, -, -, hh⟩ := hb
  rw [hh _ hB]
  exact h
theorem PowT.pos {w : World} (h : PowT w) : 1 < w.heap.size := by
  unfold PowT Lib.TabIs World.var? at h
  rw [pow_named] at h
  simp only [Option.bind_some] at h
  rcases Nat.lt_or_ge 1 w.heap.size with h' | h'
  · exact h'
  · rw [Array.getElem?_eq_none h'] at h; cases h
theorem itoa_any (n : Nat) (w : World) (hn : n ≤ 9223372036854775807) (hp : PowT w) :
    Calls Tryd.prog 39 #[.int .i64 (n : Int)] w fun e w' => e = .returned (.string ⟨(Lib.decDigits n).toArray⟩) ∧ Below w.heap.size w w' := by
  refine (shelf_strconv_Itoa (n : Int) (by omega) (by omega) w hp).mono ?_
  rintro e w' ⟨rfl, k, os, rfl⟩
  rw [Lib.itoa_nonneg]
  exact ⟨rfl, rfl, rfl, rfl, by simp, fun j hj => by rw [Go.Sort.heap_grow_old _ _ (by simpa using hj)]; rfl⟩
theorem digits_len (n : Nat) (hn : n ≤ 9223372036854775807) : (Lib.decDigits n).length ≤ 21 := by
  have := Lib.itoa_length_le (n : Int) (by omega) (by omega)
  rwa [Lib.itoa_nonneg] at this
theorem ba_app (a b : ByteArray) : (a ++ b).data.toList = a.data.toList ++ b.data.toList := by simp [ByteArray.data_append]
theorem ba_eta (s : ByteArray) : (⟨s.data.toList.toArray⟩ : ByteArray) = s := by cases s; simp
/-- A word with numbers behind it; the line. -/
def wordOf (w : List UInt8) (ns : List Nat) : List UInt8 := ns.foldl (fun w n => w ++ 32 :: Lib.decDigits n) w
def lineOf (w : List UInt8) : List UInt8 := w ++ 32 :: (Lib.decDigits (sumB w) ++ [10])
theorem wordOf_snoc (w : List UInt8) (ns : List Nat) (n : Nat) : wordOf w (ns ++ [n]) = wordOf w ns ++ 32 :: Lib.decDigits n := by unfold wordOf; rw [List.foldl_append]; rfl
theorem wordOf_len (w : List UInt8) (ns : List Nat) (h : ∀ n ∈ ns, n ≤ 65535) : (wordOf w ns).length ≤ w.length + 22 * ns.length := by
  induction ns generalizing w with
  | nil => exact Nat.le_refl _
  | cons n r ih =>
    have h1 := ih (w ++ 32 :: Lib.decDigits n) (fun m hm => h m (List.mem_cons_of_mem _ hm))
    have h2 := digits_len n (by have := h n (List.mem_cons_self ..); omega)
    simp only [List.length_append, List.length_cons] at h1
    show (wordOf (w ++ 32 :: Lib.decDigits n) r).length ≤ _
    rw [List.length_cons]
    omega
theorem sumB_lt (l : List UInt8) : sumB l < 9973 := Nat.mod_lt _ (by decide)
theorem lineOf_len (w : List UInt8) : (lineOf w).length ≤ w.length + 23 := by
  have := digits_len (sumB w) (by have := sumB_lt w; omega)
  unfold lineOf
  simp only [List.length_append, List.length_cons, List.length_nil]
  omega
theorem sum_anyS (s : ByteArray) (w : World) (hl : s.data.toList.length ≤ 10000) : Calls Tryd.prog 41 #[.string s] w fun e w' => e = .returned (.int .i64 (sumB s.data.toList : Nat)) ∧ Below w.heap.size w w' := by
  have h := sum_any s.data.toList w hl
  rw [ba_eta] at h
  exact h
theorem text_any {B bb tb many : Nat} {w : World} {L : List Rte} {l : List UInt8} {F : List Ent} (h : BkS B w bb tb L l many F) :
    Calls Tryd.prog 10 #[.pointer (some ⟨bb, 0, none⟩)] w fun e w' => e = .returned (.string ⟨l.toArray⟩) ∧ BkS B w' bb tb L l many F ∧ Below B w w' := by
  obtain ⟨T, ad, v, h1, h2, h3, h4⟩ := h
  have HS := Lib.hid (string_any h4)
  clear h4
  go_enter Tryd.func10, Tryd.ntmps10
  go_wp2_with fail
  refine HS.out.mono ?_
  rintro e w1 ⟨rfl, hs, hb⟩
  have HS1 := Lib.hid hs
  have HB1 := Lib.hid hb
  clear hs hb HS
  go_wp2
  go_ret
  exact ⟨rfl, ⟨T, ad, v, h1, h2, h3, HS1.out⟩, HB1.out⟩
theorem write_bk {B bb tb many : Nat} {w : World} {L : List Rte} {l : List UInt8} {F : List Ent} (s : ByteArray) (h : BkS B w bb tb L l many F) (hB : B ≤ w.heap.size) (hs : 0 < s.size) (hl : l.length + s.size ≤ 140737488355328) :
    Calls Tryd.prog 40 #[.pointer (some ⟨bb, 1, none⟩), .string s] w fun e w' => (∃ n, e = .returned (.tuple #[.int .i64 n, .nilIface])) ∧ BkS B w' bb tb L (l ++ s.data.toList) many F ∧ Below B w w' := by
  obtain ⟨T, ad, v, h1, h2, h3, h4⟩ := h
  refine (write_any s h4 hB h3 hs hl).mono ?_
  rintro e w' ⟨he, ⟨v', hs'⟩, hb⟩
  exact ⟨he, ⟨T, _, v', h1, h2, .inr rfl, hs'⟩, hb⟩
set_option maxHeartbeats 2000000 in
theorem down_any (B bb tb many : Nat) (L : List Rte) (l : List UInt8) (F : List Ent) (w : World) (ws : ByteArray) (ao : Option Addr) (ac : Nat) (ns : List Nat) (hB : B ≤ w.heap.size) (hbk : BkS B w bb tb L l many F) (hp : PowT w) (hgB : 1 < B)
    (hns : ∀ n ∈ ns, n ≤ 65535) (hn3 : ns.length ≤ 3) (hws : ws.size ≤ 3) (hl : l.length ≤ 100000) (hm : many ≤ 60) (hA : IntSl w.heap.size w ao (ns.map fun (n : Nat) => (n : Int))) :
    Calls Tryd.prog 20 #[.pointer (some ⟨bb, 0, none⟩), .string ws, .slice ao ns.length ac] w fun e w' => e = .returned (.tuple #[]) ∧ BkS B w' bb tb L (l ++ lineOf (wordOf ws.data.toList ns)) (many + 1) F ∧ Below B w w' := by
  have HBK := Lib.hid hbk
  have HP := Lib.hid hp
  have HA := Lib.hid hA
  have HNS := Lib.hid hns
  clear hbk hp hA hns
  go_enter Tryd.func20, Tryd.ntmps20
  go_wp2
  go_loopw [1, 10] (fun sv iv wr => ∃ (k : Nat) (W : ByteArray), k ≤ ns.length ∧ sv = .string W ∧ iv = .int .i64 k ∧ Hid (W.data.toList = wordOf ws.data.toList (ns.take k)) ∧ Below w.heap.size w wr) (fun _ iv _ => ns.length - (intOf iv).toNat)
  case atStart => exact ⟨0, ws, Nat.zero_le _, rfl, rfl, rfl, Below.refl _ _⟩
  case round =>
    obtain ⟨k, W, hk, rfl, rfl, HW, hb1⟩ := hrel
    have HB1 := Lib.hid hb1
    obtain ⟨w1, hw1⟩ : ∃ w1, w1 = wr := ⟨_, rfl⟩
    obtain rfl := hw1
    have hsz := hb1.size
    have HP1 := Lib.hid (HP.out.below hb1 (Nat.lt_of_lt_of_le hgB hB))
    clear hb1
    by_cases hlt : k < ns.length
    · have hki : (k : Int) < (ns.length : Int) := by omega
      have hk0 : (0 : Int) ≤ (k : Int) := by omega
      obtain ⟨n, hn⟩ : ∃ n, ns[k]? = some n := ⟨_, List.getElem?_eq_getElem hlt⟩
      obtain ⟨b0, off0, rfl, hb0, c0⟩ := HA.out k (n : Int) (by rw [List.getElem?_map, hn]; rfl)
      have c1 : w1.cell? ⟨b0, off0 + k, none⟩ = some (.int .i64 (n : Int)) := (HB1.out.cell (p := ⟨b0, off0 + k, none⟩) hb0).trans c0
      have hn1 := HNS.out n (List.mem_iff_getElem?.2 ⟨k, hn⟩)
      have htk : ns.take (k + 1) = ns.take k ++ [n] := by rw [List.take_add_one, hn]; rfl
      have HTK := Lib.hid htk
      clear hn htk c0
      go_wp2_with fail
      refine (itoa_any n w1 (by omega) HP1.out).mono ?_
      rintro e w2 ⟨rfl, hb⟩
      have HB2 := Lib.hid (HB1.out.trans (hb.mono hsz))
      clear hb c1
      have hdl := digits_len n (by omega)
      have hwl := wordOf_len ws.data.toList (ns.take k) (fun m hm => HNS.out m (List.mem_of_mem_take hm))
      rw [← HW.out, bytes_len, bytes_len, List.length_take] at hwl
      have hwl2 : W.size ≤ 100 := by omega
      clear hwl
      go_wp2
      go_roundw
      case rel =>
        refine ⟨k + 1, _, by omega, rfl, by go_num, ?_, HB2.out⟩
        show _ = _
        rw [HTK.out, wordOf_snoc, ← HW.out, ba_app, ba_app]
        rfl
      case measure => simp [intOf]; omega
    · have hd : decide ((k : Int) < (ns.length : Int)) = false := decide_eq_false (by omega)
      have hd2 : decide (k < ns.length) = false := decide_eq_false hlt
      have hw : W.data.toList = wordOf ws.data.toList ns := by rw [HW.out, List.take_of_length_le (by omega)]
      have hwl := wordOf_len ws.data.toList ns HNS.out
      rw [← hw, bytes_len, bytes_len] at hwl
      have hwl2 : W.size ≤ 100 := by omega
      obtain ⟨sm, hsm⟩ : ∃ sm, sm = sumB W.data.toList := ⟨_, rfl⟩
      have hsm2 : sm < 9973 := by rw [hsm]; exact sumB_lt _
      have hdl := digits_len sm (by omega)
      have hsum : ∀ w' : World, Calls Tryd.prog 41 #[.string W] w' fun e w'' => e = .returned (.int .i64 (sm : Nat)) ∧ Below w'.heap.size w' w'' := fun w' => by rw [hsm]; exact sum_anyS W w' (by rw [bytes_len]; omega)
      have HSUM := Lib.hid hsum
      have HWW := Lib.hid hw
      have HSM := Lib.hid hsm
      clear hlt hw hwl hsm hsum HA
      have HGB := Lib.hid hgB
      obtain ⟨X1, hX1⟩ : ∃ X, X = W ++ (⟨#[32]⟩ : ByteArray) := ⟨_, rfl⟩
      obtain ⟨X2, hX2⟩ : ∃ X, X = X1 ++ (⟨(Lib.decDigits sm).toArray⟩ : ByteArray) := ⟨_, rfl⟩
      obtain ⟨X3, hX3⟩ : ∃ X, X = X2 ++ (⟨#[10]⟩ : ByteArray) := ⟨_, rfl⟩
      have z1 : X1.size = W.size + 1 := by rw [hX1]; exact ByteArray.size_append
      have z2 : X2.size = X1.size + (Lib.decDigits sm).length := by rw [hX2, ByteArray.size_append]; rfl
      have z3 : X3.size = X2.size + 1 := by rw [hX3]; exact ByteArray.size_append
      have k1 : ¬ 9223372036854775807 < W.size + 1 := by omega
      have k2 : ¬ 9223372036854775807 < X1.size + (Lib.decDigits sm).length := by omega
      have k3 : ¬ 9223372036854775807 < X2.size + 1 := by omega
      have hx3 : X3.data.toList = lineOf W.data.toList := by
        rw [hX3, hX2, hX1, ba_app, ba_app, ba_app]
        unfold lineOf
        rw [HSM.out]
        simp
      have HX3 := Lib.hid hx3
      have hz0 : 0 < X3.size := by omega
      have hz1 : X3.size ≤ 1000 := by omega
      have e1 := hX1.symm
      have e2 := hX2.symm
      have e3 := hX3.symm
      clear hX1 hX2 hX3 hx3 z1 z2 z3
      go_upto_region 5 with fail
      refine wp_region_held_drew (S := fun w' => True) (by kernel_rfl) ?hS0 (fun hHeld => ?start0)
      case hS0 => trivial
      refine wpAnyH_take (i := 0) (v := ?v0) rfl (by kernel_rfl) (by kernel_rfl) (by kernel_rfl) (fun _ _ _ h => h) (Or.inl ⟨by rfl, ?hy0⟩) (by assumption) ?rest0
      case hy0 =>
        intro w hSw
        try dsimp only at hSw
        go_simp
        try rw [if_neg k1]
        try rw [if_neg k2]
        try rw [if_neg k3]
        try with_reducible rfl
      try simp only [Act.put, List.setIfInBounds_toArray, List.set_cons_zero, List.set_cons_succ, List.getElem_toArray, List.getElem_cons_zero]
      refine wpAnyH_take (i := 1) (v := ?v1) rfl (by kernel_rfl) (by kernel_rfl) (by kernel_rfl) (fun _ _ _ h => h) (Or.inl ⟨by rfl, ?hy1⟩) (by assumption) ?rest1
      case hy1 =>
        intro w hSw
        try dsimp only at hSw
        go_simp
        try rw [if_neg k1]
        try rw [if_neg k2]
        try rw [if_neg k3]
        try with_reducible rfl
      try simp only [Act.put, List.setIfInBounds_toArray, List.set_cons_zero, List.set_cons_succ, List.getElem_toArray, List.getElem_cons_zero, List.getElem_cons_succ]
      refine wpAnyH_take (i := 2) (v := ?v2) rfl (by kernel_rfl) (by kernel_rfl) (by kernel_rfl) (fun _ _ _ h => h) (Or.inl ⟨by rfl, ?hy2⟩) (by assumption) ?rest2
      case hy2 =>
        intro w hSw
        try dsimp only at hSw
        go_simp
        try rw [if_neg k1]
        try rw [if_neg k2]
        try rw [if_neg k3]
        try with_reducible rfl
      try simp only [Act.put, List.setIfInBounds_toArray, List.set_cons_zero, List.set_cons_succ, List.getElem_toArray, List.getElem_cons_zero, List.getElem_cons_succ]
      refine wpAnyH_take (i := 3) (v := ?v3) rfl (by kernel_rfl) (by kernel_rfl) (by kernel_rfl) (fun _ _ _ h => h) (Or.inl ⟨by rfl, ?hy3⟩) (by assumption) ?rest3
      case hy3 =>
        intro w hSw
        try dsimp only at hSw
        go_simp
        try rw [if_neg k1]
        try rw [if_neg k2]
        try rw [if_neg k3]
        try with_reducible rfl
      try simp only [Act.put, List.setIfInBounds_toArray, List.set_cons_zero, List.set_cons_succ, List.getElem_toArray, List.getElem_cons_zero, List.getElem_cons_succ]
      refine wpAnyH_take (i := 4) (v := ?v4) rfl (by kernel_rfl) (by kernel_rfl) (by kernel_rfl) (fun _ _ _ h => h) (Or.inl ⟨by rfl, ?hy4⟩) (by assumption) ?rest4
      case hy4 =>
        intro w hSw
        try dsimp only at hSw
        go_simp
        try rw [if_neg k1]
        try rw [if_neg k2]
        try rw [if_neg k3]
        try with_reducible rfl
      try simp only [Act.put, List.setIfInBounds_toArray, List.set_cons_zero, List.set_cons_succ, List.getElem_toArray, List.getElem_cons_zero, List.getElem_cons_succ]
      refine wpAnyH_take (i := 5) (v := ?v5) rfl (by kernel_rfl) (by kernel_rfl) (by kernel_rfl) (fun _ _ _ h => h) (Or.inl ⟨by rfl, ?hy5⟩) (by assumption) ?rest5
      case hy5 =>
        intro w hSw
        try dsimp only at hSw
        go_simp
        try rw [if_neg k1]
        try rw [if_neg k2]
        try rw [if_neg k3]
        try with_reducible rfl
      try simp only [Act.put, List.setIfInBounds_toArray, List.set_cons_zero, List.set_cons_succ, List.getElem_toArray, List.getElem_cons_zero, List.getElem_cons_succ]
      refine wpAnyH_ready (rs := [6]) (by kernel_rfl) (by simp) ?_
      refine AllReadyH.cons rfl (fun K hK => ?_) AllReadyH.nil
      go_simp
      go_at_call 41
      refine (HSUM.out _).mono ?_
      rintro e w2 ⟨rfl, hb⟩
      have HB2 := Lib.hid (HB1.out.drew.trans (hb.mono hsz))
      clear hb
      go_wp2_with fail
      refine hK.out _ _ ?_ (fun hHeld1 => ?_)
      · trivial
      clear hK K
      try simp only [Act.put, List.setIfInBounds_toArray, List.set_cons_zero, List.set_cons_succ, List.getElem_toArray, List.getElem_cons_zero, List.getElem_cons_succ]
      refine wpAnyH_ready (rs := [7]) (by kernel_rfl) (by simp) ?_
      refine AllReadyH.cons rfl (fun K hK => ?_) AllReadyH.nil
      go_simp
      go_at_call 39
      refine (itoa_any sm w2 (by omega) (HP.out.below HB2.out (Nat.lt_of_lt_of_le HGB.out hB))).mono ?_
      rintro e w3 ⟨rfl, hb⟩
      have HB3 := Lib.hid (HB2.out.trans (hb.mono HB2.out.size))
      clear hb
      go_wp2_with fail
      refine hK.out _ _ ?_ (fun hHeld2 => ?_)
      · trivial
      clear hK K
      try simp only [Act.put, List.setIfInBounds_toArray, List.set_cons_zero, List.set_cons_succ, List.getElem_toArray, List.getElem_cons_zero, List.getElem_cons_succ]
      refine wpAnyH_take (i := 8) (v := ?v8) rfl (by kernel_rfl) (by kernel_rfl) (by kernel_rfl) (fun _ _ _ h => h) (Or.inl ⟨by rfl, ?hy8⟩) (by assumption) ?rest8
      case hy8 =>
        intro w hSw
        try dsimp only at hSw
        go_simp
        try rw [if_neg k1]
        try rw [if_neg k2]
        try rw [if_neg k3]
        try with_reducible rfl
      try simp only [Act.put, List.setIfInBounds_toArray, List.set_cons_zero, List.set_cons_succ, List.getElem_toArray, List.getElem_cons_zero, List.getElem_cons_succ]
      refine wpAnyH_take (i := 9) (v := ?v9) rfl (by kernel_rfl) (by kernel_rfl) (by kernel_rfl) (fun _ _ _ h => h) (Or.inl ⟨by rfl, ?hy9⟩) (by assumption) ?rest9
      case hy9 =>
        intro w hSw
        try dsimp only at hSw
        go_simp
        try rw [if_neg k1]
        try rw [if_neg k2]
        try rw [if_neg k3]
        try with_reducible rfl
      try simp only [Act.put, List.setIfInBounds_toArray, List.set_cons_zero, List.set_cons_succ, List.getElem_toArray, List.getElem_cons_zero, List.getElem_cons_succ]
      refine wpAnyH_ready (rs := [10]) (by kernel_rfl) (by simp) ?_
      refine AllReadyH.cons rfl (fun K hK => ?_) AllReadyH.nil
      go_simp
      go_at_call 40
      refine (write_bk X3 (HBK.out.kept HB3.out) (Nat.le_trans hB HB3.out.size) hz0 (by omega)).mono ?_
      rintro e w4 ⟨⟨nn, rfl⟩, hbk4, hb4⟩
      have HB4 := Lib.hid ((HB3.out.mono hB).trans hb4)
      have HBK4 := Lib.hid hbk4
      clear hbk4 hb4
      go_wp2_with fail
      refine hK.out _ _ ?_ (fun hHeld3 => ?_)
      · trivial
      clear hK K
      try simp only [Act.put, List.setIfInBounds_toArray, List.set_cons_zero, List.set_cons_succ, List.getElem_toArray, List.getElem_cons_zero, List.getElem_cons_succ]
      refine wpAnyH_done (by kernel_rfl) ?_ _
      obtain ⟨T, ad, v, t1, t2, t3, hs⟩ := HBK4.out
      obtain ⟨c3, f3⟩ := Sep.blkAt (A := []) hs (j := 3) rfl
      have hs5 := Sep.blkSet (A := []) hs 3 (.int .i64 ((many + 1 : Nat) : Int))
      have hb5 := HB4.out.setCell (p := ⟨bb, 3, none⟩) (Sep.blkLt (A := []) hs).1 (.int .i64 ((many + 1 : Nat) : Int))
      have HS5 := Lib.hid hs5
      have HB5 := Lib.hid hb5
      clear hs hs5 hb5
      go_wp2
      go_end0
      refine ⟨rfl, ⟨T, ad, v, t1, t2, t3, ?_⟩, ?_⟩
      · rw [← HWW.out, ← HX3.out]; exact HS5.out
      · exact HB5.out
end Go.Proofs.YtbcfcjecobihnaaDoor
