/- Of the laws that the given statement is lifted from; each holds for every input that it names: Contracts of the shelf, laid by the kit's own tool (lay-shelf, lay-plain), its numbers turned to names. · (*book.Book).down, .Text. · ferryhytheref4.Book.down: by value. · (*lpm.Table).Find. -/
import Derived.Test.YtbcfcjecobihnaaGreatDoorRows
import Derived.Shelf.Strconv.Itoa0
import Derived.Shelf.Strconv.Itoa1
import Derived.Shelf.LaysM
import Derived.Shelf.Strconv.Itoa2
import Derived.Shelf.Strconv.Itoa3
import Derived.Test.YtbcfcjecobihnaaGreatDoorPk2
import Derived.Test.YtbcfcjecobihnaaGreatDoorPk1
import Derived.Lib.ItoaLen
import Derived.Deep.RegionHeld3

section
/- Contracts of the shelf, laid by the kit's own tool (lay-shelf, lay-plain), its numbers turned to names. -/
namespace Go.Proofs.YtbcfcjecobihnaaGreatDoor
open Go.Shelf Go.Proofs Go.Sort Go.RowKit Go.Lib
def shelf_laysM171_ren : Go.Shelf.Ren := ⟨fun | 171 => 65 | 243 => 93 | 246 => 121 | 283 => 139 | 284 => 140 | 285 => 141 | 286 => 142 | 129 => 103 | 317 => 151 | 318 => 152 | 319 => 153 | 320 => 154 | 337 => 158 | 338 => 159 | n => n, fun | 3 => 3 | 9 => 9 | 2 => 2 | 4 => 4 | 171 => 193 | 0 => 0 | 53 => 151 | 37 => 31 | 5 => 5 | 173 => 195 | 212 => 205 | 51 => 149 | 20 => 20 | 213 => 206 | 46 => 111 | 232 => 217 | 233 => 218 | n => n, fun | 17 => 4 | 18 => 7 | 19 => 8 | n => n⟩
theorem shelf_laysM171 : Go.Proofs.LaysM.n171 Tryz.prog shelf_laysM171_ren := {
  mixed := by kernel_rfl
  f129 := Tryz.func103.trans (congrArg some (by kernel_rfl))
  f171 := Tryz.func65.trans (congrArg some (by kernel_rfl))
  f243 := Tryz.func93.trans (congrArg some (by kernel_rfl))
  f246 := Tryz.func121.trans (congrArg some (by kernel_rfl))
  f283 := Tryz.func139.trans (congrArg some (by kernel_rfl))
  f284 := Tryz.func140.trans (congrArg some (by kernel_rfl))
  f285 := Tryz.func141.trans (congrArg some (by kernel_rfl))
  f286 := Tryz.func142.trans (congrArg some (by kernel_rfl))
  f317 := Tryz.func151.trans (congrArg some (by kernel_rfl))
  f318 := Tryz.func152.trans (congrArg some (by kernel_rfl))
  f319 := Tryz.func153.trans (congrArg some (by kernel_rfl))
  f320 := Tryz.func154.trans (congrArg some (by kernel_rfl))
  f337 := Tryz.func158.trans (congrArg some (by kernel_rfl))
  f338 := Tryz.func159.trans (congrArg some (by kernel_rfl))
  t0 := Tryz.underlying0
  a0 := Tryz.isAgg0
  z0 := Tryz.sizeOf0
  v0 := Tryz.zeroValue0
  t2 := Tryz.underlying2
  a2 := Tryz.isAgg2
  z2 := Tryz.sizeOf2
  v2 := Tryz.zeroValue2
  t3 := Tryz.underlying3
  a3 := Tryz.isAgg3
  z3 := Tryz.sizeOf3
  v3 := Tryz.zeroValue3
  t4 := Tryz.underlying4
  a4 := Tryz.isAgg4
  z4 := Tryz.sizeOf4
  v4 := Tryz.zeroValue4
  t5 := Tryz.underlying5
  a5 := Tryz.isAgg5
  z5 := Tryz.sizeOf5
  v5 := Tryz.zeroValue5
  t9 := Tryz.underlying9
  a9 := Tryz.isAgg9
  z9 := Tryz.sizeOf9
  v9 := Tryz.zeroValue9
  t20 := Tryz.underlying20
  a20 := Tryz.isAgg20
  z20 := Tryz.sizeOf20
  v20 := Tryz.zeroValue20
  t37 := Tryz.underlying31
  a37 := Tryz.isAgg31
  z37 := Tryz.sizeOf31
  v37 := Tryz.zeroValue31
  t46 := Tryz.underlying111
  a46 := Tryz.isAgg111
  z46 := Tryz.sizeOf111
  v46 := Tryz.zeroValue111
  t51 := Tryz.underlying149
  a51 := Tryz.isAgg149
  z51 := Tryz.sizeOf149
  v51 := Tryz.zeroValue149
  t53 := Tryz.underlying151
  a53 := Tryz.isAgg151
  z53 := Tryz.sizeOf151
  v53 := Tryz.zeroValue151
  t171 := Tryz.underlying193
  a171 := Tryz.isAgg193
  z171 := Tryz.sizeOf193
  v171 := Tryz.zeroValue193
  t173 := Tryz.underlying195
  a173 := Tryz.isAgg195
  z173 := Tryz.sizeOf195
  v173 := Tryz.zeroValue195
  t212 := Tryz.underlying205
  a212 := Tryz.isAgg205
  z212 := Tryz.sizeOf205
  v212 := Tryz.zeroValue205
  t213 := Tryz.underlying206
  a213 := Tryz.isAgg206
  z213 := Tryz.sizeOf206
  t232 := Tryz.underlying217
  a232 := Tryz.isAgg217
  z232 := Tryz.sizeOf217
  v232 := Tryz.zeroValue217
  t233 := Tryz.underlying218
  a233 := Tryz.isAgg218
  z233 := Tryz.sizeOf218
  v233 := Tryz.zeroValue218
  g17 := by kernel_rfl
  g18 := by kernel_rfl
  g19 := by kernel_rfl
  i0 := by kernel_rfl
  i2 := by kernel_rfl
  i3 := by kernel_rfl
  i4 := by kernel_rfl
  i5 := by kernel_rfl
  i9 := by kernel_rfl
  i20 := by kernel_rfl
  i37 := by kernel_rfl
  i46 := by kernel_rfl
  i51 := by kernel_rfl
  i53 := by kernel_rfl
  i171 := by kernel_rfl
  i173 := by kernel_rfl
  i212 := by kernel_rfl
  i232 := by kernel_rfl
  i233 := by kernel_rfl
  m17 := by kernel_rfl
  m18 := by kernel_rfl
  m19 := by kernel_rfl }
theorem shelf_strconv_Itoa (n : Int) (h0 : -9223372036854775808 ≤ n) (h1 : n ≤ 9223372036854775807) (w : World) (htab : Lib.TabIs Tryz.prog w "internal/strconv.uint64pow10" .u64 Lib.pow10Tab) :
    Calls Tryz.prog 65 #[.int .i64 n] w fun e w' => e = .returned (.string ⟨(Lib.itoa n).toArray⟩) ∧ ∃ k os, w' = grow (w.drewN k) os := Any.strconv_Itoa shelf_laysM171 n h0 h1 w htab
end Go.Proofs.YtbcfcjecobihnaaGreatDoor

end

section
/- (*book.Book).down, .Text. -/
namespace Go.Proofs.YtbcfcjecobihnaaGreatDoor
open Go.RowKit
set_option linter.unusedVariables false
set_option maxRecDepth 100000

/-- The library's table of powers of ten is there. -/
def PowT (w : World) : Prop := Lib.TabIs Tryz.prog w "internal/strconv.uint64pow10" .u64 Lib.pow10Tab
theorem pow_named : Tryz.prog.globalNamed "internal/strconv.uint64pow10" = some 4 := by kernel_rfl
theorem PowT.below {B : Nat} {w w' : World} (h : PowT w) (hb : Below B w w') (hB : 4 < B) : PowT w' := by
  unfold PowT Lib.TabIs World.var? at *
  rw [pow_named] at *
  simp only [Option.bind_some] at *
  obtain ⟨-, -, -, -, hh⟩ := hb
  rw [hh _ hB]
  exact h
theorem PowT.pos {w : World} (h : PowT w) : 4 < w.heap.size := by
  unfold PowT Lib.TabIs World.var? at h
  rw [pow_named] at h
  simp only [Option.bind_some] at h
  rcases Nat.lt_or_ge 4 w.heap.size with h' | h'
  · exact h'
  · rw [Array.getElem?_eq_none h'] at h; cases h
theorem itoa_any (n : Nat) (w : World) (hn : n ≤ 9223372036854775807) (hp : PowT w) :
    Calls Tryz.prog 65 #[.int .i64 (n : Int)] w fun e w' => e = .returned (.string ⟨(Lib.decDigits n).toArray⟩) ∧ Below w.heap.size w w' := by
  refine (shelf_strconv_Itoa (n : Int) (by omega) (by omega) w hp).mono ?_
  rintro e w' ⟨rfl, k, os, rfl⟩
  rw [Lib.itoa_nonneg]
  exact ⟨rfl, rfl, rfl, rfl, by simp, fun j hj => by rw [Go.Sort.heap_grow_old _ _ (by simpa using hj)]; rfl⟩
theorem digits_len (n : Nat) (hn : n ≤ 9223372036854775807) : (Lib.decDigits n).length ≤ 21 := by
  have := Lib.itoa_length_le (n : Int) (by omega) (by omega)
  rwa [Lib.itoa_nonneg] at this
theorem ba_app (a b : ByteArray) : (a ++ b).data.toList = a.data.toList ++ b.data.toList := by simp [ByteArray.data_append]
theorem ba_eta (s : ByteArray) : (⟨s.data.toList.toArray⟩ : ByteArray) = s := by cases s; simp
/-- A word with numbers behind it; the line. -/
def wordOf (w : List UInt8) (ns : List Nat) : List UInt8 := ns.foldl (fun w n => w ++ 32 :: Lib.decDigits n) w
def lineOf (w : List UInt8) : List UInt8 := w ++ 32 :: (Lib.decDigits (sumB w) ++ [10])
theorem wordOf_snoc (w : List UInt8) (ns : List Nat) (n : Nat) : wordOf w (ns ++ [n]) = wordOf w ns ++ 32 :: Lib.decDigits n := by unfold wordOf; rw [List.foldl_append]; rfl
theorem wordOf_len (w : List UInt8) (ns : List Nat) (h : ∀ n ∈ ns, n ≤ 65535) : (wordOf w ns).length ≤ w.length + 22 * ns.length := by
  induction ns generalizing w with
  | nil => exact Nat.le_refl _
  | cons n r ih =>
    have h1 := ih (w ++ 32 :: Lib.decDigits n) (fun m hm => h m (List.mem_cons_of_mem _ hm))
    have h2 := digits_len n (by have := h n (List.mem_cons_self ..); omega)
    simp only [List.length_append, List.length_cons] at h1
    show (wordOf (w ++ 32 :: Lib.decDigits n) r).length ≤ _
    rw [List.length_cons]
    omega
theorem sumB_lt (l : List UInt8) : sumB l < 9973 := Nat.mod_lt _ (by decide)
theorem lineOf_len (w : List UInt8) : (lineOf w).length ≤ w.length + 23 := by
  have := digits_len (sumB w) (by have := sumB_lt w; omega)
  unfold lineOf
  simp only [List.length_append, List.length_cons, List.length_nil]
  omega
theorem sum_anyS (s : ByteArray) (w : World) (hl : s.data.toList.length ≤ 10000) : Calls Tryz.prog 62 #[.string s] w fun e w' => e = .returned (.int .i64 (sumB s.data.toList : Nat)) ∧ Below w.heap.size w w' := by
  have h := sum_any s.data.toList w hl
  rw [ba_eta] at h
  exact h
theorem text_any {B bb tb many : Nat} {w : World} {L : List Rte} {l : List UInt8} {F : List Ent} (h : BkS B w bb tb L l many F) :
    Calls Tryz.prog 15 #[.pointer (some ⟨bb, 0, none⟩)] w fun e w' => e = .returned (.string ⟨l.toArray⟩) ∧ BkS B w' bb tb L l many F ∧ Below B w w' := by
  obtain ⟨T, ad, v, h1, h2, h3, h4⟩ := h
  have HS := Lib.hid (string_any h4)
  clear h4
  go_enter Tryz.func15, Tryz.ntmps15
  go_wp2_with fail
  refine HS.out.mono ?_
  rintro e w1 ⟨rfl, hs, hb⟩
  have HS1 := Lib.hid hs
  have HB1 := Lib.hid hb
  clear hs hb HS
  go_wp2
  go_ret
  exact ⟨rfl, ⟨T, ad, v, h1, h2, h3, HS1.out⟩, HB1.out⟩
theorem write_bk {B bb tb many : Nat} {w : World} {L : List Rte} {l : List UInt8} {F : List Ent} (s : ByteArray) (h : BkS B w bb tb L l many F) (hB : B ≤ w.heap.size) (hs : 0 < s.size) (hl : l.length + s.size ≤ 140737488355328) :
    Calls Tryz.prog 48 #[.pointer (some ⟨bb, 1, none⟩), .string s] w fun e w' => (∃ n, e = .returned (.tuple #[.int .i64 n, .nilIface])) ∧ BkS B w' bb tb L (l ++ s.data.toList) many F ∧ Below B w w' := by
  obtain ⟨T, ad, v, h1, h2, h3, h4⟩ := h
  refine (write_any s h4 hB h3 hs hl).mono ?_
  rintro e w' ⟨he, ⟨v', hs'⟩, hb⟩
  exact ⟨he, ⟨T, _, v', h1, h2, .inr rfl, hs'⟩, hb⟩
set_option maxHeartbeats 2000000 in
theorem down_any (B bb tb many : Nat) (L : List Rte) (l : List UInt8) (F : List Ent) (w : World) (ws : ByteArray) (ao : Option Addr) (ac : Nat) (ns : List Nat) (hB : B ≤ w.heap.size) (hbk : BkS B w bb tb L l many F) (hp : PowT w) (hgB : 4 < B)
    (hns : ∀ n ∈ ns, n ≤ 65535) (hn3 : ns.length ≤ 3) (hws : ws.size ≤ 3) (hl : l.length ≤ 100000) (hm : many ≤ 60) (hA : IntSl w.heap.size w ao (ns.map fun (n : Nat) => (n : Int))) :
    Calls Tryz.prog 40 #[.pointer (some ⟨bb, 0, none⟩), .string ws, .slice ao ns.length ac] w fun e w' => e = .returned (.tuple #[]) ∧ BkS B w' bb tb L (l ++ lineOf (wordOf ws.data.toList ns)) (many + 1) F ∧ Below B w w' := by
  have HBK := Lib.hid hbk
  have HP := Lib.hid hp
  have HA := Lib.hid hA
  have HNS := Lib.hid hns
  clear hbk hp hA hns
  go_enter Tryz.func40, Tryz.ntmps40
  go_wp2
  go_loopw [1, 10] (fun sv iv wr => ∃ (k : Nat) (W : ByteArray), k ≤ ns.length ∧ sv = .string W ∧ iv = .int .i64 k ∧ Hid (W.data.toList = wordOf ws.data.toList (ns.take k)) ∧ Below w.heap.size w wr) (fun _ iv _ => ns.length - (intOf iv).toNat)
  case atStart => exact ⟨0, ws, Nat.zero_le _, rfl, rfl, rfl, Below.refl _ _⟩
  case round =>
    obtain ⟨k, W, hk, rfl, rfl, HW, hb1⟩ := hrel
    have HB1 := Lib.hid hb1
    obtain ⟨w1, hw1⟩ : ∃ w1, w1 = wr := ⟨_, rfl⟩
    obtain rfl := hw1
    have hsz := hb1.size
    have HP1 := Lib.hid (HP.out.below hb1 (Nat.lt_of_lt_of_le hgB hB))
    clear hb1
    by_cases hlt : k < ns.length
    · have hki : (k : Int) < (ns.length : Int) := by omega
      have hk0 : (0 : Int) ≤ (k : Int) := by omega
      obtain ⟨n, hn⟩ : ∃ n, ns[k]? = some n := ⟨_, List.getElem?_eq_getElem hlt⟩
      obtain ⟨b0, off0, rfl, hb0, c0⟩ := HA.out k (n : Int) (by rw [List.getElem?_map, hn]; rfl)
      have c1 : w1.cell? ⟨b0, off0 + k, none⟩ = some (.int .i64 (n : Int)) := (HB1.out.cell (p := ⟨b0, off0 + k, none⟩) hb0).trans c0
      have hn1 := HNS.out n (List.mem_iff_getElem?.2 ⟨k, hn⟩)
      have htk : ns.take (k + 1) = ns.take k ++ [n] := by rw [List.take_add_one, hn]; rfl
      have HTK := Lib.hid htk
      clear hn htk c0
      go_wp2_with fail
      refine (itoa_any n w1 (by omega) HP1.out).mono ?_
      rintro e w2 ⟨rfl, hb⟩
      have HB2 := Lib.hid (HB1.out.trans (hb.mono hsz))
      clear hb c1
      have hdl := digits_len n (by omega)
      have hwl := wordOf_len ws.data.toList (ns.take k) (fun m hm => HNS.out m (List.mem_of_mem_take hm))
      rw [← HW.out, bytes_len, bytes_len, List.length_take] at hwl
      have hwl2 : W.size ≤ 100 := by omega
      clear hwl
      go_wp2
      go_roundw
      case rel =>
        refine ⟨k + 1, _, by omega, rfl, by go_num, ?_, HB2.out⟩
        show _ = _
        rw [HTK.out, wordOf_snoc, ← HW.out, ba_app, ba_app]
        rfl
      case measure => simp [intOf]; omega
    · have hd : decide ((k : Int) < (ns.length : Int)) = false := decide_eq_false (by omega)
      have hd2 : decide (k < ns.length) = false := decide_eq_false hlt
      have hw : W.data.toList = wordOf ws.data.toList ns := by rw [HW.out, List.take_of_length_le (by omega)]
      have hwl := wordOf_len ws.data.toList ns HNS.out
      rw [← hw, bytes_len, bytes_len] at hwl
      have hwl2 : W.size ≤ 100 := by omega
      obtain ⟨sm, hsm⟩ : ∃ sm, sm = sumB W.data.toList := ⟨_, rfl⟩
      have hsm2 : sm < 9973 := by rw [hsm]; exact sumB_lt _
      have hdl := digits_len sm (by omega)
      have hsum : ∀ w' : World, Calls Tryz.prog 62 #[.string W] w' fun e w'' => e = .returned (.int .i64 (sm : Nat)) ∧ Below w'.heap.size w' w'' := fun w' => by rw [hsm]; exact sum_anyS W w' (by rw [bytes_len]; omega)
      have HSUM := Lib.hid hsum
      have HWW := Lib.hid hw
      have HSM := Lib.hid hsm
      clear hlt hw hwl hsm hsum HA
      have HGB := Lib.hid hgB
      obtain ⟨X1, hX1⟩ : ∃ X, X = W ++ (⟨#[32]⟩ : ByteArray) := ⟨_, rfl⟩
      obtain ⟨X2, hX2⟩ : ∃ X, X = X1 ++ (⟨(Lib.decDigits sm).toArray⟩ : ByteArray) := ⟨_, rfl⟩
      obtain ⟨X3, hX3⟩ : ∃ X, X = X2 ++ (⟨#[10]⟩ : ByteArray) := ⟨_, rfl⟩
      have z1 : X1.size = W.size + 1 := by rw [hX1]; exact ByteArray.size_append
      have z2 : X2.size = X1.size + (Lib.decDigits sm).length := by rw [hX2, ByteArray.size_append]; rfl
      have z3 : X3.size = X2.size + 1 := by rw [hX3]; exact ByteArray.size_append
      have k1 : ¬ 9223372036854775807 < W.size + 1 := by omega
      have k2 : ¬ 9223372036854775807 < X1.size + (Lib.decDigits sm).length := by omega
      have k3 : ¬ 9223372036854775807 < X2.size + 1 := by omega
      have hx3 : X3.data.toList = lineOf W.data.toList := by
        rw [hX3, hX2, hX1, ba_app, ba_app, ba_app]
        unfold lineOf
        rw [HSM.out]
        simp
      have HX3 := Lib.hid hx3
      have hz0 : 0 < X3.size := by omega
      have hz1 : X3.size ≤ 1000 := by omega
      have e1 := hX1.symm
      have e2 := hX2.symm
      have e3 := hX3.symm
      clear hX1 hX2 hX3 hx3 z1 z2 z3
      go_upto_region 5 with fail
      refine wp_region_held_drew (S := fun w' => True) (by kernel_rfl) ?hS0 (fun hHeld => ?start0)
      case hS0 => trivial
      refine wpAnyH_take (i := 0) (v := ?v0) rfl (by kernel_rfl) (by kernel_rfl) (by kernel_rfl) (fun _ _ _ h => h) (Or.inl ⟨by rfl, ?hy0⟩) (by assumption) ?rest0
      case hy0 =>
        intro w hSw
        try dsimp only at hSw
        go_simp
        try rw [if_neg k1]
        try rw [if_neg k2]
        try rw [if_neg k3]
        try with_reducible rfl
      try simp only [Act.put, List.setIfInBounds_toArray, List.set_cons_zero, List.set_cons_succ, List.getElem_toArray, List.getElem_cons_zero]
      refine wpAnyH_take (i := 1) (v := ?v1) rfl (by kernel_rfl) (by kernel_rfl) (by kernel_rfl) (fun _ _ _ h => h) (Or.inl ⟨by rfl, ?hy1⟩) (by assumption) ?rest1
      case hy1 =>
        intro w hSw
        try dsimp only at hSw
        go_simp
        try rw [if_neg k1]
        try rw [if_neg k2]
        try rw [if_neg k3]
        try with_reducible rfl
      try simp only [Act.put, List.setIfInBounds_toArray, List.set_cons_zero, List.set_cons_succ, List.getElem_toArray, List.getElem_cons_zero, List.getElem_cons_succ]
      refine wpAnyH_take (i := 2) (v := ?v2) rfl (by kernel_rfl) (by kernel_rfl) (by kernel_rfl) (fun _ _ _ h => h) (Or.inl ⟨by rfl, ?hy2⟩) (by assumption) ?rest2
      case hy2 =>
        intro w hSw
        try dsimp only at hSw
        go_simp
        try rw [if_neg k1]
        try rw [if_neg k2]
        try rw [if_neg k3]
        try with_reducible rfl
      try simp only [Act.put, List.setIfInBounds_toArray, List.set_cons_zero, List.set_cons_succ, List.getElem_toArray, List.getElem_cons_zero, List.getElem_cons_succ]
      refine wpAnyH_take (i := 3) (v := ?v3) rfl (by kernel_rfl) (by kernel_rfl) (by kernel_rfl) (fun _ _ _ h => h) (Or.inl ⟨by rfl, ?hy3⟩) (by assumption) ?rest3
      case hy3 =>
        intro w hSw
        try dsimp only at hSw
        go_simp
        try rw [if_neg k1]
        try rw [if_neg k2]
        try rw [if_neg k3]
        try with_reducible rfl
      try simp only [Act.put, List.setIfInBounds_toArray, List.set_cons_zero, List.set_cons_succ, List.getElem_toArray, List.getElem_cons_zero, List.getElem_cons_succ]
      refine wpAnyH_take (i := 4) (v := ?v4) rfl (by kernel_rfl) (by kernel_rfl) (by kernel_rfl) (fun _ _ _ h => h) (Or.inl ⟨by rfl, ?hy4⟩) (by assumption) ?rest4
      case hy4 =>
        intro w hSw
        try dsimp only at hSw
        go_simp
        try rw [if_neg k1]
        try rw [if_neg k2]
        try rw [if_neg k3]
        try with_reducible rfl
      try simp only [Act.put, List.setIfInBounds_toArray, List.set_cons_zero, List.set_cons_succ, List.getElem_toArray, List.getElem_cons_zero, List.getElem_cons_succ]
      refine wpAnyH_take (i := 5) (v := ?v5) rfl (by kernel_rfl) (by kernel_rfl) (by kernel_rfl) (fun _ _ _ h => h) (Or.inl ⟨by rfl, ?hy5⟩) (by assumption) ?rest5
      case hy5 =>
        intro w hSw
        try dsimp only at hSw
        go_simp
        try rw [if_neg k1]
        try rw [if_neg k2]
        try rw [if_neg k3]
        try with_reducible rfl
      try simp only [Act.put, List.setIfInBounds_toArray, List.set_cons_zero, List.set_cons_succ, List.getElem_toArray, List.getElem_cons_zero, List.getElem_cons_succ]
      refine wpAnyH_ready (rs := [6]) (by kernel_rfl) (by simp) ?_
      refine AllReadyH.cons rfl (fun K hK => ?_) AllReadyH.nil
      go_simp
      go_at_call 62
      refine (HSUM.out _).mono ?_
      rintro e w2 ⟨rfl, hb⟩
      have HB2 := Lib.hid (HB1.out.drew.trans (hb.mono hsz))
      clear hb
      go_wp2_with fail
      refine hK.out _ _ ?_ (fun hHeld1 => ?_)
      · trivial
      clear hK K
      try simp only [Act.put, List.setIfInBounds_toArray, List.set_cons_zero, List.set_cons_succ, List.getElem_toArray, List.getElem_cons_zero, List.getElem_cons_succ]
      refine wpAnyH_ready (rs := [7]) (by kernel_rfl) (by simp) ?_
      refine AllReadyH.cons rfl (fun K hK => ?_) AllReadyH.nil
      go_simp
      go_at_call 65
      refine (itoa_any sm w2 (by omega) (HP.out.below HB2.out (Nat.lt_of_lt_of_le HGB.out hB))).mono ?_
      rintro e w3 ⟨rfl, hb⟩
      have HB3 := Lib.hid (HB2.out.trans (hb.mono HB2.out.size))
      clear hb
      go_wp2_with fail
      refine hK.out _ _ ?_ (fun hHeld2 => ?_)
      · trivial
      clear hK K
      try simp only [Act.put, List.setIfInBounds_toArray, List.set_cons_zero, List.set_cons_succ, List.getElem_toArray, List.getElem_cons_zero, List.getElem_cons_succ]
      refine wpAnyH_take (i := 8) (v := ?v8) rfl (by kernel_rfl) (by kernel_rfl) (by kernel_rfl) (fun _ _ _ h => h) (Or.inl ⟨by rfl, ?hy8⟩) (by assumption) ?rest8
      case hy8 =>
        intro w hSw
        try dsimp only at hSw
        go_simp
        try rw [if_neg k1]
        try rw [if_neg k2]
        try rw [if_neg k3]
        try with_reducible rfl
      try simp only [Act.put, List.setIfInBounds_toArray, List.set_cons_zero, List.set_cons_succ, List.getElem_toArray, List.getElem_cons_zero, List.getElem_cons_succ]
      refine wpAnyH_take (i := 9) (v := ?v9) rfl (by kernel_rfl) (by kernel_rfl) (by kernel_rfl) (fun _ _ _ h => h) (Or.inl ⟨by rfl, ?hy9⟩) (by assumption) ?rest9
      case hy9 =>
        intro w hSw
        try dsimp only at hSw
        go_simp
        try rw [if_neg k1]
        try rw [if_neg k2]
        try rw [if_neg k3]
        try with_reducible rfl
      try simp only [Act.put, List.setIfInBounds_toArray, List.set_cons_zero, List.set_cons_succ, List.getElem_toArray, List.getElem_cons_zero, List.getElem_cons_succ]
      refine wpAnyH_ready (rs := [10]) (by kernel_rfl) (by simp) ?_
      refine AllReadyH.cons rfl (fun K hK => ?_) AllReadyH.nil
      go_simp
      go_at_call 48
      refine (write_bk X3 (HBK.out.kept HB3.out) (Nat.le_trans hB HB3.out.size) hz0 (by omega)).mono ?_
      rintro e w4 ⟨⟨nn, rfl⟩, hbk4, hb4⟩
      have HB4 := Lib.hid ((HB3.out.mono hB).trans hb4)
      have HBK4 := Lib.hid hbk4
      clear hbk4 hb4
      go_wp2_with fail
      refine hK.out _ _ ?_ (fun hHeld3 => ?_)
      · trivial
      clear hK K
      try simp only [Act.put, List.setIfInBounds_toArray, List.set_cons_zero, List.set_cons_succ, List.getElem_toArray, List.getElem_cons_zero, List.getElem_cons_succ]
      refine wpAnyH_done (by kernel_rfl) ?_ _
      obtain ⟨T, ad, v, t1, t2, t3, hs⟩ := HBK4.out
      obtain ⟨c3, f3⟩ := Sep.blkAt (A := []) hs (j := 3) rfl
      have hs5 := Sep.blkSet (A := []) hs 3 (.int .i64 ((many + 1 : Nat) : Int))
      have hb5 := HB4.out.setCell (p := ⟨bb, 3, none⟩) (Sep.blkLt (A := []) hs).1 (.int .i64 ((many + 1 : Nat) : Int))
      have HS5 := Lib.hid hs5
      have HB5 := Lib.hid hb5
      clear hs hs5 hb5
      go_wp2
      go_end0
      refine ⟨rfl, ⟨T, ad, v, t1, t2, t3, ?_⟩, ?_⟩
      · rw [← HWW.out, ← HX3.out]; exact HS5.out
      · exact HB5.out
end Go.Proofs.YtbcfcjecobihnaaGreatDoor

end

section
/- ferryhytheref4.Book.down: by value. -/
namespace Go.Proofs.YtbcfcjecobihnaaGreatDoor
open Go.RowKit
set_option linter.unusedVariables false
set_option linter.unusedSimpArgs false
set_option maxRecDepth 100000

abbrev bkC (sp : Value) (s : ByteArray) (m : Int) : List Value := [sp, .string s, .int .i64 m]
abbrev bkE0 (gs : Nat) : Ent := Ent.blk1 gs 56 (bkC (.slice none 0 0) ⟨#[]⟩ 0)
set_option maxHeartbeats 2000000 in
theorem rbDown_any (ao : Option Addr) (N cap : Nat) (s line : ByteArray) (many : Nat) (w : World) (hs : s.size ≤ 100000) (hl : line.size ≤ 1000) (hm : many ≤ 100) :
    Calls Tryz.prog 105 #[.agg #[.slice ao N cap, .string s, .int .i64 (many : Int)], .string line] w fun e w' => ∃ s', e = .returned (.agg #[.slice ao N cap, .string s', .int .i64 ((many : Int) + 1)]) ∧ s'.data.toList = s.data.toList ++ lineOf line.data.toList ∧ Below w.heap.size w w' := by
  have hx := ((Sep.nil w.heap.size w).blkNew (Nat.le_refl _) #[.slice ao N cap, .string s, .int .i64 (many : Int)] 56).blkNew (by simp) #[.slice none 0 0, .string ⟨#[]⟩, .int .i64 0] 56
  rw [show (w.alloc (.cells #[.slice ao N cap, .string s, .int .i64 (many : Int)] 56)).heap.size = w.heap.size + 1 by simp] at hx
  obtain ⟨W, hW⟩ : ∃ W, W = (w.alloc (.cells #[.slice ao N cap, .string s, .int .i64 (many : Int)] 56)).alloc (.cells #[.slice none 0 0, .string ⟨#[]⟩, .int .i64 0] 56) := ⟨_, rfl⟩
  have hbW : Below w.heap.size w W := by rw [hW]; exact ((Below.refl _ w).alloc (Nat.le_refl _) _).alloc (by simp) _
  obtain ⟨gs, hgs⟩ : ∃ x, x = w.heap.size + 1 := ⟨_, rfl⟩
  obtain ⟨gb, hgb⟩ : ∃ x, x = w.heap.size := ⟨_, rfl⟩
  rw [← hW, ← hgs, ← hgb] at hx
  obtain ⟨w2, hw2⟩ : ∃ w2, w2 = W.drew := ⟨_, rfl⟩
  have HS2 : Hid (Sep gb w2 [Ent.blk1 gs 56 [.slice none 0 0, .string ⟨#[]⟩, .int .i64 0], Ent.blk1 gb 56 [.slice ao N cap, .string s, .int .i64 (many : Int)]]) := Lib.hid (by rw [hw2]; exact hx.drew)
  have HB2 : Hid (Below gb w w2) := Lib.hid (by rw [hw2, hgb]; exact hbW.drew)
  have HW := Lib.hid hW
  have HW2 := Lib.hid hw2
  have HGS := Lib.hid hgs
  have HGB := Lib.hid hgb
  obtain ⟨c0, -⟩ := Sep.blkAt (A := [_]) HS2.out (j := 0) rfl
  obtain ⟨c1, f1⟩ := Sep.blkAt (A := [_]) HS2.out (j := 1) rfl
  obtain ⟨c2, f2⟩ := Sep.blkAt (A := [_]) HS2.out (j := 2) rfl
  clear hx hbW hW hw2 hgs hgb
  obtain ⟨sm, hsm⟩ : ∃ sm, sm = sumB line.data.toList := ⟨_, rfl⟩
  have hsm2 : sm < 9973 := by rw [hsm]; exact sumB_lt _
  have hdl := digits_len sm (by omega)
  have hsum : ∀ w' : World, Calls Tryz.prog 70 #[.string line] w' fun e w'' => e = .returned (.int .i64 (sm : Nat)) ∧ w' = w'' := fun w' => by rw [hsm]; exact refSum_any line w' (by omega)
  have hdig : ∀ w' : World, Calls Tryz.prog 27 #[.int .i64 (sm : Nat)] w' fun e w'' => e = .returned (.string ⟨(Lib.decDigits sm).toArray⟩) ∧ w' = w'' := fun w' => refDigits_any sm w' (by omega)
  have HSUM := Lib.hid hsum
  have HDIG := Lib.hid hdig
  have HSM := Lib.hid hsm
  clear hsum hdig hsm
  obtain ⟨X0, hX0⟩ : ∃ X, X = s ++ line := ⟨_, rfl⟩
  obtain ⟨X1, hX1⟩ : ∃ X, X = X0 ++ (⟨#[32]⟩ : ByteArray) := ⟨_, rfl⟩
  obtain ⟨X2, hX2⟩ : ∃ X, X = X1 ++ (⟨(Lib.decDigits sm).toArray⟩ : ByteArray) := ⟨_, rfl⟩
  obtain ⟨X3, hX3⟩ : ∃ X, X = X2 ++ (⟨#[10]⟩ : ByteArray) := ⟨_, rfl⟩
  have z0 : X0.size = s.size + line.size := by rw [hX0]; exact ByteArray.size_append
  have z1 : X1.size = X0.size + 1 := by rw [hX1]; exact ByteArray.size_append
  have z2 : X2.size = X1.size + (Lib.decDigits sm).length := by rw [hX2, ByteArray.size_append]; rfl
  have k0 : ¬ 9223372036854775807 < s.size + line.size := by omega
  have k1 : ¬ 9223372036854775807 < X0.size + 1 := by omega
  have k2 : ¬ 9223372036854775807 < X1.size + (Lib.decDigits sm).length := by omega
  have k3 : ¬ 9223372036854775807 < X2.size + 1 := by omega
  have hx3 : X3.data.toList = s.data.toList ++ lineOf line.data.toList := by
    rw [hX3, hX2, hX1, hX0, ba_app, ba_app, ba_app, ba_app]
    unfold lineOf
    rw [HSM.out]
    simp
  have HX3 := Lib.hid hx3
  have e0 := hX0.symm
  have e1 := hX1.symm
  have e2 := hX2.symm
  have e3 := hX3.symm
  clear hX0 hX1 hX2 hX3 hx3 z0 z1 z2
  rw [← HGB.out]
  go_enter Tryz.func105, Tryz.ntmps105
  go_upto_region 1 with fail
  rw [← HGS.out, ← HGB.out]
  refine wp_region_held_drew (S := fun w' => True) (by kernel_rfl) ?hS0 (fun hHeld => ?start0)
  case hS0 => trivial
  rw [← HW.out, ← HW2.out]
  refine wpAnyH_take (i := 0) (v := ?va0) rfl (by kernel_rfl) (by kernel_rfl) (by kernel_rfl) (fun _ _ _ h => h) (Or.inl ⟨by rfl, ?hya0⟩) (by assumption) ?resta0
  case hya0 =>
    intro w hSw
    try dsimp only at hSw
    go_simp
    try with_reducible rfl
  try simp only [Act.put, List.setIfInBounds_toArray, List.set_cons_zero, List.set_cons_succ, List.getElem_toArray, List.getElem_cons_zero]
  refine wpAnyH_take (i := 2) (v := ?va2) rfl (by kernel_rfl) (by kernel_rfl) (by kernel_rfl) (fun _ _ _ h => h) (Or.inl ⟨by rfl, ?hya2⟩) (by assumption) ?resta2
  case hya2 =>
    intro w hSw
    try dsimp only at hSw
    go_simp
    try rw [if_neg k0]
    try rw [if_neg k1]
    try rw [if_neg k2]
    try rw [if_neg k3]
    try with_reducible rfl
  try simp only [Act.put, List.setIfInBounds_toArray, List.set_cons_zero, List.set_cons_succ, List.getElem_toArray, List.getElem_cons_zero, List.getElem_cons_succ]
  refine wpAnyH_take (i := 5) (v := ?va5) rfl (by kernel_rfl) (by kernel_rfl) (by kernel_rfl) (fun _ _ _ h => h) (Or.inl ⟨by rfl, ?hya5⟩) (by assumption) ?resta5
  case hya5 =>
    intro w hSw
    try dsimp only at hSw
    go_simp
    try rw [if_neg k0]
    try rw [if_neg k1]
    try rw [if_neg k2]
    try rw [if_neg k3]
    try with_reducible rfl
  try simp only [Act.put, List.setIfInBounds_toArray, List.set_cons_zero, List.set_cons_succ, List.getElem_toArray, List.getElem_cons_zero, List.getElem_cons_succ]
  refine wpAnyH_ready (rs := [1, 6]) (by kernel_rfl) (by simp) ?_
  refine AllReadyH.cons rfl (fun K hK => ?_) (AllReadyH.cons rfl (fun K hK => ?_) AllReadyH.nil)
  · go_simp
    go_wp2_with fail
    refine hK.out _ _ ?_ (fun hHeld1 => ?_)
    · trivial
    clear hK K
    try simp only [Act.put, List.setIfInBounds_toArray, List.set_cons_zero, List.set_cons_succ, List.getElem_toArray, List.getElem_cons_zero, List.getElem_cons_succ]
    refine wpAnyH_take (i := 3) (v := ?vb3) rfl (by kernel_rfl) (by kernel_rfl) (by kernel_rfl) (fun _ _ _ h => h) (Or.inl ⟨by rfl, ?hyb3⟩) (by assumption) ?restb3
    case hyb3 =>
      intro w hSw
      try dsimp only at hSw
      go_simp
      try rw [if_neg k0]
      try rw [if_neg k1]
      try rw [if_neg k2]
      try rw [if_neg k3]
      try with_reducible rfl
    try simp only [Act.put, List.setIfInBounds_toArray, List.set_cons_zero, List.set_cons_succ, List.getElem_toArray, List.getElem_cons_zero, List.getElem_cons_succ]
    refine wpAnyH_take (i := 4) (v := ?vb4) rfl (by kernel_rfl) (by kernel_rfl) (by kernel_rfl) (fun _ _ _ h => h) (Or.inl ⟨by rfl, ?hyb4⟩) (by assumption) ?restb4
    case hyb4 =>
      intro w hSw
      try dsimp only at hSw
      go_simp
      try rw [if_neg k0]
      try rw [if_neg k1]
      try rw [if_neg k2]
      try rw [if_neg k3]
      try with_reducible rfl
    try simp only [Act.put, List.setIfInBounds_toArray, List.set_cons_zero, List.set_cons_succ, List.getElem_toArray, List.getElem_cons_zero, List.getElem_cons_succ]
    refine wpAnyH_ready (rs := [6]) (by kernel_rfl) (by simp) ?_
    refine AllReadyH.cons rfl (fun K hK => ?_) AllReadyH.nil
    go_simp
    go_at_call 70
    refine (HSUM.out _).mono ?_
    rintro e w' ⟨rfl, rfl⟩
    go_wp2_with fail
    refine hK.out _ _ ?_ (fun hHeld1 => ?_)
    · trivial
    clear hK K
    try simp only [Act.put, List.setIfInBounds_toArray, List.set_cons_zero, List.set_cons_succ, List.getElem_toArray, List.getElem_cons_zero, List.getElem_cons_succ]
    refine wpAnyH_ready (rs := [7]) (by kernel_rfl) (by simp) ?_
    refine AllReadyH.cons rfl (fun K hK => ?_) AllReadyH.nil
    go_simp
    go_at_call 27
    refine (HDIG.out _).mono ?_
    rintro e w' ⟨rfl, rfl⟩
    go_wp2_with fail
    refine hK.out _ _ ?_ (fun hHeld2 => ?_)
    · trivial
    clear hK K
    try simp only [Act.put, List.setIfInBounds_toArray, List.set_cons_zero, List.set_cons_succ, List.getElem_toArray, List.getElem_cons_zero, List.getElem_cons_succ]
    refine wpAnyH_take (i := 8) (v := ?vb8) rfl (by kernel_rfl) (by kernel_rfl) (by kernel_rfl) (fun _ _ _ h => h) (Or.inl ⟨by rfl, ?hyb8⟩) (by assumption) ?restb8
    case hyb8 =>
      intro w hSw
      try dsimp only at hSw
      go_simp
      try rw [if_neg k0]
      try rw [if_neg k1]
      try rw [if_neg k2]
      try rw [if_neg k3]
      try with_reducible rfl
    try simp only [Act.put, List.setIfInBounds_toArray, List.set_cons_zero, List.set_cons_succ, List.getElem_toArray, List.getElem_cons_zero, List.getElem_cons_succ]
    refine wpAnyH_take (i := 9) (v := ?vb9) rfl (by kernel_rfl) (by kernel_rfl) (by kernel_rfl) (fun _ _ _ h => h) (Or.inl ⟨by rfl, ?hyb9⟩) (by assumption) ?restb9
    case hyb9 =>
      intro w hSw
      try dsimp only at hSw
      go_simp
      try rw [if_neg k0]
      try rw [if_neg k1]
      try rw [if_neg k2]
      try rw [if_neg k3]
      try with_reducible rfl
    try simp only [Act.put, List.setIfInBounds_toArray, List.set_cons_zero, List.set_cons_succ, List.getElem_toArray, List.getElem_cons_zero, List.getElem_cons_succ]
    refine wpAnyH_take (i := 10) (v := ?vb10) rfl (by kernel_rfl) (by kernel_rfl) (by kernel_rfl) (fun _ _ _ h => h) (Or.inl ⟨by rfl, ?hyb10⟩) (by assumption) ?restb10
    case hyb10 =>
      intro w hSw
      try dsimp only at hSw
      go_simp
      try rw [if_neg k0]
      try rw [if_neg k1]
      try rw [if_neg k2]
      try rw [if_neg k3]
      try with_reducible rfl
    try simp only [Act.put, List.setIfInBounds_toArray, List.set_cons_zero, List.set_cons_succ, List.getElem_toArray, List.getElem_cons_zero, List.getElem_cons_succ]
    refine wpAnyH_ready (rs := [11]) (by kernel_rfl) (by simp) ?_
    refine AllReadyH.cons rfl (fun K hK => ?_) AllReadyH.nil
    go_simp
    go_wp2_with fail
    refine hK.out _ _ ?_ (fun hHeld4 => ?_)
    · trivial
    clear hK K
    try simp only [Act.put, List.setIfInBounds_toArray, List.set_cons_zero, List.set_cons_succ, List.getElem_toArray, List.getElem_cons_zero, List.getElem_cons_succ]
    refine wpAnyH_done (by kernel_rfl) ?_ _
    have hs3 := Sep.blkSet (A := [_]) HS2.out 1 (.string X3)
    have m0 := (Sep.blkAt (A := [_]) hs3 (j := 0) rfl).1
    have m1 := (Sep.blkAt (A := [_]) hs3 (j := 1) rfl).1
    have m2 := (Sep.blkAt (A := [_]) hs3 (j := 2) rfl)
    have hs4 := Sep.blkSet (A := [_]) hs3 2 (.int .i64 ((many : Int) + 1))
    have HB3 := Lib.hid ((HB2.out.setCell (p := ⟨gb, 1, none⟩) (Sep.blkLt (A := [_]) HS2.out).1 (.string X3)).setCell (p := ⟨gb, 2, none⟩) (Sep.blkLt (A := [_]) HS2.out).1 (.int .i64 ((many : Int) + 1)))
    obtain ⟨m3, m4⟩ := m2
    have HS4 := Lib.hid hs4
    clear hs3 hs4 c0 c1 c2 f1 f2 HS2 HB2
    go_upto_region 3 with fail
    have n0 := (Sep.blkAt (A := [_]) HS4.out (j := 0) rfl).1
    have n1 := (Sep.blkAt (A := [_]) HS4.out (j := 1) rfl).1
    have n2 := (Sep.blkAt (A := [_]) HS4.out (j := 2) rfl).1
    clear m0 m1 m3 m4
    generalize (w2.setCell ⟨gb, 1, none⟩ (.string X3)).setCell ⟨gb, 2, none⟩ (.int .i64 ((many : Int) + 1)) = w3 at *
    have s0 := Sep.blkAt (A := []) HS4.out (j := 0) rfl
    have s1 := Sep.blkAt (A := []) HS4.out (j := 1) rfl
    have s2 := Sep.blkAt (A := []) HS4.out (j := 2) rfl
    have h5 := Sep.blkSet (A := []) HS4.out 0 (.slice ao N cap)
    have h6 := Sep.blkSet (A := []) h5 1 (.string X3)
    have h7 := Sep.blkSet (A := []) h6 2 (.int .i64 ((many : Int) + 1))
    have hl := (Sep.blkLt (A := []) HS4.out).1
    have HB7 := Lib.hid (((HB3.out.setCell (p := ⟨gs, 0, none⟩) hl (.slice ao N cap)).setCell (p := ⟨gs, 1, none⟩) hl (.string X3)).setCell (p := ⟨gs, 2, none⟩) hl (.int .i64 ((many : Int) + 1)))
    have t0 := (Sep.blkAt (A := []) h7 (j := 0) rfl).1
    have t1 := (Sep.blkAt (A := []) h7 (j := 1) rfl).1
    have t2 := (Sep.blkAt (A := []) h7 (j := 2) rfl).1
    obtain ⟨s0, s0'⟩ := s0
    obtain ⟨s1, s1'⟩ := s1
    obtain ⟨s2, s2'⟩ := s2
    clear h5 h6 h7 hl
    go_wp2
    try simp only [Exit.inBlock, Exit.then]
    refine bodyPost_ret (v := .agg #[.slice ao N cap, .string X3, .int .i64 ((many : Int) + 1)]) (by simp [results, Tryz.results105, go_sem, t0, t1, t2]) rfl ?_
    exact ⟨X3, rfl, HX3.out, HB7.out⟩
  · go_simp
    go_at_call 70
    refine (HSUM.out _).mono ?_
    rintro e w' ⟨rfl, rfl⟩
    go_wp2_with fail
    refine hK.out _ _ ?_ (fun hHeld1 => ?_)
    · trivial
    clear hK K
    try simp only [Act.put, List.setIfInBounds_toArray, List.set_cons_zero, List.set_cons_succ, List.getElem_toArray, List.getElem_cons_zero, List.getElem_cons_succ]
    refine wpAnyH_ready (rs := [1, 7]) (by kernel_rfl) (by simp) ?_
    refine AllReadyH.cons rfl (fun K hK => ?_) (AllReadyH.cons rfl (fun K hK => ?_) AllReadyH.nil)
    · go_simp
      go_wp2_with fail
      refine hK.out _ _ ?_ (fun hHeld3 => ?_)
      · trivial
      clear hK K
      try simp only [Act.put, List.setIfInBounds_toArray, List.set_cons_zero, List.set_cons_succ, List.getElem_toArray, List.getElem_cons_zero, List.getElem_cons_succ]
      refine wpAnyH_take (i := 3) (v := ?vc3) rfl (by kernel_rfl) (by kernel_rfl) (by kernel_rfl) (fun _ _ _ h => h) (Or.inl ⟨by rfl, ?hyc3⟩) (by assumption) ?restc3
      case hyc3 =>
        intro w hSw
        try dsimp only at hSw
        go_simp
        try rw [if_neg k0]
        try rw [if_neg k1]
        try rw [if_neg k2]
        try rw [if_neg k3]
        try with_reducible rfl
      try simp only [Act.put, List.setIfInBounds_toArray, List.set_cons_zero, List.set_cons_succ, List.getElem_toArray, List.getElem_cons_zero, List.getElem_cons_succ]
      refine wpAnyH_take (i := 4) (v := ?vc4) rfl (by kernel_rfl) (by kernel_rfl) (by kernel_rfl) (fun _ _ _ h => h) (Or.inl ⟨by rfl, ?hyc4⟩) (by assumption) ?restc4
      case hyc4 =>
        intro w hSw
        try dsimp only at hSw
        go_simp
        try rw [if_neg k0]
        try rw [if_neg k1]
        try rw [if_neg k2]
        try rw [if_neg k3]
        try with_reducible rfl
      try simp only [Act.put, List.setIfInBounds_toArray, List.set_cons_zero, List.set_cons_succ, List.getElem_toArray, List.getElem_cons_zero, List.getElem_cons_succ]
      refine wpAnyH_ready (rs := [7]) (by kernel_rfl) (by simp) ?_
      refine AllReadyH.cons rfl (fun K hK => ?_) AllReadyH.nil
      go_simp
      go_at_call 27
      refine (HDIG.out _).mono ?_
      rintro e w' ⟨rfl, rfl⟩
      go_wp2_with fail
      refine hK.out _ _ ?_ (fun hHeld2 => ?_)
      · trivial
      clear hK K
      try simp only [Act.put, List.setIfInBounds_toArray, List.set_cons_zero, List.set_cons_succ, List.getElem_toArray, List.getElem_cons_zero, List.getElem_cons_succ]
      refine wpAnyH_take (i := 8) (v := ?vc8) rfl (by kernel_rfl) (by kernel_rfl) (by kernel_rfl) (fun _ _ _ h => h) (Or.inl ⟨by rfl, ?hyc8⟩) (by assumption) ?restc8
      case hyc8 =>
        intro w hSw
        try dsimp only at hSw
        go_simp
        try rw [if_neg k0]
        try rw [if_neg k1]
        try rw [if_neg k2]
        try rw [if_neg k3]
        try with_reducible rfl
      try simp only [Act.put, List.setIfInBounds_toArray, List.set_cons_zero, List.set_cons_succ, List.getElem_toArray, List.getElem_cons_zero, List.getElem_cons_succ]
      refine wpAnyH_take (i := 9) (v := ?vc9) rfl (by kernel_rfl) (by kernel_rfl) (by kernel_rfl) (fun _ _ _ h => h) (Or.inl ⟨by rfl, ?hyc9⟩) (by assumption) ?restc9
      case hyc9 =>
        intro w hSw
        try dsimp only at hSw
        go_simp
        try rw [if_neg k0]
        try rw [if_neg k1]
        try rw [if_neg k2]
        try rw [if_neg k3]
        try with_reducible rfl
      try simp only [Act.put, List.setIfInBounds_toArray, List.set_cons_zero, List.set_cons_succ, List.getElem_toArray, List.getElem_cons_zero, List.getElem_cons_succ]
      refine wpAnyH_take (i := 10) (v := ?vc10) rfl (by kernel_rfl) (by kernel_rfl) (by kernel_rfl) (fun _ _ _ h => h) (Or.inl ⟨by rfl, ?hyc10⟩) (by assumption) ?restc10
      case hyc10 =>
        intro w hSw
        try dsimp only at hSw
        go_simp
        try rw [if_neg k0]
        try rw [if_neg k1]
        try rw [if_neg k2]
        try rw [if_neg k3]
        try with_reducible rfl
      try simp only [Act.put, List.setIfInBounds_toArray, List.set_cons_zero, List.set_cons_succ, List.getElem_toArray, List.getElem_cons_zero, List.getElem_cons_succ]
      refine wpAnyH_ready (rs := [11]) (by kernel_rfl) (by simp) ?_
      refine AllReadyH.cons rfl (fun K hK => ?_) AllReadyH.nil
      go_simp
      go_wp2_with fail
      refine hK.out _ _ ?_ (fun hHeld4 => ?_)
      · trivial
      clear hK K
      try simp only [Act.put, List.setIfInBounds_toArray, List.set_cons_zero, List.set_cons_succ, List.getElem_toArray, List.getElem_cons_zero, List.getElem_cons_succ]
      refine wpAnyH_done (by kernel_rfl) ?_ _
      have hs3 := Sep.blkSet (A := [_]) HS2.out 1 (.string X3)
      have m0 := (Sep.blkAt (A := [_]) hs3 (j := 0) rfl).1
      have m1 := (Sep.blkAt (A := [_]) hs3 (j := 1) rfl).1
      have m2 := (Sep.blkAt (A := [_]) hs3 (j := 2) rfl)
      have hs4 := Sep.blkSet (A := [_]) hs3 2 (.int .i64 ((many : Int) + 1))
      have HB3 := Lib.hid ((HB2.out.setCell (p := ⟨gb, 1, none⟩) (Sep.blkLt (A := [_]) HS2.out).1 (.string X3)).setCell (p := ⟨gb, 2, none⟩) (Sep.blkLt (A := [_]) HS2.out).1 (.int .i64 ((many : Int) + 1)))
      obtain ⟨m3, m4⟩ := m2
      have HS4 := Lib.hid hs4
      clear hs3 hs4 c0 c1 c2 f1 f2 HS2 HB2
      go_upto_region 3 with fail
      have n0 := (Sep.blkAt (A := [_]) HS4.out (j := 0) rfl).1
      have n1 := (Sep.blkAt (A := [_]) HS4.out (j := 1) rfl).1
      have n2 := (Sep.blkAt (A := [_]) HS4.out (j := 2) rfl).1
      clear m0 m1 m3 m4
      generalize (w2.setCell ⟨gb, 1, none⟩ (.string X3)).setCell ⟨gb, 2, none⟩ (.int .i64 ((many : Int) + 1)) = w3 at *
      have s0 := Sep.blkAt (A := []) HS4.out (j := 0) rfl
      have s1 := Sep.blkAt (A := []) HS4.out (j := 1) rfl
      have s2 := Sep.blkAt (A := []) HS4.out (j := 2) rfl
      have h5 := Sep.blkSet (A := []) HS4.out 0 (.slice ao N cap)
      have h6 := Sep.blkSet (A := []) h5 1 (.string X3)
      have h7 := Sep.blkSet (A := []) h6 2 (.int .i64 ((many : Int) + 1))
      have hl := (Sep.blkLt (A := []) HS4.out).1
      have HB7 := Lib.hid (((HB3.out.setCell (p := ⟨gs, 0, none⟩) hl (.slice ao N cap)).setCell (p := ⟨gs, 1, none⟩) hl (.string X3)).setCell (p := ⟨gs, 2, none⟩) hl (.int .i64 ((many : Int) + 1)))
      have t0 := (Sep.blkAt (A := []) h7 (j := 0) rfl).1
      have t1 := (Sep.blkAt (A := []) h7 (j := 1) rfl).1
      have t2 := (Sep.blkAt (A := []) h7 (j := 2) rfl).1
      obtain ⟨s0, s0'⟩ := s0
      obtain ⟨s1, s1'⟩ := s1
      obtain ⟨s2, s2'⟩ := s2
      clear h5 h6 h7 hl
      go_wp2
      try simp only [Exit.inBlock, Exit.then]
      refine bodyPost_ret (v := .agg #[.slice ao N cap, .string X3, .int .i64 ((many : Int) + 1)]) (by simp [results, Tryz.results105, go_sem, t0, t1, t2]) rfl ?_
      exact ⟨X3, rfl, HX3.out, HB7.out⟩
    · go_simp
      go_at_call 27
      refine (HDIG.out _).mono ?_
      rintro e w' ⟨rfl, rfl⟩
      go_wp2_with fail
      refine hK.out _ _ ?_ (fun hHeld2 => ?_)
      · trivial
      clear hK K
      try simp only [Act.put, List.setIfInBounds_toArray, List.set_cons_zero, List.set_cons_succ, List.getElem_toArray, List.getElem_cons_zero, List.getElem_cons_succ]
      refine wpAnyH_ready (rs := [1]) (by kernel_rfl) (by simp) ?_
      refine AllReadyH.cons rfl (fun K hK => ?_) AllReadyH.nil
      go_simp
      go_wp2_with fail
      refine hK.out _ _ ?_ (fun hHeld3 => ?_)
      · trivial
      clear hK K
      try simp only [Act.put, List.setIfInBounds_toArray, List.set_cons_zero, List.set_cons_succ, List.getElem_toArray, List.getElem_cons_zero, List.getElem_cons_succ]
      refine wpAnyH_take (i := 3) (v := ?vd3) rfl (by kernel_rfl) (by kernel_rfl) (by kernel_rfl) (fun _ _ _ h => h) (Or.inl ⟨by rfl, ?hyd3⟩) (by assumption) ?restd3
      case hyd3 =>
        intro w hSw
        try dsimp only at hSw
        go_simp
        try rw [if_neg k0]
        try rw [if_neg k1]
        try rw [if_neg k2]
        try rw [if_neg k3]
        try with_reducible rfl
      try simp only [Act.put, List.setIfInBounds_toArray, List.set_cons_zero, List.set_cons_succ, List.getElem_toArray, List.getElem_cons_zero, List.getElem_cons_succ]
      refine wpAnyH_take (i := 4) (v := ?vd4) rfl (by kernel_rfl) (by kernel_rfl) (by kernel_rfl) (fun _ _ _ h => h) (Or.inl ⟨by rfl, ?hyd4⟩) (by assumption) ?restd4
      case hyd4 =>
        intro w hSw
        try dsimp only at hSw
        go_simp
        try rw [if_neg k0]
        try rw [if_neg k1]
        try rw [if_neg k2]
        try rw [if_neg k3]
        try with_reducible rfl
      try simp only [Act.put, List.setIfInBounds_toArray, List.set_cons_zero, List.set_cons_succ, List.getElem_toArray, List.getElem_cons_zero, List.getElem_cons_succ]
      refine wpAnyH_take (i := 8) (v := ?vd8) rfl (by kernel_rfl) (by kernel_rfl) (by kernel_rfl) (fun _ _ _ h => h) (Or.inl ⟨by rfl, ?hyd8⟩) (by assumption) ?restd8
      case hyd8 =>
        intro w hSw
        try dsimp only at hSw
        go_simp
        try rw [if_neg k0]
        try rw [if_neg k1]
        try rw [if_neg k2]
        try rw [if_neg k3]
        try with_reducible rfl
      try simp only [Act.put, List.setIfInBounds_toArray, List.set_cons_zero, List.set_cons_succ, List.getElem_toArray, List.getElem_cons_zero, List.getElem_cons_succ]
      refine wpAnyH_take (i := 9) (v := ?vd9) rfl (by kernel_rfl) (by kernel_rfl) (by kernel_rfl) (fun _ _ _ h => h) (Or.inl ⟨by rfl, ?hyd9⟩) (by assumption) ?restd9
      case hyd9 =>
        intro w hSw
        try dsimp only at hSw
        go_simp
        try rw [if_neg k0]
        try rw [if_neg k1]
        try rw [if_neg k2]
        try rw [if_neg k3]
        try with_reducible rfl
      try simp only [Act.put, List.setIfInBounds_toArray, List.set_cons_zero, List.set_cons_succ, List.getElem_toArray, List.getElem_cons_zero, List.getElem_cons_succ]
      refine wpAnyH_take (i := 10) (v := ?vd10) rfl (by kernel_rfl) (by kernel_rfl) (by kernel_rfl) (fun _ _ _ h => h) (Or.inl ⟨by rfl, ?hyd10⟩) (by assumption) ?restd10
      case hyd10 =>
        intro w hSw
        try dsimp only at hSw
        go_simp
        try rw [if_neg k0]
        try rw [if_neg k1]
        try rw [if_neg k2]
        try rw [if_neg k3]
        try with_reducible rfl
      try simp only [Act.put, List.setIfInBounds_toArray, List.set_cons_zero, List.set_cons_succ, List.getElem_toArray, List.getElem_cons_zero, List.getElem_cons_succ]
      refine wpAnyH_ready (rs := [11]) (by kernel_rfl) (by simp) ?_
      refine AllReadyH.cons rfl (fun K hK => ?_) AllReadyH.nil
      go_simp
      go_wp2_with fail
      refine hK.out _ _ ?_ (fun hHeld4 => ?_)
      · trivial
      clear hK K
      try simp only [Act.put, List.setIfInBounds_toArray, List.set_cons_zero, List.set_cons_succ, List.getElem_toArray, List.getElem_cons_zero, List.getElem_cons_succ]
      refine wpAnyH_done (by kernel_rfl) ?_ _
      have hs3 := Sep.blkSet (A := [_]) HS2.out 1 (.string X3)
      have m0 := (Sep.blkAt (A := [_]) hs3 (j := 0) rfl).1
      have m1 := (Sep.blkAt (A := [_]) hs3 (j := 1) rfl).1
      have m2 := (Sep.blkAt (A := [_]) hs3 (j := 2) rfl)
      have hs4 := Sep.blkSet (A := [_]) hs3 2 (.int .i64 ((many : Int) + 1))
      have HB3 := Lib.hid ((HB2.out.setCell (p := ⟨gb, 1, none⟩) (Sep.blkLt (A := [_]) HS2.out).1 (.string X3)).setCell (p := ⟨gb, 2, none⟩) (Sep.blkLt (A := [_]) HS2.out).1 (.int .i64 ((many : Int) + 1)))
      obtain ⟨m3, m4⟩ := m2
      have HS4 := Lib.hid hs4
      clear hs3 hs4 c0 c1 c2 f1 f2 HS2 HB2
      go_upto_region 3 with fail
      have n0 := (Sep.blkAt (A := [_]) HS4.out (j := 0) rfl).1
      have n1 := (Sep.blkAt (A := [_]) HS4.out (j := 1) rfl).1
      have n2 := (Sep.blkAt (A := [_]) HS4.out (j := 2) rfl).1
      clear m0 m1 m3 m4
      generalize (w2.setCell ⟨gb, 1, none⟩ (.string X3)).setCell ⟨gb, 2, none⟩ (.int .i64 ((many : Int) + 1)) = w3 at *
      have s0 := Sep.blkAt (A := []) HS4.out (j := 0) rfl
      have s1 := Sep.blkAt (A := []) HS4.out (j := 1) rfl
      have s2 := Sep.blkAt (A := []) HS4.out (j := 2) rfl
      have h5 := Sep.blkSet (A := []) HS4.out 0 (.slice ao N cap)
      have h6 := Sep.blkSet (A := []) h5 1 (.string X3)
      have h7 := Sep.blkSet (A := []) h6 2 (.int .i64 ((many : Int) + 1))
      have hl := (Sep.blkLt (A := []) HS4.out).1
      have HB7 := Lib.hid (((HB3.out.setCell (p := ⟨gs, 0, none⟩) hl (.slice ao N cap)).setCell (p := ⟨gs, 1, none⟩) hl (.string X3)).setCell (p := ⟨gs, 2, none⟩) hl (.int .i64 ((many : Int) + 1)))
      have t0 := (Sep.blkAt (A := []) h7 (j := 0) rfl).1
      have t1 := (Sep.blkAt (A := []) h7 (j := 1) rfl).1
      have t2 := (Sep.blkAt (A := []) h7 (j := 2) rfl).1
      obtain ⟨s0, s0'⟩ := s0
      obtain ⟨s1, s1'⟩ := s1
      obtain ⟨s2, s2'⟩ := s2
      clear h5 h6 h7 hl
      go_wp2
      try simp only [Exit.inBlock, Exit.then]
      refine bodyPost_ret (v := .agg #[.slice ao N cap, .string X3, .int .i64 ((many : Int) + 1)]) (by simp [results, Tryz.results105, go_sem, t0, t1, t2]) rfl ?_
      exact ⟨X3, rfl, HX3.out, HB7.out⟩
end Go.Proofs.YtbcfcjecobihnaaGreatDoor

end

section
/- (*lpm.Table).Find. -/
namespace Go.Proofs.YtbcfcjecobihnaaGreatDoor
open Go.RowKit
set_option linter.unusedVariables false
set_option linter.unusedSimpArgs false
set_option maxRecDepth 100000

def fHop : Option (Nat × Nat) → Int
  | none => -1
  | some x => x.1
def fLen : Option (Nat × Nat) → Int
  | none => 0
  | some x => x.2
/-- Hop, length, what is wrong. -/
def findR (L : List Rte) (a : Int) : Int × Int × Int :=
  if ¬ (0 ≤ a ∧ a ≤ 65535) then (0, 0, 1) else match findL L a.toNat 17 with | some x => ((x.1 : Int), (x.2 : Int), 0) | none => (0, 0, 5)
theorem at_trunc {T : LT} (h : TabOk T) {a i : Nat} (ha : a ≤ 65535) (hi : i ≤ 16) : lookL (T.rts []) (a - a % 2 ^ (16 - i)) i = T.at (lpPath a i) := by
  have h1 := lpAddr_path (a := a) (n := i) (by omega) hi
  rw [← h1]
  have hk : lpOk (lpAddr (lpPath a i)) i := by have := lpAddr_isOk (π := lpPath a i) (by rw [lpPath_len]; exact hi); rwa [lpPath_len] at this
  have h2 := lpPath_addr (π := lpPath a i) (by rw [lpPath_len]; exact hi)
  rw [lpPath_len] at h2
  have h3 := at_look h.deep hk (h.low _)
  rw [h2] at h3
  exact h3.symm
theorem findL_next {T : LT} (h : TabOk T) {a i : Nat} (ha : a ≤ 65535) (hi : i ≤ 16) : findL (T.rts []) a (i + 1) = if 0 ≤ T.at (lpPath a i) then some ((T.at (lpPath a i)).toNat, i) else findL (T.rts []) a i := by
  rw [findL, at_trunc h ha hi]
theorem path_take {a k n : Nat} (h : k ≤ n) : lpPath a n = lpPath a k ++ (lpPath a n).drop k := by
  have h1 : (lpPath a n).take k = lpPath a k := by unfold lpPath; rw [← List.map_take, List.take_range, Nat.min_eq_left h]
  rw [← h1, List.take_append_drop]
theorem findL_stop {T : LT} (h : TabOk T) {a k : Nat} (ha : a ≤ 65535) (hn : T.sub (lpPath a k) = .nil) : ∀ m, k + m ≤ 17 → findL (T.rts []) a (k + m) = findL (T.rts []) a k
  | 0, _ => rfl
  | m + 1, hm => by
    rw [← Nat.add_assoc, findL_next h ha (by omega), if_neg, findL_stop h ha hn m (by omega)]
    unfold LT.at
    rw [path_take (show k ≤ k + m by omega), LT.sub_app, hn, LT.sub_nil]
    decide
theorem findL_bd {T : LT} (h : TabOk T) {a : Nat} (ha : a ≤ 65535) : ∀ k, k ≤ 17 → -1 ≤ fHop (findL (T.rts []) a k) ∧ fHop (findL (T.rts []) a k) ≤ 9 ∧ 0 ≤ fLen (findL (T.rts []) a k) ∧ fLen (findL (T.rts []) a k) ≤ 16
  | 0, _ => by simp [findL, fHop, fLen]
  | k + 1, hk => by
    rw [findL_next h ha (by omega)]
    have h1 := h.high (lpPath a k)
    split
    · simp only [fHop, fLen]; omega
    · exact findL_bd h ha k (by omega)

set_option maxHeartbeats 2000000 in
theorem lpmFind_in (B tb : Nat) (L : List Rte) (F : List Ent) (a : Nat) (w : World) (ha : a ≤ 65535) (hs : TabS B w tb L F) :
    Calls Tryz.prog 32 #[.pointer (some ⟨tb, 0, none⟩), .int .i64 a] w fun e w' => e = .returned (.tuple #[.int .i64 (findR L a).1, .int .i64 (findR L a).2.1, errV (findR L a).2.2]) ∧ Below w.heap.size w w' := by
  obtain ⟨T, hT, hTL, hs⟩ := hs
  obtain ⟨t0, -⟩ := lpt_cells hs
  have hbd := fun k (hk : k ≤ 17) => findL_bd hT ha k hk
  have hnx := fun k (hk : k ≤ 16) => findL_next hT ha (i := k) hk
  have hst := fun k m (hn : T.sub (lpPath a k) = .nil) (hm : k + m ≤ 17) => findL_stop hT ha hn m hm
  rw [hTL] at hbd hnx hst
  have HBD := Lib.hid hbd
  have HNX := Lib.hid hnx
  have HST := Lib.hid hst
  have HS := Lib.hid hs
  have HT := Lib.hid hT
  have ha1 : (0 : Int) ≤ (a : Int) := by omega
  have ha2 : (a : Int) ≤ 65535 := by omega
  clear hs hTL hbd hnx hst hT
  go_enter Tryz.func32, Tryz.ntmps32
  go_wp2_with fail
  refine (within_yes _ _ _ _ ha1 ha2).mono ?_
  rintro e w' ⟨rfl, rfl⟩
  go_upto_region 4 with fail
  go_quiet (fail)
  go_wp2
  go_loopg [4, 5, 7, 8] 17 (fun gk h4 l5 i p wr => ∃ (k x : Nat) (hp lg : Int), gk + k = 17 ∧ k ≤ 16 ∧ i = .int .i64 k ∧ p = (T.sub (lpPath a k)).ptr ∧ h4 = .int .i64 hp ∧ l5 = .int .i64 lg ∧ Hid (hp = fHop (findL L a k) ∧ lg = fLen (findL L a k)) ∧ wr = w.drewN x)
  case atStart => exact ⟨0, _, -1, 0, rfl, by omega, rfl, rfl, rfl, rfl, ⟨rfl, rfl⟩, rfl⟩
  case round =>
    obtain ⟨gi, hgi0⟩ : ∃ gi, gi = gk := ⟨_, rfl⟩
    obtain ⟨k, x, hp, lg, hgk, hk16, rfl, hpt, rfl, rfl, hbest, hwr⟩ := hrel
    subst hwr
    have HGK := Lib.hid hgk
    have hb := HBD.out k (by omega)
    rw [← hbest.out.1, ← hbest.out.2] at hb
    obtain ⟨hb1, hb2, hb3, hb4⟩ := hb
    have HBW := Lib.hid (below_drewN w.heap.size w x)
    clear hgk hgi0
    cases hk : T.sub (lpPath a k) with
    | nil =>
      rw [hk] at hpt
      obtain rfl : _ = Value.pointer none := hpt
      have hfin : hp = fHop (findL L a 17) ∧ lg = fLen (findL L a 17) := by
        have h1 := HST.out k (17 - k) hk (by omega)
        rw [show k + (17 - k) = 17 by omega] at h1
        rw [h1]; exact hbest.out
      have HFIN := Lib.hid hfin
      clear hk hfin
      by_cases hneg : hp < 0
      · have d3 : decide (hp < 0) = true := decide_eq_true hneg
        have hres : findR L (a : Int) = (0, 0, 5) := by
          unfold findR
          rw [if_neg (by omega), Int.toNat_natCast]
          have hf := HFIN.out
          cases hc : findL L a 17 with
          | none => rfl
          | some x => rw [hc] at hf; have : hp = (x.1 : Int) := hf.1; omega
        have HRES := Lib.hid hres
        clear hres hneg
        go_wp2
        go_ret3
        exact ⟨by rw [HRES.out]; rfl, HBW.out⟩
      · have d3 : decide (hp < 0) = false := decide_eq_false hneg
        have hres : findR L (a : Int) = (hp, lg, 0) := by
          unfold findR
          rw [if_neg (by omega), Int.toNat_natCast]
          have hf := HFIN.out
          cases hc : findL L a 17 with
          | none => rw [hc] at hf; have : hp = -1 := hf.1; omega
          | some x => rw [hc] at hf; have h1 : hp = (x.1 : Int) := hf.1; have h2 : lg = (x.2 : Int) := hf.2; simp only [h1, h2]
        have HRES := Lib.hid hres
        clear hres hneg
        go_wp2
        go_ret3
        exact ⟨by rw [HRES.out]; rfl, HBW.out⟩
    | node b h l r =>
      rw [hk] at hpt
      obtain rfl : _ = Value.pointer (some ⟨b, 0, none⟩) := hpt
      obtain ⟨⟨c0, c1, c2⟩, -, -⟩ := nod_cells HS.out hk
      have hat : T.at (lpPath a k) = h := by unfold LT.at; rw [hk]; rfl
      have hh1 := HT.out.low (lpPath a k)
      have hh2 := HT.out.high (lpPath a k)
      have hn := HNX.out k hk16
      rw [hat] at hh1 hh2 hn
      have HN := Lib.hid hn
      clear hat hn
      by_cases h0 : 0 ≤ h
      · have hnw : h = fHop (findL L a (k + 1)) ∧ (k : Int) = fLen (findL L a (k + 1)) := by
          rw [HN.out, if_pos h0]; exact ⟨(Int.toNat_of_nonneg h0).symm, rfl⟩
        have HNW := Lib.hid hnw
        have d0 : decide (0 ≤ h) = true := decide_eq_true h0
        clear hnw
        by_cases h16 : k = 16
        · have e16 : ((k : Int) == 16) = true := by simp; omega
          have HFIN : Hid (h = fHop (findL L a 17) ∧ (k : Int) = fLen (findL L a 17)) := Lib.hid (by have := HNW.out; rw [h16] at this ⊢; exact this)
          obtain ⟨hp2, hhp⟩ : ∃ z, z = h := ⟨_, rfl⟩
          obtain ⟨lg2, hlg⟩ : ∃ z, z = (k : Int) := ⟨_, rfl⟩
          have d3 : decide (h < 0) = false := decide_eq_false (by omega)
          have hres : findR L (a : Int) = (h, (k : Int), 0) := by
            unfold findR
            rw [if_neg (by omega), Int.toNat_natCast]
            have hf := HFIN.out
            cases hc : findL L a 17 with
            | none => rw [hc] at hf; have : h = -1 := hf.1; omega
            | some x => rw [hc] at hf; have h1 : h = (x.1 : Int) := hf.1; have h2 : (k : Int) = (x.2 : Int) := hf.2; simp only [h1, h2]
          have HRES := Lib.hid hres
          clear hhp hlg hres hk h16
          go_wp2
          go_ret3
          exact ⟨by rw [HRES.out]; rfl, HBW.out⟩
        · have e16 : ((k : Int) == 16) = false := by simp; omega
          have ck := kid_cell (h := h) c0 c1 (lpb a k)
          have hkn : T.sub (lpPath a (k + 1)) = (LT.node b h l r).kid (lpb a k) := by rw [path_next, hk]
          rw [← hkn] at ck
          have HBIT := Lib.hid (fun w' => lpbit_any a k w' ha (by omega))
          rw [lpb_nat] at HBIT
          obtain ⟨y, hy⟩ : ∃ y, y = (lpb a k).toNat := ⟨_, rfl⟩
          have hy2 : y < 2 := by rw [hy]; cases lpb a k <;> decide
          rw [← hy] at HBIT ck
          obtain ⟨pv, hpv⟩ : ∃ pv, pv = (T.sub (lpPath a (k + 1))).ptr := ⟨_, rfl⟩
          rw [← hpv] at ck
          have HPV := Lib.hid hpv
          have hy0 : (0 : Int) ≤ (y : Int) := by omega
          have hy1 : (y : Int) < 2 := by omega
          clear hk hkn hy c0 c1 hpv
          go_upto_region 10 with fail
          go_quiet (first | (go_at_call 56; exact quiet_id (HBIT.out _) ⟨_, rfl⟩))
          go_wp2
          go_roundg (17 - (k + 1))
          case measure => have := HGK.out; omega
          case rel => exact ⟨k + 1, _, h, k, by omega, by omega, by go_num, HPV.out, rfl, rfl, HNW, rfl⟩
      · have hnw : hp = fHop (findL L a (k + 1)) ∧ lg = fLen (findL L a (k + 1)) := by rw [HN.out, if_neg h0]; exact hbest.out
        have HNW := Lib.hid hnw
        have d0 : decide (0 ≤ h) = false := decide_eq_false h0
        clear hnw
        by_cases h16 : k = 16
        · have e16 : ((k : Int) == 16) = true := by simp; omega
          have HFIN : Hid (hp = fHop (findL L a 17) ∧ lg = fLen (findL L a 17)) := Lib.hid (by have := HNW.out; rw [h16] at this; exact this)
          clear hk h16
          by_cases hneg : hp < 0
          · have d3 : decide (hp < 0) = true := decide_eq_true hneg
            have hres : findR L (a : Int) = (0, 0, 5) := by
              unfold findR
              rw [if_neg (by omega), Int.toNat_natCast]
              have hf := HFIN.out
              cases hc : findL L a 17 with
              | none => rfl
              | some x => rw [hc] at hf; have : hp = (x.1 : Int) := hf.1; omega
            have HRES := Lib.hid hres
            clear hres hneg
            go_wp2
            go_ret3
            exact ⟨by rw [HRES.out]; rfl, HBW.out⟩
          · have d3 : decide (hp < 0) = false := decide_eq_false hneg
            have hres : findR L (a : Int) = (hp, lg, 0) := by
              unfold findR
              rw [if_neg (by omega), Int.toNat_natCast]
              have hf := HFIN.out
              cases hc : findL L a 17 with
              | none => rw [hc] at hf; have : hp = -1 := hf.1; omega
              | some x => rw [hc] at hf; have h1 : hp = (x.1 : Int) := hf.1; have h2 : lg = (x.2 : Int) := hf.2; simp only [h1, h2]
            have HRES := Lib.hid hres
            clear hres hneg
            go_wp2
            go_ret3
            exact ⟨by rw [HRES.out]; rfl, HBW.out⟩
        · have e16 : ((k : Int) == 16) = false := by simp; omega
          have ck := kid_cell (h := h) c0 c1 (lpb a k)
          have hkn : T.sub (lpPath a (k + 1)) = (LT.node b h l r).kid (lpb a k) := by rw [path_next, hk]
          rw [← hkn] at ck
          have HBIT := Lib.hid (fun w' => lpbit_any a k w' ha (by omega))
          rw [lpb_nat] at HBIT
          obtain ⟨y, hy⟩ : ∃ y, y = (lpb a k).toNat := ⟨_, rfl⟩
          have hy2 : y < 2 := by rw [hy]; cases lpb a k <;> decide
          rw [← hy] at HBIT ck
          obtain ⟨pv, hpv⟩ : ∃ pv, pv = (T.sub (lpPath a (k + 1))).ptr := ⟨_, rfl⟩
          rw [← hpv] at ck
          have HPV := Lib.hid hpv
          have hy0 : (0 : Int) ≤ (y : Int) := by omega
          have hy1 : (y : Int) < 2 := by omega
          clear hk hkn hy c0 c1 hpv
          go_upto_region 10 with fail
          go_quiet (first | (go_at_call 56; exact quiet_id (HBIT.out _) ⟨_, rfl⟩))
          go_wp2
          go_roundg (17 - (k + 1))
          case measure => have := HGK.out; omega
          case rel => exact ⟨k + 1, _, hp, lg, by omega, by omega, by go_num, HPV.out, rfl, rfl, HNW, rfl⟩
set_option maxHeartbeats 400000 in
theorem lpmFind_any (B tb : Nat) (L : List Rte) (F : List Ent) (a : Int) (w : World) (hs : TabS B w tb L F) :
    Calls Tryz.prog 32 #[.pointer (some ⟨tb, 0, none⟩), .int .i64 a] w fun e w' => e = .returned (.tuple #[.int .i64 (findR L a).1, .int .i64 (findR L a).2.1, errV (findR L a).2.2]) ∧ Below w.heap.size w w' := by
  by_cases h : 0 ≤ a ∧ a ≤ 65535
  · obtain ⟨x, rfl⟩ := Int.eq_ofNat_of_zero_le h.1
    exact lpmFind_in B tb L F x w (by omega) hs
  · have hr : findR L a = (0, 0, 1) := by unfold findR; rw [if_pos h]
    rw [hr]
    have HN := Lib.hid h
    clear h hs hr
    go_enter Tryz.func32, Tryz.ntmps32
    go_wp2_with fail
    refine (within_no _ _ _ _ HN.out).mono ?_
    rintro e w' ⟨rfl, rfl⟩
    go_wp2
    go_ret3
    exact ⟨rfl, Below.refl _ _⟩
end Go.Proofs.YtbcfcjecobihnaaGreatDoor

end
