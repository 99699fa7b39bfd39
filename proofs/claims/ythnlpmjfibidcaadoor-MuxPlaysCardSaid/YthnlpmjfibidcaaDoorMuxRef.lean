/- ferryhytheref4.Mux by value: NewMux, Set, Waits, Next. -/
import Derived.Test.YthnlpmjfibidcaaDoorMuxRefPlain
import Derived.Test.YthnlpmjfibidcaaDoorBehind
import Derived.Test.YthnlpmjfibidcaaDoorElem
import Derived.Deep.LoopGhost
import Derived.Deep.DeepCutAuto
import Derived.Deep.RegionHeld3
import Derived.BigQuiet
namespace Go.Proofs.YthnlpmjfibidcaaDoor
open Go.RowKit
set_option linter.unusedVariables false
set_option maxRecDepth 100000

/-- The two rows of the reference's ends. -/
def mxE (vd vr : Value) (ss : List Str) (F : List Ent) : List Ent := Ent.ints 3 vd (dataOf ss) :: Ent.ints 3 vr (readOf ss) :: F
theorem mx_shape {B : Nat} {w : World} {vd vr : Value} {ss : List Str} {F : List Ent} (h : Sep B w (mxE vd vr ss F)) : (∃ ao cap, vd = .slice ao 800 cap) ∧ ∃ bo bap, vr = .slice bo ss.length bap := by
  obtain ⟨a, c, h1, -⟩ := Sep.intsShape (A := []) h
  rw [dataOf_len] at h1
  obtain ⟨b, d, h2, -⟩ := Sep.intsShape (A := [_]) h
  rw [readOf_len] at h2
  exact ⟨⟨a, c, h1⟩, b, d, h2⟩
theorem mx_dat {B : Nat} {w : World} {ao : Option Addr} {cap m j : Nat} {vr : Value} {ss : List Str} {s : Str} {F : List Ent} (h : Sep B w (mxE (.slice ao 800 cap) vr ss F)) (hs : ss[m]? = some s) (hm : m < 4) (hj : j < 200) :
    ∃ g off, ao = some ⟨g, off, none⟩ ∧ w.cell? ⟨g, off + (200 * m + j), none⟩ = some (.int .i64 (dOf (s.came j))) := by
  have h1 : Sep B w (Ent.ints 3 (.slice ao (dataOf ss).length cap) (dataOf ss) :: Ent.ints 3 vr (readOf ss) :: F) := by rw [dataOf_len]; exact h
  obtain ⟨g, off, h2, h3, -⟩ := Sep.intsAt (A := []) h1 (dataOf_get hs hm hj)
  exact ⟨g, off, h2, h3⟩
theorem mx_read {B : Nat} {w : World} {ao : Option Addr} {cap m : Nat} {vd : Value} {ss : List Str} {s : Str} {F : List Ent} (h : Sep B w (mxE vd (.slice ao ss.length cap) ss F)) (hs : ss[m]? = some s) :
    ∃ g off, ao = some ⟨g, off, none⟩ ∧ w.cell? ⟨g, off + m, none⟩ = some (.int .i64 s.read) := by
  have h1 : Sep B w (Ent.ints 3 vd (dataOf ss) :: Ent.ints 3 (.slice ao (readOf ss).length cap) (readOf ss) :: F) := by rw [readOf_len]; exact h
  obtain ⟨g, off, h2, h3, -⟩ := Sep.intsAt (A := [_]) h1 (readOf_get hs)
  exact ⟨g, off, h2, h3⟩

/-- ferryhytheref1.Set: a new row, one number another. -/
theorem set_any (ao : Option Addr) (len ac B k : Nat) (xs : List Int) (y : Int) (w : World) (hA : IntSl B w ao xs) (hlen : len = xs.length) (hB : B ≤ w.heap.size) (hk : k < xs.length) (hl : xs.length ≤ 1000000) :
    Calls Tryd.prog 28 #[.slice ao len ac, .int .i64 k, .int .i64 y] w fun e w' => ∃ v, e = .returned v ∧ Sep w.heap.size w' [Ent.ints 3 v (xs.set k y)] ∧ Below w.heap.size w w' := by
  subst hlen
  have HR := Lib.hid ((Sep.nil w.heap.size w).rowNil 1 3)
  have h0 : 0 < xs.length := by omega
  obtain ⟨x0, hx0⟩ : ∃ x, xs[0]? = some x := ⟨_, List.getElem?_eq_getElem h0⟩
  obtain ⟨xk, hxk⟩ : ∃ x, xs[k]? = some x := ⟨_, List.getElem?_eq_getElem hk⟩
  obtain ⟨b, off, rfl, hb, _⟩ := hA 0 x0 hx0
  have hw1 : ∀ (j : Nat) (u : Value), (xs.map (Value.int .i64))[j]? = some u → w.cell? ((⟨b, off, none⟩ : Addr).add j) = some u := by
    intro j u hu
    rw [List.getElem?_map] at hu
    cases hy : xs[j]? with
    | none => rw [hy] at hu; cases hu
    | some y =>
      rw [hy] at hu
      obtain rfl : Value.int .i64 y = u := by simpa using hu
      obtain ⟨b', o', he, _, c⟩ := hA j y hy
      simp only [Option.some.injEq, Addr.mk.injEq, and_true] at he
      obtain ⟨rfl, rfl⟩ := he
      rw [show (⟨b, off, none⟩ : Addr).add j = ⟨b, off + j, none⟩ by unfold Addr.add; split <;> simp_all]
      exact c
  have ho1 : ∀ u ∈ xs.map (Value.int .i64), u.oneCell' = true := by
    intro u hu
    obtain ⟨y, _, rfl⟩ := List.mem_map.1 hu
    rfl
  have HW := Lib.hid hw1
  have HO := Lib.hid ho1
  have HXK := Lib.hid hxk
  clear hw1 ho1 hA hx0 hxk
  go_enter Tryd.func28, Tryd.ntmps28
  go_upto_region 3 with (at_builtin; refine wpList_append_sep (A := []) rfl (.tmp 8) (.tmp 9) rfl elemInt8 rfl HR.out (Nat.le_refl _) ⟨b, off, none⟩ xs.length ac (xs.map (Value.int .i64)) rfl (by simp) HW.out HO.out h0 (by omega) (by unfold maxLen; omega) ?_)
  intro v' w2 hs hb2
  have hs2 : Sep w.heap.size w2 [Ent.ints 3 v' xs] := by
    have := hs
    simpa [Ent.ints] using this
  obtain ⟨ao2, c2, rfl, _, _⟩ := hs2.intsShape (A := []) (C := [])
  obtain ⟨g2, o2, rfl, d1, d2⟩ := Sep.intsAt (A := []) (C := []) hs2 HXK.out
  have hs3 := Sep.intsSet (A := []) (C := []) hs2 k y
  have hb3 := hb2.setCell (p := ⟨g2, o2 + k, none⟩) (Sep.mem (A := []) (C := []) hs2 |>.2 g2 rfl).1 (.int .i64 y)
  have hki : (k : Int) < (xs.length : Int) := by omega
  have hk0 : (0 : Int) ≤ (k : Int) := by omega
  have HS3 := Lib.hid hs3
  have HB3 := Lib.hid hb3
  clear hs hb2 hs2 hs3 hb3
  go_wp2
  go_ret
  refine ⟨_, rfl, ?_, HB3.out⟩
  have := HS3.out
  unfold Ent.ints at this ⊢
  rw [List.length_set] at this ⊢
  exact this
theorem run_makeI (n : Nat) (hn : n ≤ 1000000) (w : World) : (Instr.makeSlice 37 (.int .i64 (n : Int)) (.int .i64 (n : Int))).run Tryd.prog w = .ok (.slice (some ⟨w.heap.size, 0, none⟩) n n) (w.alloc (.cells (List.replicate n (Value.int .i64 0)).toArray 3)) := by
  obtain ⟨ht, ⟨i, hi, hz, hs, hb⟩, hzs, hsz⟩ := elemInt8
  have hr := run_make (P := Tryd.prog) w 37 3 i (.int .i64 0) ht hi hz .i64 .i64 n n (by omega) (Int.le_refl _) (by rw [hb]; omega) (by omega)
  simp only [Int.toNat_natCast, hs] at hr
  rw [hr]
  have h1 : (madeCells (Value.int .i64 0).cells (n * 1)).toList = List.replicate n (Value.int .i64 0) := by
    have := madeCells_flat (Value.int .i64 0).cells n
    rw [show (Value.int .i64 0).cells.size = 1 from rfl] at this
    rw [this]
    exact List.flatten_replicate_singleton
  rw [← h1, Array.toArray_toList]
theorem dataOf_none : dataOf (List.replicate 4 Str.new) = List.replicate 800 0 := by
  rw [List.eq_replicate_iff]
  refine ⟨dataOf_len _, fun x hx => ?_⟩
  unfold dataOf at hx
  obtain ⟨i, _, rfl⟩ := List.mem_map.1 hx
  unfold datAt
  cases h : (List.replicate 4 Str.new)[i / 200]? with
  | none => rfl
  | some s =>
    obtain ⟨_, rfl⟩ := List.mem_replicate.1 (List.mem_iff_getElem?.2 ⟨_, h⟩)
    rfl
theorem ints_made {B : Nat} {w : World} {L : List Ent} (h : Sep B w L) (hB : B ≤ w.heap.size) (n : Nat) (hn : n ≤ 1000000) : Sep B (w.alloc (.cells (List.replicate n (Value.int .i64 0)).toArray 3)) (Ent.ints 3 (.slice (some ⟨w.heap.size, 0, none⟩) n n) (List.replicate n 0) :: L) := by
  have := h.rowMade hB (List.replicate n (Value.int .i64 0)).toArray n 1 3 (by simp) (by unfold maxLen; omega)
  unfold Ent.ints
  rw [List.length_replicate, List.map_replicate]
  exact this
theorem two_made (w : World) (n m : Nat) (hn : n ≤ 1000000) (hm : m ≤ 1000000) (S : Array Value) (t : TypeId) (cn cm : Array Value) (en : cn = (List.replicate n (Value.int .i64 0)).toArray) (em : cm = (List.replicate m (Value.int .i64 0)).toArray) :
    Sep w.heap.size (((w.alloc (.cells S t)).alloc (.cells cn 3)).alloc (.cells cm 3)).drew [Ent.ints 3 (.slice (some ⟨w.heap.size + 1 + 1, 0, none⟩) m m) (List.replicate m 0), Ent.ints 3 (.slice (some ⟨w.heap.size + 1, 0, none⟩) n n) (List.replicate n 0), Ent.blk1 w.heap.size t S.toList] ∧
      Below w.heap.size w (((w.alloc (.cells S t)).alloc (.cells cn 3)).alloc (.cells cm 3)).drew := by
  subst en em
  have h1 := ints_made ((Sep.nil w.heap.size w).blkNew (Nat.le_refl _) S t) (by simp) n hn
  have h2 := ints_made h1 (by simp; omega) m hm
  have e1 : (w.alloc (.cells S t)).heap.size = w.heap.size + 1 := by simp
  have e2 : ((w.alloc (.cells S t)).alloc (.cells (List.replicate n (Value.int .i64 0)).toArray 3)).heap.size = w.heap.size + 1 + 1 := by simp
  rw [e1, e2] at h2
  exact ⟨h2.drew, ((((Below.refl w.heap.size w).alloc (Nat.le_refl _) _).alloc (by simp) _).alloc (by simp; omega) _).drew⟩
set_option maxHeartbeats 1000000 in
theorem refNew_any (w : World) : Calls Tryd.prog 13 #[] w fun e w' => ∃ vd vr, e = .returned (.agg #[vd, vr]) ∧ Sep w.heap.size w' (mxE vd vr (List.replicate 4 Str.new) []) ∧ Below w.heap.size w w' := by
  obtain ⟨c8, h8⟩ : ∃ c, c = (List.replicate 800 (Value.int .i64 0)).toArray := ⟨_, rfl⟩
  obtain ⟨c4, h4⟩ : ∃ c, c = (List.replicate 4 (Value.int .i64 0)).toArray := ⟨_, rfl⟩
  have hm8 : ∀ w, (Instr.makeSlice 37 (.int .i64 800) (.int .i64 800)).run Tryd.prog w = .ok (.slice (some ⟨w.heap.size, 0, none⟩) 800 800) (w.alloc (.cells c8 3)) := by rw [h8]; exact run_makeI 800 (by decide)
  have hm4 : ∀ w, (Instr.makeSlice 37 (.int .i64 4) (.int .i64 4)).run Tryd.prog w = .ok (.slice (some ⟨w.heap.size, 0, none⟩) 4 4) (w.alloc (.cells c4 3)) := by rw [h4]; exact run_makeI 4 (by decide)
  have H8 := Lib.hid h8
  have H4 := Lib.hid h4
  clear h8 h4
  go_enter Tryd.func13, Tryd.ntmps13
  go_upto_region 1 with fail
  have hA := two_made w 800 4 (by decide) (by decide) #[.slice (some ⟨w.heap.size + 1, 0, none⟩) 800 800, .slice (some ⟨w.heap.size + 1 + 1, 0, none⟩) 4 4] 39 c8 c4 H8.out H4.out
  have hB := two_made w 4 800 (by decide) (by decide) #[.slice (some ⟨w.heap.size + 1 + 1, 0, none⟩) 800 800, .slice (some ⟨w.heap.size + 1, 0, none⟩) 4 4] 39 c4 c8 H4.out H8.out
  have HA := Lib.hid hA
  have HBB := Lib.hid hB
  clear hA hB
  go_region
  · obtain ⟨wz, hwz⟩ : ∃ wz, wz = (((w.alloc (.cells #[.slice (some ⟨w.heap.size + 1, 0, none⟩) 800 800, .slice (some ⟨w.heap.size + 1 + 1, 0, none⟩) 4 4] 39)).alloc (.cells c8 3)).alloc (.cells c4 3)).drew := ⟨_, rfl⟩
    obtain ⟨hs, hb⟩ := HA.out
    rw [← hwz] at hs hb
    have c0 := (Sep.blkAt (A := [_, _]) (C := []) hs (j := 0) rfl).1
    have c1 := (Sep.blkAt (A := [_, _]) (C := []) hs (j := 1) rfl).1
    have HX : Hid (Sep w.heap.size wz (mxE (.slice (some ⟨w.heap.size + 1, 0, none⟩) 800 800) (.slice (some ⟨w.heap.size + 1 + 1, 0, none⟩) 4 4) (List.replicate 4 Str.new) [])) := Lib.hid (by
      unfold mxE
      rw [dataOf_none]
      exact (hs.perm (List.Perm.swap _ _ _)).sub (List.Sublist.cons_cons _ (List.Sublist.cons_cons _ (List.nil_sublist _))))
    have HB := Lib.hid hb
    clear hs hb HA HBB
    rw [← hwz]
    clear hm8 hm4 hwz
    go_wp2
    exact bodyPost_ret (v := .agg #[.slice (some ⟨w.heap.size + 1, 0, none⟩) 800 800, .slice (some ⟨w.heap.size + 1 + 1, 0, none⟩) 4 4]) (by simp [results, Tryd.results13, go_sem, c0, c1]) rfl ⟨_, _, rfl, HX.out, HB.out⟩
  · obtain ⟨wz, hwz⟩ : ∃ wz, wz = (((w.alloc (.cells #[.slice (some ⟨w.heap.size + 1 + 1, 0, none⟩) 800 800, .slice (some ⟨w.heap.size + 1, 0, none⟩) 4 4] 39)).alloc (.cells c4 3)).alloc (.cells c8 3)).drew := ⟨_, rfl⟩
    obtain ⟨hs, hb⟩ := HBB.out
    rw [← hwz] at hs hb
    have c0 := (Sep.blkAt (A := [_, _]) (C := []) hs (j := 0) rfl).1
    have c1 := (Sep.blkAt (A := [_, _]) (C := []) hs (j := 1) rfl).1
    have HX : Hid (Sep w.heap.size wz (mxE (.slice (some ⟨w.heap.size + 1 + 1, 0, none⟩) 800 800) (.slice (some ⟨w.heap.size + 1, 0, none⟩) 4 4) (List.replicate 4 Str.new) [])) := Lib.hid (by
      unfold mxE
      rw [dataOf_none]
      exact hs.sub (List.Sublist.cons_cons _ (List.Sublist.cons_cons _ (List.nil_sublist _))))
    have HB := Lib.hid hb
    clear hs hb HA HBB
    rw [← hwz]
    clear hm8 hm4 hwz
    go_wp2
    exact bodyPost_ret (v := .agg #[.slice (some ⟨w.heap.size + 1 + 1, 0, none⟩) 800 800, .slice (some ⟨w.heap.size + 1, 0, none⟩) 4 4]) (by simp [results, Tryd.results13, go_sem, c0, c1]) rfl ⟨_, _, rfl, HX.out, HB.out⟩

/-- Waits. -/
theorem waitFrom_step {f : Nat → Option UInt8} {r k : Nat} : waitTo f r (k + 1) = waitTo f r k + (if (f (r + k)).isSome then 1 else 0) := waitTo_succ f r k
set_option maxHeartbeats 1000000 in
theorem refWaits_any (B : Nat) (vd vr : Value) (ss : List Str) (F : List Ent) (m : Nat) (s : Str) (w : World) (h : Sep B w (mxE vd vr ss F)) (hs : ss[m]? = some s) (hm : m < 4) (hr : s.read ≤ 200) :
    Calls Tryd.prog 17 #[.agg #[vd, vr], .int .i64 m] w fun e w' => e = .returned (.int .i64 s.waits) ∧ Below w.heap.size w w' := by
  obtain ⟨⟨ao, ac, rfl⟩, bo, bc, rfl⟩ := mx_shape h
  obtain ⟨f, r⟩ := s
  simp only at hr
  have hml : m < ss.length := (List.getElem?_eq_some_iff.1 hs).1
  have hb := below_alloc w (.cells #[.slice ao 800 ac, .slice bo ss.length bc] 39)
  have h2 := h.kept hb
  obtain ⟨gb, hgb⟩ : ∃ gb, gb = w.heap.size := ⟨_, rfl⟩
  obtain ⟨w1, hw1⟩ : ∃ w1, w1 = w.alloc (.cells #[.slice ao 800 ac, .slice bo ss.length bc] 39) := ⟨_, rfl⟩
  have c0 : w1.cell? ⟨gb, 0, none⟩ = some (.slice ao 800 ac) := by rw [hw1, hgb]; exact (World.cell?_alloc_mark ..).trans rfl
  have c1 : w1.cell? ⟨gb, 1, none⟩ = some (.slice bo ss.length bc) := by rw [hw1, hgb]; exact (World.cell?_alloc_mark ..).trans rfl
  rw [← hw1] at h2 hb
  obtain ⟨q, p, rfl, d1⟩ := mx_read h2 hs
  simp only at d1
  have hmi : (m : Int) < (ss.length : Int) := by omega
  have hm0 : (0 : Int) ≤ (m : Int) := by omega
  have hw : Str.waits ⟨f, r⟩ = waitTo f r (200 - r) := rfl
  have HWT := Lib.hid hw
  have HS := Lib.hid h2
  have HB := Lib.hid hb
  have HW := Lib.hid hw1
  have HG := Lib.hid hgb
  have HSS := Lib.hid hs
  clear h hb h2 hw1 hgb hs hw
  go_enter Tryd.func17, Tryd.ntmps17
  go_upto_region 2 with fail
  rw [← HW.out, ← HG.out]
  go_wp2
  go_loop [5, 6] (fun c x => ∃ k : Nat, r + k ≤ 200 ∧ x = .int .i64 ((r : Int) + (k : Int)) ∧ c = .int .i64 (waitTo f r k)) (fun _ x => 200 - (intOf x).toNat)
  case atStart => exact ⟨0, by omega, by go_num, rfl⟩
  case round =>
    obtain ⟨k, hk, rfl, rfl⟩ := hrel
    have hle := waitTo_le f r k
    have hsu := Lib.hid (waitTo_succ f r k)
    by_cases hlt : r + k < 200
    · obtain ⟨g, off, rfl, d0⟩ := mx_dat HS.out HSS.out hm hlt
      simp only at d0
      have hd : decide ((r : Int) + (k : Int) < 200) = true := decide_eq_true (by omega)
      have hx0 : (0 : Int) ≤ 200 * (m : Int) + ((r : Int) + (k : Int)) := by omega
      have hx1 : 200 * (m : Int) + ((r : Int) + (k : Int)) < 800 := by omega
      have hxt : (200 * (m : Int) + ((r : Int) + (k : Int))).toNat = 200 * m + (r + k) := by omega
      cases hf : f (r + k) with
      | none =>
        rw [hf] at d0
        have hsk : waitTo f r (k + 1) = waitTo f r k := by rw [hsu.out, hf]; rfl
        have HSK := Lib.hid hsk
        simp only [dOf] at d0
        clear hf hsk hsu
        go_wp2
        go_round
        case rel => exact ⟨k + 1, by omega, by go_num, by rw [HSK.out]⟩
        case measure => simp [intOf]; omega
      | some b =>
        rw [hf] at d0
        have hsk : waitTo f r (k + 1) = waitTo f r k + 1 := by rw [hsu.out, hf]; rfl
        have HSK := Lib.hid hsk
        simp only [dOf] at d0
        have hne : ((b.toNat : Int) + 1 != 0) = true := by simp; omega
        clear hf hsk hsu
        go_wp2
        go_round
        case rel => exact ⟨k + 1, by omega, by go_num, by rw [HSK.out]; go_num⟩
        case measure => simp [intOf]; omega
    · have hd : decide ((r : Int) + (k : Int) < 200) = false := decide_eq_false (by omega)
      have hk2 : k = 200 - r := by omega
      have hwt := HWT.out
      rw [← hk2] at hwt
      have HW2 := Lib.hid hwt
      clear hwt hk2
      go_wp2
      go_ret
      exact ⟨ret_int (by rw [HW2.out]), HB.out⟩

theorem elemU8 : ElemTy Tryd.prog 34 5 1 1 (.int .u8 0) := ⟨Tryd.underlying34, info_parts (by kernel_rfl), rfl, by decide⟩
def u8C (c : UInt8) : Value := .int .u8 (c.toNat : Int)
/-- A row of bytes of the call's own. -/
def bytE (v : Value) (bs : List UInt8) : Ent := Ent.row v bs.length 1 5 (bs.map u8C)
theorem bytesOf_succ {f : Nat → Option UInt8} {r k : Nat} {b : UInt8} (h : f (r + k) = some b) : bytesOf f r (k + 1) = bytesOf f r k ++ [b] := by
  unfold bytesOf
  rw [List.range'_concat, List.map_append, List.map_singleton, Nat.one_mul, h]
  rfl
/-- 'string(b)' of a row of bytes. -/
theorem str_of_row {B : Nat} {w : World} {A C : List Ent} {a8 : Option Addr} {n c8 : Nat} {bs : List UInt8} (h : Sep B w (A ++ bytE (.slice a8 n c8) bs :: C)) :
    (convert 34 9 (.slice a8 n c8)).run Tryd.prog w = .ok (.string ⟨bs.toArray⟩) w := by
  obtain ⟨hlen, a, c, hv, -⟩ := Sep.rowShape h
  simp only [Value.slice.injEq] at hv
  obtain ⟨rfl, rfl, rfl⟩ := hv
  rcases Nat.eq_zero_or_pos bs.length with h0 | h0
  · obtain rfl : bs = [] := List.eq_nil_of_length_eq_zero h0
    cases a8 with
    | none => rfl
    | some p =>
      have hm := h.mem.1.2
      rcases hm with ⟨hv, -⟩ | ⟨g, off, cap, cur, hv, -⟩
      · simp at hv
      · simp only [Value.slice.injEq, Option.some.injEq] at hv
        obtain ⟨rfl, -, rfl⟩ := hv
        exact run_string_of_bytes c8 Tryd.underlying34 Tryd.underlying5 Tryd.underlying9 rfl (by intro j c hj; simp at hj)
  · obtain ⟨g, off, rfl, _, hc, _⟩ := Sep.rowAt h h0
    refine run_string_of_bytes c8 Tryd.underlying34 Tryd.underlying5 Tryd.underlying9 rfl ?_
    intro j c hj
    have hjl := (List.getElem?_eq_some_iff.1 hj).1
    rw [hc j (by omega), List.getElem?_map, hj]
    rfl
theorem wpList_append_u8 {P : Program} {B : Nat} {w : World} {A C : List Ent} {v : Value} {t te : TypeId} {bs : List UInt8} {y : UInt8} {ops : Array Oper} {rest : List Oper} {o : Oper} {a : Act} {Q : Exit → Act → World → Prop} (hgd : Region.wanted o (yielded ops a.tmps) = true) (s x : Operand)
    (ho : o.op = .call { callee := .builtin .append, args := #[s, x], argTypes := #[t, t] }) (T : ElemTy P t 5 1 1 (.int .u8 0))
    (hs : a.eval s = v) (hsep : Sep B w (A ++ bytE v bs :: C)) (hBw : B ≤ w.heap.size)
    (hx : a.eval x = .slice (some ⟨w.heap.size, 0, none⟩) 1 1) (hlen : bs.length ≤ 1000000000)
    (h : ∀ v' w', Sep B w' (A ++ bytE v' (bs ++ [y]) :: C) → Below B w w' → wpList P ops Q rest (a.put o.dst v') w') : wpList P ops Q (o :: rest) a (w.alloc (.cells #[.int .u8 (y.toNat : Int)] te)) := by
  refine wpList_append_sep hgd s x ho T hs (hsep.alloc _) (by simp; omega) ⟨w.heap.size, 0, none⟩ 1 1 [u8C y] hx rfl ?_ ?_ (by omega) (by omega) (by unfold maxLen; omega) ?_
  · intro j u hj
    match j, hj with
    | 0, hj => simp at hj; subst hj; simp [Addr.add, u8C]
  · intro u hu; simp at hu; subst hu; rfl
  · intro v' w' h1 h2
    refine h v' w' ?_ (((Below.refl B w).alloc hBw _).trans h2)
    simpa [bytE] using h1
set_option maxHeartbeats 1000000 in
theorem refNext_any (B : Nat) (vd vr : Value) (ss : List Str) (F : List Ent) (m : Nat) (s : Str) (w : World) (h : Sep B w (mxE vd vr ss F)) (hs : ss[m]? = some s) (hm : m < 4) (hl : ss.length = 4) (hr : s.read ≤ 200) (hB : B ≤ w.heap.size) :
    Calls Tryd.prog 15 #[.agg #[vd, vr], .int .i64 m] w fun e w' => ∃ vr', e = .returned (.tuple #[.agg #[vd, vr'], .string ⟨s.text.toArray⟩]) ∧ Sep B w' (mxE vd vr' (ss.set m ⟨s.came, s.next⟩) F) ∧ Below B w w' := by
  obtain ⟨⟨ao, ac, rfl⟩, bo, bc, rfl⟩ := mx_shape h
  obtain ⟨f, r⟩ := s
  simp only at hr
  have hml : m < ss.length := (List.getElem?_eq_some_iff.1 hs).1
  obtain ⟨g, off, rfl, -⟩ := mx_dat h hs hm (j := 0) (by omega)
  have HL := Lib.hid hl
  clear hl
  have h1 := (h.blkNew hB #[.slice (some ⟨g, off, none⟩) 800 ac, .slice bo ss.length bc] 39).blkNew (by simp; omega) #[.slice none 0 0, .slice none 0 0] 39
  have h2 := h1.rowNil 1 5
  have hb := ((Below.refl B w).alloc hB (.cells #[.slice (some ⟨g, off, none⟩) 800 ac, .slice bo ss.length bc] 39)).alloc (by simp; omega) (.cells #[.slice none 0 0, .slice none 0 0] 39)
  rw [show (w.alloc (.cells #[.slice (some ⟨g, off, none⟩) 800 ac, .slice bo ss.length bc] 39)).heap.size = w.heap.size + 1 by simp] at h2
  obtain ⟨gr, hgr⟩ : ∃ g, g = w.heap.size + 1 := ⟨_, rfl⟩
  obtain ⟨gb, hgb⟩ : ∃ g, g = w.heap.size := ⟨_, rfl⟩
  obtain ⟨w1, hw1⟩ : ∃ w1, w1 = (w.alloc (.cells #[.slice (some ⟨g, off, none⟩) 800 ac, .slice bo ss.length bc] 39)).alloc (.cells #[.slice none 0 0, .slice none 0 0] 39) := ⟨_, rfl⟩
  rw [← hw1] at h2 hb
  rw [← hgr, ← hgb] at h2
  have b0 := (Sep.blkAt (A := [_, _]) h2 (j := 0) rfl).1
  have b1 := (Sep.blkAt (A := [_, _]) h2 (j := 1) rfl).1
  obtain ⟨q, p, rfl, d1⟩ := mx_read (h2.sub (List.Sublist.cons _ (List.Sublist.cons _ (List.Sublist.cons _ (List.Sublist.refl _))))) hs
  simp only at d1
  have hmi : (m : Int) < (ss.length : Int) := by omega
  have hm0 : (0 : Int) ≤ (m : Int) := by omega
  have HS : Hid (Sep B w1 (bytE (.slice none 0 0) [] :: Ent.blk1 gr 39 [.slice none 0 0, .slice none 0 0] :: Ent.blk1 gb 39 [.slice (some ⟨g, off, none⟩) 800 ac, .slice (some ⟨q, p, none⟩) ss.length bc] :: mxE (.slice (some ⟨g, off, none⟩) 800 ac) (.slice (some ⟨q, p, none⟩) ss.length bc) ss F)) := Lib.hid h2
  have HB := Lib.hid hb
  have HW := Lib.hid hw1
  have HG := Lib.hid hgb
  have HGR := Lib.hid hgr
  have HSS := Lib.hid hs
  clear h hb h1 h2 hw1 hgb hgr hs
  go_enter Tryd.func15, Tryd.ntmps15
  go_upto_region 2 with fail
  rw [← HW.out, ← HGR.out, ← HG.out]
  go_wp2
  clear b0 b1 d1
  go_loopw [6, 7] (fun c x wr => ∃ (k : Nat) (a8 : Option Addr) (n8 c8 : Nat), r + k ≤ 200 ∧ x = .int .i64 ((r : Int) + (k : Int)) ∧ c = .slice a8 n8 c8 ∧ Hid (runTo f (200 - (r + k)) (r + k) = runTo f (200 - r) r) ∧
    Sep B wr (bytE (.slice a8 n8 c8) (bytesOf f r k) :: Ent.blk1 gr 39 [.slice none 0 0, .slice none 0 0] :: Ent.blk1 gb 39 [.slice (some ⟨g, off, none⟩) 800 ac, .slice (some ⟨q, p, none⟩) ss.length bc] :: mxE (.slice (some ⟨g, off, none⟩) 800 ac) (.slice (some ⟨q, p, none⟩) ss.length bc) ss F) ∧ Below B w wr) (fun _ x _ => 200 - (intOf x).toNat)
  case atStart => exact ⟨0, none, 0, 0, by omega, by go_num, rfl, rfl, HS.out, HB.out⟩
  case round =>
    obtain ⟨k, a8, n8, c8, hk, rfl, rfl, hrun, hs, hb⟩ := hrel
    obtain ⟨w2, hw2⟩ : ∃ w2, w2 = wr := ⟨_, rfl⟩
    obtain rfl := hw2
    have HS2 := Lib.hid hs
    have HB2 := Lib.hid hb
    have hn8 : n8 = (bytesOf f r k).length := by
      obtain ⟨-, a, c, h, -⟩ := Sep.rowShape (A := []) hs
      simp only [Value.slice.injEq] at h
      exact h.2.1
    subst hn8
    have b0 := (Sep.blkAt (A := [_, _]) hs (j := 0) rfl).1
    have b1 := (Sep.blkAt (A := [_, _]) hs (j := 1) rfl).1
    clear hs hb HS HB
    by_cases hlt : r + k < 200
    · obtain ⟨g', off', he, d0⟩ := mx_dat (HS2.out.sub (List.Sublist.cons _ (List.Sublist.cons _ (List.Sublist.cons _ (List.Sublist.refl _))))) HSS.out hm hlt
      simp only [Option.some.injEq, Addr.mk.injEq, and_true] at he
      obtain ⟨rfl, rfl⟩ := he
      simp only at d0
      have hd : decide ((r : Int) + (k : Int) < 200) = true := decide_eq_true (by omega)
      have hx0 : (0 : Int) ≤ 200 * (m : Int) + ((r : Int) + (k : Int)) := by omega
      have hx1 : 200 * (m : Int) + ((r : Int) + (k : Int)) < 800 := by omega
      cases hf : f (r + k) with
      | none =>
        rw [hf] at d0
        simp only [dOf] at d0
        have hnext : (Str.next ⟨f, r⟩) = r + k := by unfold Str.next; simp only; rw [← hrun.out]; exact runTo_stop (.inr (by rw [hf]; rfl))
        have htx : (Str.text ⟨f, r⟩) = bytesOf f r k := by unfold Str.text; rw [hnext, Nat.add_sub_cancel_left]
        have HN := Lib.hid hnext
        have HT := Lib.hid htx
        clear hnext htx hrun
        have hg2 : B ≤ w2.heap.size := Nat.le_trans hB HB2.out.size
        have hI : IntSl w2.heap.size w2 (some ⟨q, p, none⟩) (readOf ss) := by
          have h1 : Sep B w2 (bytE (.slice a8 (bytesOf f r k).length c8) (bytesOf f r k) :: Ent.blk1 gr 39 [.slice none 0 0, .slice none 0 0] :: Ent.blk1 gb 39 [.slice (some ⟨g, off, none⟩) 800 ac, .slice (some ⟨q, p, none⟩) ss.length bc] :: Ent.ints 3 (.slice (some ⟨g, off, none⟩) 800 ac) (dataOf ss) :: Ent.ints 3 (.slice (some ⟨q, p, none⟩) (readOf ss).length bc) (readOf ss) :: F) := by rw [readOf_len]; exact HS2.out
          exact Sep.intSl (A := [_, _, _, _]) h1
        have HSET := Lib.hid (set_any (some ⟨q, p, none⟩) ss.length bc w2.heap.size m (readOf ss) ((r + k : Nat) : Int) w2 hI (readOf_len _).symm (Nat.le_refl _) (by rw [readOf_len]; exact hml) (by rw [readOf_len, HL.out]; omega))
        clear hI
        go_upto_region 6 with fail
        go_wp2_with fail
        refine HSET.out.mono ?_
        rintro e w3 ⟨v3, rfl, hs3, hb3⟩
        obtain ⟨a3, n3, c3, rfl⟩ : ∃ b n c, v3 = .slice b n c := by
          obtain ⟨b, c, h, -⟩ := Sep.intsShape (A := []) (C := []) hs3
          exact ⟨b, _, c, h⟩
        have hj := Sep.join HS2.out hg2 hb3 hs3
        have hs4 := Sep.blkSet (A := [_, _, _]) hj 1 (.slice a3 n3 c3)
        have hb4 := (HB2.out.trans (hb3.mono hg2)).setCell (p := ⟨gb, 1, none⟩) (Sep.blkLt (A := [_, _, _]) hj).1 (.slice a3 n3 c3)
        clear b0 b1
        obtain ⟨b0, fb0⟩ := Sep.blkAt (A := [_, _, _]) hj (j := 0) rfl
        obtain ⟨b1, fb1⟩ := Sep.blkAt (A := [_, _, _]) hj (j := 1) rfl
        have HS4 := Lib.hid hs4
        have HB4 := Lib.hid hb4
        clear hs3 hb3 hj hs4 hb4 HS2 HB2 hg2 HSET
        go_upto_region 7 with fail
        generalize w3.setCell ⟨gb, 1, none⟩ (.slice a3 n3 c3) = w4 at *
        have hs5 := HS4.out
        clear b0 b1 fb0 fb1 HS4
        have b0 := (Sep.blkAt (A := [_, _, _]) hs5 (j := 0) rfl).1
        have b1 := (Sep.blkAt (A := [_, _, _]) hs5 (j := 1) rfl).1
        have hcv := str_of_row (A := [_]) hs5.drew
        obtain ⟨r0, fr0⟩ := Sep.blkAt (A := [_, _]) hs5 (j := 0) rfl
        obtain ⟨r1, fr1⟩ := Sep.blkAt (A := [_, _]) hs5 (j := 1) rfl
        have hs6 := Sep.blkSet (A := [_, _]) hs5 0 (.slice (some ⟨g, off, none⟩) 800 ac)
        have hs7 := (Sep.blkSet (A := [_, _]) hs6 1 (.slice a3 n3 c3)).drew
        have hb7 := ((HB4.out.setCell (p := ⟨gr, 0, none⟩) (Sep.blkLt (A := [_, _]) hs5).1 (.slice (some ⟨g, off, none⟩) 800 ac)).setCell (p := ⟨gr, 1, none⟩) (Sep.blkLt (A := [_, _]) hs5).1 (.slice a3 n3 c3)).drew
        have HK0 := Lib.hid (And.intro b0 (And.intro b1 hcv))
        have HK1 := Lib.hid (And.intro (Sep.blkAt (A := [_, _, _]) hs7 (j := 0) rfl).1 (And.intro (Sep.blkAt (A := [_, _, _]) hs7 (j := 1) rfl).1 (str_of_row (A := [_]) hs7)))
        have HS7 := Lib.hid hs7
        have HB7 := Lib.hid hb7
        clear b0 b1 hcv hs5 hs6 hs7 hb7
        refine wp_region_held_drew (S := fun w' => w'.cell? ⟨gb, 0, none⟩ = some (.slice (some ⟨g, off, none⟩) 800 ac) ∧ w'.cell? ⟨gb, 1, none⟩ = some (.slice a3 n3 c3) ∧ (convert 34 9 (.slice a8 (bytesOf f r k).length c8)).run Tryd.prog w' = .ok (.string ⟨(bytesOf f r k).toArray⟩) w') (by kernel_rfl) ?hSa (fun hHeld => ?starta)
        case hSa => exact HK0.out
        refine wpAnyH_take (i := 0) (v := ?va0) rfl (by kernel_rfl) (by kernel_rfl) (by kernel_rfl) (fun _ _ _ h => h) (Or.inl ⟨by rfl, ?hya0⟩) (by assumption) ?resta0
        case hya0 =>
          intro w hSw
          try dsimp only at hSw
          go_simp
          try with_reducible rfl
        try simp only [Act.put, List.setIfInBounds_toArray, List.set_cons_zero, List.set_cons_succ, List.getElem_toArray, List.getElem_cons_zero]
        refine wpAnyH_take (i := 1) (v := ?va1) rfl (by kernel_rfl) (by kernel_rfl) (by kernel_rfl) (fun _ _ _ h => h) (Or.inl ⟨by rfl, ?hya1⟩) (by assumption) ?resta1
        case hya1 =>
          intro w hSw
          try dsimp only at hSw
          go_simp
          try with_reducible rfl
        try simp only [Act.put, List.setIfInBounds_toArray, List.set_cons_zero, List.set_cons_succ, List.getElem_toArray, List.getElem_cons_zero, List.getElem_cons_succ]
        refine wpAnyH_take (i := 2) (v := ?va2) rfl (by kernel_rfl) (by kernel_rfl) (by kernel_rfl) (fun _ _ _ h => h) (Or.inl ⟨by rfl, ?hya2⟩) (by assumption) ?resta2
        case hya2 =>
          intro w hSw
          try dsimp only at hSw
          go_simp
          try with_reducible rfl
        try simp only [Act.put, List.setIfInBounds_toArray, List.set_cons_zero, List.set_cons_succ, List.getElem_toArray, List.getElem_cons_zero, List.getElem_cons_succ]
        refine wpAnyH_ready (rs := [3]) (by kernel_rfl) (by simp) ?_
        refine AllReadyH.cons rfl (fun K hK => ?_) AllReadyH.nil
        go_simp
        refine hK.out _ _ ?_ (fun hHelda0 => ?_)
        · exact HK1.out
        clear hK K
        try simp only [Act.put, List.setIfInBounds_toArray, List.set_cons_zero, List.set_cons_succ, List.getElem_toArray, List.getElem_cons_zero, List.getElem_cons_succ]
        refine wpAnyH_ready (rs := [4]) (by kernel_rfl) (by simp) ?_
        refine AllReadyH.cons rfl (fun K hK => ?_) AllReadyH.nil
        go_simp
        refine hK.out _ _ ?_ (fun hHelda1 => ?_)
        · exact HK1.out
        clear hK K
        try simp only [Act.put, List.setIfInBounds_toArray, List.set_cons_zero, List.set_cons_succ, List.getElem_toArray, List.getElem_cons_zero, List.getElem_cons_succ]
        refine wpAnyH_done (by kernel_rfl) ?_ _
        have e0 := (Sep.blkAt (A := [_, _]) HS7.out (j := 0) rfl).1
        have e1 := (Sep.blkAt (A := [_, _]) HS7.out (j := 1) rfl).1
        have HE : Hid (Sep B (((w4.setCell ⟨gr, 0, none⟩ (.slice (some ⟨g, off, none⟩) 800 ac)).setCell ⟨gr, 1, none⟩ (.slice a3 n3 c3)).drew) (mxE (.slice (some ⟨g, off, none⟩) 800 ac) (.slice a3 n3 c3) (ss.set m ⟨f, Str.next ⟨f, r⟩⟩) F)) := Lib.hid (by
          rw [HN.out]
          unfold mxE
          rw [dataOf_setRead HSS.out, readOf_set (f := f) (r := r)]
          exact (HS7.out.sub (List.Sublist.cons_cons _ (List.Sublist.cons _ (List.Sublist.cons _ (List.Sublist.cons _ (List.Sublist.cons_cons _ (List.Sublist.cons _ (List.Sublist.refl _)))))))).perm (List.Perm.swap _ _ _))
        clear HS7 HK0 HK1 r0 r1 fr0 fr1
        generalize ((w4.setCell ⟨gr, 0, none⟩ (.slice (some ⟨g, off, none⟩) 800 ac)).setCell ⟨gr, 1, none⟩ (.slice a3 n3 c3)).drew = wz at *
        obtain ⟨tx, htx⟩ : ∃ tx, tx = (bytesOf f r k).toArray := ⟨_, rfl⟩
        rw [← htx]
        have HTX := Lib.hid (htx.trans (congrArg List.toArray HT.out.symm))
        clear htx
        go_wp2
        exact bodyPost_ret (v := .tuple #[.agg #[.slice (some ⟨g, off, none⟩) 800 ac, .slice a3 n3 c3], .string ⟨tx⟩]) (by simp [results, Tryd.results15, go_sem, e0, e1]) rfl ⟨_, by rw [HTX.out], HE.out, HB7.out⟩
      | some b =>
        rw [hf] at d0
        simp only [dOf] at d0
        have hne : ((b.toNat : Int) + 1 != 0) = true := by simp; omega
        have hfx : Hid (bytesOf f r (k + 1) = bytesOf f r k ++ [b]) := Lib.hid (bytesOf_succ hf)
        have hrn : Hid (runTo f (200 - (r + (k + 1))) (r + (k + 1)) = runTo f (200 - r) r) := by
          rw [← hrun.out]
          exact Lib.hid (runTo_step (by omega) (by rw [hf]; rfl : (f (r + k)).isSome = true)).symm
        clear hf hrun
        have hb255 : (b.toNat : Int) ≤ 255 := by have := UInt8.toNat_lt b; omega
        have hwp : wrap64 (b.toNat : Int) = (b.toNat : Int) := by unfold wrap64; omega
        have hmd : (b.toNat : Int) % 256 = (b.toNat : Int) := by omega
        have hg2 : B ≤ w2.heap.size := Nat.le_trans hB HB2.out.size
        have hlen : (bytesOf f r k).length ≤ 1000000000 := by rw [bytesOf_len]; omega
        go_wp2_with (at_builtin; refine wpList_append_u8 (A := []) (y := b) rfl (.tmp 26) (.tmp 37) rfl elemU8 rfl HS2.out hg2 rfl hlen ?_)
        intro v3 w3 hs hb
        obtain ⟨a3, n3, c3, rfl⟩ : ∃ b n c, v3 = .slice b n c := by
          obtain ⟨_, b, c, h, -⟩ := Sep.rowShape (A := []) hs
          exact ⟨b, _, c, h⟩
        rw [← hfx.out] at hs
        have HS3 := Lib.hid hs
        have HB3 := Lib.hid (HB2.out.trans hb)
        clear hs hb d0 b0 b1 HS2 HB2 hg2
        go_wp2
        go_roundw
        case rel => exact ⟨k + 1, _, _, _, by omega, by go_num, rfl, hrn, HS3.out, HB3.out⟩
        case measure => simp [intOf]; omega
    · have hd : decide ((r : Int) + (k : Int) < 200) = false := decide_eq_false (by omega)
      have hnext : (Str.next ⟨f, r⟩) = r + k := by unfold Str.next; simp only; rw [← hrun.out]; exact runTo_stop (.inl (by omega))
      have htx : (Str.text ⟨f, r⟩) = bytesOf f r k := by unfold Str.text; rw [hnext, Nat.add_sub_cancel_left]
      have HN := Lib.hid hnext
      have HT := Lib.hid htx
      clear hnext htx hrun
      have hg2 : B ≤ w2.heap.size := Nat.le_trans hB HB2.out.size
      have hI : IntSl w2.heap.size w2 (some ⟨q, p, none⟩) (readOf ss) := by
        have h1 : Sep B w2 (bytE (.slice a8 (bytesOf f r k).length c8) (bytesOf f r k) :: Ent.blk1 gr 39 [.slice none 0 0, .slice none 0 0] :: Ent.blk1 gb 39 [.slice (some ⟨g, off, none⟩) 800 ac, .slice (some ⟨q, p, none⟩) ss.length bc] :: Ent.ints 3 (.slice (some ⟨g, off, none⟩) 800 ac) (dataOf ss) :: Ent.ints 3 (.slice (some ⟨q, p, none⟩) (readOf ss).length bc) (readOf ss) :: F) := by rw [readOf_len]; exact HS2.out
        exact Sep.intSl (A := [_, _, _, _]) h1
      have HSET := Lib.hid (set_any (some ⟨q, p, none⟩) ss.length bc w2.heap.size m (readOf ss) ((r + k : Nat) : Int) w2 hI (readOf_len _).symm (Nat.le_refl _) (by rw [readOf_len]; exact hml) (by rw [readOf_len, HL.out]; omega))
      clear hI
      go_upto_region 6 with fail
      go_wp2_with fail
      refine HSET.out.mono ?_
      rintro e w3 ⟨v3, rfl, hs3, hb3⟩
      obtain ⟨a3, n3, c3, rfl⟩ : ∃ b n c, v3 = .slice b n c := by
        obtain ⟨b, c, h, -⟩ := Sep.intsShape (A := []) (C := []) hs3
        exact ⟨b, _, c, h⟩
      have hj := Sep.join HS2.out hg2 hb3 hs3
      have hs4 := Sep.blkSet (A := [_, _, _]) hj 1 (.slice a3 n3 c3)
      have hb4 := (HB2.out.trans (hb3.mono hg2)).setCell (p := ⟨gb, 1, none⟩) (Sep.blkLt (A := [_, _, _]) hj).1 (.slice a3 n3 c3)
      clear b0 b1
      obtain ⟨b0, fb0⟩ := Sep.blkAt (A := [_, _, _]) hj (j := 0) rfl
      obtain ⟨b1, fb1⟩ := Sep.blkAt (A := [_, _, _]) hj (j := 1) rfl
      have HS4 := Lib.hid hs4
      have HB4 := Lib.hid hb4
      clear hs3 hb3 hj hs4 hb4 HS2 HB2 hg2 HSET
      go_upto_region 7 with fail
      generalize w3.setCell ⟨gb, 1, none⟩ (.slice a3 n3 c3) = w4 at *
      have hs5 := HS4.out
      clear b0 b1 fb0 fb1 HS4
      have b0 := (Sep.blkAt (A := [_, _, _]) hs5 (j := 0) rfl).1
      have b1 := (Sep.blkAt (A := [_, _, _]) hs5 (j := 1) rfl).1
      have hcv := str_of_row (A := [_]) hs5.drew
      obtain ⟨r0, fr0⟩ := Sep.blkAt (A := [_, _]) hs5 (j := 0) rfl
      obtain ⟨r1, fr1⟩ := Sep.blkAt (A := [_, _]) hs5 (j := 1) rfl
      have hs6 := Sep.blkSet (A := [_, _]) hs5 0 (.slice (some ⟨g, off, none⟩) 800 ac)
      have hs7 := (Sep.blkSet (A := [_, _]) hs6 1 (.slice a3 n3 c3)).drew
      have hb7 := ((HB4.out.setCell (p := ⟨gr, 0, none⟩) (Sep.blkLt (A := [_, _]) hs5).1 (.slice (some ⟨g, off, none⟩) 800 ac)).setCell (p := ⟨gr, 1, none⟩) (Sep.blkLt (A := [_, _]) hs5).1 (.slice a3 n3 c3)).drew
      have HK0 := Lib.hid (And.intro b0 (And.intro b1 hcv))
      have HK1 := Lib.hid (And.intro (Sep.blkAt (A := [_, _, _]) hs7 (j := 0) rfl).1 (And.intro (Sep.blkAt (A := [_, _, _]) hs7 (j := 1) rfl).1 (str_of_row (A := [_]) hs7)))
      have HS7 := Lib.hid hs7
      have HB7 := Lib.hid hb7
      clear b0 b1 hcv hs5 hs6 hs7 hb7
      refine wp_region_held_drew (S := fun w' => w'.cell? ⟨gb, 0, none⟩ = some (.slice (some ⟨g, off, none⟩) 800 ac) ∧ w'.cell? ⟨gb, 1, none⟩ = some (.slice a3 n3 c3) ∧ (convert 34 9 (.slice a8 (bytesOf f r k).length c8)).run Tryd.prog w' = .ok (.string ⟨(bytesOf f r k).toArray⟩) w') (by kernel_rfl) ?hSb (fun hHeld => ?startb)
      case hSb => exact HK0.out
      refine wpAnyH_take (i := 0) (v := ?vb0) rfl (by kernel_rfl) (by kernel_rfl) (by kernel_rfl) (fun _ _ _ h => h) (Or.inl ⟨by rfl, ?hyb0⟩) (by assumption) ?restb0
      case hyb0 =>
        intro w hSw
        try dsimp only at hSw
        go_simp
        try with_reducible rfl
      try simp only [Act.put, List.setIfInBounds_toArray, List.set_cons_zero, List.set_cons_succ, List.getElem_toArray, List.getElem_cons_zero]
      refine wpAnyH_take (i := 1) (v := ?vb1) rfl (by kernel_rfl) (by kernel_rfl) (by kernel_rfl) (fun _ _ _ h => h) (Or.inl ⟨by rfl, ?hyb1⟩) (by assumption) ?restb1
      case hyb1 =>
        intro w hSw
        try dsimp only at hSw
        go_simp
        try with_reducible rfl
      try simp only [Act.put, List.setIfInBounds_toArray, List.set_cons_zero, List.set_cons_succ, List.getElem_toArray, List.getElem_cons_zero, List.getElem_cons_succ]
      refine wpAnyH_take (i := 2) (v := ?vb2) rfl (by kernel_rfl) (by kernel_rfl) (by kernel_rfl) (fun _ _ _ h => h) (Or.inl ⟨by rfl, ?hyb2⟩) (by assumption) ?restb2
      case hyb2 =>
        intro w hSw
        try dsimp only at hSw
        go_simp
        try with_reducible rfl
      try simp only [Act.put, List.setIfInBounds_toArray, List.set_cons_zero, List.set_cons_succ, List.getElem_toArray, List.getElem_cons_zero, List.getElem_cons_succ]
      refine wpAnyH_ready (rs := [3]) (by kernel_rfl) (by simp) ?_
      refine AllReadyH.cons rfl (fun K hK => ?_) AllReadyH.nil
      go_simp
      refine hK.out _ _ ?_ (fun hHeldb0 => ?_)
      · exact HK1.out
      clear hK K
      try simp only [Act.put, List.setIfInBounds_toArray, List.set_cons_zero, List.set_cons_succ, List.getElem_toArray, List.getElem_cons_zero, List.getElem_cons_succ]
      refine wpAnyH_ready (rs := [4]) (by kernel_rfl) (by simp) ?_
      refine AllReadyH.cons rfl (fun K hK => ?_) AllReadyH.nil
      go_simp
      refine hK.out _ _ ?_ (fun hHeldb1 => ?_)
      · exact HK1.out
      clear hK K
      try simp only [Act.put, List.setIfInBounds_toArray, List.set_cons_zero, List.set_cons_succ, List.getElem_toArray, List.getElem_cons_zero, List.getElem_cons_succ]
      refine wpAnyH_done (by kernel_rfl) ?_ _
      have e0 := (Sep.blkAt (A := [_, _]) HS7.out (j := 0) rfl).1
      have e1 := (Sep.blkAt (A := [_, _]) HS7.out (j := 1) rfl).1
      have HE : Hid (Sep B (((w4.setCell ⟨gr, 0, none⟩ (.slice (some ⟨g, off, none⟩) 800 ac)).setCell ⟨gr, 1, none⟩ (.slice a3 n3 c3)).drew) (mxE (.slice (some ⟨g, off, none⟩) 800 ac) (.slice a3 n3 c3) (ss.set m ⟨f, Str.next ⟨f, r⟩⟩) F)) := Lib.hid (by
        rw [HN.out]
        unfold mxE
        rw [dataOf_setRead HSS.out, readOf_set (f := f) (r := r)]
        exact (HS7.out.sub (List.Sublist.cons_cons _ (List.Sublist.cons _ (List.Sublist.cons _ (List.Sublist.cons _ (List.Sublist.cons_cons _ (List.Sublist.cons _ (List.Sublist.refl _)))))))).perm (List.Perm.swap _ _ _))
      clear HS7 HK0 HK1 r0 r1 fr0 fr1
      generalize ((w4.setCell ⟨gr, 0, none⟩ (.slice (some ⟨g, off, none⟩) 800 ac)).setCell ⟨gr, 1, none⟩ (.slice a3 n3 c3)).drew = wz at *
      obtain ⟨tx, htx⟩ : ∃ tx, tx = (bytesOf f r k).toArray := ⟨_, rfl⟩
      rw [← htx]
      have HTX := Lib.hid (htx.trans (congrArg List.toArray HT.out.symm))
      clear htx
      go_wp2
      exact bodyPost_ret (v := .tuple #[.agg #[.slice (some ⟨g, off, none⟩) 800 ac, .slice a3 n3 c3], .string ⟨tx⟩]) (by simp [results, Tryd.results15, go_sem, e0, e1]) rfl ⟨_, by rw [HTX.out], HE.out, HB7.out⟩
end Go.Proofs.YthnlpmjfibidcaaDoor
