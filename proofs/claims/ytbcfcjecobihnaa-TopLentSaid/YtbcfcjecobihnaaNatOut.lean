/- nat: Out. -/
import Derived.Test.YtbcfcjecobihnaaNatIn
import Derived.Deep.RegionLaw
import Derived.Deep.RegionHeld3
namespace Go.Proofs.Ytbcfcjecobihnaa
open Go.RowKit Go.Maps
open Go.ChangeMaps (setBlock)
set_option linter.unusedVariables false
set_option maxRecDepth 100000

theorem natOut_bad (B g : Nat) (low many : Int) (M : NatM) (F : List Ent) (p : Pl) (w : World) (h : NatT B w g low many M F) (hp : ¬ PlOk p) :
    Calls Try.prog 8 #[.pointer (some ⟨g, 0, none⟩), plV p] w fun e w' => e = .returned (.tuple #[.int .i64 0, .iface 49 (.int .i64 1)]) ∧ Below w.heap.size w w' := by
  obtain ⟨hok, mp, mq, e1, c1, e2, c2, m1, m2, hs⟩ := h
  have hs0 := hs.alloc (.cells #[.int .i64 p.1, .int .i64 p.2] 40)
  have hb0 := below_alloc w (.cells #[.int .i64 p.1, .int .i64 p.2] 40)
  obtain ⟨w0, hw0⟩ : ∃ w0, w0 = w.alloc (.cells #[.int .i64 p.1, .int .i64 p.2] 40) := ⟨_, rfl⟩
  have p0 : w0.cell? ⟨w.heap.size, 0, none⟩ = some (.int .i64 p.1) := by rw [hw0]; exact (World.cell?_alloc_mark ..).trans rfl
  have p1 : w0.cell? ⟨w.heap.size, 1, none⟩ = some (.int .i64 p.2) := by rw [hw0]; exact (World.cell?_alloc_mark ..).trans rfl
  rw [← hw0] at hs0 hb0
  have HCK := Lib.hid (natCheck_any p w0)
  have HB0 := Lib.hid hb0
  have HS0 := Lib.hid hs0
  have HW0 := Lib.hid hw0
  clear hs0 hb0 hw0 hs
  have hck := HCK.out
  rw [if_neg hp] at hck
  unfold plV at hck ⊢
  have HC := Lib.hid hck
  clear hck HCK hp
  go_enter Try.func8, Try.ntmps8
  go_upto_region 1 with fail
  rw [← HW0.out]
  clear HW0
  go_wp2_with fail
  refine HC.out.mono ?_
  rintro e w1 ⟨rfl, hb⟩
  have HB1 := Lib.hid (HB0.out.trans (hb.mono HB0.out.size))
  clear hb
  go_wp2
  go_ret2
  exact ⟨rfl, HB1.out⟩
set_option maxHeartbeats 1000000 in
theorem natOut_has (B g : Nat) (low many : Int) (M : NatM) (F : List Ent) (p : Pl) (q : Int) (w : World) (h : NatT B w g low many M F) (hp : PlOk p) (hq : portOf M p = some q) :
    Calls Try.prog 8 #[.pointer (some ⟨g, 0, none⟩), plV p] w fun e w' => e = .returned (.tuple #[.int .i64 q, .nilIface]) ∧ Below w.heap.size w w' := by
  obtain ⟨hok, mp, mq, e1, c1, e2, c2, m1, m2, hs⟩ := h
  have hs0 := hs.alloc (.cells #[.int .i64 p.1, .int .i64 p.2] 40)
  have hb0 := below_alloc w (.cells #[.int .i64 p.1, .int .i64 p.2] 40)
  obtain ⟨w0, hw0⟩ : ∃ w0, w0 = w.alloc (.cells #[.int .i64 p.1, .int .i64 p.2] 40) := ⟨_, rfl⟩
  have p0 : w0.cell? ⟨w.heap.size, 0, none⟩ = some (.int .i64 p.1) := by rw [hw0]; exact (World.cell?_alloc_mark ..).trans rfl
  have p1 : w0.cell? ⟨w.heap.size, 1, none⟩ = some (.int .i64 p.2) := by rw [hw0]; exact (World.cell?_alloc_mark ..).trans rfl
  rw [← hw0] at hs0 hb0
  have HCK := Lib.hid (natCheck_any p w0)
  have HB0 := Lib.hid hb0
  have HS0 := Lib.hid hs0
  have HW0 := Lib.hid hw0
  clear hs0 hb0 hw0 hs
  have hck := HCK.out
  rw [if_pos hp] at hck
  have HL := Lib.hid (fun (w' : World) (hm : w'.heap[mp]? = some (.map e1 c1)) => lookP hok hm m1 hp)
  unfold plV at hck ⊢
  have HC := Lib.hid hck
  have HQ := Lib.hid hq
  clear hck HCK hp hq m1 m2 hok
  go_enter Try.func8, Try.ntmps8
  go_upto_region 1 with fail
  rw [← HW0.out]
  clear HW0
  go_wp2_with fail
  refine HC.out.mono ?_
  rintro e w1 ⟨rfl, hb⟩
  have HB1 := Lib.hid (HB0.out.trans (hb.mono HB0.out.size)).drew
  have HS1 := Lib.hid (HS0.out.kept hb).drew
  have q0 : w1.drew.cell? ⟨w.heap.size, 0, none⟩ = some (.int .i64 p.1) := (hb.cell (p := ⟨w.heap.size, 0, none⟩) (World.block_lt_of_cell? w0 _ p0)).trans p0
  have q1 : w1.drew.cell? ⟨w.heap.size, 1, none⟩ = some (.int .i64 p.2) := (hb.cell (p := ⟨w.heap.size, 1, none⟩) (World.block_lt_of_cell? w0 _ p1)).trans p1
  obtain ⟨t0, t1, t2, t3, hm, -⟩ := tab_cells HS1.out
  have hl := HL.out _ hm
  rw [HQ.out] at hl
  simp only [Option.getD_some, Option.isSome_some] at hl
  unfold plV at hl
  clear hb hm p0 p1
  go_wp2_with fail
  go_region
  go_wp2
  go_ret2
  exact ⟨rfl, HB1.out⟩

theorem cell_setBlock {w : World} {b : Nat} {es : Array MapEntry} {clock : Nat} (hb : w.heap[b]? = some (.map es clock)) (o : Obj) {a : Addr} (h : a.block ≠ b) : (setBlock w b o).cell? a = w.cell? a := by
  unfold World.cell?
  rw [Go.ChangeMaps.heap_setBlock_other hb o h]
theorem kv_snoc {M : NatM} {f : Int × Pl → Value × Value} (x : Int × Pl) : (M ++ [x]).map f = M.map f ++ [f x] := by rw [List.map_append]; rfl
theorem freeFrom_step {M : NatM} {n : Nat} {q : Int} {x : Pl} (h : placeOf M q = some x) : freeFrom M (n + 1) q = freeFrom M n (q + 1) := by
  rw [freeFrom, if_neg (by rw [h]; simp)]
theorem freeFrom_here {M : NatM} {n : Nat} {q : Int} (h : placeOf M q = none) : freeFrom M (n + 1) q = some q := by
  rw [freeFrom, if_pos h]
set_option maxHeartbeats 2000000 in
theorem natOut_free (B g : Nat) (low many : Int) (M : NatM) (F : List Ent) (p : Pl) (R : Option Int) (w : World) (h : NatT B w g low many M F) (hB : B ≤ w.heap.size) (hp : PlOk p) (hq : portOf M p = none) (hR : freeFrom M many.toNat low = R) :
    Calls Try.prog 8 #[.pointer (some ⟨g, 0, none⟩), plV p] w fun e w' =>
      (∀ q, R = some q → e = .returned (.tuple #[.int .i64 q, .nilIface]) ∧ NatT B w' g low many (M ++ [(q, p)]) F ∧ Below B w w') ∧ (R = none → e = .returned (.tuple #[.int .i64 0, .iface 49 (.int .i64 4)]) ∧ NatT B w' g low many M F ∧ Below B w w') := by
  obtain ⟨hok, mp, mq, e1, c1, e2, c2, m1, m2, hs⟩ := h
  obtain ⟨⟨l1, l2⟩, ⟨a1, a2⟩, l3⟩ := hok.lm
  obtain ⟨n, rfl⟩ := Int.eq_ofNat_of_zero_le (by omega : 0 ≤ many)
  rw [Int.toNat_natCast] at hR
  have HMN := Lib.hid (And.intro (show mp ≠ w.heap.size by have := (Sep.mapLt (A := [_]) hs).2; omega) (show mq ≠ w.heap.size by have := (Sep.mapLt (A := [_, _]) hs).2; omega))
  have hs0 := hs.alloc (.cells #[.int .i64 p.1, .int .i64 p.2] 40)
  have hb0 := below_alloc w (.cells #[.int .i64 p.1, .int .i64 p.2] 40)
  obtain ⟨w0, hw0⟩ : ∃ w0, w0 = w.alloc (.cells #[.int .i64 p.1, .int .i64 p.2] 40) := ⟨_, rfl⟩
  have p0 : w0.cell? ⟨w.heap.size, 0, none⟩ = some (.int .i64 p.1) := by rw [hw0]; exact (World.cell?_alloc_mark ..).trans rfl
  have p1 : w0.cell? ⟨w.heap.size, 1, none⟩ = some (.int .i64 p.2) := by rw [hw0]; exact (World.cell?_alloc_mark ..).trans rfl
  rw [← hw0] at hs0 hb0
  have HCK := Lib.hid (natCheck_any p w0)
  have HB0 := Lib.hid hb0
  have HS0 := Lib.hid hs0
  have HW0 := Lib.hid hw0
  clear hs0 hb0 hw0 hs
  have hck := HCK.out
  rw [if_pos hp] at hck
  have HL := Lib.hid (fun (w' : World) (hm : w'.heap[mp]? = some (.map e1 c1)) => lookP hok hm m1 hp)
  have HPL := Lib.hid hp
  unfold plV at hck ⊢
  have HC := Lib.hid hck
  have HQ := Lib.hid hq
  have HM1 := Lib.hid m1
  have HM2 := Lib.hid m2
  have HOK := Lib.hid hok
  have HR0 := Lib.hid hR
  clear hck HCK hp hq m1 m2 hok hR
  go_enter Try.func8, Try.ntmps8
  go_upto_region 1 with fail
  rw [← HW0.out]
  clear HW0
  go_wp2_with fail
  refine HC.out.mono ?_
  rintro e w1 ⟨rfl, hb⟩
  have HB1 := Lib.hid ((HB0.out.mono hB).trans (hb.mono (Nat.le_trans hB HB0.out.size))).drew
  have HS1 := Lib.hid (HS0.out.kept hb).drew
  have q0 : w1.drew.cell? ⟨w.heap.size, 0, none⟩ = some (.int .i64 p.1) := (hb.cell (p := ⟨w.heap.size, 0, none⟩) (World.block_lt_of_cell? w0 _ p0)).trans p0
  have q1 : w1.drew.cell? ⟨w.heap.size, 1, none⟩ = some (.int .i64 p.2) := (hb.cell (p := ⟨w.heap.size, 1, none⟩) (World.block_lt_of_cell? w0 _ p1)).trans p1
  obtain ⟨t0, t1, t2, t3, hm, -⟩ := tab_cells HS1.out
  have hl := HL.out _ hm
  rw [HQ.out] at hl
  simp only [Option.getD_none, Option.isSome_none] at hl
  unfold plV at hl
  clear hb hm p0 p1
  go_wp2_with fail
  go_region
  clear hl HC HS0 HB0
  obtain ⟨w2, hw2⟩ : ∃ w2, w2 = w1.drew := ⟨_, rfl⟩
  rw [← hw2] at q0 q1 t0 t1 t2 t3 HB1 HS1 ⊢
  clear hw2
  have hg2 : B ≤ w2.heap.size := Nat.le_trans hB HB1.out.size
  have HQB := Lib.hid (And.intro (World.block_lt_of_cell? w2 _ q0) (And.intro q0 q1))
  clear q0 q1 t1 t2 t3
  go_wp2
  go_loopg [9] n (fun gk iv wr => ∃ k : Nat, gk + k = n ∧ iv = .int .i64 (low + (k : Int)) ∧ Hid (freeFrom M gk (low + (k : Int)) = R) ∧ Below w2.heap.size w2 wr)
  case atStart => exact ⟨0, rfl, by simp, by simp only [Hid]; have := HR0.out; simpa using this, Below.refl _ _⟩
  case round =>
    obtain ⟨gn, rfl⟩ : ∃ gn, gn = gk := ⟨_, rfl⟩
    obtain ⟨k, hgk, rfl, HR, hbel⟩ := hrel
    clear t0
    obtain ⟨w3, hw3⟩ : ∃ w3, w3 = wr := ⟨_, rfl⟩
    obtain rfl := hw3
    have HS3 := Lib.hid (HS1.out.kept hbel)
    have HB3 := Lib.hid (HB1.out.trans (hbel.mono hg2))
    have HE3 := Lib.hid hbel
    clear hbel
    obtain ⟨t0, t1, t2, t3, -, -⟩ := tab_cells HS3.out
    obtain ⟨q, hq⟩ : ∃ q, q = low + (k : Int) := ⟨_, rfl⟩
    rw [← hq] at HR ⊢
    have hqb : -9223372036854775808 ≤ q ∧ q ≤ 9223372036854775807 := by omega
    have hq1 : 0 ≤ q := by omega
    have hq2 : q ≤ 65536 := by omega
    by_cases hlt : k < n
    · have hd : decide (q < low + (n : Int)) = true := decide_eq_true (by omega)
      have HKQ := Lib.hid hq
      clear hq
      go_wp2_with fail
      go_quiet (fail)
      have HS4 := Lib.hid (HS3.out.drewN nq)
      have HB4 := Lib.hid (HB3.out.trans (below_drewN _ w3 nq))
      have HE4 := Lib.hid (HE3.out.trans (below_drewN _ w3 nq))
      clear t0 t1 t2 t3 hd HS3 HB3 HE3
      generalize w3.drewN nq = w4 at *
      have hg4 : w2.heap.size ≤ w4.heap.size := HE4.out.size
      obtain ⟨t0, t1, t2, t3, -, hm⟩ := tab_cells HS4.out
      have hl := lookQ HOK.out hm HM2.out hqb
      unfold plV at hl
      clear hm
      cases hpq : placeOf M q with
      | some x =>
        rw [hpq] at hl
        simp only [Option.getD_some, Option.isSome_some] at hl
        have hst := freeFrom_step (n := gn - 1) hpq
        rw [show gn - 1 + 1 = gn by omega, HR.out] at hst
        have HST := Lib.hid hst.symm
        have HF := Lib.hid (HE4.out.alloc hg4 (.cells #[.int .i64 x.1, .int .i64 x.2] 40))
        clear hpq hst
        go_wp2
        go_roundg (gn - 1)
        case measure => omega
        case rel => exact ⟨k + 1, by omega, congrArg (Value.int .i64) (show q + 1 = low + ((k + 1 : Nat) : Int) by have := HKQ.out; omega), by simp only [Hid]; rw [← HST.out]; congr 1; have := HKQ.out; omega, HF.out⟩
      | none =>
        rw [hpq] at hl
        simp only [Option.getD_none, Option.isSome_none] at hl
        have hst := freeFrom_here (n := gn - 1) hpq
        rw [show gn - 1 + 1 = gn by omega, HR.out] at hst
        have HST := Lib.hid hst
        have HPQ := Lib.hid hpq
        have HS5 := Lib.hid (HS4.out.alloc (.cells #[.int .i64 0, .int .i64 0] 40))
        have HB5 := Lib.hid (HB4.out.alloc (Nat.le_trans hB HB4.out.size) (.cells #[.int .i64 0, .int .i64 0] 40))
        have HE5 := Lib.hid (HE4.out.alloc hg4 (.cells #[.int .i64 0, .int .i64 0] 40))
        clear hpq hst
        go_upto_region 12 with fail
        clear hl t0 t1 t2 t3 HS4 HB4 HE4 hg4
        generalize w4.alloc (.cells #[.int .i64 0, .int .i64 0] 40) = w5 at *
        have HS6 := Lib.hid HS5.out.drew
        have HB6 := Lib.hid HB5.out.drew
        obtain ⟨-, -, t2, t3, hm1, hm2⟩ := tab_cells HS6.out
        have x0 : w5.drew.cell? ⟨w.heap.size, 0, none⟩ = some (.int .i64 p.1) := (HE5.out.cell (p := ⟨w.heap.size, 0, none⟩) HQB.out.1).trans HQB.out.2.1
        have x1 : w5.drew.cell? ⟨w.heap.size, 1, none⟩ = some (.int .i64 p.2) := (HE5.out.cell (p := ⟨w.heap.size, 1, none⟩) HQB.out.1).trans HQB.out.2.2
        have HK0 := Lib.hid (And.intro t2 (And.intro t3 (And.intro x0 x1)))
        obtain ⟨kl, hkl⟩ := plKey HPL.out
        have hn1 : ∀ y ∈ kvP M, y.1 ≠ plV p := fun y hy e => by
          obtain ⟨x, hx, rfl⟩ := List.mem_map.1 hy
          exact portOf_none.1 HQ.out x hx (plV_inj e)
        have hn2 : ∀ y ∈ kvQ M, y.1 ≠ .int .i64 q := fun y hy e => by
          obtain ⟨x, hx, rfl⟩ := List.mem_map.1 hy
          exact placeOf_none.1 HPQ.out x hx (by simpa using e)
        have rA := entry_new plKeyed Try.underlying50 zeroInt hm1 HM1.out (keysP HOK.out) hkl hn1
        have sA := Sep.mapSet (A := [_]) HS6.out (e1.push ⟨plV p, .int .i64 0, c1⟩) (c1 + 1)
        have bA := HB6.out.trans (below_setBlock hm1 (Sep.mapLt (A := [_]) HS6.out).1 (.map (e1.push ⟨plV p, .int .i64 0, c1⟩) (c1 + 1)))
        have y0 := (cell_setBlock hm1 (.map (e1.push ⟨plV p, .int .i64 0, c1⟩) (c1 + 1)) (a := ⟨w.heap.size, 0, none⟩) (fun e => HMN.out.1 e.symm)).trans x0
        have y1 := (cell_setBlock hm1 (.map (e1.push ⟨plV p, .int .i64 0, c1⟩) (c1 + 1)) (a := ⟨w.heap.size, 1, none⟩) (fun e => HMN.out.1 e.symm)).trans x1
        obtain ⟨wA, hwA⟩ : ∃ wA, wA = setBlock w5.drew mp (.map (e1.push ⟨plV p, .int .i64 0, c1⟩) (c1 + 1)) := ⟨_, rfl⟩
        rw [← hwA] at rA sA bA y0 y1
        obtain ⟨-, -, t2, t3, hm1, hm2⟩ := tab_cells (e1 := e1.push ⟨plV p, .int .i64 0, c1⟩) (c1 := c1 + 1) sA
        have HKA := Lib.hid (And.intro t2 (And.intro t3 (And.intro y0 y1)))
        have rB := entry_store (P := Try.prog) (t := 50) (v := .int .i64 q) HM1.out hm1
        have sB := Sep.mapSet (A := [_]) sA (e1.push ⟨plV p, .int .i64 q, c1⟩) (c1 + 1)
        have bB := bA.trans (below_setBlock hm1 (Sep.mapLt (A := [_]) sA).1 (.map (e1.push ⟨plV p, .int .i64 q, c1⟩) (c1 + 1)))
        have y0 := (cell_setBlock hm1 (.map (e1.push ⟨plV p, .int .i64 q, c1⟩) (c1 + 1)) (a := ⟨w.heap.size, 0, none⟩) (fun e => HMN.out.1 e.symm)).trans y0
        have y1 := (cell_setBlock hm1 (.map (e1.push ⟨plV p, .int .i64 q, c1⟩) (c1 + 1)) (a := ⟨w.heap.size, 1, none⟩) (fun e => HMN.out.1 e.symm)).trans y1
        obtain ⟨wB, hwB⟩ : ∃ wB, wB = setBlock wA mp (.map (e1.push ⟨plV p, .int .i64 q, c1⟩) (c1 + 1)) := ⟨_, rfl⟩
        rw [← hwB] at rB sB bB y0 y1
        obtain ⟨-, -, t2, t3, hm1, hm2⟩ := tab_cells (e1 := e1.push ⟨plV p, .int .i64 q, c1⟩) (c1 := c1 + 1) sB
        have HKB := Lib.hid (And.intro t2 (And.intro t3 (And.intro y0 y1)))
        have rC := entry_new intKeyed Try.underlying51 zeroPl hm2 HM2.out (keysQ HOK.out) (intKey hqb) hn2
        have sC := Sep.mapSet (A := [_, _]) sB (e2.push ⟨.int .i64 q, plV (0, 0), c2⟩) (c2 + 1)
        have bC := bB.trans (below_setBlock hm2 (Sep.mapLt (A := [_, _]) sB).1 (.map (e2.push ⟨.int .i64 q, plV (0, 0), c2⟩) (c2 + 1)))
        have y0 := (cell_setBlock hm2 (.map (e2.push ⟨.int .i64 q, plV (0, 0), c2⟩) (c2 + 1)) (a := ⟨w.heap.size, 0, none⟩) (fun e => HMN.out.2 e.symm)).trans y0
        have y1 := (cell_setBlock hm2 (.map (e2.push ⟨.int .i64 q, plV (0, 0), c2⟩) (c2 + 1)) (a := ⟨w.heap.size, 1, none⟩) (fun e => HMN.out.2 e.symm)).trans y1
        obtain ⟨wC, hwC⟩ : ∃ wC, wC = setBlock wB mq (.map (e2.push ⟨.int .i64 q, plV (0, 0), c2⟩) (c2 + 1)) := ⟨_, rfl⟩
        rw [← hwC] at rC sC bC y0 y1
        obtain ⟨-, -, t2, t3, hm1, hm2⟩ := tab_cells (e1 := e1.push ⟨plV p, .int .i64 q, c1⟩) (c1 := c1 + 1) (e2 := e2.push ⟨.int .i64 q, plV (0, 0), c2⟩) (c2 := c2 + 1) sC
        have HKC := Lib.hid (And.intro t2 (And.intro t3 (And.intro y0 y1)))
        have rD := entry_store (P := Try.prog) (t := 51) (v := plV p) HM2.out hm2
        have sD := Sep.mapSet (A := [_, _]) sC (e2.push ⟨.int .i64 q, plV p, c2⟩) (c2 + 1)
        have bD := bC.trans (below_setBlock hm2 (Sep.mapLt (A := [_, _]) sC).1 (.map (e2.push ⟨.int .i64 q, plV p, c2⟩) (c2 + 1)))
        have y0 := (cell_setBlock hm2 (.map (e2.push ⟨.int .i64 q, plV p, c2⟩) (c2 + 1)) (a := ⟨w.heap.size, 0, none⟩) (fun e => HMN.out.2 e.symm)).trans y0
        have y1 := (cell_setBlock hm2 (.map (e2.push ⟨.int .i64 q, plV p, c2⟩) (c2 + 1)) (a := ⟨w.heap.size, 1, none⟩) (fun e => HMN.out.2 e.symm)).trans y1
        obtain ⟨wD, hwD⟩ : ∃ wD, wD = setBlock wC mq (.map (e2.push ⟨.int .i64 q, plV p, c2⟩) (c2 + 1)) := ⟨_, rfl⟩
        rw [← hwD] at rD sD bD y0 y1
        obtain ⟨-, -, t2, t3, hm1, hm2⟩ := tab_cells (e1 := e1.push ⟨plV p, .int .i64 q, c1⟩) (c1 := c1 + 1) (e2 := e2.push ⟨.int .i64 q, plV p, c2⟩) (c2 := c2 + 1) sD
        have HKD := Lib.hid (And.intro t2 (And.intro t3 (And.intro y0 y1)))
        have hbd := freeFrom_some (HR0.out.trans HST.out)
        have mA := HM1.out.push (plV p) (.int .i64 q)
        have mB := HM2.out.push (.int .i64 q) (plV p)
        rw [show kvP M ++ [(plV p, Value.int .i64 q)] = kvP (M ++ [(q, p)]) from (kv_snoc (q, p)).symm] at mA
        rw [show kvQ M ++ [(Value.int .i64 q, plV p)] = kvQ (M ++ [(q, p)]) from (kv_snoc (q, p)).symm] at mB
        have HND := Lib.hid (show NatT B wD g low (n : Int) (M ++ [(q, p)]) F from ⟨HOK.out.push HPQ.out HQ.out ⟨hbd.2.1, hbd.2.2⟩ HPL.out, mp, mq, _, _, _, _, mA, mB, sD⟩)
        have HBD := Lib.hid bD
        simp only [plV, goInt] at rA rB rC rD
        have HM' := Lib.hid (And.intro rA (And.intro rB (And.intro rC rD)))
        clear rA rB rC rD sA sB sC sD bA bB bC bD y0 y1 t2 t3 hm1 hm2 mA mB hbd hn1 hn2 hkl hwA hwB hwC hwD x0 x1
        refine wp_region_held_drew (S := fun w' => w'.cell? ⟨g, 2, none⟩ = some (.map (some mp)) ∧ w'.cell? ⟨g, 3, none⟩ = some (.map (some mq)) ∧ w'.cell? ⟨w.heap.size, 0, none⟩ = some (.int .i64 p.1) ∧ w'.cell? ⟨w.heap.size, 1, none⟩ = some (.int .i64 p.2)) (by kernel_rfl) ?hS0 (fun hHeld => ?start0)
        case hS0 => exact HK0.out
        refine wpAnyH_take (i := 0) (v := ?va0) rfl (by kernel_rfl) (by kernel_rfl) (by kernel_rfl) (fun _ _ _ h => h) (Or.inl ⟨by rfl, ?hya0⟩) (by assumption) ?resta0
        case hya0 =>
          intro w hSw
          try dsimp only at hSw
          go_simp
          try with_reducible rfl
        try simp only [Act.put, List.setIfInBounds_toArray, List.set_cons_zero, List.set_cons_succ, List.getElem_toArray, List.getElem_cons_zero]
        refine wpAnyH_take (i := 1) (v := ?va1) rfl (by kernel_rfl) (by kernel_rfl) (by kernel_rfl) (fun _ _ _ h => h) (Or.inl ⟨by rfl, ?hya1⟩) (by assumption) ?resta1
        case hya1 =>
          intro w hSw
          try dsimp only at hSw
          go_simp
          try with_reducible rfl
        try simp only [Act.put, List.setIfInBounds_toArray, List.set_cons_zero, List.set_cons_succ, List.getElem_toArray, List.getElem_cons_zero, List.getElem_cons_succ]
        refine wpAnyH_take (i := 2) (v := ?va2) rfl (by kernel_rfl) (by kernel_rfl) (by kernel_rfl) (fun _ _ _ h => h) (Or.inl ⟨by rfl, ?hya2⟩) (by assumption) ?resta2
        case hya2 =>
          intro w hSw
          try dsimp only at hSw
          go_simp
          try with_reducible rfl
        try simp only [Act.put, List.setIfInBounds_toArray, List.set_cons_zero, List.set_cons_succ, List.getElem_toArray, List.getElem_cons_zero, List.getElem_cons_succ]
        refine wpAnyH_take (i := 3) (v := ?va3) rfl (by kernel_rfl) (by kernel_rfl) (by kernel_rfl) (fun _ _ _ h => h) (Or.inl ⟨by rfl, ?hya3⟩) (by assumption) ?resta3
        case hya3 =>
          intro w hSw
          try dsimp only at hSw
          go_simp
          try with_reducible rfl
        try simp only [Act.put, List.setIfInBounds_toArray, List.set_cons_zero, List.set_cons_succ, List.getElem_toArray, List.getElem_cons_zero, List.getElem_cons_succ]
        refine wpAnyH_take (i := 4) (v := ?va4) rfl (by kernel_rfl) (by kernel_rfl) (by kernel_rfl) (fun _ _ _ h => h) (Or.inl ⟨by rfl, ?hya4⟩) (by assumption) ?resta4
        case hya4 =>
          intro w hSw
          try dsimp only at hSw
          go_simp
          try with_reducible rfl
        try simp only [Act.put, List.setIfInBounds_toArray, List.set_cons_zero, List.set_cons_succ, List.getElem_toArray, List.getElem_cons_zero, List.getElem_cons_succ]
        refine wpAnyH_take (i := 5) (v := ?va5) rfl (by kernel_rfl) (by kernel_rfl) (by kernel_rfl) (fun _ _ _ h => h) (Or.inl ⟨by rfl, ?hya5⟩) (by assumption) ?resta5
        case hya5 =>
          intro w hSw
          try dsimp only at hSw
          go_simp
          try with_reducible rfl
        try simp only [Act.put, List.setIfInBounds_toArray, List.set_cons_zero, List.set_cons_succ, List.getElem_toArray, List.getElem_cons_zero, List.getElem_cons_succ]
        refine wpAnyH_take (i := 6) (v := ?va6) rfl (by kernel_rfl) (by kernel_rfl) (by kernel_rfl) (fun _ _ _ h => h) (Or.inl ⟨by rfl, ?hya6⟩) (by assumption) ?resta6
        case hya6 =>
          intro w hSw
          try dsimp only at hSw
          go_simp
          try with_reducible rfl
        try simp only [Act.put, List.setIfInBounds_toArray, List.set_cons_zero, List.set_cons_succ, List.getElem_toArray, List.getElem_cons_zero, List.getElem_cons_succ]
        refine wpAnyH_take (i := 7) (v := ?va7) rfl (by kernel_rfl) (by kernel_rfl) (by kernel_rfl) (fun _ _ _ h => h) (Or.inl ⟨by rfl, ?hya7⟩) (by assumption) ?resta7
        case hya7 =>
          intro w hSw
          try dsimp only at hSw
          go_simp
          try with_reducible rfl
        try simp only [Act.put, List.setIfInBounds_toArray, List.set_cons_zero, List.set_cons_succ, List.getElem_toArray, List.getElem_cons_zero, List.getElem_cons_succ]
        refine wpAnyH_take (i := 8) (v := ?va8) rfl (by kernel_rfl) (by kernel_rfl) (by kernel_rfl) (fun _ _ _ h => h) (Or.inl ⟨by rfl, ?hya8⟩) (by assumption) ?resta8
        case hya8 =>
          intro w hSw
          try dsimp only at hSw
          go_simp
          try with_reducible rfl
        try simp only [Act.put, List.setIfInBounds_toArray, List.set_cons_zero, List.set_cons_succ, List.getElem_toArray, List.getElem_cons_zero, List.getElem_cons_succ]
        refine wpAnyH_take (i := 9) (v := ?va9) rfl (by kernel_rfl) (by kernel_rfl) (by kernel_rfl) (fun _ _ _ h => h) (Or.inl ⟨by rfl, ?hya9⟩) (by assumption) ?resta9
        case hya9 =>
          intro w hSw
          try dsimp only at hSw
          go_simp
          try with_reducible rfl
        try simp only [Act.put, List.setIfInBounds_toArray, List.set_cons_zero, List.set_cons_succ, List.getElem_toArray, List.getElem_cons_zero, List.getElem_cons_succ]
        refine wpAnyH_take (i := 10) (v := ?va10) rfl (by kernel_rfl) (by kernel_rfl) (by kernel_rfl) (fun _ _ _ h => h) (Or.inl ⟨by rfl, ?hya10⟩) (by assumption) ?resta10
        case hya10 =>
          intro w hSw
          try dsimp only at hSw
          go_simp
          try with_reducible rfl
        try simp only [Act.put, List.setIfInBounds_toArray, List.set_cons_zero, List.set_cons_succ, List.getElem_toArray, List.getElem_cons_zero, List.getElem_cons_succ]
        refine wpAnyH_take (i := 11) (v := ?va11) rfl (by kernel_rfl) (by kernel_rfl) (by kernel_rfl) (fun _ _ _ h => h) (Or.inl ⟨by rfl, ?hya11⟩) (by assumption) ?resta11
        case hya11 =>
          intro w hSw
          try dsimp only at hSw
          go_simp
          try with_reducible rfl
        try simp only [Act.put, List.setIfInBounds_toArray, List.set_cons_zero, List.set_cons_succ, List.getElem_toArray, List.getElem_cons_zero, List.getElem_cons_succ]
        obtain ⟨rA, rB, rC, rD⟩ := HM'.out
        refine wpAnyH_ready (rs := [12]) (by kernel_rfl) (by simp) ?_
        refine AllReadyH.cons rfl (fun K hK => ?_) AllReadyH.nil
        go_simp
        refine hK.out _ _ ?_ (fun hHeld12 => ?_)
        · exact HKA.out
        clear hK K
        try simp only [Act.put, List.setIfInBounds_toArray, List.set_cons_zero, List.set_cons_succ, List.getElem_toArray, List.getElem_cons_zero, List.getElem_cons_succ]
        refine wpAnyH_ready (rs := [13]) (by kernel_rfl) (by simp) ?_
        refine AllReadyH.cons rfl (fun K hK => ?_) AllReadyH.nil
        go_simp
        refine hK.out _ _ ?_ (fun hHeld13 => ?_)
        · exact HKA.out
        clear hK K
        try simp only [Act.put, List.setIfInBounds_toArray, List.set_cons_zero, List.set_cons_succ, List.getElem_toArray, List.getElem_cons_zero, List.getElem_cons_succ]
        refine wpAnyH_ready (rs := [14]) (by kernel_rfl) (by simp) ?_
        refine AllReadyH.cons rfl (fun K hK => ?_) AllReadyH.nil
        go_simp
        refine hK.out _ _ ?_ (fun hHeld14 => ?_)
        · exact HKB.out
        clear hK K
        try simp only [Act.put, List.setIfInBounds_toArray, List.set_cons_zero, List.set_cons_succ, List.getElem_toArray, List.getElem_cons_zero, List.getElem_cons_succ]
        refine wpAnyH_ready (rs := [15]) (by kernel_rfl) (by simp) ?_
        refine AllReadyH.cons rfl (fun K hK => ?_) AllReadyH.nil
        go_simp
        refine hK.out _ _ ?_ (fun hHeld15 => ?_)
        · exact HKC.out
        clear hK K
        try simp only [Act.put, List.setIfInBounds_toArray, List.set_cons_zero, List.set_cons_succ, List.getElem_toArray, List.getElem_cons_zero, List.getElem_cons_succ]
        refine wpAnyH_ready (rs := [16]) (by kernel_rfl) (by simp) ?_
        refine AllReadyH.cons rfl (fun K hK => ?_) AllReadyH.nil
        go_simp
        refine hK.out _ _ ?_ (fun hHeld16 => ?_)
        · exact HKC.out
        clear hK K
        try simp only [Act.put, List.setIfInBounds_toArray, List.set_cons_zero, List.set_cons_succ, List.getElem_toArray, List.getElem_cons_zero, List.getElem_cons_succ]
        refine wpAnyH_ready (rs := [17]) (by kernel_rfl) (by simp) ?_
        refine AllReadyH.cons rfl (fun K hK => ?_) AllReadyH.nil
        go_simp
        refine hK.out _ _ ?_ (fun hHeld17 => ?_)
        · exact HKD.out
        clear hK K
        try simp only [Act.put, List.setIfInBounds_toArray, List.set_cons_zero, List.set_cons_succ, List.getElem_toArray, List.getElem_cons_zero, List.getElem_cons_succ]
        refine wpAnyH_done (by kernel_rfl) ?_ _
        clear rA rB rC rD
        have hRq : R = some q := HST.out
        have HRQ := Lib.hid hRq
        clear hRq
        go_wp2
        go_ret2
        refine ⟨fun q' hq' => ?_, fun hn => ?_⟩
        · have e : q' = q := Option.some.inj (hq'.symm.trans HRQ.out)
          subst e
          exact ⟨rfl, HND.out, HBD.out⟩
        · rw [HRQ.out] at hn; cases hn
    · have hkn : k = n := by omega
      have hd : decide (q < low + (n : Int)) = false := decide_eq_false (by omega)
      have hR : R = none := by
        have h := HR.out
        rw [show gn = 0 by omega] at h
        exact h.symm
      have HRQ := Lib.hid hR
      have HN := Lib.hid (fun m => HS3.out.drewN m)
      have HB := Lib.hid (fun m => HB3.out.trans (below_drewN _ w3 m))
      clear hq hkn hR
      go_wp2_with fail
      go_quiet (fail)
      have hN := HN.out nq
      have hF := HB.out nq
      have HN' := Lib.hid hN
      have HF' := Lib.hid hF
      clear hN hF HN HB t0 t1 t2 t3 HS3 HB3 HE3 hd
      generalize w3.drewN nq = w4 at *
      go_wp2
      go_ret2
      refine ⟨fun q' hq' => ?_, fun hn => ?_⟩
      · rw [HRQ.out] at hq'; cases hq'
      · exact ⟨rfl, ⟨HOK.out, mp, mq, _, _, _, _, HM1.out, HM2.out, HN'.out⟩, HF'.out⟩
end Go.Proofs.Ytbcfcjecobihnaa
