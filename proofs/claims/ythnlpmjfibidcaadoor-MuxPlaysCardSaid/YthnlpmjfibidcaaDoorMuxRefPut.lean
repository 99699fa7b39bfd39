/- ferryhytheref4.Mux.Put, by value. -/
import Derived.Test.YthnlpmjfibidcaaDoorMuxRef
import Derived.Test.YthnlpmjfibidcaaDoorInB
namespace Go.Proofs.YthnlpmjfibidcaaDoor
open Go.RowKit
set_option linter.unusedVariables false
set_option maxRecDepth 100000

def mpE (gr gf gm : Nat) (i p : Int) (d : ByteArray) (vd vr : Value) (L : List Ent) : List Ent :=
  Ent.blk1 gr 39 [.slice none 0 0, .slice none 0 0] :: Ent.blk1 gf 24 [.int .i64 i, .int .i64 p, .string d] :: Ent.blk1 gm 39 [vd, vr] :: L
theorem mpE_cells {B : Nat} {w : World} {gr gf gm : Nat} {i p : Int} {d : ByteArray} {vd vr : Value} {L : List Ent} (h : Sep B w (mpE gr gf gm i p d vd vr L)) :
    (w.cell? ⟨gf, 0, none⟩ = some (.int .i64 i) ∧ w.cell? ⟨gf, 1, none⟩ = some (.int .i64 p) ∧ w.cell? ⟨gf, 2, none⟩ = some (.string d)) ∧
    (w.cell? ⟨gm, 0, none⟩ = some vd ∧ w.cell? ⟨gm, 1, none⟩ = some vr) ∧
    (w.cell? ⟨gr, 0, none⟩ = some (.slice none 0 0) ∧ w.frozen? ⟨gr, 0, none⟩ = false) ∧ (w.cell? ⟨gr, 1, none⟩ = some (.slice none 0 0) ∧ w.frozen? ⟨gr, 1, none⟩ = false) :=
  ⟨⟨(Sep.blkAt (A := [_]) h (j := 0) rfl).1, (Sep.blkAt (A := [_]) h (j := 1) rfl).1, (Sep.blkAt (A := [_]) h (j := 2) rfl).1⟩,
   ⟨(Sep.blkAt (A := [_, _]) h (j := 0) rfl).1, (Sep.blkAt (A := [_, _]) h (j := 1) rfl).1⟩, Sep.blkAt (A := []) h (j := 0) rfl, Sep.blkAt (A := []) h (j := 1) rfl⟩
theorem mpE_end {B : Nat} {w w0 : World} {gr gf gm : Nat} {i p : Int} {d : ByteArray} {vd vr : Value} {L : List Ent} (h : Sep B w (mpE gr gf gm i p d vd vr L)) (hb : Below B w0 w) :
    ∃ wf, wf = (w.setCell ⟨gr, 0, none⟩ vd).setCell ⟨gr, 1, none⟩ vr ∧ Sep B wf L ∧ Below B w0 wf ∧ wf.cell? ⟨gr, 0, none⟩ = some vd ∧ wf.cell? ⟨gr, 1, none⟩ = some vr := by
  have h1 := Sep.blkSet (A := []) h 0 vd
  have h2 := Sep.blkSet (A := []) h1 1 vr
  have hl := (Sep.blkLt (A := []) h).1
  refine ⟨_, rfl, h2.sub ?_, (hb.setCell (p := ⟨gr, 0, none⟩) hl vd).setCell (p := ⟨gr, 1, none⟩) hl vr, (Sep.blkAt (A := []) h2 (j := 0) rfl).1, (Sep.blkAt (A := []) h2 (j := 1) rfl).1⟩
  exact List.Sublist.cons _ (List.Sublist.cons _ (List.Sublist.cons _ (List.Sublist.refl _)))
theorem behind_set {ss : List Str} {m j r : Nat} {f : Nat → Option UInt8} {c : UInt8} (hs : ss[m]? = some ⟨f, r⟩) (hm : m < 4) (hj : j < 200) :
    (dataOf ss ++ [0]).set (200 * m + j) ((c.toNat : Int) + 1) = dataOf (ss.set m ⟨fun x => if x = j then some c else f x, r⟩) ++ [0] := by
  rw [List.set_append_left _ _ (by rw [dataOf_len]; omega), dataOf_set hs hm hj]
/-- Bytes so far. -/
def putTo (ss : List Str) (m q k r : Nat) (f : Nat → Option UInt8) (d : List UInt8) : List Str := ss.set m ⟨putF f q (d.take k), r⟩
theorem putTo_at {ss : List Str} {m q k r : Nat} {f : Nat → Option UInt8} {d : List UInt8} (hm : m < ss.length) : (putTo ss m q k r f d)[m]? = some ⟨putF f q (d.take k), r⟩ := List.getElem?_set_self hm
theorem putTo_zero {ss : List Str} {m q r : Nat} {f : Nat → Option UInt8} {d : List UInt8} (hs : ss[m]? = some ⟨f, r⟩) : putTo ss m q 0 r f d = ss := by
  unfold putTo
  rw [List.take_zero, putF_nil]
  obtain ⟨h1, h2⟩ := List.getElem?_eq_some_iff.1 hs
  rw [← h2, List.set_getElem_self]
theorem putTo_succ {ss : List Str} {m q k r : Nat} {f : Nat → Option UInt8} {d : List UInt8} {c : UInt8} (hc : d[k]? = some c) : (putTo ss m q k r f d).set m ⟨fun x => if x = q + k then some c else putF f q (d.take k) x, r⟩ = putTo ss m q (k + 1) r f d := by
  unfold putTo
  rw [List.set_set, putF_snoc hc]
theorem next_at {B : Nat} {w : World} {A C : List Ent} {g1 o1 c1 m q k r : Nat} {ss : List Str} {f : Nat → Option UInt8} {d : List UInt8} (h : Sep B w (A ++ Ent.ints 3 (.slice (some ⟨g1, o1, none⟩) 801 c1) (dataOf (putTo ss m q k r f d) ++ [0]) :: C)) (hm : m < 4) (hl : ss.length = 4) (hj : q + k < 200) :
    w.cell? ⟨g1, o1 + (200 * m + q + k), none⟩ = some (.int .i64 (dOf (f (q + k)))) ∧ w.frozen? ⟨g1, o1 + (200 * m + q + k), none⟩ = false ∧ B ≤ g1 ∧
      ∀ c, d[k]? = some c → Sep B (w.setCell ⟨g1, o1 + (200 * m + q + k), none⟩ (.int .i64 ((c.toNat : Int) + 1))) (A ++ Ent.ints 3 (.slice (some ⟨g1, o1, none⟩) 801 c1) (dataOf (putTo ss m q (k + 1) r f d) ++ [0]) :: C) := by
  have e801 : ∀ k, (dataOf (putTo ss m q k r f d) ++ [0]).length = 801 := fun k => by rw [List.length_append, dataOf_len]; rfl
  have h1 : Sep B w (A ++ Ent.ints 3 (.slice (some ⟨g1, o1, none⟩) (dataOf (putTo ss m q k r f d) ++ [0]).length c1) (dataOf (putTo ss m q k r f d) ++ [0]) :: C) := by rw [e801]; exact h
  have ep := putTo_at (q := q) (k := k) (r := r) (f := f) (d := d) (show m < ss.length by omega)
  have hx : (dataOf (putTo ss m q k r f d) ++ [0])[200 * m + q + k]? = some (dOf (f (q + k))) := by
    rw [List.getElem?_append_left (by rw [dataOf_len]; omega), Nat.add_assoc, dataOf_get ep hm hj]
    show some (dOf (putF f q (d.take k) (q + k))) = _
    rw [putF_past]
  obtain ⟨g, off, he, h2, h3⟩ := Sep.intsAt h1 hx
  simp only [Option.some.injEq, Addr.mk.injEq, and_true] at he
  obtain ⟨rfl, rfl⟩ := he
  refine ⟨h2, h3, (h1.mem.2 g1 rfl).1, fun c hc => ?_⟩
  have h4 := Sep.intsSet h1 (200 * m + q + k) ((c.toNat : Int) + 1)
  rw [e801, Nat.add_assoc (200 * m), behind_set ep hm hj, putTo_succ hc, ← Nat.add_assoc (200 * m)] at h4
  exact h4
set_option maxHeartbeats 4000000 in
theorem refPut_any (B : Nat) (vd vr : Value) (ss : List Str) (F : List Ent) (i p : Int) (d : ByteArray) (w : World) (hp : -9223372036854775808 ≤ p ∧ p ≤ 9223372036854775807) (hl : ss.length = 4) (h : Sep B w (mxE vd vr ss F)) (hB : B ≤ w.heap.size) :
    Calls Tryd.prog 14 #[.agg #[vd, vr], .agg #[.int .i64 i, .int .i64 p, .string d]] w fun e w' => ∃ vd', e = .returned (.tuple #[.agg #[vd', vr], .int .i64 (muxPut ss i p d.data.toList).1]) ∧
      Sep B w' (mxE vd' vr (muxPut ss i p d.data.toList).2 F) ∧ Below B w w' := by
  obtain ⟨⟨ao, ac, rfl⟩, bo, bc, rfl⟩ := mx_shape h
  have hs1 := h.blkNew hB #[.slice ao 800 ac, .slice bo ss.length bc] 39
  have hs2 := hs1.blkNew (by simp; omega) #[.int .i64 i, .int .i64 p, .string d] 24
  have hs3 := hs2.blkNew (by simp; omega) #[.slice none 0 0, .slice none 0 0] 39
  have e1 : (w.alloc (.cells #[.slice ao 800 ac, .slice bo ss.length bc] 39)).heap.size = w.heap.size + 1 := by simp
  have e2 : ((w.alloc (.cells #[.slice ao 800 ac, .slice bo ss.length bc] 39)).alloc (.cells #[.int .i64 i, .int .i64 p, .string d] 24)).heap.size = w.heap.size + 1 + 1 := by simp
  rw [e1, e2] at hs3
  have hb0 := (((Below.refl B w).alloc hB (.cells #[.slice ao 800 ac, .slice bo ss.length bc] 39)).alloc (by simp; omega) (.cells #[.int .i64 i, .int .i64 p, .string d] 24)).alloc (by simp; omega) (.cells #[.slice none 0 0, .slice none 0 0] 39)
  obtain ⟨gr, hgr⟩ : ∃ x, x = w.heap.size + 1 + 1 := ⟨_, rfl⟩
  obtain ⟨gf, hgf⟩ : ∃ x, x = w.heap.size + 1 := ⟨_, rfl⟩
  obtain ⟨gm, hgm⟩ : ∃ x, x = w.heap.size := ⟨_, rfl⟩
  rw [← hgr, ← hgf, ← hgm] at hs3
  obtain ⟨w0, hw0⟩ : ∃ w0, w0 = ((w.alloc (.cells #[.slice ao 800 ac, .slice bo ss.length bc] 39)).alloc (.cells #[.int .i64 i, .int .i64 p, .string d] 24)).alloc (.cells #[.slice none 0 0, .slice none 0 0] 39) := ⟨_, rfl⟩
  rw [← hw0] at hs3 hb0
  have HS0 : Hid (Sep B w0 (mpE gr gf gm i p d (.slice ao 800 ac) (.slice bo ss.length bc) (mxE (.slice ao 800 ac) (.slice bo ss.length bc) ss F))) := Lib.hid hs3
  have HB0 := Lib.hid hb0
  have HW0 := Lib.hid hw0
  have HGR := Lib.hid hgr
  have HGF := Lib.hid hgf
  have HGM := Lib.hid hgm
  have HL := Lib.hid hl
  clear h hs1 hs2 hs3 e1 e2 hb0 hgr hgf hgm hw0 hl
  have hg0 : B ≤ w0.heap.size := Nat.le_trans hB HB0.out.size
  obtain ⟨⟨f0, f1, f2⟩, ⟨b0, b1⟩, ⟨r0, fr0⟩, r1, fr1⟩ := mpE_cells HS0.out
  go_enter Tryd.func14, Tryd.ntmps14
  go_upto_region 1 with fail
  rw [← HW0.out, ← HGR.out, ← HGF.out, ← HGM.out]
  clear HW0
  by_cases h1 : 0 ≤ i ∧ i ≤ 3
  · by_cases h2 : 0 ≤ p ∧ p ≤ 200
    · go_wp2_with fail
      refine (inB_yes _ _ _ _ h1.1 h1.2).mono ?_
      rintro e w' ⟨rfl, rfl⟩
      go_wp2_with fail
      refine (inB_yes _ _ _ _ h2.1 h2.2).mono ?_
      rintro e w' ⟨rfl, rfl⟩
      obtain ⟨m, rfl⟩ := Int.eq_ofNat_of_zero_le h1.1
      obtain ⟨q, rfl⟩ := Int.eq_ofNat_of_zero_le h2.1
      have hm : m < 4 := by omega
      have hq : q ≤ 200 := by omega
      have hdl : d.data.toList.length = d.size := by simp
      clear h1 h2
      by_cases h3 : (200 : Int) - (q : Int) < (d.size : Int)
      · have hd3 : decide ((200 : Int) - (q : Int) < (d.size : Int)) = true := decide_eq_true h3
        have e4 : muxPut ss (m : Int) (q : Int) d.data.toList = (4, ss) := by unfold muxPut; rw [if_neg (by omega), if_pos (by rw [hdl]; exact h3)]
        have HE := Lib.hid e4
        clear e4 hdl
        obtain ⟨wf, hwf, he1, he2, k0, k1⟩ := mpE_end HS0.out HB0.out
        have HE1 := Lib.hid he1
        have HE2 := Lib.hid he2
        have HWF := Lib.hid hwf
        rw [hwf] at k0 k1
        clear he1 he2 hwf
        go_wp2
        try simp only [Exit.inBlock, Exit.then]
        refine bodyPost_ret (v := .tuple #[.agg #[.slice ao 800 ac, .slice bo ss.length bc], .int .i64 4]) (by simp [results, Tryd.results14, go_sem, k0, k1]) rfl ?_
        rw [← HWF.out]
        rw [HE.out]
        exact ⟨_, rfl, HE1.out, HE2.out⟩
      · have hd3 : decide ((200 : Int) - (q : Int) < (d.size : Int)) = false := decide_eq_false h3
        obtain ⟨⟨f, r⟩, hsm⟩ : ∃ s, ss[m]? = some s := ⟨_, List.getElem?_eq_getElem (by rw [HL.out]; omega)⟩
        have e : muxPut ss (m : Int) (q : Int) d.data.toList = if clashB f q d.data.toList then (6, ss) else (0, ss.set m ⟨putF f q d.data.toList, r⟩) := by
          unfold muxPut; rw [if_neg (by omega), if_neg (by rw [hdl]; exact h3)]; simp only [Int.toNat_natCast, hsm]
        have hqd : q + d.size ≤ 200 := by omega
        have HE := Lib.hid e
        have HSM := Lib.hid hsm
        have hml : m < ss.length := by rw [HL.out]; omega
        have hI : IntSl w0.heap.size w0 ao (dataOf ss) := by
          have h1 : Sep B w0 (mpE gr gf gm (m : Int) (q : Int) d (.slice ao 800 ac) (.slice bo ss.length bc) (Ent.ints 3 (.slice ao (dataOf ss).length ac) (dataOf ss) :: Ent.ints 3 (.slice bo ss.length bc) (readOf ss) :: F)) := by rw [dataOf_len]; exact HS0.out
          exact Sep.intSl (A := [_, _, _]) h1
        have HBE := Lib.hid (behind_any ao 800 ac w0.heap.size (dataOf ss) 0 w0 hI (dataOf_len _).symm (Nat.le_refl _) (by rw [dataOf_len]; omega))
        have HDL := Lib.hid hdl
        clear hI e hsm hdl
        go_wp2_with fail
        refine HBE.out.mono ?_
        rintro e w1 ⟨v1, rfl, hs1, hb1⟩
        have hj := Sep.join HS0.out hg0 hb1 hs1
        have hj2 : Sep B w1 (Ent.ints 3 v1 (dataOf (putTo ss m q 0 r f d.data.toList) ++ [0]) :: mpE gr gf gm (m : Int) (q : Int) d (.slice ao 800 ac) (.slice bo ss.length bc) (mxE (.slice ao 800 ac) (.slice bo ss.length bc) ss F)) := by rw [putTo_zero HSM.out]; exact hj
        obtain ⟨a1, c1, rfl, -⟩ := Sep.intsShape (A := []) hj2
        have e801 : (dataOf (putTo ss m q 0 r f d.data.toList) ++ [0]).length = 801 := by rw [List.length_append, dataOf_len]; rfl
        rw [e801] at hj2 ⊢
        obtain ⟨g1, o1, rfl, -⟩ : ∃ g off, a1 = some ⟨g, off, none⟩ ∧ True := by
          have h8 := Sep.rowAt (A := []) hj2 (by omega)
          obtain ⟨g, off, h, -⟩ := h8
          exact ⟨g, off, h, trivial⟩
        have HS1 := Lib.hid hj2
        have HB1 := Lib.hid (HB0.out.trans (hb1.mono hg0))
        clear f0 f1 f2 b0 b1 r0 fr0 r1 fr1
        clear hs1 hb1 hj hj2 e801 HS0 HB0 hg0 HBE hd3
        go_wp2
        go_loopw [7, 8, 9] (fun x _ _ wr => ∃ k : Nat, k ≤ d.size ∧ x = .int .i64 k ∧ Hid (¬ Clash f q (d.data.toList.take k)) ∧
          Sep B wr (Ent.ints 3 (.slice (some ⟨g1, o1, none⟩) 801 c1) (dataOf (putTo ss m q k r f d.data.toList) ++ [0]) :: mpE gr gf gm (m : Int) (q : Int) d (.slice ao 800 ac) (.slice bo ss.length bc) (mxE (.slice ao 800 ac) (.slice bo ss.length bc) ss F)) ∧ Below B w wr) (fun x _ _ _ => d.size - (intOf x).toNat)
        case atStart => exact ⟨0, Nat.zero_le _, rfl, by simp [Hid, Clash], HS1.out, HB1.out⟩
        case round =>
          obtain ⟨k, hk, rfl, hnc, hs, hb⟩ := hrel
          obtain ⟨w2, hw2⟩ : ∃ w2, w2 = wr := ⟨_, rfl⟩
          obtain rfl := hw2
          have HS2 := Lib.hid hs
          have HB2 := Lib.hid hb
          have HNC := Lib.hid hnc.out
          obtain ⟨⟨f0, f1, f2⟩, ⟨b0, b1⟩, ⟨r0, fr0⟩, r1, fr1⟩ := mpE_cells (hs.sub (List.sublist_cons_self _ _))
          clear hs hb hnc HS1 HB1
          by_cases hlt : k < d.size
          · have hki : (k : Int) < (d.size : Int) := by omega
            have hk0 : (0 : Int) ≤ (k : Int) := by omega
            obtain ⟨d0, fd, hbg, hset⟩ := next_at (A := []) HS2.out hm HL.out (show q + k < 200 by omega)
            have hdk : d.data.toList[k]? = some d[k] := by
              rw [List.getElem?_eq_getElem (by simpa using hlt)]
              rfl
            have hst := hset _ hdk
            have hx0 : (0 : Int) ≤ 200 * (m : Int) + (q : Int) + (k : Int) := by omega
            have hx1 : 200 * (m : Int) + (q : Int) + (k : Int) < 801 := by omega
            have hb255 : (d[k].toNat : Int) ≤ 255 := by have := UInt8.toNat_lt d[k]; omega
            have hbx := HB2.out.setCell (p := ⟨g1, o1 + (200 * m + q + k), none⟩) hbg (.int .i64 ((d[k].toNat : Int) + 1))
            have HST := Lib.hid hst
            have HBX := Lib.hid hbx
            rcases clash_next HNC.out hdk with ⟨hf, hn⟩ | ⟨hf, hn⟩ | ⟨b, hf, hn⟩
            · rw [hf] at d0
              simp only [dOf] at d0
              have HN := Lib.hid hn
              clear hf hn hst hset hdk hbx HNC HS2 HB2
              go_wp2
              go_roundw
              case rel => exact ⟨k + 1, by omega, by go_num, HN.out, HST.out, HBX.out⟩
              case measure => simp [intOf]; omega
            · rw [hf] at d0
              simp only [dOf] at d0
              have HN := Lib.hid hn
              have hne : ((d[k].toNat : Int) + 1 != 0) = true := by simp; omega
              have hne2 : ((d[k].toNat : Int) + 1 != (d[k].toNat : Int) + 1) = false := by simp
              clear hf hn hst hset hdk hbx HNC HS2 HB2
              go_wp2
              go_roundw
              case rel => exact ⟨k + 1, by omega, by go_num, HN.out, HST.out, HBX.out⟩
              case measure => simp [intOf]; omega
            · rw [hf] at d0
              simp only [dOf] at d0
              have hcl : clashB f q d.data.toList = true := (clashB_iff f _ q).2 ⟨k, d[k], b, hdk, hf, hn⟩
              have he6 := HE.out
              rw [if_pos hcl] at he6
              have HE6 := Lib.hid he6
              have hne : ((b.toNat : Int) + 1 != 0) = true := by simp; omega
              have hne2 : ((b.toNat : Int) + 1 != (d[k].toNat : Int) + 1) = true := by
                simp only [bne_iff_ne, ne_eq]
                intro h
                exact hn (UInt8.toNat_inj.1 (by omega))
              have hbb : (b.toNat : Int) ≤ 255 := by have := UInt8.toNat_lt b; omega
              have HS3 := Lib.hid (HS2.out.sub (List.sublist_cons_self _ _))
              clear hf hn hst hset hdk hbx HNC HST HBX he6 hcl
              obtain ⟨wf, hwf, he1, he2, k0, k1⟩ := mpE_end HS3.out HB2.out
              have HE1 := Lib.hid he1
              have HE2 := Lib.hid he2
              have HWF := Lib.hid hwf
              rw [hwf] at k0 k1
              clear he1 he2 hwf
              go_wp2
              try simp only [Exit.inBlock, Exit.then]
              refine bodyPost_ret (v := .tuple #[.agg #[.slice ao 800 ac, .slice bo ss.length bc], .int .i64 6]) (by simp [results, Tryd.results14, go_sem, k0, k1]) rfl ?_
              rw [← HWF.out]
              rw [HE6.out]
              exact ⟨_, rfl, HE1.out, HE2.out⟩
          · obtain rfl : k = d.size := by omega
            have hki : decide ((d.size : Int) < (d.size : Int)) = false := decide_eq_false (by omega)
            have hnc := HNC.out
            rw [List.take_of_length_le (by rw [HDL.out]; exact Nat.le_refl _)] at hnc
            have he0 := HE.out
            rw [if_neg (fun h => hnc ((clashB_iff f _ q).1 h))] at he0
            have hs2 := HS2.out
            have hc801 : 801 ≤ c1 := by
              obtain ⟨-, a, c, h, hc, -⟩ := Sep.rowShape (A := []) hs2
              simp only [Value.slice.injEq] at h
              obtain ⟨-, h1, rfl⟩ := h
              omega
            have hc800 : (800 : Int) ≤ (c1 : Int) := by omega
            have ept : putTo ss m q d.size r f d.data.toList = ss.set m ⟨putF f q d.data.toList, r⟩ := by unfold putTo; rw [List.take_of_length_le (by rw [HDL.out]; exact Nat.le_refl _)]
            rw [ept] at hs2
            have hs3 : Sep B w2 (Ent.ints 3 (.slice (some ⟨g1, o1, none⟩) 800 c1) (dataOf (ss.set m ⟨putF f q d.data.toList, r⟩)) :: mpE gr gf gm (m : Int) (q : Int) d (.slice ao 800 ac) (.slice bo ss.length bc) (mxE (.slice ao 800 ac) (.slice bo ss.length bc) ss F)) := by
              unfold Ent.ints at hs2
              have e801 : (dataOf (ss.set m ⟨putF f q d.data.toList, r⟩) ++ [0]).length = 801 := by rw [List.length_append, dataOf_len]; rfl
              rw [e801] at hs2
              have h1 := Sep.rowTake (A := []) hs2 (k := 800) (by omega)
              unfold Ent.ints
              rw [dataOf_len]
              rw [← List.map_take, List.take_left' (by rw [dataOf_len])] at h1
              exact h1
            have hs4 := Sep.blkSet (A := [_, _, _]) hs3 0 (.slice (some ⟨g1, o1, none⟩) 800 c1)
            have fb0 := (Sep.blkAt (A := [_, _, _]) hs3 (j := 0) rfl).2
            have hb4 := HB2.out.setCell (p := ⟨gm, 0, none⟩) (Sep.blkLt (A := [_, _, _]) hs3).1 (.slice (some ⟨g1, o1, none⟩) 800 c1)
            have HS3 : Hid (Sep B (w2.setCell ⟨gm, 0, none⟩ (.slice (some ⟨g1, o1, none⟩) 800 c1)) (mpE gr gf gm (m : Int) (q : Int) d (.slice (some ⟨g1, o1, none⟩) 800 c1) (.slice bo ss.length bc) (mxE (.slice (some ⟨g1, o1, none⟩) 800 c1) (.slice bo ss.length bc) (ss.set m ⟨putF f q d.data.toList, r⟩) F))) := Lib.hid (by
              have h5 := hs4.perm (List.perm_append_comm (l₁ := [_]) (l₂ := [_, _, _]) |>.append_right _)
              have h6 := h5.sub (List.Sublist.cons_cons _ (List.Sublist.cons_cons _ (List.Sublist.cons_cons _ (List.Sublist.cons_cons _ (List.Sublist.cons _ (List.Sublist.refl _))))))
              unfold mxE
              rw [readOf_same HSM.out]
              exact h6)
            have HB3 := Lib.hid hb4
            have HE0 := Lib.hid he0
            clear hnc he0 hs2 ept hs3 hs4 hb4 HS2 HB2 HNC
            go_upto_region 15 with fail
            clear b0 b1 r0 fr0 r1 fr1 f0 f1 f2 fb0
            generalize w2.setCell ⟨gm, 0, none⟩ (.slice (some ⟨g1, o1, none⟩) 800 c1) = w3 at *
            obtain ⟨⟨f0, f1, f2⟩, ⟨b0, b1⟩, ⟨r0, fr0⟩, r1, fr1⟩ := mpE_cells HS3.out
            obtain ⟨wf, hwf, he1, he2, k0, k1⟩ := mpE_end HS3.out HB3.out
            have HE1 := Lib.hid he1
            have HE2 := Lib.hid he2
            have HWF := Lib.hid hwf
            rw [hwf] at k0 k1
            clear he1 he2 hwf
            go_wp2
            try simp only [Exit.inBlock, Exit.then]
            refine bodyPost_ret (v := .tuple #[.agg #[.slice (some ⟨g1, o1, none⟩) 800 c1, .slice bo ss.length bc], .int .i64 0]) (by simp [results, Tryd.results14, go_sem, k0, k1]) rfl ?_
            rw [← HWF.out]
            rw [HE0.out]
            exact ⟨_, rfl, HE1.out, HE2.out⟩
    · have H2 := Lib.hid h2
      have e1 : muxPut ss i p d.data.toList = (1, ss) := by unfold muxPut; rw [if_pos (.inr h2)]
      have HE := Lib.hid e1
      clear e1 h2
      go_wp2_with fail
      refine (inB_yes _ _ _ _ h1.1 h1.2).mono ?_
      rintro e w' ⟨rfl, rfl⟩
      go_wp2_with fail
      refine (inB_no _ _ _ _ H2.out).mono ?_
      rintro e w' ⟨rfl, rfl⟩
      obtain ⟨wf, hwf, he1, he2, k0, k1⟩ := mpE_end HS0.out HB0.out
      have HE1 := Lib.hid he1
      have HE2 := Lib.hid he2
      have HWF := Lib.hid hwf
      rw [hwf] at k0 k1
      clear he1 he2 hwf
      go_wp2
      try simp only [Exit.inBlock, Exit.then]
      refine bodyPost_ret (v := .tuple #[.agg #[.slice ao 800 ac, .slice bo ss.length bc], .int .i64 1]) (by simp [results, Tryd.results14, go_sem, k0, k1]) rfl ?_
      rw [← HWF.out]
      rw [HE.out]
      exact ⟨_, rfl, HE1.out, HE2.out⟩
  · have H1 := Lib.hid h1
    have e1 : muxPut ss i p d.data.toList = (1, ss) := by unfold muxPut; rw [if_pos (.inl h1)]
    have HE := Lib.hid e1
    clear e1 h1
    go_wp2_with fail
    refine (inB_no _ _ _ _ H1.out).mono ?_
    rintro e w' ⟨rfl, rfl⟩
    obtain ⟨wf, hwf, he1, he2, k0, k1⟩ := mpE_end HS0.out HB0.out
    have HE1 := Lib.hid he1
    have HE2 := Lib.hid he2
    have HWF := Lib.hid hwf
    rw [hwf] at k0 k1
    clear he1 he2 hwf
    go_wp2
    try simp only [Exit.inBlock, Exit.then]
    refine bodyPost_ret (v := .tuple #[.agg #[.slice ao 800 ac, .slice bo ss.length bc], .int .i64 1]) (by simp [results, Tryd.results14, go_sem, k0, k1]) rfl ?_
    rw [← HWF.out]
    rw [HE.out]
    exact ⟨_, rfl, HE1.out, HE2.out⟩
end Go.Proofs.YthnlpmjfibidcaaDoor
