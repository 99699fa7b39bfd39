/- MuxClash returns true: another byte where one came is refused, and changes nothing; the same byte is not refused. -/
import Derived.Test.YthnlpmjfibidcaaDoorTold
import Derived.Test.YthnlpmjfibidcaaDoorMuxAny
import Derived.Test.YthnlpmjfibidcaaDoorFrm
import Derived.Test.YthnlpmjfibidcaaDoorIn4
import Derived.Test.YthnlpmjfibidcaaDoorFrameOf
namespace Go.Proofs.YthnlpmjfibidcaaDoor
open Go.RowKit
set_option linter.unusedVariables false

theorem putF_again (f : Nat → Option UInt8) (p : Nat) (d : List UInt8) : putF (putF f p d) p d = putF f p d := by
  funext j
  unfold putF
  by_cases h : p ≤ j
  · rw [if_pos h, if_pos h]
    cases d[j - p]? <;> rfl
  · rw [if_neg h, if_neg h]
theorem putF_at {f : Nat → Option UInt8} {p i : Nat} {d : List UInt8} {x : UInt8} (h : d[i]? = some x) : putF f p d (p + i) = some x := by
  unfold putF
  rw [if_pos (by omega), show p + i - p = i by omega, h]
  rfl
theorem putF_clear (f : Nat → Option UInt8) (p : Nat) (d : List UInt8) : ¬ Clash (putF f p d) p d := by
  rintro ⟨i, c, b, h1, h2, h3⟩
  rw [putF_at h1] at h2
  exact h3 (Option.some.inj h2).symm
theorem put_one_same {f : Nat → Option UInt8} {p i : Nat} {d : List UInt8} {x : UInt8} (h : d[i]? = some x) : ¬ Clash (putF f p d) (p + i) [x] ∧ putF (putF f p d) (p + i) [x] = putF f p d := by
  refine ⟨?_, ?_⟩
  · rintro ⟨k, c, b, h1, h2, h3⟩
    match k, h1 with
    | 0, h1 =>
      simp at h1
      subst h1
      rw [Nat.add_zero, putF_at h] at h2
      exact h3 (Option.some.inj h2).symm
  · funext j
    conv => lhs; unfold putF
    by_cases hj : p + i ≤ j
    · rw [if_pos hj]
      by_cases e : j = p + i
      · subst e
        rw [Nat.sub_self, putF_at h]
        rfl
      · rw [List.getElem?_eq_none (by simp; omega)]
        rfl
    · rw [if_neg hj]
      rfl
theorem put_one_other {f : Nat → Option UInt8} {p i : Nat} {d : List UInt8} {x c : UInt8} (h : d[i]? = some x) (hne : x ≠ c) : Clash (putF f p d) (p + i) [c] :=
  ⟨0, c, x, rfl, by rw [Nat.add_zero]; exact putF_at h, hne⟩
theorem muxPut_zero {ss : List Str} {i p : Int} {d : List UInt8} (hl : ss.length = 4) (h : (muxPut ss i p d).1 = 0) :
    ∃ (m q : Nat) (f : Nat → Option UInt8) (r : Nat), i = (m : Int) ∧ p = (q : Int) ∧ m < 4 ∧ q + d.length ≤ 200 ∧ ss[m]? = some ⟨f, r⟩ ∧ ¬ Clash f q d ∧ (muxPut ss i p d).2 = ss.set m ⟨putF f q d, r⟩ := by
  unfold muxPut at h ⊢
  by_cases h1 : ¬ (0 ≤ i ∧ i ≤ 3) ∨ ¬ (0 ≤ p ∧ p ≤ 200)
  · rw [if_pos h1] at h; simp at h
  · rw [if_neg h1] at h ⊢
    by_cases h2 : 200 - p < (d.length : Int)
    · rw [if_pos h2] at h; simp at h
    · rw [if_neg h2] at h ⊢
      obtain ⟨m, rfl⟩ := Int.eq_ofNat_of_zero_le (show 0 ≤ i by omega)
      obtain ⟨q, rfl⟩ := Int.eq_ofNat_of_zero_le (show 0 ≤ p by omega)
      obtain ⟨⟨f, r⟩, hs⟩ : ∃ s, ss[m]? = some s := ⟨_, List.getElem?_eq_getElem (by omega)⟩
      simp only [Int.toNat_natCast, hs] at h ⊢
      by_cases h3 : clashB f q d = true
      · rw [if_pos h3] at h; simp at h
      · rw [if_neg h3]
        exact ⟨m, q, f, r, rfl, rfl, by omega, by omega, hs, fun hc => h3 ((clashB_iff f d q).2 hc), rfl⟩

theorem muxPut_same {ss : List Str} {m q k : Nat} {f : Nat → Option UInt8} {r : Nat} {d : List UInt8} {x : UInt8} (hm : m < 4) (hl : ss.length = 4) (hq : q + d.length ≤ 200) (hs : ss[m]? = some ⟨putF f q d, r⟩) (hx : d[k]? = some x) : muxPut ss (m : Int) ((q : Int) + (k : Int)) [x] = (0, ss) := by
  have hk := (List.getElem?_eq_some_iff.1 hx).1
  obtain ⟨h1, h2⟩ := put_one_same (f := f) (p := q) hx
  unfold muxPut
  rw [if_neg (by omega), if_neg (by simp only [List.length_singleton]; omega)]
  rw [show ((q : Int) + (k : Int)).toNat = q + k by omega]
  simp only [Int.toNat_natCast, hs]
  rw [if_neg (fun h => h1 ((clashB_iff _ _ _).1 h)), h2]
  have : ss.set m ⟨putF f q d, r⟩ = ss := by
    obtain ⟨h3, h4⟩ := List.getElem?_eq_some_iff.1 hs
    rw [← h4, List.set_getElem_self]
  rw [this]
theorem muxPut_other' {ss : List Str} {m q k : Nat} {f : Nat → Option UInt8} {r : Nat} {d : List UInt8} {x c : UInt8} (hm : m < 4) (hl : ss.length = 4) (hq : q + d.length ≤ 200) (hs : ss[m]? = some ⟨putF f q d, r⟩) (hx : d[k]? = some x) (hne : x ≠ c) : muxPut ss (m : Int) ((q : Int) + (k : Int)) [c] = (6, ss) := by
  have hk := (List.getElem?_eq_some_iff.1 hx).1
  have h1 := put_one_other (f := f) (p := q) hx hne
  unfold muxPut
  rw [if_neg (by omega), if_neg (by simp only [List.length_singleton]; omega)]
  rw [show ((q : Int) + (k : Int)).toNat = q + k by omega]
  simp only [Int.toNat_natCast, hs]
  rw [if_pos ((clashB_iff _ _ _).2 h1)]

set_option maxHeartbeats 4000000 in
set_option maxRecDepth 100000 in
theorem muxClash_walk (ao : Option Addr) (ac : Nat) (fs : List Frm) (sf sa : Int) (sd : ByteArray) (i c : Int) (w : World) (hdoor : Door w) (hA : RowSl w.heap.size w ao 3 (fs.map frmCells)) (hac : fs.length ≤ ac) (hmax : ac ≤ maxLen)
    (hg : ∀ x ∈ fs, FrmGood x) (hfg : FrmGood (sf, sa, sd)) (hib : -9223372036854775808 ≤ i ∧ i ≤ 9223372036854775807) (hcb : 0 ≤ c ∧ c ≤ 255) :
    Calls Tryd.prog 3 #[.slice ao fs.length ac, .agg #[.int .i64 sf, .int .i64 sa, .string sd], .int .i64 i, .int .u8 c] w fun e w' => e = .returned (.bool true) ∧ Below w.heap.size w w' := by
  unfold maxLen at hmax
  have hsab : -9223372036854775808 ≤ sa ∧ sa ≤ 9223372036854775807 := hfg.2.1
  have HA := Lib.hid hA; clear hA
  have HGD := Lib.hid hg; clear hg hfg
  have HD := Lib.hid hdoor; clear hdoor
  go_enter Tryd.func3, Tryd.ntmps3
  go_wp2_with fail
  have hs0 := Sep.blkNew (Sep.nil w.heap.size w) (Nat.le_refl _) #[.int .i64 sf, .int .i64 sa, .string sd] 24
  obtain ⟨c0, _⟩ := Sep.blkAt (A := []) hs0 (j := 0) rfl
  obtain ⟨c1, _⟩ := Sep.blkAt (A := []) hs0 (j := 1) rfl
  obtain ⟨c2, _⟩ := Sep.blkAt (A := []) hs0 (j := 2) rfl
  have hb0 := below_alloc w (.cells #[.int .i64 sf, .int .i64 sa, .string sd] 24)
  have hsz : (w.alloc (.cells #[.int .i64 sf, .int .i64 sa, .string sd] 24)).heap.size = w.heap.size + 1 := by simp
  have hd0 := HD.out.on hb0
  have ha0 := HA.out.below hb0
  obtain ⟨gb, hgb⟩ : ∃ gb, gb = w.heap.size := ⟨_, rfl⟩
  rw [← hgb] at c0 c1 c2 hsz ha0 ⊢
  have HGB := Lib.hid hgb
  clear hgb hs0 HA HD
  generalize w.alloc (.cells #[.int .i64 sf, .int .i64 sa, .string sd] 24) = w0 at *
  obtain ⟨B, hBs⟩ : ∃ B, B = w0.heap.size := ⟨_, rfl⟩
  have hgbB : gb < B := by omega
  have HBS := Lib.hid hBs
  have hbox : ∀ w', Below B w0 w' → w'.cell? ⟨gb, 0, none⟩ = some (.int .i64 sf) ∧ w'.cell? ⟨gb, 1, none⟩ = some (.int .i64 sa) ∧ w'.cell? ⟨gb, 2, none⟩ = some (.string sd) := fun w' h =>
    ⟨(h.cell (p := ⟨gb, 0, none⟩) hgbB).trans c0, (h.cell (p := ⟨gb, 1, none⟩) hgbB).trans c1, (h.cell (p := ⟨gb, 2, none⟩) hgbB).trans c2⟩
  have hdoor' : ∀ w', Below B w0 w' → Door w' := fun w' h => by rw [hBs] at h; exact hd0.on h
  have hfin : ∀ w', Below B w0 w' → Below w.heap.size w w' := fun w' h => hb0.trans (h.mono (by rw [← HGB.out]; omega))
  have HBOX := Lib.hid hbox
  have HDOOR := Lib.hid hdoor'
  have HFIN := Lib.hid hfin
  have HA := Lib.hid ha0
  clear c0 c1 c2 hb0 hsz hd0 ha0 hbox hdoor' hfin hBs
  refine (muxFact_any _).mono ?_
  rintro e w1 ⟨rfl, hb⟩
  have HB1 := Lib.hid (show Below B w0 w1 by rw [HBS.out]; exact hb)
  have hg1 : B ≤ w1.heap.size := by have := HB1.out.size; have := HBS.out; omega
  clear hb
  go_wp2_with fail
  refine (muxNew_any _).mono ?_
  rintro e w2 ⟨g, rfl, hsep, hb⟩
  have HB2 := Lib.hid (HB1.out.trans (hb.mono hg1))
  have HS2 := Lib.hid (hsep.mono hg1)
  clear hb hsep
  obtain ⟨cb, hcb'⟩ : ∃ cb : UInt8, c = (cb.toNat : Int) := ⟨UInt8.ofNat c.toNat, by
    rw [UInt8.toNat_ofNat']
    have := hcb
    omega⟩
  subst hcb'
  clear hcb
  go_wp2_with fail
  go_loopw [11] (fun x wr => ∃ (k : Nat) (ss : List Str), k ≤ fs.length ∧ x = .int .i64 k ∧ Hid (ss.length = 4) ∧ Hid (∀ s ∈ ss, s.read ≤ 200) ∧
    Sep B wr [Ent.mux 63 g ss] ∧ Below B w0 wr) (fun x _ => fs.length - (intOf x).toNat)
  case atStart => exact ⟨0, List.replicate 4 Str.new, Nat.zero_le _, rfl, rfl, fun s hs => by obtain ⟨_, rfl⟩ := List.mem_replicate.1 hs; decide, HS2.out, HB2.out⟩
  case round =>
    obtain ⟨k, ss, hk, rfl, hl, hr, hsep, hbel⟩ := hrel
    clear HS2 HB2 HB1 hg1
    by_cases hlt : k < fs.length
    · have hki : (k : Int) < (fs.length : Int) := by omega
      have hk0 : (0 : Int) ≤ (k : Int) := by omega
      by_cases h30 : k < 30
      · have hd30 : decide ((k : Int) < 30) = true := decide_eq_true (by omega)
        obtain ⟨x, hx⟩ : ∃ x, fs[k]? = some x := ⟨_, List.getElem?_eq_getElem hlt⟩
        obtain ⟨b, off, rfl, hbb, c0, c1, c2⟩ := (HA.out.below (hbel.mono (Nat.le_of_lt hgbB))).frm hx
        have hgx := (HGD.out x (List.mem_iff_getElem?.2 ⟨k, hx⟩)).2.1
        have HS := Lib.hid hsep
        have HB := Lib.hid hbel
        have hgr : B ≤ wr.heap.size := by have := HB.out.size; have := HBS.out; omega
        clear hx hsep hbel
        go_wp2_with fail
        refine (muxPut_any B g ss [] _ _ _ _ hgx hl.out HS.out hgr).mono ?_
        rintro e w3 ⟨rfl, hs, hb⟩
        have HS3 := Lib.hid hs
        have HB3 := Lib.hid (HB.out.trans hb)
        clear hs hb c0 c1 c2
        generalize errVal 64 (muxPut ss x.1 x.2.1 x.2.2.data.toList).1 = ev
        go_wp2
        go_roundw
        case rel => exact ⟨k + 1, _, by omega, by go_num, (muxPut_len _ _ _ _).trans hl.out, muxPut_read _ _ _ hr.out, HS3.out, HB3.out⟩
        case measure => simp [intOf]; omega
      · have hd30 : decide ((k : Int) < 30) = false := decide_eq_false (by omega)
        have HBX := Lib.hid hbel
        clear hbel
        have HB3 := HBX
        obtain ⟨w3, hw3⟩ : ∃ w3, w3 = wr := ⟨_, rfl⟩
        obtain rfl := hw3
        have hg3 : B ≤ w3.heap.size := by have := HB3.out.size; have := HBS.out; omega
        obtain ⟨x0, x1, x2⟩ := HBOX.out _ HB3.out
        by_cases hz : (muxPut ss sf sa sd.data.toList).1 = 0
        · obtain ⟨m, q, f, r, rfl, rfl, hm4, hqd, hsm, hnc, h2⟩ := muxPut_zero hl.out hz
          have hq200 : q + sd.size ≤ 200 := by simpa using hqd
          have hr200 : r ≤ 200 := hr.out _ (List.mem_iff_getElem?.2 ⟨m, hsm⟩)
          obtain ⟨F, hF⟩ : ∃ F, F = putF f q sd.data.toList := ⟨_, rfl⟩
          obtain ⟨SS, hSS⟩ : ∃ SS, SS = ss.set m ⟨F, r⟩ := ⟨_, rfl⟩
          have HPUT := Lib.hid (muxPut_ok B g ss [] m q r sd f w3 hm4 hq200 hsm hnc hsep hg3)
          rw [← hF, ← hSS] at HPUT
          have HSM := Lib.hid (show SS[m]? = some ⟨F, r⟩ by rw [hSS]; exact List.getElem?_set_self (by rw [hl.out]; exact hm4))
          have hlen4 : SS.length = 4 := by rw [hSS, List.length_set]; exact hl.out
          have HSET := Lib.hid (show SS.set m ⟨F, r⟩ = SS by rw [hSS, List.set_set])
          have HNC := Lib.hid (show ¬ Clash F q sd.data.toList by rw [hF]; exact putF_clear _ _ _)
          have HAG := Lib.hid (show putF F q sd.data.toList = F by rw [hF]; exact putF_again _ _ _)
          have HFF := Lib.hid hF
          obtain ⟨a, ha⟩ : ∃ a, a = Str.waits ⟨F, r⟩ := ⟨_, rfl⟩
          have HWT := Lib.hid ha
          have hm0 : (0 : Int) ≤ (m : Int) := by omega
          have hm3 : (m : Int) ≤ 3 := by omega
          have haa : ((a : Int) == (a : Int)) = true := by simp
          clear hz h2 hsm hnc hF hSS ha hsep hqd
          go_wp2_with fail
          refine HPUT.out.mono ?_
          rintro e w4 ⟨rfl, hs, hb⟩
          have HS4 := Lib.hid hs
          have HB4 := Lib.hid (HB3.out.trans hb)
          have hg4 : B ≤ w4.heap.size := by have := HB4.out.size; have := HBS.out; omega
          clear hs hb x0 x1 x2 HPUT
          obtain ⟨x0, x1, x2⟩ := HBOX.out _ HB4.out
          go_wp2_with fail
          refine (in4_yes _ _ _ _ hm0 hm3).mono ?_
          rintro e w' ⟨rfl, rfl⟩
          clear x0 x1 x2
          obtain ⟨x0, x1, x2⟩ := HBOX.out _ HB4.out
          go_wp2_with fail
          refine (muxPut_ok B g SS [] m q r sd F _ hm4 hq200 HSM.out HNC.out HS4.out hg4).mono ?_
          rintro e w5 ⟨rfl, hs, hb⟩
          rw [HAG.out, HSET.out] at hs
          have HS5 := Lib.hid hs
          have HB5 := Lib.hid (HB4.out.trans hb)
          have hg5 : B ≤ w5.heap.size := by have := HB5.out.size; have := HBS.out; omega
          clear hs hb x0 x1 x2 HS4
          obtain ⟨x0, x1, x2⟩ := HBOX.out _ HB5.out
          go_wp2_with fail
          refine (muxWaits_ok B g SS [] m ⟨F, r⟩ _ hm4 HSM.out hr200 HS5.out).mono ?_
          rintro e w6 ⟨rfl, hd⟩
          rw [← HWT.out]
          have hb := below_of_drew hd
          have HS6 := Lib.hid (HS5.out.kept hb)
          have HB6 := Lib.hid (HB5.out.trans (hb.mono hg5))
          have hg6 : B ≤ w6.heap.size := by have := HB6.out.size; have := HBS.out; omega
          clear hd hb x0 x1 x2 HS5
          obtain ⟨x0, x1, x2⟩ := HBOX.out _ HB6.out
          by_cases hin : 0 ≤ i ∧ i ≤ (sd.size : Int) - 1
          · obtain ⟨hi0, hi1⟩ := hin
            obtain ⟨k, rfl⟩ := Int.eq_ofNat_of_zero_le hi0
            have hks : k < sd.size := by omega
            have hx : sd.data.toList[k]? = some sd[k] := by
              rw [List.getElem?_eq_getElem (by simpa using hks)]
              rfl
            have hqd' : q + sd.data.toList.length ≤ 200 := by simpa using hq200
            have HSF := Lib.hid (show SS[m]? = some ⟨putF f q sd.data.toList, r⟩ by rw [← HFF.out]; exact HSM.out)
            have HL4 := Lib.hid hlen4
            go_wp2_with fail
            refine (in4_yes _ _ _ _ hi0 hi1).mono ?_
            rintro e w' ⟨rfl, rfl⟩
            have hs7 := Sep.blkNew HS6.out hg6 #[.int .u8 (cb.toNat : Int)] 5
            have hb7 := HB6.out.alloc hg6 (.cells #[.int .u8 (cb.toNat : Int)] 5)
            obtain ⟨c7, _⟩ := Sep.blkAt (A := []) hs7 (j := 0) rfl
            have hcv := run_string_of_bytes (P := Tryd.prog) (w := w6.alloc (.cells #[.int .u8 (cb.toNat : Int)] 5)) 1 Tryd.underlying34 Tryd.underlying5 Tryd.underlying9 (b := w6.heap.size) (off := 0) (len := 1) (bs := [cb]) rfl (fun j y hj => by
              match j, hj with
              | 0, hj => simp at hj; subst hj; exact c7)
            have HS7 := Lib.hid (hs7.sub (List.sublist_cons_self _ _))
            have HB7 := Lib.hid hb7
            have hg7 : B ≤ (w6.alloc (.cells #[.int .u8 (cb.toNat : Int)] 5)).heap.size := by have := HB7.out.size; have := HBS.out; omega
            clear hs7 hb7 c7
            go_wp2_with fail
            refine (frameOf_any _ _ _ _).mono ?_
            rintro e w8 ⟨rfl, hb⟩
            have HS8 := Lib.hid (HS7.out.kept hb)
            have HB8 := Lib.hid (HB7.out.trans (hb.mono hg7))
            have hg8 : B ≤ w8.heap.size := by have := HB8.out.size; have := HBS.out; omega
            clear hb x0 x1 x2 HS7 HB7 hg7 hcv HS6
            have hdl : ((⟨[cb].toArray⟩ : ByteArray)).data.toList = [cb] := rfl
            by_cases hxe : sd[k] = cb
            · have hbe : ((sd[k].toNat : Int) == (cb.toNat : Int)) = true := by rw [hxe]; simp
              have hmp := muxPut_same hm4 hlen4 hqd' HSF.out hx
              have HPU := Lib.hid (muxPut_any B g SS [] (m : Int) ((q : Int) + (k : Int)) ⟨[cb].toArray⟩ w8 (by omega) hlen4 HS8.out hg8)
              rw [hdl, ← hxe, hmp, hxe] at HPU
              clear hmp hdl hxe hx HS8
              go_wp2_with fail
              refine HPU.out.mono ?_
              rintro e w9 ⟨rfl, hs, hb⟩
              have HS9 := Lib.hid hs
              have HB9 := Lib.hid (HB8.out.trans hb)
              have hg9 : B ≤ w9.heap.size := by have := HB9.out.size; have := HBS.out; omega
              rw [show errVal 64 (0 : Int) = .nilIface from rfl]
              clear hs hb HPU
              obtain ⟨x0, x1, x2⟩ := HBOX.out _ HB9.out
              go_wp2_with fail
              refine (muxWaits_ok B g SS [] m ⟨F, r⟩ _ hm4 HSM.out hr200 HS9.out).mono ?_
              rintro e w10 ⟨rfl, hd⟩
              rw [← HWT.out]
              have hb := below_of_drew hd
              have HS10 := Lib.hid (HS9.out.kept hb)
              have HB10 := Lib.hid (HB9.out.trans (hb.mono hg9))
              have hg10 : B ≤ w10.heap.size := by have := HB10.out.size; have := HBS.out; omega
              clear hd hb x0 x1 x2 HS9
              go_wp2
              go_ret
              exact ⟨rfl, HFIN.out _ HB10.out⟩
            · have hbe : ((sd[k].toNat : Int) == (cb.toNat : Int)) = false := by
                simp only [beq_eq_false_iff_ne, ne_eq]
                intro h
                exact hxe (UInt8.toNat_inj.1 (by omega))
              have hmp := muxPut_other' hm4 hlen4 hqd' HSF.out hx hxe
              have HPU := Lib.hid (muxPut_any B g SS [] (m : Int) ((q : Int) + (k : Int)) ⟨[cb].toArray⟩ w8 (by omega) hlen4 HS8.out hg8)
              rw [hdl, hmp] at HPU
              have hsix : ∀ w', Below B w0 w' → Calls Tryd.prog 12 #[.iface 64 (.int .i64 6), .int .i64 6] w' fun x w'' => x = .returned (.bool true) ∧ Below w'.heap.size w' w'' := fun w' h => by
                have := same_any 6 6 true w' (HDOOR.out _ h) rfl
                rw [errV_not (by decide)] at this
                exact this
              have HSIX := Lib.hid hsix
              clear hmp hdl hxe hx HS8 hsix
              go_wp2_with fail
              refine HPU.out.mono ?_
              rintro e w9 ⟨rfl, hs, hb⟩
              have HS9 := Lib.hid hs
              have HB9 := Lib.hid (HB8.out.trans hb)
              have hg9 : B ≤ w9.heap.size := by have := HB9.out.size; have := HBS.out; omega
              rw [show errVal 64 (6 : Int) = .iface 64 (.int .i64 6) from rfl]
              clear hs hb HPU
              obtain ⟨x0, x1, x2⟩ := HBOX.out _ HB9.out
              go_wp2_with fail
              refine (HSIX.out _ HB9.out).mono ?_
              rintro e w10 ⟨rfl, hb⟩
              have HS10 := Lib.hid (HS9.out.kept hb)
              have HB10 := Lib.hid (HB9.out.trans (hb.mono hg9))
              have hg10 : B ≤ w10.heap.size := by have := HB10.out.size; have := HBS.out; omega
              clear hb x0 x1 x2 HS9
              obtain ⟨x0, x1, x2⟩ := HBOX.out _ HB10.out
              go_wp2_with fail
              refine (muxWaits_ok B g SS [] m ⟨F, r⟩ _ hm4 HSM.out hr200 HS10.out).mono ?_
              rintro e w11 ⟨rfl, hd⟩
              rw [← HWT.out]
              have hb := below_of_drew hd
              have HS11 := Lib.hid (HS10.out.kept hb)
              have HB11 := Lib.hid (HB10.out.trans (hb.mono hg10))
              have hg11 : B ≤ w11.heap.size := by have := HB11.out.size; have := HBS.out; omega
              clear hd hb x0 x1 x2 HS10
              obtain ⟨x0, x1, x2⟩ := HBOX.out _ HB11.out
              go_wp2_with fail
              refine (muxPut_ok B g SS [] m q r sd F _ hm4 hq200 HSM.out HNC.out HS11.out hg11).mono ?_
              rintro e w12 ⟨rfl, hs, hb⟩
              rw [HAG.out, HSET.out] at hs
              have HS12 := Lib.hid hs
              have HB12 := Lib.hid (HB11.out.trans hb)
              have hg12 : B ≤ w12.heap.size := by have := HB12.out.size; have := HBS.out; omega
              clear hs hb x0 x1 x2 HS11
              go_wp2
              go_ret
              exact ⟨rfl, HFIN.out _ HB12.out⟩
          · have HIN := Lib.hid hin
            clear hin
            go_wp2_with fail
            refine (in4_no _ _ _ _ HIN.out).mono ?_
            rintro e w' ⟨rfl, rfl⟩
            go_wp2
            go_ret
            exact ⟨rfl, HFIN.out _ HB6.out⟩
        · have HPUT := Lib.hid (muxPut_any B g ss [] sf sa sd w3 hsab hl.out hsep hg3)
          obtain ⟨cc, hcc⟩ : ∃ cc, cc = (muxPut ss sf sa sd.data.toList).1 := ⟨_, rfl⟩
          rw [← hcc] at hz HPUT
          have hev : errVal 64 cc = .iface 64 (.int .i64 cc) := by unfold errVal; rw [if_neg hz]
          rw [hev] at HPUT
          clear hcc hz hev hsep
          go_wp2_with fail
          refine HPUT.out.mono ?_
          rintro e w4 ⟨rfl, hs, hb⟩
          have HB4 := Lib.hid (HB3.out.trans hb)
          clear hs hb x0 x1 x2
          go_wp2
          go_ret
          exact ⟨rfl, HFIN.out _ HB4.out⟩
    · have hki : decide ((k : Int) < (fs.length : Int)) = false := decide_eq_false (by omega)
      have hki2 : decide (k < fs.length) = false := decide_eq_false hlt
      have HBX := Lib.hid hbel
      clear hbel
      have HB3 := HBX
      obtain ⟨w3, hw3⟩ : ∃ w3, w3 = wr := ⟨_, rfl⟩
      obtain rfl := hw3
      have hg3 : B ≤ w3.heap.size := by have := HB3.out.size; have := HBS.out; omega
      obtain ⟨x0, x1, x2⟩ := HBOX.out _ HB3.out
      by_cases hz : (muxPut ss sf sa sd.data.toList).1 = 0
      · obtain ⟨m, q, f, r, rfl, rfl, hm4, hqd, hsm, hnc, h2⟩ := muxPut_zero hl.out hz
        have hq200 : q + sd.size ≤ 200 := by simpa using hqd
        have hr200 : r ≤ 200 := hr.out _ (List.mem_iff_getElem?.2 ⟨m, hsm⟩)
        obtain ⟨F, hF⟩ : ∃ F, F = putF f q sd.data.toList := ⟨_, rfl⟩
        obtain ⟨SS, hSS⟩ : ∃ SS, SS = ss.set m ⟨F, r⟩ := ⟨_, rfl⟩
        have HPUT := Lib.hid (muxPut_ok B g ss [] m q r sd f w3 hm4 hq200 hsm hnc hsep hg3)
        rw [← hF, ← hSS] at HPUT
        have HSM := Lib.hid (show SS[m]? = some ⟨F, r⟩ by rw [hSS]; exact List.getElem?_set_self (by rw [hl.out]; exact hm4))
        have hlen4 : SS.length = 4 := by rw [hSS, List.length_set]; exact hl.out
        have HSET := Lib.hid (show SS.set m ⟨F, r⟩ = SS by rw [hSS, List.set_set])
        have HNC := Lib.hid (show ¬ Clash F q sd.data.toList by rw [hF]; exact putF_clear _ _ _)
        have HAG := Lib.hid (show putF F q sd.data.toList = F by rw [hF]; exact putF_again _ _ _)
        have HFF := Lib.hid hF
        obtain ⟨a, ha⟩ : ∃ a, a = Str.waits ⟨F, r⟩ := ⟨_, rfl⟩
        have HWT := Lib.hid ha
        have hm0 : (0 : Int) ≤ (m : Int) := by omega
        have hm3 : (m : Int) ≤ 3 := by omega
        have haa : ((a : Int) == (a : Int)) = true := by simp
        clear hz h2 hsm hnc hF hSS ha hsep hqd
        go_wp2_with fail
        refine HPUT.out.mono ?_
        rintro e w4 ⟨rfl, hs, hb⟩
        have HS4 := Lib.hid hs
        have HB4 := Lib.hid (HB3.out.trans hb)
        have hg4 : B ≤ w4.heap.size := by have := HB4.out.size; have := HBS.out; omega
        clear hs hb x0 x1 x2 HPUT
        obtain ⟨x0, x1, x2⟩ := HBOX.out _ HB4.out
        go_wp2_with fail
        refine (in4_yes _ _ _ _ hm0 hm3).mono ?_
        rintro e w' ⟨rfl, rfl⟩
        clear x0 x1 x2
        obtain ⟨x0, x1, x2⟩ := HBOX.out _ HB4.out
        go_wp2_with fail
        refine (muxPut_ok B g SS [] m q r sd F _ hm4 hq200 HSM.out HNC.out HS4.out hg4).mono ?_
        rintro e w5 ⟨rfl, hs, hb⟩
        rw [HAG.out, HSET.out] at hs
        have HS5 := Lib.hid hs
        have HB5 := Lib.hid (HB4.out.trans hb)
        have hg5 : B ≤ w5.heap.size := by have := HB5.out.size; have := HBS.out; omega
        clear hs hb x0 x1 x2 HS4
        obtain ⟨x0, x1, x2⟩ := HBOX.out _ HB5.out
        go_wp2_with fail
        refine (muxWaits_ok B g SS [] m ⟨F, r⟩ _ hm4 HSM.out hr200 HS5.out).mono ?_
        rintro e w6 ⟨rfl, hd⟩
        rw [← HWT.out]
        have hb := below_of_drew hd
        have HS6 := Lib.hid (HS5.out.kept hb)
        have HB6 := Lib.hid (HB5.out.trans (hb.mono hg5))
        have hg6 : B ≤ w6.heap.size := by have := HB6.out.size; have := HBS.out; omega
        clear hd hb x0 x1 x2 HS5
        obtain ⟨x0, x1, x2⟩ := HBOX.out _ HB6.out
        by_cases hin : 0 ≤ i ∧ i ≤ (sd.size : Int) - 1
        · obtain ⟨hi0, hi1⟩ := hin
          obtain ⟨k, rfl⟩ := Int.eq_ofNat_of_zero_le hi0
          have hks : k < sd.size := by omega
          have hx : sd.data.toList[k]? = some sd[k] := by
            rw [List.getElem?_eq_getElem (by simpa using hks)]
            rfl
          have hqd' : q + sd.data.toList.length ≤ 200 := by simpa using hq200
          have HSF := Lib.hid (show SS[m]? = some ⟨putF f q sd.data.toList, r⟩ by rw [← HFF.out]; exact HSM.out)
          have HL4 := Lib.hid hlen4
          go_wp2_with fail
          refine (in4_yes _ _ _ _ hi0 hi1).mono ?_
          rintro e w' ⟨rfl, rfl⟩
          have hs7 := Sep.blkNew HS6.out hg6 #[.int .u8 (cb.toNat : Int)] 5
          have hb7 := HB6.out.alloc hg6 (.cells #[.int .u8 (cb.toNat : Int)] 5)
          obtain ⟨c7, _⟩ := Sep.blkAt (A := []) hs7 (j := 0) rfl
          have hcv := run_string_of_bytes (P := Tryd.prog) (w := w6.alloc (.cells #[.int .u8 (cb.toNat : Int)] 5)) 1 Tryd.underlying34 Tryd.underlying5 Tryd.underlying9 (b := w6.heap.size) (off := 0) (len := 1) (bs := [cb]) rfl (fun j y hj => by
            match j, hj with
            | 0, hj => simp at hj; subst hj; exact c7)
          have HS7 := Lib.hid (hs7.sub (List.sublist_cons_self _ _))
          have HB7 := Lib.hid hb7
          have hg7 : B ≤ (w6.alloc (.cells #[.int .u8 (cb.toNat : Int)] 5)).heap.size := by have := HB7.out.size; have := HBS.out; omega
          clear hs7 hb7 c7
          go_wp2_with fail
          refine (frameOf_any _ _ _ _).mono ?_
          rintro e w8 ⟨rfl, hb⟩
          have HS8 := Lib.hid (HS7.out.kept hb)
          have HB8 := Lib.hid (HB7.out.trans (hb.mono hg7))
          have hg8 : B ≤ w8.heap.size := by have := HB8.out.size; have := HBS.out; omega
          clear hb x0 x1 x2 HS7 HB7 hg7 hcv HS6
          have hdl : ((⟨[cb].toArray⟩ : ByteArray)).data.toList = [cb] := rfl
          by_cases hxe : sd[k] = cb
          · have hbe : ((sd[k].toNat : Int) == (cb.toNat : Int)) = true := by rw [hxe]; simp
            have hmp := muxPut_same hm4 hlen4 hqd' HSF.out hx
            have HPU := Lib.hid (muxPut_any B g SS [] (m : Int) ((q : Int) + (k : Int)) ⟨[cb].toArray⟩ w8 (by omega) hlen4 HS8.out hg8)
            rw [hdl, ← hxe, hmp, hxe] at HPU
            clear hmp hdl hxe hx HS8
            go_wp2_with fail
            refine HPU.out.mono ?_
            rintro e w9 ⟨rfl, hs, hb⟩
            have HS9 := Lib.hid hs
            have HB9 := Lib.hid (HB8.out.trans hb)
            have hg9 : B ≤ w9.heap.size := by have := HB9.out.size; have := HBS.out; omega
            rw [show errVal 64 (0 : Int) = .nilIface from rfl]
            clear hs hb HPU
            obtain ⟨x0, x1, x2⟩ := HBOX.out _ HB9.out
            go_wp2_with fail
            refine (muxWaits_ok B g SS [] m ⟨F, r⟩ _ hm4 HSM.out hr200 HS9.out).mono ?_
            rintro e w10 ⟨rfl, hd⟩
            rw [← HWT.out]
            have hb := below_of_drew hd
            have HS10 := Lib.hid (HS9.out.kept hb)
            have HB10 := Lib.hid (HB9.out.trans (hb.mono hg9))
            have hg10 : B ≤ w10.heap.size := by have := HB10.out.size; have := HBS.out; omega
            clear hd hb x0 x1 x2 HS9
            go_wp2
            go_ret
            exact ⟨rfl, HFIN.out _ HB10.out⟩
          · have hbe : ((sd[k].toNat : Int) == (cb.toNat : Int)) = false := by
              simp only [beq_eq_false_iff_ne, ne_eq]
              intro h
              exact hxe (UInt8.toNat_inj.1 (by omega))
            have hmp := muxPut_other' hm4 hlen4 hqd' HSF.out hx hxe
            have HPU := Lib.hid (muxPut_any B g SS [] (m : Int) ((q : Int) + (k : Int)) ⟨[cb].toArray⟩ w8 (by omega) hlen4 HS8.out hg8)
            rw [hdl, hmp] at HPU
            have hsix : ∀ w', Below B w0 w' → Calls Tryd.prog 12 #[.iface 64 (.int .i64 6), .int .i64 6] w' fun x w'' => x = .returned (.bool true) ∧ Below w'.heap.size w' w'' := fun w' h => by
              have := same_any 6 6 true w' (HDOOR.out _ h) rfl
              rw [errV_not (by decide)] at this
              exact this
            have HSIX := Lib.hid hsix
            clear hmp hdl hxe hx HS8 hsix
            go_wp2_with fail
            refine HPU.out.mono ?_
            rintro e w9 ⟨rfl, hs, hb⟩
            have HS9 := Lib.hid hs
            have HB9 := Lib.hid (HB8.out.trans hb)
            have hg9 : B ≤ w9.heap.size := by have := HB9.out.size; have := HBS.out; omega
            rw [show errVal 64 (6 : Int) = .iface 64 (.int .i64 6) from rfl]
            clear hs hb HPU
            obtain ⟨x0, x1, x2⟩ := HBOX.out _ HB9.out
            go_wp2_with fail
            refine (HSIX.out _ HB9.out).mono ?_
            rintro e w10 ⟨rfl, hb⟩
            have HS10 := Lib.hid (HS9.out.kept hb)
            have HB10 := Lib.hid (HB9.out.trans (hb.mono hg9))
            have hg10 : B ≤ w10.heap.size := by have := HB10.out.size; have := HBS.out; omega
            clear hb x0 x1 x2 HS9
            obtain ⟨x0, x1, x2⟩ := HBOX.out _ HB10.out
            go_wp2_with fail
            refine (muxWaits_ok B g SS [] m ⟨F, r⟩ _ hm4 HSM.out hr200 HS10.out).mono ?_
            rintro e w11 ⟨rfl, hd⟩
            rw [← HWT.out]
            have hb := below_of_drew hd
            have HS11 := Lib.hid (HS10.out.kept hb)
            have HB11 := Lib.hid (HB10.out.trans (hb.mono hg10))
            have hg11 : B ≤ w11.heap.size := by have := HB11.out.size; have := HBS.out; omega
            clear hd hb x0 x1 x2 HS10
            obtain ⟨x0, x1, x2⟩ := HBOX.out _ HB11.out
            go_wp2_with fail
            refine (muxPut_ok B g SS [] m q r sd F _ hm4 hq200 HSM.out HNC.out HS11.out hg11).mono ?_
            rintro e w12 ⟨rfl, hs, hb⟩
            rw [HAG.out, HSET.out] at hs
            have HS12 := Lib.hid hs
            have HB12 := Lib.hid (HB11.out.trans hb)
            have hg12 : B ≤ w12.heap.size := by have := HB12.out.size; have := HBS.out; omega
            clear hs hb x0 x1 x2 HS11
            go_wp2
            go_ret
            exact ⟨rfl, HFIN.out _ HB12.out⟩
        · have HIN := Lib.hid hin
          clear hin
          go_wp2_with fail
          refine (in4_no _ _ _ _ HIN.out).mono ?_
          rintro e w' ⟨rfl, rfl⟩
          go_wp2
          go_ret
          exact ⟨rfl, HFIN.out _ HB6.out⟩
      · have HPUT := Lib.hid (muxPut_any B g ss [] sf sa sd w3 hsab hl.out hsep hg3)
        obtain ⟨cc, hcc⟩ : ∃ cc, cc = (muxPut ss sf sa sd.data.toList).1 := ⟨_, rfl⟩
        rw [← hcc] at hz HPUT
        have hev : errVal 64 cc = .iface 64 (.int .i64 cc) := by unfold errVal; rw [if_neg hz]
        rw [hev] at HPUT
        clear hcc hz hev hsep
        go_wp2_with fail
        refine HPUT.out.mono ?_
        rintro e w4 ⟨rfl, hs, hb⟩
        have HB4 := Lib.hid (HB3.out.trans hb)
        clear hs hb x0 x1 x2
        go_wp2
        go_ret
        exact ⟨rfl, HFIN.out _ HB4.out⟩
end Go.Proofs.YthnlpmjfibidcaaDoor
