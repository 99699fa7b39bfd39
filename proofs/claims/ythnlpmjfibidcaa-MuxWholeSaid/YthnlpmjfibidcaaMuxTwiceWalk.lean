/- MuxTwice returns true: what was read is not read again. -/
import Derived.Test.YthnlpmjfibidcaaRows
import Derived.Test.YthnlpmjfibidcaaMuxAny
import Derived.Test.YthnlpmjfibidcaaFrm
import Derived.Test.YthnlpmjfibidcaaIn4
namespace Go.Proofs.Ythnlpmjfibidcaa
open Go.RowKit
set_option linter.unusedVariables false

theorem runTo_end (f : Nat → Option UInt8) : ∀ (n r : Nat), runTo f n r = r + n ∨ (f (runTo f n r)).isSome = false
  | 0, r => .inl rfl
  | n + 1, r => by
    unfold runTo
    by_cases h : (f r).isSome = true
    · rw [if_pos h]
      rcases runTo_end f n (r + 1) with h1 | h1
      · left; omega
      · right; exact h1
    · rw [if_neg h]; right; simpa using h

theorem next_again (s : Str) (h : s.read ≤ 200) : Str.next ⟨s.came, s.next⟩ = s.next := by
  have hb := runTo_ge s.came (200 - s.read) s.read
  show runTo s.came (200 - s.next) s.next = s.next
  refine runTo_stop ?_
  rcases runTo_end s.came (200 - s.read) s.read with h1 | h1
  · left; unfold Str.next; omega
  · right; exact h1
theorem text_again (s : Str) (h : s.read ≤ 200) : Str.text ⟨s.came, s.next⟩ = [] := by
  unfold Str.text
  rw [next_again s h]
  simp [bytesOf]
theorem text_len (s : Str) : s.text.length = s.next - s.read := by unfold Str.text; rw [bytesOf_len]

/-- All that is read came. -/
theorem runTo_all (f : Nat → Option UInt8) : ∀ (n r j : Nat), r ≤ j → j < runTo f n r → (f j).isSome = true
  | 0, r, j, h1, h2 => by unfold runTo at h2; omega
  | n + 1, r, j, h1, h2 => by
    unfold runTo at h2
    by_cases h : (f r).isSome = true
    · rw [if_pos h] at h2
      by_cases e : r = j
      · rw [← e]; exact h
      · exact runTo_all f n (r + 1) j (by omega) h2
    · rw [if_neg h] at h2; omega
theorem waits_after (s : Str) (h : s.read ≤ 200) : Str.waits ⟨s.came, s.next⟩ + s.text.length = s.waits := by
  have hb := runTo_ge s.came (200 - s.read) s.read
  have e : List.range' s.read (200 - s.read) = List.range' s.read (s.next - s.read) ++ List.range' s.next (200 - s.next) := by
    have hn : s.next = s.read + (s.next - s.read) := by unfold Str.next; omega
    have h2 : 200 - s.read = (s.next - s.read) + (200 - s.next) := by unfold Str.next; omega
    rw [h2, ← List.range'_append_1]
    congr 2
    rw [← hn]
  unfold Str.waits
  rw [e, List.filter_append, List.length_append, text_len]
  have : (List.range' s.read (s.next - s.read)).filter (fun j => (s.came j).isSome) = List.range' s.read (s.next - s.read) := by
    rw [List.filter_eq_self]
    intro j hj
    rw [List.mem_range'_1] at hj
    exact runTo_all s.came (200 - s.read) s.read j hj.1 (by show j < s.next; omega)
  rw [this, List.length_range']
  simp only
  omega

set_option maxHeartbeats 1000000 in
set_option maxRecDepth 100000 in
theorem muxTwice_walk (ao : Option Addr) (ac : Nat) (fs : List Frm) (i : Int) (w : World) (hA : RowSl w.heap.size w ao 3 (fs.map frmCells)) (hac : fs.length ≤ ac) (hmax : ac ≤ maxLen)
    (hg : ∀ x ∈ fs, FrmGood x) (_ : -9223372036854775808 ≤ i ∧ i ≤ 9223372036854775807) :
    Calls Try.prog 5 #[.slice ao fs.length ac, .int .i64 i] w fun e w' => e = .returned (.bool true) ∧ Below w.heap.size w w' := by
  unfold maxLen at hmax
  have HA := Lib.hid hA; clear hA
  have HG := Lib.hid hg; clear hg
  go_enter Try.func5, Try.ntmps5
  go_wp2_with fail
  refine (muxFact_any _).mono ?_
  rintro e w1 ⟨rfl, hb⟩
  have HB1 := Lib.hid hb; clear hb
  go_wp2_with fail
  refine (muxNew_any _).mono ?_
  rintro e w2 ⟨g, rfl, hsep, hb⟩
  have HB2 := Lib.hid (HB1.out.trans (hb.mono HB1.out.size)); clear hb
  have HS2 := Lib.hid (hsep.mono HB1.out.size); clear hsep
  go_wp2_with fail
  go_loopw [7] (fun x wr => ∃ (k : Nat) (ss : List Str), k ≤ fs.length ∧ x = .int .i64 k ∧ Hid (ss.length = 4) ∧ Hid (∀ s ∈ ss, s.read ≤ 200) ∧
    Sep w.heap.size wr [Ent.mux 56 g ss] ∧ Below w.heap.size w wr) (fun x _ => fs.length - (intOf x).toNat)
  case atStart => exact ⟨0, List.replicate 4 Str.new, Nat.zero_le _, rfl, rfl, fun s hs => by obtain ⟨_, rfl⟩ := List.mem_replicate.1 hs; decide, HS2.out, HB2.out⟩
  case round =>
    obtain ⟨k, ss, hk, rfl, hl, hr, hs, hb⟩ := hrel
    have HS := Lib.hid hs; clear hs
    have HB := Lib.hid hb; clear hb
    by_cases hlt : k < fs.length ∧ k < 30
    · obtain ⟨hlt, h30⟩ := hlt
      obtain ⟨x, hx⟩ : ∃ x, fs[k]? = some x := ⟨_, List.getElem?_eq_getElem hlt⟩
      obtain ⟨b, off, rfl, hbb, c0, c1, c2⟩ := (HA.out.below HB.out).frm hx
      have hgx := (HG.out x (List.mem_iff_getElem?.2 ⟨k, hx⟩)).2.1
      have Hx := Lib.hid hx; clear hx
      have hd30 : decide ((k : Int) < 30) = true := by simp; omega
      go_wp2_with fail
      refine (muxPut_any _ g ss [] _ _ _ _ hgx hl.out HS.out HB.out.size).mono ?_
      rintro e w3 ⟨rfl, hsep, hb3⟩
      have HS3 := Lib.hid hsep; clear hsep
      have HB3 := Lib.hid (HB.out.trans hb3); clear hb3
      generalize errVal 57 (muxPut ss x.1 x.2.1 x.2.2.data.toList).1 = ev
      go_wp2
      go_roundw
      case rel => exact ⟨k + 1, _, by omega, by go_num, (muxPut_len _ _ _ _).trans hl.out, muxPut_read _ _ _ hr.out, HS3.out, HB3.out⟩
      case measure => simp [intOf]; omega
    · by_cases hlenk : k < fs.length
      · have hd30 : decide ((k : Int) < 30) = false := by simp; omega
        by_cases hin : 0 ≤ i ∧ i ≤ 3
        · obtain ⟨hi0, hi3⟩ := hin
          obtain ⟨m, rfl⟩ := Int.eq_ofNat_of_zero_le hi0
          have hm4 : m < 4 := by omega
          obtain ⟨s, hsm⟩ : ∃ s, ss[m]? = some s := ⟨_, List.getElem?_eq_getElem (by rw [hl.out]; exact hm4)⟩
          have hr0 := hr.out s (List.mem_iff_getElem?.2 ⟨m, hsm⟩)
          have HSM := Lib.hid hsm; clear hsm
          have hnx := runTo_ge s.came (200 - s.read) s.read
          have hn2 : s.next ≤ 200 := by unfold Str.next; omega
          have hw := waits_after s hr0
          have ht := text_again s hr0
          have HT := Lib.hid ht; clear ht hnx
          have hl2 : (ss.set m ⟨s.came, s.next⟩)[m]? = some ⟨s.came, s.next⟩ := List.getElem?_set_self (by rw [hl.out]; exact hm4)
          have HL2 := Lib.hid hl2; clear hl2
          have C1 := fun w F h => muxWaits_ok w.heap.size g ss F m s w hm4 HSM.out hr0 h
          obtain ⟨a, ha⟩ : ∃ a, a = s.waits := ⟨_, rfl⟩
          obtain ⟨b, hb⟩ : ∃ b, b = Str.waits ⟨s.came, s.next⟩ := ⟨_, rfl⟩
          obtain ⟨t, htx⟩ : ∃ t, t = s.text := ⟨_, rfl⟩
          rw [← ha, ← hb, ← htx] at hw
          have ha2 : a ≤ 200 := by rw [ha]; unfold Str.waits; have := List.length_filter_le (fun j => (s.came j).isSome) (List.range' s.read (200 - s.read)); simp only [List.length_range'] at this; omega
          have Ha := Lib.hid ha; clear ha
          have Hb := Lib.hid hb; clear hb
          have Ht := Lib.hid htx; clear htx C1
          go_wp2_with fail
          refine (muxWaits_ok _ g ss [] m s _ hm4 HSM.out hr0 HS.out).mono ?_
          rintro e w3 ⟨rfl, hd⟩
          rw [← Ha.out]
          have hb3 := below_of_drew hd; clear hd
          have HS3 := Lib.hid (HS.out.kept hb3)
          have HB3 := Lib.hid (HB.out.trans (hb3.mono HB.out.size)); clear hb3
          go_wp2_with fail
          refine (muxRead_ok _ g ss [] m s _ hm4 HSM.out hr0 HS3.out HB3.out.size).mono ?_
          rintro e w4 ⟨rfl, hsep, hb4⟩
          rw [← Ht.out]
          have HS4 := Lib.hid hsep; clear hsep
          have HB4 := Lib.hid (HB3.out.trans hb4); clear hb4
          go_wp2_with fail
          refine (muxWaits_ok _ g _ [] m ⟨s.came, s.next⟩ _ hm4 HL2.out hn2 HS4.out).mono ?_
          rintro e w5 ⟨rfl, hd⟩
          rw [← Hb.out]
          have hb5 := below_of_drew hd; clear hd
          have HS5 := Lib.hid (HS4.out.kept hb5)
          have HB5 := Lib.hid (HB4.out.trans (hb5.mono HB4.out.size)); clear hb5
          go_wp2_with fail
          refine (muxRead_ok _ g _ [] m ⟨s.came, s.next⟩ _ hm4 HL2.out hn2 HS5.out HB5.out.size).mono ?_
          rintro e w6 ⟨rfl, hsep, hb6⟩
          rw [HT.out]
          rw [List.set_set, show (Str.next ⟨s.came, s.next⟩) = s.next from next_again s hr0] at hsep
          have HS6 := Lib.hid hsep; clear hsep
          have HB6 := Lib.hid (HB5.out.trans hb6); clear hb6
          have htl : (⟨t.toArray⟩ : ByteArray).size = t.length := by simp [ByteArray.size]
          have hq : ((b : Int) == (a : Int) - (t.length : Int)) = true := by simp; omega
          go_wp2_with fail
          refine (muxWaits_ok _ g _ [] m ⟨s.came, s.next⟩ _ hm4 HL2.out hn2 HS6.out).mono ?_
          rintro e w7 ⟨rfl, hd⟩
          rw [← Hb.out]
          have hb7 := below_of_drew hd; clear hd
          have HB7 := Lib.hid (HB6.out.trans (hb7.mono HB6.out.size)); clear hb7
          go_wp2
          go_ret
          exact ⟨ret_bool (by simp), HB7.out⟩
        · have HI := Lib.hid hin; clear hin
          go_wp2_with fail
          refine (muxWaits_no _ _ _ HI.out).mono ?_
          rintro e w' ⟨rfl, rfl⟩
          go_wp2_with fail
          refine (muxRead_no _ _ _ HI.out).mono ?_
          rintro e w' ⟨rfl, rfl⟩
          go_wp2_with fail
          refine (in4_no _ _ _ _ HI.out).mono ?_
          rintro e w' ⟨rfl, rfl⟩
          go_wp2
          go_ret
          exact ⟨rfl, HB.out⟩
      · have hk0 : ¬ k < fs.length := hlenk
        by_cases hin : 0 ≤ i ∧ i ≤ 3
        · obtain ⟨hi0, hi3⟩ := hin
          obtain ⟨m, rfl⟩ := Int.eq_ofNat_of_zero_le hi0
          have hm4 : m < 4 := by omega
          obtain ⟨s, hsm⟩ : ∃ s, ss[m]? = some s := ⟨_, List.getElem?_eq_getElem (by rw [hl.out]; exact hm4)⟩
          have hr0 := hr.out s (List.mem_iff_getElem?.2 ⟨m, hsm⟩)
          have HSM := Lib.hid hsm; clear hsm
          have hnx := runTo_ge s.came (200 - s.read) s.read
          have hn2 : s.next ≤ 200 := by unfold Str.next; omega
          have hw := waits_after s hr0
          have ht := text_again s hr0
          have HT := Lib.hid ht; clear ht hnx
          have hl2 : (ss.set m ⟨s.came, s.next⟩)[m]? = some ⟨s.came, s.next⟩ := List.getElem?_set_self (by rw [hl.out]; exact hm4)
          have HL2 := Lib.hid hl2; clear hl2
          have C1 := fun w F h => muxWaits_ok w.heap.size g ss F m s w hm4 HSM.out hr0 h
          obtain ⟨a, ha⟩ : ∃ a, a = s.waits := ⟨_, rfl⟩
          obtain ⟨b, hb⟩ : ∃ b, b = Str.waits ⟨s.came, s.next⟩ := ⟨_, rfl⟩
          obtain ⟨t, htx⟩ : ∃ t, t = s.text := ⟨_, rfl⟩
          rw [← ha, ← hb, ← htx] at hw
          have ha2 : a ≤ 200 := by rw [ha]; unfold Str.waits; have := List.length_filter_le (fun j => (s.came j).isSome) (List.range' s.read (200 - s.read)); simp only [List.length_range'] at this; omega
          have Ha := Lib.hid ha; clear ha
          have Hb := Lib.hid hb; clear hb
          have Ht := Lib.hid htx; clear htx C1
          go_wp2_with fail
          refine (muxWaits_ok _ g ss [] m s _ hm4 HSM.out hr0 HS.out).mono ?_
          rintro e w3 ⟨rfl, hd⟩
          rw [← Ha.out]
          have hb3 := below_of_drew hd; clear hd
          have HS3 := Lib.hid (HS.out.kept hb3)
          have HB3 := Lib.hid (HB.out.trans (hb3.mono HB.out.size)); clear hb3
          go_wp2_with fail
          refine (muxRead_ok _ g ss [] m s _ hm4 HSM.out hr0 HS3.out HB3.out.size).mono ?_
          rintro e w4 ⟨rfl, hsep, hb4⟩
          rw [← Ht.out]
          have HS4 := Lib.hid hsep; clear hsep
          have HB4 := Lib.hid (HB3.out.trans hb4); clear hb4
          go_wp2_with fail
          refine (muxWaits_ok _ g _ [] m ⟨s.came, s.next⟩ _ hm4 HL2.out hn2 HS4.out).mono ?_
          rintro e w5 ⟨rfl, hd⟩
          rw [← Hb.out]
          have hb5 := below_of_drew hd; clear hd
          have HS5 := Lib.hid (HS4.out.kept hb5)
          have HB5 := Lib.hid (HB4.out.trans (hb5.mono HB4.out.size)); clear hb5
          go_wp2_with fail
          refine (muxRead_ok _ g _ [] m ⟨s.came, s.next⟩ _ hm4 HL2.out hn2 HS5.out HB5.out.size).mono ?_
          rintro e w6 ⟨rfl, hsep, hb6⟩
          rw [HT.out]
          rw [List.set_set, show (Str.next ⟨s.came, s.next⟩) = s.next from next_again s hr0] at hsep
          have HS6 := Lib.hid hsep; clear hsep
          have HB6 := Lib.hid (HB5.out.trans hb6); clear hb6
          have htl : (⟨t.toArray⟩ : ByteArray).size = t.length := by simp [ByteArray.size]
          have hq : ((b : Int) == (a : Int) - (t.length : Int)) = true := by simp; omega
          go_wp2_with fail
          refine (muxWaits_ok _ g _ [] m ⟨s.came, s.next⟩ _ hm4 HL2.out hn2 HS6.out).mono ?_
          rintro e w7 ⟨rfl, hd⟩
          rw [← Hb.out]
          have hb7 := below_of_drew hd; clear hd
          have HB7 := Lib.hid (HB6.out.trans (hb7.mono HB6.out.size)); clear hb7
          go_wp2
          go_ret
          exact ⟨ret_bool (by simp), HB7.out⟩
        · have HI := Lib.hid hin; clear hin
          go_wp2_with fail
          refine (muxWaits_no _ _ _ HI.out).mono ?_
          rintro e w' ⟨rfl, rfl⟩
          go_wp2_with fail
          refine (muxRead_no _ _ _ HI.out).mono ?_
          rintro e w' ⟨rfl, rfl⟩
          go_wp2_with fail
          refine (in4_no _ _ _ _ HI.out).mono ?_
          rintro e w' ⟨rfl, rfl⟩
          go_wp2
          go_ret
          exact ⟨rfl, HB.out⟩
end Go.Proofs.Ythnlpmjfibidcaa
