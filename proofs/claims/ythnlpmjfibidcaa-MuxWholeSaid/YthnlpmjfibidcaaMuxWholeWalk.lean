/- MuxWhole returns true: in whatever order frames come a stream is read as it was, each byte once. -/
import Derived.Test.YthnlpmjfibidcaaRows
import Derived.Test.YthnlpmjfibidcaaMuxAny
import Derived.Test.YthnlpmjfibidcaaMuxApartWalk
import Derived.Test.YthnlpmjfibidcaaMuxTwiceWalk
namespace Go.Proofs.Ythnlpmjfibidcaa
open Go.RowKit
set_option linter.unusedVariables false

/-- What came is of the text. -/
def Agree (f : Nat → Option UInt8) (T : List UInt8) : Prop := ∀ (j : Nat) (b : UInt8), f j = some b → T[j]? = some b

theorem piece_get {T : List UInt8} {p n i : Nat} {c : UInt8} (h : ((T.drop p).take n)[i]? = some c) : i < n ∧ T[p + i]? = some c := by
  rw [List.getElem?_take] at h
  split at h
  · rw [List.getElem?_drop] at h; exact ⟨‹_›, h⟩
  · cases h
theorem agree_put {f : Nat → Option UInt8} {T : List UInt8} (h : Agree f T) (p n : Nat) : Agree (putF f p ((T.drop p).take n)) T := by
  intro j b hj
  unfold putF at hj
  split at hj
  · cases hc : ((T.drop p).take n)[j - p]? with
    | none => rw [hc] at hj; exact h j b hj
    | some c =>
      rw [hc] at hj
      have hb : c = b := Option.some.inj hj
      have := (piece_get hc).2
      rw [show p + (j - p) = j by omega, hb] at this
      exact this
  · exact h j b hj
theorem agree_noClash {f : Nat → Option UInt8} {T : List UInt8} (h : Agree f T) (p n : Nat) : ¬ Clash f p ((T.drop p).take n) := by
  rintro ⟨i, c, b, h1, h2, h3⟩
  have h4 := (piece_get h1).2
  have h5 := h _ _ h2
  rw [h4] at h5
  exact h3 (Option.some.inj h5).symm
theorem putF_some {f : Nat → Option UInt8} {p : Nat} {d : List UInt8} {j : Nat} (h : (f j).isSome = true ∨ (p ≤ j ∧ j < p + d.length)) : (putF f p d j).isSome = true := by
  unfold putF
  by_cases hp : p ≤ j
  · rw [if_pos hp]
    by_cases hl : j - p < d.length
    · rw [List.getElem?_eq_getElem hl]; rfl
    · rw [List.getElem?_eq_none (by omega)]
      rcases h with h | h
      · exact h
      · omega
  · rw [if_neg hp]
    rcases h with h | h
    · exact h
    · omega
theorem agree_lt {f : Nat → Option UInt8} {T : List UInt8} (h : Agree f T) {j : Nat} (hj : (f j).isSome = true) : j < T.length := by
  obtain ⟨b, hb⟩ := Option.isSome_iff_exists.1 hj
  exact (List.getElem?_eq_some_iff.1 (h j b hb)).1
/-- What is read is the next piece of the text. -/
theorem agree_text {f : Nat → Option UInt8} {T : List UInt8} {r : Nat} (h : Agree f T) (hr : r ≤ 200) :
    T.take r ++ Str.text ⟨f, r⟩ = T.take (Str.next ⟨f, r⟩) := by
  have hb := runTo_ge f (200 - r) r
  have e : Str.text ⟨f, r⟩ = (T.drop r).take (Str.next ⟨f, r⟩ - r) := by
    unfold Str.text
    apply List.ext_getElem?
    intro j
    show (bytesOf f r (runTo f (200 - r) r - r))[j]? = _
    by_cases hj : j < runTo f (200 - r) r - r
    · have hs := runTo_all f (200 - r) r (r + j) (by omega) (by omega)
      obtain ⟨b, hb2⟩ := Option.isSome_iff_exists.1 hs
      have hT := h _ _ hb2
      have hg : (bytesOf f r (runTo f (200 - r) r - r))[j]? = some ((f (r + j)).getD 0) := by
        have hl : j < (bytesOf f r (runTo f (200 - r) r - r)).length := by rw [bytesOf_len]; exact hj
        have := bytesOf_get f (List.getElem?_eq_getElem hl)
        rw [List.getElem?_eq_getElem hl, this.2]
      rw [hg, hb2, List.getElem?_take, if_pos (by show j < runTo f (200 - r) r - r; exact hj), List.getElem?_drop, hT]
      rfl
    · rw [List.getElem?_eq_none (by rw [bytesOf_len]; omega), List.getElem?_take, if_neg (by show ¬ j < runTo f (200 - r) r - r; exact hj)]
  rw [e]
  have : Str.next ⟨f, r⟩ = r + (Str.next ⟨f, r⟩ - r) := by show runTo f (200 - r) r = r + (runTo f (200 - r) r - r); omega
  rw [this, List.take_add]
  congr 2
  show (r + (Str.next ⟨f, r⟩ - r)) - r = _
  omega
theorem agree_next {f : Nat → Option UInt8} {T : List UInt8} {r : Nat} (h : Agree f T) (hr : r ≤ T.length) (h2 : r ≤ 200) : Str.next ⟨f, r⟩ ≤ T.length := by
  show runTo f (200 - r) r ≤ T.length
  have hb := runTo_ge f (200 - r) r
  by_cases hlt : r < runTo f (200 - r) r
  · have := agree_lt h (runTo_all f (200 - r) r (runTo f (200 - r) r - 1) (by omega) (by omega))
    omega
  · omega
/-- Where all came, all is read, and nothing waits. -/
theorem agree_whole {f : Nat → Option UInt8} {T : List UInt8} {r : Nat} (h : Agree f T) (hr : r ≤ T.length) (hT : T.length ≤ 200) (hstop : r = 200 ∨ (f r).isSome = false) (hall : ∀ j, j < T.length → (f j).isSome = true) :
    r = T.length ∧ Str.waits ⟨f, r⟩ = 0 := by
  have e : r = T.length := by
    rcases hstop with h1 | h1
    · omega
    · by_cases hlt : r < T.length
      · rw [hall r hlt] at h1; cases h1
      · omega
  refine ⟨e, ?_⟩
  unfold Str.waits
  rw [List.length_eq_zero_iff, List.filter_eq_nil_iff]
  intro j hj hs
  rw [List.mem_range'_1] at hj
  have := agree_lt h hs
  have hj1 := hj.1
  simp only at hj1
  omega
theorem waits_read (d : List UInt8) (h : d.length ≤ 200) : Str.waits ⟨putF (fun _ => none) 0 d, d.length⟩ = 0 := by
  have ha : Agree (putF (fun _ => none) 0 d) d := by
    intro j b hj
    unfold putF at hj
    rw [if_pos (Nat.zero_le _)] at hj
    cases hc : d[j - 0]? with
    | none => rw [hc] at hj; cases hj
    | some c => rw [hc] at hj; rw [← hj]; simp
  exact (agree_whole ha (Nat.le_refl _) h (by
    by_cases h2 : d.length = 200
    · exact .inl h2
    · right
      cases hs : (putF (fun _ => none) 0 d d.length).isSome with
      | false => rfl
      | true => have := agree_lt ha hs; omega) (fun j hj => putF_some (.inr ⟨Nat.zero_le _, by omega⟩))).2

theorem muldiv (L z : Nat) (hz : 1 ≤ z) : L ≤ (L + z - 1) / z * z ∧ ∀ k, k < (L + z - 1) / z → k * z < L := by
  have h1 := Nat.div_add_mod (L + z - 1) z
  have h2 := Nat.mod_lt (L + z - 1) (show 0 < z by omega)
  have e : (L + z - 1) / z * z = z * ((L + z - 1) / z) := Nat.mul_comm _ _
  refine ⟨by omega, fun k hk => ?_⟩
  have h3 : (k + 1) * z ≤ (L + z - 1) / z * z := Nat.mul_le_mul_right _ hk
  rw [Nat.add_mul] at h3
  omega
theorem covers {L z M n j : Nat} (hz : 1 ≤ z) (hj : j < (n + 1) * z) (hn : ¬ j < n * z) : n * z ≤ j ∧ j < n * z + z := by
  rw [Nat.add_mul] at hj; omega

theorem extract_list (s : ByteArray) (p e : Nat) : (s.extract p e).data.toList = (s.data.toList.drop p).take (e - p) := by
  simp [ByteArray.data_extract, List.extract_eq_take_drop]
theorem take_size (s : ByteArray) (r : Nat) (h : r ≤ s.size) : (⟨(s.data.toList.take r).toArray⟩ : ByteArray).size = r := by
  show (s.data.toList.take r).toArray.size = r
  rw [List.size_toArray, List.length_take, Array.length_toList]
  exact Nat.min_eq_left h
theorem take_ext (s : ByteArray) (r : Nat) : s.extract 0 r = ⟨(s.data.toList.take r).toArray⟩ := by
  apply ByteArray.ext
  apply Array.toList_inj.1
  rw [extract_list]
  simp
theorem take_cat (T x : List UInt8) (r r2 : Nat) (h : T.take r ++ x = T.take r2) : (⟨(T.take r).toArray⟩ : ByteArray) ++ ⟨x.toArray⟩ = ⟨(T.take r2).toArray⟩ := by
  apply ByteArray.ext
  simp only [ByteArray.data_append]
  rw [← h]
  simp
theorem cov_last {s : ByteArray} {f : Nat → Option UInt8} {z k L c p q j : Nat} (hL : L ≤ k) (hC : c = k - L) (hP : p = c * z) (hQ : q = s.size ∨ q = p + z) (hall : ∀ j, j < (k - L) * z → j < s.size → (f j).isSome = true)
    (hj : j < (k + 1 - L) * z) (hjs : j < s.size) : (putF f p ((s.data.toList.drop p).take (q - p)) j).isSome = true := by
  refine putF_some ?_
  by_cases hj2 : j < (k - L) * z
  · exact .inl (hall j hj2 hjs)
  · right
    have e : (k + 1 - L) * z = p + z := by rw [show k + 1 - L = c + 1 by omega, Nat.add_mul, ← hP]; omega
    have e2 : (k - L) * z = p := by rw [← hC, ← hP]
    rw [e] at hj
    rw [e2] at hj2
    have hl : s.data.toList.length = s.size := Array.length_toList
    rw [List.length_take, List.length_drop, hl]
    rcases hQ with h | h <;> omega
theorem agree_none (T : List UInt8) : Agree (fun _ => none) T := by intro j b h; cases h
theorem extract_sz (s : ByteArray) (p e : Nat) (h : e ≤ s.size) : (s.extract p e).size = e - p := by
  rw [ByteArray.size_extract]; omega

set_option maxHeartbeats 2000000 in
set_option maxRecDepth 100000 in
theorem muxWhole_walk (s t : ByteArray) (z : Int) (ao : Option Addr) (ac : Nat) (ord : List Int) (w : World) (hss : s.size ≤ 140737488351232) (hts : t.size ≤ 140737488351232)
    (_ : -9223372036854775808 ≤ z ∧ z ≤ 9223372036854775807) (hA : IntSl w.heap.size w ao ord) (hac : ord.length ≤ ac) (hmax : ac ≤ maxLen) (ho : ∀ x ∈ ord, -9223372036854775808 ≤ x ∧ x ≤ 9223372036854775807) (hsm : ord.length ≤ 140737488351232) :
    Calls Try.prog 4 #[.string s, .string t, .int .i64 z, .slice ao ord.length ac] w fun e w' => e = .returned (.bool true) ∧ Below w.heap.size w w' := by
  unfold maxLen at hmax
  have HA := Lib.hid hA; clear hA
  have HO := Lib.hid ho; clear ho
  by_cases hbig : s.size ≤ 200 ∧ t.size ≤ 200 ∧ 1 ≤ z ∧ z ≤ 200
  · obtain ⟨hs2, ht2, hz1, hz2⟩ := hbig
    obtain ⟨z, rfl⟩ := Int.eq_ofNat_of_zero_le (by omega : 0 ≤ z)
    have hd1 : decide ((200 : Int) < (s.size : Int)) = false := by simp; omega
    have hd2 : decide ((200 : Int) < (t.size : Int)) = false := by simp; omega
    obtain ⟨M, hM⟩ : ∃ M, M = (s.size + z - 1) / z := ⟨_, rfl⟩
    have hmd := muldiv s.size z (by omega)
    rw [← hM] at hmd
    have hdiv : ((s.size : Int) + (z : Int) - 1) / (z : Int) = (M : Int) := by
      rw [hM]
      rw [show ((s.size : Int) + (z : Int) - 1) = ((s.size + z - 1 : Nat) : Int) by omega]
      rfl
    have HMD := Lib.hid hmd; clear hmd
    clear hM
    go_enter Try.func4, Try.ntmps4
    go_wp2_with fail
    refine (muxFact_any _).mono ?_
    rintro e w1 ⟨rfl, hb⟩
    have HB1 := Lib.hid hb; clear hb
    go_wp2_with fail
    refine (in4_yes _ _ _ _ (by omega) (by omega)).mono ?_
    rintro e w' ⟨rfl, rfl⟩
    go_wp2_with fail
    refine (muxNew_any _).mono ?_
    rintro e w2 ⟨g, rfl, hsep, hb⟩
    have HB2 := Lib.hid (HB1.out.trans (hb.mono HB1.out.size)); clear hb
    have HS2 := Lib.hid (hsep.mono HB1.out.size); clear hsep
    go_wp2_with fail
    refine (frameOf_any _ _ _ _).mono ?_
    rintro e w3 ⟨rfl, hb3⟩
    have HS3 := Lib.hid (HS2.out.kept hb3)
    have HB3 := Lib.hid (HB2.out.trans (hb3.mono HB2.out.size)); clear hb3
    go_wp2_with fail
    refine (muxPut_ok _ g _ [] 2 0 0 t (fun _ => none) _ (by decide) (by omega) rfl (by rintro ⟨i, c, b, _, h, _⟩; cases h) HS3.out HB3.out.size).mono ?_
    rintro e w4 ⟨rfl, hsep, hb4⟩
    have HS4 : Hid (Sep w.heap.size w4 [Ent.mux 56 g [Str.new, ⟨fun _ => none, 0⟩, ⟨putF (fun _ => none) 0 t.data.toList, 0⟩, Str.new]]) := hsep
    have HB4 := Lib.hid (HB3.out.trans hb4); clear hb4 hsep
    go_wp2_with fail
    rw [hdiv]
    clear hdiv
    have hM2 : M ≤ 200 := by
      rcases Nat.eq_zero_or_pos M with h | h
      · omega
      · have := HMD.out.2 (M - 1) (by omega)
        have h5 := Nat.le_mul_of_pos_right (M - 1) (show 0 < z by omega)
        omega
    go_loopw [12, 13] (fun gt x wr => ∃ (k r : Nat) (f : Nat → Option UInt8), k ≤ ord.length + M ∧ x = .int .i64 k ∧ gt = .string ⟨(s.data.toList.take r).toArray⟩ ∧ Hid (Agree f s.data.toList) ∧ r ≤ s.size ∧ Hid (r = 200 ∨ (f r).isSome = false) ∧
      Hid (∀ j, j < (k - ord.length) * z → j < s.size → (f j).isSome = true) ∧
      Sep w.heap.size wr [Ent.mux 56 g [Str.new, ⟨f, r⟩, ⟨putF (fun _ => none) 0 t.data.toList, 0⟩, Str.new]] ∧ Below w.heap.size w wr) (fun _ x _ => ord.length + M - (intOf x).toNat)
    case atStart =>
      exact ⟨0, 0, fun _ => none, Nat.zero_le _, rfl, rfl, agree_none _, Nat.zero_le _, .inr rfl, fun j hj => by simp at hj, HS4.out, HB4.out⟩
    case round =>
      obtain ⟨k, r, f, hk, rfl, rfl, hag, hr, hstop, hall, hs, hb⟩ := hrel
      have HS := Lib.hid hs; clear hs
      have HB := Lib.hid hb; clear hb
      by_cases hlt : k < ord.length + M
      · by_cases hko : k < ord.length
        · obtain ⟨x, hx⟩ : ∃ x, ord[k]? = some x := ⟨_, List.getElem?_eq_getElem hko⟩
          obtain ⟨bo, oo, rfl, hbo, co⟩ := (HA.out.below HB.out) k x hx
          have hox := HO.out x (List.mem_iff_getElem?.2 ⟨k, hx⟩)
          have Hx := Lib.hid hx; clear hx
          by_cases hin : 0 ≤ x ∧ x ≤ (M : Int) - 1
          · obtain ⟨hx0, hx1⟩ := hin
            obtain ⟨c, rfl⟩ := Int.eq_ofNat_of_zero_le hx0
            have hcM : c < M := by omega
            have hpz := HMD.out.2 c hcM
            obtain ⟨p, hp⟩ : ∃ p, p = c * z := ⟨_, rfl⟩
            have hpc : (c : Int) * (z : Int) = (p : Int) := by rw [hp]; rfl
            rw [← hp] at hpz
            have HP := Lib.hid hp; clear hp
            by_cases hend : s.size < p + z
            · have he1 : decide (s.size < p + z) = true := decide_eq_true (by omega)
              have he2 : decide ((s.size : Int) < (p : Int) + (z : Int)) = true := decide_eq_true (by omega)
              obtain ⟨q, hq⟩ : ∃ q, q = s.size := ⟨_, rfl⟩
              have hpq : p ≤ q ∧ q ≤ s.size := by omega
              obtain ⟨d, hd⟩ : ∃ d, d = s.extract p (s.size) := ⟨_, rfl⟩
              have hlist := extract_list s p q
              have hsize := extract_sz s p q hpq.2
              have hds : p + d.size ≤ 200 := by rw [hd, ← hq]; omega
              rw [hq, ← hd, ← hq] at hlist
              have HD := Lib.hid hd; clear hd
              have HQ := Lib.hid hq; clear hq
              have HLS := Lib.hid hlist; clear hlist hsize
              go_wp2_with (go_at_call 14; refine (in4_yes _ _ _ _ (by omega) (by omega)).mono ?_; rintro e w' ⟨rfl, rfl⟩)
              refine (frameOf_any _ _ _ _).mono ?_
              rintro e w3 ⟨rfl, hb3⟩
              rw [← HD.out]
              have HS3 := Lib.hid (HS.out.kept hb3)
              have HB3 := Lib.hid (HB.out.trans (hb3.mono HB.out.size)); clear hb3
              go_wp2_with fail
              refine (muxPut_ok _ g _ [] 1 p r d f _ (by decide) (by omega) rfl (by rw [HLS.out]; exact agree_noClash hag.out p (q - p)) HS3.out HB3.out.size).mono ?_
              rintro e w4 ⟨rfl, hsep, hb4⟩
              rw [HLS.out] at hsep
              obtain ⟨f2, hf2⟩ : ∃ f2, f2 = putF f p ((s.data.toList.drop p).take (q - p)) := ⟨_, rfl⟩
              have hag2 := agree_put hag.out p (q - p)
              rw [← hf2] at hsep hag2
              have HS4 : Hid (Sep w.heap.size w4 [Ent.mux 56 g [Str.new, ⟨f2, r⟩, ⟨putF (fun _ => none) 0 t.data.toList, 0⟩, Str.new]]) := hsep
              have HB4 := Lib.hid (HB3.out.trans hb4); clear hb4 hsep
              have HF2 := Lib.hid hf2; clear hf2
              have hr200 : r ≤ 200 := by omega
              have htx := agree_text hag2 hr200
              have hnx := agree_next hag2 (by simpa using hr) hr200
              have hst := runTo_end f2 (200 - r) r
              have hge := runTo_ge f2 (200 - r) r
              obtain ⟨x1, hx1⟩ : ∃ x1, x1 = Str.text ⟨f2, r⟩ := ⟨_, rfl⟩
              obtain ⟨r2, hr2⟩ : ∃ r2, r2 = Str.next ⟨f2, r⟩ := ⟨_, rfl⟩
              have hxl : x1.length ≤ 200 := by rw [hx1, text_len]; show runTo f2 (200 - r) r - r ≤ 200; omega
              rw [← hx1, ← hr2] at htx
              rw [← hr2] at hnx
              have hst2 : r2 = 200 ∨ (f2 r2).isSome = false := by
                rw [hr2]
                show runTo f2 (200 - r) r = 200 ∨ _
                rcases hst with h | h
                · left; omega
                · right; exact h
              have hnx2 : r2 ≤ s.size := by simpa using hnx
              clear hst hge hnx
              have HX1 := Lib.hid hx1; clear hx1
              have HR2 := Lib.hid hr2; clear hr2
              have HST := Lib.hid hst2; clear hst2
              have HAG := Lib.hid hag2; clear hag2
              have hcat := take_cat _ _ _ _ htx
              clear htx
              have hlen := take_size s r2 hnx2
              have hext := take_ext s r2
              have hng1 : decide (s.size < r2) = false := decide_eq_false (by omega)
              have hng2 : decide ((s.size : Int) < (r2 : Int)) = false := decide_eq_false (by omega)
              obtain ⟨T2, hT2⟩ : ∃ T2, T2 = (⟨(s.data.toList.take r2).toArray⟩ : ByteArray) := ⟨_, rfl⟩
              rw [← hT2] at hcat hlen hext
              have HT2 := Lib.hid hT2; clear hT2
              go_wp2_with fail
              refine (muxRead_ok _ g _ [] 1 ⟨f2, r⟩ _ (by decide) rfl hr200 HS4.out HB4.out.size).mono ?_
              rintro e w5 ⟨rfl, hsep, hb5⟩
              rw [← HX1.out]
              have HS5 : Hid (Sep w.heap.size w5 [Ent.mux 56 g [Str.new, ⟨f2, r2⟩, ⟨putF (fun _ => none) 0 t.data.toList, 0⟩, Str.new]]) := by
                rw [HR2.out]; exact hsep
              have HB5 := Lib.hid (HB4.out.trans hb5); clear hb5 hsep
              go_wp2
              go_roundw
              case rel =>
                refine ⟨k + 1, r2, f2, by omega, by go_num, ?_, HAG, hnx2, HST, fun j hj hjs => ?_, HS5.out, HB5.out⟩
                · first | rw [hcat, HT2.out] | rw [HT2.out]
                · rw [HF2.out]
                  exact absurd hj (by rw [show k + 1 - ord.length = 0 by omega]; simp)
              case measure => simp [intOf]; omega
            · have he1 : decide (s.size < p + z) = false := decide_eq_false (by omega)
              have he2 : decide ((s.size : Int) < (p : Int) + (z : Int)) = false := decide_eq_false (by omega)
              obtain ⟨q, hq⟩ : ∃ q, q = p + z := ⟨_, rfl⟩
              have hpq : p ≤ q ∧ q ≤ s.size := by omega
              obtain ⟨d, hd⟩ : ∃ d, d = s.extract p (p + z) := ⟨_, rfl⟩
              have hlist := extract_list s p q
              have hsize := extract_sz s p q hpq.2
              have hds : p + d.size ≤ 200 := by rw [hd, ← hq]; omega
              rw [hq, ← hd, ← hq] at hlist
              have HD := Lib.hid hd; clear hd
              have HQ := Lib.hid hq; clear hq
              have HLS := Lib.hid hlist; clear hlist hsize
              go_wp2_with (go_at_call 14; refine (in4_yes _ _ _ _ (by omega) (by omega)).mono ?_; rintro e w' ⟨rfl, rfl⟩)
              refine (frameOf_any _ _ _ _).mono ?_
              rintro e w3 ⟨rfl, hb3⟩
              rw [← HD.out]
              have HS3 := Lib.hid (HS.out.kept hb3)
              have HB3 := Lib.hid (HB.out.trans (hb3.mono HB.out.size)); clear hb3
              go_wp2_with fail
              refine (muxPut_ok _ g _ [] 1 p r d f _ (by decide) (by omega) rfl (by rw [HLS.out]; exact agree_noClash hag.out p (q - p)) HS3.out HB3.out.size).mono ?_
              rintro e w4 ⟨rfl, hsep, hb4⟩
              rw [HLS.out] at hsep
              obtain ⟨f2, hf2⟩ : ∃ f2, f2 = putF f p ((s.data.toList.drop p).take (q - p)) := ⟨_, rfl⟩
              have hag2 := agree_put hag.out p (q - p)
              rw [← hf2] at hsep hag2
              have HS4 : Hid (Sep w.heap.size w4 [Ent.mux 56 g [Str.new, ⟨f2, r⟩, ⟨putF (fun _ => none) 0 t.data.toList, 0⟩, Str.new]]) := hsep
              have HB4 := Lib.hid (HB3.out.trans hb4); clear hb4 hsep
              have HF2 := Lib.hid hf2; clear hf2
              have hr200 : r ≤ 200 := by omega
              have htx := agree_text hag2 hr200
              have hnx := agree_next hag2 (by simpa using hr) hr200
              have hst := runTo_end f2 (200 - r) r
              have hge := runTo_ge f2 (200 - r) r
              obtain ⟨x1, hx1⟩ : ∃ x1, x1 = Str.text ⟨f2, r⟩ := ⟨_, rfl⟩
              obtain ⟨r2, hr2⟩ : ∃ r2, r2 = Str.next ⟨f2, r⟩ := ⟨_, rfl⟩
              have hxl : x1.length ≤ 200 := by rw [hx1, text_len]; show runTo f2 (200 - r) r - r ≤ 200; omega
              rw [← hx1, ← hr2] at htx
              rw [← hr2] at hnx
              have hst2 : r2 = 200 ∨ (f2 r2).isSome = false := by
                rw [hr2]
                show runTo f2 (200 - r) r = 200 ∨ _
                rcases hst with h | h
                · left; omega
                · right; exact h
              have hnx2 : r2 ≤ s.size := by simpa using hnx
              clear hst hge hnx
              have HX1 := Lib.hid hx1; clear hx1
              have HR2 := Lib.hid hr2; clear hr2
              have HST := Lib.hid hst2; clear hst2
              have HAG := Lib.hid hag2; clear hag2
              have hcat := take_cat _ _ _ _ htx
              clear htx
              have hlen := take_size s r2 hnx2
              have hext := take_ext s r2
              have hng1 : decide (s.size < r2) = false := decide_eq_false (by omega)
              have hng2 : decide ((s.size : Int) < (r2 : Int)) = false := decide_eq_false (by omega)
              obtain ⟨T2, hT2⟩ : ∃ T2, T2 = (⟨(s.data.toList.take r2).toArray⟩ : ByteArray) := ⟨_, rfl⟩
              rw [← hT2] at hcat hlen hext
              have HT2 := Lib.hid hT2; clear hT2
              go_wp2_with fail
              refine (muxRead_ok _ g _ [] 1 ⟨f2, r⟩ _ (by decide) rfl hr200 HS4.out HB4.out.size).mono ?_
              rintro e w5 ⟨rfl, hsep, hb5⟩
              rw [← HX1.out]
              have HS5 : Hid (Sep w.heap.size w5 [Ent.mux 56 g [Str.new, ⟨f2, r2⟩, ⟨putF (fun _ => none) 0 t.data.toList, 0⟩, Str.new]]) := by
                rw [HR2.out]; exact hsep
              have HB5 := Lib.hid (HB4.out.trans hb5); clear hb5 hsep
              go_wp2
              go_roundw
              case rel =>
                refine ⟨k + 1, r2, f2, by omega, by go_num, ?_, HAG, hnx2, HST, fun j hj hjs => ?_, HS5.out, HB5.out⟩
                · first | rw [hcat, HT2.out] | rw [HT2.out]
                · rw [HF2.out]
                  exact absurd hj (by rw [show k + 1 - ord.length = 0 by omega]; simp)
              case measure => simp [intOf]; omega
          · have HI := Lib.hid hin; clear hin
            go_wp2_with (go_at_call 14; refine (in4_no _ _ _ _ HI.out).mono ?_; rintro e w' ⟨rfl, rfl⟩)
            go_roundw
            case rel => exact ⟨k + 1, r, f, by omega, by go_num, rfl, hag, hr, hstop, fun j hj => by rw [show k + 1 - ord.length = 0 by omega] at hj; simp at hj, HS.out, HB.out⟩
            case measure => simp [intOf]; omega
        · have hkk : ord.length ≤ k := by omega
          obtain ⟨c, hc⟩ : ∃ c, c = k - ord.length := ⟨_, rfl⟩
          have hcM : c < M := by omega
          have hkc : (k : Int) - (ord.length : Int) = (c : Int) := by omega
          have hpz := HMD.out.2 c hcM
          obtain ⟨p, hp⟩ : ∃ p, p = c * z := ⟨_, rfl⟩
          have hpc : (c : Int) * (z : Int) = (p : Int) := by rw [hp]; rfl
          rw [← hp] at hpz
          have HP := Lib.hid hp; clear hp
          have HC := Lib.hid hc; clear hc
          by_cases hend : s.size < p + z
          · have he1 : decide (s.size < p + z) = true := decide_eq_true (by omega)
            have he2 : decide ((s.size : Int) < (p : Int) + (z : Int)) = true := decide_eq_true (by omega)
            obtain ⟨q, hq⟩ : ∃ q, q = s.size := ⟨_, rfl⟩
            have hpq : p ≤ q ∧ q ≤ s.size := by omega
            obtain ⟨d, hd⟩ : ∃ d, d = s.extract p (s.size) := ⟨_, rfl⟩
            have hlist := extract_list s p q
            have hsize := extract_sz s p q hpq.2
            have hds : p + d.size ≤ 200 := by rw [hd, ← hq]; omega
            rw [hq, ← hd, ← hq] at hlist
            have HD := Lib.hid hd; clear hd
            have HQ := Lib.hid hq; clear hq
            have HLS := Lib.hid hlist; clear hlist hsize
            go_wp2_with (go_at_call 14; refine (in4_yes _ _ _ _ (by omega) (by omega)).mono ?_; rintro e w' ⟨rfl, rfl⟩)
            refine (frameOf_any _ _ _ _).mono ?_
            rintro e w3 ⟨rfl, hb3⟩
            rw [← HD.out]
            have HS3 := Lib.hid (HS.out.kept hb3)
            have HB3 := Lib.hid (HB.out.trans (hb3.mono HB.out.size)); clear hb3
            go_wp2_with fail
            refine (muxPut_ok _ g _ [] 1 p r d f _ (by decide) (by omega) rfl (by rw [HLS.out]; exact agree_noClash hag.out p (q - p)) HS3.out HB3.out.size).mono ?_
            rintro e w4 ⟨rfl, hsep, hb4⟩
            rw [HLS.out] at hsep
            obtain ⟨f2, hf2⟩ : ∃ f2, f2 = putF f p ((s.data.toList.drop p).take (q - p)) := ⟨_, rfl⟩
            have hag2 := agree_put hag.out p (q - p)
            rw [← hf2] at hsep hag2
            have HS4 : Hid (Sep w.heap.size w4 [Ent.mux 56 g [Str.new, ⟨f2, r⟩, ⟨putF (fun _ => none) 0 t.data.toList, 0⟩, Str.new]]) := hsep
            have HB4 := Lib.hid (HB3.out.trans hb4); clear hb4 hsep
            have HF2 := Lib.hid hf2; clear hf2
            have hr200 : r ≤ 200 := by omega
            have htx := agree_text hag2 hr200
            have hnx := agree_next hag2 (by simpa using hr) hr200
            have hst := runTo_end f2 (200 - r) r
            have hge := runTo_ge f2 (200 - r) r
            obtain ⟨x1, hx1⟩ : ∃ x1, x1 = Str.text ⟨f2, r⟩ := ⟨_, rfl⟩
            obtain ⟨r2, hr2⟩ : ∃ r2, r2 = Str.next ⟨f2, r⟩ := ⟨_, rfl⟩
            have hxl : x1.length ≤ 200 := by rw [hx1, text_len]; show runTo f2 (200 - r) r - r ≤ 200; omega
            rw [← hx1, ← hr2] at htx
            rw [← hr2] at hnx
            have hst2 : r2 = 200 ∨ (f2 r2).isSome = false := by
              rw [hr2]
              show runTo f2 (200 - r) r = 200 ∨ _
              rcases hst with h | h
              · left; omega
              · right; exact h
            have hnx2 : r2 ≤ s.size := by simpa using hnx
            clear hst hge hnx
            have HX1 := Lib.hid hx1; clear hx1
            have HR2 := Lib.hid hr2; clear hr2
            have HST := Lib.hid hst2; clear hst2
            have HAG := Lib.hid hag2; clear hag2
            have hcat := take_cat _ _ _ _ htx
            clear htx
            have hlen := take_size s r2 hnx2
            have hext := take_ext s r2
            have hng1 : decide (s.size < r2) = false := decide_eq_false (by omega)
            have hng2 : decide ((s.size : Int) < (r2 : Int)) = false := decide_eq_false (by omega)
            obtain ⟨T2, hT2⟩ : ∃ T2, T2 = (⟨(s.data.toList.take r2).toArray⟩ : ByteArray) := ⟨_, rfl⟩
            rw [← hT2] at hcat hlen hext
            have HT2 := Lib.hid hT2; clear hT2
            go_wp2_with fail
            refine (muxRead_ok _ g _ [] 1 ⟨f2, r⟩ _ (by decide) rfl hr200 HS4.out HB4.out.size).mono ?_
            rintro e w5 ⟨rfl, hsep, hb5⟩
            rw [← HX1.out]
            have HS5 : Hid (Sep w.heap.size w5 [Ent.mux 56 g [Str.new, ⟨f2, r2⟩, ⟨putF (fun _ => none) 0 t.data.toList, 0⟩, Str.new]]) := by
              rw [HR2.out]; exact hsep
            have HB5 := Lib.hid (HB4.out.trans hb5); clear hb5 hsep
            go_wp2
            go_roundw
            case rel =>
              refine ⟨k + 1, r2, f2, by omega, by go_num, ?_, HAG, hnx2, HST, fun j hj hjs => ?_, HS5.out, HB5.out⟩
              · first | rw [hcat, HT2.out] | rw [HT2.out]
              · rw [HF2.out]
                exact cov_last hkk HC.out HP.out (.inl HQ.out) hall.out hj hjs
            case measure => simp [intOf]; omega
          · have he1 : decide (s.size < p + z) = false := decide_eq_false (by omega)
            have he2 : decide ((s.size : Int) < (p : Int) + (z : Int)) = false := decide_eq_false (by omega)
            obtain ⟨q, hq⟩ : ∃ q, q = p + z := ⟨_, rfl⟩
            have hpq : p ≤ q ∧ q ≤ s.size := by omega
            obtain ⟨d, hd⟩ : ∃ d, d = s.extract p (p + z) := ⟨_, rfl⟩
            have hlist := extract_list s p q
            have hsize := extract_sz s p q hpq.2
            have hds : p + d.size ≤ 200 := by rw [hd, ← hq]; omega
            rw [hq, ← hd, ← hq] at hlist
            have HD := Lib.hid hd; clear hd
            have HQ := Lib.hid hq; clear hq
            have HLS := Lib.hid hlist; clear hlist hsize
            go_wp2_with (go_at_call 14; refine (in4_yes _ _ _ _ (by omega) (by omega)).mono ?_; rintro e w' ⟨rfl, rfl⟩)
            refine (frameOf_any _ _ _ _).mono ?_
            rintro e w3 ⟨rfl, hb3⟩
            rw [← HD.out]
            have HS3 := Lib.hid (HS.out.kept hb3)
            have HB3 := Lib.hid (HB.out.trans (hb3.mono HB.out.size)); clear hb3
            go_wp2_with fail
            refine (muxPut_ok _ g _ [] 1 p r d f _ (by decide) (by omega) rfl (by rw [HLS.out]; exact agree_noClash hag.out p (q - p)) HS3.out HB3.out.size).mono ?_
            rintro e w4 ⟨rfl, hsep, hb4⟩
            rw [HLS.out] at hsep
            obtain ⟨f2, hf2⟩ : ∃ f2, f2 = putF f p ((s.data.toList.drop p).take (q - p)) := ⟨_, rfl⟩
            have hag2 := agree_put hag.out p (q - p)
            rw [← hf2] at hsep hag2
            have HS4 : Hid (Sep w.heap.size w4 [Ent.mux 56 g [Str.new, ⟨f2, r⟩, ⟨putF (fun _ => none) 0 t.data.toList, 0⟩, Str.new]]) := hsep
            have HB4 := Lib.hid (HB3.out.trans hb4); clear hb4 hsep
            have HF2 := Lib.hid hf2; clear hf2
            have hr200 : r ≤ 200 := by omega
            have htx := agree_text hag2 hr200
            have hnx := agree_next hag2 (by simpa using hr) hr200
            have hst := runTo_end f2 (200 - r) r
            have hge := runTo_ge f2 (200 - r) r
            obtain ⟨x1, hx1⟩ : ∃ x1, x1 = Str.text ⟨f2, r⟩ := ⟨_, rfl⟩
            obtain ⟨r2, hr2⟩ : ∃ r2, r2 = Str.next ⟨f2, r⟩ := ⟨_, rfl⟩
            have hxl : x1.length ≤ 200 := by rw [hx1, text_len]; show runTo f2 (200 - r) r - r ≤ 200; omega
            rw [← hx1, ← hr2] at htx
            rw [← hr2] at hnx
            have hst2 : r2 = 200 ∨ (f2 r2).isSome = false := by
              rw [hr2]
              show runTo f2 (200 - r) r = 200 ∨ _
              rcases hst with h | h
              · left; omega
              · right; exact h
            have hnx2 : r2 ≤ s.size := by simpa using hnx
            clear hst hge hnx
            have HX1 := Lib.hid hx1; clear hx1
            have HR2 := Lib.hid hr2; clear hr2
            have HST := Lib.hid hst2; clear hst2
            have HAG := Lib.hid hag2; clear hag2
            have hcat := take_cat _ _ _ _ htx
            clear htx
            have hlen := take_size s r2 hnx2
            have hext := take_ext s r2
            have hng1 : decide (s.size < r2) = false := decide_eq_false (by omega)
            have hng2 : decide ((s.size : Int) < (r2 : Int)) = false := decide_eq_false (by omega)
            obtain ⟨T2, hT2⟩ : ∃ T2, T2 = (⟨(s.data.toList.take r2).toArray⟩ : ByteArray) := ⟨_, rfl⟩
            rw [← hT2] at hcat hlen hext
            have HT2 := Lib.hid hT2; clear hT2
            go_wp2_with fail
            refine (muxRead_ok _ g _ [] 1 ⟨f2, r⟩ _ (by decide) rfl hr200 HS4.out HB4.out.size).mono ?_
            rintro e w5 ⟨rfl, hsep, hb5⟩
            rw [← HX1.out]
            have HS5 : Hid (Sep w.heap.size w5 [Ent.mux 56 g [Str.new, ⟨f2, r2⟩, ⟨putF (fun _ => none) 0 t.data.toList, 0⟩, Str.new]]) := by
              rw [HR2.out]; exact hsep
            have HB5 := Lib.hid (HB4.out.trans hb5); clear hb5 hsep
            go_wp2
            go_roundw
            case rel =>
              refine ⟨k + 1, r2, f2, by omega, by go_num, ?_, HAG, hnx2, HST, fun j hj hjs => ?_, HS5.out, HB5.out⟩
              · first | rw [hcat, HT2.out] | rw [HT2.out]
              · rw [HF2.out]
                exact cov_last hkk HC.out HP.out (.inr HQ.out) hall.out hj hjs
            case measure => simp [intOf]; omega
      · have hkL : k = ord.length + M := by omega
        have hw := agree_whole hag.out (by simpa using hr) (by simpa using hs2) hstop.out (fun j hj => hall.out j (by rw [hkL, show ord.length + M - ord.length = M by omega]; have := HMD.out.1; have h2 : s.data.toList.length = s.size := Array.length_toList; omega) (by simpa using hj))
        have hgot : (⟨(s.data.toList.take r).toArray⟩ : ByteArray) = s := by rw [hw.1, List.take_length]
        have HW := Lib.hid hw.2; clear hw
        rw [hgot]
        clear hgot
        have htl : t.data.toList.length = t.size := Array.length_toList
        have ht0 := text_put t.data.toList (by omega)
        have ht1 : Str.next ⟨putF (fun _ => none) 0 t.data.toList, 0⟩ = t.data.toList.length := by
          have := text_len ⟨putF (fun _ => none) 0 t.data.toList, 0⟩
          rw [ht0] at this
          exact this.symm
        have ht3 := waits_read t.data.toList (by omega)
        have HT0 := Lib.hid ht0; clear ht0
        have HT1 := Lib.hid ht1; clear ht1
        have HT3 := Lib.hid ht3; clear ht3
        go_wp2_with fail
        refine (muxRead_ok _ g _ [] 2 ⟨putF (fun _ => none) 0 t.data.toList, 0⟩ _ (by decide) rfl (Nat.zero_le _) HS.out HB.out.size).mono ?_
        rintro e w5 ⟨rfl, hsep, hb5⟩
        have htse : (⟨t.data.toList.toArray⟩ : ByteArray) = t := by simp
        rw [HT0.out, htse]
        clear htse
        have HS5 : Hid (Sep w.heap.size w5 [Ent.mux 56 g [Str.new, ⟨f, r⟩, ⟨putF (fun _ => none) 0 t.data.toList, t.data.toList.length⟩, Str.new]]) := by
          rw [← HT1.out]; exact hsep
        have HB5 := Lib.hid (HB.out.trans hb5); clear hb5 hsep
        go_wp2_with fail
        refine (muxWaits_ok _ g _ [] 1 ⟨f, r⟩ _ (by decide) rfl (by show r ≤ 200; omega) HS5.out).mono ?_
        rintro e w6 ⟨rfl, hd⟩
        rw [HW.out]
        have hb6 := below_of_drew hd; clear hd
        have HS6 := Lib.hid (HS5.out.kept hb6)
        have HB6 := Lib.hid (HB5.out.trans (hb6.mono HB5.out.size)); clear hb6
        go_wp2_with fail
        refine (muxWaits_ok _ g _ [] 2 ⟨putF (fun _ => none) 0 t.data.toList, t.data.toList.length⟩ _ (by decide) rfl (by show t.data.toList.length ≤ 200; omega) HS6.out).mono ?_
        rintro e w7 ⟨rfl, hd⟩
        rw [HT3.out]
        have hb7 := below_of_drew hd; clear hd
        have HB7 := Lib.hid (HB6.out.trans (hb7.mono HB6.out.size)); clear hb7
        go_wp2
        go_ret
        exact ⟨ret_bool (by simp), HB7.out⟩
  · by_cases h1 : s.size ≤ 200
    · have hd1 : decide ((200 : Int) < (s.size : Int)) = false := decide_eq_false (by omega)
      by_cases h2 : t.size ≤ 200
      · have hd2 : decide ((200 : Int) < (t.size : Int)) = false := decide_eq_false (by omega)
        have HZ : Hid (¬ (1 ≤ z ∧ z ≤ 200)) := fun h => hbig ⟨h1, h2, h.1, h.2⟩
        clear hbig
        go_enter Try.func4, Try.ntmps4
        go_wp2_with fail
        refine (muxFact_any _).mono ?_
        rintro e w1 ⟨rfl, hb⟩
        have HB1 := Lib.hid hb; clear hb
        go_wp2_with fail
        refine (in4_no _ _ _ _ HZ.out).mono ?_
        rintro e w' ⟨rfl, rfl⟩
        go_wp2
        go_ret
        exact ⟨rfl, HB1.out⟩
      · have hd2 : decide ((200 : Int) < (t.size : Int)) = true := decide_eq_true (by omega)
        clear hbig
        go_enter Try.func4, Try.ntmps4
        go_wp2_with fail
        refine (muxFact_any _).mono ?_
        rintro e w1 ⟨rfl, hb⟩
        have HB1 := Lib.hid hb; clear hb
        go_wp2
        go_ret
        exact ⟨rfl, HB1.out⟩
    · have hd1 : decide ((200 : Int) < (s.size : Int)) = true := decide_eq_true (by omega)
      clear hbig
      go_enter Try.func4, Try.ntmps4
      go_wp2_with fail
      refine (muxFact_any _).mono ?_
      rintro e w1 ⟨rfl, hb⟩
      have HB1 := Lib.hid hb; clear hb
      go_wp2
      go_ret
      exact ⟨rfl, HB1.out⟩
end Go.Proofs.Ythnlpmjfibidcaa
