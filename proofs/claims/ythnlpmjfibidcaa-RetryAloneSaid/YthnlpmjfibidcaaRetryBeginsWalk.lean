/- RetryBegins returns true: more picks change nothing of what was. -/
import Derived.Test.YthnlpmjfibidcaaRows
import Derived.Test.YthnlpmjfibidcaaRetryFact
import Derived.Test.YthnlpmjfibidcaaIn4
namespace Go.Proofs.Ythnlpmjfibidcaa
open Go.RowKit

theorem pickAll_more : ∀ (now ps ex : List Int) (st : Sts), now.length ≤ ps.length → pickAll now (ps ++ ex) st = pickAll now ps st
  | [], ps, ex, st, _ => by cases ps <;> cases ex <;> rfl
  | i :: now, [], ex, st, h => by simp at h
  | i :: now, p :: ps, ex, st, h => by
    rw [List.cons_append, pickAll, pickAll, pickAll_more now ps ex _ (by simpa using h)]

theorem retryGo_adds (n : Int) : ∀ (f : Nat) (st : Sts) (ps : List Int) (s : Int) (who slots : List Int), ∃ x y, retryGo n f st ps s who slots = (who ++ x, slots ++ y)
  | 0, st, ps, s, who, slots => ⟨[], [], by simp [retryGo]⟩
  | f + 1, st, ps, s, who, slots => by
    by_cases h : (who.length : Int) < n
    · by_cases h1 : (nowFrom 0 st).length = 1
      · obtain ⟨i, hi⟩ := List.length_eq_one_iff.1 h1
        rw [retryGo_one rfl h hi]
        obtain ⟨x, y, e⟩ := retryGo_adds n f _ ps (s + 1) (who ++ [i]) (slots ++ [s])
        exact ⟨i :: x, s :: y, by rw [e]; simp⟩
      · by_cases h2 : ps.length < (nowFrom 0 st).length
        · exact ⟨[], [], by rw [retryGo_few rfl h1 h2]; simp⟩
        · rw [retryGo_many rfl h h1 h2]
          exact retryGo_adds n f _ _ _ _ _
    · exact ⟨[], [], by rw [retryGo_stop h]; simp⟩

theorem retryGo_more (n : Int) : ∀ (f : Nat) (st : Sts) (ps ex : List Int) (s : Int) (who slots : List Int),
    ∃ x y, retryGo n f st (ps ++ ex) s who slots = ((retryGo n f st ps s who slots).1 ++ x, (retryGo n f st ps s who slots).2 ++ y)
  | 0, st, ps, ex, s, who, slots => ⟨[], [], by simp [retryGo]⟩
  | f + 1, st, ps, ex, s, who, slots => by
    by_cases h : (who.length : Int) < n
    · by_cases h1 : (nowFrom 0 st).length = 1
      · obtain ⟨i, hi⟩ := List.length_eq_one_iff.1 h1
        rw [retryGo_one rfl h hi, retryGo_one rfl h hi]
        exact retryGo_more n f _ _ _ _ _ _
      · by_cases h2 : ps.length < (nowFrom 0 st).length
        · rw [retryGo_few rfl h1 h2]
          exact retryGo_adds n _ _ _ _ _ _
        · rw [retryGo_many rfl h h1 h2, retryGo_many rfl h h1 (by simp; omega), pickAll_more _ _ _ _ (by omega), List.drop_append_of_le_length (by omega)]
          exact retryGo_more n f _ _ _ _ _ _
    · rw [retryGo_stop h, retryGo_stop h]; exact ⟨[], [], by simp⟩

theorem retryRun_more (n : Int) (ps : List Int) (k : Nat) : ∃ x y, retryRun n ps = ((retryRun n (ps.take k)).1 ++ x, (retryRun n (ps.take k)).2 ++ y) := by
  have := retryGo_more n 1001 (List.replicate n.toNat (0, 0)) (ps.take k) (ps.drop k) 0 [] []
  rw [List.take_append_drop] at this
  exact this

theorem retryGo_len (n : Int) : ∀ (f : Nat) (st : Sts) (ps : List Int) (s : Int) (who slots : List Int),
    (retryGo n f st ps s who slots).1.length ≤ who.length + f ∧ (retryGo n f st ps s who slots).2.length ≤ slots.length + f
  | 0, st, ps, s, who, slots => by simp [retryGo]
  | f + 1, st, ps, s, who, slots => by
    by_cases h : (who.length : Int) < n
    · by_cases h1 : (nowFrom 0 st).length = 1
      · obtain ⟨i, hi⟩ := List.length_eq_one_iff.1 h1
        rw [retryGo_one rfl h hi]
        have := retryGo_len n f ((st.map tick1).set i.toNat (metOf st i, -1)) ps (s + 1) (who ++ [i]) (slots ++ [s])
        simp only [List.length_append, List.length_singleton] at this
        omega
      · by_cases h2 : ps.length < (nowFrom 0 st).length
        · rw [retryGo_few rfl h1 h2]; simp only; omega
        · rw [retryGo_many rfl h h1 h2]
          have := retryGo_len n f (pickAll (nowFrom 0 st) ps (st.map tick1)) (ps.drop (nowFrom 0 st).length) (s + 1) who slots
          omega
    · rw [retryGo_stop h]; simp only; omega

theorem retry_cases (n : Int) (ps : List Int) : ((1 ≤ n ∧ n ≤ 5) ∧ ps.length ≤ 200 ∧ ∀ y ∈ ps, 0 ≤ y ∧ y ≤ 1000) ∨ ∃ c, RetryBad n ps c := by
  by_cases h1 : 1 ≤ n ∧ n ≤ 5
  · by_cases h2 : ps.length ≤ 200
    · by_cases h3 : ∀ y ∈ ps, 0 ≤ y ∧ y ≤ 1000
      · exact .inl ⟨h1, h2, h3⟩
      · exact .inr ⟨1, .inr (.inr ⟨h1.1, h1.2, h2, h3, rfl⟩)⟩
    · exact .inr ⟨4, .inr (.inl ⟨h1.1, h1.2, by omega, rfl⟩)⟩
  · exact .inr ⟨1, .inl ⟨h1, rfl⟩⟩

set_option maxHeartbeats 400000 in
set_option maxRecDepth 100000 in
theorem retryBegins_walk (n : Int) (ao : Option Addr) (ac : Nat) (ps : List Int) (k : Int) (w : World) (_ : -9223372036854775808 ≤ n ∧ n ≤ 9223372036854775807)
    (hA : IntSl w.heap.size w ao ps) (hac : ps.length ≤ ac) (hmax : ac ≤ maxLen) (_ : ∀ x ∈ ps, -9223372036854775808 ≤ x ∧ x ≤ 9223372036854775807) (_ : -9223372036854775808 ≤ k ∧ k ≤ 9223372036854775807) :
    Calls Try.prog 8 #[.int .i64 n, .slice ao ps.length ac, .int .i64 k] w fun e w' => e = .returned (.bool true) ∧ Below w.heap.size w w' := by
  unfold maxLen at hmax
  have HA := Lib.hid hA; clear hA
  by_cases hk : 0 ≤ k ∧ k ≤ (ps.length : Int)
  · obtain ⟨hk0, hk1⟩ := hk
    obtain ⟨k, rfl⟩ := Int.eq_ofNat_of_zero_le hk0
    have hkn : k ≤ ac := by omega
    rcases retry_cases n ps with ⟨⟨hn1, hn5⟩, hl, hr⟩ | ⟨c, hbad⟩
    · have HR := Lib.hid hr; clear hr
      obtain ⟨x, y, hxy⟩ := retryRun_more n ps k
      obtain ⟨C, hC⟩ : ∃ C, C = (retryRun n (ps.take k)).1 := ⟨_, rfl⟩
      obtain ⟨D, hD⟩ : ∃ D, D = (retryRun n (ps.take k)).2 := ⟨_, rfl⟩
      rw [← hC, ← hD] at hxy
      have hlC : C.length ≤ 1001 := by have := (retryGo_len n 1001 (List.replicate n.toNat (0, 0)) (ps.take k) 0 [] []).1; rw [hC]; simpa [retryRun] using this
      have hlD : D.length ≤ 1001 := by have := (retryGo_len n 1001 (List.replicate n.toNat (0, 0)) (ps.take k) 0 [] []).2; rw [hD]; simpa [retryRun] using this
      have HXY := Lib.hid hxy; clear hxy
      have HC := Lib.hid hC; clear hC
      have HD := Lib.hid hD; clear hD
      go_enter Try.func8, Try.ntmps8
      go_wp2_with fail
      refine (retryFact_any _).mono ?_
      rintro e w1 ⟨rfl, hb⟩
      have HB := Lib.hid hb; clear hb
      have HA1 := Lib.hid (HA.out.below HB.out)
      go_wp2_with fail
      refine (in4_yes _ _ _ _ (by omega) (by omega)).mono ?_
      rintro e w' ⟨rfl, rfl⟩
      go_wp2_with fail
      refine (retryRun_ok n _ _ _ _ ps _ hn1 hn5 rfl hl hac HR.out HA1.out HB.out.size).mono ?_
      rintro e w2 ⟨va, vb, rfl, hb1, hs1⟩
      rw [HXY.out] at hs1
      obtain ⟨ao1, c1, rfl, hc1, _⟩ := hs1.intsShape (A := []) (C := [_])
      obtain ⟨ao2, c2, rfl, hc2, _⟩ := hs1.intsShape (A := [_]) (C := [])
      have HX := Lib.hid (hs1.intSl (A := []) (C := [_]))
      have HY := Lib.hid (hs1.intSl (A := [_]) (C := []))
      have HB1 := Lib.hid (HB.out.trans (hb1.mono HB.out.size))
      clear hb1 hs1
      have HA2 := Lib.hid (HA.out.below HB1.out)
      have hCx : (C ++ x).length = C.length + x.length := List.length_append
      have hDy : (D ++ y).length = D.length + y.length := List.length_append
      have hc1' : C.length + x.length ≤ c1 := hCx ▸ hc1
      have hc2' : D.length + y.length ≤ c2 := hDy ▸ hc2
      go_wp2_with (with_reducible refine wpList_slice_to rfl (.tmp 35) (.tmp 36) rfl elemInt _ _ _ rfl k .i64 rfl hkn ?_)
      refine (retryRun_ok n _ k ac _ (ps.take k) _ hn1 hn5 (by simp; omega) (by simp; omega) (by simp; omega) (fun y hy => HR.out y (List.mem_of_mem_take hy)) HA2.out.take HB1.out.size).mono ?_
      rintro e w3 ⟨vc, vd, rfl, hb3, hs3⟩
      rw [← HC.out, ← HD.out] at hs3
      obtain ⟨ao3, c3, rfl, _, _⟩ := hs3.intsShape (A := []) (C := [_])
      obtain ⟨ao4, c4, rfl, _, _⟩ := hs3.intsShape (A := [_]) (C := [])
      have HX3 := Lib.hid (hs3.intSl (A := []) (C := [_]))
      have HY3 := Lib.hid (hs3.intSl (A := [_]) (C := []))
      have HB3 := Lib.hid (HB1.out.trans (hb3.mono HB1.out.size))
      have hsz := hb3.size
      have HX' := Lib.hid (HX.out.below hb3)
      have HY' := Lib.hid (HY.out.below hb3)
      clear hb3 hs3
      have hle1 : (C.length : Int) ≤ ((C ++ x).length : Int) := by rw [hCx]; omega
      have hle2 : (D.length : Int) ≤ ((D ++ y).length : Int) := by rw [hDy]; omega
      go_wp2_with (first | (with_reducible refine wpList_slice_to rfl (.tmp 59) (.tmp 61) rfl elemInt _ _ _ rfl C.length .i64 rfl (by omega) ?_))
      refine (ints_any _ _ _ _ _ _ _ _ ((C ++ x).take C.length) C true _ HX'.out.take HX3.out (by simp) rfl (by simp; omega) (by simp)).mono ?_
      rintro e w4 ⟨rfl, hd⟩
      have hb4 := below_of_drew hd; clear hd
      have HY4 := Lib.hid (HY'.out.below (hb4.mono hsz))
      have HZ4 := Lib.hid (HY3.out.below hb4)
      have HB4 := Lib.hid (HB3.out.trans (hb4.mono HB3.out.size)); clear hb4
      go_wp2_with (first | (with_reducible refine wpList_slice_to rfl (.tmp 67) (.tmp 69) rfl elemInt _ _ _ rfl D.length .i64 rfl (by omega) ?_))
      refine (ints_any _ _ _ _ _ _ _ _ ((D ++ y).take D.length) D true _ HY4.out.take HZ4.out (by simp) rfl (by simp; omega) (by simp)).mono ?_
      rintro e w5 ⟨rfl, hd⟩
      have HB5 := Lib.hid ((below_of_drew hd).mono HB4.out.size); clear hd
      go_wp2
      go_ret
      exact ⟨rfl, HB4.out.trans HB5.out⟩
    · have HBAD := Lib.hid hbad; clear hbad
      go_enter Try.func8, Try.ntmps8
      go_wp2_with fail
      refine (retryFact_any _).mono ?_
      rintro e w1 ⟨rfl, hb⟩
      have HB := Lib.hid hb; clear hb
      have HA1 := Lib.hid (HA.out.below HB.out)
      go_wp2_with fail
      refine (in4_yes _ _ _ _ (by omega) (by omega)).mono ?_
      rintro e w' ⟨rfl, rfl⟩
      go_wp2_with fail
      refine (retryRun_err n _ _ _ _ ps c _ rfl (by omega) HA1.out HBAD.out).mono ?_
      rintro e w' ⟨rfl, rfl⟩
      go_wp2
      go_ret
      exact ⟨rfl, HB.out⟩
  · have Hk := Lib.hid hk; clear hk
    go_enter Try.func8, Try.ntmps8
    go_wp2_with fail
    refine (retryFact_any _).mono ?_
    rintro e w1 ⟨rfl, hb⟩
    have HB := Lib.hid hb; clear hb
    go_wp2_with fail
    refine (in4_no _ _ _ _ Hk.out).mono ?_
    rintro e w' ⟨rfl, rfl⟩
    go_wp2
    go_ret
    exact ⟨rfl, HB.out⟩
end Go.Proofs.Ythnlpmjfibidcaa
