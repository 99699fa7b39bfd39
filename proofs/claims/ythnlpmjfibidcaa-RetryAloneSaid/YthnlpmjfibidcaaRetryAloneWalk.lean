/- RetryAlone returns true: who sends is alone. -/
import Derived.Test.YthnlpmjfibidcaaRows
import Derived.Test.YthnlpmjfibidcaaRetryFact
import Derived.Test.YthnlpmjfibidcaaRetryBeginsWalk
import Derived.Test.YthnlpmjfibidcaaHas1
import Derived.Test.YthnlpmjfibidcaaIn4
namespace Go.Proofs.Ythnlpmjfibidcaa
open Go.RowKit

/-- Who has sent is done: his station waits for nothing any more. -/
structure Sent (n : Int) (st : Sts) (s : Int) (who slots : List Int) : Prop where
  len : (st.length : Int) = n
  same : who.length = slots.length
  most : (who.length : Int) ≤ n
  done : ∀ i ∈ who, 0 ≤ i ∧ i < n ∧ ∃ p, st[i.toNat]? = some p ∧ p.2 < 0
  once : who.Nodup
  early : ∀ b ∈ slots, 0 ≤ b ∧ b < s
  later : slots.Pairwise (· < ·)

theorem nowFrom_zero : ∀ (i : Nat) (a : Sts) (x : Int), x ∈ nowFrom i a → ∃ p, a[x.toNat - i]? = some p ∧ p.2 = 0
  | _, [], x, h => by simp [nowFrom] at h
  | i, p :: r, x, h => by
    have hb := nowFrom_bd i (p :: r) x h
    simp only [nowFrom] at h
    split at h
    · rename_i hp
      rcases List.mem_cons.1 h with rfl | h
      · exact ⟨p, by simp, hp⟩
      · have hb2 := nowFrom_bd (i + 1) r x h
        obtain ⟨q, hq, hz⟩ := nowFrom_zero (i + 1) r x h
        exact ⟨q, by rw [show x.toNat - i = (x.toNat - (i + 1)) + 1 by omega]; simpa using hq, hz⟩
    · have hb2 := nowFrom_bd (i + 1) r x h
      obtain ⟨q, hq, hz⟩ := nowFrom_zero (i + 1) r x h
      exact ⟨q, by rw [show x.toNat - i = (x.toNat - (i + 1)) + 1 by omega]; simpa using hq, hz⟩

theorem pickAll_other : ∀ (now ps : List Int) (st : Sts) (k : Nat), (∀ i ∈ now, i.toNat ≠ k) → (pickAll now ps st)[k]? = st[k]?
  | [], ps, st, k, _ => by cases ps <;> rfl
  | i :: now, [], st, k, _ => rfl
  | i :: now, p :: ps, st, k, h => by
    rw [pickAll, pickAll_other now ps _ k (fun j hj => h j (by simp [hj])), List.getElem?_set_ne (h i (by simp))]

theorem Sent.tick {n s : Int} {st : Sts} {who slots : List Int} (h : Sent n st s who slots) : ∀ i ∈ who, ∃ p, (st.map tick1)[i.toNat]? = some p ∧ p.2 < 0 := by
  intro i hi
  obtain ⟨_, _, p, hp, hn⟩ := h.done i hi
  refine ⟨p, by rw [List.getElem?_map, hp]; simp only [Option.map_some]; unfold tick1; rw [if_neg (by omega)], hn⟩

theorem Sent.notNow {n s : Int} {st : Sts} {who slots : List Int} (h : Sent n st s who slots) {i j : Int} (hi : i ∈ who) (hj : j ∈ nowFrom 0 st) : i ≠ j ∧ i.toNat ≠ j.toNat := by
  obtain ⟨h0, _, p, hp, hn⟩ := h.done i hi
  obtain ⟨q, hq, hz⟩ := nowFrom_zero 0 st j hj
  have hb := nowFrom_bd 0 st j hj
  have : i.toNat ≠ j.toNat := by
    intro e
    rw [Nat.sub_zero, ← e, hp] at hq
    simp at hq; subst hq; omega
  exact ⟨fun e => this (by rw [e]), this⟩

theorem sent_go (n : Int) : ∀ (f : Nat) (st : Sts) (ps : List Int) (s : Int) (who slots : List Int), Sent n st s who slots → 0 ≤ s →
    ∃ st' s', s' ≤ s + f ∧ Sent n st' s' (retryGo n f st ps s who slots).1 (retryGo n f st ps s who slots).2
  | 0, st, ps, s, who, slots, h, _ => ⟨st, s, by omega, h⟩
  | f + 1, st, ps, s, who, slots, h, hs => by
    by_cases hw : (who.length : Int) < n
    · by_cases h1 : (nowFrom 0 st).length = 1
      · obtain ⟨i, hi⟩ := List.length_eq_one_iff.1 h1
        have him : i ∈ nowFrom 0 st := by rw [hi]; simp
        have hib := nowFrom_bd 0 st i him
        rw [retryGo_one rfl hw hi]
        have hlen := h.len
        obtain ⟨st', s', h1, h2⟩ := sent_go n f ((st.map tick1).set i.toNat (metOf st i, -1)) ps (s + 1) (who ++ [i]) (slots ++ [s]) (by
          refine ⟨by simpa using h.len, by simp [h.same], by simp; omega, ?_, ?_, ?_, ?_⟩
          · intro j hj
            rcases List.mem_append.1 hj with hj | hj
            · obtain ⟨p, hp, hn⟩ := h.tick j hj
              have hd := h.done j hj
              exact ⟨hd.1, hd.2.1, p, by rw [List.getElem?_set_ne (h.notNow hj him).2.symm]; exact hp, hn⟩
            · simp at hj; subst hj
              exact ⟨by omega, by omega, _, List.getElem?_set_self (by simp; omega), by show (-1 : Int) < 0; decide⟩
          · rw [List.nodup_append]
            exact ⟨h.once, by simp, fun a ha b hb => by simp at hb; subst hb; exact (h.notNow ha him).1⟩
          · intro b hb
            rcases List.mem_append.1 hb with hb | hb
            · have := h.early b hb; omega
            · simp at hb; subst hb; omega
          · rw [List.pairwise_append]
            exact ⟨h.later, by simp, fun a ha b hb => by simp at hb; subst hb; exact (h.early a ha).2⟩) (by omega)
        exact ⟨st', s', by omega, h2⟩
      · by_cases h2 : ps.length < (nowFrom 0 st).length
        · rw [retryGo_few rfl h1 h2]; exact ⟨st, s, by omega, h⟩
        · rw [retryGo_many rfl hw h1 h2]
          obtain ⟨st', s', h1, h2⟩ := sent_go n f (pickAll (nowFrom 0 st) ps (st.map tick1)) (ps.drop (nowFrom 0 st).length) (s + 1) who slots (by
            refine ⟨by rw [pickAll_len]; simpa using h.len, h.same, h.most, ?_, h.once, fun b hb => by have := h.early b hb; omega, h.later⟩
            intro j hj
            obtain ⟨p, hp, hn⟩ := h.tick j hj
            have hd := h.done j hj
            exact ⟨hd.1, hd.2.1, p, by rw [pickAll_other _ _ _ _ (fun i hi => (h.notNow hj hi).2.symm)]; exact hp, hn⟩) (by omega)
          exact ⟨st', s', by omega, h2⟩
    · rw [retryGo_stop hw]; exact ⟨st, s, by omega, h⟩

/-- What the statement asks. -/
structure Alone (n : Int) (A B : List Int) : Prop where
  same : A.length = B.length
  most : (A.length : Int) ≤ n
  here : ∀ (k : Nat) (x : Int), A[k]? = some x → 0 ≤ x ∧ x ≤ n - 1 ∧ ¬ x ∈ A.take k
  slot : ∀ (k : Nat) (y : Int), B[k]? = some y → 0 ≤ y ∧ y ≤ 1000
  later : ∀ (k : Nat) (y z : Int), B[k]? = some z → B[k + 1]? = some y → z < y

theorem retry_alone (n : Int) (ps : List Int) (h0 : 1 ≤ n) : Alone n (retryRun n ps).1 (retryRun n ps).2 := by
  obtain ⟨st', s', hs', h⟩ := sent_go n 1001 (List.replicate n.toNat (0, 0)) ps 0 [] [] ⟨by simp; omega, rfl, by simp; omega, by simp, by simp, by simp, by simp⟩ (by decide)
  refine ⟨h.same, h.most, ?_, ?_, ?_⟩
  · intro k x hx
    have hm := h.done x (List.mem_iff_getElem?.2 ⟨k, hx⟩)
    refine ⟨hm.1, by omega, fun hmem => ?_⟩
    obtain ⟨j, hj⟩ := List.mem_iff_getElem?.1 hmem
    rw [List.getElem?_take] at hj
    split at hj
    · rename_i hjk
      obtain ⟨l1, e1⟩ := List.getElem?_eq_some_iff.1 hj
      obtain ⟨l2, e2⟩ := List.getElem?_eq_some_iff.1 hx
      exact List.pairwise_iff_getElem.1 h.once j k l1 l2 hjk (e1.trans e2.symm)
    · cases hj
  · intro k y hy
    have := h.early y (List.mem_iff_getElem?.2 ⟨k, hy⟩)
    omega
  · intro k y z hz hy
    obtain ⟨hk1, e1⟩ := List.getElem?_eq_some_iff.1 hz
    obtain ⟨hk2, e2⟩ := List.getElem?_eq_some_iff.1 hy
    have := List.pairwise_iff_getElem.1 h.later k (k + 1) hk1 hk2 (by omega)
    exact e1 ▸ e2 ▸ this

theorem retry_one (ps : List Int) : retryRun 1 ps = ([0], [0]) := by
  unfold retryRun
  rw [retryGo_one (i := 0) (f := 1000) rfl (by decide) rfl]
  rfl

set_option maxHeartbeats 1000000 in
set_option maxRecDepth 100000 in
theorem retryAlone_walk (n : Int) (ao : Option Addr) (ac : Nat) (ps : List Int) (w : World) (_ : -9223372036854775808 ≤ n ∧ n ≤ 9223372036854775807)
    (hA : IntSl w.heap.size w ao ps) (hac : ps.length ≤ ac) (hmax : ac ≤ maxLen) (_ : ∀ x ∈ ps, -9223372036854775808 ≤ x ∧ x ≤ 9223372036854775807) :
    Calls Try.prog 6 #[.int .i64 n, .slice ao ps.length ac] w fun e w' => e = .returned (.bool true) ∧ Below w.heap.size w w' := by
  unfold maxLen at hmax
  have HA := Lib.hid hA; clear hA
  rcases retry_cases n ps with ⟨⟨hn1, hn5⟩, hl, hr⟩ | ⟨c, hbad⟩
  · have HR := Lib.hid hr; clear hr
    have hal := retry_alone n ps hn1
    obtain ⟨A, hC⟩ : ∃ A, A = (retryRun n ps).1 := ⟨_, rfl⟩
    obtain ⟨B, hD⟩ : ∃ B, B = (retryRun n ps).2 := ⟨_, rfl⟩
    rw [← hC, ← hD] at hal
    have HAL := Lib.hid hal; clear hal
    have hAB : B.length = A.length := HAL.out.same.symm
    have HAB := Lib.hid hAB; clear hAB
    have hmost := HAL.out.most
    have HC := Lib.hid hC; clear hC
    have HD := Lib.hid hD; clear hD
    have hne : ((A.length : Int) != (B.length : Int)) = false := by simp [HAB.out]
    have hgt : decide (n < (A.length : Int)) = false := by simp; omega
    go_enter Try.func6, Try.ntmps6
    go_wp2_with fail
    refine (retryFact_any _).mono ?_
    rintro e w1 ⟨rfl, hb⟩
    have HB := Lib.hid hb; clear hb
    have HA1 := Lib.hid (HA.out.below HB.out)
    go_wp2_with fail
    refine (retryRun_ok n _ _ _ _ ps _ hn1 hn5 rfl hl hac HR.out HA1.out HB.out.size).mono ?_
    rintro e w2 ⟨va, vb, rfl, hb1, hs1⟩
    rw [← HC.out, ← HD.out] at hs1
    obtain ⟨ao1, c1, rfl, hc1, _⟩ := hs1.intsShape (A := []) (C := [_])
    obtain ⟨ao2, c2, rfl, hc2, _⟩ := hs1.intsShape (A := [_]) (C := [])
    have HX := Lib.hid (hs1.intSl (A := []) (C := [_]))
    have HY := Lib.hid (hs1.intSl (A := [_]) (C := []))
    have HB1 := Lib.hid (HB.out.trans (hb1.mono HB.out.size))
    clear hb1 hs1
    go_wp2_with fail
    go_loopw [9] (fun i wr => ∃ k : Nat, k ≤ A.length ∧ i = .int .i64 k ∧ ∃ m, wr = w2.drewN m) (fun i _ => A.length - (intOf i).toNat)
    case atStart => exact ⟨0, Nat.zero_le _, rfl, 0, rfl⟩
    case round =>
      obtain ⟨k, hk, rfl, m, rfl⟩ := hrel
      by_cases hlt : k < A.length
      · obtain ⟨x, hx⟩ : ∃ x, A[k]? = some x := ⟨_, List.getElem?_eq_getElem hlt⟩
        have hltB : k < B.length := by rw [HAB.out]; exact hlt
        obtain ⟨y, hy⟩ : ∃ y, B[k]? = some y := ⟨_, List.getElem?_eq_getElem hltB⟩
        obtain ⟨g1, o1, rfl, _, d1⟩ := HX.out k x hx
        obtain ⟨g2, o2, rfl, _, d2⟩ := HY.out k y hy
        obtain ⟨x0, x1, x2⟩ := HAL.out.here k x hx
        obtain ⟨y0, y1⟩ := HAL.out.slot k y hy
        have Hx := Lib.hid hx; clear hx
        have Hy := Lib.hid hy; clear hy
        have Hx2 := Lib.hid x2; clear x2
        have hX' : ∀ q, IntSl w2.heap.size (w2.drewN q) (some ⟨g1, o1, none⟩) (A.take k) := fun q => HX.out.take.below (below_drewN _ _ q)
        have HX' := Lib.hid hX'; clear hX'
        by_cases hk0 : k = 0
        · have hk1 : decide (0 < k) = false := by simp; omega
          have hk2 : decide ((0 : Int) < (k : Int)) = false := by simp; omega
          have Hk0 := Lib.hid hk0; clear hk0
          go_wp2
          go_quiet (first
            | (go_at_call 14; exact quiet_id (in4_yes _ _ _ _ (by omega) (by omega)) ⟨_, rfl⟩)
            | (go_at_call 19; exact quiet_id (has1_any _ _ _ _ (A.take k) x false _ (HX'.out _) (by simp; omega) (by simp; omega) (by have := Hx2.out; simpa using this)) ⟨_, rfl⟩))
          go_wp2
          go_roundw
          case rel => exact ⟨k + 1, by omega, by go_num, (by first | exact ⟨_, rfl⟩ | exact drewN_two w2 m _)⟩
          case measure => simp [intOf]; omega
        · have hk1 : decide (0 < k) = true := by simp; omega
          have hk2 : decide ((0 : Int) < (k : Int)) = true := by simp; omega
          obtain ⟨z, hz⟩ : ∃ z, B[k - 1]? = some z := ⟨_, List.getElem?_eq_getElem (by omega)⟩
          have hzy := HAL.out.later (k - 1) y z hz (by rw [show k - 1 + 1 = k by omega]; exact Hy.out)
          obtain ⟨g2', o2', he, _, d3⟩ := HY.out (k - 1) z hz
          simp only [Option.some.injEq, Addr.mk.injEq, and_true] at he
          obtain ⟨rfl, rfl⟩ := he
          have hzy2 : decide (y ≤ z) = false := by simp; omega
          have hkk : (k : Int) - 1 < (B.length : Int) := by omega
          have hkp : 1 ≤ (k : Int) := by omega
          clear hz hk0
          go_wp2
          go_quiet (first
            | (go_at_call 14; exact quiet_id (in4_yes _ _ _ _ (by omega) (by omega)) ⟨_, rfl⟩)
            | (go_at_call 19; exact quiet_id (has1_any _ _ _ _ (A.take k) x false _ (HX'.out _) (by simp; omega) (by simp; omega) (by have := Hx2.out; simpa using this)) ⟨_, rfl⟩))
          go_wp2
          go_roundw
          case rel => exact ⟨k + 1, by omega, by go_num, (by first | exact ⟨_, rfl⟩ | exact drewN_two w2 m _)⟩
          case measure => simp [intOf]; omega
      · by_cases hn' : 1 < n
        · go_wp2_with fail
          go_ret
          exact ⟨rfl, HB1.out.trans (by exact below_drewN _ _ _)⟩
        · obtain rfl : n = 1 := by omega
          have hone := retry_one ps
          have eA : A = [0] := by rw [HC.out, hone]
          have eB : B = [0] := by rw [HD.out, hone]
          have HX3 := Lib.hid (fun o : Obj => ((eA ▸ HX.out : IntSl w2.heap.size w2 ao1 [0]).below (below_drewN _ _ m)).past (Nat.le_refl _) o)
          have HY3 := Lib.hid ((eB ▸ HY.out : IntSl w2.heap.size w2 ao2 [0]).below (below_drewN _ _ m))
          have lA : A.length = 1 := by rw [eA]; rfl
          have lB : B.length = 1 := by rw [eB]; rfl
          have LA := Lib.hid lA; clear lA
          have LB := Lib.hid lB; clear lB
          clear eA eB hone
          go_wp2_with fail
          refine (ints_any _ _ _ _ _ _ _ _ [0] [0] true _ (HX3.out _) (intSl_new _ _ _ _ rfl) LA.out rfl (by simp) (by simp)).mono ?_
          rintro e w3 ⟨rfl, hd⟩
          have HB2 := Lib.hid (below_past (below_of_drew hd)); clear hd
          have HY4 := Lib.hid (HY3.out.on (Nat.le_refl _) HB2.out)
          have HY5 := Lib.hid (fun o : Obj => HY4.out.past HB2.out.size o)
          go_wp2_with fail
          refine (ints_any _ _ _ _ _ _ _ _ [0] [0] true _ (HY5.out _) (intSl_new _ _ _ _ rfl) LB.out rfl (by simp) (by simp)).mono ?_
          rintro e w4 ⟨rfl, hd⟩
          have HB3 := Lib.hid (below_past (below_of_drew hd)); clear hd
          go_wp2
          go_ret
          exact ⟨rfl, (HB1.out.trans (below_drewN _ _ m)).trans ((HB2.out.mono HB1.out.size).trans (HB3.out.mono (Nat.le_trans HB1.out.size HB2.out.size)))⟩
  · have HBAD := Lib.hid hbad; clear hbad
    go_enter Try.func6, Try.ntmps6
    go_wp2_with fail
    refine (retryFact_any _).mono ?_
    rintro e w1 ⟨rfl, hb⟩
    have HB := Lib.hid hb; clear hb
    have HA1 := Lib.hid (HA.out.below HB.out)
    go_wp2_with fail
    refine (retryRun_err n _ _ _ _ ps c _ rfl (by omega) HA1.out HBAD.out).mono ?_
    rintro e w' ⟨rfl, rfl⟩
    go_wp2
    go_ret
    exact ⟨rfl, HB.out⟩
end Go.Proofs.Ythnlpmjfibidcaa
