/- ferryhytheref4.Retry: who sends, and in which slots, as the document says: the same as the program's. -/
import Derived.Test.YthnlpmjfibidcaaDoorElem
import Derived.Test.YthnlpmjfibidcaaDoorRetryRefPlain
import Derived.Test.YthnlpmjfibidcaaDoorRoom
import Derived.Deep.LoopGhost
import Derived.StillTailTactics
import Derived.Deep.DeepCutAuto
namespace Go.Proofs.YthnlpmjfibidcaaDoor
open Go.RowKit
set_option linter.unusedVariables false

theorem ints_here {B : Nat} {w : World} {A C : List Ent} {e : TypeId} {g n cap : Nat} {xs : List Int} (h : Sep B w (A ++ Ent.ints e (.slice (some ⟨g, 0, none⟩) n cap) xs :: C)) (hl : xs.length = n) {j : Nat} {x : Int} (hx : xs[j]? = some x) :
    w.cell? ⟨g, j, none⟩ = some (.int .i64 x) ∧ w.frozen? ⟨g, j, none⟩ = false ∧ B ≤ g ∧ ∀ y, Sep B (w.setCell ⟨g, j, none⟩ (.int .i64 y)) (A ++ Ent.ints e (.slice (some ⟨g, 0, none⟩) n cap) (xs.set j y) :: C) := by
  subst hl
  obtain ⟨g', off, he, c1, c2⟩ := h.intsAt hx
  simp only [Option.some.injEq, Addr.mk.injEq, and_true] at he
  obtain ⟨rfl, rfl⟩ := he
  rw [Nat.zero_add] at c1 c2
  refine ⟨c1, c2, (h.mem.2 g rfl).1, fun y => ?_⟩
  have := h.intsSet j y
  rw [Nat.zero_add] at this
  exact this
theorem madeInts' (n : Nat) : (madeCells #[.int .i64 0] n).toList = (List.replicate n (0 : Int)).map (Value.int .i64) := by
  have := madeCells_flat #[.int .i64 0] n
  rw [List.map_replicate]
  simpa [List.flatten_replicate_singleton] using this

set_option maxHeartbeats 4000000 in
set_option maxRecDepth 100000 in
theorem retryRef_ok (m : Nat) (hm1 : 1 ≤ m) (hm5 : m ≤ 5) (ao : Option Addr) (ac B0 : Nat) (ps : List Int) (w : World) (hp : ps.length ≤ 200) (hr : ∀ y ∈ ps, 0 ≤ y ∧ y ≤ 1000) (hA : IntSl B0 w ao ps) (hB0 : B0 ≤ w.heap.size) :
    Calls Tryd.prog 19 #[.int .i64 m, .slice ao ps.length ac] w fun e w' =>
      ∃ va vb, e = .returned (.tuple #[va, vb]) ∧ Below w.heap.size w w' ∧ Sep w.heap.size w' [Ent.ints 3 va (retryRun m ps).1, Ent.ints 3 vb (retryRun m ps).2] := by
  have HA := Lib.hid hA; clear hA
  have HR := Lib.hid hr; clear hr
  obtain ⟨g, hg⟩ : ∃ g, g = w.heap.size := ⟨_, rfl⟩
  have hB : B0 ≤ g := by omega
  have hgw : g ≤ w.heap.size := by omega
  have HG := Lib.hid hg; clear hg
  have HN0 := Lib.hid (Sep.nil g w)
  go_enter Tryd.func19, Tryd.ntmps19
  go_wp2_with (at_make; refine wpList_make_sep rfl _ _ rfl elemInt8 .i64 .i64 m m m rfl rfl rfl rfl (by omega) (by unfold maxLen; omega) HN0.out hgw ?_)
  intro w1 hs hb hsz
  obtain ⟨gm, hgm⟩ : ∃ gm, gm = w.heap.size := ⟨_, rfl⟩
  rw [← hgm] at hs ⊢
  have hs1 : Sep g w1 [Ent.ints 3 (.slice (some ⟨gm, 0, none⟩) m m) (List.replicate m 0)] := by
    unfold Ent.ints
    rw [List.length_replicate, ← madeInts']
    simpa [Value.cells] using hs
  have HS1 := Lib.hid hs1
  have HB1 := Lib.hid (show Below g w w1 from (hb.mono hgw))
  have hg1 : g ≤ w1.heap.size := by have := HB1.out.size; rw [← HG.out] at this; exact this
  clear hs hb hsz hs1 hgm
  go_wp2_with (at_make; refine wpList_make_sep rfl _ _ rfl elemInt8 .i64 .i64 m m m rfl rfl rfl rfl (by omega) (by unfold maxLen; omega) HS1.out hg1 ?_)
  intro w2 hs hb hsz
  obtain ⟨gt, hgt⟩ : ∃ gt, gt = w1.heap.size := ⟨_, rfl⟩
  rw [← hgt] at hs ⊢
  have hs2 : Sep g w2 [Ent.ints 3 (.slice (some ⟨gt, 0, none⟩) m m) (List.replicate m 0), Ent.ints 3 (.slice (some ⟨gm, 0, none⟩) m m) (List.replicate m 0)] := by
    have e : Ent.ints 3 (.slice (some ⟨gt, 0, none⟩) m m) (List.replicate m 0) = Ent.row (.slice (some ⟨gt, 0, none⟩) m m) m 1 3 (madeCells #[.int .i64 0] m).toList := by
      unfold Ent.ints
      rw [List.length_replicate, ← madeInts']
    rw [e]
    simpa [Value.cells] using hs
  have hs3 := ((hs2.perm (List.Perm.swap _ _ _)).intsNil 3).intsNil 3
  have HS2 := Lib.hid hs3
  have HB2 := Lib.hid (HB1.out.trans (hb.mono hg1))
  clear hs hb hsz hs2 hs3 hgt HS1 HB1 hg1 hgw HN0
  have hgo0 : retryGo m 1001 (List.replicate m (0, 0)) (ps.drop 0) ((0 : Nat) : Int) [] [] = retryRun m ps := by unfold retryRun; rw [Int.toNat_natCast, List.drop_zero]; rfl
  have HGO0 := Lib.hid hgo0; clear hgo0
  go_wp2
  go_loopg [6, 7, 10, 11] 1001 (fun gk v1 v2 uv sv wr => ∃ (s u : Nat) (who slots : List Int) (st : Sts) (M T : List Int) (vw vs : Value), gk + s = 1001 ∧ vw = v1 ∧ vs = v2 ∧ uv = .int .i64 u ∧ sv = .int .i64 s ∧ u ≤ ps.length ∧ st.length = m ∧ who.length ≤ s ∧ slots.length ≤ s ∧
    Hid (retryGo m gk st (ps.drop u) s who slots = retryRun m ps) ∧ Hid (RefSt s st M T) ∧ Hid (StOk (10 * s) st) ∧ Sep g wr [Ent.ints 3 vw who, Ent.ints 3 vs slots, Ent.ints 3 (.slice (some ⟨gm, 0, none⟩) m m) M, Ent.ints 3 (.slice (some ⟨gt, 0, none⟩) m m) T] ∧ Below g w wr)
  case atStart => exact ⟨0, 0, [], [], List.replicate m (0, 0), _, _, _, _, rfl, rfl, rfl, rfl, rfl, Nat.zero_le _, by simp, by simp, by simp, HGO0.out, Lib.hid (RefSt.zero m), Lib.hid (StOk.zero m), HS2.out, HB2.out⟩
  case round =>
    obtain ⟨gi, rfl⟩ : ∃ gi, gi = gk := ⟨_, rfl⟩
    obtain ⟨s, u, who, slots, st, M, T, vw, vs, hgs, rfl, rfl, rfl, rfl, hu, hst, hwl, hsl, HGO, HRS, HOK, hsep, hbel⟩ := hrel
    clear HS2 HB2 HGO0
    obtain ⟨a1, c1, rfl, -⟩ := hsep.intsShape (A := []) (C := [_, _, _])
    obtain ⟨a2, c2, rfl, -⟩ := hsep.intsShape (A := [_]) (C := [_, _])
    have HST := Lib.hid hst
    have HML := Lib.hid (HRS.out.lm.trans hst)
    have HTL := Lib.hid (HRS.out.lt.trans hst)
    clear hst
    rcases Nat.eq_zero_or_pos gi with h0 | h0
    · subst h0
      have hs1 : decide ((s : Int) ≤ 1000) = false := decide_eq_false (by omega)
      have hres : (who, slots) = retryRun m ps := HGO.out
      have hsx := hsep.sub (L' := [_, _]) (List.Sublist.cons_cons _ (List.Sublist.cons_cons _ (List.nil_sublist _)))
      have HSX := Lib.hid (show Sep g wr [Ent.ints 3 (.slice a1 who.length c1) (retryRun m ps).1, Ent.ints 3 (.slice a2 slots.length c2) (retryRun m ps).2] by rw [← hres]; exact hsx)
      have HBX := Lib.hid hbel
      clear hres hsx hsep hbel
      go_wp2
      go_ret2
      exact ⟨_, _, rfl, by have := HBX.out; rw [HG.out] at this; exact this, by have := HSX.out; rw [HG.out] at this; exact this⟩
    · have hs1 : decide ((s : Int) ≤ 1000) = true := decide_eq_true (by omega)
      have hs1000 : s ≤ 1000 := by omega
      by_cases hrun : who.length < m
      · have hri : (who.length : Int) < (m : Int) := by omega
        have HS3 := Lib.hid (hsep.intsNil 3)
        have HB3 := Lib.hid hbel
        clear hsep hbel
        go_wp2
        clear hs1
        go_loopw [12, 13] (fun nv iv wr => ∃ (k : Nat) (vn : Value), k ≤ m ∧ vn = nv ∧ iv = .int .i64 k ∧ Sep g wr [Ent.ints 3 vn (nowFrom 0 (st.take k)), Ent.ints 3 (.slice a1 who.length c1) who, Ent.ints 3 (.slice a2 slots.length c2) slots, Ent.ints 3 (.slice (some ⟨gm, 0, none⟩) m m) M, Ent.ints 3 (.slice (some ⟨gt, 0, none⟩) m m) T] ∧ Below g w wr) (fun _ iv _ => m - (intOf iv).toNat)
        case atStart => exact ⟨0, _, Nat.zero_le _, rfl, rfl, HS3.out, HB3.out⟩
        case round =>
          obtain ⟨k, vn, hk, rfl, rfl, hsep, hbel⟩ := hrel
          clear HS3 HB3
          have HS4 := Lib.hid hsep; clear hsep
          have HB4 := Lib.hid hbel; clear hbel
          obtain ⟨w4, hw4⟩ : ∃ w4, w4 = wr := ⟨_, rfl⟩
          obtain rfl := hw4
          have hg4 : g ≤ w4.heap.size := by have := HB4.out.size; rw [← HG.out] at this; exact this
          by_cases hlt : k < m
          · have hki : (k : Int) < (m : Int) := by omega
            have hk0 : (0 : Int) ≤ (k : Int) := by omega
            obtain ⟨p, hpk⟩ : ∃ p, st[k]? = some p := ⟨_, List.getElem?_eq_getElem (by rw [HST.out]; exact hlt)⟩
            obtain ⟨t, ht, ht1, ht2⟩ := HRS.out.at_ hpk
            obtain ⟨d1, -⟩ := ints_here (A := [_, _, _, _]) (C := []) HS4.out HTL.out ht
            have hb2 := (HOK.out.get hpk).2.2.1
            have hnx := nowTake_succ hpk
            have hnl : (nowFrom 0 (st.take k)).length ≤ 1000000000 := by have := nowFrom_len 0 (st.take k); simp at this; omega
            have HNL := Lib.hid hnl; clear hnl
            by_cases hp0 : p.2 = 0
            · rw [if_pos hp0] at hnx
              have hts : t = (s : Int) := by have := ht1 (by omega); omega
              rw [hts] at d1
              have hee : ((s : Int) == (s : Int)) = true := by simp
              have HNX := Lib.hid hnx
              clear hnx hts ht ht1 ht2 hpk hp0 hb2
              go_wp2_with (at_builtin; refine wpList_append_int rfl (.tmp 41) (.tmp 43) rfl elemInt8 (A := []) (C := [_, _, _, _]) rfl HS4.out hg4 rfl HNL.out ?_)
              intro v5 w5 hs hb
              rw [← HNX.out] at hs
              have HS5 := Lib.hid hs
              have HB5 := Lib.hid (HB4.out.trans hb)
              clear hs hb d1 hee
              go_wp2
              go_roundw
              case rel => exact ⟨k + 1, _, by omega, rfl, by go_num, HS5.out, HB5.out⟩
              case measure => simp [intOf]; omega
            · rw [if_neg hp0, List.append_nil] at hnx
              have hts : ¬ t = (s : Int) := by
                rcases Int.lt_or_le p.2 0 with h | h
                · have := ht2 h; omega
                · have := ht1 h; omega
              have hee : (t == (s : Int)) = false := by simp [hts]
              have HNX := Lib.hid hnx
              clear hnx hts ht ht1 ht2 hpk hp0 hb2
              go_wp2
              clear d1 hee
              go_roundw
              case rel => exact ⟨k + 1, _, by omega, rfl, by go_num, by rw [HNX.out]; exact HS4.out, HB4.out⟩
              case measure => simp [intOf]; omega
          · obtain rfl : k = m := by omega
            have hki : decide ((k : Int) < (k : Int)) = false := by simp
            have hs4 := HS4.out
            rw [List.take_of_length_le (by rw [HST.out]; exact Nat.le_refl _)] at hs4
            obtain ⟨now, hnow⟩ : ∃ now, now = nowFrom 0 st := ⟨_, rfl⟩
            rw [← hnow] at hs4
            obtain ⟨a3, c3, rfl, -⟩ := hs4.intsShape (A := []) (C := [_, _, _, _])
            have hnl : now.length ≤ k := by have := nowFrom_len 0 st; rw [hnow]; rw [HST.out] at this; exact this
            have HS5 := Lib.hid hs4
            have HNOW := Lib.hid hnow
            clear hs4 HS4 hnow
            by_cases h1 : now.length = 1
            · obtain ⟨i, hi⟩ : ∃ i, now = [i] := List.length_eq_one_iff.1 h1
              have hib := nowFrom_bd 0 st i (by rw [← HNOW.out, hi]; exact List.mem_cons_self ..)
              rw [HST.out] at hib
              obtain ⟨q, rfl⟩ := Int.eq_ofNat_of_zero_le (by omega : 0 ≤ i)
              obtain ⟨p, hpq⟩ : ∃ p, st[q]? = some p := ⟨_, List.getElem?_eq_getElem (by rw [HST.out]; omega)⟩
              have hnst : nowFrom 0 st = [(q : Int)] := by rw [← HNOW.out, hi]
              have hgo := HGO.out
              rw [retryGo_one (f := gi - 1) (by omega) hri hnst, Int.toNat_natCast, show metOf st (q : Int) = p.1 by unfold metOf; rw [Int.toNat_natCast, hpq]; rfl] at hgo
              have hone := HRS.out.one HOK.out hnst hpq
              have hpb := HOK.out.get hpq
              have hok2 : StOk (10 * ((s + 1 : Nat) : Int)) ((st.map tick1).set q (p.1, -1)) := StOk.set (HOK.out.tick (by omega)) (Int.le_refl _) ⟨hpb.1, by have := hpb.2.1; show p.1 ≤ _; omega, by show (-1 : Int) ≤ -1; omega, by show (-1 : Int) ≤ 2000; omega⟩
              have HGO2 := Lib.hid hgo
              have HONE := Lib.hid hone
              have HOK2 := Lib.hid hok2
              have hs5 := HS5.out
              rw [hi] at hs5
              obtain ⟨g3, o3, rfl, d1, -⟩ := hs5.intsAt (A := []) (C := [_, _, _, _]) (j := 0) (x := (q : Int)) rfl
              have hlen1 : now.length = 1 := h1
              have HS6 := Lib.hid hs5
              have HLN := Lib.hid hlen1
              rw [hi]
              clear hi hgo hone hok2 hpq hnst hs5 HS5 h1 hpb hlen1
              rw [Nat.add_zero] at d1
              have hl1 : who.length ≤ 1000000000 := by omega
              have hl2 : slots.length ≤ 1000000000 := by omega
              have HL1 := Lib.hid hl1
              have HL2 := Lib.hid hl2
              clear hl1 hl2
              go_wp2_with (at_builtin; refine wpList_append_int rfl (.tmp 48) (.tmp 52) rfl elemInt8 (A := [_]) (C := [_, _, _]) rfl HS6.out hg4 rfl HL1.out ?_)
              intro v7 w7 hs hb
              have HS7 := Lib.hid hs
              have HB7 := Lib.hid (HB4.out.trans hb)
              have hg7 : g ≤ w7.heap.size := by have := HB7.out.size; rw [← HG.out] at this; exact this
              clear hs hb d1
              go_wp2_with (at_builtin; refine wpList_append_int rfl (.tmp 54) (.tmp 56) rfl elemInt8 (A := [_, _]) (C := [_, _]) rfl HS7.out hg7 rfl HL2.out ?_)
              intro v8 w8 hs hb
              have HS8 := Lib.hid (hs.sub (List.sublist_cons_self _ _))
              have HB8 := Lib.hid (HB7.out.trans hb)
              clear hs hb
              go_wp2
              go_roundg (gi - 1)
              case measure => omega
              case rel => exact ⟨s + 1, u, who ++ [(q : Int)], slots ++ [(s : Int)], _, M, T, _, _, by omega, rfl, rfl, rfl, by first | rfl | go_num, hu, by simp [HST.out], by simp; omega, by simp; omega, Lib.hid HGO2.out, Lib.hid HONE.out, HOK2, HS8.out, HB8.out⟩
            · have h1b : ((now.length : Int) == 1) = false := by simp; omega
              have h1c : (now.length == 1) = false := by simp [h1]
              by_cases hfew : ps.length < u + now.length
              · have hfd : decide ((ps.length : Int) < (u : Int) + (now.length : Int)) = true := decide_eq_true (by omega)
                have hfd2 : decide (ps.length < u + now.length) = true := decide_eq_true hfew
                have hgo := HGO.out
                rw [retryGo_few (f := gi - 1) (by omega) (by rw [← HNOW.out]; exact h1) (by rw [← HNOW.out, List.length_drop]; omega)] at hgo
                have hsx := (HS5.out.sub (List.sublist_cons_self _ _)).sub (L' := [_, _]) (List.Sublist.cons_cons _ (List.Sublist.cons_cons _ (List.nil_sublist _)))
                have HSX := Lib.hid (show Sep g w4 [Ent.ints 3 (.slice a1 who.length c1) (retryRun k ps).1, Ent.ints 3 (.slice a2 slots.length c2) (retryRun k ps).2] by rw [← hgo]; exact hsx)
                have HBX := HB4
                clear hgo hsx hfew h1 HS5
                go_wp2
                go_ret2
                exact ⟨_, _, rfl, by have := HBX.out; rw [HG.out] at this; exact this, by have := HSX.out; rw [HG.out] at this; exact this⟩
              · have hfd : decide ((ps.length : Int) < (u : Int) + (now.length : Int)) = false := decide_eq_false (by omega)
                have hfd2 : decide (ps.length < u + now.length) = false := decide_eq_false hfew
                have hgo := HGO.out
                rw [retryGo_many (f := gi - 1) (by omega) hri (by rw [← HNOW.out]; exact h1) (by rw [← HNOW.out, List.length_drop]; omega), ← HNOW.out, List.drop_drop] at hgo
                have HGO2 := Lib.hid hgo
                have htick := HRS.out.tick HOK.out
                rw [← HNOW.out] at htick
                have HTK := Lib.hid htick
                have HOT := Lib.hid (HOK.out.tick (s' := 10 * (s : Int) + ((0 : Nat) : Int)) (by omega))
                have HFEW := Lib.hid hfew
                clear hgo htick hfew h1
                go_wp2
                clear hfd hfd2 h1b h1c
                go_loopw [10, 14] (fun uv kv wr => ∃ (j uq : Nat) (sj : Sts) (M' T' : List Int), j ≤ now.length ∧ uv = .int .i64 uq ∧ Hid (uq = u + j) ∧ kv = .int .i64 j ∧ sj.length = k ∧ Hid (StOk (10 * (s : Int) + (j : Int)) sj) ∧ Hid (pickAll (now.drop j) ((ps.drop u).drop j) sj = pickAll now (ps.drop u) (st.map tick1)) ∧ Hid (RefMid ((s : Int) + 1) sj M' T' (now.drop j)) ∧
                  Sep g wr [Ent.ints 3 (.slice a3 now.length c3) now, Ent.ints 3 (.slice a1 who.length c1) who, Ent.ints 3 (.slice a2 slots.length c2) slots, Ent.ints 3 (.slice (some ⟨gm, 0, none⟩) k k) M', Ent.ints 3 (.slice (some ⟨gt, 0, none⟩) k k) T'] ∧ Below g w wr) (fun _ kv _ => now.length - (intOf kv).toNat)
                case atStart => exact ⟨0, u, _, M, T, Nat.zero_le _, rfl, Lib.hid rfl, rfl, by rw [List.length_map]; exact HST.out, HOT, Lib.hid rfl, HTK, HS5.out, HB4.out⟩
                case round =>
                  obtain ⟨j, uq, sj, M', T', hj, rfl, HUQ, rfl, hsj, HOJ, HPK, HMID, hsep, hbel⟩ := hrel
                  have HS6 := Lib.hid hsep; clear hsep
                  have HB6 := Lib.hid hbel; clear hbel
                  have HSJ := Lib.hid hsj; clear hsj
                  clear HS5 HB4 hg4 HTK HOT
                  by_cases hlt : j < now.length
                  · have hji : (j : Int) < (now.length : Int) := by omega
                    have hj0 : (0 : Int) ≤ (j : Int) := by omega
                    obtain ⟨i, hi⟩ : ∃ i, now[j]? = some i := ⟨_, List.getElem?_eq_getElem hlt⟩
                    have hup : uq < ps.length := by have := HFEW.out; have := HUQ.out; omega
                    have hupi : (uq : Int) < (ps.length : Int) := by omega
                    have hup0 : (0 : Int) ≤ (uq : Int) := by omega
                    obtain ⟨y, hy⟩ : ∃ y, ps[uq]? = some y := ⟨_, List.getElem?_eq_getElem hup⟩
                    have hib := nowFrom_bd 0 st i (by rw [← HNOW.out]; exact List.mem_iff_getElem?.2 ⟨_, hi⟩)
                    rw [HST.out] at hib
                    obtain ⟨q, rfl⟩ := Int.eq_ofNat_of_zero_le (by omega : 0 ≤ i)
                    have hqk : q < k := by omega
                    have hqi : (q : Int) < (k : Int) := by omega
                    have hq0 : (0 : Int) ≤ (q : Int) := by omega
                    obtain ⟨⟨m1, dd⟩, hpq⟩ : ∃ p, sj[q]? = some p := ⟨_, List.getElem?_eq_getElem (by rw [HSJ.out]; exact hqk)⟩
                    have hmq : M'[q]? = some m1 := HMID.out.met q _ hpq
                    have hml := HMID.out.lm.trans HSJ.out
                    have htl := HMID.out.lt.trans HSJ.out
                    obtain ⟨t0, htq⟩ : ∃ t0, T'[q]? = some t0 := ⟨_, List.getElem?_eq_getElem (by rw [htl]; exact hqk)⟩
                    have hpb : 0 ≤ m1 ∧ m1 ≤ 10 * (s : Int) + (j : Int) := ⟨(HOJ.out.get hpq).1, (HOJ.out.get hpq).2.1⟩
                    have hyb := HR.out y (List.mem_iff_getElem?.2 ⟨_, hy⟩)
                    obtain ⟨g3, o3, rfl, n0, -⟩ := HS6.out.intsAt (A := []) (C := [_, _, _, _]) hi
                    obtain ⟨bp, op, rfl, hbp, cp⟩ := HA.out uq y hy
                    have cp' : wr.cell? ⟨bp, op + uq, none⟩ = some (.int .i64 y) := (HB6.out.cell (p := ⟨bp, op + uq, none⟩) (by show bp < g; omega)).trans cp
                    obtain ⟨m0, mf, mg, mset⟩ := ints_here (A := [_, _, _]) (C := [_]) HS6.out hml hmq
                    have hs7 := mset (m1 + 1)
                    have hbpm : ¬ bp = gm := by omega
                    have hbpm2 : ¬ gm = bp := by omega
                    have hdrop : now.drop j = (q : Int) :: now.drop (j + 1) := by rw [List.drop_eq_getElem_cons hlt, (List.getElem?_eq_some_iff.1 hi).2]
                    have hmid := HMID.out
                    rw [hdrop] at hmid
                    have hpk2 := HPK.out
                    rw [pickAll_cons hi (show (ps.drop u)[j]? = some y by rw [List.getElem?_drop, ← HUQ.out]; exact hy), Int.toNat_natCast, show metOf sj (q : Int) = m1 by unfold metOf; rw [Int.toNat_natCast, hpq]; rfl] at hpk2
                    obtain ⟨wn, hwn⟩ : ∃ wn, wn = winOf (m1 + 1) := ⟨_, rfl⟩
                    have hwin := winOf_bd (m := m1 + 1) (by omega)
                    rw [← hwn] at hpk2 hwin
                    have hrb := tmod_bd hyb.1 hwin.1 hwin.2
                    have hnew := hmid.pick hpq (m1 + 1) (y % wn) (by rw [← hrb.2.2]; exact hrb.1)
                    have hokn : StOk (10 * (s : Int) + ((j + 1 : Nat) : Int)) (sj.set q (m1 + 1, y % wn)) := StOk.set HOJ.out (by omega) ⟨by show 0 ≤ m1 + 1; omega, by show m1 + 1 ≤ _; omega, by show -1 ≤ y % wn; omega, by show y % wn ≤ 2000; omega⟩
                    have HNEW := Lib.hid hnew
                    have HOKN := Lib.hid hokn
                    have HPK2 := Lib.hid hpk2
                    have HWN := Lib.hid hwn
                    have HS7 := Lib.hid hs7
                    have HTL2 := Lib.hid htl
                    have HTQ := Lib.hid htq
                    have HB7 := Lib.hid (HB6.out.setCell (p := ⟨gm, q, none⟩) mg (.int .i64 (m1 + 1)))
                    have HSJL := Lib.hid (show (sj.set q (m1 + 1, y % wn)).length = k by rw [List.length_set]; exact HSJ.out)
                    clear hs7 mset hmid hnew hokn hpk2 hwn hdrop hmq hml htl htq hpq hi hy cp hib
                    go_upto_region 24 with fail
                    have q0 : (wr.setCell ⟨gm, q, none⟩ (.int .i64 (m1 + 1))).cell? ⟨gm, q, none⟩ = some (.int .i64 (m1 + 1)) := by go_simp
                    have q2 : (wr.setCell ⟨gm, q, none⟩ (.int .i64 (m1 + 1))).cell? ⟨bp, op + uq, none⟩ = some (.int .i64 y) := by go_simp
                    clear m0 mf n0 cp' HS6 HB6
                    generalize wr.setCell ⟨gm, q, none⟩ (.int .i64 (m1 + 1)) = wq at *
                    refine wp_region_still_tail 16 (by kernel_rfl) (by kernel_rfl) ?_
                    simp only [List.take_succ_cons, List.take_zero, List.drop_succ_cons, List.drop_zero]
                    change wpStill _ _ wq.drew (fun a' => wpList _ _ _ _ a' wq.drew) _ _
                    change wq.drew.cell? _ = _ at q0
                    change wq.drew.cell? _ = _ at q2
                    have HS8 := Lib.hid HS7.out.drew
                    have HB8 := Lib.hid HB7.out.drew
                    clear HS7 HB7
                    generalize wq.drew = wd at *
                    obtain ⟨t1, tf, tg, tset⟩ := ints_here (A := [_, _, _, _]) (C := []) HS8.out HTL2.out HTQ.out
                    have HTS := Lib.hid tset
                    have HBT := Lib.hid (fun y => HB8.out.setCell (p := ⟨gt, q, none⟩) tg (.int .i64 y))
                    clear tset
                    have hcall := (room_any (m1 + 1) (by omega) wd).mono (R' := fun e w'' => e = .returned (.int .i64 (winOf (m1 + 1))) ∧ w'' = wd) (fun _ _ h => ⟨h.1, h.2.symm⟩)
                    rw [← HWN.out] at hcall
                    have HC := Lib.hid hcall; clear hcall
                    have hwne : ¬ wn = 0 := by omega
                    have hrem : IntKind.i64.wrap (y.tmod wn) = y.tmod wn := by rw [IntKind.wrap_i64]; omega
                    have hz1 : 0 ≤ y % wn := by rw [← hrb.2.2]; exact hrb.1
                    have hz2 : y % wn ≤ 1024 := by rw [← hrb.2.2]; exact hrb.2.1
                    repeat (first | still_step | still_call HC.out)
                    try refine wpStill_nil ?_
                    have HMOD := Lib.hid hrb.2.2; clear hrb
                    clear hrem hwne
                    go_wp2
                    go_roundw
                    case rel =>
                      have hts := HTS.out ((s : Int) + 1 + y % wn)
                      have hbt := HBT.out ((s : Int) + 1 + y % wn)
                      exact ⟨j + 1, uq + 1, _, _, _, by omega, by first | rfl | go_num, Lib.hid (by have := HUQ.out; omega), by go_num, HSJL.out, HOKN, Lib.hid HPK2.out, Lib.hid HNEW.out, hts, hbt⟩
                    case measure => simp [intOf]; omega
                  · obtain rfl : j = now.length := by omega
                    have hji : decide ((now.length : Int) < (now.length : Int)) = false := by simp
                    have hpk := HPK.out
                    rw [pickAll_done (Nat.le_refl _)] at hpk
                    have hmid := HMID.out
                    rw [List.drop_of_length_le (Nat.le_refl _)] at hmid
                    have hgo := HGO2.out
                    rw [← hpk, ← HUQ.out] at hgo
                    have HGO3 := Lib.hid hgo
                    have HM2 := Lib.hid hmid
                    have hok3 : StOk (10 * ((s + 1 : Nat) : Int)) sj := fun x hx => by have := HOJ.out x hx; omega
                    have HOK3 := Lib.hid hok3
                    have HS7 := Lib.hid (HS6.out.sub (List.sublist_cons_self _ _))
                    clear hpk hmid hgo hok3
                    go_wp2
                    go_roundg (gi - 1)
                    case measure => omega
                    case rel => exact ⟨s + 1, uq, who, slots, sj, M', T', _, _, by omega, rfl, rfl, by first | rfl | go_num, by first | rfl | go_num, by have := HFEW.out; have := HUQ.out; omega, HSJ.out, by omega, by omega, Lib.hid HGO3.out, Lib.hid HM2.out, HOK3, HS7.out, HB6.out⟩
      · have hri : decide ((who.length : Int) < (m : Int)) = false := decide_eq_false (by omega)
        have hri2 : decide (who.length < m) = false := decide_eq_false hrun
        have hgo := HGO.out
        rw [retryGo_stop (by omega)] at hgo
        have hsx := hsep.sub (L' := [_, _]) (List.Sublist.cons_cons _ (List.Sublist.cons_cons _ (List.nil_sublist _)))
        have HSX := Lib.hid (show Sep g wr [Ent.ints 3 (.slice a1 who.length c1) (retryRun m ps).1, Ent.ints 3 (.slice a2 slots.length c2) (retryRun m ps).2] by rw [← hgo]; exact hsx)
        have HBX := Lib.hid hbel
        clear hgo hsx hsep hbel hrun
        go_wp2
        go_ret2
        exact ⟨_, _, rfl, by have := HBX.out; rw [HG.out] at this; exact this, by have := HSX.out; rw [HG.out] at this; exact this⟩
end Go.Proofs.YthnlpmjfibidcaaDoor
