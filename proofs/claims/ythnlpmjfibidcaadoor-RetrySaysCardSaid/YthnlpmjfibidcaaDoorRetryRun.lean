/- retry.Run: who sends alone in which slot: what the call gives is what the plain text says. -/
import Derived.Test.YthnlpmjfibidcaaDoorRows
import Derived.Test.YthnlpmjfibidcaaDoorBase
import Derived.Test.YthnlpmjfibidcaaDoorWithin
import Derived.Test.YthnlpmjfibidcaaDoorAll
import Derived.Test.YthnlpmjfibidcaaDoorRetryPlain
import Derived.Test.YthnlpmjfibidcaaDoorRetryWindow
import Derived.StillTailTactics
namespace Go.Proofs.YthnlpmjfibidcaaDoor
open Go.RowKit

def stCells1 (p : Int × Int) : List Value := [.int .i64 p.1, .int .i64 p.2]
theorem stCells1_len (p : Int × Int) : (stCells1 p).length = 2 := rfl
/-- The stations' row. -/
def Ent.sts (v : Value) (st : Sts) : Ent := Ent.row v st.length 2 72 (st.flatMap stCells1)

theorem elemSt : ElemTy Tryd.prog 70 72 2 16 (.agg #[.int .i64 0, .int .i64 0]) :=
  ⟨Tryd.underlying70, info_parts (z := .agg #[.int .i64 0, .int .i64 0]) (size := 2) (bytes := 16) (by kernel_rfl), rfl, by decide⟩
theorem elemInt : ElemTy Tryd.prog 37 3 1 8 (.int .i64 0) :=
  ⟨Tryd.underlying37, info_parts (z := .int .i64 0) (size := 1) (bytes := 8) (by kernel_rfl), rfl, by decide⟩

theorem madeSts (n : Nat) : (madeCells #[.int .i64 0, .int .i64 0] (n * 2)).toList = (List.replicate n (0, 0)).flatMap stCells1 := by
  rw [show (n * 2) = n * (#[Value.int .i64 0, Value.int .i64 0] : Array Value).size from rfl, madeCells_flat]
  induction n with
  | zero => rfl
  | succ n ih => rw [List.replicate_succ, List.flatten_cons, ih, List.replicate_succ, List.flatMap_cons]; rfl

theorem Sep.stsAt {B : Nat} {w : World} {A C : List Ent} {g n cap : Nat} {off : Nat} {st : Sts} (h : Sep B w (A ++ Ent.sts (.slice (some ⟨g, off, none⟩) n cap) st :: C)) (hn : st.length = n) {k : Nat} {p : Int × Int} (hp : st[k]? = some p) :
    w.cell? ⟨g, off + k * 2, none⟩ = some (.int .i64 p.1) ∧ w.cell? ⟨g, off + k * 2 + 1, none⟩ = some (.int .i64 p.2) ∧ w.frozen? ⟨g, off + k * 2, none⟩ = false ∧ w.frozen? ⟨g, off + k * 2 + 1, none⟩ = false := by
  have hk : k < st.length := (List.getElem?_eq_some_iff.1 hp).1
  subst hn
  obtain ⟨g', off', he, _, hc, hf⟩ := Sep.rowAt h (by omega)
  simp only [Option.some.injEq, Addr.mk.injEq, and_true] at he
  obtain ⟨rfl, rfl⟩ := he
  have c0 := flat_get stCells1 2 stCells1_len (j := 0) (by omega) st k p hp
  have c1 := flat_get stCells1 2 stCells1_len (j := 1) (by omega) st k p hp
  refine ⟨?_, ?_, hf _, hf _⟩
  · rw [hc (k * 2) (by omega)]; exact c0
  · rw [show off + k * 2 + 1 = off + (k * 2 + 1) by omega, hc (k * 2 + 1) (by omega)]; exact c1

theorem Sep.stsSet0 {B : Nat} {w : World} {A C : List Ent} {g n cap : Nat} {off : Nat} {st : Sts} (h : Sep B w (A ++ Ent.sts (.slice (some ⟨g, off, none⟩) n cap) st :: C)) {k : Nat} {p : Int × Int} (hp : st[k]? = some p) (m : Int) :
    Sep B (w.setCell ⟨g, off + k * 2, none⟩ (.int .i64 m)) (A ++ Ent.sts (.slice (some ⟨g, off, none⟩) n cap) (st.set k (m, p.2)) :: C) := by
  have hs : n = st.length := by obtain ⟨_, ao, cap', e, _⟩ := Sep.rowShape h; simp at e; exact e.2.1
  subst hs
  have := Sep.rowSet h (k * 2) (.int .i64 m)
  rw [show k * 2 = k * 2 + 0 from rfl, flat_set stCells1 2 stCells1_len (j := 0) (by omega) _ st k p (m, p.2) hp rfl] at this
  unfold Ent.sts
  rw [List.length_set]
  exact this
theorem Sep.stsSet1 {B : Nat} {w : World} {A C : List Ent} {g n cap : Nat} {off : Nat} {st : Sts} (h : Sep B w (A ++ Ent.sts (.slice (some ⟨g, off, none⟩) n cap) st :: C)) {k : Nat} {p : Int × Int} (hp : st[k]? = some p) (m : Int) :
    Sep B (w.setCell ⟨g, off + k * 2 + 1, none⟩ (.int .i64 m)) (A ++ Ent.sts (.slice (some ⟨g, off, none⟩) n cap) (st.set k (p.1, m)) :: C) := by
  have hs : n = st.length := by obtain ⟨_, ao, cap', e, _⟩ := Sep.rowShape h; simp at e; exact e.2.1
  subst hs
  have := Sep.rowSet h (k * 2 + 1) (.int .i64 m)
  rw [flat_set stCells1 2 stCells1_len (j := 1) (by omega) _ st k p (p.1, m) hp rfl] at this
  unfold Ent.sts
  rw [List.length_set]
  exact this

set_option maxHeartbeats 1000000 in
set_option maxRecDepth 100000 in
theorem retryRun_ok (n : Int) (ao : Option Addr) (len ac B0 : Nat) (ps : List Int) (w : World) (hn : 1 ≤ n) (hn5 : n ≤ 5) (hlen : len = ps.length) (hp : ps.length ≤ 200) (hac : ps.length ≤ ac) (hr : ∀ y ∈ ps, 0 ≤ y ∧ y ≤ 1000)
    (hA : IntSl B0 w ao ps) (hB0 : B0 ≤ w.heap.size) :
    Calls Tryd.prog 20 #[.int .i64 n, .slice ao len ac] w fun e w' =>
      ∃ va vb, e = .returned (.tuple #[va, vb, .nilIface]) ∧ Below w.heap.size w w' ∧ Sep w.heap.size w' [Ent.ints 3 va (retryRun n ps).1, Ent.ints 3 vb (retryRun n ps).2] := by
  subst hlen
  have HA := Lib.hid hA; clear hA
  have HR := Lib.hid hr; clear hr
  obtain ⟨m, rfl⟩ := Int.eq_ofNat_of_zero_le (by omega : 0 ≤ n)
  have hd0 : decide ((200 : Int) < (ps.length : Int)) = false := by simp; omega
  go_enter Tryd.func20, Tryd.ntmps20
  go_wp2_with (first
    | (go_at_call 24; refine (within_yes _ _ _ _ (by omega) (by omega)).mono ?_; rintro e w' ⟨rfl, rfl⟩)
    | (go_at_call 30; refine (all_any _ _ _ _ ps 0 1000 true _ HA.out rfl (by omega) (by simpa using HR.out)).mono ?_; rintro e w' ⟨rfl, rfl⟩)
    | (at_make; refine wpList_make_sep rfl _ _ rfl elemSt .i64 .i64 m m m rfl rfl rfl rfl (by omega) (by unfold maxLen; omega) (Sep.nil w.heap.size w) (Nat.le_refl _) ?_))
  intro w1 hsep hbel hsz
  rw [madeSts] at hsep
  have hsep0 : Sep w.heap.size w1 [Ent.sts (.slice (some ⟨w.heap.size, 0, none⟩) m m) (List.replicate m (0, 0))] := by
    unfold Ent.sts; rw [List.length_replicate]; exact hsep
  clear hsep
  have HSZ := Lib.hid hsz; clear hsz
  go_wp2
  go_loopw [1, 4, 5, 8] (fun pk va vb sl wr => ∃ (k c' : Nat) (ao' : Option Addr) (st : Sts) (ps' who slots : List Int), pk = .slice ao' ps'.length c' ∧ IntSl B0 w ao' ps' ∧ Hid (∀ y ∈ ps', 0 ≤ y ∧ y ≤ 1000) ∧ ps'.length ≤ 200 ∧ ps'.length ≤ c' ∧
      sl = .int .i64 k ∧ k ≤ 1001 ∧ who.length ≤ k ∧ slots.length ≤ k ∧ Hid (st.length = m) ∧ StOk (10 * k) st ∧
      Sep w.heap.size wr [Ent.ints 3 va who, Ent.ints 3 vb slots, Ent.sts (.slice (some ⟨w.heap.size, 0, none⟩) m m) st] ∧ Below w.heap.size w wr ∧
      Hid (retryGo m (1001 - k) st ps' k who slots = retryRun m ps)) (fun _ _ _ sl _ => 1001 - (intOf sl).toNat)
  case atStart =>
    exact ⟨0, ac, ao, _, ps, [], [], rfl, HA.out, HR.out, hp, hac, rfl, by omega, by simp, by simp, by simp [Hid], StOk.zero m, (hsep0.intsNil _).intsNil _, hbel, by simp [Hid, retryRun]⟩
  case round =>
    obtain ⟨k, c', ao', st, ps', who, slots, rfl, hA', hr', hp', hc', rfl, hk, hwl, hsl, hst, hok, hsep, hbel, hgo⟩ := hrel
    have HA' := Lib.hid hA'; clear hA'
    have HOK := Lib.hid hok; clear hok
    obtain ⟨ao1, c1, rfl, _, _⟩ := hsep.intsShape (A := []) (C := [_, _])
    obtain ⟨ao2, c2, rfl, _, _⟩ := hsep.intsShape (A := [_]) (C := [_])
    by_cases hrun : who.length < m ∧ k ≤ 1000
    · obtain ⟨hrun1, hrun2⟩ := hrun
      have hd1 : decide ((k : Int) ≤ 1000) = true := by simp; omega
      go_wp2
      obtain ⟨wo, rfl⟩ : ∃ wo : World, wo = wr := ⟨_, rfl⟩
      go_loopw [9, 39] (fun nv i wr => ∃ j : Nat, j ≤ m ∧ i = .int .i64 j ∧
        Sep w.heap.size wr [Ent.ints 3 nv (nowFrom 0 (st.take j)), Ent.ints 3 (.slice ao1 who.length c1) who, Ent.ints 3 (.slice ao2 slots.length c2) slots, Ent.sts (.slice (some ⟨w.heap.size, 0, none⟩) m m) (tickTo st j)] ∧ Below w.heap.size w wr) (fun _ i _ => m - (intOf i).toNat)
      case atStart => exact ⟨0, Nat.zero_le _, rfl, hsep.intsNil _, hbel⟩
      case round =>
        obtain ⟨j, hj, rfl, hsep, hbel⟩ := hrel
        by_cases hjm : j < m
        · obtain ⟨p, hpj⟩ : ∃ p, st[j]? = some p := ⟨_, List.getElem?_eq_getElem (by rw [hst.out]; exact hjm)⟩
          obtain ⟨k0, k1, f0, f1⟩ := Sep.stsAt (A := [_, _, _]) (C := []) hsep (by rw [tickTo_len]; exact hst.out) (tickTo_get hpj)
          simp only [Nat.zero_add] at k0 k1 f0 f1
          have hb := HOK.out.get hpj
          have hnl : (nowFrom 0 (st.take j)).length ≤ m := by have := nowFrom_len 0 (st.take j); simp at this; omega
          have Hpj := Lib.hid hpj; clear hpj
          have HS := Lib.hid hsep; clear hsep
          have HB := Lib.hid hbel; clear hbel
          rcases (show p.2 = 0 ∨ 0 < p.2 ∨ p.2 < 0 from by omega) with hz | hz | hz
          · have hz0 : (p.2 == 0) = true := by simp [hz]
            have Hz := Lib.hid hz; clear hz
            go_wp2_with (at_builtin; refine wpList_append_int rfl _ _ rfl elemInt (A := []) rfl HS.out HB.out.size rfl (by omega) ?_)
            intro v' w2 hsep2 hbel2
            go_wp2
            go_roundw
            case rel =>
              refine ⟨j + 1, by omega, by go_num, ?_, HB.out.trans hbel2⟩
              rw [nowTake_succ Hpj.out, if_pos Hz.out, tickTo_same Hpj.out (by unfold tick1; rw [if_neg (by have := Hz.out; omega)])]
              exact hsep2
            case measure => simp [intOf]; omega
          · have hz0 : (p.2 == 0) = false := by simp; omega
            have ht : tick1 p = (p.1, p.2 - 1) := by unfold tick1; rw [if_pos hz]
            have Ht := Lib.hid ht; clear ht
            go_wp2
            go_roundw
            case rel =>
              refine ⟨j + 1, by omega, by go_num, ?_, HB.out.setCell (Nat.le_refl _) _⟩
              rw [nowTake_succ Hpj.out, if_neg (by omega), List.append_nil, tickTo_succ Hpj.out, Ht.out]
              have := Sep.stsSet1 (A := [_, _, _]) (C := []) HS.out (tickTo_get Hpj.out) (p.2 - 1)
              simpa using this
            case measure => simp [intOf]; omega
          · have hz0 : (p.2 == 0) = false := by simp; omega
            have ht : tick1 p = p := by unfold tick1; rw [if_neg (by omega)]
            have Ht := Lib.hid ht; clear ht
            go_wp2
            go_roundw
            case rel =>
              refine ⟨j + 1, by omega, by go_num, ?_, HB.out⟩
              rw [nowTake_succ Hpj.out, if_neg (by omega), List.append_nil, tickTo_same Hpj.out Ht.out]
              exact HS.out
            case measure => simp [intOf]; omega
        · rw [List.take_of_length_le (by rw [hst.out]; omega), tickTo_all _ _ (by rw [hst.out]; omega)] at hsep
          obtain ⟨now, hnow⟩ : ∃ now, now = nowFrom 0 st := ⟨_, rfl⟩
          rw [← hnow] at hsep
          have HNOW := Lib.hid hnow; clear hnow
          have hnl : now.length ≤ m := by have := nowFrom_len 0 st; rw [← HNOW.out, hst.out] at this; exact this
          obtain ⟨ao3, c3, rfl, _, _⟩ := hsep.intsShape (A := []) (C := [_, _, _])
          by_cases h1 : now.length = 1
          · obtain ⟨i, rfl⟩ : ∃ i, now = [i] := List.length_eq_one_iff.1 h1
            have hib := nowFrom_bd 0 st i (by rw [← HNOW.out]; simp)
            rw [hst.out] at hib
            obtain ⟨i, rfl⟩ := Int.eq_ofNat_of_zero_le (by omega : 0 ≤ i)
            obtain ⟨p, hpj⟩ : ∃ p, st[i]? = some p := ⟨_, List.getElem?_eq_getElem (by rw [hst.out]; omega)⟩
            have htk : (st.map tick1)[i]? = some (tick1 p) := by simp [hpj]
            have Hpj := Lib.hid hpj; clear hpj
            have Htk := Lib.hid htk; clear htk

            obtain ⟨g3, o3, rfl, n0, _⟩ := hsep.intsAt (A := []) (C := [_, _, _]) (xs := [(i : Int)]) (j := 0) (x := (i : Int)) rfl
            simp only [Nat.add_zero] at n0
            have HS := Lib.hid hsep; clear hsep
            have HB := Lib.hid hbel; clear hbel
            go_wp2_with (at_builtin; refine wpList_append_int rfl (.tmp 70) (.tmp 74) rfl elemInt (A := [_]) rfl HS.out HB.out.size rfl (by omega) ?_)
            intro v' w2 hsep2 hbel2
            have HS2 := Lib.hid hsep2; clear hsep2
            have HB2 := Lib.hid (HB.out.trans hbel2); clear hbel2
            go_wp2_with (at_builtin; refine wpList_append_int rfl (.tmp 76) (.tmp 78) rfl elemInt (A := [_, _]) rfl HS2.out HB2.out.size rfl (by omega) ?_)
            intro v'' w3 hsep3 hbel3
            have HB3 := Lib.hid (HB2.out.trans hbel3); clear hbel3
            obtain ⟨g3', o3', he, n0', _⟩ := hsep3.intsAt (A := []) (C := [_, _, _]) (xs := [(i : Int)]) (j := 0) (x := (i : Int)) rfl
            simp only [Option.some.injEq, Addr.mk.injEq, and_true] at he
            obtain ⟨rfl, rfl⟩ := he
            obtain ⟨k0, k1, f0, f1⟩ := Sep.stsAt (A := [_, _, _]) (C := []) hsep3 (by simpa using hst.out) Htk.out
            simp only [Nat.add_zero, Nat.zero_add] at n0' k0 k1 f0 f1
            have HS3 := Lib.hid hsep3; clear hsep3
            go_wp2
            go_roundw
            case rel =>
              have hmet : metOf st (i : Int) = (tick1 p).1 := by
                unfold metOf; rw [Int.toNat_natCast, Hpj.out]; simp only [Option.getD_some, tick1]; split <;> rfl
              have hset := Sep.stsSet1 (A := [_, _, _]) (C := []) HS3.out Htk.out (-1)
              simp only [Nat.zero_add] at hset
              have hb := tick1_bd (HOK.out.get Hpj.out)
              refine ⟨k + 1, c', ao', _, ps', who ++ [(i : Int)], slots ++ [(k : Int)], rfl, HA'.out, hr', hp', hc', by go_num, by omega, by simp; omega, by simp; omega, ?_, ?_, hset.sub (List.sublist_cons_self _ _), HB3.out.setCell (Nat.le_refl _) _, ?_⟩
              · have := hst.out; simp [Hid, this]
              · exact (HOK.out.tick (by omega)).set (Int.le_refl _) (by omega)
              · have hg := hgo.out
                rw [retryGo_one (f := 1001 - (k + 1)) (by omega) (by omega) HNOW.out.symm, hmet] at hg
                exact hg
            case measure => simp [intOf]; omega
          · have h1b : ((now.length : Int) == 1) = false := by simp; omega
            by_cases hfew : ps'.length < now.length
            · have hfd : decide (ps'.length < now.length) = true := by simp; omega
              have HS := Lib.hid hsep; clear hsep
              go_wp2
              go_ret3
              refine ⟨_, _, rfl, hbel, ?_⟩
              have hg := hgo.out
              rw [retryGo_few (f := 1000 - k) (by omega) (by rw [← HNOW.out]; exact h1) (by rw [← HNOW.out]; exact hfew)] at hg
              rw [← hg]
              have := (HS.out.sub (List.sublist_cons_self _ _)).sub (L' := [_, _]) (List.Sublist.cons_cons _ (List.Sublist.cons_cons _ (List.nil_sublist _)))
              exact this
            · have hfd : decide (ps'.length < now.length) = false := by simp; omega
              have HL3 := Lib.hid hfew; clear hfew
              go_wp2
              obtain ⟨wi, rfl⟩ : ∃ wi : World, wi = wr := ⟨_, rfl⟩
              go_loopw [11, 12, 93] (fun _ _ i wr => ∃ (j : Nat) (sj : Sts), j ≤ now.length ∧ i = .int .i64 j ∧ Hid (sj.length = m) ∧ Hid (StOk (10 * k + j) sj) ∧
                Sep w.heap.size wr [Ent.ints 3 (.slice ao3 now.length c3) now, Ent.ints 3 (.slice ao1 who.length c1) who, Ent.ints 3 (.slice ao2 slots.length c2) slots, Ent.sts (.slice (some ⟨w.heap.size, 0, none⟩) m m) sj] ∧ Below w.heap.size w wr ∧
                Hid (pickAll (now.drop j) (ps'.drop j) sj = pickAll now ps' (st.map tick1))) (fun _ _ i _ => now.length - (intOf i).toNat)
              case atStart => exact ⟨0, _, Nat.zero_le _, rfl, by have := hst.out; simpa [Hid] using this, HOK.out.tick (by omega), hsep, hbel, rfl⟩
              case round =>
                obtain ⟨j', sj, hj', rfl, hsj, hoj, hsep, hbel, hpk⟩ := hrel
                by_cases hlt : j' < now.length
                · obtain ⟨i, hi⟩ : ∃ i, now[j']? = some i := ⟨_, List.getElem?_eq_getElem hlt⟩
                  obtain ⟨y, hy⟩ : ∃ y, ps'[j']? = some y := ⟨_, List.getElem?_eq_getElem (by have := HL3.out; omega)⟩
                  have hib := nowFrom_bd 0 st i (by rw [← HNOW.out]; exact List.mem_iff_getElem?.2 ⟨_, hi⟩)
                  rw [hst.out] at hib
                  obtain ⟨i, rfl⟩ := Int.eq_ofNat_of_zero_le (by omega : 0 ≤ i)
                  obtain ⟨p, hp⟩ : ∃ p, sj[i]? = some p := ⟨_, List.getElem?_eq_getElem (by rw [hsj.out]; omega)⟩
                  have hb := hoj.out.get hp
                  have hyb := hr'.out y (List.mem_iff_getElem?.2 ⟨_, hy⟩)
                  obtain ⟨g3, o3, rfl, n0, _⟩ := hsep.intsAt (A := []) (C := [_, _, _]) hi
                  obtain ⟨bp, op, rfl, hbp, cp⟩ := HA'.out j' y hy
                  obtain ⟨k0, k1, f0, f1⟩ := Sep.stsAt (A := [_, _, _]) (C := []) hsep hsj.out hp
                  simp only [Nat.zero_add] at k0 k1 f0 f1
                  have cp' : wr.cell? ⟨bp, op + j', none⟩ = some (.int .i64 y) := (hbel.cell (p := ⟨bp, op + j', none⟩) (by show bp < _; omega)).trans cp
                  have Hi := Lib.hid hi; clear hi
                  have Hy := Lib.hid hy; clear hy
                  have Hp := Lib.hid hp; clear hp
                  have HS := Lib.hid hsep; clear hsep
                  have HB := Lib.hid hbel; clear hbel
                  go_wp2
                  have q0 : (wr.setCell ⟨w.heap.size, i * 2, none⟩ (.int .i64 (p.1 + 1))).cell? ⟨w.heap.size, i * 2, none⟩ = some (.int .i64 (p.1 + 1)) := by go_simp
                  have q1 : (wr.setCell ⟨w.heap.size, i * 2, none⟩ (.int .i64 (p.1 + 1))).cell? ⟨w.heap.size, i * 2 + 1, none⟩ = some (.int .i64 p.2) := by go_simp
                  have q2 : (wr.setCell ⟨w.heap.size, i * 2, none⟩ (.int .i64 (p.1 + 1))).cell? ⟨bp, op + j', none⟩ = some (.int .i64 y) := by go_simp
                  have q3 : (wr.setCell ⟨w.heap.size, i * 2, none⟩ (.int .i64 (p.1 + 1))).frozen? ⟨w.heap.size, i * 2 + 1, none⟩ = false := by go_simp
                  have hset0 := Sep.stsSet0 (A := [_, _, _]) (C := []) HS.out Hp.out (p.1 + 1)
                  simp only [Nat.zero_add] at hset0
                  have hbel0 := HB.out.setCell (p := ⟨w.heap.size, i * 2, none⟩) (Nat.le_refl _) (.int .i64 (p.1 + 1))
                  have HS0 := Lib.hid hset0; clear hset0
                  have HB0 := Lib.hid hbel0; clear hbel0
                  clear k0 k1 f0 f1 cp' HS HB
                  generalize wr.setCell ⟨w.heap.size, i * 2, none⟩ (.int .i64 (p.1 + 1)) = wq at *
                  have hwin := winOf_bd (m := p.1 + 1) (by omega)
                  have hjp : j' < ps'.length := by have := HL3.out; omega
                  have him : i < m := by omega
                  refine wp_region_still_tail 15 (by kernel_rfl) (by kernel_rfl) ?_
                  simp only [List.take_succ_cons, List.take_zero, List.drop_succ_cons, List.drop_zero]
                  change wpStill _ _ wq.drew (fun a' => wpList _ _ _ _ a' wq.drew) _ _
                  change wq.drew.cell? _ = _ at q0
                  change wq.drew.cell? _ = _ at q1
                  change wq.drew.cell? _ = _ at q2
                  change wq.drew.frozen? _ = _ at q3
                  have HS1 := Lib.hid HS0.out.drew; clear HS0
                  have HB1 := Lib.hid HB0.out.drew; clear HB0
                  generalize wq.drew = wd at *
                  have hcall := (window_any (p.1 + 1) wd (by omega)).mono (R' := fun e w'' => e = .returned (.int .i64 (winOf (p.1 + 1))) ∧ w'' = wd) (fun _ _ h => ⟨h.1, h.2.symm⟩)
                  obtain ⟨wn, hwn⟩ : ∃ wn, wn = winOf (p.1 + 1) := ⟨_, rfl⟩
                  rw [← hwn] at hcall hwin
                  have HC := Lib.hid hcall; clear hcall
                  have HW := Lib.hid hwn; clear hwn
                  have hwne : ¬ wn = 0 := by omega
                  have hrb := tmod_bd hyb.1 hwin.1 hwin.2
                  have hrem : IntKind.i64.wrap (y.tmod wn) = y.tmod wn := by rw [IntKind.wrap_i64]; omega
                  repeat (first | still_step | still_call HC.out)
                  try refine wpStill_nil ?_
                  have HM := Lib.hid hrb; clear hrb
                  clear hrem hwne
                  go_wp2
                  go_roundw
                  case rel =>
                    have hs1 := Sep.stsSet1 (A := [_, _, _]) (C := []) HS1.out (k := i) (p := (p.1 + 1, p.2)) (by simp [hsj.out, him]) (y % wn)
                    simp only [Nat.zero_add, List.set_set] at hs1
                    have hmet : metOf sj (i : Int) = p.1 := by unfold metOf; rw [Int.toNat_natCast, Hp.out]; rfl
                    have hmm := HM.out
                    refine ⟨j' + 1, _, by omega, by go_num, ?_, ?_, hs1, HB1.out.setCell (Nat.le_refl _) _, ?_⟩
                    · have := hsj.out; simpa [Hid] using this
                    · exact StOk.set hoj.out (by omega) ⟨by show 0 ≤ p.1 + 1; omega, by show p.1 + 1 ≤ _; omega, by show -1 ≤ y % wn; omega, by show y % wn ≤ 2000; omega⟩
                    · have hq := hpk.out
                      rw [pickAll_cons Hi.out Hy.out, hmet, ← HW.out, Int.toNat_natCast] at hq
                      exact hq
                  case measure => simp [intOf]; omega
                · rw [pickAll_done (by omega)] at hpk
                  have HS := Lib.hid hsep; clear hsep
                  have hnp : now.length ≤ ps'.length := by have := HL3.out; omega
                  go_wp2_with (with_reducible refine wpList_slice_from rfl (.tmp 122) (.tmp 124) rfl elemInt _ _ _ rfl now.length .i64 rfl hnp ?_)
                  go_roundw
                  case rel =>
                    have hg := hgo.out
                    rw [retryGo_many (f := 1001 - (k + 1)) (by omega) (by omega) (by rw [← HNOW.out]; exact h1) (by rw [← HNOW.out]; exact HL3.out), ← HNOW.out, ← hpk.out] at hg
                    refine ⟨k + 1, c' - now.length, _, sj, ps'.drop now.length, who, slots, by rw [List.length_drop], HA'.out.cut hc', fun y hy => hr'.out y (List.mem_of_mem_drop hy), by simp; omega, by simp; omega, by go_num, by omega, by omega, by omega, hsj, ?_, HS.out.sub (List.sublist_cons_self _ _), hbel, hg⟩
                    intro q hq
                    have := hoj.out q hq
                    omega
                  case measure => simp [intOf]; omega
    · have HS := Lib.hid hsep; clear hsep
      have hgo' : retryRun m ps = (who, slots) := by
        rw [← hgo.out]
        by_cases hw : who.length < m
        · rw [show 1001 - k = 0 by omega]; rfl
        · exact retryGo_stop (by omega)
      have HG := Lib.hid hgo'; clear hgo'
      by_cases hw : who.length < m
      · have hd1 : decide ((k : Int) ≤ 1000) = false := by simp; omega
        go_wp2
        go_ret3
        refine ⟨_, _, rfl, hbel, ?_⟩
        rw [HG.out]
        exact HS.out.sub (L' := [_, _]) (List.Sublist.cons_cons _ (List.Sublist.cons_cons _ (List.nil_sublist _)))
      · go_wp2
        go_ret3
        refine ⟨_, _, rfl, hbel, ?_⟩
        rw [HG.out]
        exact HS.out.sub (L' := [_, _]) (List.Sublist.cons_cons _ (List.Sublist.cons_cons _ (List.nil_sublist _)))

/-- What is wrong with the arguments of Run. -/
def RetryBad (n : Int) (ps : List Int) (c : Int) : Prop :=
  (¬ (1 ≤ n ∧ n ≤ 5) ∧ c = 1) ∨ (1 ≤ n ∧ n ≤ 5 ∧ 200 < ps.length ∧ c = 4) ∨ (1 ≤ n ∧ n ≤ 5 ∧ ps.length ≤ 200 ∧ ¬ (∀ y ∈ ps, 0 ≤ y ∧ y ≤ 1000) ∧ c = 1)

set_option maxHeartbeats 400000 in
set_option maxRecDepth 100000 in
theorem retryRun_err (n : Int) (ao : Option Addr) (len ac B0 : Nat) (ps : List Int) (c : Int) (w : World) (hlen : len = ps.length) (hmax : ps.length ≤ 9223372036854775807) (hA : IntSl B0 w ao ps) (h : RetryBad n ps c) :
    Calls Tryd.prog 20 #[.int .i64 n, .slice ao len ac] w fun e w' => e = .returned (.tuple #[.slice none 0 0, .slice none 0 0, .iface 64 (.int .i64 c)]) ∧ w = w' := by
  subst hlen
  have HA := Lib.hid hA; clear hA
  rcases h with ⟨h1, rfl⟩ | ⟨h1, h2, h3, rfl⟩ | ⟨h1, h2, h3, h4, rfl⟩
  · go_enter Tryd.func20, Tryd.ntmps20
    go_wp2_with (go_at_call 24; refine (within_no _ _ _ _ h1).mono ?_; rintro e w' ⟨rfl, rfl⟩)
    go_ret3
    exact ⟨rfl, rfl⟩
  · go_enter Tryd.func20, Tryd.ntmps20
    go_wp2_with (go_at_call 24; refine (within_yes _ _ _ _ (by omega) (by omega)).mono ?_; rintro e w' ⟨rfl, rfl⟩)
    go_ret3
    exact ⟨rfl, rfl⟩
  · have H4 := Lib.hid h4; clear h4
    go_enter Tryd.func20, Tryd.ntmps20
    go_wp2_with (first
      | (go_at_call 24; refine (within_yes _ _ _ _ (by omega) (by omega)).mono ?_; rintro e w' ⟨rfl, rfl⟩)
      | (go_at_call 30; refine (all_any _ _ _ _ ps 0 1000 false _ HA.out rfl (by omega) (by have := H4.out; simpa using this)).mono ?_; rintro e w' ⟨rfl, rfl⟩))
    go_ret3
    exact ⟨rfl, rfl⟩
end Go.Proofs.YthnlpmjfibidcaaDoor
