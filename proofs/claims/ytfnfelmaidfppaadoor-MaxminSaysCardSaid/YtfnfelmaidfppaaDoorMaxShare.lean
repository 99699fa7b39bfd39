/- maxmin.Share: what the call gives is what the plain text says. -/
import Derived.Test.YtfnfelmaidfppaaDoorMaxCheck
import Derived.Test.YtfnfelmaidfppaaDoorMaxFunc
import Derived.Test.YtfnfelmaidfppaaDoorClone
import Derived.Test.YtfnfelmaidfppaaDoorCnts
import Derived.Test.YtfnfelmaidfppaaDoorArr
import Derived.Test.YtfnfelmaidfppaaDoorRow2
import Derived.Deep.LoopGhost
import Derived.Deep.DeepCutAuto
import Derived.OwnWalk
namespace Go.Proofs.YtfnfelmaidfppaaDoor
open Go.RowKit
set_option linter.unusedVariables false

def wayOf (ways : List (List Int)) (i : Nat) : List Nat := (ways.getD i []).map Int.toNat
def roomOf (room : List Int) (x : Nat) : Int := room.getD x 0
theorem wayOf_get {ways : List (List Int)} {i : Nat} {w : List Int} (h : ways[i]? = some w) : wayOf ways i = w.map Int.toNat := by
  unfold wayOf; rw [List.getD_eq_getElem?_getD, h]; rfl
theorem toNat_nodup {m : Nat} {w : List Int} (h : ∀ x ∈ w, 0 ≤ x ∧ x ≤ (m : Int) - 1) (hn : w.Nodup) : (w.map Int.toNat).Nodup := by
  induction w with
  | nil => simp
  | cons y r ih =>
    rw [List.map_cons, List.nodup_cons]
    rw [List.nodup_cons] at hn
    refine ⟨?_, ih (fun x hx => h x (by simp [hx])) hn.2⟩
    intro hm
    obtain ⟨z, hz, e⟩ := List.mem_map.1 hm
    have h1 := h y (by simp)
    have h2 := h z (by simp [hz])
    have : z = y := by omega
    exact hn.1 (this ▸ hz)
theorem MmOk.wok {room : List Int} {ways : List (List Int)} (h : MmOk room ways) : WOk ways.length room.length (wayOf ways) := by
  refine ⟨fun i hi x hx => ?_, fun i hi => ?_, fun i hi => ?_⟩
  · obtain ⟨w, hw⟩ : ∃ w, ways[i]? = some w := ⟨_, List.getElem?_eq_getElem hi⟩
    rw [wayOf_get hw] at hx
    obtain ⟨z, hz, rfl⟩ := List.mem_map.1 hx
    have := (h.each w (List.mem_iff_getElem?.2 ⟨i, hw⟩)).2.1 z hz
    omega
  · obtain ⟨w, hw⟩ : ∃ w, ways[i]? = some w := ⟨_, List.getElem?_eq_getElem hi⟩
    rw [wayOf_get hw]
    have := h.each w (List.mem_iff_getElem?.2 ⟨i, hw⟩)
    exact toNat_nodup this.2.1 this.2.2
  · obtain ⟨w, hw⟩ : ∃ w, ways[i]? = some w := ⟨_, List.getElem?_eq_getElem hi⟩
    rw [wayOf_get hw]
    have := (h.each w (List.mem_iff_getElem?.2 ⟨i, hw⟩)).1
    intro e
    apply this
    have := congrArg List.length e
    simpa using this
theorem MmOk.room_bd {room : List Int} {ways : List (List Int)} (h : MmOk room ways) : ∀ x, x < room.length → 0 ≤ roomOf room x ∧ roomOf room x ≤ 1000 := fun x hx => by
  have hr := List.getElem?_eq_getElem hx
  unfold roomOf
  rw [List.getD_eq_getElem?_getD, hr]
  exact h.rooms _ (List.mem_iff_getElem?.2 ⟨x, hr⟩)
theorem room_arr (room : List Int) : room = arr (roomOf room) room.length := arr_of room _ fun i x h => by unfold roomOf; rw [List.getD_eq_getElem?_getD, h]; rfl
/-- What the call gives. -/
def mmOut (room : List Int) (ways : List (List Int)) : List Int := arr (fun i => ((mmShare ways.length (wayOf ways) (roomOf room)).out i : Int)) ways.length

theorem mmShare_err (ro : Option Addr) (rl rc : Nat) (room : List Int) (ao : Option Addr) (len ac B : Nat) (rs : List Stp) (c : Int) (w : World) (hM : IntSl B w ro room) (hrl : rl = room.length) (hrm : room.length ≤ 9223372036854775807)
    (hA : RowSl B w ao 1 (rs.map stpC)) (hr : StpsOk B w rs) (hlen : len = rs.length) (hl : rs.length ≤ 9223372036854775807) (hc : c = mmCode room (rowsOf rs)) (h0 : ¬ c = 0) :
    Calls Tryd.prog 8 #[.slice ro rl rc, .slice ao len ac] w fun e w' => e = .returned (.tuple #[.slice none 0 0, .iface 36 (.int .i64 c)]) ∧ w = w' := by
  subst hlen hrl
  have HM := Lib.hid hM; clear hM
  have HA := Lib.hid hA; clear hA
  have HR := Lib.hid hr; clear hr
  have HC := Lib.hid hc; clear hc
  have H0 := Lib.hid h0; clear h0
  go_enter Tryd.func8, Tryd.ntmps8
  go_wp2_with fail
  refine (mmCheck_any _ _ _ room _ _ _ _ rs _ HM.out rfl hrm HA.out HR.out rfl hl).mono ?_
  rintro e w' ⟨rfl, rfl⟩
  rw [← HC.out, errV_not H0.out]
  go_wp2
  go_ret2
  exact ⟨rfl, rfl⟩

set_option maxHeartbeats 4000000 in
set_option maxRecDepth 100000 in
theorem mmShare_ok (ro : Option Addr) (rl rc : Nat) (room : List Int) (ao : Option Addr) (len ac B0 : Nat) (rs : List Stp) (w : World) (hM : IntSl B0 w ro room) (hrl : rl = room.length)
    (hA : RowSl B0 w ao 1 (rs.map stpC)) (hr : StpsOk B0 w rs) (hlen : len = rs.length) (hB : B0 ≤ w.heap.size) (hok : MmOk room (rowsOf rs)) :
    Calls Tryd.prog 8 #[.slice ro rl rc, .slice ao len ac] w fun e w' => ∃ va, e = .returned (.tuple #[va, .nilIface]) ∧ Sep w.heap.size w' [Ent.ints 3 va (mmOut room (rowsOf rs))] ∧ Below w.heap.size w w' := by
  subst hlen hrl
  have hm6 := hok.links
  have hn5 : rs.length ≤ 5 := by rw [← rowsOf_len]; exact hok.few
  have HM := Lib.hid hM; clear hM
  have HA := Lib.hid hA; clear hA
  have HR := Lib.hid hr; clear hr
  have HOK := Lib.hid hok; clear hok
  go_enter Tryd.func8, Tryd.ntmps8
  go_wp2_with fail
  refine (mmCheck_any _ _ _ room _ _ _ _ rs _ HM.out rfl (by omega) HA.out HR.out rfl (by omega)).mono ?_
  rintro e w' ⟨rfl, rfl⟩
  rw [mmCode_zero.2 HOK.out, errV_zero]
  go_wp2_with fail
  have hclone : Calls Tryd.prog 17 #[.slice ro room.length rc] w fun e w' => ∃ v, e = .returned v ∧ Sep w.heap.size w' [Ent.ints 3 v room] ∧ Below w.heap.size w w' := by
    rcases Nat.eq_zero_or_pos room.length with h0 | h0
    · obtain rfl : room = [] := List.eq_nil_of_length_eq_zero h0
      exact clone_nil ro rc w
    · exact clone_any ro _ rc _ room w HM.out rfl hB h0 (by omega)
  refine hclone.mono ?_
  clear hclone
  rintro e w1 ⟨vl, rfl, hs1, hb1⟩
  obtain ⟨al, cl, rfl, hcl, hz1⟩ := hs1.intsShape (A := []) (C := [])
  obtain ⟨g, hg⟩ : ∃ g, g = w.heap.size := ⟨_, rfl⟩
  rw [← hg] at hs1 hb1
  have hgw1 : g ≤ w1.heap.size := by rw [hg]; exact hb1.size
  have hs2 := Sep.blkNew hs1 hgw1 #[.slice al room.length cl] 22
  have hb2 := hb1.alloc hgw1 (.cells #[.slice al room.length cl] 22)
  have hsz2 : (w1.alloc (.cells #[.slice al room.length cl] 22)).heap.size = w1.heap.size + 1 := by simp
  have hgg7 : g ≤ w1.heap.size := hgw1
  have hroom := room_arr room
  have hs3 : Sep g (w1.alloc (.cells #[.slice al room.length cl] 22)) [Ent.blk1 w1.heap.size 22 [.slice al room.length cl], Ent.ints 3 (.slice al room.length cl) (arr (roomOf room) room.length)] := by
    rw [← hroom]; exact hs2
  have HS3 := Lib.hid hs3
  have HB3 := Lib.hid hb2
  have HSZ := Lib.hid hsz2
  clear hs1 hs2 hs3 hb1 hb2 hsz2 hroom hgw1
  have HG := Lib.hid hg; clear hg
  have HZ1 := Lib.hid hz1; clear hz1
  go_upto_region 5 with fail
  obtain ⟨g7, hg7⟩ : ∃ g7, g7 = w1.heap.size := ⟨_, rfl⟩
  rw [← hg7] at HS3 HSZ hgg7 ⊢
  have HG7 := Lib.hid hg7; clear hg7
  generalize w1.alloc (.cells #[.slice al room.length cl] 22) = w3 at *
  have hgl3 : g ≤ w3.heap.size := by rw [HSZ.out]; omega
  go_wp2_with (at_make; refine wpList_make_sep rfl _ _ rfl elemInt8 .i64 .i64 rs.length rs.length rs.length rfl rfl rfl rfl (by omega) (by unfold maxLen; omega) HS3.out hgl3 ?_)
  intro w4 hsep4 hbel4 hsz4
  have hgl4 : g ≤ w4.heap.size := Nat.le_trans hgl3 hbel4.size
  have HS4 := Lib.hid hsep4; clear hsep4
  have HB4 := Lib.hid (HB3.out.trans (hbel4.mono hgl3)); clear hbel4 hsz4
  go_wp2_with (at_make; refine wpList_make_sep rfl _ _ rfl elemB .i64 .i64 rs.length rs.length rs.length rfl rfl rfl rfl (by omega) (by unfold maxLen; omega) HS4.out hgl4 ?_)
  intro w5 hsep5 hbel5 hsz5
  obtain ⟨g8, hg8⟩ : ∃ g8, g8 = w3.heap.size := ⟨_, rfl⟩
  obtain ⟨g9, hg9⟩ : ∃ g9, g9 = w4.heap.size := ⟨_, rfl⟩
  have hgg8 : g ≤ g8 := by rw [hg8]; exact hgl3
  have hgg9 : g ≤ g9 := by rw [hg9]; exact hgl4
  have hs5 : Sep g w5 [Ent.row (.slice (some ⟨g9, 0, none⟩) rs.length rs.length) rs.length 1 4 (arr (fun _ => .bool false) rs.length), Ent.ints 3 (.slice (some ⟨g8, 0, none⟩) rs.length rs.length) (arr (fun _ => ((0 : Nat) : Int)) rs.length),
      Ent.blk1 g7 22 [.slice al room.length cl], Ent.ints 3 (.slice al room.length cl) (arr (roomOf room) room.length)] := by
    have e1 : arr (fun _ => Value.bool false) rs.length = (madeCells #[.bool false] rs.length).toList := by rw [← arr_const, madeOne]
    have e2 : Ent.ints 3 (.slice (some ⟨g8, 0, none⟩) rs.length rs.length) (arr (fun _ => ((0 : Nat) : Int)) rs.length) = Ent.row (.slice (some ⟨g8, 0, none⟩) rs.length rs.length) rs.length 1 3 (madeCells #[.int .i64 0] rs.length).toList := by
      unfold Ent.ints
      rw [arr_len, ← arr_const, madeInts]; rfl
    rw [e1, e2, hg8, hg9]
    exact hsep5
  have HS5 := Lib.hid hs5
  have HB5 := Lib.hid (HB4.out.trans (hbel5.mono hgl4))
  rw [← hg8, ← hg9]
  clear hs5 hsep5 hbel5 hsz5 hg8 hg9 hgl3 hgl4
  go_wp2
  go_loopw [39] (fun i wr => ∃ k : Nat, k ≤ rs.length ∧ i = .int .i64 k ∧ Sep g wr [Ent.row (.slice (some ⟨g9, 0, none⟩) rs.length rs.length) rs.length 1 4 (arr (fun i => .bool (decide (i < k))) rs.length), Ent.ints 3 (.slice (some ⟨g8, 0, none⟩) rs.length rs.length) (arr (fun _ => ((0 : Nat) : Int)) rs.length),
      Ent.blk1 g7 22 [.slice al room.length cl], Ent.ints 3 (.slice al room.length cl) (arr (roomOf room) room.length)] ∧ Below g w wr) (fun i _ => rs.length - (intOf i).toNat)
  case atStart => exact ⟨0, Nat.zero_le _, rfl, by simpa using HS5.out, HB5.out⟩
  case round =>
    obtain ⟨k, hk, rfl, hsep, hbel⟩ := hrel
    have HS6 := Lib.hid hsep; clear hsep
    have HB6 := Lib.hid hbel; clear hbel
    by_cases hlt : k < rs.length
    · obtain ⟨d1, d2⟩ := HS6.out.rowCell (v := .bool (decide (k < k))) (arr_get hlt)
      rw [Nat.zero_add] at d1 d2
      have hset := Sep.rowSet (A := []) HS6.out k (.bool true)
      rw [arr_set, Nat.zero_add] at hset
      have hbs := HB6.out.setCell (p := ⟨g9, k, none⟩) hgg9 (.bool true)
      have hfun : arr (fun i => if i = k then Value.bool true else .bool (decide (i < k))) rs.length = arr (fun i => Value.bool (decide (i < k + 1))) rs.length := arr_congr fun i _ => by
        by_cases e : i = k
        · subst e; rw [if_pos rfl]; simp
        · rw [if_neg e]; congr 1; rw [Bool.eq_iff_iff]; simp; omega
      rw [hfun] at hset
      have HSET := Lib.hid hset
      have HBS := Lib.hid hbs
      clear hset hbs hfun
      go_wp2
      go_roundw
      case rel => exact ⟨k + 1, by omega, by go_num, HSET.out, HBS.out⟩
      case measure => simp [intOf]; omega
    · have hall : arr (fun i => Value.bool (decide (i < k))) rs.length = arr (fun i => Value.bool ((mmStart (roomOf room)).op i)) rs.length := arr_congr fun i hi => by
        show _ = Value.bool true
        congr 1; simp; omega
      have hs7 := HS6.out
      rw [hall] at hs7
      have HS7 : Hid (Sep g wr [Ent.row (.slice (some ⟨g9, 0, none⟩) rs.length rs.length) rs.length 1 4 (arr (fun i => .bool ((mmStart (roomOf room)).op i)) rs.length), Ent.ints 3 (.slice (some ⟨g8, 0, none⟩) rs.length rs.length) (arr (fun i => (((mmStart (roomOf room)).out i : Nat) : Int)) rs.length),
        Ent.blk1 g7 22 [.slice al room.length cl], Ent.ints 3 (.slice al room.length cl) (arr (mmStart (roomOf room)).L room.length)]) := hs7
      clear hs7 hall HS6 HS5
      obtain ⟨fin, hfin⟩ : ∃ fin, fin = mmShare rs.length (wayOf (rowsOf rs)) (roomOf room) := ⟨_, rfl⟩
      have hwok := HOK.out.wok
      rw [rowsOf_len] at hwok
      have HW := Lib.hid hwok; clear hwok
      have HFIN := Lib.hid hfin; clear hfin
      go_wp2
      go_loopg [] 1006 (fun gk wr => ∃ (s : MS) (t : Nat), Hid (MInv rs.length room.length (wayOf (rowsOf rs)) (roomOf room) s t) ∧ pot rs.length s t ≤ gk ∧ Hid (mmRun rs.length (wayOf (rowsOf rs)) gk s = fin) ∧
        Sep g wr [Ent.row (.slice (some ⟨g9, 0, none⟩) rs.length rs.length) rs.length 1 4 (arr (fun i => .bool (s.op i)) rs.length), Ent.ints 3 (.slice (some ⟨g8, 0, none⟩) rs.length rs.length) (arr (fun i => ((s.out i : Nat) : Int)) rs.length),
          Ent.blk1 g7 22 [.slice al room.length cl], Ent.ints 3 (.slice al room.length cl) (arr s.L room.length)] ∧ Below g w wr)
      case atStart =>
        refine ⟨mmStart (roomOf room), 0, MInv.start _ _ _ _ fun x hx => (HOK.out.room_bd x hx).1, ?_, HFIN.out.symm, HS7.out, HB6.out⟩
        have := opens_le rs.length (mmStart (roomOf room))
        unfold pot; omega
      case round =>
        obtain ⟨go, rfl⟩ : ∃ go, go = gk := ⟨_, rfl⟩
        obtain ⟨s, t, hinv, hpot, hrun, hsep, hbel⟩ := hrel
        have HS8 := Lib.hid hsep; clear hsep
        have HB8 := Lib.hid hbel; clear hbel
        have HPOT := Lib.hid hpot; clear hpot
        have hcb := containsB_any g9 0 rs.length rs.length s.op (anyOpen rs.length s) wr (fun j hj => by rw [Nat.zero_add]; exact (arrB_at (A := []) HS8.out hj).1) (by omega) rfl
        have HCB := Lib.hid hcb; clear hcb
        go_wp2_with fail
        refine HCB.out.mono ?_
        rintro e w9 ⟨rfl, rfl⟩
        cases ho : anyOpen rs.length s with
        | false =>
          have hend : s = fin := by have := hrun.out; rwa [mmRun_stop ho] at this
          have HE := Lib.hid hend; clear hend
          have HO := Lib.hid ho; clear ho
          go_wp2
          go_ret2
          have hs9 := HS8.out.sub (L' := [_]) (List.Sublist.cons _ (List.Sublist.cons_cons _ (List.nil_sublist _)))
          refine ⟨_, rfl, ?_, by have h9 := HB8.out; rw [HG.out] at h9; exact h9⟩
          unfold mmOut
          rw [rowsOf_len, ← HFIN.out, ← HE.out]
          rw [HG.out] at hs9
          exact hs9
        | true =>
          have hgl8 : g ≤ wr.heap.size := by have := HB8.out.size; rw [← HG.out] at this; exact this
          have HO := Lib.hid ho; clear ho
          go_wp2_with (at_make; refine wpList_make_sep rfl _ _ rfl elemInt8 .i64 .i64 room.length room.length room.length rfl rfl rfl rfl (by omega) (by unfold maxLen; omega) HS8.out hgl8 ?_)
          intro w10 hsep10 hbel10 hsz10
          have hgl10 : g ≤ w10.heap.size := Nat.le_trans hgl8 hbel10.size
          have hs11 := Sep.blkNew hsep10 hgl10 #[.slice (some ⟨wr.heap.size, 0, none⟩) room.length room.length] 22
          have hb11 := (HB8.out.trans (hbel10.mono hgl8)).alloc hgl10 (.cells #[.slice (some ⟨wr.heap.size, 0, none⟩) room.length room.length] 22)
          have e2 : Ent.ints 3 (.slice (some ⟨wr.heap.size, 0, none⟩) room.length room.length) (arr (fun x => ((needP (wayOf (rowsOf rs)) s.op 0 x : Nat) : Int)) room.length) = Ent.row (.slice (some ⟨wr.heap.size, 0, none⟩) room.length room.length) room.length 1 3 (madeCells #[.int .i64 0] room.length).toList := by
            unfold Ent.ints
            rw [arr_len]
            rw [show arr (fun x => ((needP (wayOf (rowsOf rs)) s.op 0 x : Nat) : Int)) room.length = arr (fun _ => (0 : Int)) room.length from rfl]
            rw [← arr_const, madeInts]
          have hs12 : Sep g (w10.alloc (.cells #[.slice (some ⟨wr.heap.size, 0, none⟩) room.length room.length] 22)) (Ent.blk1 w10.heap.size 22 [.slice (some ⟨wr.heap.size, 0, none⟩) room.length room.length] ::
              Ent.ints 3 (.slice (some ⟨wr.heap.size, 0, none⟩) room.length room.length) (arr (fun x => ((needP (wayOf (rowsOf rs)) s.op 0 x : Nat) : Int)) room.length) ::
              [Ent.row (.slice (some ⟨g9, 0, none⟩) rs.length rs.length) rs.length 1 4 (arr (fun i => .bool (s.op i)) rs.length), Ent.ints 3 (.slice (some ⟨g8, 0, none⟩) rs.length rs.length) (arr (fun i => ((s.out i : Nat) : Int)) rs.length),
                Ent.blk1 g7 22 [.slice al room.length cl], Ent.ints 3 (.slice al room.length cl) (arr s.L room.length)]) := by
            rw [e2]; exact hs11
          have HS12 := Lib.hid hs12
          have HB12 := Lib.hid hb11
          clear hs11 hs12 hb11 e2 hsep10 hbel10 hsz10
          go_upto_region 14 with fail
          obtain ⟨gn, hgn⟩ : ∃ gn, gn = wr.heap.size := ⟨_, rfl⟩
          obtain ⟨gv, hgv⟩ : ∃ gv, gv = w10.heap.size := ⟨_, rfl⟩
          rw [← hgn] at HS12 HB12 hgl8 ⊢
          rw [← hgv] at HS12 hgl10 ⊢
          clear hgn hgv
          generalize w10.alloc (.cells #[.slice (some ⟨gn, 0, none⟩) room.length room.length] 22) = w12 at *
          go_wp2
          go_loopg [53] rs.length (fun gk i wr => ∃ k : Nat, gk + k = rs.length ∧ i = .int .i64 k ∧ Sep g wr (Ent.blk1 gv 22 [.slice (some ⟨gn, 0, none⟩) room.length room.length] ::
              Ent.ints 3 (.slice (some ⟨gn, 0, none⟩) room.length room.length) (arr (fun x => ((needP (wayOf (rowsOf rs)) s.op k x : Nat) : Int)) room.length) ::
              [Ent.row (.slice (some ⟨g9, 0, none⟩) rs.length rs.length) rs.length 1 4 (arr (fun i => .bool (s.op i)) rs.length), Ent.ints 3 (.slice (some ⟨g8, 0, none⟩) rs.length rs.length) (arr (fun i => ((s.out i : Nat) : Int)) rs.length),
                Ent.blk1 g7 22 [.slice al room.length cl], Ent.ints 3 (.slice al room.length cl) (arr s.L room.length)]) ∧ Below g w wr)
          case atStart => exact ⟨0, rfl, rfl, HS12.out, HB12.out⟩
          case round =>
            obtain ⟨gi, rfl⟩ : ∃ gi, gi = gk := ⟨_, rfl⟩
            obtain ⟨k, hgk, rfl, hsep, hbel⟩ := hrel
            have HS13 := Lib.hid hsep; clear hsep
            have HB13 := Lib.hid hbel; clear hbel
            by_cases hlt : k < rs.length
            · obtain ⟨⟨ra, rc', xs⟩, hrk⟩ : ∃ r, rs[k]? = some r := ⟨_, List.getElem?_eq_getElem hlt⟩
              have hBg : B0 ≤ g := by rw [HG.out]; exact hB
              obtain ⟨b, off, rfl, hbb, c0⟩ := rows_at (HA.out.below (HB13.out.mono hBg)) hrk
              obtain ⟨hi, hrl, hrm2⟩ := HR.out _ (List.mem_iff_getElem?.2 ⟨k, hrk⟩)
              have hwk := wayOf_get (rowsOf_get hrk)
              have hxm := (HOK.out.each xs (List.mem_iff_getElem?.2 ⟨k, rowsOf_get hrk⟩)).2.1
              simp only at hi hrl hrm2 c0 hwk
              unfold maxLen at hrm2
              have HI := Lib.hid hi; clear hi
              have HWK := Lib.hid hwk; clear hwk
              have HXM := Lib.hid hxm; clear hxm hrk
              have hstart : arr (fun x => ((needP (wayOf (rowsOf rs)) s.op k x : Nat) : Int)) room.length =
                  arr (fun x => ((needJ (wayOf (rowsOf rs)) s.op k 0 x : Nat) : Int)) room.length := arr_congr fun x _ => by rw [needJ_zero]
              have HST := Lib.hid hstart; clear hstart
              go_wp2
              go_loopg [60] xs.length (fun gk i wr => ∃ j : Nat, gk + j = xs.length ∧ i = .int .i64 j ∧ Sep g wr (Ent.blk1 gv 22 [.slice (some ⟨gn, 0, none⟩) room.length room.length] ::
                  Ent.ints 3 (.slice (some ⟨gn, 0, none⟩) room.length room.length) (arr (fun x => ((needJ (wayOf (rowsOf rs)) s.op k j x : Nat) : Int)) room.length) ::
                  [Ent.row (.slice (some ⟨g9, 0, none⟩) rs.length rs.length) rs.length 1 4 (arr (fun i => .bool (s.op i)) rs.length), Ent.ints 3 (.slice (some ⟨g8, 0, none⟩) rs.length rs.length) (arr (fun i => ((s.out i : Nat) : Int)) rs.length),
                    Ent.blk1 g7 22 [.slice al room.length cl], Ent.ints 3 (.slice al room.length cl) (arr s.L room.length)]) ∧ Below g w wr)
              case atStart => exact ⟨0, rfl, rfl, by rw [← HST.out]; exact HS13.out, HB13.out⟩
              case round =>
                obtain ⟨gj, rfl⟩ : ∃ gj, gj = gk := ⟨_, rfl⟩
                obtain ⟨j, hgj, rfl, hsep, hbel⟩ := hrel
                have HS14 := Lib.hid hsep; clear hsep
                have HB14 := Lib.hid hbel; clear hbel
                by_cases hjl : j < xs.length
                · obtain ⟨x, hx⟩ : ∃ x, xs[j]? = some x := ⟨_, List.getElem?_eq_getElem hjl⟩
                  obtain ⟨b2, o2, rfl, _, cx⟩ := (HI.out.below (HB14.out.mono hBg)) j x hx
                  have hxb := HXM.out x (List.mem_iff_getElem?.2 ⟨j, hx⟩)
                  obtain ⟨y, rfl⟩ := Int.eq_ofNat_of_zero_le hxb.1
                  have hym : y < room.length := by omega
                  have htk : (wayOf (rowsOf rs) k).take (j + 1) = (wayOf (rowsOf rs) k).take j ++ [y] := by
                    rw [HWK.out, List.take_add_one, List.getElem?_map, hx]; rfl
                  obtain ⟨ob, hob⟩ : ∃ ob, ob = s.op k := ⟨_, rfl⟩
                  obtain ⟨o1, _, _⟩ := arrB_at (A := [_, _]) HS14.out hlt
                  obtain ⟨v1, _⟩ := HS14.out.blkAt (A := []) (j := 0) rfl
                  obtain ⟨g2, o3, he, hgg2, n1, n2, nset⟩ := arrI_at (A := [_]) HS14.out hym
                  simp only [Option.some.injEq, Addr.mk.injEq, and_true] at he
                  obtain ⟨rfl, rfl⟩ := he
                  simp only [Nat.zero_add] at n1 n2 nset
                  obtain ⟨nv, hnv⟩ : ∃ nv, nv = (needJ (wayOf (rowsOf rs)) s.op k j y) := ⟨_, rfl⟩
                  rw [← hnv] at n1
                  rw [← hob] at o1
                  have HX := Lib.hid hx; clear hx
                  have HTK := Lib.hid htk; clear htk
                  have hnvb : nv ≤ 1000000 := by
                    have h1 := needJ_le HW.out (op := s.op) hlt j y
                    rw [hnv]; omega
                  have HNV := Lib.hid hnv; clear hnv
                  cases ob with
                  | true =>
                    have hset := nset ((nv : Int) + 1)
                    have hfun : arr (fun i => if i = y then ((nv : Int) + 1) else ((needJ (wayOf (rowsOf rs)) s.op k j i : Nat) : Int)) room.length = arr (fun x => ((needJ (wayOf (rowsOf rs)) s.op k (j + 1) x : Nat) : Int)) room.length := arr_congr fun x _ => by
                      rw [needJ_on hob.symm HTK.out x]
                      by_cases e : x = y
                      · rw [if_pos e, if_pos e, HNV.out]; omega
                      · rw [if_neg e, if_neg e]
                    rw [hfun] at hset
                    have hbs := HB14.out.setCell (p := ⟨gn, y, none⟩) hgl8 (.int .i64 ((nv : Int) + 1))
                    have HSET := Lib.hid hset
                    have HBS := Lib.hid hbs
                    clear hset hbs hfun nset hob
                    go_wp2
                    go_roundg (gj - 1)
                    case measure => omega
                    case rel => exact ⟨j + 1, by omega, by go_num, HSET.out, HBS.out⟩
                  | false =>
                    have hfun : arr (fun x => ((needJ (wayOf (rowsOf rs)) s.op k j x : Nat) : Int)) room.length = arr (fun x => ((needJ (wayOf (rowsOf rs)) s.op k (j + 1) x : Nat) : Int)) room.length := arr_congr fun x _ => by rw [needJ_off hob.symm j (j + 1) x]
                    have HFUN := Lib.hid hfun; clear hfun nset hob
                    go_wp2
                    go_roundg (gj - 1)
                    case measure => omega
                    case rel => exact ⟨j + 1, by omega, by go_num, by rw [← HFUN.out]; exact HS14.out, HB14.out⟩
                · have hfun : arr (fun x => ((needJ (wayOf (rowsOf rs)) s.op k j x : Nat) : Int)) room.length = arr (fun x => ((needP (wayOf (rowsOf rs)) s.op (k + 1) x : Nat) : Int)) room.length := arr_congr fun x _ => by
                    rw [needJ_end (by rw [HWK.out, List.length_map]; omega)]
                  have HFUN := Lib.hid hfun; clear hfun
                  go_wp2
                  go_roundg (gi - 1)
                  case measure => omega
                  case rel => exact ⟨k + 1, by omega, by go_num, by rw [← HFUN.out]; exact HS14.out, HB14.out⟩
            · have hkn : k = rs.length := by omega
              have hs15 := HS13.out
              rw [hkn] at hs15
              have h0 : arr (fun i => Value.bool (s.op i)) rs.length = arr (fun i => Value.bool (if i < 0 then closed rs.length (wayOf (rowsOf rs)) s i else s.op i)) rs.length := arr_congr fun i _ => by rw [if_neg (by omega)]
              have H0 := Lib.hid h0; clear h0
              have HS15 := Lib.hid hs15; clear hs15 hkn
              have hBg : B0 ≤ g := by rw [HG.out]; exact hB
              go_wp2
              go_loopg [16, 78] rs.length (fun gk sh i wr => ∃ k : Nat, gk + k = rs.length ∧ i = .int .i64 k ∧ sh = .bool (anyT rs.length (wayOf (rowsOf rs)) s k) ∧ Sep g wr (Ent.blk1 gv 22 [.slice (some ⟨gn, 0, none⟩) room.length room.length] :: Ent.ints 3 (.slice (some ⟨gn, 0, none⟩) room.length room.length) (arr (fun x => ((need rs.length (wayOf (rowsOf rs)) s.op x : Nat) : Int)) room.length) ::
              [Ent.row (.slice (some ⟨g9, 0, none⟩) rs.length rs.length) rs.length 1 4 (arr (fun i => .bool (if i < k then closed rs.length (wayOf (rowsOf rs)) s i else s.op i)) rs.length), Ent.ints 3 (.slice (some ⟨g8, 0, none⟩) rs.length rs.length) (arr (fun i => ((s.out i : Nat) : Int)) rs.length),
                Ent.blk1 g7 22 [.slice al room.length cl], Ent.ints 3 (.slice al room.length cl) (arr (s.L) room.length)]) ∧ Below g w wr)
              case atStart => exact ⟨0, rfl, rfl, rfl, by rw [← H0.out]; exact HS15.out, HB13.out⟩
              case round =>
                obtain ⟨gi, rfl⟩ : ∃ gi, gi = gk := ⟨_, rfl⟩
                obtain ⟨k, hgk, rfl, rfl, hsep, hbel⟩ := hrel
                obtain ⟨sh, hsh⟩ : ∃ sh, sh = anyT rs.length (wayOf (rowsOf rs)) s k := ⟨_, rfl⟩
                rw [← hsh]
                have HSH := Lib.hid hsh; clear hsh
                have HS16 := Lib.hid hsep; clear hsep
                have HB16 := Lib.hid hbel; clear hbel
                by_cases hlt : k < rs.length
                · obtain ⟨⟨ra, rc', xs⟩, hrk⟩ : ∃ r, rs[k]? = some r := ⟨_, List.getElem?_eq_getElem hlt⟩
                  obtain ⟨b, off, rfl, hbb, c0⟩ := rows_at (HA.out.below (HB16.out.mono hBg)) hrk
                  obtain ⟨hi, hrl, hrm2⟩ := (HR.out.below (HB16.out.mono hBg)) _ (List.mem_iff_getElem?.2 ⟨k, hrk⟩)
                  have hwk := wayOf_get (rowsOf_get hrk)
                  have hxm := HOK.out.each xs (List.mem_iff_getElem?.2 ⟨k, rowsOf_get hrk⟩)
                  simp only at hi hrl hrm2 c0 hwk
                  unfold maxLen at hrm2
                  have hm0 : 0 < room.length := by
                    cases xs with
                    | nil => simp at hxm
                    | cons z r => have := hxm.2.1 z (by simp); omega
                  have hxl : xs.length ≤ 1000 := by
                    have h1 := toNat_nodup hxm.2.1 hxm.2.2
                    have h2 := nodup_len room.length (xs.map Int.toNat) h1 (fun z hz => by
                      obtain ⟨u, hu, rfl⟩ := List.mem_map.1 hz
                      have := hxm.2.1 u hu
                      omega)
                    rw [List.length_map] at h2; omega
                  have HI := Lib.hid hi; clear hi
                  have HWK := Lib.hid hwk; clear hwk
                  have HXM := Lib.hid hxm.2.1; clear hxm hrk
                  obtain ⟨o1, o2, oset⟩ := arrB_at (A := [_, _]) HS16.out hlt
                  rw [if_neg (by omega)] at o1
                  cases hob : s.op k with
                  | true =>
                    rw [hob] at o1
                    have HOB := Lib.hid hob; clear hob
                    have htv : TwoVars wr ⟨g7, 0, none⟩ ⟨gv, 0, none⟩ room.length s.L (fun x => ((need rs.length (wayOf (rowsOf rs)) s.op x : Nat) : Int)) := by
                      obtain ⟨gl, ol, hal, _, _, _, _⟩ := arrI_at (A := [_, _, _, _, _]) (C := []) HS16.out hm0
                      refine ⟨gl, ol, cl, gn, 0, room.length, ?_, (HS16.out.blkAt (A := []) (j := 0) rfl).1, ?_, ?_⟩
                      · rw [← hal]; exact (HS16.out.blkAt (A := [_, _, _, _]) (j := 0) rfl).1
                      · intro j hj
                        obtain ⟨gl', ol', hal', _, d1, _, _⟩ := arrI_at (A := [_, _, _, _, _]) (C := []) HS16.out hj
                        rw [hal] at hal'
                        simp only [Option.some.injEq, Addr.mk.injEq, and_true] at hal'
                        obtain ⟨rfl, rfl⟩ := hal'
                        exact d1
                      · intro j hj
                        obtain ⟨gl', ol', hal', _, d1, _, _⟩ := arrI_at (A := [_]) HS16.out hj
                        simp only [Option.some.injEq, Addr.mk.injEq, and_true] at hal'
                        obtain ⟨rfl, rfl⟩ := hal'
                        exact d1
                    have hcf := containsFunc_any ra xs.length rc' B0 xs ⟨g7, 0, none⟩ ⟨gv, 0, none⟩ room.length s.L (need rs.length (wayOf (rowsOf rs)) s.op) wr HI.out rfl (by omega) (by omega) htv (fun x hx => by have := HXM.out x hx; omega)
                    rw [← HWK.out] at hcf
                    have hsucc := anyT_succ rs.length (wayOf (rowsOf rs)) s k
                    rw [HOB.out, Bool.true_and, ← HSH.out] at hsucc
                    have hclk : closed rs.length (wayOf (rowsOf rs)) s k = !tight s.L (need rs.length (wayOf (rowsOf rs)) s.op) (wayOf (rowsOf rs) k) := by unfold closed; rw [HOB.out, Bool.true_and]
                    cases htt : tight s.L (need rs.length (wayOf (rowsOf rs)) s.op) (wayOf (rowsOf rs) k) with
                    | true =>
                      rw [htt] at hcf hsucc hclk
                      have HCF := Lib.hid hcf
                      have HSU := Lib.hid hsucc
                      have HCK := Lib.hid hclk
                      clear hcf hsucc hclk htv oset htt
                      go_wp2_with fail
                      refine HCF.out.mono ?_
                      rintro e w17 ⟨rfl, n2, rfl⟩
                      have HS17 := Lib.hid (HS16.out.drewN n2)
                      have HB17 := Lib.hid (HB16.out.trans (below_drewN g wr n2))
                      clear o1 o2 c0
                      generalize wr.drewN n2 = w17 at *
                      obtain ⟨o1, o2, oset⟩ := arrB_at (A := [_, _]) HS17.out hlt
                      have hset := oset false
                      have hfun : arr (fun i => Value.bool (if i = k then false else if i < k then closed rs.length (wayOf (rowsOf rs)) s i else s.op i)) rs.length = arr (fun i => Value.bool (if i < k + 1 then closed rs.length (wayOf (rowsOf rs)) s i else s.op i)) rs.length := arr_congr fun i _ => by
                        by_cases e : i = k
                        · subst e; rw [if_pos rfl, if_pos (by omega), HCK.out]; rfl
                        · rw [if_neg e]
                          by_cases e2 : i < k
                          · rw [if_pos e2, if_pos (by omega)]
                          · rw [if_neg e2, if_neg (by omega)]
                      rw [hfun] at hset
                      have hbs := HB17.out.setCell (p := ⟨g9, k, none⟩) hgg9 (.bool false)
                      have HSET := Lib.hid hset
                      have HBS := Lib.hid hbs
                      clear hset hbs hfun oset
                      go_wp2
                      go_roundg (gi - 1)
                      case measure => omega
                      case rel => exact ⟨k + 1, by omega, by go_num, by rw [HSU.out]; simp, HSET.out, HBS.out⟩
                    | false =>
                      rw [htt] at hcf hsucc hclk
                      have HCF := Lib.hid hcf
                      have HSU := Lib.hid hsucc
                      have HCK := Lib.hid hclk
                      clear hcf hsucc hclk htv oset htt
                      go_wp2_with fail
                      refine HCF.out.mono ?_
                      rintro e w17 ⟨rfl, n2, rfl⟩
                      have hfun : arr (fun i => Value.bool (if i < k then closed rs.length (wayOf (rowsOf rs)) s i else s.op i)) rs.length = arr (fun i => Value.bool (if i < k + 1 then closed rs.length (wayOf (rowsOf rs)) s i else s.op i)) rs.length := arr_congr fun i _ => by
                        by_cases e : i = k
                        · subst e; rw [if_neg (by omega), if_pos (by omega), HCK.out, HOB.out]; rfl
                        · by_cases e2 : i < k
                          · rw [if_pos e2, if_pos (by omega)]
                          · rw [if_neg e2, if_neg (by omega)]
                      have HS17 := Lib.hid (HS16.out.drewN n2)
                      have HB17 := Lib.hid (HB16.out.trans (below_drewN g wr n2))
                      have HFUN := Lib.hid hfun; clear hfun
                      clear o1 o2 c0
                      generalize wr.drewN n2 = w17 at *
                      go_wp2
                      go_roundg (gi - 1)
                      case measure => omega
                      case rel => exact ⟨k + 1, by omega, by go_num, by rw [HSU.out]; simp, by rw [← HFUN.out]; exact HS17.out, HB17.out⟩
                  | false =>
                    rw [hob] at o1
                    have hfun : arr (fun i => Value.bool (if i < k then closed rs.length (wayOf (rowsOf rs)) s i else s.op i)) rs.length = arr (fun i => Value.bool (if i < k + 1 then closed rs.length (wayOf (rowsOf rs)) s i else s.op i)) rs.length := arr_congr fun i _ => by
                      by_cases e : i = k
                      · subst e; rw [if_neg (by omega), if_pos (by omega), hob]; unfold closed; rw [hob]; rfl
                      · by_cases e2 : i < k
                        · rw [if_pos e2, if_pos (by omega)]
                        · rw [if_neg e2, if_neg (by omega)]
                    have hsucc := anyT_succ rs.length (wayOf (rowsOf rs)) s k
                    rw [hob, Bool.false_and, Bool.or_false, ← HSH.out] at hsucc
                    have HSU := Lib.hid hsucc; clear hsucc
                    have HFUN := Lib.hid hfun; clear hfun oset hob
                    go_wp2
                    go_roundg (gi - 1)
                    case measure => omega
                    case rel => exact ⟨k + 1, by omega, by go_num, by rw [HSU.out], by rw [← HFUN.out]; exact HS16.out, HB16.out⟩
                · have hkn : k = rs.length := by omega
                  have hclo : arr (fun i => Value.bool (if i < k then closed rs.length (wayOf (rowsOf rs)) s i else s.op i)) rs.length = arr (fun i => Value.bool (closed rs.length (wayOf (rowsOf rs)) s i)) rs.length := arr_congr fun i hi => by rw [if_pos (by omega)]
                  have hs18 := HS16.out
                  rw [hclo] at hs18
                  have hs19 := (hs18.sub (List.sublist_cons_self _ _)).sub (List.sublist_cons_self _ _)
                  have hshn := HSH.out
                  rw [hkn] at hshn
                  obtain ⟨t', hinv', hpot'⟩ := hinv.out.step HW.out (fun x hx => (HOK.out.room_bd x hx).2) HO.out
                  have hpot := HPOT.out
                  obtain ⟨go', rfl⟩ : ∃ go', go = go' + 1 := ⟨go - 1, by omega⟩
                  have hrun' := hrun.out
                  rw [mmRun_go HO.out] at hrun'
                  have hpg : pot rs.length (mmStep rs.length (wayOf (rowsOf rs)) s) t' ≤ go' := by omega
                  cases hsh2 : sh with
                  | true =>
                    rw [hsh2] at hshn
                    have hstep : mmStep rs.length (wayOf (rowsOf rs)) s = ⟨s.L, closed rs.length (wayOf (rowsOf rs)) s, s.out⟩ := by unfold mmStep; rw [if_pos hshn.symm]
                    rw [hstep] at hinv' hpg hrun'
                    have HS19 := Lib.hid hs19
                    have HINV := Lib.hid hinv'
                    have HPG := Lib.hid hpg
                    have HRUN := Lib.hid hrun'
                    clear hs18 hs19 hinv' hpg hrun' hclo hpot hpot' hstep hshn
                    have HKN := Lib.hid hkn; clear hkn
                    have HS2 := Lib.hid hsh2; clear hsh2
                    go_wp2
                    go_roundg go'
                    case measure => omega
                    case rel => exact ⟨⟨s.L, closed rs.length (wayOf (rowsOf rs)) s, s.out⟩, t', HINV.out, HPG.out, HRUN.out, HS19.out, HB16.out⟩
                  | false =>
                    rw [hsh2] at hshn
                    have hsame : arr (fun i => Value.bool (closed rs.length (wayOf (rowsOf rs)) s i)) rs.length = arr (fun i => Value.bool (s.op i)) rs.length := arr_congr fun i hi => by
                      congr 1
                      unfold closed
                      cases hop : s.op i with
                      | false => rfl
                      | true =>
                        cases htt : tight s.L (need rs.length (wayOf (rowsOf rs)) s.op) (wayOf (rowsOf rs) i) with
                        | false => rfl
                        | true =>
                          have := anyT_iff.2 ⟨i, hi, hop, htt⟩
                          rw [← hshn] at this; cases this
                    rw [hsame] at hs19
                    have hstep : mmStep rs.length (wayOf (rowsOf rs)) s = ⟨fun x => s.L x - (need rs.length (wayOf (rowsOf rs)) s.op x : Int), s.op, fun i => if s.op i = true then s.out i + 1 else s.out i⟩ := by unfold mmStep; rw [if_neg (by rw [← hshn]; simp)]
                    rw [hstep] at hinv' hpg hrun'
                    have HS19 := Lib.hid hs19
                    have HINV := Lib.hid hinv'
                    have HPG := Lib.hid hpg
                    have HRUN := Lib.hid hrun'
                    clear hs18 hs19 hinv' hpg hrun' hclo hpot hpot' hstep hshn hsame
                    have HKN := Lib.hid hkn; clear hkn
                    have HS2 := Lib.hid hsh2; clear hsh2
                    go_wp2
                    go_loopg [99] rs.length (fun gk i wr => ∃ k : Nat, gk + k = rs.length ∧ i = .int .i64 k ∧ Sep g wr [Ent.row (.slice (some ⟨g9, 0, none⟩) rs.length rs.length) rs.length 1 4 (arr (fun i => .bool (s.op i)) rs.length), Ent.ints 3 (.slice (some ⟨g8, 0, none⟩) rs.length rs.length) (arr (fun i => ((if i < k then (if s.op i = true then s.out i + 1 else s.out i) else s.out i : Nat) : Int)) rs.length),
                Ent.blk1 g7 22 [.slice al room.length cl], Ent.ints 3 (.slice al room.length cl) (arr (fun x => s.L x - ((needP (wayOf (rowsOf rs)) s.op k x : Nat) : Int)) room.length)] ∧ Below g w wr)
                    case atStart =>
                      refine ⟨0, rfl, rfl, ?_, HB16.out⟩
                      have e1 : arr (fun i => (((if i < 0 then (if s.op i = true then s.out i + 1 else s.out i) else s.out i) : Nat) : Int)) rs.length = arr (fun i => ((s.out i : Nat) : Int)) rs.length := arr_congr fun i _ => by rw [if_neg (by omega)]
                      have e2 : arr (fun x => s.L x - ((needP (wayOf (rowsOf rs)) s.op 0 x : Nat) : Int)) room.length = arr s.L room.length := arr_congr fun x _ => by simp [needP, psum]
                      rw [e1, e2]; exact HS19.out
                    case round =>
                      obtain ⟨gi, rfl⟩ : ∃ gi, gi = gk := ⟨_, rfl⟩
                      obtain ⟨k, hgk, rfl, hsep, hbel⟩ := hrel
                      have HS20 := Lib.hid hsep; clear hsep
                      have HB20 := Lib.hid hbel; clear hbel
                      by_cases hlt : k < rs.length
                      · obtain ⟨⟨ra, rc', xs⟩, hrk⟩ : ∃ r, rs[k]? = some r := ⟨_, List.getElem?_eq_getElem hlt⟩
                        obtain ⟨b, off, rfl, hbb, c0⟩ := rows_at (HA.out.below (HB20.out.mono hBg)) hrk
                        obtain ⟨hi, hrl, hrm2⟩ := HR.out _ (List.mem_iff_getElem?.2 ⟨k, hrk⟩)
                        have hwk := wayOf_get (rowsOf_get hrk)
                        have hxm := HOK.out.each xs (List.mem_iff_getElem?.2 ⟨k, rowsOf_get hrk⟩)
                        simp only at hi hrl hrm2 c0 hwk
                        unfold maxLen at hrm2
                        have HI := Lib.hid hi; clear hi
                        have HWK := Lib.hid hwk; clear hwk
                        have HXM := Lib.hid hxm.2.1; clear hxm hrk
                        obtain ⟨o1, o2, _⟩ := arrB_at (A := []) HS20.out hlt
                        cases hob : s.op k with
                        | false =>
                          rw [hob] at o1
                          have e1 : arr (fun i => (((if i < k then (if s.op i = true then s.out i + 1 else s.out i) else s.out i) : Nat) : Int)) rs.length = arr (fun i => (((if i < k + 1 then (if s.op i = true then s.out i + 1 else s.out i) else s.out i) : Nat) : Int)) rs.length := arr_congr fun i _ => by
                            by_cases e : i = k
                            · subst e; rw [if_neg (Nat.lt_irrefl i), if_pos (Nat.lt_succ_self i), if_neg (by rw [hob]; simp)]
                            · by_cases e2 : i < k
                              · rw [if_pos e2, if_pos (show i < k + 1 by omega)]
                              · rw [if_neg e2, if_neg (show ¬ i < k + 1 by omega)]
                          have e2 : arr (fun x => s.L x - ((needP (wayOf (rowsOf rs)) s.op k x : Nat) : Int)) room.length = arr (fun x => s.L x - ((needP (wayOf (rowsOf rs)) s.op (k + 1) x : Nat) : Int)) room.length := arr_congr fun x _ => by
                            rw [← needJ_zero, ← needJ_end (Nat.le_refl (wayOf (rowsOf rs) k).length), needJ_off hob 0 (wayOf (rowsOf rs) k).length]
                          have hs22 := HS20.out
                          rw [e1, e2] at hs22
                          have HS22 := Lib.hid hs22; clear hs22 e1 e2 hob
                          go_wp2
                          go_roundg (gi - 1)
                          case measure => omega
                          case rel => exact ⟨k + 1, by omega, by go_num, HS22.out, HB20.out⟩
                        | true =>
                          rw [hob] at o1
                          have HOB := Lib.hid hob; clear hob
                          obtain ⟨g2, o3, he, _, n1, n2, nset⟩ := arrI_at (A := [_]) HS20.out hlt
                          simp only [Option.some.injEq, Addr.mk.injEq, and_true] at he
                          obtain ⟨rfl, rfl⟩ := he
                          rw [if_neg (Nat.lt_irrefl k)] at n1
                          simp only [Nat.zero_add] at n1 n2 nset
                          obtain ⟨ov, hov⟩ : ∃ ov, ov = s.out k := ⟨_, rfl⟩
                          rw [← hov] at n1
                          have hovb : ov ≤ 1000 := by rw [hov]; exact hinv.out.out_le HW.out (fun x hx => (HOK.out.room_bd x hx).2) hlt
                          have hset := nset ((ov : Int) + 1)
                          have e1 : arr (fun i => if i = k then (ov : Int) + 1 else (((if i < k then (if s.op i = true then s.out i + 1 else s.out i) else s.out i) : Nat) : Int)) rs.length = arr (fun i => (((if i < k + 1 then (if s.op i = true then s.out i + 1 else s.out i) else s.out i) : Nat) : Int)) rs.length := arr_congr fun i _ => by
                            by_cases e : i = k
                            · subst e; rw [if_pos rfl, if_pos (Nat.lt_succ_self i), if_pos HOB.out, hov]; rfl
                            · rw [if_neg e]
                              by_cases e2 : i < k
                              · rw [if_pos e2, if_pos (show i < k + 1 by omega)]
                              · rw [if_neg e2, if_neg (show ¬ i < k + 1 by omega)]
                          have e2 : arr (fun x => s.L x - ((needP (wayOf (rowsOf rs)) s.op k x : Nat) : Int)) room.length = arr (fun x => s.L x - ((needJ (wayOf (rowsOf rs)) s.op k 0 x : Nat) : Int)) room.length := arr_congr fun x _ => by rw [needJ_zero]
                          rw [e1, e2] at hset
                          have hbs := HB20.out.setCell (p := ⟨g8, k, none⟩) hgg8 (.int .i64 ((ov : Int) + 1))
                          have HSET := Lib.hid hset
                          have HBS := Lib.hid hbs
                          clear hset hbs e1 e2 nset
                          have HOV := Lib.hid hov; clear hov
                          go_wp2
                          go_loopg [117] xs.length (fun gk i wr => ∃ j : Nat, gk + j = xs.length ∧ i = .int .i64 j ∧ Sep g wr [Ent.row (.slice (some ⟨g9, 0, none⟩) rs.length rs.length) rs.length 1 4 (arr (fun i => .bool (s.op i)) rs.length), Ent.ints 3 (.slice (some ⟨g8, 0, none⟩) rs.length rs.length) (arr (fun i => ((if i < k + 1 then (if s.op i = true then s.out i + 1 else s.out i) else s.out i : Nat) : Int)) rs.length),
                Ent.blk1 g7 22 [.slice al room.length cl], Ent.ints 3 (.slice al room.length cl) (arr (fun x => s.L x - ((needJ (wayOf (rowsOf rs)) s.op k j x : Nat) : Int)) room.length)] ∧ Below g w wr)
                          case atStart => exact ⟨0, rfl, rfl, HSET.out, HBS.out⟩
                          case round =>
                            obtain ⟨gj, rfl⟩ : ∃ gj, gj = gk := ⟨_, rfl⟩
                            obtain ⟨j, hgj, rfl, hsep, hbel⟩ := hrel
                            have HS23 := Lib.hid hsep; clear hsep
                            have HB23 := Lib.hid hbel; clear hbel
                            by_cases hjl : j < xs.length
                            · obtain ⟨x, hx⟩ : ∃ x, xs[j]? = some x := ⟨_, List.getElem?_eq_getElem hjl⟩
                              obtain ⟨b2, o4, rfl, _, cx⟩ := (HI.out.below (HB23.out.mono hBg)) j x hx
                              have hxb := HXM.out x (List.mem_iff_getElem?.2 ⟨j, hx⟩)
                              obtain ⟨y, rfl⟩ := Int.eq_ofNat_of_zero_le hxb.1
                              have hym : y < room.length := by omega
                              have htk : (wayOf (rowsOf rs) k).take (j + 1) = (wayOf (rowsOf rs) k).take j ++ [y] := by
                                rw [HWK.out, List.take_add_one, List.getElem?_map, hx]; rfl
                              obtain ⟨v1, _⟩ := HS23.out.blkAt (A := [_, _]) (j := 0) rfl
                              obtain ⟨g2, o3, rfl, hgg2, n1, n2, nset⟩ := arrI_at (A := [_, _, _]) (C := []) HS23.out hym
                              obtain ⟨nv, hnv⟩ : ∃ nv : Int, nv = s.L y - ((needJ (wayOf (rowsOf rs)) s.op k j y : Nat) : Int) := ⟨_, rfl⟩
                              rw [← hnv] at n1
                              have hnvb : -100 ≤ nv ∧ nv ≤ 2000 := by
                                have h1 := needJ_le HW.out (op := s.op) hlt j y
                                have h2 := hinv.out.bd (fun x hx => (HOK.out.room_bd x hx).2) hym
                                rw [hnv]; omega
                              have hset := nset (nv - 1)
                              have hfun : arr (fun i => if i = y then nv - 1 else s.L i - ((needJ (wayOf (rowsOf rs)) s.op k j i : Nat) : Int)) room.length = arr (fun x => s.L x - ((needJ (wayOf (rowsOf rs)) s.op k (j + 1) x : Nat) : Int)) room.length := arr_congr fun x _ => by
                                rw [needJ_on HOB.out htk x]
                                by_cases e : x = y
                                · rw [if_pos e, if_pos e, hnv, e]; omega
                                · rw [if_neg e, if_neg e]
                              rw [hfun] at hset
                              have hbs := HB23.out.setCell (p := ⟨g2, o3 + y, none⟩) hgg2 (.int .i64 (nv - 1))
                              have HSET2 := Lib.hid hset
                              have HBS2 := Lib.hid hbs
                              clear hset hbs hfun nset htk hx
                              have HNV := Lib.hid hnv; clear hnv
                              go_wp2
                              go_roundg (gj - 1)
                              case measure => omega
                              case rel => exact ⟨j + 1, by omega, by go_num, HSET2.out, HBS2.out⟩
                            · have e3 : arr (fun x => s.L x - ((needJ (wayOf (rowsOf rs)) s.op k j x : Nat) : Int)) room.length = arr (fun x => s.L x - ((needP (wayOf (rowsOf rs)) s.op (k + 1) x : Nat) : Int)) room.length := arr_congr fun x _ => by
                                rw [needJ_end (by rw [HWK.out, List.length_map]; omega)]
                              have hs24 := HS23.out
                              rw [e3] at hs24
                              have HS24 := Lib.hid hs24; clear hs24 e3
                              go_wp2
                              go_roundg (gi - 1)
                              case measure => omega
                              case rel => exact ⟨k + 1, by omega, by go_num, HS24.out, HB23.out⟩
                      · have hkn : k = rs.length := by omega
                        have e1 : arr (fun i => (((if i < k then (if s.op i = true then s.out i + 1 else s.out i) else s.out i) : Nat) : Int)) rs.length = arr (fun i => (((if s.op i = true then s.out i + 1 else s.out i) : Nat) : Int)) rs.length := arr_congr fun i hi => by rw [if_pos (by omega)]
                        have hs21 := HS20.out
                        rw [e1, hkn] at hs21
                        have HS21 := Lib.hid hs21; clear hs21 e1
                        have HKN := Lib.hid hkn; clear hkn
                        go_wp2
                        go_roundg go'
                        case measure => omega
                        case rel => exact ⟨_, t', HINV.out, HPG.out, HRUN.out, HS21.out, HB20.out⟩
end Go.Proofs.YtfnfelmaidfppaaDoor
