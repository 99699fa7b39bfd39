/- TopLent returns true: a port that is lent leads back, and its address has the hop that was set. -/
import Derived.Test.YtbcfcjecobihnaaNatOutAny
import Derived.Test.YtbcfcjecobihnaaNatLaws
import Derived.Test.YtbcfcjecobihnaaPlsLaw
import Derived.Test.YtbcfcjecobihnaaInTop
import Derived.Test.YtbcfcjecobihnaaLpmSet
import Derived.BigQuiet
namespace Go.Proofs.Ytbcfcjecobihnaa
open Go.RowKit Go.Maps
set_option linter.unusedVariables false
set_option maxRecDepth 100000

/-- Both tables, side by side. -/
def Lent2 (B : Nat) (w : World) (g tb : Nat) (M : NatM) (L : List Rte) (X : List Ent) : Prop := ∃ T, TabOk T ∧ T.rts [] = L ∧ NatT B w g 1000 30 M (lptE tb L.length T ++ X)
section
variable {B g tb : Nat} {w w' : World} {M : NatM} {L : List Rte} {X : List Ent}
theorem Lent2.tab (h : Lent2 B w g tb M L X) : ∃ F, TabS B w tb L F ∧ ∀ w' L', TabS B w' tb L' F → Lent2 B w' g tb M L' X := by
  obtain ⟨T, h1, h2, hok, mp, mq, e1, c1, e2, c2, m1, m2, hs⟩ := h
  refine ⟨tabE g mp mq 1000 30 e1 c1 e2 c2 ++ X, ⟨T, h1, h2, hs.perm (List.perm_append_comm_assoc _ _ _)⟩, ?_⟩
  rintro w' L' ⟨T', h1', h2', hs'⟩
  exact ⟨T', h1', h2', hok, mp, mq, e1, c1, e2, c2, m1, m2, hs'.perm (List.perm_append_comm_assoc _ _ _)⟩
theorem Lent2.kept (h : Lent2 B w g tb M L X) (hb : Below w.heap.size w w') : Lent2 B w' g tb M L X := by
  obtain ⟨T, h1, h2, hn⟩ := h
  exact ⟨T, h1, h2, hn.kept hb⟩
theorem Lent2.ok (h : Lent2 B w g tb M L X) : NatOk 1000 30 M := by obtain ⟨T, h1, h2, hn⟩ := h; exact hn.ok
theorem Lent2.unbox (h : Lent2 B w g tb M L X) : Lent2 B w g tb M L [] := by
  obtain ⟨T, h1, h2, hok, mp, mq, e1, c1, e2, c2, m1, m2, hs⟩ := h
  exact ⟨T, h1, h2, hok, mp, mq, e1, c1, e2, c2, m1, m2, hs.sub (List.Sublist.append_left (List.Sublist.append_left (List.nil_sublist _) _) _)⟩
theorem Lent2.box (h : Lent2 B w g tb M L []) (hB : B ≤ w.heap.size) (p : Int × Int) : Lent2 B (w.alloc (.cells #[.int .i64 p.1, .int .i64 p.2] 40)) g tb M L [Ent.blk1 w.heap.size 40 [.int .i64 p.1, .int .i64 p.2]] := by
  obtain ⟨T, h1, h2, hok, mp, mq, e1, c1, e2, c2, m1, m2, hs⟩ := h
  refine ⟨T, h1, h2, hok, mp, mq, e1, c1, e2, c2, m1, m2, (Sep.blkNew hs hB #[.int .i64 p.1, .int .i64 p.2] 40).perm ?_⟩
  rw [List.append_nil, ← List.append_assoc]
  exact List.perm_append_comm (l₁ := [_])
theorem Lent2.cell {b : Nat} {x y : Value} (h : Lent2 B w g tb M L [Ent.blk1 b 40 [x, y]]) : w.cell? ⟨b, 0, none⟩ = some x ∧ w.cell? ⟨b, 1, none⟩ = some y := by
  obtain ⟨T, h1, h2, hok, mp, mq, e1, c1, e2, c2, m1, m2, hs⟩ := h
  have h3 := hs.member (g := b) (cs := [x, y]) (e := 40) (by simp)
  exact ⟨(h3.1 0 _ rfl).1, (h3.1 1 _ rfl).1⟩
theorem Lent2.srt (h : Lent2 B w g tb M L X) : SrtR L := by obtain ⟨T, h1, h2, hn⟩ := h; rw [← h2]; exact rts_sorted h1.deep
end
theorem lent_pigeon (low : Int) : ∀ (n : Nat) (M : NatM), (∀ j : Nat, j < n → ∃ x ∈ M, x.1 = low + (j : Int)) → n ≤ M.length
  | 0, _, _ => Nat.zero_le _
  | n + 1, M, h => by
    obtain ⟨x, hx, e⟩ := h n (by omega)
    have h1 := lent_pigeon low n (M.erase x) (fun j hj => by
      obtain ⟨y, hy, ey⟩ := h j (by omega)
      have hne : y ≠ x := by rintro rfl; omega
      exact ⟨y, (List.mem_erase_of_ne hne).2 hy, ey⟩)
    rw [List.length_erase_of_mem hx] at h1
    have := List.length_pos_of_mem hx
    omega
theorem free_none {M : NatM} : ∀ {n : Nat} {low : Int}, freeFrom M n low = none → ∀ j : Nat, j < n → placeOf M (low + (j : Int)) ≠ none
  | 0, _, _, j, hj => by omega
  | n + 1, low, h, j, hj => by
    rw [freeFrom] at h
    split at h
    · cases h
    · rename_i hp
      match j with
      | 0 => simpa using hp
      | j + 1 => have := free_none h j (by omega); rwa [show low + ((j + 1 : Nat) : Int) = low + 1 + (j : Int) by omega]
theorem natOut_room {M : NatM} {p : Pl} (hl : M.length < 30) (hp : PlOk p) : (natOut 1000 30 M p).2.2 = 0 := by
  unfold natOut
  rw [if_pos hp]
  cases hq : portOf M p with
  | some q => rfl
  | none =>
    simp only []
    cases hf : freeFrom M (30 : Int).toNat 1000 with
    | some q => rfl
    | none =>
      exfalso
      have h1 := lent_pigeon 1000 30 M (fun j hj => by
        have h2 := free_none hf j hj
        cases hx : placeOf M (1000 + (j : Int)) with
        | none => exact absurd hx h2
        | some y => exact ⟨_, placeOf_mem hx, rfl⟩)
      omega
theorem natOut_len {M : NatM} {p : Pl} : (natOut 1000 30 M p).1.length ≤ M.length + 1 := by
  unfold natOut
  split
  · split
    · simp
    · split <;> simp
  · simp
theorem natOut_off {M : NatM} {p : Pl} (hp : ¬ PlOk p) : natOut 1000 30 M p = (M, 0, 1) := by unfold natOut; rw [if_neg hp]
theorem find_set {L : List Rte} (hs : SrtR L) {a h : Nat} (ha : a ≤ 65535) : findR (setL L a 16 h) (a : Int) = ((h : Int), 16, 0) := by
  have h1 : lookL (setL L a 16 h) a 16 = (h : Int) := lookL_of (setL_srt hs) ((setL_mem hs _).2 (.inl rfl))
  unfold findR
  rw [if_neg (by omega), Int.toNat_natCast, findL, show a - a % 2 ^ (16 - 16) = a by simp [Nat.mod_one], h1, if_pos (by omega)]
  simp
theorem set_in {L : List Rte} (hl : L.length < 32) {a : Nat} {h : Int} (ha : a ≤ 65535) (h0 : 0 ≤ h ∧ h ≤ 9) : setRR L (a : Int) 16 h = (setL L a 16 h.toNat, 0) := by
  have hc : chkP (a : Int) ((16 : Nat) : Int) = 0 := chkP_of ⟨by omega, by omega, by simp [Nat.mod_one]⟩
  have hc' : chkP (a : Int) 16 = 0 := hc
  unfold setRR
  rw [if_neg (fun h => h hc'), if_neg (fun h => h h0), if_neg (by omega)]
  rfl
theorem set_out {L : List Rte} {a : Nat} {h : Int} (ha : a ≤ 65535) (h0 : ¬ (0 ≤ h ∧ h ≤ 9)) : setRR L (a : Int) 16 h = (L, 1) := by
  have hc : chkP (a : Int) ((16 : Nat) : Int) = 0 := chkP_of ⟨by omega, by omega, by simp [Nat.mod_one]⟩
  have hc' : chkP (a : Int) 16 = 0 := hc
  unfold setRR
  rw [if_neg (fun h => h hc'), if_pos h0]
set_option maxHeartbeats 4000000 in
theorem topLent_walk (ao : Option Addr) (ac : Nat) (ps : List (Int × Int)) (hop : Int) (w0 : World) (hA : RowSl w0.heap.size w0 ao 2 (ps.map plsC)) (hac : ps.length ≤ ac) (hmax : ac ≤ maxLen) (hpg : ∀ x ∈ ps, PlGood x) (hh : -9223372036854775808 ≤ hop ∧ hop ≤ 9223372036854775807) :
    Calls Try.prog 3 #[.slice ao ps.length ac, .int .i64 hop] w0 fun e w' => e = .returned (.bool true) ∧ Below w0.heap.size w0 w' := by
  unfold maxLen at hmax
  have HA := Lib.hid hA
  have HPG := Lib.hid hpg
  obtain ⟨G, hG⟩ : ∃ G, G = w0.heap.size := ⟨_, rfl⟩
  have HG := Lib.hid hG
  rw [← hG] at HA
  clear hA hpg hG
  have HN0 := Lib.hid (natNew_ok 1000 30 w0 (by decide))
  go_enter Try.func3, Try.ntmps3
  go_wp2_with fail
  refine HN0.out.mono ?_
  rintro e w1 ⟨g, rfl, ht, hb⟩
  rw [← HG.out] at ht hb
  have HT1 := Lib.hid ht
  have HB1 := Lib.hid hb
  have hg1 : G ≤ w1.heap.size := by have := HB1.out.size; rw [← HG.out] at this; exact this
  clear ht hb HN0
  have HL := Lib.hid (natLent_any G g 1000 30 [] [] w1 HT1.out hg1)
  go_wp2_with fail
  refine HL.out.mono ?_
  rintro e w2 ⟨v, rfl, hs, hb⟩
  have HT2 := Lib.hid (HT1.out.kept hb)
  have HB2 := Lib.hid (HB1.out.trans (hb.mono hg1))
  have hg2 : G ≤ w2.heap.size := by have := HB2.out.size; rw [← HG.out] at this; exact this
  obtain ⟨va, vc, hv, -⟩ := Sep.intsShape (A := []) hs
  have hl0 : (lentTo ([] : NatM) 1000 (30 : Int).toNat).length = 0 := by decide
  rw [hl0] at hv
  subst hv
  clear hs hb HL HT1 HB1 hg1 hl0
  have hnew : Calls Try.prog 6 #[] w2 fun e w' => ∃ tb, e = .returned (.pointer (some ⟨tb, 0, none⟩)) ∧ Lent2 G w' g tb [] [] [] ∧ Below G w2 w' := by
    obtain ⟨hok, mp, mq, e1, c1, e2, c2, m1, m2, hs⟩ := HT2.out
    refine (lpmNew_any G _ w2 hg2 hs).mono ?_
    rintro e w' ⟨tb, rfl, ⟨T, t1, t2, t3⟩, hb, -⟩
    refine ⟨tb, rfl, ⟨T, t1, t2, hok, mp, mq, e1, c1, e2, c2, m1, m2, t3.perm ?_⟩, hb⟩
    exact List.perm_append_comm_assoc _ _ _
  have HNEW := Lib.hid hnew
  clear hnew
  go_wp2_with fail
  refine HNEW.out.mono ?_
  rintro e w3 ⟨tb, rfl, hj, hb⟩
  have HB3 := Lib.hid (HB2.out.trans hb)
  have hg3 : G ≤ w3.heap.size := by have := HB3.out.size; rw [← HG.out] at this; exact this
  obtain ⟨F, hF1, hF2⟩ := hj.tab
  have hset := lpmSet_any G tb [] F 0 0 9 w3 hg3 hF1
  rw [show setRR [] 0 0 9 = ([(0, 0, 9)], 0) by rfl, errV_zero] at hset
  have HSET := Lib.hid hset
  have HF := Lib.hid hF2
  clear hj hb hF1 hF2 hset HNEW HT2 HB2 hg2
  go_wp2_with fail
  refine HSET.out.mono ?_
  rintro e w4 ⟨rfl, ht, hb⟩
  have HJ4 := Lib.hid (HF.out _ _ ht)
  have HB4 := Lib.hid (HB3.out.trans hb)
  clear ht hb HSET HF HB3 hg3
  go_wp2
  go_loopw [8] (fun iv wr => ∃ (k : Nat) (M : NatM) (L : List Rte), k ≤ ps.length ∧ k ≤ 30 ∧ iv = .int .i64 k ∧ Lent2 G wr g tb M L [] ∧ M.length ≤ k ∧ L.length ≤ k + 1 ∧ Below G w0 wr) (fun iv _ => ps.length - (intOf iv).toNat)
  case atStart => exact ⟨0, [], _, Nat.zero_le _, Nat.zero_le _, rfl, HJ4.out, Nat.le_refl _, Nat.le_refl _, HB4.out⟩
  case round =>
    obtain ⟨k, M, L, hk, hk30, rfl, hj, hM, hL, hbel⟩ := hrel
    have HJ5 := Lib.hid hj
    have HB5 := Lib.hid hbel
    clear hj hbel HJ4 HB4
    obtain ⟨w5, hw5⟩ : ∃ w5, w5 = wr := ⟨_, rfl⟩
    obtain rfl := hw5
    have hg5 : G ≤ w5.heap.size := by have := HB5.out.size; rw [← HG.out] at this; exact this
    by_cases hlt : k < ps.length
    · have hki : (k : Int) < (ps.length : Int) := by omega
      have hk0 : (0 : Int) ≤ (k : Int) := by omega
      by_cases h30 : k < 30
      · have hd30 : decide ((k : Int) < 30) = true := decide_eq_true (by omega)
        obtain ⟨⟨pa, pb⟩, hpk⟩ : ∃ r, ps[k]? = some r := ⟨_, List.getElem?_eq_getElem hlt⟩
        obtain ⟨⟨hpa1, hpa2⟩, hpb1, hpb2⟩ := HPG.out _ (List.mem_iff_getElem?.2 ⟨k, hpk⟩)
        simp only at hpa1 hpa2 hpb1 hpb2
        obtain ⟨b0, off0, rfl, hbb, cc⟩ := HA.out k (plsC (pa, pb)) (by rw [List.getElem?_map, hpk]; rfl)
        have hpc : ∀ w', Below G w0 w' → w'.cell? ⟨b0, off0 + k * 2, none⟩ = some (.int .i64 pa) ∧ w'.cell? ⟨b0, off0 + k * 2 + 1, none⟩ = some (.int .i64 pb) := fun w' h =>
          ⟨(h.cell (p := ⟨b0, off0 + k * 2, none⟩) hbb).trans (cc 0 _ rfl), (h.cell (p := ⟨b0, off0 + k * 2 + 1, none⟩) hbb).trans (cc 1 _ rfl)⟩
        have HPC := Lib.hid hpc
        clear hpc cc hpk
        obtain ⟨p0, p1⟩ := HPC.out _ HB5.out
        obtain ⟨T, t1, t2, t3⟩ := HJ5.out
        have hn := natOut_any G g 1000 30 M _ (pa, pb) w5 t3 hg5
        have hre : ∀ w' M', NatT G w' g 1000 30 M' (lptE tb L.length T ++ []) → Lent2 G w' g tb M' L [] := fun w' M' h => ⟨T, t1, t2, h⟩
        unfold plV at hn
        by_cases hp : PlOk (pa, pb)
        · have hz := natOut_room (M := M) (by omega) hp
          obtain ⟨-, hmem⟩ := natOut_zero t3.ok hz
          have hlen := natOut_len (M := M) (p := (pa, pb))
          rw [hz, errV_zero] at hn
          obtain ⟨R, hR⟩ : ∃ R, R = natOut 1000 30 M (pa, pb) := ⟨_, rfl⟩
          rw [← hR] at hn hmem hlen
          obtain ⟨M1, q, c⟩ := R
          simp only at hn hmem hlen
          have HN := Lib.hid hn
          have HMEM := Lib.hid hmem
          have HRE := Lib.hid hre
          have HP := Lib.hid hp
          clear hn hmem hR hz hre t1 t2 t3 hp
          go_wp2_with fail
          refine HN.out.mono ?_
          rintro e w6 ⟨rfl, ht, hb⟩
          have hin := natIn_some G g 1000 30 M1 _ q (pa, pb) w6 ht (ht.ok.bd HMEM.out) (ht.ok.place_is.2 HMEM.out)
          unfold plV at hin
          have HIN := Lib.hid hin
          have HJ6 := Lib.hid (HRE.out _ _ ht)
          have HB6 := Lib.hid (HB5.out.trans hb)
          have hg6 : G ≤ w6.heap.size := by have := HB6.out.size; rw [← HG.out] at this; exact this
          clear ht hb HN HRE hin p0 p1 HB5 HJ5 hg5
          go_wp2_with fail
          refine HIN.out.mono ?_
          rintro e w7 ⟨rfl, hb⟩
          have HJ7 := Lib.hid (HJ6.out.kept hb)
          have HB7 := Lib.hid (HB6.out.trans (hb.mono hg6))
          have hg7 : G ≤ w7.heap.size := by have := HB7.out.size; rw [← HG.out] at this; exact this
          clear hb HIN HJ6 HB6 hg6
          have hj8 := HJ7.out.box hg7 (pa, pb)
          obtain ⟨w8, hw8⟩ : ∃ w8, w8 = w7.alloc (.cells #[.int .i64 pa, .int .i64 pb] 40) := ⟨_, rfl⟩
          obtain ⟨b8, hb8⟩ : ∃ b8, b8 = w7.heap.size := ⟨_, rfl⟩
          have hbel8 := HB7.out.alloc hg7 (.cells #[.int .i64 pa, .int .i64 pb] 40)
          simp only at hj8
          rw [← hw8] at hj8 hbel8
          rw [← hb8] at hj8
          have HJ8 := Lib.hid hj8
          have HB8 := Lib.hid hbel8
          have HW8 := Lib.hid hw8
          have HBB8 := Lib.hid hb8
          have hg8 : G ≤ w8.heap.size := by have := HB8.out.size; rw [← HG.out] at this; exact this
          clear hj8 hbel8 hw8 hb8 HJ7 HB7
          obtain ⟨p0, p1⟩ := HPC.out _ HB8.out
          obtain ⟨c0, c1⟩ := HJ8.out.cell
          have haa : (pa == pa) = true := by simp
          have hbb' : (pb == pb) = true := by simp
          go_upto_region 2 with fail
          rw [← HW8.out, ← HBB8.out]
          clear HW8 HBB8 hg7
          go_quiet (fail)
          have hjd := HJ8.out.kept (below_drewN w8.heap.size w8 nq)
          have hbd := HB8.out.trans (below_drewN G w8 nq)
          obtain ⟨wd, hwd⟩ : ∃ wd, wd = w8.drewN nq := ⟨_, rfl⟩
          rw [← hwd] at hjd hbd ⊢
          clear p0 p1 c0 c1 hwd HJ8 HB8 hg8
          have HJ8 := Lib.hid hjd
          have HB8 := Lib.hid hbd
          have hg8 : G ≤ wd.heap.size := by have := hbd.size; rw [← HG.out] at this; exact this
          clear hjd hbd
          obtain ⟨p0, p1⟩ := HPC.out _ HB8.out
          obtain ⟨c0, c1⟩ := HJ8.out.cell
          obtain ⟨a, rfl⟩ := Int.eq_ofNat_of_zero_le HP.out.1.1
          have ha : a ≤ 65535 := by have := HP.out.1.2; simp only at this; omega
          obtain ⟨F, hF1, hF2⟩ := HJ8.out.tab
          have hset := lpmSet_any G tb L F a 16 hop wd hg8 hF1
          have HF := Lib.hid hF2
          have hsrt := HJ8.out.srt
          by_cases hh9 : 0 ≤ hop ∧ hop ≤ 9
          · obtain ⟨h, rfl⟩ := Int.eq_ofNat_of_zero_le hh9.1
            have hl2 := setL_len (L := L) (a := a) (n := 16) (h := h) hsrt
            rw [set_in (by omega) ha hh9, errV_zero, Int.toNat_natCast] at hset
            have hl3 : (setL L a 16 h).length ≤ k + 2 := by rw [hl2]; split <;> omega
            have hfs := find_set hsrt (a := a) (h := h) ha
            obtain ⟨L2, hL2⟩ : ∃ L2, L2 = setL L a 16 h := ⟨_, rfl⟩
            rw [← hL2] at hset hl3 hfs
            have HSET := Lib.hid hset
            have HFS := Lib.hid hfs
            clear hset hl2 hL2 hfs hF1 hF2 hsrt hh9 hpa1 hpa2
            go_wp2_with fail
            refine HSET.out.mono ?_
            rintro e w9 ⟨rfl, ht, hb⟩
            have hfi := lpmFind_any G tb L2 F a w9 ht
            rw [HFS.out, errV_zero] at hfi
            simp only at hfi
            have HFI := Lib.hid hfi
            have HJ9 := Lib.hid (HF.out _ _ ht)
            have HB9 := Lib.hid (HB8.out.trans hb)
            have hg9 : G ≤ w9.heap.size := by have := HB9.out.size; rw [← HG.out] at this; exact this
            obtain ⟨d0, d1⟩ := HJ9.out.cell
            clear ht hb hfi HSET HF HJ8 HB8 hg8 c0 c1 p0 p1
            have hhh : ((h : Int) != (h : Int)) = false := by simp
            go_wp2_with fail
            refine HFI.out.mono ?_
            rintro e wx ⟨rfl, hb⟩
            have HJX := Lib.hid (HJ9.out.kept hb).unbox
            have HBX := Lib.hid (HB9.out.trans (hb.mono hg9))
            clear hb HFI HJ9 HB9 hg9 d0 d1
            go_wp2
            go_roundw
            case rel => exact ⟨k + 1, M1, L2, by omega, by omega, by go_num, HJX.out, by omega, by omega, HBX.out⟩
            case measure => simp [intOf]; omega
          · rw [set_out ha hh9, errV_not (show ¬ (1 : Int) = 0 by decide)] at hset
            have HSET := Lib.hid hset
            have HH9 := Lib.hid hh9
            clear hset hF1 hF2 hsrt hh9
            go_wp2_with fail
            refine HSET.out.mono ?_
            rintro e w9 ⟨rfl, ht, hb⟩
            have HB9 := Lib.hid (HB8.out.trans hb)
            clear ht hb HSET HF HJ8 HB8 hg8 c0 c1 p0 p1
            go_wp2_with fail
            refine (inTop_no _ _ _ _ HH9.out).mono ?_
            rintro e w' ⟨rfl, rfl⟩
            go_wp2
            go_ret
            exact ⟨rfl, by rw [← HG.out]; exact HB9.out⟩
        · rw [natOut_off hp, errV_not (show ¬ (1 : Int) = 0 by decide)] at hn
          have HN := Lib.hid hn
          clear hn hre t1 t2 t3
          unfold PlOk at hp
          simp only at hp
          have HP := Lib.hid hp
          clear hp
          go_wp2_with fail
          refine HN.out.mono ?_
          rintro e w6 ⟨rfl, ht, hb⟩
          have HB6 := Lib.hid (HB5.out.trans hb)
          clear ht hb HN p0 p1 HB5 HJ5 hg5
          obtain ⟨p0, p1⟩ := HPC.out _ HB6.out
          by_cases h1 : 0 ≤ pa ∧ pa ≤ 65535
          · have HX := Lib.hid (fun h => HP.out ⟨h1, h⟩)
            obtain ⟨x1, x2⟩ := h1
            go_wp2_with fail
            refine (inTop_yes _ _ _ _ x1 x2).mono ?_
            rintro e w' ⟨rfl, rfl⟩
            go_wp2_with fail
            refine (inTop_no _ _ _ _ HX.out).mono ?_
            rintro e w' ⟨rfl, rfl⟩
            go_wp2
            go_ret
            exact ⟨rfl, by rw [← HG.out]; exact HB6.out⟩
          · have HX := Lib.hid h1
            clear h1
            go_wp2_with fail
            refine (inTop_no _ _ _ _ HX.out).mono ?_
            rintro e w' ⟨rfl, rfl⟩
            go_wp2
            go_ret
            exact ⟨rfl, by rw [← HG.out]; exact HB6.out⟩
      · have hd30 : decide ((k : Int) < 30) = false := decide_eq_false (by omega)
        have hd31 : decide (k < 30) = false := decide_eq_false h30
        clear h30
        go_wp2
        go_ret
        exact ⟨rfl, by rw [← HG.out]; exact HB5.out⟩
    · have hki : decide ((k : Int) < (ps.length : Int)) = false := decide_eq_false (by omega)
      have hki2 : decide (k < ps.length) = false := decide_eq_false hlt
      clear hlt
      go_wp2
      go_ret
      exact ⟨rfl, by rw [← HG.out]; exact HB5.out⟩
end Go.Proofs.Ytbcfcjecobihnaa
