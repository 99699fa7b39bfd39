/- The desk: words. -/
import Derived.Test.YtbcfcjecobihnaaGreatDoorDskPlain
import Derived.Test.YtbcfcjecobihnaaGreatDoorPk10
import Derived.Test.YtbcfcjecobihnaaGreatDoorPk9
import Derived.Deep.LoopGhost
namespace Go.Proofs.YtbcfcjecobihnaaGreatDoor
open Go.RowKit
set_option linter.unusedVariables false
set_option linter.unusedSimpArgs false
set_option maxRecDepth 100000

/-- A slice of texts that is read. -/
def StrSl (B : Nat) (w : World) (ao : Option Addr) (ws : List (List UInt8)) : Prop :=
  ∀ (j : Nat) x, ws[j]? = some x → ∃ b off, ao = some ⟨b, off, none⟩ ∧ b < B ∧ w.cell? ⟨b, off + j, none⟩ = some (.string (bytesOf x))
theorem StrSl.below {B : Nat} {w w' : World} {ao : Option Addr} {ws : List (List UInt8)} (h : StrSl B w ao ws) (hk : Below B w w') : StrSl B w' ao ws := by
  intro j x hx
  obtain ⟨b, off, e, hb, hc⟩ := h j x hx
  exact ⟨b, off, e, hb, (hk.cell (p := ⟨b, off + j, none⟩) hb).trans hc⟩
def WordsEnd (G : Nat) (w : World) (ws : List (List UInt8)) (e : Ending) (w' : World) : Prop :=
  ((ws.all numW = true ∧ ∃ v, e = .returned (.tuple #[v, .bool true]) ∧ Sep G w' [Ent.ints 3 v (ws.map numV)]) ∨ (ws.all numW = false ∧ e = .returned (.tuple #[.slice none 0 0, .bool false]))) ∧ Below G w w'
theorem words_no {ws : List (List UInt8)} {x : List UInt8} (hx : x ∈ ws) (h : numW x = false) : ws.all numW = false := List.all_eq_false.2 ⟨x, hx, by simp [h]⟩
set_option maxHeartbeats 8000000 in
theorem words_any (ao : Option Addr) (cap : Nat) (ws : List (List UInt8)) (w : World) (hl : ∀ x ∈ ws, x.length ≤ 10000) (hq : ws.length ≤ 10000) (hT : LibT w) (hA : StrSl w.heap.size w ao ws) :
    Calls Tryz.prog 79 #[.slice ao ws.length cap] w fun e w' => WordsEnd w.heap.size w ws e w' := by
  have HLB := Lib.hid (LibT.libB hT)
  obtain ⟨G, hG⟩ : ∃ G, G = w.heap.size := ⟨_, rfl⟩
  rw [← hG] at hA HLB ⊢
  have hGw : G ≤ w.heap.size := Nat.le_of_eq hG
  have HA := Lib.hid hA
  have HT := Lib.hid hT
  have HL := Lib.hid hl
  have HS0 := Lib.hid ((Sep.nil G w).intsNil 3)
  have HB0 := Lib.hid (Below.refl G w)
  obtain ⟨q, hqq⟩ : ∃ q, q = ws.length := ⟨_, rfl⟩
  rw [← hqq] at hq ⊢
  have HQ := Lib.hid hqq
  clear hl hT hA hG hqq
  go_enter Tryz.func79, Tryz.ntmps79
  go_wp2
  go_loopg [4, 11] q (fun gk nv iv wr => ∃ k : Nat, gk + k = q ∧ iv = .int .i64 k ∧ Hid (∀ x ∈ ws.take k, numW x = true) ∧ Sep G wr [Ent.ints 3 nv ((ws.take k).map numV)] ∧ Below G w wr)
  case atStart => exact ⟨0, rfl, rfl, (fun x hx => by simp at hx), HS0.out, HB0.out⟩
  case round =>
    obtain ⟨gi, rfl⟩ : ∃ gi, gi = gk := ⟨_, rfl⟩
    obtain ⟨j, hgi, rfl, HALL, hsp, hbel⟩ := hrel
    clear HS0 HB0
    have HS5 := Lib.hid hsp
    have HB5 := Lib.hid hbel
    obtain ⟨w5, hw5⟩ : ∃ w5, w5 = wr := ⟨_, rfl⟩
    obtain rfl := hw5
    have hg5 : G ≤ w5.heap.size := Nat.le_trans hGw hbel.size
    obtain ⟨na, nc, rfl, -, -⟩ := Sep.intsShape (A := []) hsp
    clear hsp hbel
    by_cases hlt : j < q
    · obtain ⟨x, hx⟩ : ∃ x, ws[j]? = some x := ⟨_, List.getElem?_eq_getElem (by rw [← HQ.out]; exact hlt)⟩
      have hxm : x ∈ ws := List.mem_iff_getElem?.2 ⟨j, hx⟩
      have hjq : (j : Int) < (q : Int) := by omega
      have hj0 : (0 : Int) ≤ (j : Int) := by omega
      obtain ⟨gs, os, rfl, -, hc0⟩ := HA.out.below HB5.out j x hx
      have hT5 := HT.out.below HB5.out HLB.out
      have HT5 := Lib.hid hT5
      have hnum5 := atoi_any x w5 (HL.out x hxm) hT5.err
      obtain ⟨xv, hxv⟩ : ∃ xv, xv = numV x := ⟨_, rfl⟩
      have htk : (ws.take (j + 1)).map numV = (ws.take j).map numV ++ [xv] := by rw [List.take_add_one, hx, List.map_append, hxv]; rfl
      have hlj : ((ws.take j).map numV).length ≤ 100000 := by rw [List.length_map, List.length_take]; omega
      have hsz : (bytesOf x).size = x.length := rfl
      rw [← hxv] at hnum5
      have HN5 := Lib.hid hnum5
      have HXV := Lib.hid hxv
      obtain ⟨xs, hxs⟩ : ∃ xs, xs = (ws.take j).map numV := ⟨_, rfl⟩
      rw [← hxs] at HS5 htk hlj ⊢
      have HTK := Lib.hid htk
      have hno := fun h => words_no hxm (x := x) h
      have HNO := Lib.hid hno
      have hal : numW x = true → ∀ y ∈ ws.take (j + 1), numW y = true := fun hox y hy => by
        rw [List.take_add_one, hx] at hy
        rcases List.mem_append.1 hy with h | h
        · exact HALL.out y h
        · rw [show y = x by simpa using h]; exact hox
      have HAL := Lib.hid hal
      clear hnum5 hxv hxs htk hx hxm hno hal HALL
      go_wp2_with fail
      refine HN5.out.mono ?_
      rintro e w6 ⟨⟨er, rfl, hor⟩, hb⟩
      have HS6 := Lib.hid (HS5.out.kept hb)
      have HB6 := Lib.hid (HB5.out.trans (hb.mono hg5))
      have hg6 : G ≤ w6.heap.size := Nat.le_trans hg5 hb.size
      clear hb HS5 HB5 hg5 HN5
      rcases hor with ⟨v, hv, rfl⟩ | ⟨hv, t, p, rfl⟩
      · have hn : numV x = v := by unfold numV; rw [hv]
        rw [← HXV.out] at hn
        subst hn
        have ho : numOk x = decide (0 ≤ xv ∧ Lib.decDigits xv.toNat = x) := by unfold numOk; rw [hv]
        by_cases h0 : xv < 0
        · have hd0 : decide (xv < 0) = true := decide_eq_true h0
          have hbd := HNO.out (by unfold numW; rw [ho, decide_eq_false (by omega)]; rfl)
          have HBD := Lib.hid hbd
          clear ho hv h0 hbd hc0
          go_wp2
          go_ret2
          exact ⟨.inr ⟨HBD.out, rfl⟩, HB6.out⟩
        have hd0 : decide (xv < 0) = false := decide_eq_false h0
        obtain ⟨k, rfl⟩ := Int.eq_ofNat_of_zero_le (show 0 ≤ xv by omega)
        have hk : k ≤ 9223372036854775807 := atoiAll_le hv
        rw [Int.toNat_natCast] at ho
        by_cases h7 : 7 < x.length
        · have hd7 : decide ((7 : Int) < (x.length : Int)) = true := decide_eq_true (by omega)
          have hbd := HNO.out (by unfold numW; rw [decide_eq_false (show ¬ x.length ≤ 7 by omega), Bool.and_false])
          have HBD := Lib.hid hbd
          clear ho hv h0 hbd hc0 h7
          go_wp2
          go_ret2
          exact ⟨.inr ⟨HBD.out, rfl⟩, HB6.out⟩
        have hd7 : decide ((7 : Int) < (x.length : Int)) = false := decide_eq_false (by omega)
        have hit := itoa_any k w6 hk (HT.out.below HB6.out HLB.out).pow
        have HIT := Lib.hid hit
        clear hit h0 hv
        by_cases he : Lib.decDigits k = x
        · have hox : numW x = true := by
            unfold numW
            rw [ho, decide_eq_true ⟨by omega, he⟩, decide_eq_true (show x.length ≤ 7 by omega)]; rfl
          have HAL2 := Lib.hid (HAL.out hox)
          clear ho hox h7 hc0 HAL HNO HXV
          go_wp2_with fail
          refine HIT.out.mono ?_
          rintro e w7 ⟨rfl, hb⟩
          have HS7 := Lib.hid (HS6.out.kept hb)
          have HB7 := Lib.hid (HB6.out.trans (hb.mono hg6))
          have hg7 : G ≤ w7.heap.size := Nat.le_trans hg6 hb.size
          clear hb HS6 HB6 hg6 HIT
          rw [he]
          clear he
          go_wp2_with (at_builtin; refine wpList_append_int rfl (.tmp 37) (.tmp 39) rfl elemIntL (A := []) rfl HS7.out hg7 rfl (by omega) ?_)
          intro v' w8 hs hb
          have HS8 := Lib.hid hs
          have HB8 := Lib.hid (HB7.out.trans hb)
          clear hs hb HS7 HB7 hg7
          go_wp2
          go_roundg (gi - 1)
          case measure => omega
          case rel => exact ⟨j + 1, by omega, by go_num, HAL2.out, by rw [HTK.out]; exact HS8.out, HB8.out⟩
        · have hbe : (Lib.decDigits k == x) = false := beq_eq_false_iff_ne.2 he
          have hbn : (Lib.decDigits k != x) = true := bne_iff_ne.2 he
          have hbd := HNO.out (by unfold numW; rw [ho, decide_eq_false (fun h => he h.2)]; rfl)
          have HBD := Lib.hid hbd
          clear ho hbd hc0 h7 HAL HNO HXV
          go_wp2_with fail
          refine HIT.out.mono ?_
          rintro e w7 ⟨rfl, hb⟩
          have HB7 := Lib.hid (HB6.out.trans (hb.mono hg6))
          clear hb HS6 HB6 hg6 HIT
          go_wp2
          go_ret2
          exact ⟨.inr ⟨HBD.out, rfl⟩, HB7.out⟩
      · have hbd := HNO.out (by
          unfold numW numOk
          cases ha : Lib.atoiAll x with
          | ok v => exact absurd ha (hv v)
          | _ => rfl)
        have HBD := Lib.hid hbd
        clear hv hbd hc0 HAL HNO
        go_wp2
        go_ret2
        exact ⟨.inr ⟨HBD.out, rfl⟩, HB6.out⟩
    · obtain rfl : j = q := by omega
      have hdq : decide ((j : Int) < (j : Int)) = false := by simp
      have hwl : ws.length = j := HQ.out.symm
      have htk : ws.take j = ws := List.take_of_length_le (by omega)
      rw [htk] at HALL HS5
      have hall : ws.all numW = true := List.all_eq_true.2 fun x hx => HALL.out x hx
      have hnl0 : ((ws.take j).map numV).length = j := by rw [htk, List.length_map, hwl]
      have hnl : (ws.map numV).length = j := by rw [List.length_map, hwl]
      rw [hnl] at HS5
      rw [hnl0]
      have HALL2 := Lib.hid hall
      clear htk hnl hnl0 hall HALL hlt
      go_wp2
      go_ret2
      exact ⟨.inl ⟨HALL2.out, _, rfl, HS5.out⟩, HB5.out⟩
end Go.Proofs.YtbcfcjecobihnaaGreatDoor
