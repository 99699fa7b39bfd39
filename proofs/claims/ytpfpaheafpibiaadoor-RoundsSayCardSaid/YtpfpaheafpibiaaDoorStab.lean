/- slices.stableCmpFunc and slices.SortStableFunc at rounds.item, at most 40 things: a sorted permutation. -/
import Derived.Test.YtpfpaheafpibiaaDoorSymM
namespace Go.Proofs.YtpfpaheafpibiaaDoor
open Go.RowKit
set_option linter.unusedVariables false
set_option linter.unusedSimpArgs false
set_option maxRecDepth 100000

/-- What the sort leaves. -/
def StabQ (B g off N cap : Nat) (X : List Itm) (F : List Ent) (w : World) (e : Ending) (w' : World) : Prop := e = .returned (.tuple #[]) ∧ (∃ C, C.Perm X ∧ Srt C ∧ Sep B w' (itN g off N cap C :: F)) ∧ Below B w w'

set_option maxHeartbeats 1000000 in
/-- One block. -/
theorem stab_one (B g off N cap : Nat) (X : List Itm) (F : List Ent) (w : World) (hX : X.length = N) (hN : N < 20) (hB : B ≤ w.heap.size) (hsep : Sep B w (itN g off N cap X :: F)) :
    Calls Tryd.prog 24 #[.slice (some ⟨g, off, none⟩) N cap, .int .i64 N, cmpV] w (StabQ B g off N cap X F w) := by
  have hc : Calls Tryd.prog 30 #[.slice (some ⟨g, off, none⟩) N cap, .int .i64 0, .int .i64 N, cmpV] w fun e w' => e = .returned (.tuple #[]) ∧ (∃ S', S'.Perm X ∧ Srt S' ∧ Sep B w' (itN g off N cap ([] ++ S' ++ []) :: F)) ∧ Below B w w' :=
    insR_any B g off N cap [] X [] 0 N F w (by simpa using hX) (by omega) rfl (by simp [hX]) hB (by simpa using hsep)
  have HC := Lib.hid hc
  have h1 : decide ((20 : Int) ≤ (N : Int)) = false := decide_eq_false (by omega)
  have h1N : decide (20 ≤ N) = false := decide_eq_false (by omega)
  have h2 : decide ((20 : Int) < (N : Int)) = false := decide_eq_false (by omega)
  have h2N : decide (20 < N) = false := decide_eq_false (by omega)
  clear hc hX hsep
  go_enter Tryd.func24, Tryd.ntmps24
  go_wp2
  go_loopg [7, 8] 0 (fun gk a b wr => a = .int .i64 0 ∧ b = .int .i64 20 ∧ wr = w)
  case atStart => exact ⟨rfl, rfl, rfl⟩
  case round =>
    obtain ⟨rfl, rfl, hwx⟩ := hrel
    subst hwx
    go_wp2_with fail
    refine HC.out.mono ?_
    rintro e w1 ⟨rfl, ⟨C, p1, p2, hs⟩, hb⟩
    have HR : Hid (StabQ B g off N cap X F wr (.returned (.tuple #[])) w1) := Lib.hid ⟨rfl, ⟨C, p1, p2, by simpa using hs⟩, hb⟩
    clear p1 p2 hs hb HC
    go_wp2
    go_loopg [6, 7, 8, 9] 0 (fun gk s a b m wx => s = .int .i64 20 ∧ wx = w1)
    case atStart => exact ⟨rfl, rfl⟩
    case round =>
      obtain ⟨rfl, hwx⟩ := hrel
      subst hwx
      go_wp2
      go_end0
      exact HR.out

set_option maxHeartbeats 2000000 in
/-- Two blocks, the second one not whole. -/
theorem stab_two (B g off N cap : Nat) (X1 X2 : List Itm) (F : List Ent) (w : World) (hX1 : X1.length = 20) (hX2 : 20 + X2.length = N) (h1N : 20 ≤ N) (h2N : N < 40) (hB : B ≤ w.heap.size) (hsep : Sep B w (itN g off N cap (X1 ++ X2) :: F)) :
    Calls Tryd.prog 24 #[.slice (some ⟨g, off, none⟩) N cap, .int .i64 N, cmpV] w (StabQ B g off N cap (X1 ++ X2) F w) := by
  have hc : Calls Tryd.prog 30 #[.slice (some ⟨g, off, none⟩) N cap, .int .i64 0, .int .i64 20, cmpV] w fun e w' => e = .returned (.tuple #[]) ∧ (∃ S', S'.Perm X1 ∧ Srt S' ∧ Sep B w' (itN g off N cap ([] ++ S' ++ X2) :: F)) ∧ Below B w w' :=
    insR_any B g off N cap [] X1 X2 0 20 F w (by simp [hX1]; omega) (by omega) rfl (by simp [hX1]) hB hsep
  have HC := Lib.hid hc
  have HX1 := Lib.hid hX1
  have HX2 := Lib.hid hX2
  have i1 : (20 : Int) ≤ (N : Int) := by omega
  have i2 : decide ((40 : Int) ≤ (N : Int)) = false := decide_eq_false (by omega)
  have i2N : decide (40 ≤ N) = false := decide_eq_false (by omega)
  have i3 : decide ((40 : Int) < (N : Int)) = false := decide_eq_false (by omega)
  have i3N : decide (40 < N) = false := decide_eq_false (by omega)
  clear hc hX1 hX2 hsep
  go_enter Tryd.func24, Tryd.ntmps24
  go_wp2
  go_loopg [7, 8] 1 (fun gk a b wr => (gk = 1 ∧ a = .int .i64 0 ∧ b = .int .i64 20 ∧ wr = w) ∨ (gk = 0 ∧ a = .int .i64 20 ∧ b = .int .i64 40 ∧ (∃ C, C.Perm X1 ∧ Srt C ∧ Sep B wr (itN g off N cap (C ++ X2) :: F)) ∧ Below B w wr))
  case atStart => exact .inl ⟨rfl, rfl, rfl, rfl⟩
  case round =>
    obtain ⟨gi, hgi0⟩ : ∃ gi, gi = gk := ⟨_, rfl⟩
    rcases hrel with ⟨hgk, rfl, rfl, hwx⟩ | ⟨hgk, rfl, rfl, ⟨C1, p1, p2, hs⟩, hb⟩
    · subst hwx
      have HG := Lib.hid hgk
      clear hgk hgi0
      go_wp2_with fail
      refine HC.out.mono ?_
      rintro e w1 ⟨rfl, hE, hb⟩
      have HE := Lib.hid hE
      have HB1 := Lib.hid hb
      clear hE hb
      go_wp2
      go_roundg 0
      case measure => rw [HG.out]; omega
      case rel =>
        obtain ⟨C, q1, q2, q3⟩ := HE.out
        exact .inr ⟨rfl, rfl, rfl, ⟨C, q1, q2, by simpa using q3⟩, HB1.out⟩
    · have hl := p1.length_eq
      rw [HX1.out] at hl
      have hgw : B ≤ wr.heap.size := Nat.le_trans hB hb.size
      have hd : Calls Tryd.prog 30 #[.slice (some ⟨g, off, none⟩) N cap, .int .i64 20, .int .i64 N, cmpV] wr fun e w' => e = .returned (.tuple #[]) ∧ (∃ S', S'.Perm X2 ∧ Srt S' ∧ Sep B w' (itN g off N cap (C1 ++ S' ++ []) :: F)) ∧ Below B wr w' :=
        insR_any B g off N cap C1 X2 [] 20 N F wr (by have := HX2.out; simp [hl]; omega) (by omega) hl.symm (by have := HX2.out; omega) hgw (by simpa using hs)
      have HD := Lib.hid hd
      have HP := Lib.hid (And.intro p1 p2)
      have HB1 := Lib.hid hb
      have HL := Lib.hid hl
      have HGW := Lib.hid hgw
      clear hgk hgi0 p1 p2 hs hb hl hgw hd HC
      go_wp2_with fail
      refine HD.out.mono ?_
      rintro e w2 ⟨rfl, ⟨C2, p3, p4, hs⟩, hb⟩
      have hl2 := p3.length_eq
      have hs2 : Sep B w2 (itN g off N cap (C1 ++ C2) :: F) := by simpa using hs
      have HS2 := Lib.hid hs2
      have HB2 := Lib.hid (HB1.out.trans hb)
      have HP2 := Lib.hid (And.intro p3 p4)
      have HL2 := Lib.hid hl2
      clear hs hs2 hb p3 p4 hl2 HD HB1
      obtain ⟨w3, hw3⟩ : ∃ w3, w3 = w2 := ⟨_, rfl⟩
      by_cases h20 : N = 20
      · have i4 : decide ((20 : Int) < (N : Int)) = false := decide_eq_false (by omega)
        have i4N : decide (20 < N) = false := decide_eq_false (by omega)
        have hnil : C2 = [] := List.eq_nil_of_length_eq_zero (by have h1 := HX2.out; have h2 := HL2.out; omega)
        have HR : Hid (StabQ B g off N cap (X1 ++ X2) F w (.returned (.tuple #[])) w2) := Lib.hid ⟨rfl, ⟨C1 ++ C2, HP.out.1.append HP2.out.1, by rw [hnil, List.append_nil]; exact HP.out.2, HS2.out⟩, HB2.out⟩
        have HW := Lib.hid hw3
        clear h20 hnil hw3
        go_wp2
        go_loopg [6, 7, 8, 9] 0 (fun gk s a b m wx => s = .int .i64 20 ∧ wx = w3)
        case atStart => exact ⟨rfl, HW.out.symm⟩
        case round =>
          obtain ⟨rfl, hwx⟩ := hrel
          rw [HW.out] at hwx
          subst hwx
          go_wp2
          go_end0
          exact HR.out
      · have i4 : (20 : Int) < (N : Int) := by omega
        have HW := Lib.hid hw3
        have hc2 : Calls Tryd.prog 31 #[.slice (some ⟨g, off, none⟩) N cap, .int .i64 0, .int .i64 20, .int .i64 N, cmpV] w2 fun e w' => e = .returned (.tuple #[]) ∧ (∃ C, C.Perm (C1 ++ C2) ∧ Srt C ∧ Sep B w' (itN g off N cap ([] ++ C ++ []) :: F)) ∧ Below B w2 w' :=
          sym_any B g off N cap F 40 [] C1 C2 [] 0 20 N w2 (by have h1 := HL.out; have h2 := HL2.out; have h3 := HX2.out; simp; omega) (by omega) rfl (by have h1 := HL.out; omega) (by have h2 := HL2.out; have h3 := HX2.out; omega) (by have h1 := HL.out; have h2 := HL2.out; have h3 := HX2.out; omega) (by have h1 := HL.out; omega) (by have h2 := HL2.out; have h3 := HX2.out; omega) HP.out.2 HP2.out.2 (Nat.le_trans hB HB2.out.size) (by simpa using HS2.out)
        have HC2 := Lib.hid hc2
        clear h20 hw3 hc2
        go_wp2
        go_loopg [6, 7, 8, 9] 1 (fun gk s a b m wx => (gk = 1 ∧ s = .int .i64 20 ∧ wx = w3) ∨ (gk = 0 ∧ s = .int .i64 40 ∧ StabQ B g off N cap (X1 ++ X2) F w (.returned (.tuple #[])) wx))
        case atStart => exact .inl ⟨rfl, rfl, HW.out.symm⟩
        case round =>
          obtain ⟨gj, hgj0⟩ : ∃ gj, gj = gk := ⟨_, rfl⟩
          rcases hrel with ⟨hgk, rfl, hwx⟩ | ⟨hgk, rfl, hq⟩
          · rw [HW.out] at hwx
            subst hwx
            have HG := Lib.hid hgk
            clear hgk hgj0
            go_wp2
            go_loopg [7, 8] 0 (fun gm a b wy => a = .int .i64 0 ∧ b = .int .i64 40 ∧ wy = w3)
            case atStart => exact ⟨rfl, rfl, HW.out.symm⟩
            case round =>
              obtain ⟨rfl, rfl, hwy⟩ := hrel
              rw [HW.out] at hwy
              subst hwy
              go_wp2_with fail
              refine HC2.out.mono ?_
              rintro e w4 ⟨rfl, ⟨C, q1, q2, hs⟩, hb⟩
              have HR : Hid (StabQ B g off N cap (X1 ++ X2) F w (.returned (.tuple #[])) w4) := Lib.hid ⟨rfl, ⟨C, q1.trans (HP.out.1.append HP2.out.1), q2, by simpa using hs⟩, HB2.out.trans hb⟩
              clear q1 q2 hs hb HC2
              go_wp2
              go_roundg 0
              case measure => rw [HG.out]; omega
              case rel => exact .inr ⟨rfl, rfl, HR.out⟩
          · have HR := Lib.hid hq
            clear hq hgk hgj0
            go_wp2
            go_end0
            exact HR.out

set_option maxHeartbeats 2000000 in
/-- Two whole blocks. -/
theorem stab_full (B g off N cap : Nat) (X1 X2 : List Itm) (F : List Ent) (w : World) (hX1 : X1.length = 20) (hX2 : X2.length = 20) (hN : N = 40) (hB : B ≤ w.heap.size) (hsep : Sep B w (itN g off N cap (X1 ++ X2) :: F)) :
    Calls Tryd.prog 24 #[.slice (some ⟨g, off, none⟩) N cap, .int .i64 N, cmpV] w (StabQ B g off N cap (X1 ++ X2) F w) := by
  have hc : Calls Tryd.prog 30 #[.slice (some ⟨g, off, none⟩) N cap, .int .i64 0, .int .i64 20, cmpV] w fun e w' => e = .returned (.tuple #[]) ∧ (∃ S', S'.Perm X1 ∧ Srt S' ∧ Sep B w' (itN g off N cap ([] ++ S' ++ X2) :: F)) ∧ Below B w w' :=
    insR_any B g off N cap [] X1 X2 0 20 F w (by simp [hX1, hX2, hN]) (by omega) rfl (by simp [hX1]) hB hsep
  have HC := Lib.hid hc
  have HX1 := Lib.hid hX1
  have HX2 := Lib.hid hX2
  have i1 : (20 : Int) ≤ (N : Int) := by omega
  have i2 : (40 : Int) ≤ (N : Int) := by omega
  have i3 : decide ((40 : Int) < (N : Int)) = false := decide_eq_false (by omega)
  have i3N : decide (40 < N) = false := decide_eq_false (by omega)
  have i4 : decide ((60 : Int) ≤ (N : Int)) = false := decide_eq_false (by omega)
  have i4N : decide (60 ≤ N) = false := decide_eq_false (by omega)
  have i5 : decide ((80 : Int) ≤ (N : Int)) = false := decide_eq_false (by omega)
  have i5N : decide (80 ≤ N) = false := decide_eq_false (by omega)
  have i6 : decide ((60 : Int) < (N : Int)) = false := decide_eq_false (by omega)
  have i6N : decide (60 < N) = false := decide_eq_false (by omega)
  have i7 : (20 : Int) < (N : Int) := by omega
  have HN := Lib.hid hN
  clear hc hX1 hX2 hsep hN
  go_enter Tryd.func24, Tryd.ntmps24
  go_wp2
  go_loopg [7, 8] 2 (fun gk a b wr => (gk = 2 ∧ a = .int .i64 0 ∧ b = .int .i64 20 ∧ wr = w) ∨ (gk = 1 ∧ a = .int .i64 20 ∧ b = .int .i64 40 ∧ (∃ C, C.Perm X1 ∧ Srt C ∧ Sep B wr (itN g off N cap (C ++ X2) :: F)) ∧ Below B w wr) ∨
    (gk = 0 ∧ a = .int .i64 40 ∧ b = .int .i64 60 ∧ (∃ C D, C.Perm X1 ∧ Srt C ∧ D.Perm X2 ∧ Srt D ∧ Sep B wr (itN g off N cap (C ++ D) :: F)) ∧ Below B w wr))
  case atStart => exact .inl ⟨rfl, rfl, rfl, rfl⟩
  case round =>
    obtain ⟨gi, hgi0⟩ : ∃ gi, gi = gk := ⟨_, rfl⟩
    rcases hrel with ⟨hgk, rfl, rfl, hwx⟩ | ⟨hgk, rfl, rfl, ⟨C1, p1, p2, hs⟩, hb⟩ | ⟨hgk, rfl, rfl, ⟨C1, C2, p1, p2, p3, p4, hs⟩, hb⟩
    · subst hwx
      have HG := Lib.hid hgk
      clear hgk hgi0
      go_wp2_with fail
      refine HC.out.mono ?_
      rintro e w1 ⟨rfl, hE, hb⟩
      have HE := Lib.hid hE
      have HB1 := Lib.hid hb
      clear hE hb
      go_wp2
      go_roundg 1
      case measure => rw [HG.out]; omega
      case rel =>
        obtain ⟨C, q1, q2, q3⟩ := HE.out
        exact .inr (.inl ⟨rfl, rfl, rfl, ⟨C, q1, q2, by simpa using q3⟩, HB1.out⟩)
    · have hl := p1.length_eq
      rw [HX1.out] at hl
      have hgw : B ≤ wr.heap.size := Nat.le_trans hB hb.size
      have hd : Calls Tryd.prog 30 #[.slice (some ⟨g, off, none⟩) N cap, .int .i64 20, .int .i64 40, cmpV] wr fun e w' => e = .returned (.tuple #[]) ∧ (∃ S', S'.Perm X2 ∧ Srt S' ∧ Sep B w' (itN g off N cap (C1 ++ S' ++ []) :: F)) ∧ Below B wr w' :=
        insR_any B g off N cap C1 X2 [] 20 40 F wr (by rw [HN.out]; simp [hl, HX2.out]) (by rw [HN.out]; omega) hl.symm (by rw [hl, HX2.out]) hgw (by simpa using hs)
      have HD := Lib.hid hd
      have HP := Lib.hid (And.intro p1 p2)
      have HB1 := Lib.hid hb
      have HG := Lib.hid hgk
      clear hgk hgi0 p1 p2 hs hb hl hgw hd HC
      go_wp2_with fail
      refine HD.out.mono ?_
      rintro e w2 ⟨rfl, hE, hb⟩
      have HE := Lib.hid hE
      have HB2 := Lib.hid (HB1.out.trans hb)
      clear hE hb HD
      go_wp2
      go_roundg 0
      case measure => rw [HG.out]; omega
      case rel =>
        obtain ⟨C, q1, q2, q3⟩ := HE.out
        exact .inr (.inr ⟨rfl, rfl, rfl, ⟨C1, C, HP.out.1, HP.out.2, q1, q2, by simpa using q3⟩, HB2.out⟩)
    · have hl1 := p1.length_eq
      have hl2 := p3.length_eq
      rw [HX1.out] at hl1
      rw [HX2.out] at hl2
      have hgw : B ≤ wr.heap.size := Nat.le_trans hB hb.size
      have hd : Calls Tryd.prog 30 #[.slice (some ⟨g, off, none⟩) N cap, .int .i64 40, .int .i64 N, cmpV] wr fun e w' => e = .returned (.tuple #[]) ∧ (∃ S', S'.Perm [] ∧ Srt S' ∧ Sep B w' (itN g off N cap (C1 ++ C2 ++ S' ++ []) :: F)) ∧ Below B wr w' :=
        insR_any B g off N cap (C1 ++ C2) [] [] 40 N F wr (by rw [HN.out]; simp [hl1, hl2]) (by rw [HN.out]; omega) (by simp [hl1, hl2]) (by rw [HN.out]; simp [hl1, hl2]) hgw (by simpa using hs)
      have HD := Lib.hid hd
      have HP := Lib.hid (And.intro p1 p2)
      have HP2 := Lib.hid (And.intro p3 p4)
      have HB1 := Lib.hid hb
      have HL := Lib.hid (And.intro hl1 hl2)
      clear hgk hgi0 p1 p2 p3 p4 hs hb hl1 hl2 hgw hd HC
      go_wp2_with fail
      refine HD.out.mono ?_
      rintro e w2 ⟨rfl, ⟨C3, p5, p6, hs⟩, hb⟩
      obtain rfl := List.perm_nil.1 p5
      have hs2 : Sep B w2 (itN g off N cap (C1 ++ C2) :: F) := by simpa using hs
      have HB2 := Lib.hid (HB1.out.trans hb)
      have hc2 : Calls Tryd.prog 31 #[.slice (some ⟨g, off, none⟩) N cap, .int .i64 0, .int .i64 20, .int .i64 40, cmpV] w2 fun e w' => e = .returned (.tuple #[]) ∧ (∃ C, C.Perm (C1 ++ C2) ∧ Srt C ∧ Sep B w' (itN g off N cap ([] ++ C ++ []) :: F)) ∧ Below B w2 w' :=
        sym_any B g off N cap F 40 [] C1 C2 [] 0 20 40 w2 (by rw [HN.out]; simp [HL.out.1, HL.out.2]) (by rw [HN.out]; omega) rfl (by rw [HL.out.1]) (by rw [HL.out.2]) (by rw [HL.out.1, HL.out.2]; omega) (by rw [HL.out.1]; omega) (by rw [HL.out.2]; omega) HP.out.2 HP2.out.2 (Nat.le_trans hB HB2.out.size) (by simpa using hs2)
      have HC2 := Lib.hid hc2
      clear hs hs2 hb p5 p6 HD HB1 hc2
      obtain ⟨w3, hw3⟩ : ∃ w3, w3 = w2 := ⟨_, rfl⟩
      have HW := Lib.hid hw3
      clear hw3
      go_wp2
      go_loopg [6, 7, 8, 9] 1 (fun gk s a b m wx => (gk = 1 ∧ s = .int .i64 20 ∧ wx = w3) ∨ (gk = 0 ∧ s = .int .i64 40 ∧ StabQ B g off N cap (X1 ++ X2) F w (.returned (.tuple #[])) wx))
      case atStart => exact .inl ⟨rfl, rfl, HW.out.symm⟩
      case round =>
        obtain ⟨gj, hgj0⟩ : ∃ gj, gj = gk := ⟨_, rfl⟩
        rcases hrel with ⟨hgk, rfl, hwx⟩ | ⟨hgk, rfl, hq⟩
        · rw [HW.out] at hwx
          subst hwx
          have HG := Lib.hid hgk
          clear hgk hgj0
          go_wp2
          go_loopg [7, 8] 1 (fun gm a b wy => (gm = 1 ∧ a = .int .i64 0 ∧ b = .int .i64 40 ∧ wy = w3) ∨ (gm = 0 ∧ a = .int .i64 40 ∧ b = .int .i64 80 ∧ StabQ B g off N cap (X1 ++ X2) F w (.returned (.tuple #[])) wy))
          case atStart => exact .inl ⟨rfl, rfl, rfl, HW.out.symm⟩
          case round =>
            obtain ⟨gl, hgl0⟩ : ∃ gl, gl = gk := ⟨_, rfl⟩
            rcases hrel with ⟨hgk, rfl, rfl, hwy⟩ | ⟨hgk, rfl, rfl, hq⟩
            · rw [HW.out] at hwy
              subst hwy
              have HG2 := Lib.hid hgk
              clear hgk hgl0
              go_wp2_with fail
              refine HC2.out.mono ?_
              rintro e w4 ⟨rfl, ⟨C, q1, q2, hs⟩, hb⟩
              have HR : Hid (StabQ B g off N cap (X1 ++ X2) F w (.returned (.tuple #[])) w4) := Lib.hid ⟨rfl, ⟨C, q1.trans (HP.out.1.append HP2.out.1), q2, by simpa using hs⟩, HB2.out.trans hb⟩
              clear q1 q2 hs hb HC2
              go_wp2
              go_roundg 0
              case measure => rw [HG2.out]; omega
              case rel => exact .inr ⟨rfl, rfl, rfl, HR.out⟩
            · have HR := Lib.hid hq
              clear hq hgk hgl0
              go_wp2
              go_roundg 0
              case measure => rw [HG.out]; omega
              case rel => exact .inr ⟨rfl, rfl, HR.out⟩
        · have HR := Lib.hid hq
          clear hq hgk hgj0
          go_wp2
          go_end0
          exact HR.out

set_option maxHeartbeats 1000000 in
theorem stab_nil (v : Value) (w : World) :
    Calls Tryd.prog 24 #[v, .int .i64 0, cmpV] w fun e w' => e = .returned (.tuple #[]) ∧ w = w' := by
  have hc : Calls Tryd.prog 30 #[v, .int .i64 0, .int .i64 0, cmpV] w fun e w' => e = .returned (.tuple #[]) ∧ w = w' := by
    go_enter Tryd.func30, Tryd.ntmps30
    go_wp2
    go_loopg [8] 0 (fun gk iv wr => iv = .int .i64 1 ∧ wr = w)
    case atStart => exact ⟨rfl, rfl⟩
    case round =>
      obtain ⟨rfl, hwx⟩ := hrel
      subst hwx
      go_wp2
      go_end0
      exact ⟨rfl, rfl⟩
  have HC := Lib.hid hc
  clear hc
  go_enter Tryd.func24, Tryd.ntmps24
  go_wp2
  go_loopg [7, 8] 0 (fun gk a b wr => a = .int .i64 0 ∧ b = .int .i64 20 ∧ wr = w)
  case atStart => exact ⟨rfl, rfl, rfl⟩
  case round =>
    obtain ⟨rfl, rfl, hwx⟩ := hrel
    subst hwx
    go_wp2_with fail
    refine HC.out.mono ?_
    rintro e w1 ⟨rfl, hw1⟩
    subst hw1
    obtain ⟨w3, hw3⟩ : ∃ w3, w3 = wr := ⟨_, rfl⟩
    have HW := Lib.hid hw3
    clear hw3 HC
    go_wp2
    go_loopg [6, 7, 8, 9] 0 (fun gk s a b m wx => s = .int .i64 20 ∧ wx = w3)
    case atStart => exact ⟨rfl, HW.out.symm⟩
    case round =>
      obtain ⟨rfl, hwx⟩ := hrel
      rw [HW.out] at hwx
      subst hwx
      go_wp2
      go_end0
      exact ⟨rfl, rfl⟩

set_option maxHeartbeats 1000000 in
/-- slices.SortStableFunc by the rounds, then the queues. -/
theorem sort_any (B : Nat) (v : Value) (X : List Itm) (F : List Ent) (w : World) (hX : X.length ≤ 40) (hB : B ≤ w.heap.size) (hsep : Sep B w (itE v X :: F)) :
    Calls Tryd.prog 18 #[v, cmpV] w fun e w' => e = .returned (.tuple #[]) ∧ (∃ C, C.Perm X ∧ Srt C ∧ Sep B w' (itE v C :: F)) ∧ Below B w w' := by
  obtain ⟨-, ao, cap, rfl, hcap, hnil⟩ := hsep.rowShape (A := [])
  obtain ⟨N, hN⟩ : ∃ N, N = X.length := ⟨_, rfl⟩
  rw [← hN] at hcap hnil hX ⊢
  have hc : Calls Tryd.prog 24 #[.slice ao N cap, .int .i64 N, cmpV] w fun e w' => e = .returned (.tuple #[]) ∧ (∃ C, C.Perm X ∧ Srt C ∧ Sep B w' (itE (.slice ao N cap) C :: F)) ∧ Below B w w' := by
    rcases Nat.eq_zero_or_pos N with h0 | h0
    · have hx : X = [] := List.eq_nil_of_length_eq_zero (by omega)
      subst hx
      subst h0
      refine (stab_nil _ w).mono ?_
      rintro e w' ⟨rfl, hw⟩
      subst hw
      exact ⟨rfl, ⟨[], List.Perm.refl _, List.Pairwise.nil, hsep⟩, Below.refl _ _⟩
    · have hsep2 : Sep B w ([] ++ Ent.row (.slice ao N cap) N 4 42 (X.flatMap itC) :: F) := by
        have h := hsep
        unfold itE at h
        rw [← hN] at h
        exact h
      obtain ⟨g, off, rfl, _, _, _⟩ := Sep.rowAt (A := []) hsep2 h0
      have hs3 : Sep B w (itN g off N cap X :: F) := hsep2
      have back : ∀ {e w'}, StabQ B g off N cap X F w e w' → e = .returned (.tuple #[]) ∧ (∃ C, C.Perm X ∧ Srt C ∧ Sep B w' (itE (.slice (some ⟨g, off, none⟩) N cap) C :: F)) ∧ Below B w w' := by
        rintro e w' ⟨h1, ⟨C, h2, h3, h4⟩, h5⟩
        refine ⟨h1, ⟨C, h2, h3, ?_⟩, h5⟩
        have hl : C.length = N := by rw [h2.length_eq, hN]
        unfold itE; rw [hl]; exact h4
      rcases Nat.lt_or_ge N 20 with h1 | h1
      · exact (stab_one B g off N cap X F w hN.symm h1 hB hs3).mono fun _ _ h => back h
      · have e : X = X.take 20 ++ X.drop 20 := (List.take_append_drop 20 X).symm
        have l1 : (X.take 20).length = 20 := by rw [List.length_take]; omega
        have l2 : 20 + (X.drop 20).length = N := by rw [List.length_drop]; omega
        rcases Nat.lt_or_ge N 40 with h2 | h2
        · have := stab_two B g off N cap (X.take 20) (X.drop 20) F w l1 l2 h1 h2 hB (by rw [← e]; exact hs3)
          rw [← e] at this
          exact this.mono fun _ _ h => back h
        · have := stab_full B g off N cap (X.take 20) (X.drop 20) F w l1 (by omega) (by omega) hB (by rw [← e]; exact hs3)
          rw [← e] at this
          exact this.mono fun _ _ h => back h
  have HC := Lib.hid hc
  clear hc hN hsep hcap hnil
  go_enter Tryd.func18, Tryd.ntmps18
  go_wp2_with fail
  refine HC.out.mono ?_
  rintro e w' ⟨rfl, h1, h2⟩
  have HR := Lib.hid (And.intro h1 h2)
  clear h1 h2 HC
  go_wp2
  go_end0
  exact ⟨rfl, HR.out.1, HR.out.2⟩
end Go.Proofs.YtpfpaheafpibiaaDoor
