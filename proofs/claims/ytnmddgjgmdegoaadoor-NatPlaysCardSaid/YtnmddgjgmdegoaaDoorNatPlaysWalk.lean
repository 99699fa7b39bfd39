/- NatPlays returns true: whatever is done with a table, what is told, which ports are lent, and to whom one is, are as the document says. -/
import Derived.Test.YtnmddgjgmdegoaaDoorNatPlaysPlain
import Derived.Test.YtnmddgjgmdegoaaDoorPlLaw
import Derived.Test.YtnmddgjgmdegoaaDoorInts
import Derived.Test.YtnmddgjgmdegoaaDoorIn4
import Derived.Deep.RegionHeld3
namespace Go.Proofs.YtnmddgjgmdegoaaDoor
open Go.RowKit Go.Maps
set_option linter.unusedVariables false
set_option maxRecDepth 100000

theorem natY_at {G g gy : Nat} {low many : Int} {M U : NatM} {E : Ent} {t : TypeId} {cs : List Value} {sp sq : Value} {w : World} (h : NatT G w g low many M (rwE sp sq U [E, Ent.blk1 gy t cs])) {j : Nat} {v : Value} (hv : cs[j]? = some v) : w.cell? ⟨gy, j, none⟩ = some v ∧ w.frozen? ⟨gy, j, none⟩ = false := by
  obtain ⟨h1, mp, mq, e1, k1, e2, k2, m1, m2, hs⟩ := h
  exact Sep.blkAt (A := [_, _, _, _, _, _]) hs hv
theorem natY_set {G g gy : Nat} {low many : Int} {M U : NatM} {E : Ent} {t : TypeId} {cs : List Value} {sp sq : Value} {w w0 : World} (j : Nat) (v : Value) (h : NatT G w g low many M (rwE sp sq U [E, Ent.blk1 gy t cs])) (hb : Below G w0 w) : NatT G (w.setCell ⟨gy, j, none⟩ v) g low many M (rwE sp sq U [E, Ent.blk1 gy t (cs.set j v)]) ∧ Below G w0 (w.setCell ⟨gy, j, none⟩ v) := by
  obtain ⟨h1, mp, mq, e1, k1, e2, k2, m1, m2, hs⟩ := h
  exact ⟨⟨h1, mp, mq, e1, k1, e2, k2, m1, m2, Sep.blkSet (A := [_, _, _, _, _, _]) hs j v⟩, hb.setCell (p := ⟨gy, j, none⟩) (Sep.blkLt (A := [_, _, _, _, _, _]) hs).1 v⟩
theorem portsSl {B : Nat} {w : World} {ao bo : Option Addr} {ac bc : Nat} {M : NatM} {F : List Ent} (h : Sep B w (rwE (.slice ao M.length ac) (.slice bo M.length bc) M F)) : IntSl w.heap.size w ao (M.map (·.1)) := by
  have h1 : Sep B w (Ent.ints 3 (.slice ao (M.map (·.1)).length ac) (M.map (·.1)) :: Ent.row (.slice bo M.length bc) M.length 2 24 (M.flatMap plC) :: F) := by rw [List.length_map]; exact h
  exact Sep.intSl (A := []) h1
set_option maxHeartbeats 4000000 in
theorem natPlays_walk (low many : Int) (ao : Option Addr) (ac : Nat) (rs : List Stp) (ask : Int) (w : World) (hdoor : Door w) (_ : -9223372036854775808 ≤ low ∧ low ≤ 9223372036854775807) (_ : -9223372036854775808 ≤ many ∧ many ≤ 9223372036854775807)
    (hA : RowSl w.heap.size w ao 1 (rs.map stpC)) (hac : rs.length ≤ ac) (hmax : ac ≤ maxLen) (hr : StpsB w.heap.size w rs) (hask : -9223372036854775808 ≤ ask ∧ ask ≤ 9223372036854775807) :
    Calls Tryd.prog 6 #[.int .i64 low, .int .i64 many, .slice ao rs.length ac, .int .i64 ask] w fun e w' => e = .returned (.bool true) ∧ Below w.heap.size w w' := by
  unfold maxLen at hmax
  have hsame : ∀ (c : Int) (w' : World), Below w.heap.size w w' → Calls Tryd.prog 16 #[errV c, .int .i64 c] w' fun x w'' => x = .returned (.bool true) ∧ Below w'.heap.size w' w'' := fun c w' h =>
    same_any c c true w' (hdoor.below h hdoor.pos) (by simp)
  have HSAME := Lib.hid hsame
  obtain ⟨G, hG⟩ : ∃ G, G = w.heap.size := ⟨_, rfl⟩
  rw [← hG] at HSAME hA hr
  have HG := Lib.hid hG
  have HA := Lib.hid hA
  have HR := Lib.hid hr
  clear hsame hG hdoor hA hr
  by_cases hlm : LmOk low many
  · obtain ⟨n, rfl⟩ := Int.eq_ofNat_of_zero_le (by have := hlm.2.1.1; omega : 0 ≤ many)
    have HLM := Lib.hid hlm
    have hl1 := hlm.1.1
    have hl2 := hlm.1.2
    have hn1 : 1 ≤ (n : Int) := hlm.2.1.1
    have hn2 : (n : Int) ≤ 30 := hlm.2.1.2
    have hln := hlm.2.2
    have hd65 : decide (65536 - (n : Int) < low) = false := decide_eq_false (by omega)
    clear hlm
    go_enter Tryd.func6, Tryd.ntmps6
    go_wp2_with fail
    refine (natNew_ok low n w HLM.out).mono ?_
    rintro e w1 ⟨g, rfl, ht, hb⟩
    rw [← HG.out] at ht hb
    have HB1 := Lib.hid hb
    have hg1 : G ≤ w1.heap.size := by have := HB1.out.size; rw [← HG.out] at this; exact this
    obtain ⟨hk1, mp, mq, e1, c1, e2, c2, m1, m2, hs⟩ := ht
    have hs2 := ((hs.blkNew hg1 #[.int .i64 low, .int .i64 (n : Int), .slice none 0 0, .slice none 0 0] 45).rowNil 2 24).intsNil 3
    have HT2 : Hid (NatT G (w1.alloc (.cells #[.int .i64 low, .int .i64 (n : Int), .slice none 0 0, .slice none 0 0] 45)) g low (n : Int) [] (rwE (.slice none 0 0) (.slice none 0 0) [] [Ent.blk1 w1.heap.size 45 [.int .i64 low, .int .i64 (n : Int), .slice none 0 0, .slice none 0 0]])) :=
      Lib.hid ⟨hk1, mp, mq, e1, c1, e2, c2, m1, m2, by
        have := hs2.perm (List.perm_append_comm (l₁ := [_, _, _]) (l₂ := tabE g mp mq low (n : Int) e1 c1 e2 c2 ++ []))
        rw [List.append_nil] at this
        exact this⟩
    have HB2 := Lib.hid (HB1.out.alloc hg1 (.cells #[.int .i64 low, .int .i64 (n : Int), .slice none 0 0, .slice none 0 0] 45))
    obtain ⟨gx, hgx⟩ : ∃ gx, gx = w1.heap.size := ⟨_, rfl⟩
    rw [← hgx] at HT2
    have HGX := Lib.hid hgx
    clear hb hk1 m1 m2 hs hs2 hgx
    go_wp2_with fail
    refine (in4_yes _ _ _ _ hl1 hl2).mono ?_
    rintro e w' ⟨rfl, rfl⟩
    go_wp2_with fail
    refine (in4_yes _ _ _ _ hn1 hn2).mono ?_
    rintro e w' ⟨rfl, rfl⟩
    go_wp2
    rw [← HGX.out]
    clear HGX hd65
    go_loopg [12] rs.length (fun gk kv wr => ∃ (k : Nat) (sp sq : Value) (M : NatM), gk + k = rs.length ∧ kv = .int .i64 k ∧ k ≤ 60 ∧ M.length ≤ k ∧ NatT G wr g low (n : Int) M (rwE sp sq M [Ent.blk1 gx 45 [.int .i64 low, .int .i64 (n : Int), sp, sq]]) ∧ Below G w wr)
    case atStart => exact ⟨0, _, _, [], rfl, rfl, by omega, by simp, HT2.out, HB2.out⟩
    case round =>
      obtain ⟨gi, rfl⟩ : ∃ gi, gi = gk := ⟨_, rfl⟩
      obtain ⟨k, sp, sq, M, hgi, rfl, hk60, hml, ht, hbel⟩ := hrel
      clear HT2 HB2 HB1 hg1
      have HT3 := Lib.hid ht
      have HB3 := Lib.hid hbel
      obtain ⟨w3, hw3⟩ : ∃ w3, w3 = wr := ⟨_, rfl⟩
      obtain rfl := hw3
      have hg3 : G ≤ w3.heap.size := by have := HB3.out.size; rw [← HG.out] at this; exact this
      clear ht hbel
      by_cases hlt : k < rs.length
      · have hki : (k : Int) < (rs.length : Int) := by omega
        have hk0 : (0 : Int) ≤ (k : Int) := by omega
        by_cases h60 : k < 60
        · have hd60 : decide ((k : Int) < 60) = true := decide_eq_true (by omega)
          obtain ⟨⟨ra, rc, xs⟩, hrk⟩ : ∃ r, rs[k]? = some r := ⟨_, List.getElem?_eq_getElem hlt⟩
          obtain ⟨b0, off0, rfl, hbb, cw⟩ := rows_at HA.out hrk
          obtain ⟨⟨hi, hrl, hrm⟩, hgx⟩ := HR.out _ (List.mem_iff_getElem?.2 ⟨k, hrk⟩)
          simp only at hi hrl hrm cw hgx
          have c0 : w3.cell? ⟨b0, off0 + k, none⟩ = some (.slice ra xs.length rc) := (HB3.out.cell (p := ⟨b0, off0 + k, none⟩) hbb).trans cw
          have HI := Lib.hid hi
          have HGD := Lib.hid hgx
          clear hi cw hrk hbb hrl hrm hgx
          go_upto_if 69 with fail
          clear c0
          go_cut [] (fun wx => ∃ (sp sq : Value) (M : NatM), M.length ≤ k + 1 ∧ NatT G wx g low (n : Int) M (rwE sp sq M [Ent.blk1 gx 45 [.int .i64 low, .int .i64 (n : Int), sp, sq]]) ∧ Below G w wx ∧ (xs.length = 1 → M.length ≤ k))
          case first =>
            by_cases h2 : xs.length = 2
            · obtain ⟨a, b, rfl⟩ : ∃ a b, xs = [a, b] := by
                match xs, h2 with
                | [a, b], _ => exact ⟨a, b, rfl⟩
              have hl2' : (((([a, b] : List Int).length : Nat) : Int) == 2) = true := rfl
              obtain ⟨bl, ol, rfl, hbl, r0⟩ := HI.out 0 a rfl
              obtain ⟨_, _, he, _, r1⟩ := HI.out 1 b rfl
              cases he
              have s0 : w3.drew.cell? ⟨bl, ol, none⟩ = some (.int .i64 a) := (HB3.out.drew.cell (p := ⟨bl, ol, none⟩) hbl).trans r0
              have s1 : w3.drew.cell? ⟨bl, ol + 1, none⟩ = some (.int .i64 b) := (HB3.out.drew.cell (p := ⟨bl, ol + 1, none⟩) hbl).trans r1
              have z0 : (w3.alloc (.cells #[.int .i64 0, .int .i64 0] 24)).cell? ⟨bl, ol, none⟩ = some (.int .i64 a) := ((HB3.out.alloc hg3 _).cell (p := ⟨bl, ol, none⟩) hbl).trans r0
              have z1 : (w3.alloc (.cells #[.int .i64 0, .int .i64 0] 24)).cell? ⟨bl, ol + 1, none⟩ = some (.int .i64 b) := ((HB3.out.alloc hg3 _).cell (p := ⟨bl, ol + 1, none⟩) hbl).trans r1
              have HX := Lib.hid (natX_new HT3.out hg3 #[.int .i64 a, .int .i64 b] 24).drew
              have HBX := Lib.hid (HB3.out.alloc hg3 (.cells #[.int .i64 a, .int .i64 b] 24)).drew
              clear r0 r1 hbl h2
              go_upto_region 12 with fail
              go_cut [14] (fun s wx => ∃ gp, s = .pointer (some ⟨gp, 0, none⟩) ∧ NatT G wx g low (n : Int) M (rwE sp sq M [Ent.blk1 gx 45 [.int .i64 low, .int .i64 (n : Int), sp, sq], Ent.blk1 gp 24 [.int .i64 a, .int .i64 b]]) ∧ Below G w wx)
              case first =>
                go_region
                all_goals
                  go_wp2_with fail
                  go_meet
                  exact ⟨_, rfl, HX.out, HBX.out⟩
              case rest =>
                obtain ⟨gp, rfl, ht, hbel⟩ := hcut
                clear HT3 HB3 hg3 s0 s1 z0 z1 HX HBX hl2'
                have HT4 := Lib.hid ht
                have HB4 := Lib.hid hbel
                obtain ⟨w4, hw4⟩ : ∃ w4, w4 = wc := ⟨_, rfl⟩
                obtain rfl := hw4
                have hg4 : G ≤ w4.heap.size := by have := HB4.out.size; rw [← HG.out] at this; exact this
                clear ht hbel
                obtain ⟨F, hsF, hback⟩ := natRef HT4.out
                have hro := refOut_any G low (n : Int) sp sq M F (a, b) w4 HT4.out.ok hsF hg4 (by omega)
                have hlen := natOut_len low (n : Int) M (a, b)
                obtain ⟨⟨x0, x1, x2, x3⟩, -⟩ := natX_cells HT4.out
                obtain ⟨p0, p1⟩ := natX_place HT4.out
                obtain ⟨R, hR⟩ : ∃ R, R = natOut low (n : Int) M (a, b) := ⟨_, rfl⟩
                rw [← hR] at hro hlen
                obtain ⟨M', r, c⟩ := R
                simp only at hro hlen
                have HRO := Lib.hid hro
                have HBK := Lib.hid hback
                have HRE := Lib.hid hR
                clear hro hback hR hsF
                go_wp2_with fail
                refine HRO.out.mono ?_
                rintro e w5 ⟨sp', sq', rfl, hs, hb⟩
                have HT5 := Lib.hid (HBK.out w5 sp' sq' M' hs)
                have HB5 := Lib.hid (HB4.out.trans hb)
                have hg5 : G ≤ w5.heap.size := by have := HB5.out.size; rw [← HG.out] at this; exact this
                obtain ⟨⟨a1, k1, rfl⟩, a2, k2, rfl⟩ := rw_shape hs
                clear hs hb x0 x1 x2 x3 p0 p1 HT4 HB4 hg4 HRO HBK
                have HT6 := Lib.hid (HT5.out.kept (below_alloc w5 (.cells #[.int .i64 low, .int .i64 (n : Int), .slice a1 M'.length k1, .slice a2 M'.length k2] 45)))
                have HB6 := Lib.hid (HB5.out.alloc hg5 (.cells #[.int .i64 low, .int .i64 (n : Int), .slice a1 M'.length k1, .slice a2 M'.length k2] 45))
                have HY := Lib.hid ((Sep.nil w5.heap.size w5).blkNew (Nat.le_refl _) #[.int .i64 low, .int .i64 (n : Int), .slice a1 M'.length k1, .slice a2 M'.length k2] 45)
                obtain ⟨gy, hgy⟩ : ∃ gy, gy = w5.heap.size := ⟨_, rfl⟩
                rw [← hgy] at HY
                have HGY := Lib.hid hgy
                clear hgy HT5 HB5 hg5
                go_upto_region 14 with fail
                rw [← HGY.out]
                generalize w5.alloc (.cells #[.int .i64 low, .int .i64 (n : Int), .slice a1 M'.length k1, .slice a2 M'.length k2] 45) = w6 at *
                have y0 := (Sep.blkAt (A := []) HY.out (j := 0) rfl).1
                have y1 := (Sep.blkAt (A := []) HY.out (j := 1) rfl).1
                have y2 := (Sep.blkAt (A := []) HY.out (j := 2) rfl).1
                have y3 := (Sep.blkAt (A := []) HY.out (j := 3) rfl).1
                obtain ⟨⟨x0, x1, x2, x3⟩, f0, f1, f2, f3⟩ := natX_cells HT6.out
                obtain ⟨ht7, hb7⟩ := natX_set (.int .i64 low) (.int .i64 (n : Int)) (.slice a1 M'.length k1) (.slice a2 M'.length k2) HT6.out HB6.out
                obtain ⟨w7, hw7⟩ : ∃ w7, w7 = (((w6.setCell ⟨gx, 0, none⟩ (.int .i64 low)).setCell ⟨gx, 1, none⟩ (.int .i64 (n : Int))).setCell ⟨gx, 2, none⟩ (.slice a1 M'.length k1)).setCell ⟨gx, 3, none⟩ (.slice a2 M'.length k2) := ⟨_, rfl⟩
                rw [← hw7] at ht7 hb7
                have HT7 := Lib.hid ht7
                have HB7 := Lib.hid hb7
                have HW7 := Lib.hid hw7
                clear ht7 hb7 hw7
                go_upto_region 15 with fail
                rw [← HW7.out]
                clear x0 x1 x2 x3 f0 f1 f2 f3 y0 y1 y2 y3 HT6 HB6 HY HW7
                have hg7 : G ≤ w7.heap.size := by have := HB7.out.size; rw [← HG.out] at this; exact this
                obtain ⟨p0, p1⟩ := natX_place HT7.out
                have hn := natOut_any G g low (n : Int) M _ (a, b) w7 HT7.out hg7
                unfold plV at hn
                rw [← HRE.out] at hn
                simp only at hn
                have HN := Lib.hid hn
                clear hn
                go_wp2_with fail
                refine HN.out.mono ?_
                rintro e w8 ⟨rfl, ht, hb⟩
                have HT8 := Lib.hid ht
                have HB8 := Lib.hid (HB7.out.trans hb)
                have hg8 : G ≤ w8.heap.size := by have := HB8.out.size; rw [← HG.out] at this; exact this
                clear ht hb p0 p1 HT7 HB7 hg7 HN
                go_wp2_with fail
                refine (HSAME.out c _ HB8.out).mono ?_
                rintro e w9 ⟨rfl, hb⟩
                have HT9 := Lib.hid (HT8.out.kept hb).drop1
                have HB9 := Lib.hid (HB8.out.trans (hb.mono hg8))
                have hne : (r != r) = false := by simp
                clear hb HT8 HB8 hg8
                go_wp2_with fail
                go_meet
                exact ⟨_, _, M', by omega, HT9.out, HB9.out, fun h => by simp at h⟩
            · have hne : ((xs.length : Int) == 2) = false := beq_eq_false_iff_ne.2 (by omega)
              have hne2 : (xs.length == 2) = false := by simp [h2]
              clear h2
              go_wp2_with fail
              go_meet
              exact ⟨_, _, _, by omega, HT3.out, HB3.out, fun _ => hml⟩
          case rest =>
            obtain ⟨sp, sq, M, hml2, ht, hbel, hk1⟩ := hcut
            clear HT3 HB3 hg3
            have HT3 := Lib.hid ht
            have HB3 := Lib.hid hbel
            obtain ⟨w3, hw3⟩ : ∃ w3, w3 = wc := ⟨_, rfl⟩
            obtain rfl := hw3
            have hg3 : G ≤ w3.heap.size := by have := HB3.out.size; rw [← HG.out] at this; exact this
            clear ht hbel
            go_upto_if 102 with fail
            go_cut [] (fun wx => ∃ (sp sq : Value) (M : NatM), M.length ≤ k + 1 ∧ NatT G wx g low (n : Int) M (rwE sp sq M [Ent.blk1 gx 45 [.int .i64 low, .int .i64 (n : Int), sp, sq]]) ∧ Below G w wx)
            case first =>
              by_cases h1 : xs.length = 1
              · obtain ⟨q, rfl⟩ : ∃ q, xs = [q] := List.length_eq_one_iff.1 h1
                have hl1' : (((([q] : List Int).length : Nat) : Int) == 1) = true := rfl
                obtain ⟨bl, ol, rfl, hbl, r0⟩ := HI.out 0 q rfl
                have hcl : ∀ w', Below G w w' → w'.cell? ⟨bl, ol, none⟩ = some (.int .i64 q) := fun w' h => (h.cell (p := ⟨bl, ol, none⟩) hbl).trans r0
                have HCL := Lib.hid hcl
                have hqb := HGD.out q (by simp)
                have hmk := hk1 h1
                clear hcl r0 hbl h1 hk1
                obtain ⟨R, hR⟩ : ∃ R, R = natDrop M q := ⟨_, rfl⟩
                have hlen := natDrop_len M q
                rw [← hR] at hlen
                obtain ⟨M', c⟩ := R
                simp only at hlen
                have HRE := Lib.hid hR
                clear hR
                go_upto_region 19 with fail
                go_cut [20, 21] (fun s20 s21 wx => ∃ (gy : Nat) (a1 a2 : Option Addr) (k1 k2 : Nat), s20 = .pointer (some ⟨gy, 0, none⟩) ∧ s21 = .int .i64 c ∧ NatT G wx g low (n : Int) M (rwE (.slice a1 M'.length k1) (.slice a2 M'.length k2) M' [Ent.blk1 gx 45 [.int .i64 low, .int .i64 (n : Int), sp, sq], Ent.blk1 gy 45 [.int .i64 low, .int .i64 (n : Int), .slice a1 M'.length k1, .slice a2 M'.length k2]]) ∧ Below G w wx)
                case first =>
                  have r0 := HCL.out _ HB3.out.drew
                  obtain ⟨⟨x0, x1, x2, x3⟩, -⟩ := natX_cells HT3.out.drew
                  have HK0 := Lib.hid (And.intro r0 (And.intro x0 (And.intro x1 (And.intro x2 x3))))
                  refine wp_region_held_drew (S := fun w' => w'.cell? ⟨bl, ol, none⟩ = some (.int .i64 q) ∧ w'.cell? ⟨gx, 0, none⟩ = some (.int .i64 low) ∧ w'.cell? ⟨gx, 1, none⟩ = some (.int .i64 (n : Int)) ∧ w'.cell? ⟨gx, 2, none⟩ = some sp ∧ w'.cell? ⟨gx, 3, none⟩ = some sq) (by kernel_rfl) ?hS0 (fun hHeld => ?start0)
                  case hS0 => exact HK0.out
                  refine wpAnyH_take (i := 0) (v := ?va0) rfl (by kernel_rfl) (by kernel_rfl) (by kernel_rfl) (fun _ _ _ h => h) (Or.inl ⟨by rfl, ?hya0⟩) (by assumption) ?resta0
                  case hya0 =>
                    intro w hSw
                    try dsimp only at hSw
                    go_simp
                    try with_reducible rfl
                  try simp only [Act.put, List.setIfInBounds_toArray, List.set_cons_zero, List.set_cons_succ, List.getElem_toArray, List.getElem_cons_zero]
                  refine wpAnyH_take (i := 1) (v := ?va1) rfl (by kernel_rfl) (by kernel_rfl) (by kernel_rfl) (fun _ _ _ h => h) (Or.inl ⟨by rfl, ?hya1⟩) (by assumption) ?resta1
                  case hya1 =>
                    intro w hSw
                    try dsimp only at hSw
                    go_simp
                    try with_reducible rfl
                  try simp only [Act.put, List.setIfInBounds_toArray, List.set_cons_zero, List.set_cons_succ, List.getElem_toArray, List.getElem_cons_zero, List.getElem_cons_succ]
                  refine wpAnyH_take (i := 2) (v := ?va2) rfl (by kernel_rfl) (by kernel_rfl) (by kernel_rfl) (fun _ _ _ h => h) (Or.inl ⟨by rfl, ?hya2⟩) (by assumption) ?resta2
                  case hya2 =>
                    intro w hSw
                    try dsimp only at hSw
                    go_simp
                    try with_reducible rfl
                  try simp only [Act.put, List.setIfInBounds_toArray, List.set_cons_zero, List.set_cons_succ, List.getElem_toArray, List.getElem_cons_zero, List.getElem_cons_succ]
                  refine wpAnyH_take (i := 3) (v := ?va3) rfl (by kernel_rfl) (by kernel_rfl) (by kernel_rfl) (fun _ _ _ h => h) (Or.inl ⟨by rfl, ?hya3⟩) (by assumption) ?resta3
                  case hya3 =>
                    intro w hSw
                    try dsimp only at hSw
                    go_simp
                    try with_reducible rfl
                  try simp only [Act.put, List.setIfInBounds_toArray, List.set_cons_zero, List.set_cons_succ, List.getElem_toArray, List.getElem_cons_zero, List.getElem_cons_succ]
                  clear r0 x0 x1 x2 x3
                  obtain ⟨F0, hs0, hbk0⟩ := natRef HT3.out.drew
                  have hro := refDrop_any G low (n : Int) sp sq M F0 q w3.drew HT3.out.ok hs0 hg3 (by omega)
                  rw [← HRE.out] at hro
                  simp only at hro
                  have HRO := Lib.hid hro
                  have HBK0 := Lib.hid hbk0
                  clear hs0 hro hbk0
                  refine wpAnyH_ready (rs := [4, 8]) (by kernel_rfl) (by simp) ?_
                  refine AllReadyH.cons rfl (fun K hK => ?_) (AllReadyH.cons rfl (fun K hK => ?_) AllReadyH.nil)
                  · go_simp
                    refine HRO.out.mono ?_
                    rintro e w4 ⟨sp', sq', rfl, hs, hb⟩
                    have ht4 := HBK0.out w4 sp' sq' M' hs
                    obtain ⟨⟨a1, k1, rfl⟩, a2, k2, rfl⟩ := rw_shape hs
                    have hb4 := HB3.out.drew.trans hb
                    have hg4 : G ≤ w4.heap.size := by have := hb4.size; rw [← HG.out] at this; exact this
                    obtain ⟨⟨x0, x1, x2, x3⟩, -⟩ := natX_cells ht4
                    have HKa := Lib.hid (And.intro (HCL.out _ hb4) (And.intro x0 (And.intro x1 (And.intro x2 x3))))
                    have HT4 := Lib.hid ht4
                    have HB4 := Lib.hid hb4
                    clear hs hb ht4 hb4 x0 x1 x2 x3 HRO HBK0
                    go_wp2_with fail
                    refine hK.out _ _ ?_ (fun hHeldb0 => ?_)
                    · exact HKa.out
                    clear hK K
                    try simp only [Act.put, List.setIfInBounds_toArray, List.set_cons_zero, List.set_cons_succ, List.getElem_toArray, List.getElem_cons_zero, List.getElem_cons_succ]
                    refine wpAnyH_take (i := 5) (v := ?vb5) rfl (by kernel_rfl) (by kernel_rfl) (by kernel_rfl) (fun _ _ _ h => h) (Or.inl ⟨by rfl, ?hyb5⟩) (by assumption) ?restb5
                    case hyb5 =>
                      intro w hSw
                      try dsimp only at hSw
                      go_simp
                      try with_reducible rfl
                    try simp only [Act.put, List.setIfInBounds_toArray, List.set_cons_zero, List.set_cons_succ, List.getElem_toArray, List.getElem_cons_zero, List.getElem_cons_succ]
                    refine wpAnyH_take (i := 6) (v := ?vb6) rfl (by kernel_rfl) (by kernel_rfl) (by kernel_rfl) (fun _ _ _ h => h) (Or.inl ⟨by rfl, ?hyb6⟩) (by assumption) ?restb6
                    case hyb6 =>
                      intro w hSw
                      try dsimp only at hSw
                      go_simp
                      try with_reducible rfl
                    try simp only [Act.put, List.setIfInBounds_toArray, List.set_cons_zero, List.set_cons_succ, List.getElem_toArray, List.getElem_cons_zero, List.getElem_cons_succ]
                    refine wpAnyH_take (i := 7) (v := ?vb7) rfl (by kernel_rfl) (by kernel_rfl) (by kernel_rfl) (fun _ _ _ h => h) (Or.inl ⟨by rfl, ?hyb7⟩) (by assumption) ?restb7
                    case hyb7 =>
                      intro w hSw
                      try dsimp only at hSw
                      go_simp
                      try with_reducible rfl
                    try simp only [Act.put, List.setIfInBounds_toArray, List.set_cons_zero, List.set_cons_succ, List.getElem_toArray, List.getElem_cons_zero, List.getElem_cons_succ]
                    have ht5 := HT4.out.kept (below_alloc w4 (.cells #[.int .i64 0, .int .i64 0, .slice none 0 0, .slice none 0 0] 45))
                    have hb5 := HB4.out.alloc hg4 (.cells #[.int .i64 0, .int .i64 0, .slice none 0 0, .slice none 0 0] 45)
                    obtain ⟨⟨x0, x1, x2, x3⟩, -⟩ := natX_cells ht5
                    have HKb := Lib.hid (And.intro (HCL.out _ hb5) (And.intro x0 (And.intro x1 (And.intro x2 x3))))
                    have ht6 := natX_new HT4.out hg4 #[.int .i64 low, .int .i64 (n : Int), .slice a1 M'.length k1, .slice a2 M'.length k2] 45
                    have hb6 := HB4.out.alloc hg4 (.cells #[.int .i64 low, .int .i64 (n : Int), .slice a1 M'.length k1, .slice a2 M'.length k2] 45)
                    clear x0 x1 x2 x3
                    obtain ⟨⟨x0, x1, x2, x3⟩, -⟩ := natX_cells ht6
                    have HKc := Lib.hid (And.intro (HCL.out _ hb6) (And.intro x0 (And.intro x1 (And.intro x2 x3))))
                    have HT6 := Lib.hid ht6
                    have HB6 := Lib.hid hb6
                    clear ht5 hb5 ht6 hb6 x0 x1 x2 x3
                    refine wpAnyH_ready (rs := [8]) (by kernel_rfl) (by simp) ?_
                    refine AllReadyH.cons rfl (fun K hK => ?_) AllReadyH.nil
                    go_simp
                    refine hK.out _ _ ?_ (fun hHeldb1 => ?_)
                    · exact HKb.out
                    clear hK K
                    try simp only [Act.put, List.setIfInBounds_toArray, List.set_cons_zero, List.set_cons_succ, List.getElem_toArray, List.getElem_cons_zero, List.getElem_cons_succ]
                    refine wpAnyH_ready (rs := [9]) (by kernel_rfl) (by simp) ?_
                    refine AllReadyH.cons rfl (fun K hK => ?_) AllReadyH.nil
                    go_simp
                    refine hK.out _ _ ?_ (fun hHeldb2 => ?_)
                    · exact HKc.out
                    clear hK K
                    try simp only [Act.put, List.setIfInBounds_toArray, List.set_cons_zero, List.set_cons_succ, List.getElem_toArray, List.getElem_cons_zero, List.getElem_cons_succ]
                    refine wpAnyH_ready (rs := [10]) (by kernel_rfl) (by simp) ?_
                    refine AllReadyH.cons rfl (fun K hK => ?_) AllReadyH.nil
                    go_simp
                    refine hK.out _ _ ?_ (fun hHeldb3 => ?_)
                    · exact HKc.out
                    clear hK K
                    try simp only [Act.put, List.setIfInBounds_toArray, List.set_cons_zero, List.set_cons_succ, List.getElem_toArray, List.getElem_cons_zero, List.getElem_cons_succ]
                    refine wpAnyH_done (by kernel_rfl) ?_ _
                    go_wp2_with fail
                    go_meet
                    exact ⟨_, a1, a2, k1, k2, rfl, rfl, HT6.out, HB6.out⟩
                  · go_simp
                    have ht4 := (natX_new HT3.out hg3 #[.int .i64 0, .int .i64 0, .slice none 0 0, .slice none 0 0] 45).drew
                    have hb4 := (HB3.out.alloc hg3 (.cells #[.int .i64 0, .int .i64 0, .slice none 0 0, .slice none 0 0] 45)).drew
                    obtain ⟨gy, hgy⟩ : ∃ gy, gy = w3.heap.size := ⟨_, rfl⟩
                    rw [← hgy] at ht4 ⊢
                    clear hgy HRO HBK0 HT3 HB3 hg3
                    generalize (w3.alloc (.cells #[.int .i64 0, .int .i64 0, .slice none 0 0, .slice none 0 0] 45)).drew = w4 at *
                    have hg4 : G ≤ w4.heap.size := by have := hb4.size; rw [← HG.out] at this; exact this
                    obtain ⟨⟨x0, x1, x2, x3⟩, -⟩ := natX_cells ht4
                    have HKa := Lib.hid (And.intro (HCL.out _ hb4) (And.intro x0 (And.intro x1 (And.intro x2 x3))))
                    obtain ⟨F1, hs1, hbk1⟩ := natRef ht4
                    have hro := refDrop_any G low (n : Int) sp sq M F1 q w4 ht4.ok hs1 hg4 (by omega)
                    rw [← HRE.out] at hro
                    simp only at hro
                    have HRO := Lib.hid hro
                    have HBK := Lib.hid hbk1
                    have HB4 := Lib.hid hb4
                    clear hro hbk1 hs1 ht4 hb4 x0 x1 x2 x3
                    refine hK.out _ _ ?_ (fun hHeldc0 => ?_)
                    · exact HKa.out
                    clear hK K
                    try simp only [Act.put, List.setIfInBounds_toArray, List.set_cons_zero, List.set_cons_succ, List.getElem_toArray, List.getElem_cons_zero, List.getElem_cons_succ]
                    refine wpAnyH_ready (rs := [4]) (by kernel_rfl) (by simp) ?_
                    refine AllReadyH.cons rfl (fun K hK => ?_) AllReadyH.nil
                    go_simp
                    refine HRO.out.mono ?_
                    rintro e w5 ⟨sp', sq', rfl, hs, hb⟩
                    have ht5 := HBK.out w5 sp' sq' M' hs
                    obtain ⟨⟨a1, k1, rfl⟩, a2, k2, rfl⟩ := rw_shape hs
                    have hb5 := HB4.out.trans hb
                    obtain ⟨⟨x0, x1, x2, x3⟩, -⟩ := natX_cells ht5
                    have HKb := Lib.hid (And.intro (HCL.out _ hb5) (And.intro x0 (And.intro x1 (And.intro x2 x3))))
                    obtain ⟨y0, f0⟩ := natY_at ht5 (j := 0) rfl
                    obtain ⟨y1, f1⟩ := natY_at ht5 (j := 1) rfl
                    obtain ⟨y2, f2⟩ := natY_at ht5 (j := 2) rfl
                    obtain ⟨y3, f3⟩ := natY_at ht5 (j := 3) rfl
                    obtain ⟨h6, b6⟩ := natY_set 0 (.int .i64 low) ht5 hb5
                    obtain ⟨h7, b7⟩ := natY_set 1 (.int .i64 (n : Int)) h6 b6
                    obtain ⟨h8, b8⟩ := natY_set 2 (.slice a1 M'.length k1) h7 b7
                    obtain ⟨h9, b9⟩ := natY_set 3 (.slice a2 M'.length k2) h8 b8
                    clear x0 x1 x2 x3
                    obtain ⟨⟨x0, x1, x2, x3⟩, -⟩ := natX_cells h9
                    have HKc := Lib.hid (And.intro (HCL.out _ b9) (And.intro x0 (And.intro x1 (And.intro x2 x3))))
                    have HT9 := Lib.hid h9
                    have HB9 := Lib.hid b9
                    clear hs hb ht5 hb5 h6 b6 h7 b7 h8 b8 h9 b9 x0 x1 x2 x3 HRO HBK HB4
                    go_wp2_with fail
                    refine hK.out _ _ ?_ (fun hHeldc1 => ?_)
                    · exact HKb.out
                    clear hK K
                    try simp only [Act.put, List.setIfInBounds_toArray, List.set_cons_zero, List.set_cons_succ, List.getElem_toArray, List.getElem_cons_zero, List.getElem_cons_succ]
                    refine wpAnyH_take (i := 5) (v := ?vc5) rfl (by kernel_rfl) (by kernel_rfl) (by kernel_rfl) (fun _ _ _ h => h) (Or.inl ⟨by rfl, ?hyc5⟩) (by assumption) ?restc5
                    case hyc5 =>
                      intro w hSw
                      try dsimp only at hSw
                      go_simp
                      try with_reducible rfl
                    try simp only [Act.put, List.setIfInBounds_toArray, List.set_cons_zero, List.set_cons_succ, List.getElem_toArray, List.getElem_cons_zero, List.getElem_cons_succ]
                    refine wpAnyH_take (i := 6) (v := ?vc6) rfl (by kernel_rfl) (by kernel_rfl) (by kernel_rfl) (fun _ _ _ h => h) (Or.inl ⟨by rfl, ?hyc6⟩) (by assumption) ?restc6
                    case hyc6 =>
                      intro w hSw
                      try dsimp only at hSw
                      go_simp
                      try with_reducible rfl
                    try simp only [Act.put, List.setIfInBounds_toArray, List.set_cons_zero, List.set_cons_succ, List.getElem_toArray, List.getElem_cons_zero, List.getElem_cons_succ]
                    refine wpAnyH_take (i := 7) (v := ?vc7) rfl (by kernel_rfl) (by kernel_rfl) (by kernel_rfl) (fun _ _ _ h => h) (Or.inl ⟨by rfl, ?hyc7⟩) (by assumption) ?restc7
                    case hyc7 =>
                      intro w hSw
                      try dsimp only at hSw
                      go_simp
                      try with_reducible rfl
                    try simp only [Act.put, List.setIfInBounds_toArray, List.set_cons_zero, List.set_cons_succ, List.getElem_toArray, List.getElem_cons_zero, List.getElem_cons_succ]
                    refine wpAnyH_ready (rs := [9]) (by kernel_rfl) (by simp) ?_
                    refine AllReadyH.cons rfl (fun K hK => ?_) AllReadyH.nil
                    go_simp
                    refine hK.out _ _ ?_ (fun hHeldc2 => ?_)
                    · exact HKc.out
                    clear hK K
                    try simp only [Act.put, List.setIfInBounds_toArray, List.set_cons_zero, List.set_cons_succ, List.getElem_toArray, List.getElem_cons_zero, List.getElem_cons_succ]
                    refine wpAnyH_ready (rs := [10]) (by kernel_rfl) (by simp) ?_
                    refine AllReadyH.cons rfl (fun K hK => ?_) AllReadyH.nil
                    go_simp
                    refine hK.out _ _ ?_ (fun hHeldc3 => ?_)
                    · exact HKc.out
                    clear hK K
                    try simp only [Act.put, List.setIfInBounds_toArray, List.set_cons_zero, List.set_cons_succ, List.getElem_toArray, List.getElem_cons_zero, List.getElem_cons_succ]
                    refine wpAnyH_done (by kernel_rfl) ?_ _
                    go_wp2_with fail
                    go_meet
                    exact ⟨gy, a1, a2, k1, k2, rfl, rfl, HT9.out, HB9.out⟩
                case rest =>
                  obtain ⟨gy, a1, a2, k1, k2, rfl, rfl, ht, hbel⟩ := hcut
                  clear HT3 HB3 hg3
                  have HT4 := Lib.hid ht
                  have HB4 := Lib.hid hbel
                  obtain ⟨w4, hw4⟩ : ∃ w4, w4 = wc := ⟨_, rfl⟩
                  obtain rfl := hw4
                  have hg4 : G ≤ w4.heap.size := by have := HB4.out.size; rw [← HG.out] at this; exact this
                  clear ht hbel
                  have y0 := (natY_at HT4.out (j := 0) rfl).1
                  have y1 := (natY_at HT4.out (j := 1) rfl).1
                  have y2 := (natY_at HT4.out (j := 2) rfl).1
                  have y3 := (natY_at HT4.out (j := 3) rfl).1
                  obtain ⟨⟨x0, x1, x2, x3⟩, f0, f1, f2, f3⟩ := natX_cells HT4.out
                  obtain ⟨ht7, hb7⟩ := natX_set (.int .i64 low) (.int .i64 (n : Int)) (.slice a1 M'.length k1) (.slice a2 M'.length k2) HT4.out HB4.out
                  obtain ⟨w7, hw7⟩ : ∃ w7, w7 = (((w4.setCell ⟨gx, 0, none⟩ (.int .i64 low)).setCell ⟨gx, 1, none⟩ (.int .i64 (n : Int))).setCell ⟨gx, 2, none⟩ (.slice a1 M'.length k1)).setCell ⟨gx, 3, none⟩ (.slice a2 M'.length k2) := ⟨_, rfl⟩
                  rw [← hw7] at ht7 hb7
                  have HT7 := Lib.hid ht7
                  have HB7 := Lib.hid hb7
                  have HW7 := Lib.hid hw7
                  clear ht7 hb7 hw7
                  go_upto_region 21 with fail
                  rw [← HW7.out]
                  clear x0 x1 x2 x3 f0 f1 f2 f3 y0 y1 y2 y3 HT4 HB4 HW7 hg4
                  have hg7 : G ≤ w7.heap.size := by have := HB7.out.size; rw [← HG.out] at this; exact this
                  have r0 := HCL.out _ HB7.out
                  have hn := natDrop_any G g low (n : Int) M _ q w7 HT7.out hg7 hqb
                  rw [← HRE.out] at hn
                  simp only at hn
                  have HN := Lib.hid hn
                  clear hn
                  go_wp2_with fail
                  refine HN.out.mono ?_
                  rintro e w8 ⟨rfl, ht, hb⟩
                  have HT8 := Lib.hid ht
                  have HB8 := Lib.hid (HB7.out.trans hb)
                  have hg8 : G ≤ w8.heap.size := by have := HB8.out.size; rw [← HG.out] at this; exact this
                  clear ht hb HT7 HB7 hg7 HN r0
                  go_wp2_with fail
                  refine (HSAME.out c _ HB8.out).mono ?_
                  rintro e w9 ⟨rfl, hb⟩
                  have HT9 := Lib.hid (HT8.out.kept hb).drop1
                  have HB9 := Lib.hid (HB8.out.trans (hb.mono hg8))
                  clear hb HT8 HB8 hg8
                  go_wp2_with fail
                  go_meet
                  exact ⟨_, _, M', by omega, HT9.out, HB9.out⟩
              · have hne : ((xs.length : Int) == 1) = false := beq_eq_false_iff_ne.2 (by omega)
                have hne2 : (xs.length == 1) = false := by simp [h1]
                clear h1
                go_wp2_with fail
                go_meet
                exact ⟨_, _, _, hml2, HT3.out, HB3.out⟩
            case rest =>
              obtain ⟨sp, sq, M, hml3, ht, hbel⟩ := hcut
              clear HT3 HB3 hg3 hk1
              have HT3 := Lib.hid ht
              have HB3 := Lib.hid hbel
              obtain ⟨w3, hw3⟩ : ∃ w3, w3 = wc := ⟨_, rfl⟩
              obtain rfl := hw3
              have hg3 : G ≤ w3.heap.size := by have := HB3.out.size; rw [← HG.out] at this; exact this
              clear ht hbel
              obtain ⟨F, hs0, -⟩ := natRef HT3.out.drew
              obtain ⟨⟨ap, kp, rfl⟩, aq, kq, rfl⟩ := rw_shape hs0
              have HS0 := Lib.hid hs0
              clear hs0
              have hlr := lent_rise HT3.out.ok
              obtain ⟨L, hL⟩ : ∃ L, L = lentTo M low n := ⟨_, rfl⟩
              have hll : L.length ≤ n := by rw [hL]; exact lentTo_len _ _ _
              have HLL := Lib.hid hL
              have HLR := Lib.hid (hL.trans hlr)
              clear hlr hL
              go_wp2_with fail
              obtain ⟨⟨-, -, x2, -⟩, -⟩ := natX_cells HT3.out.drew
              have HK0 := Lib.hid x2
              refine wp_region_held_drew (S := fun w' => w'.cell? ⟨gx, 2, none⟩ = some (.slice ap M.length kp)) (by kernel_rfl) ?hSc (fun hHeld => ?startc)
              case hSc => exact HK0.out
              refine wpAnyH_take (i := 0) (v := ?vd0) rfl (by kernel_rfl) (by kernel_rfl) (by kernel_rfl) (fun _ _ _ h => h) (Or.inl ⟨by rfl, ?hyd0⟩) (by assumption) ?restd0
              case hyd0 =>
                intro w hSw
                try dsimp only at hSw
                go_simp
                try with_reducible rfl
              try simp only [Act.put, List.setIfInBounds_toArray, List.set_cons_zero, List.set_cons_succ, List.getElem_toArray, List.getElem_cons_zero]
              refine wpAnyH_take (i := 2) (v := ?vd2) rfl (by kernel_rfl) (by kernel_rfl) (by kernel_rfl) (fun _ _ _ h => h) (Or.inl ⟨by rfl, ?hyd2⟩) (by assumption) ?restd2
              case hyd2 =>
                intro w hSw
                try dsimp only at hSw
                go_simp
                try with_reducible rfl
              try simp only [Act.put, List.setIfInBounds_toArray, List.set_cons_zero, List.set_cons_succ, List.getElem_toArray, List.getElem_cons_zero, List.getElem_cons_succ]
              refine wpAnyH_take (i := 3) (v := ?vd3) rfl (by kernel_rfl) (by kernel_rfl) (by kernel_rfl) (fun _ _ _ h => h) (Or.inl ⟨by rfl, ?hyd3⟩) (by assumption) ?restd3
              case hyd3 =>
                intro w hSw
                try dsimp only at hSw
                go_simp
                try with_reducible rfl
              try simp only [Act.put, List.setIfInBounds_toArray, List.set_cons_zero, List.set_cons_succ, List.getElem_toArray, List.getElem_cons_zero, List.getElem_cons_succ]
              clear x2
              refine wpAnyH_ready (rs := [1]) (by kernel_rfl) (by simp) ?_
              refine AllReadyH.cons rfl (fun K hK => ?_) AllReadyH.nil
              go_simp
              refine (natLent_any G g low (n : Int) M _ w3.drew HT3.out.drew hg3).mono ?_
              rintro e w4 ⟨v1, rfl, hs, hb⟩
              rw [Int.toNat_natCast, ← HLL.out] at hs
              obtain ⟨b1, j1, rfl, -⟩ := Sep.intsShape (A := []) (C := []) hs
              have hI1 := Sep.intSl (A := []) (C := []) hs
              have ht4 := HT3.out.drew.kept hb
              have hr4 := HS0.out.kept hb
              have HB4 := Lib.hid (HB3.out.drew.trans (hb.mono hg3))
              obtain ⟨⟨-, -, x2, -⟩, -⟩ := natX_cells ht4
              have HKa := Lib.hid x2
              have HI1 := Lib.hid hI1
              have HT4 := Lib.hid ht4
              have HR4 := Lib.hid hr4
              have hg4 : G ≤ w4.heap.size := by have := HB4.out.size; rw [← HG.out] at this; exact this
              clear hs hb hI1 ht4 hr4 x2
              go_wp2_with fail
              refine hK.out _ _ ?_ (fun hHelde0 => ?_)
              · exact HKa.out
              clear hK K
              try simp only [Act.put, List.setIfInBounds_toArray, List.set_cons_zero, List.set_cons_succ, List.getElem_toArray, List.getElem_cons_zero, List.getElem_cons_succ]
              refine wpAnyH_ready (rs := [4]) (by kernel_rfl) (by simp) ?_
              refine AllReadyH.cons rfl (fun K hK => ?_) AllReadyH.nil
              go_simp
              refine (rising_any ap M.length kp w4.heap.size (M.map (·.1)) w4 (portsSl HR4.out) (List.length_map _).symm (Nat.le_refl _) (by rw [List.length_map]; omega)).mono ?_
              rintro e w5 ⟨v2, ys, rfl, hs, hb, -, hys⟩
              rw [← HLR.out] at hys
              subst hys
              obtain ⟨b2, j2, rfl, -⟩ := Sep.intsShape (A := []) (C := []) hs
              have HI2 := Lib.hid (Sep.intSl (A := []) (C := []) hs)
              have HI3 := Lib.hid (HI1.out.below hb)
              have ht5 := HT4.out.kept hb
              have HB5 := Lib.hid (HB4.out.trans (hb.mono hg4))
              obtain ⟨⟨-, -, x2, -⟩, -⟩ := natX_cells ht5
              have HKb := Lib.hid x2
              have HT5 := Lib.hid ht5
              have hg5 : G ≤ w5.heap.size := by have := HB5.out.size; rw [← HG.out] at this; exact this
              clear hs hb ht5 x2
              go_wp2_with fail
              refine hK.out _ _ ?_ (fun hHelde1 => ?_)
              · exact HKb.out
              clear hK K
              try simp only [Act.put, List.setIfInBounds_toArray, List.set_cons_zero, List.set_cons_succ, List.getElem_toArray, List.getElem_cons_zero, List.getElem_cons_succ]
              refine wpAnyH_ready (rs := [5]) (by kernel_rfl) (by simp) ?_
              refine AllReadyH.cons rfl (fun K hK => ?_) AllReadyH.nil
              go_simp
              refine (ints_any _ _ _ _ _ _ _ _ ys ys true _ HI3.out HI2.out rfl rfl (by omega) (decide_eq_true rfl).symm).mono ?_
              rintro e w6 ⟨rfl, hd⟩
              have hb := below_of_drew hd
              have ht6 := HT5.out.kept hb
              have HB6 := Lib.hid (HB5.out.trans (hb.mono hg5))
              obtain ⟨⟨-, -, x2, -⟩, -⟩ := natX_cells ht6
              have HKc := Lib.hid x2
              have HT6 := Lib.hid ht6
              clear hb hd ht6 x2
              go_wp2_with fail
              refine hK.out _ _ ?_ (fun hHeldf0 => ?_)
              · exact HKc.out
              clear hK K
              try simp only [Act.put, List.setIfInBounds_toArray, List.set_cons_zero, List.set_cons_succ, List.getElem_toArray, List.getElem_cons_zero, List.getElem_cons_succ]
              refine wpAnyH_ready (rs := [6]) (by kernel_rfl) (by simp) ?_
              refine AllReadyH.cons rfl (fun K hK => ?_) AllReadyH.nil
              go_simp
              refine hK.out _ _ ?_ (fun hHeldf1 => ?_)
              · exact HKc.out
              clear hK K
              try simp only [Act.put, List.setIfInBounds_toArray, List.set_cons_zero, List.set_cons_succ, List.getElem_toArray, List.getElem_cons_zero, List.getElem_cons_succ]
              refine wpAnyH_done (by kernel_rfl) ?_ _
              go_wp2
              go_roundg (gi - 1)
              case measure => omega
              case rel => exact ⟨k + 1, _, _, M, by omega, by go_num, by omega, by omega, HT6.out, HB6.out⟩
        · have hd60 : decide ((k : Int) < 60) = false := decide_eq_false (by omega)
          have hd61 : decide (k < 60) = false := decide_eq_false h60
          clear h60
          have HS4 := Lib.hid (natX_new HT3.out hg3 #[.int .i64 0, .int .i64 0] 24)
          have HB4 := Lib.hid (HB3.out.alloc hg3 (.cells #[.int .i64 0, .int .i64 0] 24))
          obtain ⟨gw, hgw⟩ : ∃ gw, gw = w3.heap.size := ⟨_, rfl⟩
          rw [← hgw] at HS4
          have HGW := Lib.hid hgw
          clear hgw HT3 HB3 hg3
          go_upto_region 27 with fail
          rw [← HGW.out]
          generalize w3.alloc (.cells #[.int .i64 0, .int .i64 0] 24) = w4 at *
          have hg4 : G ≤ w4.heap.size := by have := HB4.out.size; rw [← HG.out] at this; exact this
          obtain ⟨⟨x0, x1, x2, x3⟩, -⟩ := natX_cells HS4.out
          obtain ⟨F, hs0, -⟩ := natRef HS4.out
          obtain ⟨⟨ap, kp, rfl⟩, aq, kq, rfl⟩ := rw_shape hs0
          have HR4 := Lib.hid hs0
          clear hs0
          go_wp2_with fail
          refine (refAt_any G low (n : Int) _ _ M F ask w4 HR4.out (by omega)).mono ?_
          rintro e w5 ⟨rfl, hb⟩
          have HT5 := Lib.hid (HS4.out.kept hb)
          have HB5 := Lib.hid (HB4.out.trans (hb.mono hg4))
          have HR5 := Lib.hid (HR4.out.kept hb)
          have hg5 : G ≤ w5.heap.size := by have := HB5.out.size; rw [← HG.out] at this; exact this
          clear hb x0 x1 x2 x3 HS4 HB4 HR4 hg4
          cases hj : atOf M ask with
          | none =>
            have hpn := atOf_none.1 hj
            have hi := natIn_none G g low (n : Int) M _ ask w5 HT5.out hask hpn
            unfold plV at hi
            have HN := Lib.hid hi
            simp only [idxN]
            clear hj hpn hi
            go_wp2_with fail
            refine HN.out.mono ?_
            rintro e w6 ⟨rfl, hb⟩
            have HT6 := Lib.hid (HT5.out.kept hb)
            have HB6 := Lib.hid (HB5.out.trans (hb.mono hg5))
            have hg6 : G ≤ w6.heap.size := by have := HB6.out.size; rw [← HG.out] at this; exact this
            have HT8 := Lib.hid (HT6.out.kept (below_alloc w6 (.cells #[.int .i64 (0 : Int), .int .i64 (0 : Int)] 24)))
            have HB8 := Lib.hid (HB6.out.alloc hg6 (.cells #[.int .i64 (0 : Int), .int .i64 (0 : Int)] 24))
            have HZ := Lib.hid ((Sep.nil w6.heap.size w6).blkNew (Nat.le_refl _) #[.int .i64 (0 : Int), .int .i64 (0 : Int)] 24)
            obtain ⟨gz, hgz⟩ : ∃ gz, gz = w6.heap.size := ⟨_, rfl⟩
            rw [← hgz] at HZ
            have HGZ := Lib.hid hgz
            clear hb hgz HT6 HB6 hg6 HN
            go_upto_region 32 with fail
            rw [← HGZ.out]
            generalize w6.alloc (.cells #[.int .i64 (0 : Int), .int .i64 (0 : Int)] 24) = w8 at *
            have hg8 : G ≤ w8.heap.size := by have := HB8.out.size; rw [← HG.out] at this; exact this
            have hsm := HSAME.out 5 w8 HB8.out
            rw [errV_not (by decide : ¬ (5 : Int) = 0)] at hsm
            have HSM := Lib.hid hsm
            clear hsm
            go_wp2_with fail
            refine HSM.out.mono ?_
            rintro e w9 ⟨rfl, hb⟩
            have HT9 := Lib.hid (HT8.out.kept hb)
            have HZ9 := HZ.out.kept hb
            have HB9 := Lib.hid (HB8.out.trans (hb.mono hg8))
            have z0 := (Sep.blkAt (A := []) HZ9 (j := 0) rfl).1
            have z1 := (Sep.blkAt (A := []) HZ9 (j := 1) rfl).1
            have y0 := (natY_at HT9.out (j := 0) rfl).1
            have y1 := (natY_at HT9.out (j := 1) rfl).1
            have ea : (((0 : Int)) == ((0 : Int))) = true := by simp
            have eb : (((0 : Int)) == ((0 : Int))) = true := by simp
            clear hb HZ9 HT8 HB8 hg8 HSM
            go_wp2
            go_ret
            exact ⟨rfl, by have := HB9.out; rw [HG.out] at this; exact this⟩
          | some j =>
            obtain ⟨⟨pa, pb⟩, hmj⟩ := atOf_some hj
            have hpl := HT5.out.ok.place_is.2 (List.mem_iff_getElem?.2 ⟨j, hmj⟩)
            obtain ⟨a, o, b, q', rfl, rfl, d0, d1, d2⟩ := rw_at HR5.out hmj
            simp only at d0 d1 d2
            have hjl : j < M.length := (List.getElem?_eq_some_iff.1 hmj).1
            have hji : (j : Int) < (M.length : Int) := by omega
            have hj0 : (0 : Int) ≤ (j : Int) := by omega
            have hjd : decide ((0 : Int) ≤ (j : Int)) = true := decide_eq_true hj0
            obtain ⟨⟨x0, x1, x2, x3⟩, -⟩ := natX_cells HT5.out
            obtain ⟨y0, f0⟩ := natY_at HT5.out (j := 0) rfl
            obtain ⟨y1, f1⟩ := natY_at HT5.out (j := 1) rfl
            obtain ⟨h6, b6⟩ := natY_set 0 (.int .i64 pa) HT5.out HB5.out
            obtain ⟨h7, b7⟩ := natY_set 1 (.int .i64 pb) h6 b6
            have HT7 := Lib.hid h7
            have HB7 := Lib.hid b7
            have HPL := Lib.hid hpl
            simp only [idxN]
            clear hj hmj hpl h6 b6 h7 b7
            go_upto_region 31 with fail
            clear d0 d1 d2 x0 x1 x2 x3 y0 y1 f0 f1 HT5 HB5 HR5 hg5
            generalize (w5.setCell ⟨gw, 0, none⟩ (.int .i64 pa)).setCell ⟨gw, 1, none⟩ (.int .i64 pb) = w7 at *
            have hg7 : G ≤ w7.heap.size := by have := HB7.out.size; rw [← HG.out] at this; exact this
            have hi := natIn_some G g low (n : Int) M _ ask (pa, pb) w7 HT7.out hask HPL.out
            unfold plV at hi
            have HN := Lib.hid hi
            clear hi
            go_wp2_with fail
            refine HN.out.mono ?_
            rintro e w6 ⟨rfl, hb⟩
            have HT6 := Lib.hid (HT7.out.kept hb)
            have HB6 := Lib.hid (HB7.out.trans (hb.mono hg7))
            have hg6 : G ≤ w6.heap.size := by have := HB6.out.size; rw [← HG.out] at this; exact this
            have HT8 := Lib.hid (HT6.out.kept (below_alloc w6 (.cells #[.int .i64 pa, .int .i64 pb] 24)))
            have HB8 := Lib.hid (HB6.out.alloc hg6 (.cells #[.int .i64 pa, .int .i64 pb] 24))
            have HZ := Lib.hid ((Sep.nil w6.heap.size w6).blkNew (Nat.le_refl _) #[.int .i64 pa, .int .i64 pb] 24)
            obtain ⟨gz, hgz⟩ : ∃ gz, gz = w6.heap.size := ⟨_, rfl⟩
            rw [← hgz] at HZ
            have HGZ := Lib.hid hgz
            clear hb hgz HT6 HB6 hg6 HN
            go_upto_region 32 with fail
            rw [← HGZ.out]
            generalize w6.alloc (.cells #[.int .i64 pa, .int .i64 pb] 24) = w8 at *
            have hg8 : G ≤ w8.heap.size := by have := HB8.out.size; rw [← HG.out] at this; exact this
            have hsm := HSAME.out 0 w8 HB8.out
            rw [errV_zero] at hsm
            have HSM := Lib.hid hsm
            clear hsm
            go_wp2_with fail
            refine HSM.out.mono ?_
            rintro e w9 ⟨rfl, hb⟩
            have HT9 := Lib.hid (HT8.out.kept hb)
            have HZ9 := HZ.out.kept hb
            have HB9 := Lib.hid (HB8.out.trans (hb.mono hg8))
            have z0 := (Sep.blkAt (A := []) HZ9 (j := 0) rfl).1
            have z1 := (Sep.blkAt (A := []) HZ9 (j := 1) rfl).1
            have y0 := (natY_at HT9.out (j := 0) rfl).1
            have y1 := (natY_at HT9.out (j := 1) rfl).1
            have ea : ((pa) == (pa)) = true := by simp
            have eb : ((pb) == (pb)) = true := by simp
            clear hb HZ9 HT8 HB8 hg8 HSM
            go_wp2
            go_ret
            exact ⟨rfl, by have := HB9.out; rw [HG.out] at this; exact this⟩
      · have hki : decide ((k : Int) < (rs.length : Int)) = false := decide_eq_false (by omega)
        have hki2 : decide (k < rs.length) = false := decide_eq_false hlt
        clear hlt
        have HS4 := Lib.hid (natX_new HT3.out hg3 #[.int .i64 0, .int .i64 0] 24)
        have HB4 := Lib.hid (HB3.out.alloc hg3 (.cells #[.int .i64 0, .int .i64 0] 24))
        obtain ⟨gw, hgw⟩ : ∃ gw, gw = w3.heap.size := ⟨_, rfl⟩
        rw [← hgw] at HS4
        have HGW := Lib.hid hgw
        clear hgw HT3 HB3 hg3
        go_upto_region 27 with fail
        rw [← HGW.out]
        generalize w3.alloc (.cells #[.int .i64 0, .int .i64 0] 24) = w4 at *
        have hg4 : G ≤ w4.heap.size := by have := HB4.out.size; rw [← HG.out] at this; exact this
        obtain ⟨⟨x0, x1, x2, x3⟩, -⟩ := natX_cells HS4.out
        obtain ⟨F, hs0, -⟩ := natRef HS4.out
        obtain ⟨⟨ap, kp, rfl⟩, aq, kq, rfl⟩ := rw_shape hs0
        have HR4 := Lib.hid hs0
        clear hs0
        go_wp2_with fail
        refine (refAt_any G low (n : Int) _ _ M F ask w4 HR4.out (by omega)).mono ?_
        rintro e w5 ⟨rfl, hb⟩
        have HT5 := Lib.hid (HS4.out.kept hb)
        have HB5 := Lib.hid (HB4.out.trans (hb.mono hg4))
        have HR5 := Lib.hid (HR4.out.kept hb)
        have hg5 : G ≤ w5.heap.size := by have := HB5.out.size; rw [← HG.out] at this; exact this
        clear hb x0 x1 x2 x3 HS4 HB4 HR4 hg4
        cases hj : atOf M ask with
        | none =>
          have hpn := atOf_none.1 hj
          have hi := natIn_none G g low (n : Int) M _ ask w5 HT5.out hask hpn
          unfold plV at hi
          have HN := Lib.hid hi
          simp only [idxN]
          clear hj hpn hi
          go_wp2_with fail
          refine HN.out.mono ?_
          rintro e w6 ⟨rfl, hb⟩
          have HT6 := Lib.hid (HT5.out.kept hb)
          have HB6 := Lib.hid (HB5.out.trans (hb.mono hg5))
          have hg6 : G ≤ w6.heap.size := by have := HB6.out.size; rw [← HG.out] at this; exact this
          have HT8 := Lib.hid (HT6.out.kept (below_alloc w6 (.cells #[.int .i64 (0 : Int), .int .i64 (0 : Int)] 24)))
          have HB8 := Lib.hid (HB6.out.alloc hg6 (.cells #[.int .i64 (0 : Int), .int .i64 (0 : Int)] 24))
          have HZ := Lib.hid ((Sep.nil w6.heap.size w6).blkNew (Nat.le_refl _) #[.int .i64 (0 : Int), .int .i64 (0 : Int)] 24)
          obtain ⟨gz, hgz⟩ : ∃ gz, gz = w6.heap.size := ⟨_, rfl⟩
          rw [← hgz] at HZ
          have HGZ := Lib.hid hgz
          clear hb hgz HT6 HB6 hg6 HN
          go_upto_region 32 with fail
          rw [← HGZ.out]
          generalize w6.alloc (.cells #[.int .i64 (0 : Int), .int .i64 (0 : Int)] 24) = w8 at *
          have hg8 : G ≤ w8.heap.size := by have := HB8.out.size; rw [← HG.out] at this; exact this
          have hsm := HSAME.out 5 w8 HB8.out
          rw [errV_not (by decide : ¬ (5 : Int) = 0)] at hsm
          have HSM := Lib.hid hsm
          clear hsm
          go_wp2_with fail
          refine HSM.out.mono ?_
          rintro e w9 ⟨rfl, hb⟩
          have HT9 := Lib.hid (HT8.out.kept hb)
          have HZ9 := HZ.out.kept hb
          have HB9 := Lib.hid (HB8.out.trans (hb.mono hg8))
          have z0 := (Sep.blkAt (A := []) HZ9 (j := 0) rfl).1
          have z1 := (Sep.blkAt (A := []) HZ9 (j := 1) rfl).1
          have y0 := (natY_at HT9.out (j := 0) rfl).1
          have y1 := (natY_at HT9.out (j := 1) rfl).1
          have ea : (((0 : Int)) == ((0 : Int))) = true := by simp
          have eb : (((0 : Int)) == ((0 : Int))) = true := by simp
          clear hb HZ9 HT8 HB8 hg8 HSM
          go_wp2
          go_ret
          exact ⟨rfl, by have := HB9.out; rw [HG.out] at this; exact this⟩
        | some j =>
          obtain ⟨⟨pa, pb⟩, hmj⟩ := atOf_some hj
          have hpl := HT5.out.ok.place_is.2 (List.mem_iff_getElem?.2 ⟨j, hmj⟩)
          obtain ⟨a, o, b, q', rfl, rfl, d0, d1, d2⟩ := rw_at HR5.out hmj
          simp only at d0 d1 d2
          have hjl : j < M.length := (List.getElem?_eq_some_iff.1 hmj).1
          have hji : (j : Int) < (M.length : Int) := by omega
          have hj0 : (0 : Int) ≤ (j : Int) := by omega
          have hjd : decide ((0 : Int) ≤ (j : Int)) = true := decide_eq_true hj0
          obtain ⟨⟨x0, x1, x2, x3⟩, -⟩ := natX_cells HT5.out
          obtain ⟨y0, f0⟩ := natY_at HT5.out (j := 0) rfl
          obtain ⟨y1, f1⟩ := natY_at HT5.out (j := 1) rfl
          obtain ⟨h6, b6⟩ := natY_set 0 (.int .i64 pa) HT5.out HB5.out
          obtain ⟨h7, b7⟩ := natY_set 1 (.int .i64 pb) h6 b6
          have HT7 := Lib.hid h7
          have HB7 := Lib.hid b7
          have HPL := Lib.hid hpl
          simp only [idxN]
          clear hj hmj hpl h6 b6 h7 b7
          go_upto_region 31 with fail
          clear d0 d1 d2 x0 x1 x2 x3 y0 y1 f0 f1 HT5 HB5 HR5 hg5
          generalize (w5.setCell ⟨gw, 0, none⟩ (.int .i64 pa)).setCell ⟨gw, 1, none⟩ (.int .i64 pb) = w7 at *
          have hg7 : G ≤ w7.heap.size := by have := HB7.out.size; rw [← HG.out] at this; exact this
          have hi := natIn_some G g low (n : Int) M _ ask (pa, pb) w7 HT7.out hask HPL.out
          unfold plV at hi
          have HN := Lib.hid hi
          clear hi
          go_wp2_with fail
          refine HN.out.mono ?_
          rintro e w6 ⟨rfl, hb⟩
          have HT6 := Lib.hid (HT7.out.kept hb)
          have HB6 := Lib.hid (HB7.out.trans (hb.mono hg7))
          have hg6 : G ≤ w6.heap.size := by have := HB6.out.size; rw [← HG.out] at this; exact this
          have HT8 := Lib.hid (HT6.out.kept (below_alloc w6 (.cells #[.int .i64 pa, .int .i64 pb] 24)))
          have HB8 := Lib.hid (HB6.out.alloc hg6 (.cells #[.int .i64 pa, .int .i64 pb] 24))
          have HZ := Lib.hid ((Sep.nil w6.heap.size w6).blkNew (Nat.le_refl _) #[.int .i64 pa, .int .i64 pb] 24)
          obtain ⟨gz, hgz⟩ : ∃ gz, gz = w6.heap.size := ⟨_, rfl⟩
          rw [← hgz] at HZ
          have HGZ := Lib.hid hgz
          clear hb hgz HT6 HB6 hg6 HN
          go_upto_region 32 with fail
          rw [← HGZ.out]
          generalize w6.alloc (.cells #[.int .i64 pa, .int .i64 pb] 24) = w8 at *
          have hg8 : G ≤ w8.heap.size := by have := HB8.out.size; rw [← HG.out] at this; exact this
          have hsm := HSAME.out 0 w8 HB8.out
          rw [errV_zero] at hsm
          have HSM := Lib.hid hsm
          clear hsm
          go_wp2_with fail
          refine HSM.out.mono ?_
          rintro e w9 ⟨rfl, hb⟩
          have HT9 := Lib.hid (HT8.out.kept hb)
          have HZ9 := HZ.out.kept hb
          have HB9 := Lib.hid (HB8.out.trans (hb.mono hg8))
          have z0 := (Sep.blkAt (A := []) HZ9 (j := 0) rfl).1
          have z1 := (Sep.blkAt (A := []) HZ9 (j := 1) rfl).1
          have y0 := (natY_at HT9.out (j := 0) rfl).1
          have y1 := (natY_at HT9.out (j := 1) rfl).1
          have ea : ((pa) == (pa)) = true := by simp
          have eb : ((pb) == (pb)) = true := by simp
          clear hb HZ9 HT8 HB8 hg8 HSM
          go_wp2
          go_ret
          exact ⟨rfl, by have := HB9.out; rw [HG.out] at this; exact this⟩
  · have HNW := Lib.hid (natNew_no low many w hlm)
    have HNO := Lib.hid hlm
    go_enter Tryd.func6, Tryd.ntmps6
    go_wp2_with fail
    refine HNW.out.mono ?_
    rintro e w' ⟨rfl, rfl⟩
    by_cases h1 : 0 ≤ low ∧ low ≤ 65535
    · by_cases h2 : 1 ≤ many ∧ many ≤ 30
      · have h3 : decide (65536 - many < low) = true := decide_eq_true (by have := HNO.out; unfold LmOk at this; omega)
        have h4 : 1 ≤ many := h2.1
        have h5 : many ≤ 30 := h2.2
        clear hlm
        go_wp2_with fail
        refine (in4_yes _ _ _ _ h1.1 h1.2).mono ?_
        rintro e w' ⟨rfl, rfl⟩
        go_wp2_with fail
        refine (in4_yes _ _ _ _ h4 h5).mono ?_
        rintro e w' ⟨rfl, rfl⟩
        have hs1 := HSAME.out 1 w (Below.refl _ _)
        rw [errV_not (by decide : ¬ (1 : Int) = 0)] at hs1
        have HS1 := Lib.hid hs1
        clear hs1
        go_wp2_with fail
        refine HS1.out.mono ?_
        rintro e w2 ⟨rfl, hb⟩
        have HB2 := Lib.hid (show Below G w w2 by rw [HG.out]; exact hb)
        clear hb HS1
        go_wp2
        go_ret
        exact ⟨rfl, by have := HB2.out; rw [HG.out] at this; exact this⟩
      · have H2 := Lib.hid h2
        clear h2 hlm
        go_wp2_with fail
        refine (in4_yes _ _ _ _ h1.1 h1.2).mono ?_
        rintro e w' ⟨rfl, rfl⟩
        go_wp2_with fail
        refine (in4_no _ _ _ _ H2.out).mono ?_
        rintro e w' ⟨rfl, rfl⟩
        have hs1 := HSAME.out 1 w (Below.refl _ _)
        rw [errV_not (by decide : ¬ (1 : Int) = 0)] at hs1
        have HS1 := Lib.hid hs1
        clear hs1
        go_wp2_with fail
        refine HS1.out.mono ?_
        rintro e w2 ⟨rfl, hb⟩
        have HB2 := Lib.hid (show Below G w w2 by rw [HG.out]; exact hb)
        clear hb HS1
        go_wp2
        go_ret
        exact ⟨rfl, by have := HB2.out; rw [HG.out] at this; exact this⟩
    · have H1 := Lib.hid h1
      clear h1 hlm
      go_wp2_with fail
      refine (in4_no _ _ _ _ H1.out).mono ?_
      rintro e w' ⟨rfl, rfl⟩
      have hs1 := HSAME.out 1 w (Below.refl _ _)
      rw [errV_not (by decide : ¬ (1 : Int) = 0)] at hs1
      have HS1 := Lib.hid hs1
      clear hs1
      go_wp2_with fail
      refine HS1.out.mono ?_
      rintro e w2 ⟨rfl, hb⟩
      have HB2 := Lib.hid (show Below G w w2 by rw [HG.out]; exact hb)
      clear hb HS1
      go_wp2
      go_ret
      exact ⟨rfl, by have := HB2.out; rw [HG.out] at this; exact this⟩
end Go.Proofs.YtnmddgjgmdegoaaDoor
