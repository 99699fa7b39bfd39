/- LearnPlays returns true: whatever frames come and whichever ports fail, by which ports they go out, and where each address is, are as the document says. -/
import Derived.Test.YtommedhaaojgiaaDoorSays
import Derived.Test.YtommedhaaojgiaaDoorSwHeard
import Derived.Test.YtommedhaaojgiaaDoorLearnFact
import Derived.Test.YtommedhaaojgiaaDoorIn3
import Derived.Test.YtommedhaaojgiaaDoorInts
import Derived.Deep.RegionHeld3
namespace Go.Proofs.YtommedhaaojgiaaDoor
open Go.RowKit
set_option linter.unusedVariables false
set_option maxRecDepth 100000

/-- The reference's switch in its variable, beside the program's. -/
def stE (g : Nat) (v : Value) (T : Tab) (gx : Nat) (va vp : Value) (U : Tab) : List Ent :=
  Ent.ints 3 va (U.map (·.1)) :: Ent.ints 3 vp (U.map (·.2)) :: Ent.blk1 gx 39 [va, vp] :: swE g v T
theorem stE_sw {G g gx : Nat} {w : World} {v va vp : Value} {T U : Tab} (h : Sep G w (stE g v T gx va vp U)) : Sep G w (swE g v T ++ [Ent.ints 3 va (U.map (·.1)), Ent.ints 3 vp (U.map (·.2)), Ent.blk1 gx 39 [va, vp]]) :=
  h.perm (List.perm_append_comm (l₁ := [_, _, _]) (l₂ := swE g v T))
theorem stE_back {G g gx : Nat} {w : World} {v va vp : Value} {T U : Tab} (h : Sep G w (swE g v T ++ [Ent.ints 3 va (U.map (·.1)), Ent.ints 3 vp (U.map (·.2)), Ent.blk1 gx 39 [va, vp]])) : Sep G w (stE g v T gx va vp U) :=
  h.perm (List.perm_append_comm (l₁ := swE g v T) (l₂ := [_, _, _]))
theorem stE_cells {G g gx : Nat} {w : World} {v va vp : Value} {T U : Tab} (h : Sep G w (stE g v T gx va vp U)) : w.cell? ⟨gx, 0, none⟩ = some va ∧ w.frozen? ⟨gx, 0, none⟩ = false ∧ w.cell? ⟨gx, 1, none⟩ = some vp ∧ w.frozen? ⟨gx, 1, none⟩ = false :=
  ⟨(Sep.blkAt (A := [_, _]) h (j := 0) rfl).1, (Sep.blkAt (A := [_, _]) h (j := 0) rfl).2, (Sep.blkAt (A := [_, _]) h (j := 1) rfl).1, (Sep.blkAt (A := [_, _]) h (j := 1) rfl).2⟩
/-- Heard, and what comes back is laid into the variable. -/
theorem heardS (G g gx : Nat) (v va vp : Value) (T : Tab) (a p : Int) (w : World) (hg : Good T) (h : Sep G w (stE g v T gx va vp T)) (hG : G ≤ w.heap.size) :
    Calls Tryd.prog 15 #[.agg #[va, vp], .int .i64 a, .int .i64 p] w fun e w' => ∃ aa na ca ap np cp, e = .returned (.agg #[.slice aa na ca, .slice ap np cp]) ∧
      Sep G ((w'.setCell ⟨gx, 0, none⟩ (.slice aa na ca)).setCell ⟨gx, 1, none⟩ (.slice ap np cp)) (stE g v T gx (.slice aa na ca) (.slice ap np cp) (heardT T a p)) ∧ Below G w ((w'.setCell ⟨gx, 0, none⟩ (.slice aa na ca)).setCell ⟨gx, 1, none⟩ (.slice ap np cp)) ∧
      w'.cell? ⟨gx, 0, none⟩ = some va ∧ w'.frozen? ⟨gx, 0, none⟩ = false ∧ w'.cell? ⟨gx, 1, none⟩ = some vp ∧ w'.frozen? ⟨gx, 1, none⟩ = false ∧ Below G w w' := by
  refine (heardR_ok G va vp T (Ent.blk1 gx 39 [va, vp] :: swE g v T) a p w (by have := hg.len; omega) h hG).mono ?_
  rintro e w' ⟨va', vp', rfl, hs, hb⟩
  rw [heardF_eq hg] at hs
  obtain ⟨aa, na, ca, rfl⟩ := anyShape (A := []) hs
  obtain ⟨ap, np, cp, rfl⟩ := anyShape (A := [_]) hs
  have h1 := Sep.blkSet (A := [_, _, _, _]) hs 0 (.slice aa na ca)
  have h2 := Sep.blkSet (A := [_, _, _, _]) h1 1 (.slice ap np cp)
  have hl := (Sep.blkLt (A := [_, _, _, _]) hs).1
  have c0 := Sep.blkAt (A := [_, _, _, _]) hs (j := 0) rfl
  have c1 := Sep.blkAt (A := [_, _, _, _]) hs (j := 1) rfl
  exact ⟨aa, na, ca, ap, np, cp, rfl, h2.sub (List.Sublist.cons_cons _ (List.Sublist.cons_cons _ (List.Sublist.cons _ (List.Sublist.cons _ (List.Sublist.refl _))))),
    (hb.setCell (p := ⟨gx, 0, none⟩) hl _).setCell (p := ⟨gx, 1, none⟩) hl _, c0.1, c0.2, c1.1, c1.2, hb⟩

set_option maxHeartbeats 4000000 in
theorem learnPlays_walk (ao : Option Addr) (ac : Nat) (rs : List Stp) (w : World) (hdoor : Door w) (hA : RowSl w.heap.size w ao 1 (rs.map stpC)) (hac : rs.length ≤ ac) (hmax : ac ≤ maxLen) (hr : StpsOk w.heap.size w rs) :
    Calls Tryd.prog 4 #[.slice ao rs.length ac] w fun e w' => e = .returned (.bool true) ∧ Below w.heap.size w w' := by
  unfold maxLen at hmax
  have HSAME0 := Lib.hid (says0 w hdoor)
  have HSAME1 := Lib.hid (saysC 1 (by decide) w hdoor)
  have HA := Lib.hid hA; clear hA
  have HR := Lib.hid hr; clear hr
  obtain ⟨G, hG⟩ : ∃ G, G = w.heap.size := ⟨_, rfl⟩
  rw [← hG] at HSAME0 HSAME1 HA HR
  have HG := Lib.hid hG; clear hG hdoor
  go_enter Tryd.func4, Tryd.ntmps4
  go_wp2_with fail
  refine (learnNew_any _).mono ?_
  rintro e w1 ⟨g, rfl, hs, hb⟩
  rw [← HG.out] at hs hb
  have hg1 : G ≤ w1.heap.size := by have := hb.size; rw [← HG.out] at this; exact this
  have h2 := ((hs.blkNew hg1 #[.slice none 0 0, .slice none 0 0] 39))
  obtain ⟨gx, hgx⟩ : ∃ gx, gx = w1.heap.size := ⟨_, rfl⟩
  have hb4 := hb.alloc hg1 (.cells #[.slice none 0 0, .slice none 0 0] 39)
  rw [← hgx] at h2
  have HS4 : Hid (Sep G _ (stE g (.slice none 0 0) [] gx (.slice none 0 0) (.slice none 0 0) [])) := Lib.hid ((h2.intsNil 3).intsNil 3)
  have HB4 := Lib.hid hb4
  have HGX := Lib.hid hgx
  clear hs hb h2 hb4 hgx hg1
  go_wp2_with fail
  rw [← HGX.out]
  clear HGX
  go_loopg [5] rs.length (fun gk kv wr => ∃ (k : Nat) (v va vp : Value) (T : Tab), gk + k = rs.length ∧ kv = .int .i64 k ∧ Hid (Good T) ∧ Sep G wr (stE g v T gx va vp T) ∧ Below G w wr)
  case atStart => exact ⟨0, _, _, _, [], rfl, rfl, Lib.hid Good.nil, HS4.out, HB4.out⟩
  case round =>
    obtain ⟨gi, rfl⟩ : ∃ gi, gi = gk := ⟨_, rfl⟩
    obtain ⟨k, v, va, vp, T, hgi, rfl, HGT, hsep, hbel⟩ := hrel
    clear HS4 HB4
    have HS3 := Lib.hid hsep
    have HB3 := Lib.hid hbel
    obtain ⟨w3, hw3⟩ : ∃ w3, w3 = wr := ⟨_, rfl⟩
    obtain rfl := hw3
    have hg3 : G ≤ w3.heap.size := by have := HB3.out.size; rw [← HG.out] at this; exact this
    clear hsep hbel
    by_cases hlt : k < rs.length
    · have hki : (k : Int) < (rs.length : Int) := by omega
      have hk0 : (0 : Int) ≤ (k : Int) := by omega
      by_cases h60 : k < 60
      · have hd60 : decide ((k : Int) < 60) = true := decide_eq_true (by omega)
        obtain ⟨⟨ra, rc, xs⟩, hrk⟩ : ∃ r, rs[k]? = some r := ⟨_, List.getElem?_eq_getElem hlt⟩
        obtain ⟨b0, off0, rfl, hbb, cw⟩ := rows_at HA.out hrk
        obtain ⟨hi, hrl, hrm⟩ := HR.out _ (List.mem_iff_getElem?.2 ⟨k, hrk⟩)
        simp only at hi hrl hrm cw
        have c0 : w3.cell? ⟨b0, off0 + k, none⟩ = some (.slice ra xs.length rc) := (HB3.out.cell (p := ⟨b0, off0 + k, none⟩) hbb).trans cw
        have HI := Lib.hid hi
        clear hi cw hrk hbb hrl hrm
        go_upto_if 36 with fail
        go_cut [] (fun wx => ∃ (v va vp : Value) (T : Tab), Hid (Good T) ∧ Sep G wx (stE g v T gx va vp T) ∧ Below G w wx)
        case first =>
          by_cases h3 : xs.length = 3
          · obtain ⟨a, t, p, rfl⟩ : ∃ a t p, xs = [a, t, p] := by
              match xs, h3 with
              | [a, t, p], _ => exact ⟨a, t, p, rfl⟩
            have hl3 : (((([a, t, p] : List Int).length : Nat) : Int) == 3) = true := rfl
            obtain ⟨bl, ol, rfl, hbl, r0⟩ := HI.out 0 a rfl
            obtain ⟨_, _, he, _, r1⟩ := HI.out 1 t rfl
            cases he
            obtain ⟨_, _, he, _, r2⟩ := HI.out 2 p rfl
            cases he
            have hcl : ∀ w', Below G w w' → w'.cell? ⟨bl, ol, none⟩ = some (.int .i64 a) ∧ w'.cell? ⟨bl, ol + 1, none⟩ = some (.int .i64 t) ∧ w'.cell? ⟨bl, ol + 2, none⟩ = some (.int .i64 p) := fun w' h =>
              ⟨(h.cell (p := ⟨bl, ol, none⟩) hbl).trans r0, (h.cell (p := ⟨bl, ol + 1, none⟩) hbl).trans r1, (h.cell (p := ⟨bl, ol + 2, none⟩) hbl).trans r2⟩
            have HCL := Lib.hid hcl
            clear hcl r0 r1 r2 hbl c0 h3
            obtain ⟨r0, r1, r2⟩ := HCL.out _ HB3.out
            by_cases ha : 0 ≤ a ∧ a ≤ 65535
            · by_cases ht : 0 ≤ t ∧ t ≤ 65535
              · by_cases hp : 0 ≤ p ∧ p ≤ 3
                · have HV := Lib.hid (show Valid a t p from ⟨ha, ht, hp⟩)
                  go_wp2_with fail
                  refine (in3_yes _ _ _ _ ha.1 ha.2).mono ?_
                  rintro e w' ⟨rfl, rfl⟩
                  go_wp2_with fail
                  refine (in3_yes _ _ _ _ ht.1 ht.2).mono ?_
                  rintro e w' ⟨rfl, rfl⟩
                  go_wp2_with fail
                  refine (in3_yes _ _ _ _ hp.1 hp.2).mono ?_
                  rintro e w' ⟨rfl, rfl⟩
                  clear ha ht hp
                  go_wp2_with fail
                  clear hl3
                  have HH := Lib.hid (heardS G g gx v va vp T a p w3.drew HGT.out HS3.out.drew hg3)
                  obtain ⟨x0, y0, x1, y1⟩ := stE_cells HS3.out.drew
                  have HK0 := Lib.hid (show w3.drew.cell? ⟨bl, ol, none⟩ = some (.int .i64 a) ∧ w3.drew.cell? ⟨bl, ol + 2, none⟩ = some (.int .i64 p) from ⟨r0, r2⟩)
                  have HB3' := Lib.hid HB3.out.drew
                  clear HB3
                  refine wp_region_held_drew (S := fun w' => w'.cell? ⟨bl, ol, none⟩ = some (.int .i64 a) ∧ w'.cell? ⟨bl, ol + 2, none⟩ = some (.int .i64 p)) (by kernel_rfl) ?hS0 (fun hHeld => ?start0)
                  case hS0 => exact HK0.out
                  refine wpAnyH_take (i := 1) (v := ?va1) rfl (by kernel_rfl) (by kernel_rfl) (by kernel_rfl) (fun _ _ _ h => h) (Or.inl ⟨by rfl, ?hya1⟩) (by assumption) ?resta1
                  case hya1 =>
                    intro w hSw
                    try dsimp only at hSw
                    go_simp
                    try with_reducible rfl
                  try simp only [Act.put, List.setIfInBounds_toArray, List.set_cons_zero, List.set_cons_succ, List.getElem_toArray, List.getElem_cons_zero, List.getElem_cons_succ]
                  refine wpAnyH_take (i := 2) (v := ?va2) rfl (by kernel_rfl) (by kernel_rfl) (by kernel_rfl) (fun _ _ _ h => h) (Or.inl ⟨by rfl, ?hya2⟩) (by assumption) ?resta2
                  case hya2 =>
                    intro w hSw
                    try dsimp only at hSw
                    go_simp
                    try with_reducible rfl
                  try simp only [Act.put, List.setIfInBounds_toArray, List.set_cons_zero, List.set_cons_succ, List.getElem_toArray, List.getElem_cons_zero, List.getElem_cons_succ]
                  refine wpAnyH_take (i := 3) (v := ?va3) rfl (by kernel_rfl) (by kernel_rfl) (by kernel_rfl) (fun _ _ _ h => h) (Or.inl ⟨by rfl, ?hya3⟩) (by assumption) ?resta3
                  case hya3 =>
                    intro w hSw
                    try dsimp only at hSw
                    go_simp
                    try with_reducible rfl
                  try simp only [Act.put, List.setIfInBounds_toArray, List.set_cons_zero, List.set_cons_succ, List.getElem_toArray, List.getElem_cons_zero, List.getElem_cons_succ]
                  refine wpAnyH_take (i := 4) (v := ?va4) rfl (by kernel_rfl) (by kernel_rfl) (by kernel_rfl) (fun _ _ _ h => h) (Or.inl ⟨by rfl, ?hya4⟩) (by assumption) ?resta4
                  case hya4 =>
                    intro w hSw
                    try dsimp only at hSw
                    go_simp
                    try with_reducible rfl
                  try simp only [Act.put, List.setIfInBounds_toArray, List.set_cons_zero, List.set_cons_succ, List.getElem_toArray, List.getElem_cons_zero, List.getElem_cons_succ]
                  refine wpAnyH_take (i := 5) (v := ?va5) rfl (by kernel_rfl) (by kernel_rfl) (by kernel_rfl) (fun _ _ _ h => h) (Or.inl ⟨by rfl, ?hya5⟩) (by assumption) ?resta5
                  case hya5 =>
                    intro w hSw
                    try dsimp only at hSw
                    go_simp
                    try with_reducible rfl
                  try simp only [Act.put, List.setIfInBounds_toArray, List.set_cons_zero, List.set_cons_succ, List.getElem_toArray, List.getElem_cons_zero, List.getElem_cons_succ]
                  refine wpAnyH_take (i := 6) (v := ?va6) rfl (by kernel_rfl) (by kernel_rfl) (by kernel_rfl) (fun _ _ _ h => h) (Or.inl ⟨by rfl, ?hya6⟩) (by assumption) ?resta6
                  case hya6 =>
                    intro w hSw
                    try dsimp only at hSw
                    go_simp
                    try with_reducible rfl
                  try simp only [Act.put, List.setIfInBounds_toArray, List.set_cons_zero, List.set_cons_succ, List.getElem_toArray, List.getElem_cons_zero, List.getElem_cons_succ]
                  refine wpAnyH_ready (rs := [0]) (by kernel_rfl) (by simp) ?_
                  refine AllReadyH.cons rfl (fun K hK => ?_) AllReadyH.nil
                  go_simp
                  refine hK.out _ _ ?_ (fun hHeld1 => ?_)
                  · exact HK0.out
                  clear hK K
                  try simp only [Act.put, List.setIfInBounds_toArray, List.set_cons_zero, List.set_cons_succ, List.getElem_toArray, List.getElem_cons_zero, List.getElem_cons_succ]
                  refine wpAnyH_ready (rs := [7]) (by kernel_rfl) (by simp) ?_
                  refine AllReadyH.cons rfl (fun K hK => ?_) AllReadyH.nil
                  go_simp
                  refine HH.out.mono ?_
                  rintro e w4 ⟨aa, na, ca, ap, np, cp, rfl, hs, hb, c0, f0, c1, f1, hb4⟩
                  obtain ⟨q0, q1, q2⟩ := HCL.out _ (HB3'.out.trans hb4)
                  have HK1 := Lib.hid (show w4.cell? ⟨bl, ol, none⟩ = some (.int .i64 a) ∧ w4.cell? ⟨bl, ol + 2, none⟩ = some (.int .i64 p) from ⟨q0, q2⟩)
                  obtain ⟨q0, q1, q2⟩ := HCL.out _ (HB3'.out.trans hb)
                  have HK2 := Lib.hid (And.intro q0 q2)
                  have HS5 := Lib.hid hs
                  have HB5 := Lib.hid (HB3'.out.trans hb)
                  clear hs hb hb4 q0 q1 q2 HH HS3 HB3' x0 y0 x1 y1 r0 r1 r2 hg3
                  go_wp2_with fail
                  refine hK.out _ _ ?_ (fun hHeld2 => ?_)
                  · exact HK1.out
                  clear hK K
                  try simp only [Act.put, List.setIfInBounds_toArray, List.set_cons_zero, List.set_cons_succ, List.getElem_toArray, List.getElem_cons_zero, List.getElem_cons_succ]
                  refine wpAnyH_ready (rs := [8]) (by kernel_rfl) (by simp) ?_
                  refine AllReadyH.cons rfl (fun K hK => ?_) AllReadyH.nil
                  go_simp
                  go_wp2_with fail
                  refine hK.out _ _ ?_ (fun hHeld3 => ?_)
                  · exact HK2.out
                  clear hK K
                  try simp only [Act.put, List.setIfInBounds_toArray, List.set_cons_zero, List.set_cons_succ, List.getElem_toArray, List.getElem_cons_zero, List.getElem_cons_succ]
                  refine wpAnyH_done (by kernel_rfl) ?_ _
                  clear c0 f0 c1 f1 hHeld hHeld1 hHeld2 hHeld3 HK0 HK1 HK2
                  generalize (w4.setCell ⟨gx, 0, none⟩ (.slice aa na ca)).setCell ⟨gx, 1, none⟩ (.slice ap np cp) = w5 at *
                  obtain ⟨T', hT'⟩ : ∃ T', heardT T a p = T' := ⟨_, rfl⟩
                  rw [hT'] at HS5
                  have hg' := HGT.out.heard HV.out
                  rw [hT'] at hg'
                  have HG' := Lib.hid hg'
                  obtain ⟨lo, hlo⟩ : ∃ l, outs T' t p = l := ⟨_, rfl⟩
                  have hg5 : G ≤ w5.heap.size := by have := HB5.out.size; rw [← HG.out] at this; exact this
                  have HO := Lib.hid (outR_ok G (.slice aa na ca) (.slice ap np cp) T' (Ent.blk1 gx 39 [.slice aa na ca, .slice ap np cp] :: swE g v T) t p w5.drew (by have := hg'.len; omega) HS5.out.drew hg5)
                  obtain ⟨r0, r1, r2⟩ := HCL.out _ HB5.out.drew
                  obtain ⟨x0, -, x1, -⟩ := stE_cells HS5.out.drew
                  have HK0 := Lib.hid (And.intro r1 (And.intro r2 (And.intro x0 x1)))
                  have HOL := Lib.hid (outR_eq hg' (t := t) HV.out.2.2)
                  clear hg' r0 r1 r2 x0 x1
                  have HTE := Lib.hid hT'
                  have HLE := Lib.hid hlo
                  clear hT' hlo
                  go_wp2_with fail
                  go_region_held3 (fun w' => w'.cell? ⟨bl, ol + 1, none⟩ = some (.int .i64 t) ∧ w'.cell? ⟨bl, ol + 2, none⟩ = some (.int .i64 p) ∧ w'.cell? ⟨gx, 0, none⟩ = some (.slice aa na ca) ∧ w'.cell? ⟨gx, 1, none⟩ = some (.slice ap np cp)) (first | exact HK1.out | exact HK0.out) (first
                    | (go_at_call 16; refine HO.out.mono ?_; rintro e w6 ⟨vo, rfl, hs, hb⟩; rw [HOL.out, HLE.out] at hs; have HS6 := Lib.hid hs; have HB6 := Lib.hid (HB5.out.drew.trans hb); have HK1 := Lib.hid (And.intro (HCL.out _ HB6.out).2.1 (And.intro (HCL.out _ HB6.out).2.2 (And.intro (stE_cells (hs.sub (List.sublist_cons_self _ _))).1 (stE_cells (hs.sub (List.sublist_cons_self _ _))).2.2.1))); clear hs hb)
                    | fail)
                  obtain ⟨so, co, rfl, -⟩ := Sep.intsShape (A := []) HS6.out
                  have hlol : lo.length ≤ 4 := by rw [← HLE.out, ← HOL.out]; exact outR_len ..
                  have hsF := HS6.out.perm (List.perm_append_comm (l₁ := [_, _, _, _]) (l₂ := swE g v T))
                  have hg6 : G ≤ w6.heap.size := by have := HB6.out.size; rw [← HG.out] at this; exact this
                  have HF := Lib.hid (frame_res G g v T T' lo _ a t p w6.drew HV.out HGT.out.len HTE.out HLE.out hsF.drew hg6)
                  have HK0 := Lib.hid (HCL.out _ HB6.out.drew)
                  clear hsF HK1 HO HB5 hg5 HS5
                  go_wp2_with fail
                  go_region_held3 (fun w' => w'.cell? ⟨bl, ol, none⟩ = some (.int .i64 a) ∧ w'.cell? ⟨bl, ol + 1, none⟩ = some (.int .i64 t) ∧ w'.cell? ⟨bl, ol + 2, none⟩ = some (.int .i64 p)) (first | exact HK1.out | exact HK0.out) (first
                    | (go_at_call 12; refine HF.out.mono ?_; rintro e w7 ⟨lm, lc, v', rfl, hlc, hs, hb⟩; have HS7 := Lib.hid hs; have HB7 := Lib.hid (HB6.out.drew.trans hb); have HK1 := Lib.hid (HCL.out _ HB7.out); clear hs hb)
                    | fail)
                  clear HK0 HK1 HF HS6 HB6 hg6
                  have hg7 : G ≤ w7.heap.size := by have := HB7.out.size; rw [← HG.out] at this; exact this
                  go_wp2_with fail
                  refine (HSAME0.out _ HB7.out).mono ?_
                  rintro e w8 ⟨rfl, hb⟩
                  have HS8 := Lib.hid (HS7.out.kept hb)
                  have HB8 := Lib.hid (HB7.out.trans (hb.mono hg7))
                  have hg8 : G ≤ w8.heap.size := by have := HB8.out.size; rw [← HG.out] at this; exact this
                  clear hb HS7
                  go_wp2_with fail
                  refine (ints_any _ _ _ _ _ _ _ _ lo lo true _ (Sep.intSl (A := swE g v' T') (C := [_, _, _, _]) HS8.out) (Sep.intSl (A := swE g v' T' ++ [_]) (C := [_, _, _]) (by rw [List.append_assoc]; exact HS8.out)) rfl rfl (by omega) (decide_eq_true rfl).symm).mono ?_
                  rintro e w9 ⟨rfl, hd⟩
                  have hb := below_of_drew hd
                  have HS9 := Lib.hid (stE_back ((HS8.out.kept hb).sub (List.Sublist.append (List.Sublist.refl _) (List.Sublist.cons _ (List.Sublist.cons _ (List.Sublist.refl _))))))
                  have HB9 := Lib.hid (HB8.out.trans (hb.mono hg8))
                  have hg9 : G ≤ w9.heap.size := by have := HB9.out.size; rw [← HG.out] at this; exact this
                  clear hd hb HS8
                  go_wp2_with fail
                  go_meet
                  exact ⟨_, _, _, _, HG', HS9.out, HB9.out⟩
                · have HV := Lib.hid (show ¬ Valid a t p from fun h => hp h.2.2)
                  have HN := Lib.hid hp
                  go_wp2_with fail
                  refine (in3_yes _ _ _ _ ha.1 ha.2).mono ?_
                  rintro e w' ⟨rfl, rfl⟩
                  go_wp2_with fail
                  refine (in3_yes _ _ _ _ ht.1 ht.2).mono ?_
                  rintro e w' ⟨rfl, rfl⟩
                  clear ha ht hp
                  go_wp2_with fail
                  refine (in3_no _ _ _ _ HN.out).mono ?_
                  rintro e w' ⟨rfl, rfl⟩
                  have HK0 := Lib.hid (show w3.drew.cell? ⟨bl, ol, none⟩ = some (.int .i64 a) ∧ w3.drew.cell? ⟨bl, ol + 1, none⟩ = some (.int .i64 t) ∧ w3.drew.cell? ⟨bl, ol + 2, none⟩ = some (.int .i64 p) from ⟨r0, r1, r2⟩)
                  go_wp2_with fail
                  go_region_held3 (fun w' => w'.cell? ⟨bl, ol, none⟩ = some (.int .i64 a) ∧ w'.cell? ⟨bl, ol + 1, none⟩ = some (.int .i64 t) ∧ w'.cell? ⟨bl, ol + 2, none⟩ = some (.int .i64 p)) (first | exact HK0.out) (first
                    | (go_at_call 12; refine (frame_no _ a t p _ HV.out).mono ?_; rintro e w4 ⟨rfl, rfl⟩)
                    | fail)
                  have HS4 := Lib.hid HS3.out.drew
                  have HB4 := Lib.hid HB3.out.drew
                  clear r0 r1 r2 HS3 HB3 HK0 hg3
                  generalize w3.drew = w4 at *
                  have hg4 : G ≤ w4.heap.size := by have := HB4.out.size; rw [← HG.out] at this; exact this
                  go_wp2_with fail
                  refine (HSAME1.out _ HB4.out).mono ?_
                  rintro e w5 ⟨rfl, hb⟩
                  have HS5 := Lib.hid (HS4.out.kept hb)
                  have HB5 := Lib.hid (HB4.out.trans (hb.mono hg4))
                  have hg5 : G ≤ w5.heap.size := by have := HB5.out.size; rw [← HG.out] at this; exact this
                  clear hb HS4
                  go_wp2_with fail
                  refine (ints_any _ _ _ _ _ _ 0 0 [] [] true _ (IntSl.nil _ _ _) (IntSl.nil _ _ _) rfl rfl (by decide) (by decide)).mono ?_
                  rintro e w6 ⟨rfl, hd⟩
                  have hb := below_of_drew hd
                  have HS6 := Lib.hid (HS5.out.kept hb)
                  have HB6 := Lib.hid (HB5.out.trans (hb.mono hg5))
                  have hg6 : G ≤ w6.heap.size := by have := HB6.out.size; rw [← HG.out] at this; exact this
                  clear hb hd HS5
                  go_wp2_with fail
                  go_meet
                  exact ⟨_, _, _, _, HGT, HS6.out, HB6.out⟩
              · have HV := Lib.hid (show ¬ Valid a t p from fun h => ht h.2.1)
                have HN := Lib.hid ht
                go_wp2_with fail
                refine (in3_yes _ _ _ _ ha.1 ha.2).mono ?_
                rintro e w' ⟨rfl, rfl⟩
                clear ha ht
                go_wp2_with fail
                refine (in3_no _ _ _ _ HN.out).mono ?_
                rintro e w' ⟨rfl, rfl⟩
                have HK0 := Lib.hid (show w3.drew.cell? ⟨bl, ol, none⟩ = some (.int .i64 a) ∧ w3.drew.cell? ⟨bl, ol + 1, none⟩ = some (.int .i64 t) ∧ w3.drew.cell? ⟨bl, ol + 2, none⟩ = some (.int .i64 p) from ⟨r0, r1, r2⟩)
                go_wp2_with fail
                go_region_held3 (fun w' => w'.cell? ⟨bl, ol, none⟩ = some (.int .i64 a) ∧ w'.cell? ⟨bl, ol + 1, none⟩ = some (.int .i64 t) ∧ w'.cell? ⟨bl, ol + 2, none⟩ = some (.int .i64 p)) (first | exact HK0.out) (first
                  | (go_at_call 12; refine (frame_no _ a t p _ HV.out).mono ?_; rintro e w4 ⟨rfl, rfl⟩)
                  | fail)
                have HS4 := Lib.hid HS3.out.drew
                have HB4 := Lib.hid HB3.out.drew
                clear r0 r1 r2 HS3 HB3 HK0 hg3
                generalize w3.drew = w4 at *
                have hg4 : G ≤ w4.heap.size := by have := HB4.out.size; rw [← HG.out] at this; exact this
                go_wp2_with fail
                refine (HSAME1.out _ HB4.out).mono ?_
                rintro e w5 ⟨rfl, hb⟩
                have HS5 := Lib.hid (HS4.out.kept hb)
                have HB5 := Lib.hid (HB4.out.trans (hb.mono hg4))
                have hg5 : G ≤ w5.heap.size := by have := HB5.out.size; rw [← HG.out] at this; exact this
                clear hb HS4
                go_wp2_with fail
                refine (ints_any _ _ _ _ _ _ 0 0 [] [] true _ (IntSl.nil _ _ _) (IntSl.nil _ _ _) rfl rfl (by decide) (by decide)).mono ?_
                rintro e w6 ⟨rfl, hd⟩
                have hb := below_of_drew hd
                have HS6 := Lib.hid (HS5.out.kept hb)
                have HB6 := Lib.hid (HB5.out.trans (hb.mono hg5))
                have hg6 : G ≤ w6.heap.size := by have := HB6.out.size; rw [← HG.out] at this; exact this
                clear hb hd HS5
                go_wp2_with fail
                go_meet
                exact ⟨_, _, _, _, HGT, HS6.out, HB6.out⟩
            · have HV := Lib.hid (show ¬ Valid a t p from fun h => ha h.1)
              have HN := Lib.hid ha
              clear ha
              go_wp2_with fail
              refine (in3_no _ _ _ _ HN.out).mono ?_
              rintro e w' ⟨rfl, rfl⟩
              have HK0 := Lib.hid (show w3.drew.cell? ⟨bl, ol, none⟩ = some (.int .i64 a) ∧ w3.drew.cell? ⟨bl, ol + 1, none⟩ = some (.int .i64 t) ∧ w3.drew.cell? ⟨bl, ol + 2, none⟩ = some (.int .i64 p) from ⟨r0, r1, r2⟩)
              go_wp2_with fail
              go_region_held3 (fun w' => w'.cell? ⟨bl, ol, none⟩ = some (.int .i64 a) ∧ w'.cell? ⟨bl, ol + 1, none⟩ = some (.int .i64 t) ∧ w'.cell? ⟨bl, ol + 2, none⟩ = some (.int .i64 p)) (first | exact HK0.out) (first
                | (go_at_call 12; refine (frame_no _ a t p _ HV.out).mono ?_; rintro e w4 ⟨rfl, rfl⟩)
                | fail)
              have HS4 := Lib.hid HS3.out.drew
              have HB4 := Lib.hid HB3.out.drew
              clear r0 r1 r2 HS3 HB3 HK0 hg3
              generalize w3.drew = w4 at *
              have hg4 : G ≤ w4.heap.size := by have := HB4.out.size; rw [← HG.out] at this; exact this
              go_wp2_with fail
              refine (HSAME1.out _ HB4.out).mono ?_
              rintro e w5 ⟨rfl, hb⟩
              have HS5 := Lib.hid (HS4.out.kept hb)
              have HB5 := Lib.hid (HB4.out.trans (hb.mono hg4))
              have hg5 : G ≤ w5.heap.size := by have := HB5.out.size; rw [← HG.out] at this; exact this
              clear hb HS4
              go_wp2_with fail
              refine (ints_any _ _ _ _ _ _ 0 0 [] [] true _ (IntSl.nil _ _ _) (IntSl.nil _ _ _) rfl rfl (by decide) (by decide)).mono ?_
              rintro e w6 ⟨rfl, hd⟩
              have hb := below_of_drew hd
              have HS6 := Lib.hid (HS5.out.kept hb)
              have HB6 := Lib.hid (HB5.out.trans (hb.mono hg5))
              have hg6 : G ≤ w6.heap.size := by have := HB6.out.size; rw [← HG.out] at this; exact this
              clear hb hd HS5
              go_wp2_with fail
              go_meet
              exact ⟨_, _, _, _, HGT, HS6.out, HB6.out⟩
          · have hne : ((xs.length : Int) == 3) = false := beq_eq_false_iff_ne.2 (by omega)
            have hne2 : (xs.length == 3) = false := by simp [h3]
            clear h3
            go_wp2_with fail
            go_meet
            exact ⟨_, _, _, _, HGT, HS3.out, HB3.out⟩
        case rest =>
          obtain ⟨v, va, vp, T, HGT, hsep, hbel⟩ := hcut
          clear HS3 HB3 hg3 c0
          have HS3 := Lib.hid hsep
          have HB3 := Lib.hid hbel
          clear hsep hbel
          obtain ⟨w3, hw3⟩ : ∃ w3, w3 = wc := ⟨_, rfl⟩
          obtain rfl := hw3
          have hg3 : G ≤ w3.heap.size := by have := HB3.out.size; rw [← HG.out] at this; exact this
          go_upto_if 98 with fail
          go_cut [] (fun wx => ∃ (v va vp : Value) (T : Tab), Hid (Good T) ∧ Sep G wx (stE g v T gx va vp T) ∧ Below G w wx)
          case first =>
            by_cases h1 : xs.length = 1
            · obtain ⟨p, rfl⟩ : ∃ p, xs = [p] := List.length_eq_one_iff.1 h1
              have hl1 : (((([p] : List Int).length : Nat) : Int) == 1) = true := rfl
              obtain ⟨bl, ol, rfl, hbl, r0⟩ := HI.out 0 p rfl
              have hcl : ∀ w', Below G w w' → w'.cell? ⟨bl, ol, none⟩ = some (.int .i64 p) := fun w' h => (h.cell (p := ⟨bl, ol, none⟩) hbl).trans r0
              have HCL := Lib.hid hcl
              clear hcl r0 hbl h1
              have r0 := HCL.out _ HB3.out
              by_cases hp : 0 ≤ p ∧ p ≤ 3
              · obtain ⟨D, hD⟩ : ∃ D, D = downT T p := ⟨_, rfl⟩
                have HD := Lib.hid hD
                have HGD := Lib.hid (by rw [hD]; exact HGT.out.down p : Good D)
                have HP := Lib.hid hp
                clear hD
                go_wp2_with fail
                refine (in3_yes _ _ _ _ hp.1 hp.2).mono ?_
                rintro e w' ⟨rfl, rfl⟩
                clear hp
                go_upto_region 22 with fail
                go_cut [13] (fun s13 wx => ∃ (gy : Nat) (aa ap : Option Addr) (ca cp : Nat), s13 = .pointer (some ⟨gy, 0, none⟩) ∧ Sep G wx (Ent.ints 3 (.slice aa D.length ca) (D.map (·.1)) :: Ent.ints 3 (.slice ap D.length cp) (D.map (·.2)) :: Ent.ints 3 va (T.map (·.1)) :: Ent.ints 3 vp (T.map (·.2)) :: Ent.blk1 gx 39 [va, vp] :: Ent.blk1 gy 39 [.slice aa D.length ca, .slice ap D.length cp] :: swE g v T) ∧ Below G w wx)
                case first =>
                  obtain ⟨x0, -, x1, -⟩ := stE_cells HS3.out.drew
                  have HK0 := Lib.hid (And.intro (show w3.drew.cell? ⟨bl, ol, none⟩ = some (.int .i64 p) from r0) (And.intro x0 x1))
                  refine wp_region_held_drew (S := fun w' => w'.cell? ⟨bl, ol, none⟩ = some (.int .i64 p) ∧ w'.cell? ⟨gx, 0, none⟩ = some va ∧ w'.cell? ⟨gx, 1, none⟩ = some vp) (by kernel_rfl) ?hSb (fun hHeld => ?startb)
                  case hSb => exact HK0.out
                  refine wpAnyH_take (i := 0) (v := ?vb0) rfl (by kernel_rfl) (by kernel_rfl) (by kernel_rfl) (fun _ _ _ h => h) (Or.inl ⟨by rfl, ?hyb0⟩) (by assumption) ?restb0
                  case hyb0 =>
                    intro w hSw
                    try dsimp only at hSw
                    go_simp
                    try with_reducible rfl
                  try simp only [Act.put, List.setIfInBounds_toArray, List.set_cons_zero, List.set_cons_succ, List.getElem_toArray, List.getElem_cons_zero]
                  refine wpAnyH_take (i := 1) (v := ?vb1) rfl (by kernel_rfl) (by kernel_rfl) (by kernel_rfl) (fun _ _ _ h => h) (Or.inl ⟨by rfl, ?hyb1⟩) (by assumption) ?restb1
                  case hyb1 =>
                    intro w hSw
                    try dsimp only at hSw
                    go_simp
                    try with_reducible rfl
                  try simp only [Act.put, List.setIfInBounds_toArray, List.set_cons_zero, List.set_cons_succ, List.getElem_toArray, List.getElem_cons_zero, List.getElem_cons_succ]
                  refine wpAnyH_take (i := 2) (v := ?vb2) rfl (by kernel_rfl) (by kernel_rfl) (by kernel_rfl) (fun _ _ _ h => h) (Or.inl ⟨by rfl, ?hyb2⟩) (by assumption) ?restb2
                  case hyb2 =>
                    intro w hSw
                    try dsimp only at hSw
                    go_simp
                    try with_reducible rfl
                  try simp only [Act.put, List.setIfInBounds_toArray, List.set_cons_zero, List.set_cons_succ, List.getElem_toArray, List.getElem_cons_zero, List.getElem_cons_succ]
                  refine wpAnyH_take (i := 3) (v := ?vb3) rfl (by kernel_rfl) (by kernel_rfl) (by kernel_rfl) (fun _ _ _ h => h) (Or.inl ⟨by rfl, ?hyb3⟩) (by assumption) ?restb3
                  case hyb3 =>
                    intro w hSw
                    try dsimp only at hSw
                    go_simp
                    try with_reducible rfl
                  try simp only [Act.put, List.setIfInBounds_toArray, List.set_cons_zero, List.set_cons_succ, List.getElem_toArray, List.getElem_cons_zero, List.getElem_cons_succ]
                  have hg3' : G ≤ w3.drew.heap.size := hg3
                  have HH0 := Lib.hid (downR_ok G va vp T (Ent.blk1 gx 39 [va, vp] :: swE g v T) p w3.drew (by have := HGT.out.len; omega) HS3.out.drew hg3')
                  have hsA := (HS3.out.blkNew hg3 #[.slice none 0 0, .slice none 0 0] 39).drew
                  have hbA := (HB3.out.alloc hg3 (.cells #[.slice none 0 0, .slice none 0 0] 39)).drew
                  have HB3' := Lib.hid HB3.out.drew
                  clear HS3 HB3 x0 x1
                  refine wpAnyH_ready (rs := [4, 5]) (by kernel_rfl) (by simp) ?_
                  refine AllReadyH.cons rfl (fun K hK => ?_) (AllReadyH.cons rfl (fun K hK => ?_) AllReadyH.nil)
                  · go_simp
                    refine HH0.out.mono ?_
                    rintro e w4 ⟨va', vp', rfl, hs, hb⟩
                    rw [← HD.out] at hs
                    obtain ⟨aa, ca, rfl⟩ := mapShape (A := []) hs
                    obtain ⟨ap, cp, rfl⟩ := mapShape (A := [_]) hs
                    have hb4 := HB3'.out.trans hb
                    have hg4 : G ≤ w4.heap.size := by have := hb4.size; rw [← HG.out] at this; exact this
                    have z0 := (Sep.blkAt (A := [_, _, _, _]) hs (j := 0) rfl).1
                    have z1 := (Sep.blkAt (A := [_, _, _, _]) hs (j := 1) rfl).1
                    have HKb := Lib.hid (And.intro (HCL.out _ hb4) (And.intro z0 z1))
                    have hs5 := hs.alloc (.cells #[.slice none 0 0, .slice none 0 0] 39)
                    have hb5 := hb4.alloc hg4 (.cells #[.slice none 0 0, .slice none 0 0] 39)
                    have HKc := Lib.hid (And.intro (HCL.out _ hb5) (And.intro (Sep.blkAt (A := [_, _, _, _]) hs5 (j := 0) rfl).1 (Sep.blkAt (A := [_, _, _, _]) hs5 (j := 1) rfl).1))
                    have hs6 := hs.blkNew hg4 #[.slice aa D.length ca, .slice ap D.length cp] 39
                    have hb6 := hb4.alloc hg4 (.cells #[.slice aa D.length ca, .slice ap D.length cp] 39)
                    have HKd := Lib.hid (And.intro (HCL.out _ hb6) (And.intro (Sep.blkAt (A := [_, _, _, _, _]) hs6 (j := 0) rfl).1 (Sep.blkAt (A := [_, _, _, _, _]) hs6 (j := 1) rfl).1))
                    have HS6 := Lib.hid (hs6.perm (List.perm_middle (l₁ := [_, _, _, _, _])).symm)
                    have HB6 := Lib.hid hb6
                    clear hs hs5 hs6 hb hb4 hb5 hb6 hsA hbA z0 z1 HH0
                    go_wp2_with fail
                    refine hK.out _ _ ?_ (fun hHeldb0 => ?_)
                    · exact HKb.out
                    clear hK K
                    try simp only [Act.put, List.setIfInBounds_toArray, List.set_cons_zero, List.set_cons_succ, List.getElem_toArray, List.getElem_cons_zero, List.getElem_cons_succ]
                    refine wpAnyH_ready (rs := [5]) (by kernel_rfl) (by simp) ?_
                    refine AllReadyH.cons rfl (fun K hK => ?_) AllReadyH.nil
                    go_simp
                    refine hK.out _ _ ?_ (fun hHeldb1 => ?_)
                    · exact HKc.out
                    clear hK K
                    try simp only [Act.put, List.setIfInBounds_toArray, List.set_cons_zero, List.set_cons_succ, List.getElem_toArray, List.getElem_cons_zero, List.getElem_cons_succ]
                    refine wpAnyH_ready (rs := [6]) (by kernel_rfl) (by simp) ?_
                    refine AllReadyH.cons rfl (fun K hK => ?_) AllReadyH.nil
                    go_simp
                    refine hK.out _ _ ?_ (fun hHeldb2 => ?_)
                    · exact HKd.out
                    clear hK K
                    try simp only [Act.put, List.setIfInBounds_toArray, List.set_cons_zero, List.set_cons_succ, List.getElem_toArray, List.getElem_cons_zero, List.getElem_cons_succ]
                    refine wpAnyH_done (by kernel_rfl) ?_ _
                    go_wp2_with fail
                    go_meet
                    exact ⟨_, aa, ap, ca, cp, rfl, HS6.out, HB6.out⟩
                  · go_simp
                    obtain ⟨gy, hgy⟩ : ∃ gy, gy = w3.heap.size := ⟨_, rfl⟩
                    rw [← hgy] at hsA ⊢
                    have hsB := hsA.perm (List.perm_middle (l₁ := [_, _, _])).symm
                    clear hsA HH0 hgy
                    generalize (w3.alloc (.cells #[.slice none 0 0, .slice none 0 0] 39)).drew = w4 at *
                    have hg4 : G ≤ w4.heap.size := by have := hbA.size; rw [← HG.out] at this; exact this
                    have HH1 := Lib.hid (downR_ok G va vp T _ p w4 (by have := HGT.out.len; omega) hsB hg4)
                    have HKb := Lib.hid (And.intro (HCL.out _ hbA) (And.intro (Sep.blkAt (A := [_, _]) hsB (j := 0) rfl).1 (Sep.blkAt (A := [_, _]) hsB (j := 1) rfl).1))
                    have HBA := Lib.hid hbA
                    clear hsB hbA hg4
                    refine hK.out _ _ ?_ (fun hHeldc0 => ?_)
                    · exact HKb.out
                    clear hK K
                    try simp only [Act.put, List.setIfInBounds_toArray, List.set_cons_zero, List.set_cons_succ, List.getElem_toArray, List.getElem_cons_zero, List.getElem_cons_succ]
                    refine wpAnyH_ready (rs := [4]) (by kernel_rfl) (by simp) ?_
                    refine AllReadyH.cons rfl (fun K hK => ?_) AllReadyH.nil
                    go_simp
                    refine HH1.out.mono ?_
                    rintro e w5 ⟨va', vp', rfl, hs, hb⟩
                    rw [← HD.out] at hs
                    obtain ⟨aa, ca, rfl⟩ := mapShape (A := []) hs
                    obtain ⟨ap, cp, rfl⟩ := mapShape (A := [_]) hs
                    have hb5 := HBA.out.trans hb
                    have HKc := Lib.hid (And.intro (HCL.out _ hb5) (And.intro (Sep.blkAt (A := [_, _, _, _]) hs (j := 0) rfl).1 (Sep.blkAt (A := [_, _, _, _]) hs (j := 1) rfl).1))
                    obtain ⟨q0, f0⟩ := Sep.blkAt (A := [_, _, _, _, _]) hs (j := 0) rfl
                    obtain ⟨q1, f1⟩ := Sep.blkAt (A := [_, _, _, _, _]) hs (j := 1) rfl
                    have hs6 := Sep.blkSet (A := [_, _, _, _, _]) hs 0 (.slice aa D.length ca)
                    have hs7 := Sep.blkSet (A := [_, _, _, _, _]) hs6 1 (.slice ap D.length cp)
                    have hb7 := (hb5.setCell (p := ⟨gy, 0, none⟩) (Sep.blkLt (A := [_, _, _, _, _]) hs).1 (.slice aa D.length ca)).setCell (p := ⟨gy, 1, none⟩) (Sep.blkLt (A := [_, _, _, _, _]) hs).1 (.slice ap D.length cp)
                    have HKd := Lib.hid (And.intro (HCL.out _ hb7) (And.intro (Sep.blkAt (A := [_, _, _, _]) hs7 (j := 0) rfl).1 (Sep.blkAt (A := [_, _, _, _]) hs7 (j := 1) rfl).1))
                    have HS7 := Lib.hid hs7
                    have HB7 := Lib.hid hb7
                    clear hs hs6 hs7 hb hb5 hb7
                    go_wp2_with fail
                    refine hK.out _ _ ?_ (fun hHeldc1 => ?_)
                    · exact HKc.out
                    clear hK K
                    try simp only [Act.put, List.setIfInBounds_toArray, List.set_cons_zero, List.set_cons_succ, List.getElem_toArray, List.getElem_cons_zero, List.getElem_cons_succ]
                    refine wpAnyH_ready (rs := [6]) (by kernel_rfl) (by simp) ?_
                    refine AllReadyH.cons rfl (fun K hK => ?_) AllReadyH.nil
                    go_simp
                    refine hK.out _ _ ?_ (fun hHeldc2 => ?_)
                    · exact HKd.out
                    clear hK K
                    try simp only [Act.put, List.setIfInBounds_toArray, List.set_cons_zero, List.set_cons_succ, List.getElem_toArray, List.getElem_cons_zero, List.getElem_cons_succ]
                    refine wpAnyH_done (by kernel_rfl) ?_ _
                    go_wp2_with fail
                    go_meet
                    exact ⟨gy, aa, ap, ca, cp, rfl, HS7.out, HB7.out⟩
                case rest =>
                  obtain ⟨gy, aa, ap, ca, cp, rfl, hsep, hbel⟩ := hcut
                  clear HS3 HB3 hg3 r0
                  obtain ⟨w4, hw4⟩ : ∃ w4, w4 = wc := ⟨_, rfl⟩
                  obtain rfl := hw4
                  obtain ⟨av, cv, rfl⟩ := mapShape (A := [_, _]) hsep
                  obtain ⟨av2, cv2, rfl⟩ := mapShape (A := [_, _, _]) hsep
                  obtain ⟨x0, fx0⟩ := Sep.blkAt (A := [_, _, _, _]) hsep (j := 0) rfl
                  obtain ⟨x1, fx1⟩ := Sep.blkAt (A := [_, _, _, _]) hsep (j := 1) rfl
                  have y0 := (Sep.blkAt (A := [_, _, _, _, _]) hsep (j := 0) rfl).1
                  have y1 := (Sep.blkAt (A := [_, _, _, _, _]) hsep (j := 1) rfl).1
                  have h5 := Sep.blkSet (A := [_, _, _, _]) hsep 0 (.slice aa D.length ca)
                  have h6 := Sep.blkSet (A := [_, _, _, _]) h5 1 (.slice ap D.length cp)
                  have hb6 := (hbel.setCell (p := ⟨gx, 0, none⟩) (Sep.blkLt (A := [_, _, _, _]) hsep).1 (.slice aa D.length ca)).setCell (p := ⟨gx, 1, none⟩) (Sep.blkLt (A := [_, _, _, _]) hsep).1 (.slice ap D.length cp)
                  have HS6 : Hid (Sep G _ (stE g v T gx (.slice aa D.length ca) (.slice ap D.length cp) D)) := Lib.hid (h6.sub (List.Sublist.cons_cons _ (List.Sublist.cons_cons _ (List.Sublist.cons _ (List.Sublist.cons _ (List.Sublist.cons_cons _ (List.Sublist.cons _ (List.Sublist.refl _))))))))
                  have HB6 := Lib.hid hb6
                  have htl := HGT.out.len
                  have hdl : D.length ≤ T.length := by rw [HD.out]; exact downT_len T p
                  have HDL := Lib.hid hdl
                  have HTL := Lib.hid htl
                  clear h5 h6 hb6 hsep hbel
                  go_upto_region 25 with fail
                  clear x0 x1 fx0 fx1 y0 y1 hdl htl
                  generalize (w4.setCell ⟨gx, 0, none⟩ (.slice aa D.length ca)).setCell ⟨gx, 1, none⟩ (.slice ap D.length cp) = w6 at *
                  obtain ⟨nn, hnn⟩ : ∃ nn, nn = (T.length : Int) - (D.length : Int) := ⟨_, rfl⟩
                  rw [← hnn]
                  have hg6 : G ≤ w6.heap.size := by have := HB6.out.size; rw [← HG.out] at this; exact this
                  have hdn := down_ok G g v T _ p w6 HP.out HTL.out (stE_sw HS6.out) hg6
                  rw [← HD.out, ← hnn] at hdn
                  have HDN := Lib.hid hdn
                  have hne : (nn != nn) = false := by simp
                  have r0 := HCL.out _ HB6.out
                  clear hdn hnn
                  go_wp2_with fail
                  refine HDN.out.mono ?_
                  rintro e w7 ⟨rfl, ⟨v', hs⟩, hb⟩
                  have HS7 := Lib.hid (stE_back hs)
                  have HB7 := Lib.hid (HB6.out.trans hb)
                  have hg7 : G ≤ w7.heap.size := by have := HB7.out.size; rw [← HG.out] at this; exact this
                  clear hs hb HDN HS6 HB6 hg6 r0
                  go_wp2_with fail
                  refine (HSAME0.out _ HB7.out).mono ?_
                  rintro e w8 ⟨rfl, hb⟩
                  have HS8 := Lib.hid (HS7.out.kept hb)
                  have HB8 := Lib.hid (HB7.out.trans (hb.mono hg7))
                  have hg8 : G ≤ w8.heap.size := by have := HB8.out.size; rw [← HG.out] at this; exact this
                  clear hb HS7
                  go_wp2_with fail
                  go_meet
                  exact ⟨_, _, _, _, HGD, HS8.out, HB8.out⟩
              · have HP := Lib.hid hp
                clear hp
                go_wp2_with fail
                refine (in3_no _ _ _ _ HP.out).mono ?_
                rintro e w' ⟨rfl, rfl⟩
                go_wp2_with fail
                refine (down_no _ p _ HP.out).mono ?_
                rintro e w' ⟨rfl, rfl⟩
                go_wp2_with fail
                refine (HSAME1.out _ HB3.out).mono ?_
                rintro e w8 ⟨rfl, hb⟩
                have HS8 := Lib.hid (HS3.out.kept hb)
                have HB8 := Lib.hid (HB3.out.trans (hb.mono hg3))
                have hg8 : G ≤ w8.heap.size := by have := HB8.out.size; rw [← HG.out] at this; exact this
                clear hb r0
                go_wp2_with fail
                go_meet
                exact ⟨_, _, _, _, HGT, HS8.out, HB8.out⟩
            · have hne : ((xs.length : Int) == 1) = false := beq_eq_false_iff_ne.2 (by omega)
              have hne2 : (xs.length == 1) = false := by simp [h1]
              clear h1
              go_wp2_with fail
              go_meet
              exact ⟨_, _, _, _, HGT, HS3.out, HB3.out⟩
          case rest =>
            obtain ⟨v, va, vp, T, HGT, hsep, hbel⟩ := hcut
            clear HS3 HB3 hg3 HI
            have HS3 := Lib.hid hsep
            have HB3 := Lib.hid hbel
            clear hsep hbel
            obtain ⟨av, cv, rfl⟩ := mapShape (A := []) HS3.out
            obtain ⟨aq, cq, rfl⟩ := mapShape (A := [_]) HS3.out
            have htl := HGT.out.len
            go_wp2_with fail
            go_loopw [16] (fun iv wr => ∃ j : Nat, j ≤ 13 ∧ iv = .int .i64 ((j : Int) - 1) ∧ Sep G wr (stE g v T gx (.slice av T.length cv) (.slice aq T.length cq) T) ∧ Below G w wr) (fun iv _ => 13 - (intOf iv + 1).toNat)
            case atStart => exact ⟨0, by omega, rfl, HS3.out, HB3.out⟩
            case round =>
              obtain ⟨j, hj, rfl, hsep, hbel⟩ := hrel
              clear HS3 HB3
              have HS4 := Lib.hid hsep
              have HB4 := Lib.hid hbel
              obtain ⟨w4, hw4⟩ : ∃ w4, w4 = wr := ⟨_, rfl⟩
              obtain rfl := hw4
              have hg4 : G ≤ w4.heap.size := by have := HB4.out.size; rw [← HG.out] at this; exact this
              clear hsep hbel
              obtain ⟨a, ha⟩ : ∃ a, a = (j : Int) - 1 := ⟨_, rfl⟩
              rw [← ha]
              by_cases hlj : j < 13
              · have ha12 : decide (a < 12) = true := decide_eq_true (by omega)
                obtain ⟨x0, -, x1, -⟩ := stE_cells HS4.out
                have ha0 : -1 ≤ a := by omega
                have ha1 : a ≤ 11 := by omega
                have HFR := Lib.hid (findR_any w4.heap.size av cv T.length (.slice aq T.length cq) T a w4 (intSlN (A := []) HS4.out (List.length_map _).symm) rfl (by omega) (Nat.le_refl _))
                cases hf : tfind T a with
                | none =>
                  rw [hf] at HFR
                  have HLK := Lib.hid (look_none hf)
                  have HA := Lib.hid ha
                  clear hf ha
                  go_wp2_with fail
                  refine HFR.out.mono ?_
                  rintro e w5 ⟨rfl, hb⟩
                  simp only [idx]
                  have HS5 := Lib.hid (HS4.out.kept hb)
                  have HB5 := Lib.hid (HB4.out.trans (hb.mono hg4))
                  have hg5 : G ≤ w5.heap.size := by have := HB5.out.size; rw [← HG.out] at this; exact this
                  clear hb x0 x1 HS4 HB4 hg4 HFR
                  go_wp2_with fail
                  refine (port_any G g v T _ a w5 (by omega) (stE_sw HS5.out)).mono ?_
                  rintro e w6 ⟨rfl, hb⟩
                  rw [HLK.out]
                  have HS6 := Lib.hid (HS5.out.kept hb)
                  have HB6 := Lib.hid (HB5.out.trans (hb.mono hg5))
                  have hg6 : G ≤ w6.heap.size := by have := HB6.out.size; rw [← HG.out] at this; exact this
                  clear hb HS5 HB5 hg5
                  go_wp2
                  go_roundw
                  case rel => exact ⟨j + 1, by omega, congrArg (Value.int .i64) (show a + 1 = ((j + 1 : Nat) : Int) - 1 by have h := HA.out; omega), HS6.out, HB6.out⟩
                  case measure => have h := HA.out; simp [intOf]; omega
                | some q =>
                  rw [hf] at HFR
                  have hql := tfind_lt hf
                  obtain ⟨bq, oq, rfl, d0⟩ := intsAtN (A := [_]) HS4.out (List.length_map _).symm (look_some hf)
                  obtain ⟨lk, hlk⟩ : ∃ l, l = look T a := ⟨_, rfl⟩
                  rw [← hlk] at d0
                  have HLK := Lib.hid hlk
                  have HA := Lib.hid ha
                  have hqi : (q : Int) < (T.length : Int) := by omega
                  have hq0 : (0 : Int) ≤ (q : Int) := by omega
                  have hqd : decide ((0 : Int) ≤ (q : Int)) = true := decide_eq_true hq0
                  have hqe : decide ((q : Int) ≥ 0) = true := decide_eq_true hq0
                  have HF := Lib.hid hf
                  clear hf ha hlk
                  go_wp2_with fail
                  refine HFR.out.mono ?_
                  rintro e w5 ⟨rfl, hb⟩
                  simp only [idx]
                  have HS5 := Lib.hid (HS4.out.kept hb)
                  have d5 : w5.cell? ⟨bq, oq + q, none⟩ = some (.int .i64 lk) := (hb.cell (p := ⟨bq, oq + q, none⟩) (World.block_lt_of_cell? w4 _ d0)).trans d0
                  have HB5 := Lib.hid (HB4.out.trans (hb.mono hg4))
                  have hg5 : G ≤ w5.heap.size := by have := HB5.out.size; rw [← HG.out] at this; exact this
                  clear hb x0 x1 HS4 HB4 hg4 HFR d0
                  have hfr := findR_any w5.heap.size av cv T.length (.slice (some ⟨bq, oq, none⟩) T.length cq) T a w5.drew (intSlN (A := []) HS5.out (List.length_map _).symm) rfl (by omega) (Nat.le_refl _)
                  rw [HF.out] at hfr
                  simp only [idx] at hfr
                  have HFR := Lib.hid hfr
                  clear hfr
                  obtain ⟨x0, -, x1, -⟩ := stE_cells HS5.out.drew
                  have HK0 := Lib.hid (And.intro (show w5.drew.cell? ⟨bq, oq + q, none⟩ = some (.int .i64 lk) from d5) (And.intro x0 x1))
                  clear x0 x1
                  go_wp2_with fail
                  go_region_held3 (fun w' => w'.cell? ⟨bq, oq + q, none⟩ = some (.int .i64 lk) ∧ w'.cell? ⟨gx, 0, none⟩ = some (.slice av T.length cv) ∧ w'.cell? ⟨gx, 1, none⟩ = some (.slice (some ⟨bq, oq, none⟩) T.length cq)) (first | exact HK1.out | exact HK0.out) (first
                    | (go_at_call 19; refine HFR.out.mono ?_; rintro e w6 ⟨rfl, hb⟩; have HS6 := Lib.hid (HS5.out.drew.kept hb); have HB6 := Lib.hid (HB5.out.drew.trans (hb.mono hg5)); have HK1 := Lib.hid (And.intro ((hb.cell (p := ⟨bq, oq + q, none⟩) (World.block_lt_of_cell? w5 _ d5)).trans d5) (And.intro (stE_cells HS6.out).1 (stE_cells HS6.out).2.2.1)); clear hb)
                    | fail)
                  clear HK0 HK1 HFR d5 HS5 HB5 hg5
                  have hg6 : G ≤ w6.heap.size := by have := HB6.out.size; rw [← HG.out] at this; exact this
                  go_wp2_with fail
                  refine (port_any G g v T _ a w6 (by omega) (stE_sw HS6.out)).mono ?_
                  rintro e w7 ⟨rfl, hb⟩
                  rw [← HLK.out]
                  have hne : (lk != lk) = false := by simp
                  have HS7 := Lib.hid (HS6.out.kept hb)
                  have HB7 := Lib.hid (HB6.out.trans (hb.mono hg6))
                  have hg7 : G ≤ w7.heap.size := by have := HB7.out.size; rw [← HG.out] at this; exact this
                  clear hb HS6 HB6 hg6
                  go_wp2
                  go_roundw
                  case rel => exact ⟨j + 1, by omega, congrArg (Value.int .i64) (show a + 1 = ((j + 1 : Nat) : Int) - 1 by have h := HA.out; omega), HS7.out, HB7.out⟩
                  case measure => have h := HA.out; simp [intOf]; omega
              · have hj13 : j = 13 := by omega
                have ha12 : decide (a < 12) = false := decide_eq_false (by omega)
                clear ha
                go_wp2
                go_roundg (gi - 1)
                case measure => omega
                case rel => exact ⟨k + 1, _, _, _, T, by omega, by go_num, HGT, HS4.out, HB4.out⟩
      · have hd60 : decide ((k : Int) < 60) = false := decide_eq_false (by omega)
        have hd61 : decide (k < 60) = false := decide_eq_false h60
        clear h60
        go_wp2
        go_ret
        exact ⟨rfl, by have := HB3.out; rw [HG.out] at this; exact this⟩
    · have hki : decide ((k : Int) < (rs.length : Int)) = false := decide_eq_false (by omega)
      have hki2 : decide (k < rs.length) = false := decide_eq_false hlt
      clear hlt
      go_wp2
      go_ret
      exact ⟨rfl, by have := HB3.out; rw [HG.out] at this; exact this⟩
end Go.Proofs.YtommedhaaojgiaaDoor
