/- MuxPlays returns true: whatever frames come, and whatever is read, ends tell what the document's tell. -/
import Derived.Test.YthnlpmjfibidcaaDoorTold
import Derived.Test.YthnlpmjfibidcaaDoorMuxRefPut
import Derived.Test.YthnlpmjfibidcaaDoorFrm
import Derived.Test.YthnlpmjfibidcaaDoorIn4
import Derived.Deep.RegionHeld3
namespace Go.Proofs.YthnlpmjfibidcaaDoor
open Go.RowKit
set_option linter.unusedVariables false
set_option linter.unusedSimpArgs false
set_option maxRecDepth 100000

/-- The ends, the variable x, and the reference's two rows. -/
def xE (g gx : Nat) (s0 : List Str) (xd xr vd vr : Value) (ss : List Str) (L : List Ent) : List Ent := mxE vd vr ss (Ent.mux 63 g s0 :: Ent.blk1 gx 39 [xd, xr] :: L)
theorem mx_any {B : Nat} {w : World} {vd vr : Value} {ss : List Str} {F : List Ent} (h : Sep B w (mxE vd vr ss F)) : (∃ a n c, vd = .slice a n c) ∧ ∃ a n c, vr = .slice a n c := by
  obtain ⟨⟨a, c, h1⟩, b, d, h2⟩ := mx_shape h
  exact ⟨⟨a, _, c, h1⟩, b, _, d, h2⟩
theorem x_cells {G : Nat} {w : World} {g gx : Nat} {s0 ss : List Str} {xd xr vd vr : Value} {L : List Ent} (h : Sep G w (xE g gx s0 xd xr vd vr ss L)) :
    (w.cell? ⟨gx, 0, none⟩ = some xd ∧ w.cell? ⟨gx, 1, none⟩ = some xr) ∧ w.frozen? ⟨gx, 0, none⟩ = false ∧ w.frozen? ⟨gx, 1, none⟩ = false :=
  ⟨⟨(Sep.blkAt (A := [_, _, _]) h (j := 0) rfl).1, (Sep.blkAt (A := [_, _, _]) h (j := 1) rfl).1⟩, (Sep.blkAt (A := [_, _, _]) h (j := 0) rfl).2, (Sep.blkAt (A := [_, _, _]) h (j := 1) rfl).2⟩
theorem y_cells {G : Nat} {w : World} {g gx gy : Nat} {s0 ss : List Str} {xd xr vd vr yd yr : Value} {L : List Ent} (h : Sep G w (xE g gx s0 xd xr vd vr ss (Ent.blk1 gy 39 [yd, yr] :: L))) :
    (w.cell? ⟨gy, 0, none⟩ = some yd ∧ w.cell? ⟨gy, 1, none⟩ = some yr) ∧ w.frozen? ⟨gy, 0, none⟩ = false ∧ w.frozen? ⟨gy, 1, none⟩ = false :=
  ⟨⟨(Sep.blkAt (A := [_, _, _, _]) h (j := 0) rfl).1, (Sep.blkAt (A := [_, _, _, _]) h (j := 1) rfl).1⟩, (Sep.blkAt (A := [_, _, _, _]) h (j := 0) rfl).2, (Sep.blkAt (A := [_, _, _, _]) h (j := 1) rfl).2⟩
theorem x_set {G : Nat} {w w0 : World} {g gx : Nat} {s0 ss : List Str} {xd xr vd vr : Value} {L : List Ent} (ud ur : Value) (h : Sep G w (xE g gx s0 xd xr vd vr ss L)) (hb : Below G w0 w) :
    Sep G ((w.setCell ⟨gx, 0, none⟩ ud).setCell ⟨gx, 1, none⟩ ur) (xE g gx s0 ud ur vd vr ss L) ∧ Below G w0 ((w.setCell ⟨gx, 0, none⟩ ud).setCell ⟨gx, 1, none⟩ ur) := by
  have h1 := Sep.blkSet (A := [_, _, _]) h 0 ud
  have h2 := Sep.blkSet (A := [_, _, _]) h1 1 ur
  have hl := (Sep.blkLt (A := [_, _, _]) h).1
  exact ⟨h2, (hb.setCell (p := ⟨gx, 0, none⟩) hl ud).setCell (p := ⟨gx, 1, none⟩) hl ur⟩
theorem y_set {G : Nat} {w w0 : World} {g gx gy : Nat} {s0 ss : List Str} {xd xr vd vr yd yr : Value} {L : List Ent} (ud ur : Value) (h : Sep G w (xE g gx s0 xd xr vd vr ss (Ent.blk1 gy 39 [yd, yr] :: L))) (hb : Below G w0 w) :
    Sep G ((w.setCell ⟨gy, 0, none⟩ ud).setCell ⟨gy, 1, none⟩ ur) (xE g gx s0 xd xr vd vr ss (Ent.blk1 gy 39 [ud, ur] :: L)) ∧ Below G w0 ((w.setCell ⟨gy, 0, none⟩ ud).setCell ⟨gy, 1, none⟩ ur) := by
  have h1 := Sep.blkSet (A := [_, _, _, _]) h 0 ud
  have h2 := Sep.blkSet (A := [_, _, _, _]) h1 1 ur
  have hl := (Sep.blkLt (A := [_, _, _, _]) h).1
  exact ⟨h2, (hb.setCell (p := ⟨gy, 0, none⟩) hl ud).setCell (p := ⟨gy, 1, none⟩) hl ur⟩
/-- A new block behind the rest. -/
theorem x_new {G : Nat} {w : World} {g gx : Nat} {s0 ss : List Str} {xd xr vd vr : Value} (h : Sep G w (xE g gx s0 xd xr vd vr ss [])) (hG : G ≤ w.heap.size) (cs : Array Value) (t : TypeId) :
    Sep G (w.alloc (.cells cs t)) (xE g gx s0 xd xr vd vr ss [Ent.blk1 w.heap.size t cs.toList]) :=
  (h.blkNew hG cs t).perm (List.perm_append_comm (l₁ := [_]) (l₂ := [_, _, _, _]))
theorem x_mux {G : Nat} {w : World} {g gx : Nat} {s0 ss : List Str} {xd xr vd vr : Value} {L : List Ent} (h : Sep G w (xE g gx s0 xd xr vd vr ss L)) : Sep G w (Ent.mux 63 g s0 :: mxE vd vr ss (Ent.blk1 gx 39 [xd, xr] :: L)) :=
  h.perm ((List.perm_append_comm (l₁ := [_, _]) (l₂ := [_])).append_right _)
theorem x_mux' {G : Nat} {w : World} {g gx : Nat} {s0 ss : List Str} {xd xr vd vr : Value} {L : List Ent} (h : Sep G w (Ent.mux 63 g s0 :: mxE vd vr ss (Ent.blk1 gx 39 [xd, xr] :: L))) : Sep G w (xE g gx s0 xd xr vd vr ss L) :=
  h.perm ((List.perm_append_comm (l₁ := [_]) (l₂ := [_, _])).append_right _)
theorem x_drop {G : Nat} {w : World} {g gx : Nat} {s0 ss : List Str} {xd xr vd vr : Value} {E : Ent} (h : Sep G w (xE g gx s0 xd xr vd vr ss [E])) : Sep G w (xE g gx s0 xd xr vd vr ss []) :=
  h.sub (List.Sublist.cons_cons _ (List.Sublist.cons_cons _ (List.Sublist.cons_cons _ (List.Sublist.cons_cons _ (List.nil_sublist _)))))
theorem next_le {s : Str} (h : s.read ≤ 200) : s.next ≤ 200 := by
  have := (runTo_ge s.came (200 - s.read) s.read).2
  unfold Str.next; omega
theorem set_read {ss : List Str} {m : Nat} {s : Str} (hr : ∀ x ∈ ss, x.read ≤ 200) (hs : ss[m]? = some s) : ∀ x ∈ ss.set m ⟨s.came, s.next⟩, x.read ≤ 200 := by
  intro x hx
  rcases List.mem_or_eq_of_mem_set hx with hx | rfl
  · exact hr x hx
  · exact next_le (hr s (List.mem_iff_getElem?.2 ⟨m, hs⟩))

set_option maxHeartbeats 4000000 in
theorem muxPlays_walk (ao : Option Addr) (ac : Nat) (fs : List Frm) (ro : Option Addr) (rc : Nat) (rs : List Int) (w : World) (hdoor : Door w) (hA : RowSl w.heap.size w ao 3 (fs.map frmCells)) (hac : fs.length ≤ ac) (hmax : ac ≤ maxLen)
    (hg : ∀ x ∈ fs, FrmGood x) (hR : IntSl w.heap.size w ro rs) (hrc : rs.length ≤ rc) (hrx : rc ≤ maxLen) (_ : ∀ x ∈ rs, -9223372036854775808 ≤ x ∧ x ≤ 9223372036854775807) :
    Calls Tryd.prog 4 #[.slice ao fs.length ac, .slice ro rs.length rc] w fun e w' => e = .returned (.bool true) ∧ Below w.heap.size w w' := by
  unfold maxLen at hmax hrx
  have hsame : ∀ (c : Int) (w' : World), Below w.heap.size w w' → Calls Tryd.prog 12 #[errV c, .int .i64 c] w' fun x w'' => x = .returned (.bool true) ∧ Below w'.heap.size w' w'' := fun c w' h =>
    same_any c c true w' (hdoor.below h hdoor.pos) (by simp)
  have HSAME := Lib.hid hsame
  obtain ⟨G, hG⟩ : ∃ G, G = w.heap.size := ⟨_, rfl⟩
  rw [← hG] at HSAME hA hR
  have HG := Lib.hid hG
  have HA := Lib.hid hA
  have HI := Lib.hid hR
  have HGD := Lib.hid hg
  clear hsame hG hdoor hA hR hg
  go_enter Tryd.func4, Tryd.ntmps4
  go_wp2_with fail
  refine (muxNew_any _).mono ?_
  rintro e w1 ⟨g, rfl, hsep, hb⟩
  rw [← HG.out] at hsep hb
  have HS1 := Lib.hid hsep
  have HB1 := Lib.hid hb
  have hg1 : G ≤ w1.heap.size := by have := HB1.out.size; rw [← HG.out] at this; exact this
  clear hsep hb
  go_wp2_with fail
  refine (refNew_any _).mono ?_
  rintro e w2 ⟨vd, vr, rfl, hsep, hb⟩
  obtain ⟨⟨da, dn, dc, rfl⟩, ra, rn, rc', rfl⟩ := mx_any hsep
  have hj := Sep.join HS1.out hg1 hb hsep
  have HB2 := Lib.hid (HB1.out.trans (hb.mono hg1))
  have hg2 : G ≤ w2.heap.size := by have := HB2.out.size; rw [← HG.out] at this; exact this
  have h3 := hj.blkNew hg2 #[.slice da dn dc, .slice ra rn rc'] 39
  obtain ⟨gx, hgx⟩ : ∃ gx, gx = w2.heap.size := ⟨_, rfl⟩
  rw [← hgx] at h3
  have HS3 : Hid (Sep G (w2.alloc (.cells #[.slice da dn dc, .slice ra rn rc'] 39)) (xE g gx (List.replicate 4 Str.new) (.slice da dn dc) (.slice ra rn rc') (.slice da dn dc) (.slice ra rn rc') (List.replicate 4 Str.new) [])) := Lib.hid (h3.perm (by
    refine (List.perm_append_comm (l₁ := [_]) (l₂ := [_, _, _])).trans ?_
    exact List.Perm.refl _))
  have HB3 := Lib.hid (HB2.out.alloc hg2 (.cells #[.slice da dn dc, .slice ra rn rc'] 39))
  have HGX := Lib.hid hgx
  clear hsep hb hj h3 hgx HS1 HB1 hg1 HB2
  go_wp2
  rw [← HGX.out]
  clear HGX hg2
  go_loopg [7] fs.length (fun gk kv wr => ∃ (k : Nat) (vd vr : Value) (ss : List Str), gk + k = fs.length ∧ kv = .int .i64 k ∧ Hid (ss.length = 4) ∧ Hid (∀ s ∈ ss, s.read ≤ 200) ∧ Sep G wr (xE g gx ss vd vr vd vr ss []) ∧ Below G w wr)
  case atStart => exact ⟨0, _, _, List.replicate 4 Str.new, rfl, rfl, rfl, fun s hs => by obtain ⟨_, rfl⟩ := List.mem_replicate.1 hs; decide, HS3.out, HB3.out⟩
  case round =>
    obtain ⟨gi, rfl⟩ : ∃ gi, gi = gk := ⟨_, rfl⟩
    obtain ⟨k, vd, vr, ss, hgi, rfl, hlen, hrd, hsep, hbel⟩ := hrel
    clear HS3 HB3
    have HS3 := Lib.hid hsep
    have HB3 := Lib.hid hbel
    obtain ⟨w3, hw3⟩ : ∃ w3, w3 = wr := ⟨_, rfl⟩
    obtain rfl := hw3
    clear hsep hbel
    by_cases hlt : k < fs.length
    · have hki : (k : Int) < (fs.length : Int) := by omega
      have hk0 : (0 : Int) ≤ (k : Int) := by omega
      by_cases h30 : k < 30
      · have hd30 : decide ((k : Int) < 30) = true := decide_eq_true (by omega)
        have hg3 : G ≤ w3.heap.size := by have := HB3.out.size; rw [← HG.out] at this; exact this
        obtain ⟨⟨da, dn, dc, rfl⟩, ra, rn, rc', rfl⟩ := mx_any HS3.out
        obtain ⟨⟨fi, fp, fd⟩, hx⟩ : ∃ x, fs[k]? = some x := ⟨_, List.getElem?_eq_getElem hlt⟩
        obtain ⟨b, off, rfl, hbb, c0, c1, c2⟩ := HA.out.frm hx
        have hgx := (HGD.out _ (List.mem_iff_getElem?.2 ⟨k, hx⟩)).2.1
        simp only at c0 c1 c2 hgx
        have hfc : ∀ w', Below G w w' → w'.cell? ⟨b, off + k * 3, none⟩ = some (.int .i64 fi) ∧ w'.cell? ⟨b, off + k * 3 + 1, none⟩ = some (.int .i64 fp) ∧ w'.cell? ⟨b, off + k * 3 + 2, none⟩ = some (.string fd) := fun w' h =>
          ⟨(h.cell (p := ⟨b, off + k * 3, none⟩) hbb).trans c0, (h.cell (p := ⟨b, off + k * 3 + 1, none⟩) hbb).trans c1, (h.cell (p := ⟨b, off + k * 3 + 2, none⟩) hbb).trans c2⟩
        have HF := Lib.hid hfc
        obtain ⟨R, hR⟩ : ∃ R, R = muxPut ss fi fp fd.data.toList := ⟨_, rfl⟩
        have hl2 : R.2.length = 4 := by rw [hR, muxPut_len]; exact hlen.out
        have hr2 : ∀ s ∈ R.2, s.read ≤ 200 := by rw [hR]; exact muxPut_read _ _ _ hrd.out
        obtain ⟨c, tt⟩ := R
        simp only at hl2 hr2
        have HRE := Lib.hid hR
        have HL2 := Lib.hid hl2
        have HR2 := Lib.hid hr2
        clear hx hbb c0 c1 c2 hfc hR hl2 hr2
        go_upto_region 6 with fail
        go_cut [8, 9] (fun s8 s9 wx => ∃ (gy : Nat) (yd : Value), s8 = .pointer (some ⟨gy, 0, none⟩) ∧ s9 = .int .i64 c ∧ Sep G wx (xE g gx ss (.slice da dn dc) (.slice ra rn rc') yd (.slice ra rn rc') tt [Ent.blk1 gy 39 [yd, .slice ra rn rc']]) ∧ Below G w wx)
        case first =>
          obtain ⟨x0, x1⟩ := (x_cells HS3.out.drew).1
          have HK0 := Lib.hid (And.intro x0 (And.intro x1 (HF.out _ HB3.out.drew)))
          clear x0 x1
          have hro := refPut_any G (.slice da dn dc) (.slice ra rn rc') ss _ fi fp fd w3.drew hgx hlen.out HS3.out.drew hg3
          rw [← HRE.out] at hro
          simp only at hro
          have HRO := Lib.hid hro
          clear hro
          refine wp_region_held_drew (S := fun w' => w'.cell? ⟨gx, 0, none⟩ = some (.slice da dn dc) ∧ w'.cell? ⟨gx, 1, none⟩ = some (.slice ra rn rc') ∧ w'.cell? ⟨b, off + k * 3, none⟩ = some (.int .i64 fi) ∧ w'.cell? ⟨b, off + k * 3 + 1, none⟩ = some (.int .i64 fp) ∧ w'.cell? ⟨b, off + k * 3 + 2, none⟩ = some (.string fd)) (by kernel_rfl) ?hS0 (fun hHeld => ?start0)
          case hS0 => exact HK0.out
          refine wpAnyH_take (i := 0) (v := ?va0) rfl (by kernel_rfl) (by kernel_rfl) (by kernel_rfl) (fun _ _ _ h => h) (Or.inl ⟨by rfl, ?hya0⟩) (by assumption) ?resta0
          case hya0 =>
            intro w hSw
            try dsimp only at hSw
            go_simp
            try with_reducible rfl
          try simp only [Act.put, List.setIfInBounds_toArray, List.set_cons_zero, List.set_cons_succ, List.getElem_toArray, List.getElem_cons_zero]
          refine wpAnyH_take (i := 1) (v := ?va1) rfl (by kernel_rfl) (by kernel_rfl) (by kernel_rfl) (fun _ _ _ h => h) (Or.inl ⟨by rfl, ?hya1⟩) (by assumption) ?resta1
          case hya1 =>
            intro w hSw
            try dsimp only at hSw
            go_simp
            try with_reducible rfl
          try simp only [Act.put, List.setIfInBounds_toArray, List.set_cons_zero, List.set_cons_succ, List.getElem_toArray, List.getElem_cons_zero, List.getElem_cons_succ]
          refine wpAnyH_take (i := 2) (v := ?va2) rfl (by kernel_rfl) (by kernel_rfl) (by kernel_rfl) (fun _ _ _ h => h) (Or.inl ⟨by rfl, ?hya2⟩) (by assumption) ?resta2
          case hya2 =>
            intro w hSw
            try dsimp only at hSw
            go_simp
            try with_reducible rfl
          try simp only [Act.put, List.setIfInBounds_toArray, List.set_cons_zero, List.set_cons_succ, List.getElem_toArray, List.getElem_cons_zero, List.getElem_cons_succ]
          refine wpAnyH_take (i := 3) (v := ?va3) rfl (by kernel_rfl) (by kernel_rfl) (by kernel_rfl) (fun _ _ _ h => h) (Or.inl ⟨by rfl, ?hya3⟩) (by assumption) ?resta3
          case hya3 =>
            intro w hSw
            try dsimp only at hSw
            go_simp
            try with_reducible rfl
          try simp only [Act.put, List.setIfInBounds_toArray, List.set_cons_zero, List.set_cons_succ, List.getElem_toArray, List.getElem_cons_zero, List.getElem_cons_succ]
          refine wpAnyH_take (i := 4) (v := ?va4) rfl (by kernel_rfl) (by kernel_rfl) (by kernel_rfl) (fun _ _ _ h => h) (Or.inl ⟨by rfl, ?hya4⟩) (by assumption) ?resta4
          case hya4 =>
            intro w hSw
            try dsimp only at hSw
            go_simp
            try with_reducible rfl
          try simp only [Act.put, List.setIfInBounds_toArray, List.set_cons_zero, List.set_cons_succ, List.getElem_toArray, List.getElem_cons_zero, List.getElem_cons_succ]
          refine wpAnyH_ready (rs := [5, 9]) (by kernel_rfl) (by simp) ?_
          refine AllReadyH.cons rfl (fun K hK => ?_) (AllReadyH.cons rfl (fun K hK => ?_) AllReadyH.nil)
          · go_simp
            refine HRO.out.mono ?_
            rintro e w4 ⟨yd, rfl, hs, hb⟩
            obtain ⟨⟨ya, yn, yc, rfl⟩, -⟩ := mx_any hs
            have ht4 : Sep G w4 (xE g gx ss (.slice da dn dc) (.slice ra rn rc') (.slice ya yn yc) (.slice ra rn rc') tt []) := hs
            have hb4 := HB3.out.drew.trans hb
            have hg4 : G ≤ w4.heap.size := by have := hb4.size; rw [← HG.out] at this; exact this
            obtain ⟨x0, x1⟩ := (x_cells ht4).1
            have HKa := Lib.hid (And.intro x0 (And.intro x1 (HF.out _ hb4)))
            have HT4 := Lib.hid ht4
            have HB4 := Lib.hid hb4
            clear hs hb ht4 hb4 x0 x1 HRO
            go_wp2_with fail
            refine hK.out _ _ ?_ (fun hHeldb0 => ?_)
            · exact HKa.out
            clear hK K
            try simp only [Act.put, List.setIfInBounds_toArray, List.set_cons_zero, List.set_cons_succ, List.getElem_toArray, List.getElem_cons_zero, List.getElem_cons_succ]
            refine wpAnyH_take (i := 6) (v := ?vb6) rfl (by kernel_rfl) (by kernel_rfl) (by kernel_rfl) (fun _ _ _ h => h) (Or.inl ⟨by rfl, ?hyb6⟩) (by assumption) ?restb6
            case hyb6 =>
              intro w hSw
              try dsimp only at hSw
              go_simp
              try with_reducible rfl
            try simp only [Act.put, List.setIfInBounds_toArray, List.set_cons_zero, List.set_cons_succ, List.getElem_toArray, List.getElem_cons_zero, List.getElem_cons_succ]
            refine wpAnyH_take (i := 7) (v := ?vb7) rfl (by kernel_rfl) (by kernel_rfl) (by kernel_rfl) (fun _ _ _ h => h) (Or.inl ⟨by rfl, ?hyb7⟩) (by assumption) ?restb7
            case hyb7 =>
              intro w hSw
              try dsimp only at hSw
              go_simp
              try with_reducible rfl
            try simp only [Act.put, List.setIfInBounds_toArray, List.set_cons_zero, List.set_cons_succ, List.getElem_toArray, List.getElem_cons_zero, List.getElem_cons_succ]
            refine wpAnyH_take (i := 8) (v := ?vb8) rfl (by kernel_rfl) (by kernel_rfl) (by kernel_rfl) (fun _ _ _ h => h) (Or.inl ⟨by rfl, ?hyb8⟩) (by assumption) ?restb8
            case hyb8 =>
              intro w hSw
              try dsimp only at hSw
              go_simp
              try with_reducible rfl
            try simp only [Act.put, List.setIfInBounds_toArray, List.set_cons_zero, List.set_cons_succ, List.getElem_toArray, List.getElem_cons_zero, List.getElem_cons_succ]
            have ht5 := HT4.out.kept (below_alloc w4 (.cells #[.slice none 0 0, .slice none 0 0] 39))
            have hb5 := HB4.out.alloc hg4 (.cells #[.slice none 0 0, .slice none 0 0] 39)
            obtain ⟨x0, x1⟩ := (x_cells ht5).1
            have HKb := Lib.hid (And.intro x0 (And.intro x1 (HF.out _ hb5)))
            have ht6 := x_new HT4.out hg4 #[.slice ya yn yc, .slice ra rn rc'] 39
            have hb6 := HB4.out.alloc hg4 (.cells #[.slice ya yn yc, .slice ra rn rc'] 39)
            clear x0 x1
            obtain ⟨x0, x1⟩ := (x_cells ht6).1
            have HKc := Lib.hid (And.intro x0 (And.intro x1 (HF.out _ hb6)))
            have HT6 := Lib.hid ht6
            have HB6 := Lib.hid hb6
            clear ht5 hb5 ht6 hb6 x0 x1
            refine wpAnyH_ready (rs := [9]) (by kernel_rfl) (by simp) ?_
            refine AllReadyH.cons rfl (fun K hK => ?_) AllReadyH.nil
            go_simp
            refine hK.out _ _ ?_ (fun hHeldb1 => ?_)
            · exact HKb.out
            clear hK K
            try simp only [Act.put, List.setIfInBounds_toArray, List.set_cons_zero, List.set_cons_succ, List.getElem_toArray, List.getElem_cons_zero, List.getElem_cons_succ]
            refine wpAnyH_ready (rs := [10]) (by kernel_rfl) (by simp) ?_
            refine AllReadyH.cons rfl (fun K hK => ?_) AllReadyH.nil
            go_simp
            refine hK.out _ _ ?_ (fun hHeldb2 => ?_)
            · exact HKc.out
            clear hK K
            try simp only [Act.put, List.setIfInBounds_toArray, List.set_cons_zero, List.set_cons_succ, List.getElem_toArray, List.getElem_cons_zero, List.getElem_cons_succ]
            refine wpAnyH_ready (rs := [11]) (by kernel_rfl) (by simp) ?_
            refine AllReadyH.cons rfl (fun K hK => ?_) AllReadyH.nil
            go_simp
            refine hK.out _ _ ?_ (fun hHeldb3 => ?_)
            · exact HKc.out
            clear hK K
            try simp only [Act.put, List.setIfInBounds_toArray, List.set_cons_zero, List.set_cons_succ, List.getElem_toArray, List.getElem_cons_zero, List.getElem_cons_succ]
            refine wpAnyH_done (by kernel_rfl) ?_ _
            go_wp2_with fail
            go_meet
            exact ⟨_, _, rfl, rfl, HT6.out, HB6.out⟩
          · go_simp
            have ht4 := (x_new HS3.out hg3 #[.slice none 0 0, .slice none 0 0] 39).drew
            have hb4 := (HB3.out.alloc hg3 (.cells #[.slice none 0 0, .slice none 0 0] 39)).drew
            obtain ⟨gy, hgy⟩ : ∃ gy, gy = w3.heap.size := ⟨_, rfl⟩
            rw [← hgy] at ht4 ⊢
            clear hgy HRO HS3 HB3 hg3
            generalize (w3.alloc (.cells #[.slice none 0 0, .slice none 0 0] 39)).drew = w4 at *
            have hg4 : G ≤ w4.heap.size := by have := hb4.size; rw [← HG.out] at this; exact this
            obtain ⟨x0, x1⟩ := (x_cells ht4).1
            have HKa := Lib.hid (And.intro x0 (And.intro x1 (HF.out _ hb4)))
            have hro := refPut_any G (.slice da dn dc) (.slice ra rn rc') ss _ fi fp fd w4 hgx hlen.out ht4 hg4
            rw [← HRE.out] at hro
            simp only at hro
            have HRO := Lib.hid hro
            have HB4 := Lib.hid hb4
            clear hro ht4 hb4 x0 x1
            refine hK.out _ _ ?_ (fun hHeldc0 => ?_)
            · exact HKa.out
            clear hK K
            try simp only [Act.put, List.setIfInBounds_toArray, List.set_cons_zero, List.set_cons_succ, List.getElem_toArray, List.getElem_cons_zero, List.getElem_cons_succ]
            refine wpAnyH_ready (rs := [5]) (by kernel_rfl) (by simp) ?_
            refine AllReadyH.cons rfl (fun K hK => ?_) AllReadyH.nil
            go_simp
            refine HRO.out.mono ?_
            rintro e w5 ⟨yd, rfl, hs, hb⟩
            obtain ⟨⟨ya, yn, yc, rfl⟩, -⟩ := mx_any hs
            have ht5 : Sep G w5 (xE g gx ss (.slice da dn dc) (.slice ra rn rc') (.slice ya yn yc) (.slice ra rn rc') tt [Ent.blk1 gy 39 [.slice none 0 0, .slice none 0 0]]) := hs
            have hb5 := HB4.out.trans hb
            obtain ⟨x0, x1⟩ := (x_cells ht5).1
            have HKb := Lib.hid (And.intro x0 (And.intro x1 (HF.out _ hb5)))
            obtain ⟨⟨y0, y1⟩, fy0, fy1⟩ := y_cells ht5
            obtain ⟨h9, b9⟩ := y_set (.slice ya yn yc) (.slice ra rn rc') ht5 hb5
            clear x0 x1
            obtain ⟨x0, x1⟩ := (x_cells h9).1
            have HKc := Lib.hid (And.intro x0 (And.intro x1 (HF.out _ b9)))
            have HT9 := Lib.hid h9
            have HB9 := Lib.hid b9
            clear hs hb ht5 hb5 h9 b9 x0 x1 HRO HB4
            go_wp2_with fail
            refine hK.out _ _ ?_ (fun hHeldc1 => ?_)
            · exact HKb.out
            clear hK K
            try simp only [Act.put, List.setIfInBounds_toArray, List.set_cons_zero, List.set_cons_succ, List.getElem_toArray, List.getElem_cons_zero, List.getElem_cons_succ]
            refine wpAnyH_take (i := 6) (v := ?vc6) rfl (by kernel_rfl) (by kernel_rfl) (by kernel_rfl) (fun _ _ _ h => h) (Or.inl ⟨by rfl, ?hyc6⟩) (by assumption) ?restc6
            case hyc6 =>
              intro w hSw
              try dsimp only at hSw
              go_simp
              try with_reducible rfl
            try simp only [Act.put, List.setIfInBounds_toArray, List.set_cons_zero, List.set_cons_succ, List.getElem_toArray, List.getElem_cons_zero, List.getElem_cons_succ]
            refine wpAnyH_take (i := 7) (v := ?vc7) rfl (by kernel_rfl) (by kernel_rfl) (by kernel_rfl) (fun _ _ _ h => h) (Or.inl ⟨by rfl, ?hyc7⟩) (by assumption) ?restc7
            case hyc7 =>
              intro w hSw
              try dsimp only at hSw
              go_simp
              try with_reducible rfl
            try simp only [Act.put, List.setIfInBounds_toArray, List.set_cons_zero, List.set_cons_succ, List.getElem_toArray, List.getElem_cons_zero, List.getElem_cons_succ]
            refine wpAnyH_take (i := 8) (v := ?vc8) rfl (by kernel_rfl) (by kernel_rfl) (by kernel_rfl) (fun _ _ _ h => h) (Or.inl ⟨by rfl, ?hyc8⟩) (by assumption) ?restc8
            case hyc8 =>
              intro w hSw
              try dsimp only at hSw
              go_simp
              try with_reducible rfl
            try simp only [Act.put, List.setIfInBounds_toArray, List.set_cons_zero, List.set_cons_succ, List.getElem_toArray, List.getElem_cons_zero, List.getElem_cons_succ]
            refine wpAnyH_ready (rs := [10]) (by kernel_rfl) (by simp) ?_
            refine AllReadyH.cons rfl (fun K hK => ?_) AllReadyH.nil
            go_simp
            refine hK.out _ _ ?_ (fun hHeldc2 => ?_)
            · exact HKc.out
            clear hK K
            try simp only [Act.put, List.setIfInBounds_toArray, List.set_cons_zero, List.set_cons_succ, List.getElem_toArray, List.getElem_cons_zero, List.getElem_cons_succ]
            refine wpAnyH_ready (rs := [11]) (by kernel_rfl) (by simp) ?_
            refine AllReadyH.cons rfl (fun K hK => ?_) AllReadyH.nil
            go_simp
            refine hK.out _ _ ?_ (fun hHeldc3 => ?_)
            · exact HKc.out
            clear hK K
            try simp only [Act.put, List.setIfInBounds_toArray, List.set_cons_zero, List.set_cons_succ, List.getElem_toArray, List.getElem_cons_zero, List.getElem_cons_succ]
            refine wpAnyH_done (by kernel_rfl) ?_ _
            go_wp2_with fail
            go_meet
            exact ⟨_, _, rfl, rfl, HT9.out, HB9.out⟩
        case rest =>
          obtain ⟨gy, yd, rfl, rfl, hsep, hbel⟩ := hcut
          clear HS3 HB3 hg3
          have HS4 := Lib.hid hsep
          have HB4 := Lib.hid hbel
          obtain ⟨w4, hw4⟩ : ∃ w4, w4 = wc := ⟨_, rfl⟩
          obtain rfl := hw4
          have hg4 : G ≤ w4.heap.size := by have := HB4.out.size; rw [← HG.out] at this; exact this
          clear hsep hbel
          obtain ⟨⟨ya, yn, yc, rfl⟩, -⟩ := mx_any HS4.out
          obtain ⟨⟨y0, y1⟩, -, -⟩ := y_cells HS4.out
          obtain ⟨⟨x0, x1⟩, fx0, fx1⟩ := x_cells HS4.out
          obtain ⟨h5, b5⟩ := x_set (.slice ya yn yc) (.slice ra rn rc') HS4.out HB4.out
          have HS5 := Lib.hid h5
          have HB5 := Lib.hid b5
          clear h5 b5
          go_upto_region 8 with fail
          clear y0 y1 x0 x1 fx0 fx1 HS4 HB4 hg4
          generalize (w4.setCell ⟨gx, 0, none⟩ (.slice ya yn yc)).setCell ⟨gx, 1, none⟩ (.slice ra rn rc') = w5 at *
          have hg5 : G ≤ w5.heap.size := by have := HB5.out.size; rw [← HG.out] at this; exact this
          obtain ⟨c0, c1, c2⟩ := HF.out _ HB5.out
          have hmp := muxPut_any G g ss _ fi fp fd w5 hgx hlen.out (x_mux HS5.out) hg5
          rw [← HRE.out] at hmp
          simp only at hmp
          have HMP := Lib.hid hmp
          clear hmp
          go_wp2_with fail
          refine HMP.out.mono ?_
          rintro e w6 ⟨rfl, hsep, hb⟩
          have HS6 := Lib.hid (x_drop (x_mux' hsep))
          have HB6 := Lib.hid (HB5.out.trans hb)
          have hg6 : G ≤ w6.heap.size := by have := HB6.out.size; rw [← HG.out] at this; exact this
          rw [show errVal 64 c = errV c from rfl]
          clear hsep hb c0 c1 c2 HS5 HB5 hg5 HMP
          have HSM := Lib.hid (HSAME.out c w6 HB6.out)
          go_wp2_with fail
          refine HSM.out.mono ?_
          rintro e w7 ⟨rfl, hb⟩
          have HS7 := Lib.hid (HS6.out.kept hb)
          have HB7 := Lib.hid (HB6.out.trans (hb.mono hg6))
          have hg7 : G ≤ w7.heap.size := by have := HB7.out.size; rw [← HG.out] at this; exact this
          clear hb HS6 HB6 hg6 HSM HRE HF hgx
          go_upto_if 49 with fail
          go_cut [] (fun wx => ∃ (vd vr : Value) (ss : List Str), Hid (ss.length = 4) ∧ Hid (∀ s ∈ ss, s.read ≤ 200) ∧ Sep G wx (xE g gx ss vd vr vd vr ss []) ∧ Below G w wx)
          case first =>
            by_cases hlr : k < rs.length
            · have hkr : (k : Int) < (rs.length : Int) := by omega
              obtain ⟨rd, hrk⟩ : ∃ x, rs[k]? = some x := ⟨_, List.getElem?_eq_getElem hlr⟩
              obtain ⟨br, or, rfl, hbr, cr⟩ := HI.out k rd hrk
              have hrc : ∀ w', Below G w w' → w'.cell? ⟨br, or + k, none⟩ = some (.int .i64 rd) := fun w' h => (h.cell (p := ⟨br, or + k, none⟩) hbr).trans cr
              have HR := Lib.hid hrc
              have r0 := hrc _ HB7.out
              clear hrc hbr cr hrk
              by_cases hin : 0 ≤ rd ∧ rd ≤ 3
              · obtain ⟨m, rfl⟩ := Int.eq_ofNat_of_zero_le hin.1
                obtain ⟨hi0, hi3⟩ := hin
                have hm : m < 4 := by omega
                obtain ⟨s, hs⟩ : ∃ s, tt[m]? = some s := ⟨_, List.getElem?_eq_getElem (by rw [HL2.out]; exact hm)⟩
                have hrs := HR2.out s (List.mem_iff_getElem?.2 ⟨m, hs⟩)
                have HSN := Lib.hid hs
                clear hs
                go_wp2_with fail
                refine (in4_yes _ _ _ _ hi0 hi3).mono ?_
                rintro e w' ⟨rfl, rfl⟩
                go_upto_region 15 with fail
                have hnx := refNext_any G (.slice ya yn yc) (.slice ra rn rc') tt _ m s w7.drew HS7.out.drew HSN.out hm HL2.out hrs hg7
                have HNX := Lib.hid hnx
                clear hnx r0
                refine wp_region_held_drew (S := fun w' => w'.cell? ⟨br, or + k, none⟩ = some (.int .i64 (m : Int))) (by kernel_rfl) ?hS1 (fun hHeld => ?start1)
                case hS1 => exact HR.out _ HB7.out.drew
                refine wpAnyH_take (i := 1) (v := ?vd1) rfl (by kernel_rfl) (by kernel_rfl) (by kernel_rfl) (fun _ _ _ h => h) (Or.inl ⟨by rfl, ?hyd1⟩) (by assumption) ?restd1
                case hyd1 =>
                  intro w hSw
                  try dsimp only at hSw
                  go_simp
                  try with_reducible rfl
                try simp only [Act.put, List.setIfInBounds_toArray, List.set_cons_zero, List.set_cons_succ, List.getElem_toArray, List.getElem_cons_zero]
                refine wpAnyH_take (i := 2) (v := ?vd2) rfl (by kernel_rfl) (by kernel_rfl) (by kernel_rfl) (fun _ _ _ h => h) (Or.inl ⟨by rfl, ?hyd2⟩) (by assumption) ?restd2
                case hyd2 =>
                  intro w hSw
                  try dsimp only at hSw
                  go_simp
                  try with_reducible rfl
                try simp only [Act.put, List.setIfInBounds_toArray, List.set_cons_zero, List.set_cons_succ, List.getElem_toArray, List.getElem_cons_zero, List.getElem_cons_succ]
                refine wpAnyH_take (i := 3) (v := ?vd3) rfl (by kernel_rfl) (by kernel_rfl) (by kernel_rfl) (fun _ _ _ h => h) (Or.inl ⟨by rfl, ?hyd3⟩) (by assumption) ?restd3
                case hyd3 =>
                  intro w hSw
                  try dsimp only at hSw
                  go_simp
                  try with_reducible rfl
                try simp only [Act.put, List.setIfInBounds_toArray, List.set_cons_zero, List.set_cons_succ, List.getElem_toArray, List.getElem_cons_zero, List.getElem_cons_succ]
                refine wpAnyH_take (i := 4) (v := ?vd4) rfl (by kernel_rfl) (by kernel_rfl) (by kernel_rfl) (fun _ _ _ h => h) (Or.inl ⟨by rfl, ?hyd4⟩) (by assumption) ?restd4
                case hyd4 =>
                  intro w hSw
                  try dsimp only at hSw
                  go_simp
                  try with_reducible rfl
                try simp only [Act.put, List.setIfInBounds_toArray, List.set_cons_zero, List.set_cons_succ, List.getElem_toArray, List.getElem_cons_zero, List.getElem_cons_succ]
                obtain ⟨x0, x1⟩ := (x_cells HS7.out).1
                refine wpAnyH_ready (rs := [0]) (by kernel_rfl) (by simp) ?_
                refine AllReadyH.cons rfl (fun K hK => ?_) AllReadyH.nil
                go_simp
                refine hK.out _ _ ?_ (fun hHeldd0 => ?_)
                · exact HR.out _ HB7.out.drew
                clear hK K
                try simp only [Act.put, List.setIfInBounds_toArray, List.set_cons_zero, List.set_cons_succ, List.getElem_toArray, List.getElem_cons_zero, List.getElem_cons_succ]
                refine wpAnyH_ready (rs := [5]) (by kernel_rfl) (by simp) ?_
                refine AllReadyH.cons rfl (fun K hK => ?_) AllReadyH.nil
                go_simp
                refine HNX.out.mono ?_
                rintro e w8 ⟨vn, rfl, hs, hb⟩
                obtain ⟨-, na, nn, nc, rfl⟩ := mx_any hs
                have ht8 : Sep G w8 (xE g gx tt (.slice ya yn yc) (.slice ra rn rc') (.slice ya yn yc) (.slice na nn nc) (tt.set m ⟨s.came, s.next⟩) []) := hs
                have hb8 := HB7.out.drew.trans hb
                obtain ⟨h9, b9⟩ := x_set (.slice ya yn yc) (.slice na nn nc) ht8 hb8
                clear x0 x1
                obtain ⟨⟨x0, x1⟩, fx0, fx1⟩ := x_cells ht8
                have HB8 := Lib.hid hb8
                have HT9 := Lib.hid h9
                have HB9 := Lib.hid b9
                obtain ⟨tx, htx⟩ : ∃ tx : ByteArray, tx = ⟨s.text.toArray⟩ := ⟨_, rfl⟩
                rw [← htx]
                have HTX := Lib.hid htx
                clear hs hb ht8 hb8 h9 b9 HNX HS7 htx
                go_wp2_with fail
                refine hK.out _ _ ?_ (fun hHeldd1 => ?_)
                · exact HR.out _ HB8.out
                clear hK K
                try simp only [Act.put, List.setIfInBounds_toArray, List.set_cons_zero, List.set_cons_succ, List.getElem_toArray, List.getElem_cons_zero, List.getElem_cons_succ]
                refine wpAnyH_take (i := 6) (v := ?ve6) rfl (by kernel_rfl) (by kernel_rfl) (by kernel_rfl) (fun _ _ _ h => h) (Or.inl ⟨by rfl, ?hye6⟩) (by assumption) ?reste6
                case hye6 =>
                  intro w hSw
                  try dsimp only at hSw
                  go_simp
                  try with_reducible rfl
                try simp only [Act.put, List.setIfInBounds_toArray, List.set_cons_zero, List.set_cons_succ, List.getElem_toArray, List.getElem_cons_zero, List.getElem_cons_succ]
                refine wpAnyH_take (i := 7) (v := ?ve7) rfl (by kernel_rfl) (by kernel_rfl) (by kernel_rfl) (fun _ _ _ h => h) (Or.inl ⟨by rfl, ?hye7⟩) (by assumption) ?reste7
                case hye7 =>
                  intro w hSw
                  try dsimp only at hSw
                  go_simp
                  try with_reducible rfl
                try simp only [Act.put, List.setIfInBounds_toArray, List.set_cons_zero, List.set_cons_succ, List.getElem_toArray, List.getElem_cons_zero, List.getElem_cons_succ]
                refine wpAnyH_take (i := 8) (v := ?ve8) rfl (by kernel_rfl) (by kernel_rfl) (by kernel_rfl) (fun _ _ _ h => h) (Or.inl ⟨by rfl, ?hye8⟩) (by assumption) ?reste8
                case hye8 =>
                  intro w hSw
                  try dsimp only at hSw
                  go_simp
                  try with_reducible rfl
                try simp only [Act.put, List.setIfInBounds_toArray, List.set_cons_zero, List.set_cons_succ, List.getElem_toArray, List.getElem_cons_zero, List.getElem_cons_succ]
                refine wpAnyH_ready (rs := [9]) (by kernel_rfl) (by simp) ?_
                refine AllReadyH.cons rfl (fun K hK => ?_) AllReadyH.nil
                go_simp
                refine hK.out _ _ ?_ (fun hHeldd2 => ?_)
                · exact HR.out _ HB9.out
                clear hK K
                try simp only [Act.put, List.setIfInBounds_toArray, List.set_cons_zero, List.set_cons_succ, List.getElem_toArray, List.getElem_cons_zero, List.getElem_cons_succ]
                refine wpAnyH_ready (rs := [10]) (by kernel_rfl) (by simp) ?_
                refine AllReadyH.cons rfl (fun K hK => ?_) AllReadyH.nil
                go_simp
                refine hK.out _ _ ?_ (fun hHeldd3 => ?_)
                · exact HR.out _ HB9.out
                clear hK K
                try simp only [Act.put, List.setIfInBounds_toArray, List.set_cons_zero, List.set_cons_succ, List.getElem_toArray, List.getElem_cons_zero, List.getElem_cons_succ]
                refine wpAnyH_done (by kernel_rfl) ?_ _
                clear x0 x1 fx0 fx1 HB7 HB8 hg7
                generalize (w8.setCell ⟨gx, 0, none⟩ (.slice ya yn yc)).setCell ⟨gx, 1, none⟩ (.slice na nn nc) = w9 at *
                have hg9 : G ≤ w9.heap.size := by have := HB9.out.size; rw [← HG.out] at this; exact this
                have r0 := HR.out _ HB9.out
                have hmr := muxRead_ok G g tt _ m s w9 hm HSN.out hrs (x_mux HT9.out) hg9
                rw [← HTX.out] at hmr
                have HMR := Lib.hid hmr
                clear hmr
                go_wp2_with fail
                refine HMR.out.mono ?_
                rintro e w10 ⟨rfl, hs, hb⟩
                have HT10 := Lib.hid (x_mux' hs)
                have HB10 := Lib.hid (HB9.out.trans hb)
                have hg10 : G ≤ w10.heap.size := by have := HB10.out.size; rw [← HG.out] at this; exact this
                have hsm := HSAME.out 0 w10 HB10.out
                rw [errV_zero] at hsm
                have HSM := Lib.hid hsm
                clear hs hb hsm HMR r0 HT9 HB9 hg9
                go_wp2_with fail
                refine HSM.out.mono ?_
                rintro e w11 ⟨rfl, hb⟩
                have HT11 := Lib.hid (HT10.out.kept hb)
                have HB11 := Lib.hid (HB10.out.trans (hb.mono hg10))
                clear hb HT10 HB10 hg10 HSM
                go_wp2_with fail
                go_meet
                exact ⟨_, _, _, Lib.hid (by rw [List.length_set]; exact HL2.out), Lib.hid (set_read HR2.out HSN.out), HT11.out, HB11.out⟩
              · have HNI := Lib.hid hin
                clear hin
                go_wp2_with fail
                refine (in4_no _ _ _ _ HNI.out).mono ?_
                rintro e w' ⟨rfl, rfl⟩
                go_wp2_with fail
                refine (muxRead_no _ _ _ HNI.out).mono ?_
                rintro e w' ⟨rfl, rfl⟩
                have hsm := HSAME.out 1 w7 HB7.out
                rw [errV_not (by decide : ¬ (1 : Int) = 0)] at hsm
                have HSM := Lib.hid hsm
                clear hsm r0
                go_wp2_with fail
                refine HSM.out.mono ?_
                rintro e w11 ⟨rfl, hb⟩
                have HT11 := Lib.hid (HS7.out.kept hb)
                have HB11 := Lib.hid (HB7.out.trans (hb.mono hg7))
                clear hb HS7 HB7 hg7 HSM
                go_wp2_with fail
                go_meet
                exact ⟨_, _, tt, Lib.hid HL2.out, Lib.hid HR2.out, HT11.out, HB11.out⟩
            · have hkr : decide ((k : Int) < (rs.length : Int)) = false := decide_eq_false (by omega)
              have hkr2 : decide (k < rs.length) = false := decide_eq_false hlr
              go_wp2_with fail
              go_meet
              exact ⟨_, _, tt, Lib.hid HL2.out, Lib.hid HR2.out, HS7.out, HB7.out⟩
          case rest =>
            clear HS7 HB7 hg7 HL2 HR2
            obtain ⟨vd, vr, ss, hlen, hrd, hsep, hbel⟩ := hcut
            have HS4 := Lib.hid hsep
            have HB4 := Lib.hid hbel
            obtain ⟨w4, hw4⟩ : ∃ w4, w4 = wc := ⟨_, rfl⟩
            obtain rfl := hw4
            clear hsep hbel
            go_wp2
            go_loopg [14] 4 (fun gk nv wr => ∃ n : Nat, gk + n = 4 ∧ nv = .int .i64 n ∧ Sep G wr (xE g gx ss vd vr vd vr ss []) ∧ Below G w wr)
            case atStart => exact ⟨0, rfl, rfl, HS4.out, HB4.out⟩
            case round =>
              obtain ⟨gj, rfl⟩ : ∃ gj, gj = gk := ⟨_, rfl⟩
              obtain ⟨n, hgn, rfl, hsep, hbel⟩ := hrel
              clear HS4 HB4
              have HS5 := Lib.hid hsep
              have HB5 := Lib.hid hbel
              obtain ⟨w5, hw5⟩ : ∃ w5, w5 = wr := ⟨_, rfl⟩
              obtain rfl := hw5
              have hg5 : G ≤ w5.heap.size := by have := HB5.out.size; rw [← HG.out] at this; exact this
              clear hsep hbel
              by_cases hn : n < 4
              · have hd4 : decide ((n : Int) < 4) = true := decide_eq_true (by omega)
                obtain ⟨s, hs⟩ : ∃ s, ss[n]? = some s := ⟨_, List.getElem?_eq_getElem (by rw [hlen.out]; exact hn)⟩
                have hrs := hrd.out s (List.mem_iff_getElem?.2 ⟨n, hs⟩)
                have HSN := Lib.hid hs
                have HK0 := Lib.hid (x_cells HS5.out.drew).1
                obtain ⟨wt, hwt⟩ : ∃ wt, wt = s.waits := ⟨_, rfl⟩
                have HWT := Lib.hid hwt
                have hne : ((wt : Int) != (wt : Int)) = false := by simp
                clear hs hwt
                go_upto_region 22 with fail
                refine wp_region_held_drew (S := fun w' => w'.cell? ⟨gx, 0, none⟩ = some vd ∧ w'.cell? ⟨gx, 1, none⟩ = some vr) (by kernel_rfl) ?hSw (fun hHeld => ?startw)
                case hSw => exact HK0.out
                refine wpAnyH_take (i := 0) (v := ?vw0) rfl (by kernel_rfl) (by kernel_rfl) (by kernel_rfl) (fun _ _ _ h => h) (Or.inl ⟨by rfl, ?hyw0⟩) (by assumption) ?restw0
                case hyw0 =>
                  intro w hSw
                  try dsimp only at hSw
                  go_simp
                  try with_reducible rfl
                try simp only [Act.put, List.setIfInBounds_toArray, List.set_cons_zero, List.set_cons_succ, List.getElem_toArray, List.getElem_cons_zero]
                refine wpAnyH_take (i := 1) (v := ?vw1) rfl (by kernel_rfl) (by kernel_rfl) (by kernel_rfl) (fun _ _ _ h => h) (Or.inl ⟨by rfl, ?hyw1⟩) (by assumption) ?restw1
                case hyw1 =>
                  intro w hSw
                  try dsimp only at hSw
                  go_simp
                  try with_reducible rfl
                try simp only [Act.put, List.setIfInBounds_toArray, List.set_cons_zero, List.set_cons_succ, List.getElem_toArray, List.getElem_cons_zero, List.getElem_cons_succ]
                refine wpAnyH_take (i := 3) (v := ?vw3) rfl (by kernel_rfl) (by kernel_rfl) (by kernel_rfl) (fun _ _ _ h => h) (Or.inl ⟨by rfl, ?hyw3⟩) (by assumption) ?restw3
                case hyw3 =>
                  intro w hSw
                  try dsimp only at hSw
                  go_simp
                  try with_reducible rfl
                try simp only [Act.put, List.setIfInBounds_toArray, List.set_cons_zero, List.set_cons_succ, List.getElem_toArray, List.getElem_cons_zero, List.getElem_cons_succ]
                refine wpAnyH_take (i := 4) (v := ?vw4) rfl (by kernel_rfl) (by kernel_rfl) (by kernel_rfl) (fun _ _ _ h => h) (Or.inl ⟨by rfl, ?hyw4⟩) (by assumption) ?restw4
                case hyw4 =>
                  intro w hSw
                  try dsimp only at hSw
                  go_simp
                  try with_reducible rfl
                try simp only [Act.put, List.setIfInBounds_toArray, List.set_cons_zero, List.set_cons_succ, List.getElem_toArray, List.getElem_cons_zero, List.getElem_cons_succ]
                refine wpAnyH_ready (rs := [2]) (by kernel_rfl) (by simp) ?_
                refine AllReadyH.cons rfl (fun K hK => ?_) AllReadyH.nil
                go_simp
                refine (muxWaits_ok G g ss _ n s w5.drew hn HSN.out hrs (x_mux HS5.out.drew)).mono ?_
                rintro e w6 ⟨rfl, hd⟩
                have hb := below_of_drew hd
                have HS6 := Lib.hid (HS5.out.drew.kept hb)
                have HB6 := Lib.hid (HB5.out.drew.trans (hb.mono hg5))
                have HKa := Lib.hid (x_cells HS6.out).1
                have hg6 : G ≤ w6.heap.size := by have := HB6.out.size; rw [← HG.out] at this; exact this
                clear hd hb
                go_wp2_with fail
                refine hK.out _ _ ?_ (fun hHeldw0 => ?_)
                · exact HKa.out
                clear hK K
                try simp only [Act.put, List.setIfInBounds_toArray, List.set_cons_zero, List.set_cons_succ, List.getElem_toArray, List.getElem_cons_zero, List.getElem_cons_succ]
                refine wpAnyH_ready (rs := [5]) (by kernel_rfl) (by simp) ?_
                refine AllReadyH.cons rfl (fun K hK => ?_) AllReadyH.nil
                go_simp
                refine (refWaits_any G vd vr ss _ n s w6 HS6.out HSN.out hn hrs).mono ?_
                rintro e w7 ⟨rfl, hb⟩
                have HS7 := Lib.hid (HS6.out.kept hb)
                have HB7 := Lib.hid (HB6.out.trans (hb.mono hg6))
                have HKb := Lib.hid (x_cells HS7.out).1
                rw [← HWT.out]
                clear hb
                go_wp2_with fail
                refine hK.out _ _ ?_ (fun hHeldw1 => ?_)
                · exact HKb.out
                clear hK K
                try simp only [Act.put, List.setIfInBounds_toArray, List.set_cons_zero, List.set_cons_succ, List.getElem_toArray, List.getElem_cons_zero, List.getElem_cons_succ]
                refine wpAnyH_ready (rs := [6]) (by kernel_rfl) (by simp) ?_
                refine AllReadyH.cons rfl (fun K hK => ?_) AllReadyH.nil
                go_simp
                refine hK.out _ _ ?_ (fun hHeldw2 => ?_)
                · exact HKb.out
                clear hK K
                try simp only [Act.put, List.setIfInBounds_toArray, List.set_cons_zero, List.set_cons_succ, List.getElem_toArray, List.getElem_cons_zero, List.getElem_cons_succ]
                refine wpAnyH_done (by kernel_rfl) ?_ _
                clear HS5 HB5 hg5 HS6 HB6 hg6 HK0 HKa HKb
                go_wp2
                go_roundg (gj - 1)
                case measure => omega
                case rel => exact ⟨n + 1, by omega, by go_num, HS7.out, HB7.out⟩
              · have hd4 : decide ((n : Int) < 4) = false := decide_eq_false (by omega)
                go_wp2
                go_roundg (gi - 1)
                case measure => omega
                case rel => exact ⟨k + 1, _, _, _, by omega, by go_num, hlen, hrd, HS5.out, HB5.out⟩
      · have hd30 : decide ((k : Int) < 30) = false := decide_eq_false (by omega)
        have hd31 : decide (k < 30) = false := decide_eq_false h30
        clear h30
        have hg3 : G ≤ w3.heap.size := by have := HB3.out.size; rw [← HG.out] at this; exact this
        go_wp2_with fail
        refine (muxWaits_no (some ⟨g, 0, none⟩) (-1) _ (by decide)).mono ?_
        rintro e w' ⟨rfl, rfl⟩
        go_wp2_with fail
        refine (muxWaits_no (some ⟨g, 0, none⟩) 4 _ (by decide)).mono ?_
        rintro e w' ⟨rfl, rfl⟩
        go_wp2
        go_ret
        exact ⟨rfl, by have := HB3.out; rw [HG.out] at this; exact this⟩
    · have hki : decide ((k : Int) < (fs.length : Int)) = false := decide_eq_false (by omega)
      have hki2 : decide (k < fs.length) = false := decide_eq_false hlt
      clear hlt
      have hg3 : G ≤ w3.heap.size := by have := HB3.out.size; rw [← HG.out] at this; exact this
      go_wp2_with fail
      refine (muxWaits_no (some ⟨g, 0, none⟩) (-1) _ (by decide)).mono ?_
      rintro e w' ⟨rfl, rfl⟩
      go_wp2_with fail
      refine (muxWaits_no (some ⟨g, 0, none⟩) 4 _ (by decide)).mono ?_
      rintro e w' ⟨rfl, rfl⟩
      go_wp2
      go_ret
      exact ⟨rfl, by have := HB3.out; rw [HG.out] at this; exact this⟩
end Go.Proofs.YthnlpmjfibidcaaDoor
