/- spf.From where nothing is wrong: the distances, and the first hops. -/
import Derived.Test.YtnmddgjgmdegoaaDoorFrom
import Derived.Test.YtnmddgjgmdegoaaDoorIdx2
import Derived.Deep.DeepCutAuto
namespace Go.Proofs.YtnmddgjgmdegoaaDoor
open Go.RowKit
set_option linter.unusedVariables false

theorem from_start {B : Nat} {w : World} {n o : Nat} {vf vh : Value} {gd : Nat} (hn : 1 ≤ n) (ho : o < n) (hsep : Sep B w [Ent.row (.slice (some ⟨gd, 0, none⟩) n n) n 1 4 (madeCells #[Value.bool false] n).toList, Ent.ints 3 vh (List.replicate n (-1)), Ent.ints 3 vf (List.replicate n 1000)]) :
    ∃ gf fo cf gh ho' ch, vf = .slice (some ⟨gf, fo, none⟩) n cf ∧ vh = .slice (some ⟨gh, ho', none⟩) n ch ∧ n ≤ cf ∧ n ≤ ch ∧ B ≤ gf ∧
      w.cell? ⟨gf, fo + o, none⟩ = some (.int .i64 1000) ∧ w.frozen? ⟨gf, fo + o, none⟩ = false ∧ Sep B (w.setCell ⟨gf, fo + o, none⟩ (.int .i64 0)) (dRows gf fo cf gh ho' ch gd n (dij0 o)) := by
  have hp : Sep B w ([] ++ Ent.ints 3 vf (List.replicate n 1000) :: [Ent.ints 3 vh (List.replicate n (-1)), Ent.row (.slice (some ⟨gd, 0, none⟩) n n) n 1 4 (madeCells #[Value.bool false] n).toList]) :=
    hsep.perm (by
      refine (List.perm_append_comm (l₁ := [_]) (l₂ := [_, _])).trans ?_
      exact List.Perm.append_right [_] (List.Perm.swap _ _ _))
  obtain ⟨af, cf, rfl, hcf, _⟩ := hp.intsShape
  obtain ⟨ah, ch, rfl, hch, _⟩ := Sep.intsShape (A := [_]) hp
  simp only [List.length_replicate] at hcf hch hp ⊢
  rw [arr_const, arr_const, made_false] at hp
  have hp2 := hp
  obtain ⟨gf, fo, rfl, hg, c1, c2, hset⟩ := arrI_at (A := []) hp ho
  rw [List.nil_append] at hp2
  have hp3 : Sep B w ([Ent.ints 3 (.slice (some ⟨gf, fo, none⟩) n cf) (arr (fun _ => (1000 : Int)) n)] ++ Ent.ints 3 (.slice ah n ch) (arr (fun _ => (-1 : Int)) n) :: [Ent.row (.slice (some ⟨gd, 0, none⟩) n n) n 1 4 (arr (fun _ => Value.bool false) n)]) := hp2
  obtain ⟨gh, ho', rfl, _, _, _, _⟩ := arrI_at hp3 ho
  exact ⟨gf, fo, cf, gh, ho', ch, rfl, rfl, hcf, hch, hg, c1, c2, hset 0⟩

theorem pickD_yes {s : Dij} {k : Nat} (h1 : s.done k = false) (h2 : s.far k < 1000) (h3 : pickD s k < 0 ∨ s.far k < s.far (pickD s k).toNat) : pickD s (k + 1) = (k : Int) := by
  show (if _ then _ else _) = _
  rw [if_pos ⟨h1, h2, h3⟩]
theorem pickD_no {s : Dij} {k : Nat} (h : ¬ (s.done k = false ∧ s.far k < 1000 ∧ (pickD s k < 0 ∨ s.far k < s.far (pickD s k).toNat))) : pickD s (k + 1) = pickD s k := by
  show (if _ then _ else _) = _
  rw [if_neg h]

set_option maxHeartbeats 8000000 in
set_option maxRecDepth 100000 in
theorem from_ok (n : Nat) (ao : Option Addr) (len ac B0 : Nat) (L : List Lnk) (o : Nat) (w : World) (hA : RowSl B0 w ao 3 (L.map lnkC)) (hlen : len = L.length) (hB : B0 ≤ w.heap.size) (hok : VOk n L) (ho : o < n) :
    Calls Tryd.prog 37 #[.int .i64 n, .slice ao len ac, .int .i64 o] w fun e w' => ∃ vf vh hf, e = .returned (.tuple #[vf, vh, .nilIface]) ∧ (∀ v, v < n → IsHop n (edges L) o v (hf v)) ∧
      Sep w.heap.size w' [Ent.ints 3 vf (arr (far (edges L) o) n), Ent.ints 3 vh (arr hf n)] ∧ Below w.heap.size w w' := by
  subst hlen
  have hn1 := hok.n1
  have hn8 := hok.n8
  have hl32 := hok.few
  have HA := Lib.hid hA; clear hA
  have HOK := Lib.hid hok; clear hok
  obtain ⟨g, hg⟩ : ∃ g, g = w.heap.size := ⟨_, rfl⟩
  have hB0 : B0 ≤ g := by omega
  have HG := Lib.hid hg; clear hg
  have hoi : (o : Int) ≤ (n : Int) - 1 := by omega
  have hoi0 : (0 : Int) ≤ (o : Int) := by omega
  have hoin : (o : Int) < (n : Int) := by omega
  go_enter Tryd.func37, Tryd.ntmps37
  go_wp2_with fail
  refine (vCheck_any _ _ _ _ _ L _ HA.out rfl (by omega) hB).mono ?_
  rintro e w1 ⟨rfl, hb⟩
  rw [vCode_nat.2 HOK.out, errV_zero]
  have HB1 := Lib.hid (show Below g w w1 by rw [HG.out]; exact hb); clear hb
  have hg1 : g ≤ w1.heap.size := by have := HB1.out.size; rw [← HG.out] at this; exact this
  go_wp2_with fail
  refine (within_yes _ _ _ _ hoi0 hoi).mono ?_
  rintro e w' ⟨rfl, rfl⟩
  go_wp2_with fail
  have hsz1 : (w1.alloc (.cells #[.int .i64 1000] 3)).heap.size = w1.heap.size + 1 := by simp
  refine (repeat_any _ 1 (w1.heap.size + 1) 1000 n _ (intSl_new w1 #[.int .i64 1000] _ [1000] rfl) (by rw [hsz1]; exact Nat.le_refl _) ⟨hn1, hn8⟩).mono ?_
  rintro e w2 ⟨vf, rfl, hs2, hb2⟩
  have hs2 := hs2.mono (show g ≤ _ by rw [hsz1]; omega)
  have hb2 : Below g w w2 := (HB1.out.alloc hg1 _).trans (hb2.mono (by rw [hsz1]; omega))
  have HS2 := Lib.hid hs2
  have HB2 := Lib.hid hb2
  have hg2 : g ≤ w2.heap.size := by have := hb2.size; rw [← HG.out] at this; exact this
  clear hs2 hb2 hsz1
  go_wp2_with fail
  have hsz2 : (w2.alloc (.cells #[.int .i64 (-1)] 3)).heap.size = w2.heap.size + 1 := by simp
  refine (repeat_any _ 1 (w2.heap.size + 1) (-1) n _ (intSl_new w2 #[.int .i64 (-1)] _ [-1] rfl) (by rw [hsz2]; exact Nat.le_refl _) ⟨hn1, hn8⟩).mono ?_
  rintro e w3 ⟨vh, rfl, hs3, hb3⟩
  have hs3 := Sep.join (L := [_]) (HS2.out.alloc (.cells #[.int .i64 (-1)] 3)) (by rw [hsz2]; omega) hb3 hs3
  have hb3 : Below g w w3 := (HB2.out.alloc hg2 _).trans (hb3.mono (by rw [hsz2]; omega))
  have HS3 := Lib.hid hs3
  have HB3 := Lib.hid hb3
  have hg3 : g ≤ w3.heap.size := by have := hb3.size; rw [← HG.out] at this; exact this
  clear hs3 hb3 hsz2
  go_wp2_with (at_make; refine wpList_make_sep rfl _ _ rfl elemB .i64 .i64 n n n rfl rfl rfl rfl (by omega) (by unfold maxLen; omega) HS3.out hg3 ?_)
  intro w4 hs4 hb4 hsz4
  obtain ⟨gd, hgd⟩ : ∃ gd, gd = w3.heap.size := ⟨_, rfl⟩
  rw [← hgd] at hs4 ⊢
  have hb4 := HB3.out.trans (hb4.mono hg3)
  obtain ⟨gf, fo, cf, gh, ho', ch, rfl, rfl, hcf, hch, hgf, d1, d2, hset⟩ := from_start hn1 ho hs4
  have HS4 := Lib.hid hset
  have HB4 := Lib.hid (hb4.setCell (p := ⟨gf, fo + o, none⟩) hgf (.int .i64 0))
  have hg4 : g ≤ gd := by rw [hgd]; exact hg3
  clear hs4 hb4 hsz4 hset hgd HS3 HB3 HS2 HB2
  go_wp2
  have hstart : DAll n (edges L) o (dij0 o) := dall_begin ho
  have HD0 := Lib.hid hstart; clear hstart
  go_loopg [6, 7] n (fun gk vf vh wr => ∃ s, vf = .slice (some ⟨gf, fo, none⟩) n cf ∧ vh = .slice (some ⟨gh, ho', none⟩) n ch ∧ Hid (DAll n (edges L) o s) ∧ gk + cntD s.done n = n ∧ Sep g wr (dRows gf fo cf gh ho' ch gd n s) ∧ Below g w wr)
  case atStart =>
    refine ⟨dij0 o, rfl, rfl, HD0.out, ?_, HS4.out, HB4.out⟩
    have : ∀ k : Nat, cntD (dij0 o).done k = 0 := fun k => by
      induction k with
      | zero => rfl
      | succ k ih => show cntD (dij0 o).done k + 0 = 0; rw [ih]
    rw [this]; rfl
  case round =>
    obtain ⟨gi, rfl⟩ : ∃ gi, gi = gk := ⟨_, rfl⟩
    obtain ⟨s, rfl, rfl, hall, hcnt, hsep, hbel⟩ := hrel
    have HS5 := Lib.hid hsep; clear hsep
    have HB5 := Lib.hid hbel; clear hbel
    have HCNT := Lib.hid hcnt; clear hcnt
    have HRG := Lib.hid (hall.out.rng HOK.out.net hn8)
    clear HS4 HB4
    go_wp2
    go_loopg [11, 44] n (fun gk a i wr => ∃ k : Nat, gk + k = n ∧ i = .int .i64 k ∧ a = .int .i64 (pickD s k) ∧ Sep g wr (dRows gf fo cf gh ho' ch gd n s) ∧ Below g w wr)
    case atStart => exact ⟨0, rfl, rfl, rfl, HS5.out, HB5.out⟩
    case round =>
      obtain ⟨gj, rfl⟩ : ∃ gj, gj = gk := ⟨_, rfl⟩
      obtain ⟨k, hgk, rfl, rfl, hsep, hbel⟩ := hrel
      have HS6 := Lib.hid hsep; clear hsep
      have HB6 := Lib.hid hbel; clear hbel
      have HSN : Hid (∀ q, Sep g (wr.drewN q) (dRows gf fo cf gh ho' ch gd n s)) := fun q => HS6.out.drewN q
      have HBN : Hid (∀ q, Below g w (wr.drewN q)) := fun q => HB6.out.trans (below_drewN g wr q)
      by_cases hlt : k < n
      · obtain ⟨c1, _, _, _⟩ := dRows_far (F := []) HS6.out hlt
        obtain ⟨c2, _, _, _⟩ := dRows_done (F := []) HS6.out hlt
        obtain ⟨fk, hfk⟩ : ∃ fk, fk = s.far k := ⟨_, rfl⟩
        have hr1 := HRG.out.far k hlt
        rw [← hfk] at c1 hr1
        obtain ⟨hr0, hr1⟩ := hr1
        have HFK := Lib.hid hfk; clear hfk
        have hki : (k : Int) < (n : Int) := by omega
        have hk0 : (0 : Int) ≤ (k : Int) := by omega
        cases hd : s.done k with
        | true =>
          rw [hd] at c2
          have hp : pickD s (k + 1) = pickD s k := pickD_no (fun h => by rw [hd] at h; cases h.1)
          have HD := Lib.hid hd; clear hd
          generalize pickD s k = pk at *
          have HP := Lib.hid hp; clear hp
          go_wp2_with fail
          go_quiet (fail)
          go_wp2
          go_roundg (gj - 1)
          case measure => omega
          case rel => exact ⟨k + 1, by omega, by first | rfl | go_num, by rw [HP.out], HSN.out _, HBN.out _⟩
        | false =>
          rw [hd] at c2
          by_cases h1000 : fk < 1000
          · rcases pickD_spec s k with ⟨hpk, _⟩ | ⟨p, hpk, hpl, _⟩
            · have hp : pickD s (k + 1) = (k : Int) := pickD_yes hd (by rw [← HFK.out]; exact h1000) (.inl (by omega))
              have HD := Lib.hid hd; clear hd
              rw [hpk]
              clear hpk
              have HP := Lib.hid hp; clear hp
              go_wp2_with fail
              go_quiet (fail)
              go_wp2
              go_roundg (gj - 1)
              case measure => omega
              case rel => exact ⟨k + 1, by omega, by first | rfl | go_num, by rw [HP.out], HSN.out _, HBN.out _⟩
            · have hpn : p < n := by omega
              obtain ⟨c3, _, _, _⟩ := dRows_far (F := []) HS6.out hpn
              obtain ⟨fp, hfp⟩ : ∃ fp, fp = s.far p := ⟨_, rfl⟩
              rw [← hfp] at c3
              have hpi : (p : Int) < (n : Int) := by omega
              have hp0 : (0 : Int) ≤ (p : Int) := by omega
              by_cases hcmp : fk < fp
              · have hp : pickD s (k + 1) = (k : Int) := pickD_yes hd (by rw [← HFK.out]; exact h1000) (.inr (by rw [← HFK.out, hpk, Int.toNat_natCast, ← hfp]; exact hcmp))
                have HD := Lib.hid hd; clear hd
                have HFP := Lib.hid hfp; clear hfp
                rw [hpk]
                clear hpk
                have HP := Lib.hid hp; clear hp
                go_wp2_with fail
                go_quiet (fail)
                go_wp2
                go_roundg (gj - 1)
                case measure => omega
                case rel => exact ⟨k + 1, by omega, by first | rfl | go_num, by rw [HP.out], HSN.out _, HBN.out _⟩
              · have hp : pickD s (k + 1) = (p : Int) := (pickD_no (fun h => by
                  rw [← HFK.out, hpk, Int.toNat_natCast, ← hfp] at h
                  rcases h.2.2 with h' | h'
                  · omega
                  · exact hcmp h')).trans hpk
                have HD := Lib.hid hd; clear hd
                have HFP := Lib.hid hfp; clear hfp
                rw [hpk]
                clear hpk
                have HP := Lib.hid hp; clear hp
                go_wp2_with fail
                go_quiet (fail)
                go_wp2
                go_roundg (gj - 1)
                case measure => omega
                case rel => exact ⟨k + 1, by omega, by first | rfl | go_num, by rw [HP.out], HSN.out _, HBN.out _⟩
          · have hp : pickD s (k + 1) = pickD s k := pickD_no (fun h => by rw [← HFK.out] at h; exact h1000 h.2.1)
            have HD := Lib.hid hd; clear hd
            have hge : decide (fk < 1000) = false := decide_eq_false h1000
            clear h1000
            generalize pickD s k = pk at *
            have HP := Lib.hid hp; clear hp
            go_wp2_with fail
            go_quiet (fail)
            go_wp2
            go_roundg (gj - 1)
            case measure => omega
            case rel => exact ⟨k + 1, by omega, by first | rfl | go_num, by rw [HP.out], HSN.out _, HBN.out _⟩
      · obtain rfl : k = n := by omega
        have hki : decide ((k : Int) < (k : Int)) = false := by simp
        rcases pickD_spec s k with ⟨hpk, hend⟩ | ⟨a, hpk, han, had, haf, hamin⟩
        · rw [hpk]
          have hfin : ∀ v, v < k → s.far v = far (edges L) o v ∧ IsHop k (edges L) o v (s.hop v) := fun v hv => dall_end HOK.out.net hn8 ho hall.out hend hv
          have hs7 : Sep g wr [Ent.ints 3 (.slice (some ⟨gf, fo, none⟩) k cf) (arr (far (edges L) o) k), Ent.ints 3 (.slice (some ⟨gh, ho', none⟩) k ch) (arr s.hop k)] := by
            rw [← arr_congr (f := s.far) (fun v hv => (hfin v hv).1)]
            exact HS6.out.sub (List.Sublist.cons_cons _ (List.Sublist.cons_cons _ (List.nil_sublist _)))
          have HF := Lib.hid hfin; clear hfin
          have HS7 := Lib.hid hs7; clear hs7 hend hpk
          go_wp2
          go_ret3
          exact ⟨_, _, s.hop, rfl, fun v hv => (HF.out v hv).2, by have := HS7.out; rw [HG.out] at this; exact this, by have := HB6.out; rw [HG.out] at this; exact this⟩
        · rw [hpk]
          obtain ⟨m1, m2, hm3, hgd'⟩ := dRows_done (F := []) HS6.out han
          have hmid : ∀ F : List Edge, (∀ e ∈ F, e ∈ edges L) → DMid k (edges L) o a (F.foldl (relax o a) (markD a s)) := fun F hF => dmid_take HOK.out.net hn8 hall.out han had haf hamin F hF
          have hstep := dall_step HOK.out.net hn8 hall.out han had haf hamin
          have HMID := Lib.hid hmid
          have HSTEP := Lib.hid hstep
          have HS7 := Lib.hid hm3
          have HB7 := Lib.hid (HB6.out.setCell (p := ⟨gd, a, none⟩) hgd' (.bool true))
          have hai : (a : Int) < (k : Int) := by omega
          have ha0 : (0 : Int) ≤ (a : Int) := by omega
          clear hmid hstep hm3 hpk had haf hamin HSN HBN hki
          go_upto_region 20 with fail
          generalize wr.setCell ⟨gd, a, none⟩ (.bool true) = w7 at *
          clear m1 m2 HS6 HB6
          obtain ⟨s0, hs0⟩ : ∃ s0, s0 = markD a s := ⟨_, rfl⟩
          rw [← hs0] at HMID HSTEP HS7
          have HS0 := Lib.hid hs0; clear hs0
          go_wp2
          go_loopw [85] (fun i wr => ∃ q : Nat, q ≤ L.length ∧ i = .int .i64 q ∧ Sep g wr (dRows gf fo cf gh ho' ch gd k ((edges (L.take q)).foldl (relax o a) s0)) ∧ Below g w wr) (fun i _ => L.length - (intOf i).toNat)
          case atStart => exact ⟨0, Nat.zero_le _, rfl, HS7.out, HB7.out⟩
          case round =>
            obtain ⟨q, hq, rfl, hsep, hbel⟩ := hrel
            have HS8 := Lib.hid hsep; clear hsep
            have HB8 := Lib.hid hbel; clear hbel
            have hgr : g ≤ wr.heap.size := by have := HB8.out.size; rw [← HG.out] at this; exact this
            by_cases hlt : q < L.length
            · obtain ⟨x, hx⟩ : ∃ x, L[q]? = some x := ⟨_, List.getElem?_eq_getElem hlt⟩
              obtain ⟨b, off, rfl, hbb, c0, c1, c2⟩ := (HA.out.below (HB8.out.mono hB0)).lnk hx
              have hlo := HOK.out.each x (List.mem_iff_getElem?.2 ⟨q, hx⟩)
              have hnext := edges_take_succ hx
              have hmem : ∀ e ∈ edges (L.take q) ++ edgesOf x, e ∈ edges L := fun e he => by
                rw [← hnext] at he
                obtain ⟨y, hy, hye⟩ := mem_edges.1 he
                exact mem_edges.2 ⟨y, List.mem_of_mem_take hy, hye⟩
              obtain ⟨xa, xb, xc⟩ := x
              obtain ⟨⟨la1, la2⟩, ⟨lb1, lb2⟩, ⟨lc1, lc2⟩, lne⟩ := hlo
              simp only at c0 c1 c2 la1 la2 lb1 lb2 lc1 lc2 lne
              obtain ⟨ua, rfl⟩ := Int.eq_ofNat_of_zero_le la1
              obtain ⟨ub, rfl⟩ := Int.eq_ofNat_of_zero_le lb1
              have hua : ua < k := by omega
              have hub : ub < k := by omega
              have HNX := Lib.hid hnext
              have HMEM := Lib.hid hmem
              clear hnext hmem hx la1 la2 lb1 lb2 lne
              obtain ⟨s1, hs1⟩ : ∃ s1, s1 = (edges (L.take q)).foldl (relax o a) s0 := ⟨_, rfl⟩
              rw [← hs1] at HS8
              have HS1 := Lib.hid hs1; clear hs1
              have hs9 := Sep.blkNew HS8.out hgr #[.int .i64 ua, .int .i64 ub, .int .i64 xc] 77
              have HS9 := Lib.hid hs9; clear hs9
              have HB9 := Lib.hid (HB8.out.alloc hgr (.cells #[.int .i64 ua, .int .i64 ub, .int .i64 xc] 77))
              have hsz : (wr.alloc (.cells #[.int .i64 ua, .int .i64 ub, .int .i64 xc] 77)).heap.size = wr.heap.size + 1 := by simp
              have hql : (q : Int) < (L.length : Int) := by omega
              go_upto_region 22 with fail
              obtain ⟨gl, hgl⟩ : ∃ gl, gl = wr.heap.size := ⟨_, rfl⟩
              rw [← hgl] at HS9 hsz hgr ⊢
              generalize wr.alloc (.cells #[.int .i64 ua, .int .i64 ub, .int .i64 xc] 77) = w9 at *
              clear c0 c1 c2 hgl HS8 HB8 hsz hql
              obtain ⟨e0, _⟩ := Sep.blkAt (A := []) HS9.out (j := 0) rfl
              obtain ⟨e1, _⟩ := Sep.blkAt (A := []) HS9.out (j := 1) rfl
              go_wp2
              clear e0 e1
              go_loopw [100] (fun p wr => ∃ j : Nat, j ≤ 2 ∧ p = .int .i64 j ∧ Sep g wr (Ent.blk1 gl 77 [.int .i64 ua, .int .i64 ub, .int .i64 xc] :: dRows gf fo cf gh ho' ch gd k (((edgesOf ((ua : Int), (ub : Int), xc)).take j).foldl (relax o a) s1)) ∧ Below g w wr) (fun p _ => 2 - (intOf p).toNat)
              case atStart => exact ⟨0, by omega, rfl, HS9.out, HB9.out⟩
              case round =>
                obtain ⟨j, hj, rfl, hsep, hbel⟩ := hrel
                have HS10 := Lib.hid hsep; clear hsep
                have HB10 := Lib.hid hbel; clear hbel
                have hgr2 : g ≤ wr.heap.size := by have := HB10.out.size; rw [← HG.out] at this; exact this
                have h3 : j = 0 ∨ j = 1 ∨ j = 2 := by omega
                rcases h3 with rfl | rfl | rfl
                · skip
                  have hm := HMID.out (edges (L.take q) ++ (edgesOf ((ua : Int), (ub : Int), xc)).take 0) (fun e he => HMEM.out e (by
                    rcases List.mem_append.1 he with h | h
                    · exact List.mem_append_left _ h
                    · exact List.mem_append_right _ (List.mem_of_mem_take h)))
                  rw [List.foldl_append, ← HS1.out] at hm
                  obtain ⟨s2, hs2⟩ : ∃ s2, s2 = ((edgesOf ((ua : Int), (ub : Int), xc)).take 0).foldl (relax o a) s1 := ⟨_, rfl⟩
                  have hnx : ((edgesOf ((ua : Int), (ub : Int), xc)).take 1).foldl (relax o a) s1 = relax o a s2 (ua, ub, xc) := by rw [hs2]; rfl
                  have hs11 := HS10.out
                  rw [← hs2] at hm hs11
                  have HNX := Lib.hid hnx
                  have hrng := hm.rng HOK.out.net hn8
                  have hfa20 := hm.2.2.1
                  have hcn := cntD_le s2.done k
                  have hs12 := Sep.blkNew hs11 hgr2 #[.int .i64 ua, .int .i64 ub] 96
                  have HS12 := Lib.hid hs12
                  have HB12 := Lib.hid (HB10.out.alloc hgr2 (.cells #[.int .i64 ua, .int .i64 ub] 96))
                  clear hs2 hnx hs11 hs12 HS10 HB10 hm
                  have hja : decide ((0 : Int) < 2) = true := by decide
                  obtain ⟨hix0, hix1⟩ := idx2_run (ua : Int) (ub : Int) (ub : Int) (ua : Int) wr
                  go_upto_region 25 with fail
                  clear hix0 hix1
                  obtain ⟨ge, hge⟩ : ∃ ge, ge = wr.heap.size := ⟨_, rfl⟩
                  rw [← hge] at HS12 hgr2 ⊢
                  generalize wr.alloc (.cells #[.int .i64 ua, .int .i64 ub] 96) = w12 at *
                  clear hge hja
                  obtain ⟨c0, _⟩ := Sep.blkAt (A := []) HS12.out (j := 0) rfl
                  obtain ⟨c1, _⟩ := Sep.blkAt (A := []) HS12.out (j := 1) rfl
                  have hyi : (ub : Int) < (k : Int) := by omega
                  have hy0 : (0 : Int) ≤ (ub : Int) := by omega
                  by_cases hxa : ua = a
                  · have hbe : ((ua : Int) != (a : Int)) = false := by simp [hxa]
                    obtain ⟨dy, _, _, _⟩ := dRows_done (F := [_, _]) HS12.out hub
                    cases hd : s2.done ub with
                    | true =>
                      rw [hd] at dy
                      have hsk : relax o a s2 (ua, ub, xc) = s2 := relax_skip (fun h => by rw [hd] at h; cases h.2)
                      have HSK := Lib.hid hsk
                      clear hsk hd hrng hfa20 hcn hxa
                      go_wp2
                      go_roundw
                      case rel => exact ⟨1, by omega, by go_num, by rw [HNX.out, HSK.out]; exact HS12.out.sub (List.sublist_cons_self _ _), HB12.out⟩
                      case measure => simp [intOf]; try omega
                    | false =>
                      rw [hd] at dy
                      have hn2 := HNX.out.trans (show relax o a s2 (ua, ub, xc) = relax o a s2 (a, ub, xc) by rw [hxa])
                      clear HNX
                      have HNX := Lib.hid hn2
                      clear hn2 hxa
                      have HDN := Lib.hid hd; clear hd
                      obtain ⟨fa, hfa⟩ : ∃ fa, fa = s2.far a := ⟨_, rfl⟩
                      obtain ⟨fy, hfy⟩ : ∃ fy, fy = s2.far ub := ⟨_, rfl⟩
                      obtain ⟨pa, hpa⟩ : ∃ pa, pa = s2.hop a := ⟨_, rfl⟩
                      obtain ⟨py, hpy⟩ : ∃ py, py = s2.hop ub := ⟨_, rfl⟩
                      have r1 := hrng.far a han
                      have r2 := hrng.far ub hub
                      have r3 := hrng.hop a han
                      have r4 := hrng.hop ub hub
                      have hstat : ∀ W, Sep g W (Ent.blk1 ge 96 [.int .i64 ua, .int .i64 ub] :: Ent.blk1 gl 77 [.int .i64 ua, .int .i64 ub, .int .i64 xc] :: dRows gf fo cf gh ho' ch gd k s2) →
                          W.cell? ⟨gf, fo + a, none⟩ = some (.int .i64 fa) ∧ W.cell? ⟨gf, fo + ub, none⟩ = some (.int .i64 fy) ∧ W.frozen? ⟨gf, fo + ub, none⟩ = false ∧
                          W.cell? ⟨gh, ho' + a, none⟩ = some (.int .i64 pa) ∧ W.cell? ⟨gh, ho' + ub, none⟩ = some (.int .i64 py) ∧ W.frozen? ⟨gh, ho' + ub, none⟩ = false ∧
                          W.cell? ⟨ge, 1, none⟩ = some (.int .i64 ub) ∧ W.cell? ⟨gl, 2, none⟩ = some (.int .i64 xc) := fun W hW => by
                        have g1 := dRows_far (F := [_, _]) hW han
                        have g2 := dRows_far (F := [_, _]) hW hub
                        have g3 := dRows_hop (F := [_, _]) hW han
                        have g4 := dRows_hop (F := [_, _]) hW hub
                        rw [← hfa] at g1
                        rw [← hfy] at g2
                        rw [← hpa] at g3
                        rw [← hpy] at g4
                        exact ⟨g1.1, g2.1, g2.2.1, g3.1, g4.1, g4.2.1, (Sep.blkAt (A := []) hW (j := 1) rfl).1, (Sep.blkAt (A := [_]) hW (j := 2) rfl).1⟩
                      have HSTAT := Lib.hid hstat; clear hstat
                      rw [← hfa] at r1 hfa20
                      rw [← hfy] at r2
                      rw [← hpa] at r3
                      rw [← hpy] at r4
                      have HFA := Lib.hid hfa
                      have HFY := Lib.hid hfy
                      have HHY := Lib.hid hpy
                      have HPA := Lib.hid hpa
                      obtain ⟨d, hdd⟩ : ∃ d, d = fa + xc := ⟨_, rfl⟩
                      have hwr : IntKind.i64.wrap (fa + xc) = d := by rw [hdd]; simp [IntKind.wrap, IntKind.bits, IntKind.signed]; omega
                      have HDD := Lib.hid hdd
                      clear hfa hfy hpy hpa hdd hfa20 hcn hrng
                      obtain ⟨p1, p2, p3, p4, p5, p6, p7, p8⟩ := HSTAT.out _ HS12.out
                      go_upto_region 26 with fail
                      go_quiet (fail)
                      have HS13 := Lib.hid (HS12.out.drewN nq)
                      have HB13 := Lib.hid (HB12.out.trans (below_drewN g w12 nq))
                      clear p1 p2 p3 p4 p5 p6 p7 p8 c0 c1 dy HS12 HB12
                      generalize w12.drewN nq = w13 at *
                      obtain ⟨p1, p2, p3, p4, p5, p6, p7, p8⟩ := HSTAT.out _ HS13.out
                      obtain ⟨fv, hfv⟩ : ∃ fv, fv = firstHop o a ub s2 := ⟨_, rfl⟩
                      have HFV := Lib.hid hfv
                      by_cases hao : a = o
                      · have hbo : ((a : Int) == (o : Int)) = true := by simp [hao]
                        have hfy' : fv = (ub : Int) := by rw [hfv]; unfold firstHop; rw [if_pos hao]
                        subst hfy'
                        clear hfv hao
                        go_wp2_with fail
                        go_quiet (fail)
                        have HS14 := Lib.hid (HS13.out.drewN nq)
                        have HB14 := Lib.hid (HB13.out.trans (below_drewN g w13 nq))
                        clear p1 p2 p3 p4 p5 p6 p7 p8 HS13 HB13
                        generalize w13.drewN nq = w14 at *
                        obtain ⟨p1, p2, p3, p4, p5, p6, p7, p8⟩ := HSTAT.out _ HS14.out
                        have h3c : d < fy ∨ d = fy ∨ fy < d := by omega
                        rcases h3c with h3c | h3c | h3c
                        · have hlt' : decide (d < fy) = true := decide_eq_true h3c
                          have hrel := relax_lt (o := o) HDN.out (z := xc) (by rw [← HFA.out, ← HFY.out, ← HDD.out]; exact h3c)
                          rw [← HFA.out, ← HDD.out, ← HFV.out] at hrel
                          have HREL := Lib.hid hrel; clear hrel h3c
                          have n1 := Sep.apart (A := [_, _]) (C := []) HS14.out rfl rfl
                          have n2 : ¬ gh = gf := fun e => n1 e.symm
                          go_wp2
                          go_roundw
                          case rel =>
                            have q1 := (dRows_far (F := [_, _]) HS14.out hub).2.2
                            have q2 := (dRows_hop (F := [_, _]) (q1.1 d) hub).2.2
                            refine ⟨1, by omega, by go_num, ?_, (HB14.out.setCell (p := ⟨gf, fo + ub, none⟩) q1.2 _).setCell (p := ⟨gh, ho' + ub, none⟩) q2.2 _⟩
                            rw [HNX.out, HREL.out]
                            exact (q2.1 _).sub (List.sublist_cons_self _ _)
                          case measure => simp [intOf]; try omega
                        · have hlt' : decide (d < fy) = false := decide_eq_false (by omega)
                          have heq' : (d == fy) = true := by simp [h3c]
                          have hrel := relax_eq (o := o) HDN.out (z := xc) (by rw [← HFA.out, ← HFY.out, ← HDD.out]; exact h3c)
                          rw [← HHY.out, ← HFV.out] at hrel
                          have HREL := Lib.hid hrel; clear hrel h3c
                          go_wp2
                          go_roundw
                          case rel =>
                            have q2 := (dRows_hop (F := [_, _]) HS14.out hub).2.2
                            refine ⟨1, by omega, by go_num, ?_, HB14.out.setCell (p := ⟨gh, ho' + ub, none⟩) q2.2 _⟩
                            rw [HNX.out, HREL.out]
                            exact (q2.1 _).sub (List.sublist_cons_self _ _)
                          case measure => simp [intOf]; try omega
                        · have hlt' : decide (d < fy) = false := decide_eq_false (by omega)
                          have heq' : (d == fy) = false := by simp; omega
                          have hrel := relax_gt (o := o) HDN.out (z := xc) (by rw [← HFA.out, ← HFY.out, ← HDD.out]; exact h3c)
                          have HREL := Lib.hid hrel; clear hrel h3c
                          go_wp2
                          go_roundw
                          case rel =>
                            refine ⟨1, by omega, by go_num, ?_, HB14.out⟩
                            rw [HNX.out, HREL.out]
                            exact HS14.out.sub (List.sublist_cons_self _ _)
                          case measure => simp [intOf]; try omega
                      · have hbo : ((a : Int) == (o : Int)) = false := by simp; omega
                        have hfy' : fv = pa := by rw [hfv]; unfold firstHop; rw [if_neg hao]; exact HPA.out.symm
                        subst hfy'
                        clear hfv hao
                        go_wp2_with fail
                        go_quiet (fail)
                        have HS14 := Lib.hid (HS13.out.drewN nq)
                        have HB14 := Lib.hid (HB13.out.trans (below_drewN g w13 nq))
                        clear p1 p2 p3 p4 p5 p6 p7 p8 HS13 HB13
                        generalize w13.drewN nq = w14 at *
                        obtain ⟨p1, p2, p3, p4, p5, p6, p7, p8⟩ := HSTAT.out _ HS14.out
                        have h3c : d < fy ∨ d = fy ∨ fy < d := by omega
                        rcases h3c with h3c | h3c | h3c
                        · have hlt' : decide (d < fy) = true := decide_eq_true h3c
                          have hrel := relax_lt (o := o) HDN.out (z := xc) (by rw [← HFA.out, ← HFY.out, ← HDD.out]; exact h3c)
                          rw [← HFA.out, ← HDD.out, ← HFV.out] at hrel
                          have HREL := Lib.hid hrel; clear hrel h3c
                          have n1 := Sep.apart (A := [_, _]) (C := []) HS14.out rfl rfl
                          have n2 : ¬ gh = gf := fun e => n1 e.symm
                          go_wp2
                          go_roundw
                          case rel =>
                            have q1 := (dRows_far (F := [_, _]) HS14.out hub).2.2
                            have q2 := (dRows_hop (F := [_, _]) (q1.1 d) hub).2.2
                            refine ⟨1, by omega, by go_num, ?_, (HB14.out.setCell (p := ⟨gf, fo + ub, none⟩) q1.2 _).setCell (p := ⟨gh, ho' + ub, none⟩) q2.2 _⟩
                            rw [HNX.out, HREL.out]
                            exact (q2.1 _).sub (List.sublist_cons_self _ _)
                          case measure => simp [intOf]; try omega
                        · have hlt' : decide (d < fy) = false := decide_eq_false (by omega)
                          have heq' : (d == fy) = true := by simp [h3c]
                          have hrel := relax_eq (o := o) HDN.out (z := xc) (by rw [← HFA.out, ← HFY.out, ← HDD.out]; exact h3c)
                          rw [← HHY.out, ← HFV.out] at hrel
                          have HREL := Lib.hid hrel; clear hrel h3c
                          go_wp2
                          go_roundw
                          case rel =>
                            have q2 := (dRows_hop (F := [_, _]) HS14.out hub).2.2
                            refine ⟨1, by omega, by go_num, ?_, HB14.out.setCell (p := ⟨gh, ho' + ub, none⟩) q2.2 _⟩
                            rw [HNX.out, HREL.out]
                            exact (q2.1 _).sub (List.sublist_cons_self _ _)
                          case measure => simp [intOf]; try omega
                        · have hlt' : decide (d < fy) = false := decide_eq_false (by omega)
                          have heq' : (d == fy) = false := by simp; omega
                          have hrel := relax_gt (o := o) HDN.out (z := xc) (by rw [← HFA.out, ← HFY.out, ← HDD.out]; exact h3c)
                          have HREL := Lib.hid hrel; clear hrel h3c
                          go_wp2
                          go_roundw
                          case rel =>
                            refine ⟨1, by omega, by go_num, ?_, HB14.out⟩
                            rw [HNX.out, HREL.out]
                            exact HS14.out.sub (List.sublist_cons_self _ _)
                          case measure => simp [intOf]; try omega
                  · have hbe : ((ua : Int) != (a : Int)) = true := by simp; omega
                    have hsk : relax o a s2 (ua, ub, xc) = s2 := relax_skip (fun h => hxa h.1)
                    have HSK := Lib.hid hsk
                    clear hsk hxa hrng hfa20 hcn
                    go_wp2
                    go_roundw
                    case rel => exact ⟨1, by omega, by go_num, by rw [HNX.out, HSK.out]; exact HS12.out.sub (List.sublist_cons_self _ _), HB12.out⟩
                    case measure => simp [intOf]; try omega
                · skip
                  have hm := HMID.out (edges (L.take q) ++ (edgesOf ((ua : Int), (ub : Int), xc)).take 1) (fun e he => HMEM.out e (by
                    rcases List.mem_append.1 he with h | h
                    · exact List.mem_append_left _ h
                    · exact List.mem_append_right _ (List.mem_of_mem_take h)))
                  rw [List.foldl_append, ← HS1.out] at hm
                  obtain ⟨s2, hs2⟩ : ∃ s2, s2 = ((edgesOf ((ua : Int), (ub : Int), xc)).take 1).foldl (relax o a) s1 := ⟨_, rfl⟩
                  have hnx : ((edgesOf ((ua : Int), (ub : Int), xc)).take 2).foldl (relax o a) s1 = relax o a s2 (ub, ua, xc) := by rw [hs2]; rfl
                  have hs11 := HS10.out
                  rw [← hs2] at hm hs11
                  have HNX := Lib.hid hnx
                  have hrng := hm.rng HOK.out.net hn8
                  have hfa20 := hm.2.2.1
                  have hcn := cntD_le s2.done k
                  have hs12 := Sep.blkNew hs11 hgr2 #[.int .i64 ub, .int .i64 ua] 96
                  have HS12 := Lib.hid hs12
                  have HB12 := Lib.hid (HB10.out.alloc hgr2 (.cells #[.int .i64 ub, .int .i64 ua] 96))
                  clear hs2 hnx hs11 hs12 HS10 HB10 hm
                  have hja : decide ((1 : Int) < 2) = true := by decide
                  obtain ⟨hix0, hix1⟩ := idx2_run (ua : Int) (ub : Int) (ub : Int) (ua : Int) wr
                  go_upto_region 25 with fail
                  clear hix0 hix1
                  obtain ⟨ge, hge⟩ : ∃ ge, ge = wr.heap.size := ⟨_, rfl⟩
                  rw [← hge] at HS12 hgr2 ⊢
                  generalize wr.alloc (.cells #[.int .i64 ub, .int .i64 ua] 96) = w12 at *
                  clear hge hja
                  obtain ⟨c0, _⟩ := Sep.blkAt (A := []) HS12.out (j := 0) rfl
                  obtain ⟨c1, _⟩ := Sep.blkAt (A := []) HS12.out (j := 1) rfl
                  have hyi : (ua : Int) < (k : Int) := by omega
                  have hy0 : (0 : Int) ≤ (ua : Int) := by omega
                  by_cases hxa : ub = a
                  · have hbe : ((ub : Int) != (a : Int)) = false := by simp [hxa]
                    obtain ⟨dy, _, _, _⟩ := dRows_done (F := [_, _]) HS12.out hua
                    cases hd : s2.done ua with
                    | true =>
                      rw [hd] at dy
                      have hsk : relax o a s2 (ub, ua, xc) = s2 := relax_skip (fun h => by rw [hd] at h; cases h.2)
                      have HSK := Lib.hid hsk
                      clear hsk hd hrng hfa20 hcn hxa
                      go_wp2
                      go_roundw
                      case rel => exact ⟨2, by omega, by go_num, by rw [HNX.out, HSK.out]; exact HS12.out.sub (List.sublist_cons_self _ _), HB12.out⟩
                      case measure => simp [intOf]; try omega
                    | false =>
                      rw [hd] at dy
                      have hn2 := HNX.out.trans (show relax o a s2 (ub, ua, xc) = relax o a s2 (a, ua, xc) by rw [hxa])
                      clear HNX
                      have HNX := Lib.hid hn2
                      clear hn2 hxa
                      have HDN := Lib.hid hd; clear hd
                      obtain ⟨fa, hfa⟩ : ∃ fa, fa = s2.far a := ⟨_, rfl⟩
                      obtain ⟨fy, hfy⟩ : ∃ fy, fy = s2.far ua := ⟨_, rfl⟩
                      obtain ⟨pa, hpa⟩ : ∃ pa, pa = s2.hop a := ⟨_, rfl⟩
                      obtain ⟨py, hpy⟩ : ∃ py, py = s2.hop ua := ⟨_, rfl⟩
                      have r1 := hrng.far a han
                      have r2 := hrng.far ua hua
                      have r3 := hrng.hop a han
                      have r4 := hrng.hop ua hua
                      have hstat : ∀ W, Sep g W (Ent.blk1 ge 96 [.int .i64 ub, .int .i64 ua] :: Ent.blk1 gl 77 [.int .i64 ua, .int .i64 ub, .int .i64 xc] :: dRows gf fo cf gh ho' ch gd k s2) →
                          W.cell? ⟨gf, fo + a, none⟩ = some (.int .i64 fa) ∧ W.cell? ⟨gf, fo + ua, none⟩ = some (.int .i64 fy) ∧ W.frozen? ⟨gf, fo + ua, none⟩ = false ∧
                          W.cell? ⟨gh, ho' + a, none⟩ = some (.int .i64 pa) ∧ W.cell? ⟨gh, ho' + ua, none⟩ = some (.int .i64 py) ∧ W.frozen? ⟨gh, ho' + ua, none⟩ = false ∧
                          W.cell? ⟨ge, 1, none⟩ = some (.int .i64 ua) ∧ W.cell? ⟨gl, 2, none⟩ = some (.int .i64 xc) := fun W hW => by
                        have g1 := dRows_far (F := [_, _]) hW han
                        have g2 := dRows_far (F := [_, _]) hW hua
                        have g3 := dRows_hop (F := [_, _]) hW han
                        have g4 := dRows_hop (F := [_, _]) hW hua
                        rw [← hfa] at g1
                        rw [← hfy] at g2
                        rw [← hpa] at g3
                        rw [← hpy] at g4
                        exact ⟨g1.1, g2.1, g2.2.1, g3.1, g4.1, g4.2.1, (Sep.blkAt (A := []) hW (j := 1) rfl).1, (Sep.blkAt (A := [_]) hW (j := 2) rfl).1⟩
                      have HSTAT := Lib.hid hstat; clear hstat
                      rw [← hfa] at r1 hfa20
                      rw [← hfy] at r2
                      rw [← hpa] at r3
                      rw [← hpy] at r4
                      have HFA := Lib.hid hfa
                      have HFY := Lib.hid hfy
                      have HHY := Lib.hid hpy
                      have HPA := Lib.hid hpa
                      obtain ⟨d, hdd⟩ : ∃ d, d = fa + xc := ⟨_, rfl⟩
                      have hwr : IntKind.i64.wrap (fa + xc) = d := by rw [hdd]; simp [IntKind.wrap, IntKind.bits, IntKind.signed]; omega
                      have HDD := Lib.hid hdd
                      clear hfa hfy hpy hpa hdd hfa20 hcn hrng
                      obtain ⟨p1, p2, p3, p4, p5, p6, p7, p8⟩ := HSTAT.out _ HS12.out
                      go_upto_region 26 with fail
                      go_quiet (fail)
                      have HS13 := Lib.hid (HS12.out.drewN nq)
                      have HB13 := Lib.hid (HB12.out.trans (below_drewN g w12 nq))
                      clear p1 p2 p3 p4 p5 p6 p7 p8 c0 c1 dy HS12 HB12
                      generalize w12.drewN nq = w13 at *
                      obtain ⟨p1, p2, p3, p4, p5, p6, p7, p8⟩ := HSTAT.out _ HS13.out
                      obtain ⟨fv, hfv⟩ : ∃ fv, fv = firstHop o a ua s2 := ⟨_, rfl⟩
                      have HFV := Lib.hid hfv
                      by_cases hao : a = o
                      · have hbo : ((a : Int) == (o : Int)) = true := by simp [hao]
                        have hfy' : fv = (ua : Int) := by rw [hfv]; unfold firstHop; rw [if_pos hao]
                        subst hfy'
                        clear hfv hao
                        go_wp2_with fail
                        go_quiet (fail)
                        have HS14 := Lib.hid (HS13.out.drewN nq)
                        have HB14 := Lib.hid (HB13.out.trans (below_drewN g w13 nq))
                        clear p1 p2 p3 p4 p5 p6 p7 p8 HS13 HB13
                        generalize w13.drewN nq = w14 at *
                        obtain ⟨p1, p2, p3, p4, p5, p6, p7, p8⟩ := HSTAT.out _ HS14.out
                        have h3c : d < fy ∨ d = fy ∨ fy < d := by omega
                        rcases h3c with h3c | h3c | h3c
                        · have hlt' : decide (d < fy) = true := decide_eq_true h3c
                          have hrel := relax_lt (o := o) HDN.out (z := xc) (by rw [← HFA.out, ← HFY.out, ← HDD.out]; exact h3c)
                          rw [← HFA.out, ← HDD.out, ← HFV.out] at hrel
                          have HREL := Lib.hid hrel; clear hrel h3c
                          have n1 := Sep.apart (A := [_, _]) (C := []) HS14.out rfl rfl
                          have n2 : ¬ gh = gf := fun e => n1 e.symm
                          go_wp2
                          go_roundw
                          case rel =>
                            have q1 := (dRows_far (F := [_, _]) HS14.out hua).2.2
                            have q2 := (dRows_hop (F := [_, _]) (q1.1 d) hua).2.2
                            refine ⟨2, by omega, by go_num, ?_, (HB14.out.setCell (p := ⟨gf, fo + ua, none⟩) q1.2 _).setCell (p := ⟨gh, ho' + ua, none⟩) q2.2 _⟩
                            rw [HNX.out, HREL.out]
                            exact (q2.1 _).sub (List.sublist_cons_self _ _)
                          case measure => simp [intOf]; try omega
                        · have hlt' : decide (d < fy) = false := decide_eq_false (by omega)
                          have heq' : (d == fy) = true := by simp [h3c]
                          have hrel := relax_eq (o := o) HDN.out (z := xc) (by rw [← HFA.out, ← HFY.out, ← HDD.out]; exact h3c)
                          rw [← HHY.out, ← HFV.out] at hrel
                          have HREL := Lib.hid hrel; clear hrel h3c
                          go_wp2
                          go_roundw
                          case rel =>
                            have q2 := (dRows_hop (F := [_, _]) HS14.out hua).2.2
                            refine ⟨2, by omega, by go_num, ?_, HB14.out.setCell (p := ⟨gh, ho' + ua, none⟩) q2.2 _⟩
                            rw [HNX.out, HREL.out]
                            exact (q2.1 _).sub (List.sublist_cons_self _ _)
                          case measure => simp [intOf]; try omega
                        · have hlt' : decide (d < fy) = false := decide_eq_false (by omega)
                          have heq' : (d == fy) = false := by simp; omega
                          have hrel := relax_gt (o := o) HDN.out (z := xc) (by rw [← HFA.out, ← HFY.out, ← HDD.out]; exact h3c)
                          have HREL := Lib.hid hrel; clear hrel h3c
                          go_wp2
                          go_roundw
                          case rel =>
                            refine ⟨2, by omega, by go_num, ?_, HB14.out⟩
                            rw [HNX.out, HREL.out]
                            exact HS14.out.sub (List.sublist_cons_self _ _)
                          case measure => simp [intOf]; try omega
                      · have hbo : ((a : Int) == (o : Int)) = false := by simp; omega
                        have hfy' : fv = pa := by rw [hfv]; unfold firstHop; rw [if_neg hao]; exact HPA.out.symm
                        subst hfy'
                        clear hfv hao
                        go_wp2_with fail
                        go_quiet (fail)
                        have HS14 := Lib.hid (HS13.out.drewN nq)
                        have HB14 := Lib.hid (HB13.out.trans (below_drewN g w13 nq))
                        clear p1 p2 p3 p4 p5 p6 p7 p8 HS13 HB13
                        generalize w13.drewN nq = w14 at *
                        obtain ⟨p1, p2, p3, p4, p5, p6, p7, p8⟩ := HSTAT.out _ HS14.out
                        have h3c : d < fy ∨ d = fy ∨ fy < d := by omega
                        rcases h3c with h3c | h3c | h3c
                        · have hlt' : decide (d < fy) = true := decide_eq_true h3c
                          have hrel := relax_lt (o := o) HDN.out (z := xc) (by rw [← HFA.out, ← HFY.out, ← HDD.out]; exact h3c)
                          rw [← HFA.out, ← HDD.out, ← HFV.out] at hrel
                          have HREL := Lib.hid hrel; clear hrel h3c
                          have n1 := Sep.apart (A := [_, _]) (C := []) HS14.out rfl rfl
                          have n2 : ¬ gh = gf := fun e => n1 e.symm
                          go_wp2
                          go_roundw
                          case rel =>
                            have q1 := (dRows_far (F := [_, _]) HS14.out hua).2.2
                            have q2 := (dRows_hop (F := [_, _]) (q1.1 d) hua).2.2
                            refine ⟨2, by omega, by go_num, ?_, (HB14.out.setCell (p := ⟨gf, fo + ua, none⟩) q1.2 _).setCell (p := ⟨gh, ho' + ua, none⟩) q2.2 _⟩
                            rw [HNX.out, HREL.out]
                            exact (q2.1 _).sub (List.sublist_cons_self _ _)
                          case measure => simp [intOf]; try omega
                        · have hlt' : decide (d < fy) = false := decide_eq_false (by omega)
                          have heq' : (d == fy) = true := by simp [h3c]
                          have hrel := relax_eq (o := o) HDN.out (z := xc) (by rw [← HFA.out, ← HFY.out, ← HDD.out]; exact h3c)
                          rw [← HHY.out, ← HFV.out] at hrel
                          have HREL := Lib.hid hrel; clear hrel h3c
                          go_wp2
                          go_roundw
                          case rel =>
                            have q2 := (dRows_hop (F := [_, _]) HS14.out hua).2.2
                            refine ⟨2, by omega, by go_num, ?_, HB14.out.setCell (p := ⟨gh, ho' + ua, none⟩) q2.2 _⟩
                            rw [HNX.out, HREL.out]
                            exact (q2.1 _).sub (List.sublist_cons_self _ _)
                          case measure => simp [intOf]; try omega
                        · have hlt' : decide (d < fy) = false := decide_eq_false (by omega)
                          have heq' : (d == fy) = false := by simp; omega
                          have hrel := relax_gt (o := o) HDN.out (z := xc) (by rw [← HFA.out, ← HFY.out, ← HDD.out]; exact h3c)
                          have HREL := Lib.hid hrel; clear hrel h3c
                          go_wp2
                          go_roundw
                          case rel =>
                            refine ⟨2, by omega, by go_num, ?_, HB14.out⟩
                            rw [HNX.out, HREL.out]
                            exact HS14.out.sub (List.sublist_cons_self _ _)
                          case measure => simp [intOf]; try omega
                  · have hbe : ((ub : Int) != (a : Int)) = true := by simp; omega
                    have hsk : relax o a s2 (ub, ua, xc) = s2 := relax_skip (fun h => hxa h.1)
                    have HSK := Lib.hid hsk
                    clear hsk hxa hrng hfa20 hcn
                    go_wp2
                    go_roundw
                    case rel => exact ⟨2, by omega, by go_num, by rw [HNX.out, HSK.out]; exact HS12.out.sub (List.sublist_cons_self _ _), HB12.out⟩
                    case measure => simp [intOf]; try omega
                · have hs11 : Sep g wr (Ent.blk1 gl 77 [.int .i64 ua, .int .i64 ub, .int .i64 xc] :: dRows gf fo cf gh ho' ch gd k ((edges (L.take (q + 1))).foldl (relax o a) s0)) := by
                    rw [HNX.out, List.foldl_append, ← HS1.out]
                    exact HS10.out
                  have HS11 := Lib.hid (hs11.sub (List.sublist_cons_self _ _)); clear hs11
                  go_wp2
                  go_roundw
                  case rel => exact ⟨q + 1, by omega, by go_num, HS11.out, HB10.out⟩
                  case measure => simp [intOf]; omega
            · have hql : q = L.length := by omega
              subst hql
              have hs9 := HS8.out
              rw [List.take_length] at hs9
              obtain ⟨hd1, hd2, hd3⟩ := HSTEP.out
              have HS9 := Lib.hid hs9
              have HD1 := Lib.hid hd1
              have HD2 := Lib.hid hd2
              clear hs9 hd1 hd2
              go_wp2
              go_roundg (gi - 1)
              case measure => have := HCNT.out; omega
              case rel => exact ⟨_, rfl, rfl, HD1.out, by have := HCNT.out; rw [HD2.out]; omega, HS9.out, HB8.out⟩
end Go.Proofs.YtnmddgjgmdegoaaDoor
