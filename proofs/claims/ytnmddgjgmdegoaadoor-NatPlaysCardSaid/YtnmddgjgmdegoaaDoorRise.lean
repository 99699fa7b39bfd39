/- ferryhytheref1.Rising: the same numbers, rising. -/
import Derived.Test.YtnmddgjgmdegoaaDoorMaxPlain
import Derived.Test.YtnmddgjgmdegoaaDoorArr
import Derived.Test.YtnmddgjgmdegoaaDoorElem
import Derived.Test.YtnmddgjgmdegoaaDoorRow2
import Derived.Test.YtnmddgjgmdegoaaDoorCnts
import Derived.Deep.LoopGhost
import Derived.Deep.DeepCutAuto
import Derived.OwnWalk
import Derived.BigQuiet
namespace Go.Proofs.YtnmddgjgmdegoaaDoor
open Go.RowKit
set_option linter.unusedVariables false

def usedN (u : Nat → Bool) (n : Nat) : Nat := psum (fun i => if u i = true then 1 else 0) n
def usedC (xs : List Int) (u : Nat → Bool) (v : Int) (n : Nat) : Nat := psum (fun i => if u i = true then (if xs.getD i 0 = v then 1 else 0) else 0) n
theorem psum_upd {f : Nat → Nat} {k a : Nat} : ∀ {n : Nat}, k < n → f k = 0 → psum (fun i => if i = k then a else f i) n = psum f n + a
  | 0, h, _ => by omega
  | n + 1, h, h0 => by
    simp only [psum]
    by_cases e : k = n
    · subst e
      rw [if_pos rfl, psum_congr (g := f) (fun i hi => if_neg (by omega)), h0]; omega
    · rw [if_neg (by omega), psum_upd (by omega) h0]; omega
theorem usedN_set {u : Nat → Bool} {n k : Nat} (hk : k < n) (hu : u k = false) : usedN (fun i => decide (i = k) || u i) n = usedN u n + 1 := by
  unfold usedN
  rw [← psum_upd (f := fun i => if u i = true then 1 else 0) (k := k) (a := 1) hk (by simp [hu])]
  exact psum_congr fun i _ => by
    by_cases e : i = k
    · simp [e]
    · simp [e]
theorem usedC_set {xs : List Int} {u : Nat → Bool} {n k : Nat} (v : Int) (hk : k < n) (hu : u k = false) : usedC xs (fun i => decide (i = k) || u i) v n = usedC xs u v n + (if xs.getD k 0 = v then 1 else 0) := by
  unfold usedC
  rw [← psum_upd (f := fun i => if u i = true then (if xs.getD i 0 = v then 1 else 0) else 0) (k := k) (a := if xs.getD k 0 = v then 1 else 0) hk (by simp [hu])]
  exact psum_congr fun i _ => by
    by_cases e : i = k
    · simp [e]
    · simp [e]
theorem usedN_full {u : Nat → Bool} : ∀ {n : Nat}, n ≤ usedN u n → ∀ i, i < n → u i = true
  | 0, _, i, hi => by omega
  | n + 1, h, i, hi => by
    unfold usedN at h
    simp only [psum] at h
    have hle := psum_le (fun i => if u i = true then 1 else 0) 1 (fun i => by split <;> omega) n
    have hn : u n = true := by
      cases hu : u n with
      | true => rfl
      | false => rw [hu] at h; simp at h; omega
    rcases Nat.lt_or_ge i n with h1 | h1
    · refine usedN_full (u := u) (n := n) ?_ i h1
      unfold usedN
      rw [hn] at h; simp at h; omega
    · rw [show i = n by omega]; exact hn
theorem usedC_all (xs : List Int) (v : Int) : ∀ (n : Nat), n ≤ xs.length → psum (fun i => if xs.getD i 0 = v then 1 else 0) n = (xs.take n).count v
  | 0, _ => by simp [psum]
  | n + 1, h => by
    have hx : xs[n]? = some xs[n] := List.getElem?_eq_getElem (by omega)
    rw [psum, usedC_all xs v n (by omega), List.take_add_one, hx, List.count_append, List.getD_eq_getElem?_getD, hx]
    simp [List.count_cons]
theorem perm_of_used {xs ys : List Int} {u : Nat → Bool} (h : ∀ v, ys.count v = usedC xs u v xs.length) (hu : ∀ i, i < xs.length → u i = true) : ys.Perm xs := by
  rw [List.perm_iff_count]
  intro v
  rw [h v]
  unfold usedC
  rw [psum_congr (g := fun i => if xs.getD i 0 = v then 1 else 0) (fun i hi => by rw [if_pos (hu i hi)]), usedC_all xs v _ (Nat.le_refl _), List.take_length]

/-- The place of the least that is not used, among the first. -/
def pickTo (xs : List Int) (u : Nat → Bool) : Nat → Int
  | 0 => -1
  | j + 1 => if u j = true then pickTo xs u j else if pickTo xs u j < 0 then (j : Int) else if xs.getD j 0 < xs.getD (pickTo xs u j).toNat 0 then (j : Int) else pickTo xs u j
def riseRun (xs : List Int) : Nat → (Nat → Bool) × List Int
  | 0 => (fun _ => false, [])
  | k + 1 => (fun i => decide (i = (pickTo xs (riseRun xs k).1 xs.length).toNat) || (riseRun xs k).1 i, (riseRun xs k).2 ++ [xs.getD (pickTo xs (riseRun xs k).1 xs.length).toNat 0])
def rise (xs : List Int) : List Int := (riseRun xs xs.length).2
theorem pick_used {xs : List Int} {u : Nat → Bool} {j : Nat} (h : u j = true) : pickTo xs u (j + 1) = pickTo xs u j := by rw [pickTo, if_pos h]
theorem pick_first {xs : List Int} {u : Nat → Bool} {j : Nat} (h : u j = false) (hb : pickTo xs u j = -1) : pickTo xs u (j + 1) = j := by rw [pickTo, if_neg (by rw [h]; decide), hb, if_pos (by decide)]
theorem pick_less {xs : List Int} {u : Nat → Bool} {j p : Nat} {x z : Int} (h : u j = false) (hb : pickTo xs u j = (p : Int)) (hx : xs[j]? = some x) (hz : xs[p]? = some z) (hl : x < z) : pickTo xs u (j + 1) = j := by
  rw [pickTo, if_neg (by rw [h]; decide), hb, if_neg (by omega), Int.toNat_natCast, List.getD_eq_getElem?_getD, List.getD_eq_getElem?_getD, hx, hz, if_pos (by simpa using hl)]
theorem pick_keep {xs : List Int} {u : Nat → Bool} {j p : Nat} {x z : Int} (h : u j = false) (hb : pickTo xs u j = (p : Int)) (hx : xs[j]? = some x) (hz : xs[p]? = some z) (hl : ¬ x < z) : pickTo xs u (j + 1) = p := by
  rw [pickTo, if_neg (by rw [h]; decide), hb, if_neg (by omega), Int.toNat_natCast, List.getD_eq_getElem?_getD, List.getD_eq_getElem?_getD, hx, hz, if_neg (by simpa using hl)]
theorem rise_next {xs : List Int} {k p : Nat} {u : Nat → Bool} {ys : List Int} {x : Int} (h : riseRun xs k = (u, ys)) (hp : pickTo xs u xs.length = (p : Int)) (hx : xs[p]? = some x) : riseRun xs (k + 1) = (fun i => decide (i = p) || u i, ys ++ [x]) := by
  rw [riseRun, h, hp, Int.toNat_natCast, List.getD_eq_getElem?_getD, hx]; rfl

/-- The plain answer is the same numbers. -/
theorem pickTo_spec (xs : List Int) (u : Nat → Bool) : ∀ j, (pickTo xs u j = -1 ∧ ∀ i, i < j → u i = true) ∨ ∃ p : Nat, pickTo xs u j = (p : Int) ∧ p < j ∧ u p = false
  | 0 => .inl ⟨rfl, fun i hi => by omega⟩
  | j + 1 => by
    cases hu : u j with
    | true =>
      rw [pick_used hu]
      rcases pickTo_spec xs u j with ⟨h1, h2⟩ | ⟨p, h1, h2, h3⟩
      · exact .inl ⟨h1, fun i hi => by
          rcases Nat.lt_or_ge i j with h | h
          · exact h2 i h
          · rw [show i = j by omega]; exact hu⟩
      · exact .inr ⟨p, h1, by omega, h3⟩
    | false =>
      refine .inr ?_
      rcases pickTo_spec xs u j with ⟨h1, h2⟩ | ⟨p, h1, h2, h3⟩
      · exact ⟨j, pick_first hu h1, by omega, hu⟩
      · rw [pickTo, if_neg (by rw [hu]; decide), h1, if_neg (by omega)]
        by_cases hl : xs.getD j 0 < xs.getD ((p : Int)).toNat 0
        · rw [if_pos hl]; exact ⟨j, rfl, by omega, hu⟩
        · rw [if_neg hl]; exact ⟨p, rfl, by omega, h3⟩
theorem riseRun_inv (xs : List Int) : ∀ k, k ≤ xs.length → usedN (riseRun xs k).1 xs.length = k ∧ ∀ v, (riseRun xs k).2.count v = usedC xs (riseRun xs k).1 v xs.length
  | 0, _ => by
    have hz : ∀ n, psum (fun _ => 0) n = 0 := fun n => by induction n with | zero => rfl | succ n ih => rw [psum, ih]
    exact ⟨by simp [riseRun, usedN, hz], fun v => by simp [riseRun, usedC, hz]⟩
  | k + 1, hk => by
    obtain ⟨h1, h2⟩ := riseRun_inv xs k (by omega)
    obtain ⟨p, e1, e2, e3⟩ : ∃ p : Nat, pickTo xs (riseRun xs k).1 xs.length = (p : Int) ∧ p < xs.length ∧ (riseRun xs k).1 p = false := by
      rcases pickTo_spec xs (riseRun xs k).1 xs.length with ⟨_, h4⟩ | h
      · exfalso
        have h5 : usedN (riseRun xs k).1 xs.length = xs.length := by
          unfold usedN
          rw [psum_congr (g := fun _ => 1) (fun i hi => by rw [if_pos (h4 i hi)])]
          have : ∀ n, psum (fun _ => 1) n = n := fun n => by induction n with | zero => rfl | succ n ih => rw [psum, ih]
          exact this _
        omega
      · exact h
    have hx : xs[p]? = some xs[p] := List.getElem?_eq_getElem e2
    have hn : riseRun xs (k + 1) = (fun i => decide (i = p) || (riseRun xs k).1 i, (riseRun xs k).2 ++ [xs[p]]) := rise_next (by rfl) e1 hx
    rw [hn]
    refine ⟨by rw [usedN_set e2 e3, h1], fun v => ?_⟩
    rw [usedC_set v e2 e3, List.count_append, h2 v, List.getD_eq_getElem?_getD, hx]
    simp [List.count_cons]
theorem rise_perm (xs : List Int) : (rise xs).Perm xs := by
  obtain ⟨h1, h2⟩ := riseRun_inv xs xs.length (Nat.le_refl _)
  exact perm_of_used h2 (usedN_full (by omega))

set_option maxHeartbeats 2000000 in
theorem rising_any (ao : Option Addr) (len ac B : Nat) (xs : List Int) (w : World) (hA : IntSl B w ao xs) (hlen : len = xs.length) (hB : B ≤ w.heap.size) (hl : xs.length ≤ 1000) :
    Calls Tryd.prog 20 #[.slice ao len ac] w fun e w' => ∃ v ys, e = .returned v ∧ Sep w.heap.size w' [Ent.ints 3 v ys] ∧ Below w.heap.size w w' ∧ ys.Perm xs ∧ ys = rise xs := by
  subst hlen
  have HA := Lib.hid hA; clear hA
  obtain ⟨g, hg⟩ : ∃ g, g = w.heap.size := ⟨_, rfl⟩
  have HNIL := Lib.hid (Sep.nil g w)
  have hgl : g ≤ w.heap.size := by omega
  have HREF := Lib.hid (Below.refl g w)
  go_enter Tryd.func20, Tryd.ntmps20
  have HG := Lib.hid hg; clear hg
  go_wp2_with (at_make; refine wpList_make_sep rfl _ _ rfl elemB .i64 .i64 xs.length xs.length xs.length rfl rfl rfl rfl (by omega) (by unfold maxLen; omega) HNIL.out hgl ?_)
  intro w1 hsep hbel hsz
  obtain ⟨gu, hgu⟩ : ∃ gu, gu = w.heap.size := ⟨_, rfl⟩
  rw [← hgu] at hsep
  have hggu : g ≤ gu := by omega
  have hs1 : Sep g w1 [Ent.ints 3 (.slice none 0 0) [], Ent.row (.slice (some ⟨gu, 0, none⟩) xs.length xs.length) xs.length 1 4 (arr (fun i => .bool ((fun _ => false) i)) xs.length)] := by
    rw [show arr (fun i => Value.bool ((fun _ => false) i)) xs.length = (madeCells #[.bool false] xs.length).toList by rw [madeOne]; exact (arr_const _ _).symm]
    exact hsep.intsNil _
  have HS1 := Lib.hid hs1
  have HB1 := Lib.hid (HREF.out.trans (hbel.mono hgl))
  rw [← hgu]
  clear hs1 hsep hbel hsz hgu
  go_wp2
  go_loopg [3, 5] xs.length (fun gk v r wr => ∃ (k : Nat) (ys : List Int) (u : Nat → Bool), gk + k = xs.length ∧ r = .int .i64 k ∧ Hid (ys.length = k) ∧ ys.length ≤ 1000 ∧ Hid (usedN u xs.length = k) ∧ Hid (∀ v, ys.count v = usedC xs u v xs.length) ∧ Hid (riseRun xs k = (u, ys)) ∧
    Sep g wr [Ent.ints 3 v ys, Ent.row (.slice (some ⟨gu, 0, none⟩) xs.length xs.length) xs.length 1 4 (arr (fun i => .bool (u i)) xs.length)] ∧ Below g w wr)
  case atStart =>
    have hz : ∀ n, psum (fun _ => 0) n = 0 := fun n => by induction n with | zero => rfl | succ n ih => rw [psum, ih]
    refine ⟨0, [], fun _ => false, rfl, rfl, rfl, by simp, ?_, ?_, rfl, HS1.out, HB1.out⟩
    · simp only [Hid, usedN]; simp [hz]
    · intro v; simp [usedC, hz]
  case round =>
    obtain ⟨gi, rfl⟩ : ∃ gi, gi = gk := ⟨_, rfl⟩
    obtain ⟨k, ys, u, hgk, rfl, hyl, hyb, hun, hcn, hrr, hsep, hbel⟩ := hrel
    obtain ⟨av, cv, rfl, hcv, _⟩ := hsep.intsShape (A := [])
    have HS2 := Lib.hid hsep; clear hsep
    have HB2 := Lib.hid hbel; clear hbel
    by_cases hlt : k < xs.length
    · go_wp2
      go_loopg [6, 7] xs.length (fun gk b i wr => ∃ (j : Nat) (bv : Int), gk + j = xs.length ∧ i = .int .i64 j ∧ b = .int .i64 bv ∧ Hid ((bv = -1 ∧ ∀ i, i < j → u i = true) ∨ (∃ p : Nat, bv = (p : Int) ∧ p < j ∧ u p = false)) ∧ Hid (pickTo xs u j = bv) ∧
        Sep g wr [Ent.ints 3 (.slice av ys.length cv) ys, Ent.row (.slice (some ⟨gu, 0, none⟩) xs.length xs.length) xs.length 1 4 (arr (fun i => .bool (u i)) xs.length)] ∧ Below g w wr)
      case atStart => exact ⟨0, -1, rfl, rfl, rfl, .inl ⟨rfl, fun i hi => by omega⟩, rfl, HS2.out, HB2.out⟩
      case round =>
        obtain ⟨gj, rfl⟩ : ∃ gj, gj = gk := ⟨_, rfl⟩
        obtain ⟨j, bv, hgj, rfl, rfl, hbv, hpk, hsep, hbel⟩ := hrel
        have HS3 := Lib.hid hsep; clear hsep
        have HB3 := Lib.hid hbel; clear hbel
        have hgW : w.heap.size = g := HG.out.symm
        have hBg : B ≤ g := by omega
        by_cases hjl : j < xs.length
        · obtain ⟨o1, _, _⟩ := arrB_at (A := [_]) HS3.out hjl
          obtain ⟨x, hx⟩ : ∃ x, xs[j]? = some x := ⟨_, List.getElem?_eq_getElem hjl⟩
          obtain ⟨b, off, rfl, hbb, cx⟩ := (HA.out.below (HB3.out.mono hBg)) j x hx
          have HC : Hid (∀ p : Nat, p < xs.length → ∃ z, wr.cell? ⟨b, off + p, none⟩ = some (.int .i64 z) ∧ xs[p]? = some z) := fun p hp => by
            obtain ⟨z, hz⟩ : ∃ z, xs[p]? = some z := ⟨_, List.getElem?_eq_getElem hp⟩
            obtain ⟨b', off', he, _, cz⟩ := (HA.out.below (HB3.out.mono hBg)) p z hz
            simp only [Option.some.injEq, Addr.mk.injEq, and_true] at he
            obtain ⟨rfl, rfl⟩ := he
            exact ⟨z, cz, hz⟩
          have HXJ := Lib.hid hx
          clear hx hgW
          cases hu : u j with
          | true =>
            rw [hu] at o1
            have HU := Lib.hid hu; clear hu
            go_wp2_with fail
            go_quiet (fail)
            have HSD := Lib.hid (HS3.out.drewN nq)
            have HBD := Lib.hid (HB3.out.trans (below_drewN g wr nq))
            clear o1 cx HS3 HB3 HC
            generalize wr.drewN nq = wq at *
            go_wp2
            go_roundg (gj - 1)
            case measure => omega
            case rel =>
              refine ⟨j + 1, bv, by omega, by go_num, rfl, ?_, (pick_used HU.out).trans hpk.out, HSD.out, HBD.out⟩
              rcases hbv.out with ⟨e1, e2⟩ | ⟨p, e1, e2, e3⟩
              · exact .inl ⟨e1, fun i hi => by
                  rcases Nat.lt_or_ge i j with h1 | h1
                  · exact e2 i h1
                  · rw [show i = j by omega]; exact HU.out⟩
              · exact .inr ⟨p, e1, by omega, e3⟩
          | false =>
            rw [hu] at o1
            have HU := Lib.hid hu; clear hu
            rcases hbv.out with ⟨rfl, e2⟩ | ⟨p, rfl, e2, e3⟩
            · clear e2
              go_wp2_with fail
              go_quiet (fail)
              have HSD := Lib.hid (HS3.out.drewN nq)
              have HBD := Lib.hid (HB3.out.trans (below_drewN g wr nq))
              clear o1 cx HS3 HB3 HC
              generalize wr.drewN nq = wq at *
              go_wp2
              go_roundg (gj - 1)
              case measure => omega
              case rel => exact ⟨j + 1, (j : Int), by omega, by go_num, rfl, .inr ⟨j, rfl, by omega, HU.out⟩, pick_first HU.out hpk.out, HSD.out, HBD.out⟩
            · obtain ⟨z, cz, hzz⟩ := HC.out p (by omega)
              have HZZ := Lib.hid hzz; clear hzz
              have hd0 : decide ((p : Int) < 0) = false := decide_eq_false (by omega)
              have E3 := Lib.hid e3; clear e3
              by_cases hxz : x < z
              · have HXZ := Lib.hid hxz
                have hd1 : decide (x < z) = true := decide_eq_true hxz
                go_wp2_with fail
                go_quiet (fail)
                have HSD := Lib.hid (HS3.out.drewN nq)
                have HBD := Lib.hid (HB3.out.trans (below_drewN g wr nq))
                clear o1 cx cz HS3 HB3 HC
                generalize wr.drewN nq = wq at *
                go_wp2
                go_roundg (gj - 1)
                case measure => omega
                case rel => exact ⟨j + 1, (j : Int), by omega, by go_num, rfl, .inr ⟨j, rfl, by omega, HU.out⟩, pick_less HU.out hpk.out HXJ.out HZZ.out HXZ.out, HSD.out, HBD.out⟩
              · have HXZ := Lib.hid hxz
                have hd1 : decide (x < z) = false := decide_eq_false hxz
                go_wp2_with fail
                go_quiet (fail)
                have HSD := Lib.hid (HS3.out.drewN nq)
                have HBD := Lib.hid (HB3.out.trans (below_drewN g wr nq))
                clear o1 cx cz HS3 HB3 HC
                generalize wr.drewN nq = wq at *
                go_wp2
                go_roundg (gj - 1)
                case measure => omega
                case rel => exact ⟨j + 1, (p : Int), by omega, by go_num, rfl, .inr ⟨p, rfl, by omega, E3.out⟩, pick_keep HU.out hpk.out HXJ.out HZZ.out (by have := HXZ.out; omega), HSD.out, HBD.out⟩
        · have hjn : j = xs.length := by omega
          obtain ⟨p, rfl, hp, hup⟩ : ∃ p : Nat, bv = (p : Int) ∧ p < xs.length ∧ u p = false := by
            rcases hbv.out with ⟨_, e2⟩ | ⟨p, e1, e2, e3⟩
            · exfalso
              have h1 : usedN u xs.length = xs.length := by
                unfold usedN
                rw [psum_congr (g := fun _ => 1) (fun i hi => by rw [if_pos (e2 i (by omega))])]
                have : ∀ n, psum (fun _ => 1) n = n := fun n => by induction n with | zero => rfl | succ n ih => rw [psum, ih]
                exact this _
              have := hun.out
              omega
            · exact ⟨p, e1, by omega, e3⟩
          obtain ⟨o1, o2, oset⟩ := arrB_at (A := [_]) HS3.out hp
          obtain ⟨x, hx⟩ : ∃ x, xs[p]? = some x := ⟨_, List.getElem?_eq_getElem hp⟩
          have hset := oset true
          have hbs := HB3.out.setCell (p := ⟨gu, p, none⟩) hggu (.bool true)
          have HSET := Lib.hid hset
          have HBS := Lib.hid hbs
          clear hset hbs oset
          have HUP := Lib.hid hup; clear hup
          have HXP := Lib.hid hx
          obtain ⟨b, off, rfl, hbb, cx⟩ := (HA.out.below (HBS.out.mono hBg)) p x hx
          clear hx hgW
          have hgl2 : g ≤ (wr.setCell ⟨gu, p, none⟩ (.bool true)).heap.size := by have := HBS.out.size; rw [← HG.out] at this; exact this
          have HGL2 := Lib.hid hgl2; clear hgl2
          have HJN := Lib.hid hjn; clear hjn
          go_upto_region 13 with fail
          clear o1 o2 HS3 HB3
          generalize wr.setCell ⟨gu, p, none⟩ (.bool true) = wt at *
          go_wp2_with (at_builtin; refine wpList_append_int rfl (.tmp 47) (.tmp 52) rfl elemInt8 (A := []) rfl HSET.out HGL2.out rfl (by omega) ?_)
          intro v' w5 hs5 hb5
          have HS5 := Lib.hid hs5
          have HB5 := Lib.hid (HBS.out.trans hb5)
          clear hs5 hb5
          go_wp2
          go_roundg (gi - 1)
          case measure => omega
          case rel =>
            refine ⟨k + 1, ys ++ [x], fun i => decide (i = p) || u i, by omega, by go_num, by have := hyl.out; simp [Hid, this], by have := hyl.out; simp; omega, ?_, ?_, rise_next hrr.out (by have := hpk.out; rw [HJN.out] at this; exact this) HXP.out, HS5.out, HB5.out⟩
            · simp only [Hid]; rw [usedN_set hp HUP.out, hun.out]
            · intro v
              rw [usedC_set v hp HUP.out, List.count_append, hcn.out v, List.getD_eq_getElem?_getD, HXP.out]
              simp [List.count_cons]
    · have hkn : k = xs.length := by omega
      have hper : ys.Perm xs := perm_of_used hcn.out (usedN_full (by have := hun.out; omega))
      have HPE := Lib.hid hper; clear hper
      have hri : ys = rise xs := by unfold rise; rw [← hkn, hrr.out]
      have HRI := Lib.hid hri; clear hri
      have HKN := Lib.hid hkn; clear hkn
      go_wp2
      go_ret
      refine ⟨_, ys, rfl, ?_, by have h9 := HB2.out; rw [HG.out] at h9; exact h9, HPE.out, HRI.out⟩
      have h8 := HS2.out.sub (List.Sublist.cons_cons _ (List.nil_sublist _))
      rw [HG.out] at h8
      exact h8

/-- Nobody who is not used is less than the one that is picked. -/
theorem pickTo_least (xs : List Int) (u : Nat → Bool) : ∀ j p, pickTo xs u j = ((p : Nat) : Int) → ∀ i, i < j → u i = false → xs.getD p 0 ≤ xs.getD i 0
  | 0, p, h, i, hi, _ => by omega
  | j + 1, p, h, i, hi, hu => by
    cases huj : u j with
    | true =>
      rw [pick_used huj] at h
      exact pickTo_least xs u j p h i (by rcases Nat.lt_or_ge i j with h1 | h1; exact h1; rw [show i = j by omega, huj] at hu; cases hu) hu
    | false =>
      rcases pickTo_spec xs u j with ⟨h1, h2⟩ | ⟨q, h1, h2, h3⟩
      · rw [pick_first huj h1] at h
        have : p = j := by omega
        subst this
        rcases Nat.lt_or_ge i p with h4 | h4
        · rw [h2 i h4] at hu; cases hu
        · rw [show i = p by omega]; exact Int.le_refl _
      · rw [pickTo, if_neg (by rw [huj]; decide), h1, if_neg (by omega), Int.toNat_natCast] at h
        have ih := pickTo_least xs u j q h1
        by_cases hl : xs.getD j 0 < xs.getD q 0
        · rw [if_pos hl] at h
          have : p = j := by omega
          subst this
          rcases Nat.lt_or_ge i p with h4 | h4
          · have := ih i h4 hu; omega
          · rw [show i = p by omega]; exact Int.le_refl _
        · rw [if_neg hl] at h
          have : p = q := by omega
          subst this
          rcases Nat.lt_or_ge i j with h4 | h4
          · exact ih i h4 hu
          · rw [show i = j by omega]; omega
theorem riseRun_sorted (xs : List Int) : ∀ k, k ≤ xs.length → (riseRun xs k).2.Pairwise (· ≤ ·) ∧ ∀ y ∈ (riseRun xs k).2, ∀ i, i < xs.length → (riseRun xs k).1 i = false → y ≤ xs.getD i 0
  | 0, _ => ⟨List.Pairwise.nil, by simp [riseRun]⟩
  | k + 1, hk => by
    obtain ⟨h1, h2⟩ := riseRun_sorted xs k (by omega)
    obtain ⟨h3, -⟩ := riseRun_inv xs k (by omega)
    obtain ⟨p, e1, e2, e3⟩ : ∃ p : Nat, pickTo xs (riseRun xs k).1 xs.length = (p : Int) ∧ p < xs.length ∧ (riseRun xs k).1 p = false := by
      rcases pickTo_spec xs (riseRun xs k).1 xs.length with ⟨_, h4⟩ | h
      · exfalso
        have h5 : usedN (riseRun xs k).1 xs.length = xs.length := by
          unfold usedN
          rw [psum_congr (g := fun _ => 1) (fun i hi => by rw [if_pos (h4 i hi)])]
          have : ∀ n, psum (fun _ => 1) n = n := fun n => by induction n with | zero => rfl | succ n ih => rw [psum, ih]
          exact this _
        omega
      · exact h
    have hx : xs[p]? = some xs[p] := List.getElem?_eq_getElem e2
    have hd : xs.getD p 0 = xs[p] := by rw [List.getD_eq_getElem?_getD, hx]; rfl
    have hn : riseRun xs (k + 1) = (fun i => decide (i = p) || (riseRun xs k).1 i, (riseRun xs k).2 ++ [xs[p]]) := rise_next (by rfl) e1 hx
    rw [hn]
    refine ⟨List.pairwise_append.2 ⟨h1, by simp, fun a ha b hb => ?_⟩, fun y hy i hi hu => ?_⟩
    · simp at hb
      have := h2 a ha p e2 e3
      rw [hb, ← hd]; exact this
    · simp only [Bool.or_eq_false_iff, decide_eq_false_iff_not] at hu
      rcases List.mem_append.1 hy with hy | hy
      · exact h2 y hy i hi hu.2
      · simp at hy
        rw [hy, ← hd]
        exact pickTo_least xs _ _ p e1 i hi hu.2
theorem rise_sorted (xs : List Int) : (rise xs).Pairwise (· ≤ ·) := (riseRun_sorted xs xs.length (Nat.le_refl _)).1
/-- Two rising rows of the same numbers are one. -/
theorem sorted_same : ∀ {a b : List Int}, a.Pairwise (· ≤ ·) → b.Pairwise (· ≤ ·) → a.Perm b → a = b
  | [], b, _, _, h => (List.Perm.nil_eq h)
  | x :: a, [], _, _, h => by have := h.length_eq; simp at this
  | x :: a, y :: b, ha, hb, h => by
    rw [List.pairwise_cons] at ha hb
    have hxy : x = y := by
      have h1 : x ∈ y :: b := h.mem_iff.1 (List.mem_cons_self ..)
      have h2 : y ∈ x :: a := h.mem_iff.2 (List.mem_cons_self ..)
      rcases List.mem_cons.1 h1 with h1 | h1
      · exact h1
      · rcases List.mem_cons.1 h2 with h2 | h2
        · exact h2.symm
        · have := hb.1 x h1; have := ha.1 y h2; omega
    subst hxy
    rw [sorted_same ha.2 hb.2 (List.Perm.cons_inv h)]
end Go.Proofs.YtnmddgjgmdegoaaDoor
