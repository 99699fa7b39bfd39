/- stp.Used. -/
import Derived.Test.YtnmddgjgmdegoaaStpKit
import Derived.Test.YtnmddgjgmdegoaaUsedPlain
import Derived.BigQuiet
namespace Go.Proofs.Ytnmddgjgmdegoaa
open Go.RowKit
set_option linter.unusedVariables false

theorem madeF (n : Nat) : (madeCells #[Value.bool false] n).toList = arr (fun _ => Value.bool false) n := by
  have := madeCells_flat #[Value.bool false] n
  rw [← arr_const]
  simpa [List.flatten_replicate_singleton] using this
/-- The row of what is used. -/
abbrev boolsE (g n : Nat) (f : Nat → Bool) : Ent := Ent.row (.slice (some ⟨g, 0, none⟩) n n) n 1 4 (arr (fun k => Value.bool (f k)) n)

theorem used_err (n : Int) (ao : Option Addr) (len ac B : Nat) (L : List Lnk) (c : Int) (w : World) (hA : RowSl B w ao 3 (L.map lnkC)) (hlen : len = L.length) (hl : L.length ≤ 9223372036854775807) (hB : B ≤ w.heap.size) (hc : c = vCode n L) (h0 : ¬ c = 0) :
    Calls Try.prog 30 #[.int .i64 n, .slice ao len ac] w fun e w' => e = .returned (.tuple #[.slice none 0 0, .iface 76 (.int .i64 c)]) ∧ Below w.heap.size w w' := by
  subst hlen
  have HA := Lib.hid hA; clear hA
  have HC := Lib.hid hc
  have H0 := Lib.hid h0
  clear hc h0
  go_enter Try.func30, Try.ntmps30
  go_wp2_with fail
  refine (tree_err _ _ _ _ _ L c _ HA.out rfl hl hB HC.out H0.out).mono ?_
  rintro e w1 ⟨rfl, hb⟩
  have HB := Lib.hid hb; clear hb
  go_wp2
  go_ret2
  exact ⟨rfl, HB.out⟩

set_option maxHeartbeats 4000000 in
set_option maxRecDepth 100000 in
theorem used_ok (n : Nat) (ao : Option Addr) (len ac B0 : Nat) (L : List Lnk) (w : World) (hA : RowSl B0 w ao 3 (L.map lnkC)) (hlen : len = L.length) (hB : B0 ≤ w.heap.size) (hok : VOk n L) :
    Calls Try.prog 30 #[.int .i64 n, .slice ao len ac] w fun e w' => ∃ gd, e = .returned (.tuple #[.slice (some ⟨gd, 0, none⟩) L.length L.length, .nilIface]) ∧
      Sep w.heap.size w' [boolsE gd L.length (usedR n L)] ∧ Below w.heap.size w w' := by
  subst hlen
  have hn1 := hok.n1
  have hn8 := hok.n8
  have hl32 := hok.few
  have HA := Lib.hid hA; clear hA
  have HOK := Lib.hid hok; clear hok
  obtain ⟨g, hg⟩ : ∃ g, g = w.heap.size := ⟨_, rfl⟩
  have hB0 : B0 ≤ g := by omega
  have HG := Lib.hid hg; clear hg
  have hci : Try.prog.cellsOf 3 = 1 := by kernel_rfl
  go_enter Try.func30, Try.ntmps30
  go_wp2_with fail
  refine (tree_ok n _ _ _ _ L _ HA.out rfl hB HOK.out).mono ?_
  rintro e w1 ⟨vr, vf, vo, rfl, hs, hb⟩
  obtain ⟨O, hO⟩ : ∃ O, O = overR n L := ⟨_, rfl⟩
  have hs : Sep w.heap.size w1 [Ent.ints 3 vo (arr O n)] := by rw [hO]; exact hs.sub (List.Sublist.cons _ (List.Sublist.cons _ (List.Sublist.refl _)))
  rw [← HG.out] at hs hb
  obtain ⟨ao', co, rfl, hc', _⟩ := hs.intsShape (A := []) (C := [])
  rw [arr_len] at hs hc' ⊢
  obtain ⟨go, fo, rfl, _⟩ := arrI_at (A := []) hs (show 0 < n by omega)
  have HO := Lib.hid hO
  have HS1 := Lib.hid hs
  have HB1 := Lib.hid hb
  have hg1 : g ≤ w1.heap.size := by have := HB1.out.size; rw [← HG.out] at this; exact this
  clear hs hb hO hc'
  go_wp2_with (at_make; refine wpList_make_sep rfl _ _ rfl elemB .i64 .i64 L.length L.length L.length rfl rfl rfl rfl (by omega) (by unfold maxLen; omega) HS1.out hg1 ?_)
  intro w2 hs hb hsz
  obtain ⟨gd, hgd⟩ : ∃ gd, gd = w1.heap.size := ⟨_, rfl⟩
  rw [← hgd] at hs ⊢
  have hs2 : Sep g w2 [boolsE gd L.length (usedT L O 0), Ent.ints 3 (.slice (some ⟨go, fo, none⟩) n co) (arr O n)] := by
    unfold boolsE
    rw [show (fun k => Value.bool (usedT L O 0 k)) = (fun _ => Value.bool false) from rfl, ← madeF]
    simpa [Value.cells] using hs
  have HS2 := Lib.hid hs2
  have HB2 := Lib.hid (HB1.out.trans (hb.mono hg1))
  clear hs hb hsz hs2 hgd HS1 HB1 hg1
  go_wp2
  go_loopw [33] (fun iv wr => ∃ i : Nat, i ≤ n ∧ iv = .int .i64 i ∧ Sep g wr [boolsE gd L.length (usedT L O i), Ent.ints 3 (.slice (some ⟨go, fo, none⟩) n co) (arr O n)] ∧ Below g w wr) (fun iv _ => n - (intOf iv).toNat)
  case atStart => exact ⟨0, Nat.zero_le _, rfl, HS2.out, HB2.out⟩
  case round =>
    obtain ⟨i, hi, rfl, hsep, hbel⟩ := hrel
    have HS3 := Lib.hid hsep; clear hsep
    have HB3 := Lib.hid hbel; clear hbel
    clear HS2 HB2
    by_cases hin : i < n
    · have hii : (i : Int) < (n : Int) := by omega
      have hi0 : (0 : Int) ≤ (i : Int) := by omega
      obtain ⟨go', fo', he, _, o1, _, _⟩ := arrI_at (A := [_]) HS3.out hin
      simp only [Option.some.injEq, Addr.mk.injEq, and_true] at he
      obtain ⟨rfl, rfl⟩ := he
      obtain ⟨up, hup⟩ : ∃ up, up = O i := ⟨_, rfl⟩
      rw [← hup] at o1
      by_cases hneg : up < 0
      · have hne : usedT L O (i + 1) = usedT L O i := by
          conv => lhs; unfold usedT
          rw [if_pos (by rw [← hup]; exact hneg)]
        have HNE := Lib.hid hne; clear hne hup
        go_wp2
        clear o1
        go_roundw
        case rel => exact ⟨i + 1, by omega, by go_num, by rw [HNE.out]; exact HS3.out, HB3.out⟩
        case measure => simp [intOf]; omega
      · have hng : decide (up < 0) = false := decide_eq_false hneg
        have hne : usedT L O (i + 1) = updf (usedT L O i) (bestOf L i up).toNat true := by
          conv => lhs; unfold usedT
          rw [if_neg (by rw [← hup]; exact hneg), ← hup]
        have HUP := Lib.hid hup
        have HNE := Lib.hid hne
        have HNEG := Lib.hid hneg
        clear hup hne hneg
        go_wp2
        clear o1 hng
        go_loopw [13, 42] (fun bv kv wr => ∃ (q : Nat) (b : Int), q ≤ L.length ∧ kv = .int .i64 q ∧ bv = .int .i64 b ∧ Hid (b = bIdx L (i : Int) up q) ∧ Sep g wr [boolsE gd L.length (usedT L O i), Ent.ints 3 (.slice (some ⟨go, fo, none⟩) n co) (arr O n)] ∧ Below g w wr) (fun _ kv _ => L.length - (intOf kv).toNat)
        case atStart => exact ⟨0, -1, Nat.zero_le _, rfl, rfl, Lib.hid rfl, HS3.out, HB3.out⟩
        case round =>
          obtain ⟨q, bv, hq, rfl, rfl, HBV, hsep, hbel⟩ := hrel
          have HS7 := Lib.hid hsep; clear hsep
          have HB7 := Lib.hid hbel; clear hbel
          clear HS3 HB3
          have hg7 : g ≤ wr.heap.size := by have := HB7.out.size; rw [← HG.out] at this; exact this
          by_cases hql : q < L.length
          · have hqi : (q : Int) < (L.length : Int) := by omega
            have hq0 : (0 : Int) ≤ (q : Int) := by omega
            obtain ⟨x, hx⟩ : ∃ x, L[q]? = some x := ⟨_, List.getElem?_eq_getElem hql⟩
            obtain ⟨b, off, rfl, hbb, c0, c1, c2⟩ := (HA.out.below (HB7.out.mono hB0)).lnk hx
            obtain ⟨xa, xb, xc⟩ := x
            simp only at c0 c1 c2
            have hs8 := Sep.blkNew HS7.out hg7 #[.int .i64 xa, .int .i64 xb, .int .i64 xc] 71
            have hb8 := HB7.out.alloc hg7 (.cells #[.int .i64 xa, .int .i64 xb, .int .i64 xc] 71)
            have HS8 := Lib.hid hs8
            have HB8 := Lib.hid hb8
            have HBA := Lib.hid (hb8.mono hB0)
            clear hs8 hb8
            go_upto_region 13 with fail
            clear c0 c1 c2
            obtain ⟨gl, hgl⟩ : ∃ gl, gl = wr.heap.size := ⟨_, rfl⟩
            rw [← hgl] at HS8 ⊢
            clear hg7
            generalize wr.alloc (.cells #[.int .i64 xa, .int .i64 xb, .int .i64 xc] 71) = w8 at *
            obtain ⟨c0, _⟩ := Sep.blkAt (A := []) HS8.out (j := 0) rfl
            obtain ⟨c1, _⟩ := Sep.blkAt (A := []) HS8.out (j := 1) rfl
            obtain ⟨c2, _⟩ := Sep.blkAt (A := []) HS8.out (j := 2) rfl
            clear hgl HS7 HB7
            by_cases h1 : xa = (i : Int)
            · have h1b : (xa == (i : Int)) = true := by simp [h1]
              by_cases h2 : xb = up
              · have h2b : (xb == up) = true := by simp [h2]
                have hj : Joins (i : Int) up (xa, xb, xc) := by unfold Joins; simp only; omega
                have hsp := bIdx_spec L (i : Int) up q (by omega)
                rw [← HBV.out] at hsp
                rcases hsp with ⟨hb1, _⟩ | ⟨k', x', hb1, hk', hx', _, _⟩
                · have hst := bIdx_yes hx ⟨hj, .inl (by rw [← HBV.out, hb1]; decide)⟩
                  have HST := Lib.hid hst
                  subst hb1
                  clear hj hst hx
                  try clear h4
                  try clear h3
                  try clear h2
                  try clear h1
                  go_wp2_with fail
                  go_quiet (fail)
                  have HSN := Lib.hid ((HS8.out.drewN nq).sub (List.sublist_cons_self _ _))
                  have HBN := Lib.hid (HB8.out.trans (below_drewN _ w8 nq))
                  clear c0 c1 c2 HS8 HB8
                  generalize w8.drewN nq = wn at *
                  go_wp2
                  go_roundw
                  case rel => exact ⟨q + 1, (q : Int), by omega, by go_num, rfl, Lib.hid HST.out.symm, HSN.out, HBN.out⟩
                  case measure => simp [intOf]; try omega
                · have hca := costAt_nat hx'
                  obtain ⟨bb', off', he, _, _, _, d2⟩ := ((HA.out.below HBA.out)).lnk hx'
                  simp only [Option.some.injEq, Addr.mk.injEq, and_true] at he
                  obtain ⟨rfl, rfl⟩ := he
                  obtain ⟨ya, yb, yc⟩ := x'
                  simp only at d2 hca
                  have hk1 : (k' : Int) < (L.length : Int) := by omega
                  have hk0 : (0 : Int) ≤ (k' : Int) := by omega
                  have hkn : decide ((k' : Int) < 0) = false := decide_eq_false (by omega)
                  by_cases hlt2 : xc < yc
                  · have hst := bIdx_yes hx ⟨hj, .inr (by rw [← HBV.out, hb1, hca]; exact hlt2)⟩
                    have HST := Lib.hid hst
                    subst hb1
                    clear hj hst hx hx' hca hk'
                    try clear h4
                    try clear h3
                    try clear h2
                    try clear h1
                    go_wp2_with fail
                    go_quiet (fail)
                    clear d2
                    have HSN := Lib.hid ((HS8.out.drewN nq).sub (List.sublist_cons_self _ _))
                    have HBN := Lib.hid (HB8.out.trans (below_drewN _ w8 nq))
                    clear c0 c1 c2 HS8 HB8
                    generalize w8.drewN nq = wn at *
                    go_wp2
                    go_roundw
                    case rel => exact ⟨q + 1, (q : Int), by omega, by go_num, rfl, Lib.hid HST.out.symm, HSN.out, HBN.out⟩
                    case measure => simp [intOf]; try omega
                  · have hst := (bIdx_no hx (fun h => by
                      have h' := h.2
                      rw [← HBV.out, hb1, hca] at h'
                      rcases h' with h' | h'
                      · omega
                      · exact hlt2 h')).trans HBV.out.symm
                    have HST := Lib.hid hst
                    have hlt3 : decide (xc < yc) = false := decide_eq_false hlt2
                    subst hb1
                    clear hj hst hx hx' hca hk' hlt2
                    try clear h4
                    try clear h3
                    try clear h2
                    try clear h1
                    go_wp2_with fail
                    go_quiet (fail)
                    clear d2
                    have HSN := Lib.hid ((HS8.out.drewN nq).sub (List.sublist_cons_self _ _))
                    have HBN := Lib.hid (HB8.out.trans (below_drewN _ w8 nq))
                    clear c0 c1 c2 HS8 HB8
                    generalize w8.drewN nq = wn at *
                    go_wp2
                    go_roundw
                    case rel => exact ⟨q + 1, (k' : Int), by omega, by go_num, rfl, Lib.hid HST.out.symm, HSN.out, HBN.out⟩
                    case measure => simp [intOf]; try omega
              · have h2b : (xb == up) = false := by simp [h2]
                by_cases h3 : xa = up
                · have h3b : (xa == up) = true := by simp [h3]
                  have h4 : ¬ xb = (i : Int) := fun h => h2 (by omega)
                  have h4b : (xb == (i : Int)) = false := by simp [h4]
                  have hnj : ¬ Joins (i : Int) up (xa, xb, xc) := by unfold Joins; simp only; omega
                  have hst := (bIdx_no hx (fun h => hnj h.1)).trans HBV.out.symm
                  have HST := Lib.hid hst
                  clear hnj hst hx
                  try clear h4
                  try clear h3
                  try clear h2
                  try clear h1
                  go_wp2_with fail
                  go_quiet (fail)
                  have HSN := Lib.hid ((HS8.out.drewN nq).sub (List.sublist_cons_self _ _))
                  have HBN := Lib.hid (HB8.out.trans (below_drewN _ w8 nq))
                  clear c0 c1 c2 HS8 HB8
                  generalize w8.drewN nq = wn at *
                  go_wp2
                  go_roundw
                  case rel => exact ⟨q + 1, bv, by omega, by go_num, rfl, Lib.hid HST.out.symm, HSN.out, HBN.out⟩
                  case measure => simp [intOf]; try omega
                · have h3b : (xa == up) = false := by simp [h3]
                  have hnj : ¬ Joins (i : Int) up (xa, xb, xc) := by unfold Joins; simp only; omega
                  have hst := (bIdx_no hx (fun h => hnj h.1)).trans HBV.out.symm
                  have HST := Lib.hid hst
                  clear hnj hst hx
                  try clear h4
                  try clear h3
                  try clear h2
                  try clear h1
                  go_wp2_with fail
                  go_quiet (fail)
                  have HSN := Lib.hid ((HS8.out.drewN nq).sub (List.sublist_cons_self _ _))
                  have HBN := Lib.hid (HB8.out.trans (below_drewN _ w8 nq))
                  clear c0 c1 c2 HS8 HB8
                  generalize w8.drewN nq = wn at *
                  go_wp2
                  go_roundw
                  case rel => exact ⟨q + 1, bv, by omega, by go_num, rfl, Lib.hid HST.out.symm, HSN.out, HBN.out⟩
                  case measure => simp [intOf]; try omega
            · have h1b : (xa == (i : Int)) = false := by simp [h1]
              by_cases h3 : xa = up
              · have h3b : (xa == up) = true := by simp [h3]
                by_cases h4 : xb = (i : Int)
                · have h4b : (xb == (i : Int)) = true := by simp [h4]
                  have hj : Joins (i : Int) up (xa, xb, xc) := by unfold Joins; simp only; omega
                  have hsp := bIdx_spec L (i : Int) up q (by omega)
                  rw [← HBV.out] at hsp
                  rcases hsp with ⟨hb1, _⟩ | ⟨k', x', hb1, hk', hx', _, _⟩
                  · have hst := bIdx_yes hx ⟨hj, .inl (by rw [← HBV.out, hb1]; decide)⟩
                    have HST := Lib.hid hst
                    subst hb1
                    clear hj hst hx
                    try clear h4
                    try clear h3
                    try clear h2
                    try clear h1
                    go_wp2_with fail
                    go_quiet (fail)
                    have HSN := Lib.hid ((HS8.out.drewN nq).sub (List.sublist_cons_self _ _))
                    have HBN := Lib.hid (HB8.out.trans (below_drewN _ w8 nq))
                    clear c0 c1 c2 HS8 HB8
                    generalize w8.drewN nq = wn at *
                    go_wp2
                    go_roundw
                    case rel => exact ⟨q + 1, (q : Int), by omega, by go_num, rfl, Lib.hid HST.out.symm, HSN.out, HBN.out⟩
                    case measure => simp [intOf]; try omega
                  · have hca := costAt_nat hx'
                    obtain ⟨bb', off', he, _, _, _, d2⟩ := ((HA.out.below HBA.out)).lnk hx'
                    simp only [Option.some.injEq, Addr.mk.injEq, and_true] at he
                    obtain ⟨rfl, rfl⟩ := he
                    obtain ⟨ya, yb, yc⟩ := x'
                    simp only at d2 hca
                    have hk1 : (k' : Int) < (L.length : Int) := by omega
                    have hk0 : (0 : Int) ≤ (k' : Int) := by omega
                    have hkn : decide ((k' : Int) < 0) = false := decide_eq_false (by omega)
                    by_cases hlt2 : xc < yc
                    · have hst := bIdx_yes hx ⟨hj, .inr (by rw [← HBV.out, hb1, hca]; exact hlt2)⟩
                      have HST := Lib.hid hst
                      subst hb1
                      clear hj hst hx hx' hca hk'
                      try clear h4
                      try clear h3
                      try clear h2
                      try clear h1
                      go_wp2_with fail
                      go_quiet (fail)
                      clear d2
                      have HSN := Lib.hid ((HS8.out.drewN nq).sub (List.sublist_cons_self _ _))
                      have HBN := Lib.hid (HB8.out.trans (below_drewN _ w8 nq))
                      clear c0 c1 c2 HS8 HB8
                      generalize w8.drewN nq = wn at *
                      go_wp2
                      go_roundw
                      case rel => exact ⟨q + 1, (q : Int), by omega, by go_num, rfl, Lib.hid HST.out.symm, HSN.out, HBN.out⟩
                      case measure => simp [intOf]; try omega
                    · have hst := (bIdx_no hx (fun h => by
                        have h' := h.2
                        rw [← HBV.out, hb1, hca] at h'
                        rcases h' with h' | h'
                        · omega
                        · exact hlt2 h')).trans HBV.out.symm
                      have HST := Lib.hid hst
                      have hlt3 : decide (xc < yc) = false := decide_eq_false hlt2
                      subst hb1
                      clear hj hst hx hx' hca hk' hlt2
                      try clear h4
                      try clear h3
                      try clear h2
                      try clear h1
                      go_wp2_with fail
                      go_quiet (fail)
                      clear d2
                      have HSN := Lib.hid ((HS8.out.drewN nq).sub (List.sublist_cons_self _ _))
                      have HBN := Lib.hid (HB8.out.trans (below_drewN _ w8 nq))
                      clear c0 c1 c2 HS8 HB8
                      generalize w8.drewN nq = wn at *
                      go_wp2
                      go_roundw
                      case rel => exact ⟨q + 1, (k' : Int), by omega, by go_num, rfl, Lib.hid HST.out.symm, HSN.out, HBN.out⟩
                      case measure => simp [intOf]; try omega
                · have h4b : (xb == (i : Int)) = false := by simp [h4]
                  have hnj : ¬ Joins (i : Int) up (xa, xb, xc) := by unfold Joins; simp only; omega
                  have hst := (bIdx_no hx (fun h => hnj h.1)).trans HBV.out.symm
                  have HST := Lib.hid hst
                  clear hnj hst hx
                  try clear h4
                  try clear h3
                  try clear h2
                  try clear h1
                  go_wp2_with fail
                  go_quiet (fail)
                  have HSN := Lib.hid ((HS8.out.drewN nq).sub (List.sublist_cons_self _ _))
                  have HBN := Lib.hid (HB8.out.trans (below_drewN _ w8 nq))
                  clear c0 c1 c2 HS8 HB8
                  generalize w8.drewN nq = wn at *
                  go_wp2
                  go_roundw
                  case rel => exact ⟨q + 1, bv, by omega, by go_num, rfl, Lib.hid HST.out.symm, HSN.out, HBN.out⟩
                  case measure => simp [intOf]; try omega
              · have h3b : (xa == up) = false := by simp [h3]
                have hnj : ¬ Joins (i : Int) up (xa, xb, xc) := by unfold Joins; simp only; omega
                have hst := (bIdx_no hx (fun h => hnj h.1)).trans HBV.out.symm
                have HST := Lib.hid hst
                clear hnj hst hx
                try clear h4
                try clear h3
                try clear h2
                try clear h1
                go_wp2_with fail
                go_quiet (fail)
                have HSN := Lib.hid ((HS8.out.drewN nq).sub (List.sublist_cons_self _ _))
                have HBN := Lib.hid (HB8.out.trans (below_drewN _ w8 nq))
                clear c0 c1 c2 HS8 HB8
                generalize w8.drewN nq = wn at *
                go_wp2
                go_roundw
                case rel => exact ⟨q + 1, bv, by omega, by go_num, rfl, Lib.hid HST.out.symm, HSN.out, HBN.out⟩
                case measure => simp [intOf]; try omega
          · obtain rfl : q = L.length := by omega
            have hqi : decide ((L.length : Int) < (L.length : Int)) = false := by simp
            rcases hop_root HOK.out.net hn8 hin with ⟨e1, e2⟩ | ⟨e1, j, c, e2, e3, e4, e5, e6⟩
            · exfalso
              have : up = -1 := by rw [HUP.out, HO.out]; exact e2
              have hd : (up < 0) := by omega
              exact absurd hd (Int.not_lt.2 (by first | exact HNEG.out | exact Int.not_lt.1 HNEG.out))
            · have hupj : up = (j : Int) := by rw [HUP.out, HO.out]; exact e2
              obtain ⟨k, x, b1, b2, _⟩ := bestOf_edge HOK.out e4
              have hkl := (List.getElem?_eq_some_iff.1 b2).1
              have hbk : bv = (k : Int) := by rw [HBV.out, hupj]; exact b1
              have hnx : usedT L O (i + 1) = updf (usedT L O i) k true := by rw [HNE.out, hupj, b1, Int.toNat_natCast]
              subst hbk
              clear e1 e2 e3 e4 e5 e6 hupj b1 b2
              have hk1 : (k : Int) < (L.length : Int) := by omega
              have hk0 : (0 : Int) ≤ (k : Int) := by omega
              obtain ⟨m1, m2, m3⟩ := arrB_at (A := []) HS7.out hkl
              have hm3 := m3 true
              rw [show (fun x => Value.bool (if x = k then true else usedT L O i x)) = (fun x => Value.bool (usedT L O (i + 1) x)) from funext fun x => by
                rw [hnx]
                by_cases e : x = k
                · subst e; rw [updf_same, if_pos rfl]
                · rw [updf_other e, if_neg e]] at hm3
              have HM3 := Lib.hid hm3
              have HBS := Lib.hid (HB7.out.setCell (p := ⟨gd, k, none⟩) ((HS7.out.mem (A := [])).2 gd rfl).1 (.bool true))
              clear m3 hm3 hnx
              go_wp2
              go_roundw
              case rel => exact ⟨i + 1, by omega, by go_num, HM3.out, HBS.out⟩
              case measure => simp [intOf]; omega
    · obtain rfl : i = n := by omega
      have hii : decide ((i : Int) < (i : Int)) = false := by simp
      have hs := HS3.out.sub (L' := [_]) (List.Sublist.cons_cons _ (List.nil_sublist _))
      rw [HO.out, HG.out] at hs
      have HS4 := Lib.hid hs
      have HB4 := Lib.hid (show Below w.heap.size w wr by have := HB3.out; rw [HG.out] at this; exact this)
      clear hs
      go_wp2
      go_ret2
      exact ⟨gd, rfl, HS4.out, HB4.out⟩
end Go.Proofs.Ytnmddgjgmdegoaa
