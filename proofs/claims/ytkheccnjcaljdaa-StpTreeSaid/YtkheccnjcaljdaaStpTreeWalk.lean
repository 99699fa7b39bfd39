/- StpTree returns true: the used links are a tree over all that hang together: from each bridge one comes to its root over used links alone, as far as it is, and there are as many as bridges that are no roots. -/
import Derived.Test.YtkheccnjcaljdaaUsed
import Derived.Test.YtkheccnjcaljdaaIn3
import Derived.Test.YtkheccnjcaljdaaTreePlain
import Derived.Test.YtkheccnjcaljdaaFarRef
import Derived.Test.YtkheccnjcaljdaaStpKit
import Derived.Deep.RegionHeld3
namespace Go.Proofs.Ytkheccnjcaljdaa
open Go.RowKit
set_option linter.unusedVariables false

/-- 'append(all, more)'. -/
theorem wpList_append_link {B : Nat} {w : World} {v : Value} {n : Nat} {xs : List Value} {xa xb xc : Int} {te : TypeId} {ops : Array Oper} {rest : List Oper} {o : Oper} {a : Act} {Q : Exit → Act → World → Prop} (hgd : Region.wanted o (yielded ops a.tmps) = true) (s x : Operand)
    (ho : o.op = .call { callee := .builtin .append, args := #[s, x], argTypes := #[22, 22] }) (hs : a.eval s = v) (hsep : Sep B w [Ent.row v n 3 36 xs]) (hB : B ≤ w.heap.size)
    (hx : a.eval x = .slice (some ⟨w.heap.size, 0, none⟩) 1 1) (hn : n ≤ 40)
    (h : ∀ v' w', Sep B w' [Ent.row v' (n + 1) 3 36 (xs ++ lnkC (xa, xb, xc))] → Below B w w' → wpList Try.prog ops Q rest (a.put o.dst v') w') :
    wpList Try.prog ops Q (o :: rest) a (w.alloc (.cells #[.int .i64 xa, .int .i64 xb, .int .i64 xc] te)) := by
  refine wpList_append_sep hgd s x ho elemLnk hs (A := []) (C := []) (hsep.alloc _) (by simp; omega) ⟨w.heap.size, 0, none⟩ 1 1 [.int .i64 xa, .int .i64 xb, .int .i64 xc] hx rfl ?_ ?_ (by decide) (by omega) (by unfold maxLen; omega) ?_
  · intro j u hu
    rw [show (⟨w.heap.size, 0, none⟩ : Addr).add j = ⟨w.heap.size, 0 + j, none⟩ by unfold Addr.add; split <;> simp_all, World.cell?_alloc_mark, Nat.zero_add]
    rw [← hu]; simp
  · intro u hu
    simp only [List.mem_cons, List.not_mem_nil, or_false] at hu
    rcases hu with rfl | rfl | rfl <;> rfl
  · intro v' w' h1 h2
    exact h v' w' h1 (((Below.refl B w).alloc hB _).trans h2)
theorem RowSl.mono' {B B' : Nat} {w : World} {ao : Option Addr} {size : Nat} {rows : List (List Value)} (h : RowSl B w ao size rows) (hB : B ≤ B') : RowSl B' w ao size rows := by
  intro j cs hj
  obtain ⟨b, off, rfl, hb, hc⟩ := h j cs hj
  exact ⟨b, off, rfl, Nat.lt_of_lt_of_le hb hB, hc⟩

set_option maxHeartbeats 4000000 in
set_option maxRecDepth 100000 in
theorem stpTree_walk (n : Int) (ao : Option Addr) (ac : Nat) (L : List Lnk) (w : World) (hnb : -9223372036854775808 ≤ n ∧ n ≤ 9223372036854775807) (hA : RowSl w.heap.size w ao 3 (L.map lnkC)) (hac : L.length ≤ ac) (hmax : ac ≤ maxLen) (hgood : ∀ x ∈ L, LnkGood x) :
    Calls Try.prog 7 #[.int .i64 n, .slice ao L.length ac] w fun e w' => e = .returned (.bool true) ∧ Below w.heap.size w w' := by
  unfold maxLen at hmax
  have HA := Lib.hid hA; clear hA hgood
  obtain ⟨g, hg⟩ : ∃ g, g = w.heap.size := ⟨_, rfl⟩
  rw [← hg] at HA
  have HG := Lib.hid hg; clear hg
  have hci : Try.prog.cellsOf 3 = 1 := by kernel_rfl
  obtain ⟨c, hc⟩ : ∃ c, c = vCode n L := ⟨_, rfl⟩
  by_cases hc0 : c = 0
  · obtain ⟨m, rfl, hok⟩ := vCode_zero.1 (hc.symm.trans hc0)
    clear hc hc0
    have hn8 := hok.n8
    have hn1 := hok.n1
    have hl32 := hok.few
    have HOK := Lib.hid hok; clear hok
    go_enter Try.func7, Try.ntmps7
    go_wp2_with fail
    refine (stpFact_any _).mono ?_
    rintro e w1 ⟨rfl, hb⟩
    have HB1 := Lib.hid (show Below g w w1 by rw [HG.out]; exact hb); clear hb
    have hg1 : g ≤ w1.heap.size := by have := HB1.out.size; rw [← HG.out] at this; exact this
    go_wp2_with fail
    refine (tree_ok m _ _ _ g L _ (HA.out.below HB1.out) rfl hg1 HOK.out).mono ?_
    rintro e w2 ⟨vr, vf, vo, rfl, hs, hb⟩
    obtain ⟨gr, fr, cr, gf, ff, cf, go, fo, co, rfl, rfl, rfl, h1, h2, h3⟩ := tree_shape hs (by omega)
    have HX := Lib.hid h1
    have HY := Lib.hid h2
    have HZ := Lib.hid h3
    have HB2 := Lib.hid (HB1.out.trans (hb.mono hg1))
    have hg2 : g ≤ w2.heap.size := by have := HB2.out.size; rw [← HG.out] at this; exact this
    clear hs hb h1 h2 h3
    go_wp2_with fail
    refine (used_ok m _ _ _ g L _ (HA.out.below HB2.out) rfl hg2 HOK.out).mono ?_
    rintro e w3 ⟨gd, rfl, hs, hb⟩
    have HU := Lib.hid hs
    have HX3 := Lib.hid ((HX.out.below hb).mono hb.size)
    have HY3 := Lib.hid ((HY.out.below hb).mono hb.size)
    have HZ3 := Lib.hid ((HZ.out.below hb).mono hb.size)
    have HB3 := Lib.hid (HB2.out.trans (hb.mono hg2))
    have hg3 : g ≤ w3.heap.size := by have := HB3.out.size; rw [← HG.out] at this; exact this
    clear hs hb HX HY HZ
    have hll : ((L.length : Int) != (L.length : Int)) = false := by simp
    have hmm : ((m : Int) != (m : Int)) = false := by simp
    have HNIL := Lib.hid ((Sep.nil w3.heap.size w3).rowNil 3 36)
    obtain ⟨w4, hw4⟩ : ∃ w4, w4 = w3 := ⟨_, rfl⟩
    obtain rfl := hw4
    go_wp2
    clear hll hmm
    go_loopw [12, 13] (fun lv kv wr => ∃ (k : Nat) (v : Value), k ≤ L.length ∧ v = lv ∧ kv = .int .i64 k ∧ Sep w4.heap.size wr [Ent.row v (leftT L (usedR m L) k).length 3 36 ((leftT L (usedR m L) k).flatMap lnkC)] ∧ Below w4.heap.size w4 wr) (fun _ kv _ => L.length - (intOf kv).toNat)
    case atStart => exact ⟨0, _, Nat.zero_le _, rfl, rfl, HNIL.out, Below.refl _ _⟩
    case round =>
      obtain ⟨k, v, hk, rfl, rfl, hsep, hbel⟩ := hrel
      have HS5 := Lib.hid hsep; clear hsep
      have HB5 := Lib.hid hbel; clear hbel
      clear HNIL
      by_cases hlt : k < L.length
      · have hki : (k : Int) < (L.length : Int) := by omega
        have hk0 : (0 : Int) ≤ (k : Int) := by omega
        obtain ⟨d1, _, _⟩ := arrB_at (A := []) (HU.out.kept HB5.out) hlt
        obtain ⟨x, hx⟩ : ∃ x, L[k]? = some x := ⟨_, List.getElem?_eq_getElem hlt⟩
        cases hu : usedR m L k with
        | true =>
          rw [hu] at d1
          have hnx := leftT_yes hx hu
          have hll : (leftT L (usedR m L) k).length ≤ 40 := by rw [leftT_len]; have := cntD_le (usedR m L) k; omega
          obtain ⟨b, off, rfl, hbb, c0, c1, c2⟩ := ((HA.out.below HB3.out).below (HB5.out.mono hg3)).lnk hx
          obtain ⟨xa, xb, xc⟩ := x
          simp only at c0 c1 c2
          have HNX := Lib.hid hnx
          have HLL := Lib.hid hll
          have hg5 := HB5.out.size
          clear hnx hll hx hu
          go_wp2_with (at_builtin; refine wpList_append_link (B := w4.heap.size) (w := wr) (xa := xa) (xb := xb) (xc := xc) (v := v) (n := (leftT L (usedR m L) k).length) (xs := (leftT L (usedR m L) k).flatMap lnkC) ?_ (.tmp 82) (.tmp 87) ?_ ?_ ?_ ?_ ?_ ?_ ?_; rfl; rfl; rfl; exact HS5.out; exact hg5; rfl; exact HLL.out)
          intro v6 w6 hs6 hb6
          have hs7 : Sep w4.heap.size w6 [Ent.row v6 (leftT L (usedR m L) (k + 1)).length 3 36 ((leftT L (usedR m L) (k + 1)).flatMap lnkC)] := by
            rw [HNX.out, List.flatMap_append, List.length_append]
            exact hs6
          have HS7 := Lib.hid hs7
          have HB7 := Lib.hid (HB5.out.trans hb6)
          clear hs6 hb6 hs7 d1 c0 c1 c2
          go_wp2
          go_roundw
          case rel => exact ⟨k + 1, _, by omega, rfl, by go_num, HS7.out, HB7.out⟩
          case measure => simp [intOf]; omega
        | false =>
          rw [hu] at d1
          have HNX := Lib.hid (leftT_no (L := L) hu)
          clear hx hu
          go_wp2
          clear d1
          go_roundw
          case rel => exact ⟨k + 1, _, by omega, rfl, by go_num, by rw [HNX.out]; exact HS5.out, HB5.out⟩
          case measure => simp [intOf]; omega
      · obtain rfl : k = L.length := by omega
        have hki : decide ((L.length : Int) < (L.length : Int)) = false := by simp
        have hs5 := HS5.out
        obtain ⟨_, ae, ce, rfl, _, _⟩ := Sep.rowShape (A := []) hs5
        have HAE := Lib.hid (Sep.lnkSl (A := []) hs5)
        have HLO := Lib.hid (left_ok HOK.out)
        have hg5 := HB5.out.size
        have HB6 := Lib.hid (HB3.out.trans (HB5.out.mono hg3))
        have hg6 : g ≤ wr.heap.size := by have := HB6.out.size; rw [← HG.out] at this; exact this
        have HX6 := Lib.hid ((HX3.out.below HB5.out).mono HB5.out.size)
        have HY6 := Lib.hid ((HY3.out.below HB5.out).mono HB5.out.size)
        have HZ6 := Lib.hid ((HZ3.out.below HB5.out).mono HB5.out.size)
        have hmany := left_many HOK.out
        obtain ⟨K, hK⟩ : ∃ K, K = leftR m L := ⟨_, rfl⟩
        have hK' : leftT L (usedR m L) L.length = K := hK.symm
        rw [← hK] at HLO hmany
        rw [hK'] at HAE ⊢
        have HK := Lib.hid hK
        have HMANY := Lib.hid hmany
        clear hs5 HS5 HX3 HY3 HZ3 hK hK' hmany HU
        obtain ⟨w7, hw7⟩ : ∃ w7, w7 = wr := ⟨_, rfl⟩
        obtain rfl := hw7
        go_wp2
        clear hki
        go_loopw [14, 15] (fun cv iv wr => ∃ i : Nat, i ≤ m ∧ iv = .int .i64 i ∧ cv = .int .i64 (cntD (rootB m L) i) ∧ Below w7.heap.size w7 wr) (fun _ iv _ => m - (intOf iv).toNat)
        case atStart => exact ⟨0, Nat.zero_le _, rfl, rfl, Below.refl _ _⟩
        case round =>
          obtain ⟨i, hi, rfl, rfl, hbel⟩ := hrel
          have HB8 := Lib.hid hbel; clear hbel
          have hcl := cntD_le (rootB m L) i
          by_cases hlt : i < m
          · have hii : (i : Int) < (m : Int) := by omega
            have hi0 : (0 : Int) ≤ (i : Int) := by omega
            have hrk := rankF_top (n := m) (E := edges L) (r := rootF m (edges L) i) hlt
            have a1 := (rootF_spec HOK.out.net hlt).1
            have a2 := rootF_le HOK.out.net hlt
            have hcs : cntD (rootB m L) (i + 1) = cntD (rootB m L) i + if rootB m L i = true then 1 else 0 := rfl
            obtain ⟨r, hr⟩ : ∃ r, r = rootF m (edges L) i := ⟨_, rfl⟩
            rw [← hr] at hrk a1 a2
            obtain ⟨cc, hcc⟩ : ∃ cc, cc = cntD (rootB m L) i := ⟨_, rfl⟩
            rw [← hcc] at hcs hcl ⊢
            have HR := Lib.hid hr
            have HRK := Lib.hid hrk
            have HCS := Lib.hid hcs
            have HCC := Lib.hid hcc
            clear hr hrk hcs hcc
            go_wp2
            go_loopg [16, 17] m (fun gk av sv wr => ∃ (s x : Nat), gk + s = m ∧ sv = .int .i64 s ∧ av = .int .i64 x ∧ x < m ∧ Hid (rootF m (edges L) x = r) ∧ Hid (s + rankF m (edges L) r x < m) ∧ Below w7.heap.size w7 wr)
            case atStart => exact ⟨0, i, by omega, rfl, rfl, hlt, Lib.hid HR.out.symm, Lib.hid (by have := HRK.out; omega), HB8.out⟩
            case round =>
              obtain ⟨gi, rfl⟩ : ∃ gi, gi = gk := ⟨_, rfl⟩
              obtain ⟨s, x, hgs, rfl, rfl, hxm, HRX, HSK, hbel⟩ := hrel
              have HB9 := Lib.hid hbel; clear hbel
              clear HB8
              have hsm : s < m := by have := HSK.out; omega
              have hss : (s : Int) < (m : Int) := by omega
              have hxx : (x : Int) < (m : Int) := by omega
              have hx0 : (0 : Int) ≤ (x : Int) := by omega
              have o1 := (HZ6.out.below HB9.out).at_ hxm
              obtain ⟨up, hup⟩ : ∃ up, up = overR m L x := ⟨_, rfl⟩
              have hup' : hopOf m (edges L) x (rootF m (edges L) x) = up := hup.symm
              rw [hup'] at o1
              clear hup'
              by_cases hneg : up < 0
              · have hxr := over_end HOK.out hxm HRX.out (by rw [← hup]; exact hneg)
                have hd : decide (0 ≤ up) = false := decide_eq_false (by omega)
                clear hup
                subst hxr
                go_wp2_with fail
                refine (in3_yes (x : Int) 0 ((m : Int) - 1) _ (by omega) (by omega)).mono ?_
                rintro e w' ⟨rfl, rfl⟩
                have r1 := (HX6.out.below HB9.out).at_ hlt
                have f1 := (HY6.out.below HB9.out).at_ hlt
                have hlf := left_far HOK.out hlt
                rw [← HR.out] at r1 f1 hlf
                rw [← HK.out] at hlf
                obtain ⟨d, hdd⟩ : ∃ d, d = far (edges L) i x := ⟨_, rfl⟩
                rw [← hdd] at f1 hlf
                have hrr : ((x : Int) != (x : Int)) = false := by simp
                have HLF := Lib.hid hlf
                clear hdd hlf hneg
                by_cases hri : x = i
                · have hrb : ((x : Int) == (i : Int)) = true := by simp [hri]
                  have hnx : ((cntD (rootB m L) (i + 1) : Nat) : Int) = (cc : Int) + 1 := by
                    have hb : rootB m L i = true := by unfold rootB; rw [← HR.out, hri]; simp
                    rw [HCS.out, if_pos hb]; rfl
                  have HNX := Lib.hid hnx
                  clear hnx hri
                  go_wp2_with fail
                  clear o1 hd
                  refine (in3_yes (x : Int) 0 (i : Int) _ (by omega) (by omega)).mono ?_
                  rintro e w' ⟨rfl, rfl⟩
                  go_wp2_with fail
                  have HST := Lib.hid (And.intro r1 f1)
                  have hst : ∀ w' : World, Below wr.heap.size wr w' → w'.cell? ⟨gr, fr + i, none⟩ = some (.int .i64 x) ∧ w'.cell? ⟨gf, ff + i, none⟩ = some (.int .i64 d) := fun w' h =>
                    ⟨(h.cell (p := ⟨gr, fr + i, none⟩) (World.block_lt_of_cell? wr _ HST.out.1)).trans HST.out.1, (h.cell (p := ⟨gf, ff + i, none⟩) (World.block_lt_of_cell? wr _ HST.out.2)).trans HST.out.2⟩
                  have hfar : ∀ w' : World, Below wr.heap.size wr w' → Calls Try.prog 19 #[.int .i64 m, .slice ae K.length ce, .int .i64 i] w' fun e w'' => ∃ gq oq cq, e = .returned (.slice (some ⟨gq, oq, none⟩) m cq) ∧ w''.cell? ⟨gq, oq + x, none⟩ = some (.int .i64 d) ∧ Below wr.heap.size wr w'' := fun w' h => by
                    refine (farRef_ok m _ _ _ _ K i w' (((HAE.out.below HB9.out).mono' HB9.out.size).below h) rfl h.size HLO.out hlt).mono ?_
                    rintro e w'' ⟨v, rfl, hs, hb⟩
                    obtain ⟨aq, cq, rfl, _, _⟩ := hs.intsShape (A := []) (C := [])
                    rw [arr_len] at hs ⊢
                    obtain ⟨gq, oq, rfl, _, hq, _, _⟩ := arrI_at (A := []) hs hxm
                    exact ⟨gq, oq, cq, rfl, by rw [hq, HLF.out], h.trans (hb.mono h.size)⟩
                  have HSTAT := Lib.hid hst
                  have HFAR := Lib.hid hfar
                  have HK0 := Lib.hid (And.intro (below_drew wr.heap.size wr) (hst _ (below_drew wr.heap.size wr)))
                  clear hst hfar r1 f1
                  have hdd : (d != d) = false := by simp
                  refine wp_region_held_drew (S := fun w' => Below wr.heap.size wr w' ∧ w'.cell? ⟨gr, fr + i, none⟩ = some (.int .i64 x) ∧ w'.cell? ⟨gf, ff + i, none⟩ = some (.int .i64 d)) (by kernel_rfl) HK0.out (fun hHeld => ?_)
                  refine wpAnyH_take (i := 0) (v := ?v0a) rfl (by kernel_rfl) (by kernel_rfl) (by kernel_rfl) (fun _ _ _ h => h) (Or.inl ⟨by rfl, ?hy0a⟩) (by assumption) ?rest0a
                  case hy0a =>
                    intro w hSw
                    try dsimp only at hSw
                    go_simp
                    try with_reducible rfl
                  try simp only [Act.put, List.setIfInBounds_toArray, List.set_cons_zero, List.set_cons_succ, List.getElem_toArray, List.getElem_cons_zero]
                  refine wpAnyH_take (i := 1) (v := ?v1a) rfl (by kernel_rfl) (by kernel_rfl) (by kernel_rfl) (fun _ _ _ h => h) (Or.inl ⟨by rfl, ?hy1a⟩) (by assumption) ?rest1a
                  case hy1a =>
                    intro w hSw
                    try dsimp only at hSw
                    go_simp
                    try with_reducible rfl
                  try simp only [Act.put, List.setIfInBounds_toArray, List.set_cons_zero, List.set_cons_succ, List.getElem_toArray, List.getElem_cons_zero, List.getElem_cons_succ]
                  refine wpAnyH_take (i := 2) (v := ?v2a) rfl (by kernel_rfl) (by kernel_rfl) (by kernel_rfl) (fun _ _ _ h => h) (Or.inl ⟨by rfl, ?hy2a⟩) (by assumption) ?rest2a
                  case hy2a =>
                    intro w hSw
                    try dsimp only at hSw
                    go_simp
                    try with_reducible rfl
                  try simp only [Act.put, List.setIfInBounds_toArray, List.set_cons_zero, List.set_cons_succ, List.getElem_toArray, List.getElem_cons_zero, List.getElem_cons_succ]
                  refine wpAnyH_take (i := 4) (v := ?v4a) rfl (by kernel_rfl) (by kernel_rfl) (by kernel_rfl) (fun _ _ _ h => h) (Or.inl ⟨by rfl, ?hy4a⟩) (by assumption) ?rest4a
                  case hy4a =>
                    intro w hSw
                    try dsimp only at hSw
                    go_simp
                    try with_reducible rfl
                  try simp only [Act.put, List.setIfInBounds_toArray, List.set_cons_zero, List.set_cons_succ, List.getElem_toArray, List.getElem_cons_zero, List.getElem_cons_succ]
                  refine wpAnyH_take (i := 5) (v := ?v5a) rfl (by kernel_rfl) (by kernel_rfl) (by kernel_rfl) (fun _ _ _ h => h) (Or.inl ⟨by rfl, ?hy5a⟩) (by assumption) ?rest5a
                  case hy5a =>
                    intro w hSw
                    try dsimp only at hSw
                    go_simp
                    try with_reducible rfl
                  try simp only [Act.put, List.setIfInBounds_toArray, List.set_cons_zero, List.set_cons_succ, List.getElem_toArray, List.getElem_cons_zero, List.getElem_cons_succ]
                  refine wpAnyH_take (i := 6) (v := ?v6a) rfl (by kernel_rfl) (by kernel_rfl) (by kernel_rfl) (fun _ _ _ h => h) (Or.inl ⟨by rfl, ?hy6a⟩) (by assumption) ?rest6a
                  case hy6a =>
                    intro w hSw
                    try dsimp only at hSw
                    go_simp
                    try with_reducible rfl
                  try simp only [Act.put, List.setIfInBounds_toArray, List.set_cons_zero, List.set_cons_succ, List.getElem_toArray, List.getElem_cons_zero, List.getElem_cons_succ]
                  refine wpAnyH_take (i := 7) (v := ?v7a) rfl (by kernel_rfl) (by kernel_rfl) (by kernel_rfl) (fun _ _ _ h => h) (Or.inl ⟨by rfl, ?hy7a⟩) (by assumption) ?rest7a
                  case hy7a =>
                    intro w hSw
                    try dsimp only at hSw
                    go_simp
                    try with_reducible rfl
                  try simp only [Act.put, List.setIfInBounds_toArray, List.set_cons_zero, List.set_cons_succ, List.getElem_toArray, List.getElem_cons_zero, List.getElem_cons_succ]
                  refine wpAnyH_take (i := 10) (v := ?v10a) rfl (by kernel_rfl) (by kernel_rfl) (by kernel_rfl) (fun _ _ _ h => h) (Or.inl ⟨by rfl, ?hy10a⟩) (by assumption) ?rest10a
                  case hy10a =>
                    intro w hSw
                    try dsimp only at hSw
                    go_simp
                    try with_reducible rfl
                  try simp only [Act.put, List.setIfInBounds_toArray, List.set_cons_zero, List.set_cons_succ, List.getElem_toArray, List.getElem_cons_zero, List.getElem_cons_succ]
                  refine wpAnyH_take (i := 11) (v := ?v11a) rfl (by kernel_rfl) (by kernel_rfl) (by kernel_rfl) (fun _ _ _ h => h) (Or.inl ⟨by rfl, ?hy11a⟩) (by assumption) ?rest11a
                  case hy11a =>
                    intro w hSw
                    try dsimp only at hSw
                    go_simp
                    try with_reducible rfl
                  try simp only [Act.put, List.setIfInBounds_toArray, List.set_cons_zero, List.set_cons_succ, List.getElem_toArray, List.getElem_cons_zero, List.getElem_cons_succ]
                  refine wpAnyH_take (i := 12) (v := ?v12a) rfl (by kernel_rfl) (by kernel_rfl) (by kernel_rfl) (fun _ _ _ h => h) (Or.inl ⟨by rfl, ?hy12a⟩) (by assumption) ?rest12a
                  case hy12a =>
                    intro w hSw
                    try dsimp only at hSw
                    go_simp
                    try with_reducible rfl
                  try simp only [Act.put, List.setIfInBounds_toArray, List.set_cons_zero, List.set_cons_succ, List.getElem_toArray, List.getElem_cons_zero, List.getElem_cons_succ]
                  refine wpAnyH_take (i := 13) (v := ?v13a) rfl (by kernel_rfl) (by kernel_rfl) (by kernel_rfl) (fun _ _ _ h => h) (Or.inl ⟨by rfl, ?hy13a⟩) (by assumption) ?rest13a
                  case hy13a =>
                    intro w hSw
                    try dsimp only at hSw
                    go_simp
                    try with_reducible rfl
                  try simp only [Act.put, List.setIfInBounds_toArray, List.set_cons_zero, List.set_cons_succ, List.getElem_toArray, List.getElem_cons_zero, List.getElem_cons_succ]
                  refine wpAnyH_ready (rs := [3]) (by kernel_rfl) (by simp) ?_
                  refine AllReadyH.cons rfl (fun K hK => ?_) AllReadyH.nil
                  go_simp
                  refine (HFAR.out _ (below_drew _ _)).mono ?_
                  rintro e wA ⟨gq, oq, cq, rfl, hq, hbq⟩
                  have HK1 := Lib.hid (And.intro hbq (HSTAT.out _ hbq))
                  clear hbq
                  go_wp2_with fail
                  refine hK.out _ _ ?_ (fun hHeld1 => ?_)
                  · exact HK1.out
                  clear hK K
                  try simp only [Act.put, List.setIfInBounds_toArray, List.set_cons_zero, List.set_cons_succ, List.getElem_toArray, List.getElem_cons_zero, List.getElem_cons_succ]
                  refine wpAnyH_take (i := 8) (v := ?v8a) rfl (by kernel_rfl) (by kernel_rfl) (by kernel_rfl) (fun _ _ _ h => h) (Or.inl ⟨by rfl, ?hy8a⟩) (by assumption) ?rest8a
                  case hy8a =>
                    intro w hSw
                    try dsimp only at hSw
                    go_simp
                    try with_reducible rfl
                  try simp only [Act.put, List.setIfInBounds_toArray, List.set_cons_zero, List.set_cons_succ, List.getElem_toArray, List.getElem_cons_zero, List.getElem_cons_succ]
                  refine wpAnyH_ready (rs := [9]) (by kernel_rfl) (by simp) ?_
                  refine AllReadyH.cons rfl (fun K hK => ?_) AllReadyH.nil
                  go_simp
                  refine hK.out _ _ ?_ (fun hHeld2 => ?_)
                  · exact HK1.out
                  clear hK K
                  try simp only [Act.put, List.setIfInBounds_toArray, List.set_cons_zero, List.set_cons_succ, List.getElem_toArray, List.getElem_cons_zero, List.getElem_cons_succ]
                  refine wpAnyH_take (i := 14) (v := ?v14a) rfl (by kernel_rfl) (by kernel_rfl) (by kernel_rfl) (fun _ _ _ h => h) (Or.inl ⟨by rfl, ?hy14a⟩) (by assumption) ?rest14a
                  case hy14a =>
                    intro w hSw
                    try dsimp only at hSw
                    go_simp
                    try with_reducible rfl
                  try simp only [Act.put, List.setIfInBounds_toArray, List.set_cons_zero, List.set_cons_succ, List.getElem_toArray, List.getElem_cons_zero, List.getElem_cons_succ]
                  refine wpAnyH_done (by kernel_rfl) ?_ _
                  have HB10 := Lib.hid (HB9.out.trans (HK1.out.1.mono HB9.out.size))
                  clear hq
                  go_wp2
                  go_roundw
                  case rel => exact ⟨i + 1, by omega, by go_num, by rw [HNX.out], HB10.out⟩
                  case measure => simp [intOf]; omega
                · have hrb : ((x : Int) == (i : Int)) = false := by simp; omega
                  have hnx : ((cntD (rootB m L) (i + 1) : Nat) : Int) = (cc : Int) := by
                    have hb : ¬ rootB m L i = true := by unfold rootB; rw [← HR.out]; simpa using hri
                    rw [HCS.out, if_neg hb]; rfl
                  have HNX := Lib.hid hnx
                  clear hnx hri
                  go_wp2_with fail
                  clear o1 hd
                  refine (in3_yes (x : Int) 0 (i : Int) _ (by omega) (by omega)).mono ?_
                  rintro e w' ⟨rfl, rfl⟩
                  go_wp2_with fail
                  have HST := Lib.hid (And.intro r1 f1)
                  have hst : ∀ w' : World, Below wr.heap.size wr w' → w'.cell? ⟨gr, fr + i, none⟩ = some (.int .i64 x) ∧ w'.cell? ⟨gf, ff + i, none⟩ = some (.int .i64 d) := fun w' h =>
                    ⟨(h.cell (p := ⟨gr, fr + i, none⟩) (World.block_lt_of_cell? wr _ HST.out.1)).trans HST.out.1, (h.cell (p := ⟨gf, ff + i, none⟩) (World.block_lt_of_cell? wr _ HST.out.2)).trans HST.out.2⟩
                  have hfar : ∀ w' : World, Below wr.heap.size wr w' → Calls Try.prog 19 #[.int .i64 m, .slice ae K.length ce, .int .i64 i] w' fun e w'' => ∃ gq oq cq, e = .returned (.slice (some ⟨gq, oq, none⟩) m cq) ∧ w''.cell? ⟨gq, oq + x, none⟩ = some (.int .i64 d) ∧ Below wr.heap.size wr w'' := fun w' h => by
                    refine (farRef_ok m _ _ _ _ K i w' (((HAE.out.below HB9.out).mono' HB9.out.size).below h) rfl h.size HLO.out hlt).mono ?_
                    rintro e w'' ⟨v, rfl, hs, hb⟩
                    obtain ⟨aq, cq, rfl, _, _⟩ := hs.intsShape (A := []) (C := [])
                    rw [arr_len] at hs ⊢
                    obtain ⟨gq, oq, rfl, _, hq, _, _⟩ := arrI_at (A := []) hs hxm
                    exact ⟨gq, oq, cq, rfl, by rw [hq, HLF.out], h.trans (hb.mono h.size)⟩
                  have HSTAT := Lib.hid hst
                  have HFAR := Lib.hid hfar
                  have HK0 := Lib.hid (And.intro (below_drew wr.heap.size wr) (hst _ (below_drew wr.heap.size wr)))
                  clear hst hfar r1 f1
                  have hdd : (d != d) = false := by simp
                  refine wp_region_held_drew (S := fun w' => Below wr.heap.size wr w' ∧ w'.cell? ⟨gr, fr + i, none⟩ = some (.int .i64 x) ∧ w'.cell? ⟨gf, ff + i, none⟩ = some (.int .i64 d)) (by kernel_rfl) HK0.out (fun hHeld => ?_)
                  refine wpAnyH_take (i := 0) (v := ?v0b) rfl (by kernel_rfl) (by kernel_rfl) (by kernel_rfl) (fun _ _ _ h => h) (Or.inl ⟨by rfl, ?hy0b⟩) (by assumption) ?rest0b
                  case hy0b =>
                    intro w hSw
                    try dsimp only at hSw
                    go_simp
                    try with_reducible rfl
                  try simp only [Act.put, List.setIfInBounds_toArray, List.set_cons_zero, List.set_cons_succ, List.getElem_toArray, List.getElem_cons_zero]
                  refine wpAnyH_take (i := 1) (v := ?v1b) rfl (by kernel_rfl) (by kernel_rfl) (by kernel_rfl) (fun _ _ _ h => h) (Or.inl ⟨by rfl, ?hy1b⟩) (by assumption) ?rest1b
                  case hy1b =>
                    intro w hSw
                    try dsimp only at hSw
                    go_simp
                    try with_reducible rfl
                  try simp only [Act.put, List.setIfInBounds_toArray, List.set_cons_zero, List.set_cons_succ, List.getElem_toArray, List.getElem_cons_zero, List.getElem_cons_succ]
                  refine wpAnyH_take (i := 2) (v := ?v2b) rfl (by kernel_rfl) (by kernel_rfl) (by kernel_rfl) (fun _ _ _ h => h) (Or.inl ⟨by rfl, ?hy2b⟩) (by assumption) ?rest2b
                  case hy2b =>
                    intro w hSw
                    try dsimp only at hSw
                    go_simp
                    try with_reducible rfl
                  try simp only [Act.put, List.setIfInBounds_toArray, List.set_cons_zero, List.set_cons_succ, List.getElem_toArray, List.getElem_cons_zero, List.getElem_cons_succ]
                  refine wpAnyH_take (i := 4) (v := ?v4b) rfl (by kernel_rfl) (by kernel_rfl) (by kernel_rfl) (fun _ _ _ h => h) (Or.inl ⟨by rfl, ?hy4b⟩) (by assumption) ?rest4b
                  case hy4b =>
                    intro w hSw
                    try dsimp only at hSw
                    go_simp
                    try with_reducible rfl
                  try simp only [Act.put, List.setIfInBounds_toArray, List.set_cons_zero, List.set_cons_succ, List.getElem_toArray, List.getElem_cons_zero, List.getElem_cons_succ]
                  refine wpAnyH_take (i := 5) (v := ?v5b) rfl (by kernel_rfl) (by kernel_rfl) (by kernel_rfl) (fun _ _ _ h => h) (Or.inl ⟨by rfl, ?hy5b⟩) (by assumption) ?rest5b
                  case hy5b =>
                    intro w hSw
                    try dsimp only at hSw
                    go_simp
                    try with_reducible rfl
                  try simp only [Act.put, List.setIfInBounds_toArray, List.set_cons_zero, List.set_cons_succ, List.getElem_toArray, List.getElem_cons_zero, List.getElem_cons_succ]
                  refine wpAnyH_take (i := 6) (v := ?v6b) rfl (by kernel_rfl) (by kernel_rfl) (by kernel_rfl) (fun _ _ _ h => h) (Or.inl ⟨by rfl, ?hy6b⟩) (by assumption) ?rest6b
                  case hy6b =>
                    intro w hSw
                    try dsimp only at hSw
                    go_simp
                    try with_reducible rfl
                  try simp only [Act.put, List.setIfInBounds_toArray, List.set_cons_zero, List.set_cons_succ, List.getElem_toArray, List.getElem_cons_zero, List.getElem_cons_succ]
                  refine wpAnyH_take (i := 7) (v := ?v7b) rfl (by kernel_rfl) (by kernel_rfl) (by kernel_rfl) (fun _ _ _ h => h) (Or.inl ⟨by rfl, ?hy7b⟩) (by assumption) ?rest7b
                  case hy7b =>
                    intro w hSw
                    try dsimp only at hSw
                    go_simp
                    try with_reducible rfl
                  try simp only [Act.put, List.setIfInBounds_toArray, List.set_cons_zero, List.set_cons_succ, List.getElem_toArray, List.getElem_cons_zero, List.getElem_cons_succ]
                  refine wpAnyH_take (i := 10) (v := ?v10b) rfl (by kernel_rfl) (by kernel_rfl) (by kernel_rfl) (fun _ _ _ h => h) (Or.inl ⟨by rfl, ?hy10b⟩) (by assumption) ?rest10b
                  case hy10b =>
                    intro w hSw
                    try dsimp only at hSw
                    go_simp
                    try with_reducible rfl
                  try simp only [Act.put, List.setIfInBounds_toArray, List.set_cons_zero, List.set_cons_succ, List.getElem_toArray, List.getElem_cons_zero, List.getElem_cons_succ]
                  refine wpAnyH_take (i := 11) (v := ?v11b) rfl (by kernel_rfl) (by kernel_rfl) (by kernel_rfl) (fun _ _ _ h => h) (Or.inl ⟨by rfl, ?hy11b⟩) (by assumption) ?rest11b
                  case hy11b =>
                    intro w hSw
                    try dsimp only at hSw
                    go_simp
                    try with_reducible rfl
                  try simp only [Act.put, List.setIfInBounds_toArray, List.set_cons_zero, List.set_cons_succ, List.getElem_toArray, List.getElem_cons_zero, List.getElem_cons_succ]
                  refine wpAnyH_take (i := 12) (v := ?v12b) rfl (by kernel_rfl) (by kernel_rfl) (by kernel_rfl) (fun _ _ _ h => h) (Or.inl ⟨by rfl, ?hy12b⟩) (by assumption) ?rest12b
                  case hy12b =>
                    intro w hSw
                    try dsimp only at hSw
                    go_simp
                    try with_reducible rfl
                  try simp only [Act.put, List.setIfInBounds_toArray, List.set_cons_zero, List.set_cons_succ, List.getElem_toArray, List.getElem_cons_zero, List.getElem_cons_succ]
                  refine wpAnyH_take (i := 13) (v := ?v13b) rfl (by kernel_rfl) (by kernel_rfl) (by kernel_rfl) (fun _ _ _ h => h) (Or.inl ⟨by rfl, ?hy13b⟩) (by assumption) ?rest13b
                  case hy13b =>
                    intro w hSw
                    try dsimp only at hSw
                    go_simp
                    try with_reducible rfl
                  try simp only [Act.put, List.setIfInBounds_toArray, List.set_cons_zero, List.set_cons_succ, List.getElem_toArray, List.getElem_cons_zero, List.getElem_cons_succ]
                  refine wpAnyH_ready (rs := [3]) (by kernel_rfl) (by simp) ?_
                  refine AllReadyH.cons rfl (fun K hK => ?_) AllReadyH.nil
                  go_simp
                  refine (HFAR.out _ (below_drew _ _)).mono ?_
                  rintro e wA ⟨gq, oq, cq, rfl, hq, hbq⟩
                  have HK1 := Lib.hid (And.intro hbq (HSTAT.out _ hbq))
                  clear hbq
                  go_wp2_with fail
                  refine hK.out _ _ ?_ (fun hHeld1 => ?_)
                  · exact HK1.out
                  clear hK K
                  try simp only [Act.put, List.setIfInBounds_toArray, List.set_cons_zero, List.set_cons_succ, List.getElem_toArray, List.getElem_cons_zero, List.getElem_cons_succ]
                  refine wpAnyH_take (i := 8) (v := ?v8b) rfl (by kernel_rfl) (by kernel_rfl) (by kernel_rfl) (fun _ _ _ h => h) (Or.inl ⟨by rfl, ?hy8b⟩) (by assumption) ?rest8b
                  case hy8b =>
                    intro w hSw
                    try dsimp only at hSw
                    go_simp
                    try with_reducible rfl
                  try simp only [Act.put, List.setIfInBounds_toArray, List.set_cons_zero, List.set_cons_succ, List.getElem_toArray, List.getElem_cons_zero, List.getElem_cons_succ]
                  refine wpAnyH_ready (rs := [9]) (by kernel_rfl) (by simp) ?_
                  refine AllReadyH.cons rfl (fun K hK => ?_) AllReadyH.nil
                  go_simp
                  refine hK.out _ _ ?_ (fun hHeld2 => ?_)
                  · exact HK1.out
                  clear hK K
                  try simp only [Act.put, List.setIfInBounds_toArray, List.set_cons_zero, List.set_cons_succ, List.getElem_toArray, List.getElem_cons_zero, List.getElem_cons_succ]
                  refine wpAnyH_take (i := 14) (v := ?v14b) rfl (by kernel_rfl) (by kernel_rfl) (by kernel_rfl) (fun _ _ _ h => h) (Or.inl ⟨by rfl, ?hy14b⟩) (by assumption) ?rest14b
                  case hy14b =>
                    intro w hSw
                    try dsimp only at hSw
                    go_simp
                    try with_reducible rfl
                  try simp only [Act.put, List.setIfInBounds_toArray, List.set_cons_zero, List.set_cons_succ, List.getElem_toArray, List.getElem_cons_zero, List.getElem_cons_succ]
                  refine wpAnyH_done (by kernel_rfl) ?_ _
                  have HB10 := Lib.hid (HB9.out.trans (HK1.out.1.mono HB9.out.size))
                  clear hq
                  go_wp2
                  go_roundw
                  case rel => exact ⟨i + 1, by omega, by go_num, by rw [HNX.out], HB10.out⟩
                  case measure => simp [intOf]; omega
              · have hd : decide (0 ≤ up) = true := decide_eq_true (by omega)
                obtain ⟨j, e1, e2, e3, e4⟩ := over_rank HOK.out hxm HRX.out (by rw [← hup]; exact hneg)
                have hupj : up = (j : Int) := by rw [hup]; exact e1
                clear hup e1
                subst hupj
                have HRJ := Lib.hid e3
                have HRK2 := Lib.hid e4
                clear e3 e4 hneg
                go_wp2_with fail
                refine (in3_yes (x : Int) 0 ((m : Int) - 1) _ (by omega) (by omega)).mono ?_
                rintro e w' ⟨rfl, rfl⟩
                go_wp2
                clear o1 hd
                go_roundg (gi - 1)
                case measure => omega
                case rel => exact ⟨s + 1, j, by omega, by first | rfl | go_num, rfl, e2, Lib.hid HRJ.out, Lib.hid (by have := HSK.out; have := HRK2.out; omega), HB9.out⟩
          · obtain rfl : i = m := by omega
            have hii : decide ((i : Int) < (i : Int)) = false := by simp
            have hb := HB6.out.trans (HB8.out.mono hg6)
            rw [HG.out] at hb
            have HB9 := Lib.hid hb
            have hle : (K.length : Int) = (i : Int) - (cntD (rootB i L) i : Int) := by have := HMANY.out; omega
            have heq : ((K.length : Int) == (i : Int) - (cntD (rootB i L) i : Int)) = true := by rw [hle]; simp
            clear hb hle
            go_wp2
            go_ret
            exact ⟨rfl, HB9.out⟩
  · have HC := Lib.hid hc; clear hc
    have H0 := Lib.hid hc0; clear hc0
    go_enter Try.func7, Try.ntmps7
    go_wp2_with fail
    refine (stpFact_any _).mono ?_
    rintro e w1 ⟨rfl, hb⟩
    have HB1 := Lib.hid (show Below g w w1 by rw [HG.out]; exact hb); clear hb
    have hg1 : g ≤ w1.heap.size := by have := HB1.out.size; rw [← HG.out] at this; exact this
    go_wp2_with fail
    refine (tree_err _ _ _ _ _ L c _ (HA.out.below HB1.out) rfl (by omega) hg1 HC.out H0.out).mono ?_
    rintro e w2 ⟨rfl, hb⟩
    have HB2 := Lib.hid (HB1.out.trans (hb.mono hg1)); clear hb
    have hg2 : g ≤ w2.heap.size := by have := HB2.out.size; rw [← HG.out] at this; exact this
    go_wp2_with fail
    refine (used_err _ _ _ _ _ L c _ (HA.out.below HB2.out) rfl (by omega) hg2 HC.out H0.out).mono ?_
    rintro e w3 ⟨rfl, hb⟩
    have HB3 := Lib.hid (HB2.out.trans (hb.mono hg2)); clear hb
    go_wp2
    go_ret
    exact ⟨rfl, by have := HB3.out; rw [HG.out] at this; exact this⟩
end Go.Proofs.Ytkheccnjcaljdaa
