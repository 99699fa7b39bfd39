/- ferryhytheref4: Number, Cut. -/
import Derived.Test.YtbcfcjecobihnaaGreatDoorRtOpP
import Derived.Test.YtbcfcjecobihnaaGreatDoorPk1
import Derived.Test.YtbcfcjecobihnaaGreatDoorPk9
import Derived.Deep.LoopGhost
namespace Go.Proofs.YtbcfcjecobihnaaGreatDoor
open Go.RowKit
set_option linter.unusedVariables false
set_option linter.unusedSimpArgs false
set_option maxRecDepth 100000

def NumEnd (s : List UInt8) (e : Ending) : Prop := ∃ n : Int, e = .returned (.tuple #[.int .i64 n, .bool (numOk s)]) ∧ (numOk s = true → n = numV s)
theorem num_end0 {s : List UInt8} (h : numOk s = false) : NumEnd s (.returned (.tuple #[.int .i64 0, .bool false])) := ⟨0, by rw [h], fun h2 => by rw [h] at h2; cases h2⟩
/-- Digits up to a place; the number they make. -/
def NumAt (s : List UInt8) (k : Nat) (n : Int) : Prop :=
  (∀ c ∈ s.take k, 48 ≤ c.toNat ∧ c.toNat ≤ 57) ∧ (valD (s.take k) ≤ 9223372036854775807 → n = (valD (s.take k) : Nat)) ∧ (9223372036854775807 < valD (s.take k) → n < 0)
theorem NumAt.small {s : List UInt8} {k : Nat} {n : Int} (h : NumAt s k n) (hk : k ≤ 18) : ∃ v : Nat, v = valD (s.take k) ∧ n = (v : Int) ∧ v < 1000000000000000000 := by
  have h1 := valD_lt (s.take k) (fun c hc => (h.1 c hc).2)
  have h2 : 10 ^ (s.take k).length ≤ 10 ^ 18 := Nat.pow_le_pow_right (by decide) (by rw [List.length_take]; omega)
  have h3 : valD (s.take k) < 1000000000000000000 := by omega
  exact ⟨_, rfl, h.2.1 (by omega), h3⟩
theorem NumAt.next {s : List UInt8} {k v cv : Nat} {c : UInt8} (h : NumAt s k (v : Int)) (hv : v = valD (s.take k)) (hs : v < 1000000000000000000) (hc : s[k]? = some c) (hcv : cv = c.toNat) (h1 : 48 ≤ cv) (h2 : cv ≤ 57) :
    NumAt s (k + 1) (IntKind.i64.wrap (IntKind.i64.wrap (IntKind.i64.wrap ((v : Int) * 10) + (cv : Int)) - 48)) := by
  have hn := valD_next hc
  rw [← hv, ← hcv] at hn
  obtain ⟨w1, w2⟩ := wrap_step hs h1 h2
  refine ⟨fun x hx => ?_, fun h => ?_, fun h => ?_⟩
  · rw [List.take_add_one, hc] at hx
    rcases List.mem_append.1 hx with hx | hx
    · exact ‹NumAt s k (v : Int)›.1 x hx
    · rw [show x = c by simpa using hx]; omega
  · rw [hn] at h ⊢; exact w1 h
  · rw [hn] at h; exact w2 h
set_option maxHeartbeats 4000000 in
theorem refNum_any (s : List UInt8) (w : World) (hl : s.length ≤ 10000) : Calls Tryz.prog 69 #[.string (bytesOf s)] w fun e w' => NumEnd s e ∧ w = w' := by
  obtain ⟨t, ht⟩ : ∃ t, t = bytesOf s := ⟨_, rfl⟩
  obtain ⟨L, hL⟩ : ∃ L, L = s.length := ⟨_, rfl⟩
  have hsz : t.size = L := by rw [ht, hL]; rfl
  have HAT := Lib.hid (fun (j : Nat) (c : UInt8) (h : s[j]? = some c) => (show t[j]? = some c by rw [ht]; exact bytes_at h))
  have HT := Lib.hid ht
  have HL := Lib.hid hL
  rw [← ht]
  rw [← hL] at hl
  clear ht hL
  go_enter Tryz.func69, Tryz.ntmps69
  by_cases h0 : L = 0
  · have hd0 : ((L : Int) == 0) = true := by rw [h0]; rfl
    have HE := Lib.hid (num_end0 (num_no (s := s) (.inl (List.eq_nil_of_length_eq_zero (by rw [← HL.out]; exact h0)))))
    clear h0
    go_wp2
    go_ret2
    exact ⟨HE.out, rfl⟩
  have hd0 : ((L : Int) == 0) = false := beq_eq_false_iff_ne.2 (by omega)
  have hd0n : (L == 0) = false := beq_eq_false_iff_ne.2 h0
  by_cases h19 : 19 < L
  · have hd1 : decide ((19 : Int) < (L : Int)) = true := decide_eq_true (by omega)
    have HE := Lib.hid (num_end0 (num_no (s := s) (.inr (.inl (by rw [← HL.out]; exact h19)))))
    clear h0
    go_wp2
    go_ret2
    exact ⟨HE.out, rfl⟩
  have hd1 : decide ((19 : Int) < (L : Int)) = false := decide_eq_false (by omega)
  have hLs : L ≤ 19 := by omega
  clear h19 h0
  go_wp2
  go_loop [4, 5] (fun nv iv => ∃ (k : Nat) (n : Int), k ≤ L ∧ iv = .int .i64 k ∧ nv = .int .i64 n ∧ Hid (NumAt s k n)) (fun _ iv => L - (intOf iv).toNat)
  case atStart => exact ⟨0, 0, Nat.zero_le _, rfl, rfl, ⟨by simp, fun _ => rfl, fun h => by simp [valD] at h⟩⟩
  case round =>
    obtain ⟨k, n, hk, rfl, rfl, HN⟩ := hrel
    by_cases hlt : k < L
    · have hki : decide ((k : Int) < (L : Int)) = true := decide_eq_true (by omega)
      have hk0 : (0 : Int) ≤ (k : Int) := by omega
      have hkI : (k : Int) < (L : Int) := by omega
      obtain ⟨c, hc⟩ : ∃ c, s[k]? = some c := ⟨_, List.getElem?_eq_getElem (by rw [← HL.out]; exact hlt)⟩
      obtain ⟨v, hv, rfl, hvs⟩ := HN.out.small (by omega)
      have hks : k < t.size := by omega
      have hte := byte_at (HAT.out k c hc) hks
      obtain ⟨cv, hcv⟩ : ∃ cv, cv = c.toNat := ⟨_, rfl⟩
      have htv : (t[k]'hks).toNat = cv := by rw [hte, hcv]
      have hc256 : cv < 256 := by rw [hcv]; exact c.toNat_lt
      have hc0 : (0 : Int) ≤ (cv : Int) := by omega
      have hcm : c ∈ s := List.mem_iff_getElem?.2 ⟨k, hc⟩
      by_cases hlo : cv < 48
      · have hl1 : decide ((cv : Int) < 48) = true := decide_eq_true (by omega)
        have hl2 : decide (cv < 48) = true := decide_eq_true hlo
        have HE := Lib.hid (num_end0 (num_no (s := s) (.inr (.inr ⟨c, hcm, by omega⟩))))
        clear hte hcv hc hcm hlo hv
        go_wp2
        go_ret2
        exact ⟨HE.out, rfl⟩
      have hl1 : decide ((cv : Int) < 48) = false := decide_eq_false (by omega)
      have hl2 : decide (cv < 48) = false := decide_eq_false hlo
      by_cases hhi : 57 < cv
      · have hh1 : decide ((57 : Int) < (cv : Int)) = true := decide_eq_true (by omega)
        have hh2 : decide (57 < cv) = true := decide_eq_true hhi
        have HE := Lib.hid (num_end0 (num_no (s := s) (.inr (.inr ⟨c, hcm, by omega⟩))))
        clear hte hcv hc hcm hlo hhi hv
        go_wp2
        go_ret2
        exact ⟨HE.out, rfl⟩
      have hh1 : decide ((57 : Int) < (cv : Int)) = false := decide_eq_false (by omega)
      have hh2 : decide (57 < cv) = false := decide_eq_false hhi
      have hnx := HN.out.next hv hvs hc hcv (by omega) (by omega)
      obtain ⟨n1, hn1⟩ : ∃ n1, IntKind.i64.wrap ((v : Int) * 10) = n1 := ⟨_, rfl⟩
      rw [hn1] at hnx
      obtain ⟨n2, hn2⟩ : ∃ n2, IntKind.i64.wrap (n1 + (cv : Int)) = n2 := ⟨_, rfl⟩
      rw [hn2] at hnx
      obtain ⟨n3, hn3⟩ : ∃ n3, IntKind.i64.wrap (n2 - 48) = n3 := ⟨_, rfl⟩
      rw [hn3] at hnx
      have HNX := Lib.hid hnx
      clear hte hcv hc hcm hlo hhi hv hnx hvs HN
      go_wp2
      go_round
      case measure =>
        show L - ((k : Int) + 1).toNat < L - ((k : Int)).toNat
        omega
      case rel => exact ⟨k + 1, n3, by omega, by go_num, rfl, HNX.out⟩
    · obtain rfl : k = L := by omega
      have hki : decide ((k : Int) < (k : Int)) = false := by simp
      have htk : s.take k = s := by rw [HL.out]; exact List.take_of_length_le (Nat.le_refl _)
      have hn := HN.out
      unfold NumAt at hn
      rw [htk] at hn
      rcases num_end hn.2 with ⟨h1, h2⟩ | ⟨m, rfl, hm, h1, h2⟩
      · have hge : decide ((0 : Int) ≤ n) = false := decide_eq_false (by omega)
        have HE := Lib.hid (show NumEnd s (.returned (.tuple #[.int .i64 n, .bool false])) from ⟨n, by rw [h2], fun h3 => by rw [h2] at h3; cases h3⟩)
        clear h1 h2 hn HN htk
        go_wp2
        go_ret2
        exact ⟨HE.out, rfl⟩
      · have hge : decide ((0 : Int) ≤ (m : Int)) = true := decide_eq_true (by omega)
        have HD := Lib.hid (show Calls Tryz.prog 27 #[.int .i64 (m : Int)] w fun e w' => e = .returned (.string (bytesOf (Lib.decDigits m))) ∧ w = w' from refDigits_any m w hm)
        have ht := HT.out
        by_cases he : Lib.decDigits m = s
        · obtain ⟨e1, e2⟩ := h1 he
          have hdt : (Lib.decDigits m == s) = true := beq_iff_eq.2 he
          have HE := Lib.hid (show NumEnd s (.returned (.tuple #[.int .i64 (m : Int), .bool true])) from ⟨m, by rw [e1], fun _ => e2.symm⟩)
          clear h1 h2 hn HN htk e1 e2 he
          subst ht
          go_wp2_with fail
          refine HD.out.mono ?_
          rintro e w' ⟨rfl, hw⟩
          rw [← hw]
          clear hw
          go_wp2
          go_ret2
          exact ⟨HE.out, rfl⟩
        · have e1 := h2 he
          have hdt : (Lib.decDigits m == s) = false := beq_eq_false_iff_ne.2 he
          have HE := Lib.hid (show NumEnd s (.returned (.tuple #[.int .i64 (m : Int), .bool false])) from ⟨m, by rw [e1], fun h3 => by rw [e1] at h3; cases h3⟩)
          clear h1 h2 hn HN htk e1 he
          subst ht
          go_wp2_with fail
          refine HD.out.mono ?_
          rintro e w' ⟨rfl, hw⟩
          rw [← hw]
          clear hw
          go_wp2
          go_ret2
          exact ⟨HE.out, rfl⟩

/-! ### Cut -/
/-- A row of texts. -/
def strE (v : Value) (ws : List (List UInt8)) : Ent := Ent.row v ws.length 1 9 (ws.map fun x => Value.string (bytesOf x))
theorem wpList_append_str {B : Nat} {w : World} {A C : List Ent} {v : Value} {ws : List (List UInt8)} {y : List UInt8} {ops : Array Oper} {rest : List Oper} {o : Oper} {a : Act} {Q : Exit → Act → World → Prop} (hgd : Region.wanted o (yielded ops a.tmps) = true) (s x : Operand)
    (ho : o.op = .call { callee := .builtin .append, args := #[s, x], argTypes := #[88, 88] })
    (hs : a.eval s = v) (hsep : Sep B w (A ++ strE v ws :: C)) (hBw : B ≤ w.heap.size)
    (hx : a.eval x = .slice (some ⟨w.heap.size, 0, none⟩) 1 1) (hlen : ws.length ≤ 1000000000)
    (h : ∀ v' w', Sep B w' (A ++ strE v' (ws ++ [y]) :: C) → Below B w w' → wpList Tryz.prog ops Q rest (a.put o.dst v') w') : wpList Tryz.prog ops Q (o :: rest) a (w.alloc (.cells #[.string (bytesOf y)] 9)) := by
  refine wpList_append_sep hgd s x ho elemStr hs (hsep.alloc _) (by simp; omega) ⟨w.heap.size, 0, none⟩ 1 1 [.string (bytesOf y)] hx rfl ?_ ?_ (by omega) (by omega) (by unfold maxLen; omega) ?_
  · intro j u hj
    match j, hj with
    | 0, hj => simp at hj; subst hj; simp [Addr.add]
  · intro u hu; simp at hu; subst hu; rfl
  · intro v' w' h1 h2
    refine h v' w' ?_ (((Below.refl B w).alloc hBw _).trans h2)
    simpa [strE] using h1
theorem strShape {B : Nat} {w : World} {A C : List Ent} {v : Value} {ws : List (List UInt8)} (h : Sep B w (A ++ strE v ws :: C)) : ∃ ao cap, v = .slice ao ws.length cap ∧ ws.length ≤ cap := by
  obtain ⟨-, ao, cap, hv, hc, -⟩ := h.rowShape
  exact ⟨ao, cap, hv, hc⟩
theorem strAt {B : Nat} {w : World} {A C : List Ent} {ao : Option Addr} {cap : Nat} {ws : List (List UInt8)} (h : Sep B w (A ++ strE (.slice ao ws.length cap) ws :: C)) : ∀ (j : Nat) x, ws[j]? = some x → ∃ g off, ao = some ⟨g, off, none⟩ ∧ g < w.heap.size ∧ w.cell? ⟨g, off + j, none⟩ = some (.string (bytesOf x)) := by
  intro j x hx
  have hj : j < ws.length := (List.getElem?_eq_some_iff.1 hx).1
  obtain ⟨g, off, rfl, _, hc, hf⟩ := Sep.rowAt h (by omega)
  have hcc : w.cell? ⟨g, off + j, none⟩ = some (.string (bytesOf x)) := by rw [hc j (by simp; omega)]; simp [hx]
  exact ⟨g, off, rfl, World.block_lt_of_cell? w _ hcc, hcc⟩
/-- How far the cut has come. -/
def CutAt (c : UInt8) (s : List UInt8) (i f : Nat) (rows : List (List UInt8)) : Prop :=
  f ≤ i ∧ rows.length ≤ i ∧ ((i ≤ s.length ∧ (∀ k : Nat, f ≤ k → k < i → s[k]? ≠ some c) ∧ cutL c s = rows ++ cutL c (s.drop f)) ∨ (i = s.length + 1 ∧ cutL c s = rows))
theorem CutAt.skip {c : UInt8} {s : List UInt8} {i f : Nat} {rows : List (List UInt8)} (h : CutAt c s i f rows) (hi : i < s.length) (hn : s[i]? ≠ some c) : CutAt c s (i + 1) f rows := by
  obtain ⟨h1, h2, h3 | h3⟩ := h
  · refine ⟨by omega, by omega, .inl ⟨by omega, fun k k1 k2 => ?_, h3.2.2⟩⟩
    by_cases hk : k = i
    · rw [hk]; exact hn
    · exact h3.2.1 k k1 (by omega)
  · omega
theorem CutAt.hit {c : UInt8} {s : List UInt8} {i f : Nat} {rows : List (List UInt8)} (h : CutAt c s i f rows) (hi : i < s.length) (hc : s[i]? = some c) : CutAt c s (i + 1) (i + 1) (rows ++ [(s.take i).drop f]) := by
  obtain ⟨h1, h2, h3 | h3⟩ := h
  · refine ⟨Nat.le_refl _, by rw [List.length_append, List.length_singleton]; omega, .inl ⟨by omega, fun k k1 k2 => by omega, ?_⟩⟩
    have hh := cutL_hit (c := c) (l := s.drop f) (i := i - f) (by rw [List.getElem?_drop, show f + (i - f) = i by omega]; exact hc) (fun k hk => by rw [List.getElem?_drop]; exact h3.2.1 (f + k) (by omega) (by omega))
    rw [h3.2.2, hh, List.drop_drop, List.append_assoc, List.singleton_append, show f + (i - f + 1) = i + 1 by omega]
    congr 2
    rw [List.drop_take]
  · omega
theorem CutAt.last {c : UInt8} {s : List UInt8} {f : Nat} {rows : List (List UInt8)} (h : CutAt c s s.length f rows) : CutAt c s (s.length + 1) (s.length + 1) (rows ++ [(s.take s.length).drop f]) := by
  obtain ⟨h1, h2, h3 | h3⟩ := h
  · refine ⟨Nat.le_refl _, by rw [List.length_append, List.length_singleton]; omega, .inr ⟨rfl, ?_⟩⟩
    rw [h3.2.2, List.take_of_length_le (Nat.le_refl _), cutL_none (l := s.drop f) (fun k hk => by
      rw [List.getElem?_drop] at hk
      have hl : f + k < s.length := (List.getElem?_eq_some_iff.1 hk).1
      exact h3.2.1 (f + k) (by omega) hl hk)]
  · omega
theorem ext_mid (l : List UInt8) (a b : Nat) : (bytesOf l).extract a b = bytesOf ((l.take b).drop a) := by
  rw [ByteArray.extract_mk]
  show (⟨(List.take (b - a) (List.drop a l)).toArray⟩ : ByteArray) = _
  rw [List.drop_take]
set_option maxHeartbeats 4000000 in
theorem refCut_any (B : Nat) (F : List Ent) (s : List UInt8) (c : UInt8) (w : World) (hB : B ≤ w.heap.size) (hs : Sep B w F) (hl : s.length ≤ 100000) :
    Calls Tryz.prog 46 #[.string (bytesOf s), .int .u8 (c.toNat : Int)] w fun e w' => ∃ v, e = .returned v ∧ Sep B w' (strE v (cutL c s) :: F) ∧ Below B w w' := by
  obtain ⟨t, ht⟩ : ∃ t, t = bytesOf s := ⟨_, rfl⟩
  obtain ⟨L, hL⟩ : ∃ L, L = s.length := ⟨_, rfl⟩
  have hsz : t.size = L := by rw [ht, hL]; rfl
  have HAT := Lib.hid (fun (j : Nat) (c : UInt8) (h : s[j]? = some c) => (show t[j]? = some c by rw [ht]; exact bytes_at h))
  have HEX := Lib.hid (fun a b => (show t.extract a b = bytesOf ((s.take b).drop a) by rw [ht]; exact ext_mid s a b))
  have HL := Lib.hid hL
  have HS0 := Lib.hid (show Sep B w (strE (.slice none 0 0) [] :: F) from hs.rowNil 1 9)
  have HB0 := Lib.hid (Below.refl B w)
  rw [← ht]
  rw [← hL] at hl
  clear ht hL hs
  go_enter Tryz.func46, Tryz.ntmps46
  go_wp2
  go_loopg [5, 6, 7] (L + 1) (fun gk lv fv iv wr => ∃ (i f : Nat) (rows : List (List UInt8)), gk + i = L + 1 ∧ iv = .int .i64 i ∧ fv = .int .i64 f ∧ Hid (CutAt c s i f rows) ∧ Sep B wr (strE lv rows :: F) ∧ Below B w wr)
  case atStart => exact ⟨0, 0, [], rfl, rfl, rfl, ⟨Nat.le_refl _, Nat.le_refl _, .inl ⟨Nat.zero_le _, fun k h1 h2 => by omega, rfl⟩⟩, HS0.out, HB0.out⟩
  case round =>
    obtain ⟨gi, rfl⟩ : ∃ gi, gi = gk := ⟨_, rfl⟩
    obtain ⟨i, f, rows, hgi, rfl, rfl, HC, hsp, hbel⟩ := hrel
    clear HS0 HB0
    have HS1 := Lib.hid hsp
    have HB1 := Lib.hid hbel
    obtain ⟨w1, hw1⟩ : ∃ w1, w1 = wr := ⟨_, rfl⟩
    obtain rfl := hw1
    have hg1 : B ≤ w1.heap.size := Nat.le_trans hB hbel.size
    clear hsp hbel
    by_cases hle : i ≤ L
    · have hd : decide ((i : Int) ≤ (L : Int)) = true := decide_eq_true (by omega)
      have hdn : decide (i ≤ L) = true := decide_eq_true hle
      have hf := HC.out.1
      have hr := HC.out.2.1
      have hi0 : (0 : Int) ≤ (i : Int) := by omega
      have hf0 : (0 : Int) ≤ (f : Int) := by omega
      have hfi : (f : Int) ≤ (i : Int) := by omega
      have hiL : (i : Int) ≤ (L : Int) := by omega
      have hex := HEX.out f i
      obtain ⟨y, hy⟩ : ∃ y, y = (s.take i).drop f := ⟨_, rfl⟩
      rw [← hy] at hex
      by_cases hend : i = L
      · have he : ((i : Int) == (L : Int)) = true := by rw [hend]; simp
        have HNX := Lib.hid (show CutAt c s (i + 1) (i + 1) (rows ++ [y]) by
          have h1 : i = s.length := by rw [hend]; exact HL.out
          have h2 := HC.out
          rw [hy, h1] at *
          exact h2.last)
        have HII := Lib.hid (And.intro hgi hr)
        clear hy hend hle HC hgi
        go_wp2_with (at_builtin; refine wpList_append_str rfl (.tmp 25) (.tmp 30) rfl (A := []) (y := y) rfl HS1.out hg1 rfl (by omega) ?_)
        intro v' w2 hs hb
        have HS2 := Lib.hid hs
        have HB2 := Lib.hid (HB1.out.trans hb)
        clear hs hb HS1 HB1 hg1
        go_wp2
        go_roundg (gi - 1)
        case measure => have := HII.out.1; omega
        case rel => exact ⟨i + 1, i + 1, rows ++ [y], by have := HII.out.1; omega, by go_num, by go_num, HNX.out, HS2.out, HB2.out⟩
      · have he : ((i : Int) == (L : Int)) = false := beq_eq_false_iff_ne.2 (by omega)
        have hen : (i == L) = false := beq_eq_false_iff_ne.2 hend
        have hiL2 : (i : Int) < (L : Int) := by omega
        obtain ⟨x, hx⟩ : ∃ x, s[i]? = some x := ⟨_, List.getElem?_eq_getElem (by rw [← HL.out]; omega)⟩
        have his : i < t.size := by omega
        have hte := byte_at (HAT.out i x hx) his
        by_cases hxc : x = c
        · have hcc : ((x.toNat : Int) == (c.toNat : Int)) = true := by rw [hxc]; simp
          have HNX := Lib.hid (show CutAt c s (i + 1) (i + 1) (rows ++ [y]) by
            rw [hy]
            exact HC.out.hit (by rw [← HL.out]; omega) (by rw [hx, hxc]))
          have HII := Lib.hid (And.intro hgi hr)
          clear hy hend hle HC hgi hx hxc
          go_wp2_with (at_builtin; refine wpList_append_str rfl (.tmp 25) (.tmp 30) rfl (A := []) (y := y) rfl HS1.out hg1 rfl (by omega) ?_)
          intro v' w2 hs hb
          have HS2 := Lib.hid hs
          have HB2 := Lib.hid (HB1.out.trans hb)
          clear hs hb HS1 HB1 hg1
          go_wp2
          go_roundg (gi - 1)
          case measure => have := HII.out.1; omega
          case rel => exact ⟨i + 1, i + 1, rows ++ [y], by have := HII.out.1; omega, by go_num, by go_num, HNX.out, HS2.out, HB2.out⟩
        · have hcc : ((x.toNat : Int) == (c.toNat : Int)) = false := beq_eq_false_iff_ne.2 (fun h => hxc (UInt8.toNat_inj.1 (by omega)))
          have hccn : (x.toNat == c.toNat) = false := beq_eq_false_iff_ne.2 (fun h => hxc (UInt8.toNat_inj.1 h))
          have HNX := Lib.hid (HC.out.skip (by rw [← HL.out]; omega) (by rw [hx]; exact fun h => hxc (Option.some.inj h)))
          have HII := Lib.hid hgi
          clear hy hend hle HC hgi hx hxc hex
          go_wp2
          go_roundg (gi - 1)
          case measure => have := HII.out; omega
          case rel => exact ⟨i + 1, f, rows, by have := HII.out; omega, by go_num, rfl, HNX.out, HS1.out, HB1.out⟩
    · have hd : decide ((i : Int) ≤ (L : Int)) = false := decide_eq_false (by omega)
      have hdn : decide (i ≤ L) = false := decide_eq_false hle
      have HE := Lib.hid (show cutL c s = rows by
        rcases HC.out.2.2 with h | h
        · have := h.1; have := HL.out; omega
        · exact h.2)
      clear hgi hle HC
      go_wp2
      go_ret
      rw [HE.out]
      exact ⟨_, rfl, HS1.out, HB1.out⟩
end Go.Proofs.YtbcfcjecobihnaaGreatDoor
