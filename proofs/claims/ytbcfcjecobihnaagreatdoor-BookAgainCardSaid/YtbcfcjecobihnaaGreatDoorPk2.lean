/- Of the laws that the given statement is lifted from; each holds for every input that it names: (*lpm.Table).at: the node of a prefix. · Plain: a table of routes as a rising list; what setting, dropping and finding do to it; a tree tells one. · core.Within: whether a number lies within bounds. · How a slice of slices of ints lies in memory. · cidr.size, cidr.Check. · lpm.New, (*lpm.Table).Find: and what is known of a table. · A book: its table, its builder, its count. The builder's copyCheck, WriteString, String. -/
import Derived.Test.YtbcfcjecobihnaaGreatDoorPk1
import Derived.Deep.LoopGhost
import Derived.Deep.DeepCutAuto
import Derived.BigQuiet
import Derived.Test.YtbcfcjecobihnaaGreatDoorRows
import Derived.Deep.RegionHeld3
import Derived.Deep.RegionLaw

section
/- (*lpm.Table).at: the node of a prefix. -/
namespace Go.Proofs.YtbcfcjecobihnaaGreatDoor
open Go.RowKit
set_option linter.unusedVariables false
set_option linter.unusedSimpArgs false
set_option maxRecDepth 100000

/-- The next bit of a path. -/
def lpb (a k : Nat) : Bool := a / 2 ^ (15 - k) % 2 == 1
theorem lpb_nat (a k : Nat) : a / 2 ^ (15 - k) % 2 = (lpb a k).toNat := (toNat_bit _).symm
theorem path_next (T : LT) (a k : Nat) : T.sub (lpPath a (k + 1)) = (T.sub (lpPath a k)).kid (lpb a k) := by
  rw [lpPath_succ, LT.sub_snoc]; rfl
theorem kid_cell {w : World} {b : Nat} {h : Int} {l r : LT} (c0 : w.cell? ⟨b, 0, none⟩ = some l.ptr) (c1 : w.cell? ⟨b, 1, none⟩ = some r.ptr) (x : Bool) : w.cell? ⟨b, x.toNat, none⟩ = some ((LT.node b h l r).kid x).ptr := by
  cases x
  · exact c0
  · exact c1

set_option maxHeartbeats 1000000 in
theorem lpmAt_any (B tb m : Nat) (T : LT) (F : List Ent) (a n : Nat) (w : World) (ha : a ≤ 65535) (hn : n ≤ 16) (hs : Sep B w (lptE tb m T ++ F)) :
    Calls Tryz.prog 55 #[.pointer (some ⟨tb, 0, none⟩), .agg #[.int .i64 a, .int .i64 n]] w fun e w' => e = .returned (T.sub (lpPath a n)).ptr ∧ Below w.heap.size w w' := by
  obtain ⟨W, hW⟩ : ∃ W, W = w.alloc (.cells #[.int .i64 (a : Int), .int .i64 (n : Int)] 38) := ⟨_, rfl⟩
  have hsW : Sep B W (lptE tb m T ++ F) := by rw [hW]; exact hs.alloc _
  have hbW : Below w.heap.size w W := by rw [hW]; exact below_alloc w _
  have hp0 : W.cell? ⟨w.heap.size, 0, none⟩ = some (.int .i64 (a : Int)) := by rw [hW, World.cell?_alloc_mark]; rfl
  have hp1 : W.cell? ⟨w.heap.size, 1, none⟩ = some (.int .i64 (n : Int)) := by rw [hW, World.cell?_alloc_mark]; rfl
  obtain ⟨t0, -⟩ := lpt_cells hsW
  have HSW := Lib.hid hsW
  have HBW := Lib.hid hbW
  have HW := Lib.hid hW
  have t0' := (lpt_cells hs).1
  obtain ⟨g, hg⟩ : ∃ g, g = w.heap.size := ⟨_, rfl⟩
  have HG := Lib.hid hg
  rw [← hg] at hp0 hp1
  clear hs hsW hbW hW hg
  go_enter Tryz.func55, Tryz.ntmps55
  go_upto_region 1 with fail
  rw [← HW.out, ← HG.out]
  go_wp2
  go_loopg [5, 6] n (fun gk p i wr => ∃ (k x : Nat), gk + k = n ∧ i = .int .i64 k ∧ p = (T.sub (lpPath a k)).ptr ∧ wr = W.drewN x)
  case atStart => exact ⟨0, 0, by omega, rfl, rfl, rfl⟩
  case round =>
    obtain ⟨gi, hgi0⟩ : ∃ gi, gi = gk := ⟨_, rfl⟩
    obtain ⟨k, x, hgk, rfl, hp, hwr⟩ := hrel
    subst hwr
    have HGK := Lib.hid hgk
    have hkn : k ≤ n := by omega
    clear hgk hgi0
    cases hk : T.sub (lpPath a k) with
    | nil =>
      rw [hk] at hp
      obtain rfl : _ = Value.pointer none := hp
      have hend : (T.sub (lpPath a n)).ptr = .pointer none := by
        have e : lpPath a n = lpPath a k ++ (lpPath a n).drop k := by
          have h1 : (lpPath a n).take k = lpPath a k := by
            unfold lpPath; rw [← List.map_take, List.take_range, Nat.min_eq_left hkn]
          rw [← h1, List.take_append_drop]
        rw [e, LT.sub_app, hk, LT.sub_nil]; rfl
      have HE := Lib.hid hend
      clear hk hend
      by_cases hlt : k < n
      · have d1 : decide ((k : Int) < (n : Int)) = true := decide_eq_true (by omega)
        go_wp2
        go_ret
        exact ⟨by rw [HE.out]; rfl, HBW.out.trans (below_drewN _ _ _)⟩
      · have d1 : decide ((k : Int) < (n : Int)) = false := decide_eq_false (by omega)
        have d1N : decide (k < n) = false := decide_eq_false hlt
        go_wp2
        go_ret
        exact ⟨by rw [HE.out]; rfl, HBW.out.trans (below_drewN _ _ _)⟩
    | node b h l r =>
      rw [hk] at hp
      obtain rfl : _ = Value.pointer (some ⟨b, 0, none⟩) := hp
      by_cases hlt : k < n
      · obtain ⟨⟨c0, c1, -⟩, -, -⟩ := nod_cells HSW.out hk
        have ck := kid_cell (h := h) c0 c1 (lpb a k)
        have hnx : T.sub (lpPath a (k + 1)) = (LT.node b h l r).kid (lpb a k) := by rw [path_next, hk]
        rw [← hnx] at ck
        have HBIT := Lib.hid (fun w' => lpbit_any a k w' ha (by omega))
        rw [lpb_nat] at HBIT
        obtain ⟨y, hy⟩ : ∃ y, y = (lpb a k).toNat := ⟨_, rfl⟩
        have hy2 : y < 2 := by rw [hy]; cases lpb a k <;> decide
        rw [← hy] at HBIT ck
        obtain ⟨pv, hpv⟩ : ∃ pv, pv = (T.sub (lpPath a (k + 1))).ptr := ⟨_, rfl⟩
        rw [← hpv] at ck
        have HPV := Lib.hid hpv
        have d1 : decide ((k : Int) < (n : Int)) = true := decide_eq_true (by omega)
        have hy0 : (0 : Int) ≤ (y : Int) := by omega
        have hy1 : (y : Int) < 2 := by omega
        clear hk hnx hy c0 c1 hpv
        go_upto_region 5 with fail
        go_quiet (first | (go_at_call 56; exact quiet_id (HBIT.out _) ⟨_, rfl⟩))
        go_wp2
        go_roundg (n - (k + 1))
        case measure => have := HGK.out; omega
        case rel =>
          exact ⟨k + 1, _, by omega, by go_num, HPV.out, rfl⟩
      · have d1 : decide ((k : Int) < (n : Int)) = false := decide_eq_false (by omega)
        have d1N : decide (k < n) = false := decide_eq_false hlt
        have hkn2 : k = n := by omega
        have hend : (T.sub (lpPath a n)).ptr = .pointer (some ⟨b, 0, none⟩) := by rw [← hkn2, hk]; rfl
        have HE := Lib.hid hend
        clear hk hend hkn2
        go_wp2
        go_ret
        exact ⟨by rw [HE.out]; rfl, HBW.out.trans (below_drewN _ _ _)⟩
end Go.Proofs.YtbcfcjecobihnaaGreatDoor

end

section
/- Plain: a table of routes as a rising list; what setting, dropping and finding do to it; a tree tells one. -/
namespace Go.Proofs.YtbcfcjecobihnaaGreatDoor
set_option linter.unusedVariables false

def keyIs (x : Rte) (a n : Nat) : Bool := x.1 == a && x.2.1 == n
def ltK (x : Rte) (a n : Nat) : Bool := decide (x.1 < a ∨ (x.1 = a ∧ x.2.1 < n))
def hasL (L : List Rte) (a n : Nat) : Bool := L.any fun x => keyIs x a n
def setL : List Rte → Nat → Nat → Nat → List Rte
  | [], a, n, h => [(a, n, h)]
  | x :: L, a, n, h => if ltK x a n then x :: setL L a n h else if keyIs x a n then (a, n, h) :: L else (a, n, h) :: x :: L
def dropL (L : List Rte) (a n : Nat) : List Rte := L.filter fun x => !keyIs x a n
def lookL (L : List Rte) (a n : Nat) : Int := match L.find? (fun x => keyIs x a n) with | some x => (x.2.2 : Int) | none => -1
/-- The longest prefix of an address, of less than i bits. -/
def findL (L : List Rte) (a : Nat) : Nat → Option (Nat × Nat)
  | 0 => none
  | i + 1 => if 0 ≤ lookL L (a - a % 2 ^ (16 - i)) i then some ((lookL L (a - a % 2 ^ (16 - i)) i).toNat, i) else findL L a i

theorem keyIs_iff {x : Rte} {a n : Nat} : keyIs x a n = true ↔ x.1 = a ∧ x.2.1 = n := by simp [keyIs]
theorem setL_mem : ∀ {L : List Rte} {a n h : Nat}, SrtR L → ∀ y, y ∈ setL L a n h ↔ y = (a, n, h) ∨ (y ∈ L ∧ keyIs y a n = false)
  | [], a, n, h, _, y => by simp [setL]
  | x :: L, a, n, h, hs, y => by
    have hs' := List.pairwise_cons.1 hs
    unfold setL
    split
    · rename_i h1
      have hk : keyIs x a n = false := by
        have := of_decide_eq_true h1
        simp [keyIs]; omega
      rw [List.mem_cons, setL_mem hs'.2, List.mem_cons]
      constructor
      · rintro (rfl | rfl | h)
        · exact .inr ⟨.inl rfl, hk⟩
        · exact .inl rfl
        · exact .inr ⟨.inr h.1, h.2⟩
      · rintro (rfl | ⟨rfl | h, h2⟩)
        · exact .inr (.inl rfl)
        · exact .inl rfl
        · exact .inr (.inr ⟨h, h2⟩)
    · rename_i h1
      have h1' : ¬ (x.1 < a ∨ (x.1 = a ∧ x.2.1 < n)) := fun h => h1 (decide_eq_true h)
      have hL : ∀ z ∈ L, keyIs z a n = false := fun z hz => by
        have := hs'.1 z hz
        unfold ltR at this
        simp [keyIs]; omega
      split
      · rename_i h2
        rw [List.mem_cons, List.mem_cons]
        constructor
        · rintro (rfl | h)
          · exact .inl rfl
          · exact .inr ⟨.inr h, hL y h⟩
        · rintro (rfl | ⟨rfl | h, h3⟩)
          · exact .inl rfl
          · rw [h2] at h3; cases h3
          · exact .inr h
      · rename_i h2
        rw [List.mem_cons, List.mem_cons]
        constructor
        · rintro (rfl | rfl | h)
          · exact .inl rfl
          · exact .inr ⟨.inl rfl, by simpa using h2⟩
          · exact .inr ⟨.inr h, hL y h⟩
        · rintro (rfl | ⟨h, _⟩)
          · exact .inl rfl
          · exact .inr h
theorem setL_srt : ∀ {L : List Rte} {a n h : Nat}, SrtR L → SrtR (setL L a n h)
  | [], a, n, h, _ => List.pairwise_singleton _ _
  | x :: L, a, n, h, hs => by
    have hs' := List.pairwise_cons.1 hs
    unfold setL
    split
    · rename_i h1
      have h1' := of_decide_eq_true h1
      refine List.pairwise_cons.2 ⟨fun y hy => ?_, setL_srt hs'.2⟩
      rcases (setL_mem hs'.2 y).1 hy with rfl | ⟨h2, _⟩
      · exact h1'
      · exact hs'.1 y h2
    · rename_i h1
      have h1' : ¬ (x.1 < a ∨ (x.1 = a ∧ x.2.1 < n)) := fun h => h1 (decide_eq_true h)
      split
      · rename_i h2
        have h2' := keyIs_iff.1 h2
        refine List.pairwise_cons.2 ⟨fun y hy => ?_, hs'.2⟩
        have := hs'.1 y hy
        unfold ltR at this ⊢; simp only; omega
      · rename_i h2
        have h2' : ¬ (x.1 = a ∧ x.2.1 = n) := fun h => h2 (keyIs_iff.2 h)
        refine List.pairwise_cons.2 ⟨fun y hy => ?_, hs⟩
        rcases List.mem_cons.1 hy with rfl | hy
        · unfold ltR; simp only; omega
        · have := hs'.1 y hy
          unfold ltR at this ⊢; simp only; omega
theorem dropL_mem {L : List Rte} {a n : Nat} {y : Rte} : y ∈ dropL L a n ↔ y ∈ L ∧ keyIs y a n = false := by
  unfold dropL; rw [List.mem_filter]; simp
theorem dropL_srt {L : List Rte} {a n : Nat} (h : SrtR L) : SrtR (dropL L a n) := h.filter _
/-- One thing for each key. -/
theorem srt_key {L : List Rte} (h : SrtR L) {x y : Rte} (hx : x ∈ L) (hy : y ∈ L) (h1 : x.1 = y.1) (h2 : x.2.1 = y.2.1) : x = y := by
  obtain ⟨i, hi⟩ := List.mem_iff_getElem?.1 hx
  obtain ⟨j, hj⟩ := List.mem_iff_getElem?.1 hy
  obtain ⟨hi1, rfl⟩ := List.getElem?_eq_some_iff.1 hi
  obtain ⟨hj1, rfl⟩ := List.getElem?_eq_some_iff.1 hj
  rcases Nat.lt_trichotomy i j with h3 | h3 | h3
  · have := List.pairwise_iff_getElem.1 h i j hi1 hj1 h3
    unfold ltR at this; omega
  · subst h3; rfl
  · have := List.pairwise_iff_getElem.1 h j i hj1 hi1 h3
    unfold ltR at this; omega
theorem lookL_of {L : List Rte} (hs : SrtR L) {a n h : Nat} (hm : (a, n, h) ∈ L) : lookL L a n = (h : Int) := by
  unfold lookL
  cases hf : L.find? (fun x => keyIs x a n) with
  | none => have := List.find?_eq_none.1 hf _ hm; simp [keyIs] at this
  | some x =>
    have h0 : keyIs x a n = true := List.find?_some (p := fun x => keyIs x a n) hf
    have h1 := keyIs_iff.1 h0
    have := srt_key hs (List.mem_of_find?_eq_some hf) hm h1.1 h1.2
    rw [this]
theorem lookL_not {L : List Rte} {a n : Nat} (h : ∀ x ∈ L, keyIs x a n = false) : lookL L a n = -1 := by
  unfold lookL
  rw [List.find?_eq_none.2 fun x hx => by rw [h x hx]; decide]
theorem hasL_look {L : List Rte} {a n : Nat} : hasL L a n = true ↔ 0 ≤ lookL L a n := by
  unfold hasL lookL
  rw [List.any_eq_true]
  cases hf : L.find? (fun x => keyIs x a n) with
  | none =>
    have := List.find?_eq_none.1 hf
    constructor
    · rintro ⟨x, hx, h⟩; exact absurd h (this x hx)
    · intro h; simp at h
  | some x => exact ⟨fun _ => by simp, fun _ => ⟨x, List.mem_of_find?_eq_some hf, List.find?_some (p := fun x => keyIs x a n) hf⟩⟩

/-! ### What a tree tells -/
theorem rts_mem {T : LT} (hd : T.deep 17) {a n h : Nat} (hk : lpOk a n) : (a, n, h) ∈ T.rts [] ↔ T.at (lpPath a n) = (h : Int) := by
  rw [LT.mem_rts]
  constructor
  · rintro ⟨τ, e, h0⟩
    have hl := LT.at_deep hd h0
    simp only [List.nil_append, Prod.mk.injEq] at e
    obtain ⟨e1, e2, e3⟩ := e
    rw [e1, e2, lpPath_addr (by omega)]
    omega
  · intro e
    refine ⟨lpPath a n, ?_, by omega⟩
    rw [List.nil_append, lpAddr_ok hk, lpPath_len, e]; rfl
theorem rts_ok {T : LT} (hd : T.deep 17) {x : Rte} (hx : x ∈ T.rts []) : lpOk x.1 x.2.1 := by
  obtain ⟨τ, rfl, h0⟩ := (LT.mem_rts T [] x).1 hx
  have hl := LT.at_deep hd h0
  simp only [List.nil_append]
  exact lpAddr_isOk (by omega)
theorem rts_sorted {T : LT} (hd : T.deep 17) : SrtR (T.rts []) := LT.rts_srt T [] 17 hd (by simp)
theorem at_look {T : LT} (hd : T.deep 17) {a n : Nat} (hk : lpOk a n) (hm : -1 ≤ T.at (lpPath a n)) : T.at (lpPath a n) = lookL (T.rts []) a n := by
  by_cases h0 : 0 ≤ T.at (lpPath a n)
  · obtain ⟨h, hh⟩ := Int.eq_ofNat_of_zero_le h0
    rw [lookL_of (rts_sorted hd) ((rts_mem hd hk).2 hh), hh]
  · rw [lookL_not fun x hx => ?_]
    · omega
    · cases hkx : keyIs x a n with
      | false => rfl
      | true =>
        exfalso
        have e := keyIs_iff.1 hkx
        have hx' : (a, n, x.2.2) ∈ T.rts [] := by rw [← e.1, ← e.2]; exact hx
        have := (rts_mem hd hk).1 hx'
        omega
/-- A hop turned. -/
theorem at_set {T : LT} {π : List Bool} {b : Nat} {h h' : Int} {l r : LT} (hs : T.sub π = .node b h l r) : (∀ ρ, ρ ≠ π → (T.repl π (.node b h' l r)).at ρ = T.at ρ) ∧ (T.repl π (.node b h' l r)).at π = h' := by
  have hn : T.sub π ≠ .nil := by rw [hs]; simp
  refine ⟨fun ρ hr => LT.at_repl T π π _ hn (fun τ => ?_) ρ hr, ?_⟩
  · rw [hs]
    match τ with
    | [] => exact .inr (by simp)
    | b :: τ => exact .inl rfl
  · unfold LT.at; rw [LT.sub_repl T π _ hn]; rfl
/-- A new node without a hop tells nothing. -/
theorem at_grow {T : LT} {π : List Bool} {u : LT} (hn : T.sub π ≠ .nil) (hu : ∀ τ, u.at τ = (T.sub π).at τ) : ∀ ρ, (T.repl π u).at ρ = T.at ρ := fun ρ =>
  LT.at_repl T π (ρ ++ [true]) u hn (fun τ => .inl (hu τ)) ρ (by intro e; have := congrArg List.length e; simp at this)
theorem rts_congr {T T' : LT} (hd : T.deep 17) (hd' : T'.deep 17) (h : ∀ ρ, T'.at ρ = T.at ρ) : T'.rts [] = T.rts [] :=
  srtR_uniq (rts_sorted hd') (rts_sorted hd) fun x => by rw [LT.mem_rts, LT.mem_rts]; simp only [h]
theorem at_low : ∀ (T : LT), (∀ π, -1 ≤ T.at π) ↔ ∀ π, T.sub π ≠ .nil → -1 ≤ (T.sub π).hop := fun T =>
  ⟨fun h π _ => h π, fun h π => by
    unfold LT.at
    by_cases hn : T.sub π = .nil
    · rw [hn]; simp [LT.hop]
    · exact h π hn⟩
theorem rts_set {T T' : LT} {a n h : Nat} (hd : T.deep 17) (hd' : T'.deep 17) (hk : lpOk a n) (h1 : ∀ ρ, ρ ≠ lpPath a n → T'.at ρ = T.at ρ) (h2 : T'.at (lpPath a n) = (h : Int)) : T'.rts [] = setL (T.rts []) a n h := by
  refine srtR_uniq (rts_sorted hd') (setL_srt (rts_sorted hd)) fun x => ?_
  rw [setL_mem (rts_sorted hd)]
  obtain ⟨xa, xn, xh⟩ := x
  constructor
  · intro hx
    have ho : lpOk xa xn := rts_ok hd' hx
    have hx2 := (rts_mem hd' ho).1 hx
    by_cases e : keyIs (xa, xn, xh) a n = true
    · obtain ⟨e1, e2⟩ := keyIs_iff.1 e
      simp only at e1 e2
      subst e1 e2
      left
      rw [h2] at hx2
      have : h = xh := by omega
      rw [this]
    · right
      refine ⟨(rts_mem hd ho).2 ?_, by simpa using e⟩
      rw [← h1 (lpPath xa xn) fun ee => ?_]
      · exact hx2
      · refine e (keyIs_iff.2 ⟨?_, ?_⟩)
        · rw [← lpAddr_ok ho, ee, lpAddr_ok hk]
        · have := congrArg List.length ee; rw [lpPath_len, lpPath_len] at this; exact this
  · rintro (e | ⟨hx, e⟩)
    · rw [e]; exact (rts_mem hd' hk).2 h2
    · have ho : lpOk xa xn := rts_ok hd hx
      refine (rts_mem hd' ho).2 ?_
      rw [h1 (lpPath xa xn) fun ee => ?_]
      · exact (rts_mem hd ho).1 hx
      · have e1 : xa = a := by rw [← lpAddr_ok ho, ee, lpAddr_ok hk]
        have e2 : xn = n := by have := congrArg List.length ee; rw [lpPath_len, lpPath_len] at this; exact this
        have : keyIs (xa, xn, xh) a n = true := keyIs_iff.2 ⟨e1, e2⟩
        rw [this] at e; cases e
theorem rts_drop {T T' : LT} {a n : Nat} (hd : T.deep 17) (hd' : T'.deep 17) (hk : lpOk a n) (h1 : ∀ ρ, ρ ≠ lpPath a n → T'.at ρ = T.at ρ) (h2 : T'.at (lpPath a n) = -1) : T'.rts [] = dropL (T.rts []) a n := by
  refine srtR_uniq (rts_sorted hd') (dropL_srt (rts_sorted hd)) fun x => ?_
  rw [dropL_mem]
  obtain ⟨xa, xn, xh⟩ := x
  constructor
  · intro hx
    have ho : lpOk xa xn := rts_ok hd' hx
    have hx2 := (rts_mem hd' ho).1 hx
    have hne : lpPath xa xn ≠ lpPath a n := fun ee => by rw [ee, h2] at hx2; omega
    refine ⟨(rts_mem hd ho).2 (by rw [← h1 _ hne]; exact hx2), ?_⟩
    cases e : keyIs (xa, xn, xh) a n with
    | false => rfl
    | true =>
      obtain ⟨e1, e2⟩ := keyIs_iff.1 e
      simp only at e1 e2
      exact absurd (by rw [e1, e2]) hne
  · rintro ⟨hx, e⟩
    have ho : lpOk xa xn := rts_ok hd hx
    refine (rts_mem hd' ho).2 ?_
    rw [h1 (lpPath xa xn) fun ee => ?_]
    · exact (rts_mem hd ho).1 hx
    · have e1 : xa = a := by rw [← lpAddr_ok ho, ee, lpAddr_ok hk]
      have e2 : xn = n := by have := congrArg List.length ee; rw [lpPath_len, lpPath_len] at this; exact this
      have : keyIs (xa, xn, xh) a n = true := keyIs_iff.2 ⟨e1, e2⟩
      rw [this] at e; cases e
theorem setL_len : ∀ {L : List Rte} {a n h : Nat}, SrtR L → (setL L a n h).length = if hasL L a n then L.length else L.length + 1
  | [], a, n, h, _ => rfl
  | x :: L, a, n, h, hs => by
    have hs' := List.pairwise_cons.1 hs
    unfold setL
    split
    · rename_i h1
      have hk : keyIs x a n = false := by have := of_decide_eq_true h1; simp [keyIs]; omega
      rw [List.length_cons, setL_len hs'.2]
      unfold hasL
      rw [List.any_cons, hk, Bool.false_or]
      split <;> rfl
    · rename_i h1
      have h1' : ¬ (x.1 < a ∨ (x.1 = a ∧ x.2.1 < n)) := fun h => h1 (decide_eq_true h)
      split
      · rename_i h2
        unfold hasL
        rw [List.any_cons, h2]; rfl
      · rename_i h2
        have hL : L.any (fun x => keyIs x a n) = false := by
          rw [List.any_eq_false]
          intro z hz
          have := hs'.1 z hz
          unfold ltR at this
          simp [keyIs]; omega
        unfold hasL
        rw [List.any_cons, hL, Bool.or_false]
        have : keyIs x a n = false := by simpa using h2
        rw [this]; rfl
theorem dropL_len {L : List Rte} {a n : Nat} (hs : SrtR L) (h : hasL L a n = true) : (dropL L a n).length + 1 = L.length := by
  induction L with
  | nil => cases h
  | cons x L ih =>
    have hs' := List.pairwise_cons.1 hs
    unfold dropL
    cases hk : keyIs x a n with
    | true =>
      have hL : L.filter (fun x => !keyIs x a n) = L := List.filter_eq_self.2 fun z hz => by
        have := hs'.1 z hz
        have e := keyIs_iff.1 hk
        unfold ltR at this
        simp [keyIs]; omega
      rw [List.filter_cons, hk]; simp [hL]
    | false =>
      rw [List.filter_cons, hk]
      have h2 : hasL L a n = true := by unfold hasL at h ⊢; rw [List.any_cons, hk, Bool.false_or] at h; exact h
      have := ih hs'.2 h2
      unfold dropL at this
      simp; omega
end Go.Proofs.YtbcfcjecobihnaaGreatDoor

end

section
/- core.Within: whether a number lies within bounds. -/
namespace Go.Proofs.YtbcfcjecobihnaaGreatDoor
open Go.RowKit

theorem within_yes (a b c : Int) (w : World) (h1 : b ≤ a) (h2 : a ≤ c) : Calls Tryz.prog 54 #[.int .i64 a, .int .i64 b, .int .i64 c] w fun e w' => e = .returned (.bool true) ∧ w = w' := by
  go_enter Tryz.func54, Tryz.ntmps54
  go_wp2
  go_ret
  exact ⟨ret_bool (by simp), rfl⟩

theorem within_no (a b c : Int) (w : World) (h : ¬ (b ≤ a ∧ a ≤ c)) : Calls Tryz.prog 54 #[.int .i64 a, .int .i64 b, .int .i64 c] w fun e w' => e = .returned (.bool false) ∧ w = w' := by
  by_cases h1 : b ≤ a
  · have h2 : c < a := by omega
    clear h
    go_enter Tryz.func54, Tryz.ntmps54
    go_wp2
    go_ret
    exact ⟨ret_bool (by simpa using h2), rfl⟩
  · clear h
    go_enter Tryz.func54, Tryz.ntmps54
    go_wp2
    go_ret
    exact ⟨rfl, rfl⟩
end Go.Proofs.YtbcfcjecobihnaaGreatDoor

end

section
/- How a slice of slices of ints lies in memory. -/
namespace Go.Proofs.YtbcfcjecobihnaaGreatDoor
open Go.RowKit

/-- A step as it lies in memory. -/
abbrev Stp := Option Addr × Nat × List Int
def stpC (r : Stp) : List Value := [.slice r.1 r.2.2.length r.2.1]
def StpsOk (B : Nat) (w : World) (rs : List Stp) : Prop := ∀ r ∈ rs, IntSl B w r.1 r.2.2 ∧ r.2.2.length ≤ r.2.1 ∧ r.2.1 ≤ maxLen
theorem StpsOk.below {B : Nat} {w w' : World} {rs : List Stp} (h : StpsOk B w rs) (hk : Below B w w') : StpsOk B w' rs := fun r hr => ⟨(h r hr).1.below hk, (h r hr).2⟩

/-- An error of api's by its number; 0: none. -/
def errV (c : Int) : Value := if c = 0 then .nilIface else .iface 68 (.int .i64 c)
theorem errV_zero : errV 0 = .nilIface := rfl
theorem errV_not {c : Int} (h : ¬ c = 0) : errV c = .iface 68 (.int .i64 c) := if_neg h

def rowsOf (rs : List Stp) : List (List Int) := rs.map (·.2.2)
theorem rowsOf_len (rs : List Stp) : (rowsOf rs).length = rs.length := by simp [rowsOf]
theorem rowsOf_get {rs : List Stp} {k : Nat} {r : Stp} (h : rs[k]? = some r) : (rowsOf rs)[k]? = some r.2.2 := by simp [rowsOf, h]

/-- A row of rows, read. -/
theorem rows_at {B : Nat} {w : World} {ao : Option Addr} {rs : List Stp} (hA : RowSl B w ao 1 (rs.map stpC)) {k : Nat} {r : Stp} (h : rs[k]? = some r) :
    ∃ b off, ao = some ⟨b, off, none⟩ ∧ b < B ∧ w.cell? ⟨b, off + k, none⟩ = some (.slice r.1 r.2.2.length r.2.1) := by
  obtain ⟨b, off, rfl, hb, hc⟩ := hA k (stpC r) (by rw [List.getElem?_map, h]; rfl)
  have c0 := hc 0 _ rfl
  simp only [Nat.mul_one, Nat.add_zero] at c0
  exact ⟨b, off, rfl, hb, c0⟩
theorem rowSl_new (w : World) (g : Nat) (hg : g = w.heap.size) (cs : Array Value) (e : TypeId) (rs : List Stp) (h : cs.toList = rs.map fun r => Value.slice r.1 r.2.2.length r.2.1) : RowSl (g + 1) (w.alloc (.cells cs e)) (some ⟨g, 0, none⟩) 1 (rs.map stpC) := by
  subst hg
  intro j row hj
  rw [List.getElem?_map] at hj
  cases hr : rs[j]? with
  | none => rw [hr] at hj; cases hj
  | some r =>
    rw [hr] at hj
    obtain rfl : stpC r = row := by simpa using hj
    refine ⟨w.heap.size, 0, rfl, by omega, ?_⟩
    intro i v hv
    match i, hv with
    | 0, hv =>
      obtain rfl : Value.slice r.1 r.2.2.length r.2.1 = v := by simpa [stpC] using hv
      have h1 : cs.toList[j]? = some (.slice r.1 r.2.2.length r.2.1) := by rw [h, List.getElem?_map, hr]; rfl
      have h2 : (w.alloc (.cells cs e)).heap[w.heap.size]? = some (.cells cs e) := heap_alloc_new w _
      rw [show 0 + j * 1 + 0 = j by omega]
      rw [cell_of_row _ _ j cs e (0, 0) h2]
      simpa using h1
    | i + 1, hv => simp [stpC] at hv
end Go.Proofs.YtbcfcjecobihnaaGreatDoor

end

section
/- cidr.size, cidr.Check. -/
namespace Go.Proofs.YtbcfcjecobihnaaGreatDoor
open Go.RowKit
set_option linter.unusedVariables false
set_option linter.unusedSimpArgs false
set_option maxRecDepth 100000

/-- What is wrong with a prefix. -/
def chkP (a n : Int) : Int := if ¬ (0 ≤ a ∧ a ≤ 65535 ∧ 0 ≤ n ∧ n ≤ 16) then 1 else if ¬ a.toNat % 2 ^ (16 - n.toNat) = 0 then 3 else 0
theorem chkP_ok {a n : Int} (h : chkP a n = 0) : ∃ x k : Nat, a = (x : Int) ∧ n = (k : Int) ∧ lpOk x k := by
  unfold chkP at h
  split at h
  · cases h
  · rename_i h1
    have h1 : 0 ≤ a ∧ a ≤ 65535 ∧ 0 ≤ n ∧ n ≤ 16 := by omega
    split at h
    · cases h
    · rename_i h2
      refine ⟨a.toNat, n.toNat, by omega, by omega, by omega, by omega, by omega⟩
theorem chkP_of {x k : Nat} (h : lpOk x k) : chkP (x : Int) (k : Int) = 0 := by
  unfold chkP
  rw [if_neg (by have := h.1; have := h.2.1; omega), if_neg (by rw [Int.toNat_natCast, Int.toNat_natCast]; have := h.2.2; omega)]

theorem pow16_le (n : Nat) : (2 ^ (16 - n) : Nat) ≤ 65536 := Nat.pow_le_pow_right (by decide) (by omega : 16 - n ≤ 16)
theorem wrap_pow16 (n : Nat) : wrap64 ((2 : Int) ^ (16 - n)) = ((2 ^ (16 - n) : Nat) : Int) := by
  have h := pow16_le n
  have e : ((2 : Int) ^ (16 - n)) = ((2 ^ (16 - n) : Nat) : Int) := by simp
  rw [e]
  generalize 2 ^ (16 - n) = m at *
  unfold wrap64; omega
set_option maxHeartbeats 400000 in
theorem cidrSize_any (a : Int) (n : Nat) (w : World) (hn : n ≤ 16) :
    Calls Tryz.prog 83 #[.agg #[.int .i64 a, .int .i64 n]] w fun e w' => e = .returned (.int .i64 ((2 ^ (16 - n) : Nat) : Int)) ∧ Below w.heap.size w w' := by
  have HP := Lib.hid (wrap_pow16 n)
  go_enter Tryz.func83, Tryz.ntmps83
  go_wp2
  go_ret
  exact ⟨ret_int HP.out, below_alloc w _⟩

set_option maxHeartbeats 1000000 in
theorem check_range (a n : Int) (w : World) (h : ¬ (0 ≤ a ∧ a ≤ 65535 ∧ 0 ≤ n ∧ n ≤ 16)) :
    Calls Tryz.prog 53 #[.agg #[.int .i64 a, .int .i64 n]] w fun e w' => e = .returned (errV 1) ∧ Below w.heap.size w w' := by
  rw [errV_not (by decide)]
  by_cases h1 : 0 ≤ a ∧ a ≤ 65535
  · have HN : Hid (¬ (0 ≤ n ∧ n ≤ 16)) := Lib.hid (fun h2 => h ⟨h1.1, h1.2, h2.1, h2.2⟩)
    obtain ⟨ha1, ha2⟩ := h1
    clear h
    obtain ⟨W, hW⟩ : ∃ W, W = w.alloc (.cells #[.int .i64 a, .int .i64 n] 38) := ⟨_, rfl⟩
    have hbW : Below w.heap.size w W := by rw [hW]; exact below_alloc w _
    have hp0 : W.cell? ⟨w.heap.size, 0, none⟩ = some (.int .i64 a) := by rw [hW, World.cell?_alloc_mark]; rfl
    have hp1 : W.cell? ⟨w.heap.size, 1, none⟩ = some (.int .i64 n) := by rw [hW, World.cell?_alloc_mark]; rfl
    have hgW : w.heap.size < W.heap.size := by rw [hW]; simp
    obtain ⟨g, hg⟩ : ∃ g, g = w.heap.size := ⟨_, rfl⟩
    have HBW := Lib.hid hbW
    have HW := Lib.hid hW
    have HG := Lib.hid hg
    rw [← hg] at hp0 hp1 hgW
    clear hbW hW hg
    go_enter Tryz.func53, Tryz.ntmps53
    go_upto_region 1 with fail
    rw [← HW.out, ← HG.out]
    go_wp2_with fail
    refine (within_yes _ _ _ _ ha1 ha2).mono ?_
    rintro e w' ⟨rfl, rfl⟩
    go_wp2_with fail
    refine (within_no _ _ _ _ HN.out).mono ?_
    rintro e w' ⟨rfl, rfl⟩
    go_wp2
    go_ret
    exact ⟨rfl, HBW.out⟩
  · have HN := Lib.hid h1
    clear h h1
    obtain ⟨W, hW⟩ : ∃ W, W = w.alloc (.cells #[.int .i64 a, .int .i64 n] 38) := ⟨_, rfl⟩
    have hbW : Below w.heap.size w W := by rw [hW]; exact below_alloc w _
    have hp0 : W.cell? ⟨w.heap.size, 0, none⟩ = some (.int .i64 a) := by rw [hW, World.cell?_alloc_mark]; rfl
    have hp1 : W.cell? ⟨w.heap.size, 1, none⟩ = some (.int .i64 n) := by rw [hW, World.cell?_alloc_mark]; rfl
    have hgW : w.heap.size < W.heap.size := by rw [hW]; simp
    obtain ⟨g, hg⟩ : ∃ g, g = w.heap.size := ⟨_, rfl⟩
    have HBW := Lib.hid hbW
    have HW := Lib.hid hW
    have HG := Lib.hid hg
    rw [← hg] at hp0 hp1 hgW
    clear hbW hW hg
    go_enter Tryz.func53, Tryz.ntmps53
    go_upto_region 1 with fail
    rw [← HW.out, ← HG.out]
    go_wp2_with fail
    refine (within_no _ _ _ _ HN.out).mono ?_
    rintro e w' ⟨rfl, rfl⟩
    go_wp2
    go_ret
    exact ⟨rfl, HBW.out⟩
set_option maxHeartbeats 1000000 in
theorem check_in (a n : Nat) (w : World) (ha : a ≤ 65535) (hn : n ≤ 16) :
    Calls Tryz.prog 53 #[.agg #[.int .i64 a, .int .i64 n]] w fun e w' => e = .returned (errV (if ¬ a % 2 ^ (16 - n) = 0 then 3 else 0)) ∧ Below w.heap.size w w' := by
  have ha1 : (0 : Int) ≤ (a : Int) := by omega
  have ha2 : (a : Int) ≤ 65535 := by omega
  have hn1 : (0 : Int) ≤ (n : Int) := by omega
  have hn2 : (n : Int) ≤ 16 := by omega
  obtain ⟨m, hm⟩ : ∃ m, m = 2 ^ (16 - n) := ⟨_, rfl⟩
  have hm1 : m ≤ 65536 := by rw [hm]; exact pow16_le n
  have hm0 : 1 ≤ m := by rw [hm]; exact Nat.two_pow_pos _
  have hsz : ∀ w1 : World, Calls Tryz.prog 83 #[.agg #[.int .i64 a, .int .i64 n]] w1 fun e w' => e = .returned (.int .i64 (m : Int)) ∧ Below w1.heap.size w1 w' := fun w1 => by rw [hm]; exact cidrSize_any _ n w1 hn
  have HSZ := Lib.hid hsz
  rw [← hm]
  clear hm hsz
  obtain ⟨r, hr⟩ : ∃ r, r = a % m := ⟨_, rfl⟩
  have hrI : (a : Int) % (m : Int) = (r : Int) := by rw [hr]; simp
  have hrT : (a : Int).tmod (m : Int) = (r : Int) := by rw [hr]; simp [Int.tmod_eq_emod_of_nonneg]
  have hr1 : r < m := by rw [hr]; exact Nat.mod_lt _ hm0
  rw [← hr]
  clear hr
  have hmI : ((m : Int) == 0) = false := by simp; omega
  have hmne : ¬ (m : Int) = 0 := by omega
  have hmn : ¬ m = 0 := by omega
  have hrw : IntKind.i64.wrap (r : Int) = (r : Int) := by simp [IntKind.wrap, IntKind.bits, IntKind.signed]; omega
  by_cases hr0 : r = 0
  · have hd : ((r : Int) != 0) = false := by simp [hr0]
    rw [if_neg (by simpa using hr0), errV_zero]
    clear hr0
    obtain ⟨W, hW⟩ : ∃ W, W = w.alloc (.cells #[.int .i64 (a : Int), .int .i64 (n : Int)] 38) := ⟨_, rfl⟩
    have hbW : Below w.heap.size w W := by rw [hW]; exact below_alloc w _
    have hp0 : W.cell? ⟨w.heap.size, 0, none⟩ = some (.int .i64 (a : Int)) := by rw [hW, World.cell?_alloc_mark]; rfl
    have hp1 : W.cell? ⟨w.heap.size, 1, none⟩ = some (.int .i64 (n : Int)) := by rw [hW, World.cell?_alloc_mark]; rfl
    have hgW : w.heap.size < W.heap.size := by rw [hW]; simp
    obtain ⟨g, hg⟩ : ∃ g, g = w.heap.size := ⟨_, rfl⟩
    have HBW := Lib.hid hbW
    have HW := Lib.hid hW
    have HG := Lib.hid hg
    rw [← hg] at hp0 hp1 hgW
    clear hbW hW hg
    go_enter Tryz.func53, Tryz.ntmps53
    go_upto_region 1 with fail
    rw [← HW.out, ← HG.out]
    go_wp2_with fail
    refine (within_yes _ _ _ _ ha1 ha2).mono ?_
    rintro e w' ⟨rfl, rfl⟩
    go_wp2_with fail
    refine (within_yes _ _ _ _ hn1 hn2).mono ?_
    rintro e w' ⟨rfl, rfl⟩
    go_upto_region 3 with fail
    have HK0 := Lib.hid (show W.drew.cell? ⟨g, 0, none⟩ = some (.int .i64 (a : Int)) ∧ W.drew.cell? ⟨g, 1, none⟩ = some (.int .i64 (n : Int)) ∧ Below g w W.drew from ⟨hp0, hp1, by rw [HG.out]; exact HBW.out.trans (below_drew _ _)⟩)
    have HNX := Lib.hid (fun (w5 : World) (hb : Below W.drew.heap.size W.drew w5) => show w5.cell? ⟨g, 0, none⟩ = some (.int .i64 (a : Int)) ∧ w5.cell? ⟨g, 1, none⟩ = some (.int .i64 (n : Int)) ∧ Below g w w5 from
      ⟨(hb.cell (p := ⟨g, 0, none⟩) hgW).trans HK0.out.1, (hb.cell (p := ⟨g, 1, none⟩) hgW).trans HK0.out.2.1, HK0.out.2.2.trans (hb.mono (Nat.le_of_lt hgW))⟩)
    go_region_held3 (fun w' => w'.cell? ⟨g, 0, none⟩ = some (.int .i64 (a : Int)) ∧ w'.cell? ⟨g, 1, none⟩ = some (.int .i64 (n : Int)) ∧ Below g w w')
      (first | exact HK1.out | exact HK0.out) (first
      | (go_at_call 83; refine (HSZ.out _).mono ?_; rintro e w5 ⟨rfl, hb5⟩; have HK1 := Lib.hid (HNX.out _ hb5); clear hb5)
      | fail)
    all_goals
      go_wp2
      go_ret
      exact ⟨rfl, by have := HK1.out.2.2; rw [HG.out] at this; exact this⟩
  · have hd : ((r : Int) != 0) = true := by simp [hr0]
    rw [if_pos hr0, errV_not (by decide)]
    clear hr0
    obtain ⟨W, hW⟩ : ∃ W, W = w.alloc (.cells #[.int .i64 (a : Int), .int .i64 (n : Int)] 38) := ⟨_, rfl⟩
    have hbW : Below w.heap.size w W := by rw [hW]; exact below_alloc w _
    have hp0 : W.cell? ⟨w.heap.size, 0, none⟩ = some (.int .i64 (a : Int)) := by rw [hW, World.cell?_alloc_mark]; rfl
    have hp1 : W.cell? ⟨w.heap.size, 1, none⟩ = some (.int .i64 (n : Int)) := by rw [hW, World.cell?_alloc_mark]; rfl
    have hgW : w.heap.size < W.heap.size := by rw [hW]; simp
    obtain ⟨g, hg⟩ : ∃ g, g = w.heap.size := ⟨_, rfl⟩
    have HBW := Lib.hid hbW
    have HW := Lib.hid hW
    have HG := Lib.hid hg
    rw [← hg] at hp0 hp1 hgW
    clear hbW hW hg
    go_enter Tryz.func53, Tryz.ntmps53
    go_upto_region 1 with fail
    rw [← HW.out, ← HG.out]
    go_wp2_with fail
    refine (within_yes _ _ _ _ ha1 ha2).mono ?_
    rintro e w' ⟨rfl, rfl⟩
    go_wp2_with fail
    refine (within_yes _ _ _ _ hn1 hn2).mono ?_
    rintro e w' ⟨rfl, rfl⟩
    go_upto_region 3 with fail
    have HK0 := Lib.hid (show W.drew.cell? ⟨g, 0, none⟩ = some (.int .i64 (a : Int)) ∧ W.drew.cell? ⟨g, 1, none⟩ = some (.int .i64 (n : Int)) ∧ Below g w W.drew from ⟨hp0, hp1, by rw [HG.out]; exact HBW.out.trans (below_drew _ _)⟩)
    have HNX := Lib.hid (fun (w5 : World) (hb : Below W.drew.heap.size W.drew w5) => show w5.cell? ⟨g, 0, none⟩ = some (.int .i64 (a : Int)) ∧ w5.cell? ⟨g, 1, none⟩ = some (.int .i64 (n : Int)) ∧ Below g w w5 from
      ⟨(hb.cell (p := ⟨g, 0, none⟩) hgW).trans HK0.out.1, (hb.cell (p := ⟨g, 1, none⟩) hgW).trans HK0.out.2.1, HK0.out.2.2.trans (hb.mono (Nat.le_of_lt hgW))⟩)
    go_region_held3 (fun w' => w'.cell? ⟨g, 0, none⟩ = some (.int .i64 (a : Int)) ∧ w'.cell? ⟨g, 1, none⟩ = some (.int .i64 (n : Int)) ∧ Below g w w')
      (first | exact HK1.out | exact HK0.out) (first
      | (go_at_call 83; refine (HSZ.out _).mono ?_; rintro e w5 ⟨rfl, hb5⟩; have HK1 := Lib.hid (HNX.out _ hb5); clear hb5)
      | fail)
    all_goals
      go_wp2
      go_ret
      exact ⟨rfl, by have := HK1.out.2.2; rw [HG.out] at this; exact this⟩
theorem check_any (a n : Int) (w : World) :
    Calls Tryz.prog 53 #[.agg #[.int .i64 a, .int .i64 n]] w fun e w' => e = .returned (errV (chkP a n)) ∧ Below w.heap.size w w' := by
  unfold chkP
  by_cases h : 0 ≤ a ∧ a ≤ 65535 ∧ 0 ≤ n ∧ n ≤ 16
  · rw [if_neg (fun h' => h' h)]
    obtain ⟨x, rfl⟩ := Int.eq_ofNat_of_zero_le h.1
    obtain ⟨k, rfl⟩ := Int.eq_ofNat_of_zero_le h.2.2.1
    rw [Int.toNat_natCast, Int.toNat_natCast]
    exact check_in x k w (by omega) (by omega)
  · rw [if_pos h]; exact check_range a n w h
end Go.Proofs.YtbcfcjecobihnaaGreatDoor

end

section
/- lpm.New, (*lpm.Table).Find: and what is known of a table. -/
namespace Go.Proofs.YtbcfcjecobihnaaGreatDoor
open Go.RowKit
set_option linter.unusedVariables false
set_option linter.unusedSimpArgs false
set_option maxRecDepth 100000

structure TabOk (T : LT) : Prop where
  root : T ≠ .nil
  deep : T.deep 17
  low : ∀ π, -1 ≤ T.at π
  high : ∀ π, T.at π ≤ 9
  few : (T.rts []).length ≤ 32
/-- A table of these routes lies there, beside other things. -/
def TabS (B : Nat) (w : World) (tb : Nat) (L : List Rte) (F : List Ent) : Prop := ∃ T, TabOk T ∧ T.rts [] = L ∧ Sep B w (lptE tb L.length T ++ F)
theorem TabS.kept {B tb : Nat} {w w' : World} {L : List Rte} {F : List Ent} (h : TabS B w tb L F) (hk : Below w.heap.size w w') : TabS B w' tb L F := by
  obtain ⟨T, h1, h2, h3⟩ := h
  exact ⟨T, h1, h2, h3.kept hk⟩
theorem TabS.few {B tb : Nat} {w : World} {L : List Rte} {F : List Ent} (h : TabS B w tb L F) : L.length ≤ 32 := by
  obtain ⟨T, h1, h2, h3⟩ := h
  rw [← h2]; exact h1.few
theorem TabS.srt {B tb : Nat} {w : World} {L : List Rte} {F : List Ent} (h : TabS B w tb L F) : SrtR L := by
  obtain ⟨T, h1, h2, h3⟩ := h
  rw [← h2]; exact rts_sorted h1.deep
theorem TabS.frame {B tb : Nat} {w : World} {L : List Rte} {F F' : List Ent} (h : TabS B w tb L F) (hf : F.Perm F') : TabS B w tb L F' := by
  obtain ⟨T, h1, h2, h3⟩ := h
  exact ⟨T, h1, h2, h3.perm (hf.append_left _)⟩

set_option maxHeartbeats 400000 in
theorem lpmNew_any (B : Nat) (F : List Ent) (w : World) (hB : B ≤ w.heap.size) (hs : Sep B w F) :
    Calls Tryz.prog 29 #[] w fun e w' => ∃ tb, e = .returned (.pointer (some ⟨tb, 0, none⟩)) ∧ TabS B w' tb [] F ∧ Below B w w' ∧ w.heap.size ≤ tb := by
  have h1 := Sep.blkNew hs hB #[.pointer none, .pointer none, .int .i64 (-1)] 81
  have h2 := Sep.blkNew h1 (by simp; omega) #[.pointer (some ⟨w.heap.size, 0, none⟩), .int .i64 0] 83
  have hb : Below B w ((w.alloc (.cells #[.pointer none, .pointer none, .int .i64 (-1)] 81)).alloc (.cells #[.pointer (some ⟨w.heap.size, 0, none⟩), .int .i64 0] 83)) := ((Below.refl B w).alloc hB _).alloc (by simp; omega) _
  have hok : TabOk (.node w.heap.size (-1) .nil .nil) := by
    have hat : ∀ π, (LT.node w.heap.size (-1) .nil .nil).at π = -1 := fun π => by
      match π with
      | [] => rfl
      | b :: π => rw [LT.at_cons]; cases b <;> exact LT.at_nil π
    refine ⟨by simp, ⟨trivial, trivial⟩, fun π => by rw [hat]; decide, fun π => by rw [hat]; decide, ?_⟩
    simp [LT.rts]
  have hfin : TabS B ((w.alloc (.cells #[.pointer none, .pointer none, .int .i64 (-1)] 81)).alloc (.cells #[.pointer (some ⟨w.heap.size, 0, none⟩), .int .i64 0] 83)) (w.heap.size + 1) [] F := by
    refine ⟨_, hok, by simp [LT.rts], ?_⟩
    rw [World.size_alloc] at h2
    exact h2
  have HF := Lib.hid hfin
  have HB := Lib.hid hb
  clear h1 h2 hok hfin hb hs
  go_enter Tryz.func29, Tryz.ntmps29
  go_wp2
  go_ret
  exact ⟨_, rfl, HF.out, HB.out, by omega⟩
end Go.Proofs.YtbcfcjecobihnaaGreatDoor

end

section
/- A book: its table, its builder, its count. The builder's copyCheck, WriteString, String. -/
namespace Go.Proofs.YtbcfcjecobihnaaGreatDoor
open Go.RowKit Go.Lib
set_option linter.unusedVariables false
set_option maxRecDepth 100000

/-- 'append' where its run is known. -/
theorem wpList_append_known {P : Program} {ops : Array Oper} {rest : List Oper} {o : Oper} {a : Act} {w : World} {Q : Exit → Act → World → Prop} (hgd : o.guard = none) (m x : Operand) (t k : TypeId)
    (ho : o.op = .call { callee := .builtin .append, args := #[m, x], argTypes := #[t, k] }) (v u : Value) (hs : a.eval m = v) (hx : a.eval x = u) {v' : Value} {w' : World}
    (hr : (Builtin.append_ #[t, k] o.type #[v, u]).run P w = .ok v' w') (h : wpList P ops Q rest (a.put o.dst v') w') : wpList P ops Q (o :: rest) a w := by
  refine wpList_plain hgd fun K hK => ?_
  unfold Oper.wp execOp
  simp only [ho, resolve, invoke, builtin, Sem.run_bind, Sem.run_pure, Result.andThen_ok, List.map_toArray, List.map_cons, List.map_nil, hs, hx, hr]
  exact hK _ _ h
abbrev bkE (bb : Nat) (x ad v m : Value) : Ent := Ent.blk1 bb 50 [x, ad, v, m]
def BkS (B : Nat) (w : World) (bb tb : Nat) (L : List Rte) (l : List UInt8) (many : Nat) (F : List Ent) : Prop :=
  ∃ T ad v, TabOk T ∧ T.rts [] = L ∧ (ad = .pointer none ∨ ad = .pointer (some ⟨bb, 1, none⟩)) ∧ Sep B w (bkE bb (.pointer (some ⟨tb, 0, none⟩)) ad v (.int .i64 many) :: Ent.rowF v l :: (lptE tb L.length T ++ F))
theorem BkS.kept {B bb tb many : Nat} {w w' : World} {L : List Rte} {l : List UInt8} {F : List Ent} (h : BkS B w bb tb L l many F) (hb : Below w.heap.size w w') : BkS B w' bb tb L l many F := by
  obtain ⟨T, ad, v, h1, h2, h3, h4⟩ := h
  exact ⟨T, ad, v, h1, h2, h3, h4.kept hb⟩
theorem builderInfo : ∃ j, Tryz.prog.info? 48 = some j ∧ j.size = 2 := by
  have h : (Tryz.prog.info? 48).map (·.size) = some 2 := by kernel_rfl
  exact Option.map_eq_some_iff.1 h
set_option maxHeartbeats 1000000 in
theorem copyFresh (bb : Nat) (w : World) (h0 : w.cell? ⟨bb, 1, none⟩ = some (.pointer none)) (hsh : w.shape? bb = some (50, 4)) (hfz : w.frozen? ⟨bb, 1, none⟩ = false) :
    Calls Tryz.prog 73 #[.pointer (some ⟨bb, 1, none⟩)] w fun e w' => e = .returned (.tuple #[]) ∧ w' = w.setCell ⟨bb, 1, none⟩ (.pointer (some ⟨bb, 1, none⟩)) := by
  obtain ⟨j, hj, hjs⟩ := builderInfo
  have hlies : liesAt Tryz.prog Tryz.prog.depth 50 (4 / Tryz.prog.cellsOf 50) 1 48 1 = true := by kernel_rfl
  go_enter Tryz.func73, Tryz.ntmps73
  go_wp2
  rw [Lib.run_to_unsafe w ⟨bb, 1, none⟩ Tryz.underlying46 Tryz.underlying129 hj (by rw [hjs]; decide) hsh (show 1 < 4 by decide)]
  simp only [Result.andThen]
  rw [Oper.upon_value]
  go_wp2
  rw [run_callFunc_extern Tryz.func107 (by kernel_rfl) (by kernel_rfl) (by kernel_rfl) (e := Extern.AbiNoEscape.same) (by kernel_rfl)]
  rw [Lib.run_noEscape]
  simp only [Result.andThen]
  rw [Oper.upon_value]
  go_wp2
  rw [Lib.run_from_unsafe w ⟨bb, 1, none⟩ Tryz.underlying129 Tryz.underlying46 hj hsh hlies]
  simp only [Result.andThen]
  rw [Oper.upon_value]
  go_wp2
  go_end0
  exact ⟨rfl, rfl⟩
theorem copyUsed (bb : Nat) (w : World) (h0 : w.cell? ⟨bb, 1, none⟩ = some (.pointer (some ⟨bb, 1, none⟩))) :
    Calls Tryz.prog 73 #[.pointer (some ⟨bb, 1, none⟩)] w fun e w' => e = .returned (.tuple #[]) ∧ w' = w := by
  obtain ⟨j, hj, hjs⟩ := builderInfo
  go_enter Tryz.func73, Tryz.ntmps73
  go_wp2
  rw [Lib.run_neq_ptr_same w _ Tryz.underlying46 hj]
  go_wp2
  go_end0
  exact ⟨rfl, rfl⟩
theorem copy_any {B bb : Nat} {w : World} {x ad v m : Value} {C : List Ent} (h : Sep B w (bkE bb x ad v m :: C)) (had : ad = .pointer none ∨ ad = .pointer (some ⟨bb, 1, none⟩)) :
    Calls Tryz.prog 73 #[.pointer (some ⟨bb, 1, none⟩)] w fun e w' => e = .returned (.tuple #[]) ∧ Sep B w' (bkE bb x (.pointer (some ⟨bb, 1, none⟩)) v m :: C) ∧ Below B w w' := by
  obtain ⟨c1, f1⟩ := Sep.blkAt (A := []) h (j := 1) rfl
  rcases had with rfl | rfl
  · have hh := Sep.blkHeap (A := []) h
    refine (copyFresh bb w c1 (by simp [World.shape?, hh]) f1).mono ?_
    rintro e w' ⟨rfl, rfl⟩
    exact ⟨rfl, Sep.blkSet (A := []) h 1 _, (Below.refl B w).setCell (p := ⟨bb, 1, none⟩) (Sep.blkLt (A := []) h).1 _⟩
  · refine (copyUsed bb w c1).mono ?_
    rintro e w' ⟨rfl, rfl⟩
    exact ⟨rfl, h, Below.refl B _⟩
set_option maxHeartbeats 1000000 in
theorem write_any {B bb : Nat} {w : World} {x ad v m : Value} {l : List UInt8} {C : List Ent} (s : ByteArray) (h : Sep B w (bkE bb x ad v m :: Ent.rowF v l :: C)) (hB : B ≤ w.heap.size) (had : ad = .pointer none ∨ ad = .pointer (some ⟨bb, 1, none⟩)) (hs : 0 < s.size) (hl : l.length + s.size ≤ 140737488355328) :
    Calls Tryz.prog 48 #[.pointer (some ⟨bb, 1, none⟩), .string s] w fun e w' => (∃ n, e = .returned (.tuple #[.int .i64 n, .nilIface])) ∧ (∃ v', Sep B w' (bkE bb x (.pointer (some ⟨bb, 1, none⟩)) v' m :: Ent.rowF v' (l ++ s.data.toList) :: C)) ∧ Below B w w' := by
  have HC := Lib.hid (copy_any h had)
  go_enter Tryz.func48, Tryz.ntmps48
  go_wp2_with fail
  refine HC.out.mono ?_
  rintro e w1 ⟨rfl, h1, hb1⟩
  have hB1 : B ≤ w1.heap.size := Nat.le_trans hB hb1.size
  obtain ⟨v', w2, hr, h2, hb2⟩ := run_append_rowF (A := [_]) h1 hB1 s hs hl
  have c2 := (Sep.blkAt (A := []) h1 (j := 2) rfl).1
  obtain ⟨d2, f2⟩ := Sep.blkAt (A := []) h2 (j := 2) rfl
  have h3 := Sep.blkSet (A := []) h2 2 v'
  have hb3 := (hb1.trans hb2).setCell (p := ⟨bb, 2, none⟩) (Sep.blkLt (A := []) h2).1 v'
  obtain ⟨ao, n', cap, rfl⟩ : ∃ ao n' cap, v' = .slice ao n' cap := by
    rcases (h2.mem (A := [_])).1 with ⟨hv, _⟩ | ⟨g, cap, cur, fz, hv, _⟩
    · exact ⟨_, _, _, hv⟩
    · exact ⟨_, _, _, hv⟩
  have H3 := Lib.hid h3
  have HB3 := Lib.hid hb3
  clear h h1 h2 h3 hb1 hb2 hb3 HC
  have HR := Lib.hid hr
  clear hr
  go_wp2_with (at_builtin; refine wpList_append_known rfl _ _ 31 9 rfl _ _ rfl rfl HR.out ?_)
  go_wp2
  go_ret2
  exact ⟨⟨_, rfl⟩, ⟨_, H3.out⟩, HB3.out⟩
theorem bytes_shape {w : World} {g : Nat} {cur : Array Value} {fz : Nat × Nat} (h : w.heap[g]? = some (.cells cur 5 fz)) : w.shape? g = some (5, cur.size) := by simp [World.shape?, h]
theorem cellsByte : Tryz.prog.cellsOf 5 = 1 := by kernel_rfl
theorem Sep.froze {B : Nat} {w : World} {A C : List Ent} {g cap : Nat} {l : List UInt8} (h : Sep B w (A ++ Ent.rowF (.slice (some ⟨g, 0, none⟩) l.length cap) l :: C)) : Sep B (w.freeze ⟨g, 0, none⟩ l.length) (A ++ Ent.rowF (.slice (some ⟨g, 0, none⟩) l.length cap) l :: C) := by
  unfold World.freeze
  split
  · exact h
  · refine h.upd (by simp) (fun k hk hne => ?_) ?_ ?_
    · simp only [Array.getElem?_modify]
      rw [if_neg]
      intro e
      exact hne (by simp [Ent.rowF, Value.ownBlock, e])
    · rcases h.mem.1 with ⟨hv, _⟩ | ⟨g', cap', cur, fz, hv, hg, hfz, hl0, hnc, hcm, hcs, htake⟩
      · cases hv
      · injection hv with ha _ hcap
        injection ha with ha
        injection ha with hgg _ _
        subst hgg
        subst hcap
        obtain ⟨lo, hi⟩ := fz
        have hg' : w.heap[g]? = some (.cells cur 5 (lo, hi)) := hg
        refine .inr ⟨g, _, cur, (if lo == hi then (0, 0 + l.length) else (min lo 0, max hi (0 + l.length))), rfl, ?_, ?_, hl0, hnc, hcm, hcs, htake⟩
        · show (Array.modify _ _ _)[g]? = _
          simp [Array.getElem?_modify, hg']
        · simp only at hfz
          split <;> simp <;> omega
    · intro k hk
      have := (h.mem.2 k hk)
      exact ⟨this.1, by simpa using this.2, .inl hk⟩
set_option maxHeartbeats 2000000 in
theorem string_any {B bb : Nat} {w : World} {x ad v m : Value} {l : List UInt8} {C : List Ent} (h : Sep B w (bkE bb x ad v m :: Ent.rowF v l :: C)) :
    Calls Tryz.prog 35 #[.pointer (some ⟨bb, 1, none⟩)] w fun e w' => e = .returned (.string ⟨l.toArray⟩) ∧ Sep B w' (bkE bb x ad v m :: Ent.rowF v l :: C) ∧ Below B w w' := by
  have mixed : Tryz.prog.follows Departure.mixedOrders = true := by kernel_rfl
  have c2 : w.drew.cell? ⟨bb, 2, none⟩ = some v := (Sep.blkAt (A := []) h.drew (j := 2) rfl).1
  rcases (h.mem (A := [_])).1 with ⟨rfl, rfl⟩ | ⟨g, cap, cur, fz, rfl, hg, hfz, hl0, hnc, hcm, hcs, htake⟩
  · have hUS := Lib.run_unsafeString_none (P := Tryz.prog) w.drew 101 3 9 none
    have hSD : (Builtin.unsafeSliceData_ #[31] 101 #[.slice none 0 0]).run Tryz.prog w.drew = .ok (.pointer none) w.drew := rfl
    have HS := Lib.hid h.drew
    have HB := Lib.hid ((Below.refl B w).drew)
    clear h
    go_enter Tryz.func35, Tryz.ntmps35
    go_wp2
    go_region_o
    all_goals
      go_wp2
      go_ret
      exact ⟨rfl, HS.out, HB.out⟩
  · have hBg : B ≤ g := ((h.mem (A := [_])).2 g rfl).1
    have hg' : w.drew.heap[g]? = some (.cells cur 5 fz) := hg
    have hl1 : l.length ≠ 0 := by simpa using hl0
    have hSD : (Builtin.unsafeSliceData_ #[31] 101 #[.slice (some ⟨g, 0, none⟩) l.length cap]).run Tryz.prog w.drew = .ok (.pointer (some ⟨g, 0, none⟩)) w.drew :=
      Lib.run_unsafeSliceData_row _ _ _ _ _ _ (by omega)
    have hUS : (Builtin.unsafeString_ #[101, 3] 9 #[.pointer (some ⟨g, 0, none⟩), .int .i64 l.length]).run Tryz.prog w.drew = .ok (.string ⟨l.toArray⟩) (w.drew.freeze ⟨g, 0, none⟩ l.length) := by
      refine Lib.run_unsafeString_row w.drew 101 3 9 5 Tryz.underlying101 cellsByte g cur.size (bytes_shape hg') l hl0 (by omega) (by unfold maxLen at hcm; omega) ?_
      intro j y hy
      have hadd : (⟨g, 0, none⟩ : Addr).add j = ⟨g, j, none⟩ := by unfold Addr.add; split <;> simp_all
      rw [hadd, cell_of_row w.drew g j cur 5 fz hg']
      have h1 : (cur.toList.take l.length)[j]? = some (.int .u8 y.toNat) := by rw [htake]; simp [byteCells, hy]
      rw [List.getElem?_take] at h1
      split at h1
      · simpa using h1
      · cases h1
    have HS := Lib.hid (Sep.froze (A := [_]) h.drew)
    have HB := Lib.hid (Lib.below_freeze ((Below.refl B w).drew) (p := ⟨g, 0, none⟩) hBg l.length)
    clear h hg hg' htake hl0 hl1
    go_enter Tryz.func35, Tryz.ntmps35
    go_wp2
    go_region_o
    all_goals
      go_wp2
      go_ret
      exact ⟨rfl, HS.out, HB.out⟩
end Go.Proofs.YtbcfcjecobihnaaGreatDoor

end
