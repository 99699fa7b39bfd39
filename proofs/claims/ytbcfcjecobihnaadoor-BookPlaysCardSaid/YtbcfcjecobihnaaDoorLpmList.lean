/- Plain: a table of routes as a rising list; what setting, dropping and finding do to it; a tree tells one. -/
import Derived.Test.YtbcfcjecobihnaaDoorLpmPlain
namespace Go.Proofs.YtbcfcjecobihnaaDoor
set_option linter.unusedVariables false

def keyIs (x : Rte) (a n : Nat) : Bool := x.1 == a && x.2.1 == n
def ltK (x : Rte) (a n : Nat) : Bool := decide (x.1 < a ∨ (x.1 = a ∧ x.2.1 < n))
def hasL (L : List Rte) (a n : Nat) : Bool := L.any fun x => keyIs x a n
def setL : List Rte → Nat → Nat → Nat → List Rte
  | [], a, n, h => [(a, n, h)]
  | x :: L, a, n, h => if ltK x a n then x :: setL L a n h else if keyIs x a n then (a, n, h) :: L else (a, n, h) :: x :: L
def dropL (L : List Rte) (a n : Nat) : List Rte := L.filter fun x => !keyIs x a n
def lookL (L : List Rte) (a n : Nat) : Int := match L.find? (fun x => keyIs x a n) with | some x => (x.2.2 : Int) | none => -1
/-- The longest prefix of an address, of less than i bits. -/
def findL (L : List Rte) (a : Nat) : Nat → Option (Nat × Nat)
  | 0 => none
  | i + 1 => if 0 ≤ lookL L (a - a % 2 ^ (16 - i)) i then some ((lookL L (a - a % 2 ^ (16 - i)) i).toNat, i) else findL L a i

theorem keyIs_iff {x : Rte} {a n : Nat} : keyIs x a n = true ↔ x.1 = a ∧ x.2.1 = n := by simp [keyIs]
theorem setL_mem : ∀ {L : List Rte} {a n h : Nat}, SrtR L → ∀ y, y ∈ setL L a n h ↔ y = (a, n, h) ∨ (y ∈ L ∧ keyIs y a n = false)
  | [], a, n, h, _, y => by simp [setL]
  | x :: L, a, n, h, hs, y => by
    have hs' := List.pairwise_cons.1 hs
    unfold setL
    split
    · rename_i h1
      have hk : keyIs x a n = false := by
        have := of_decide_eq_true h1
        simp [keyIs]; omega
      rw [List.mem_cons, setL_mem hs'.2, List.mem_cons]
      constructor
      · rintro (rfl | rfl | h)
        · exact .inr ⟨.inl rfl, hk⟩
        · exact .inl rfl
        · exact .inr ⟨.inr h.1, h.2⟩
      · rintro (rfl | ⟨rfl | h, h2⟩)
        · exact .inr (.inl rfl)
        · exact .inl rfl
        · exact .inr (.inr ⟨h, h2⟩)
    · rename_i h1
      have h1' : ¬ (x.1 < a ∨ (x.1 = a ∧ x.2.1 < n)) := fun h => h1 (decide_eq_true h)
      have hL : ∀ z ∈ L, keyIs z a n = false := fun z hz => by
        have := hs'.1 z hz
        unfold ltR at this
        simp [keyIs]; omega
      split
      · rename_i h2
        rw [List.mem_cons, List.mem_cons]
        constructor
        · rintro (rfl | h)
          · exact .inl rfl
          · exact .inr ⟨.inr h, hL y h⟩
        · rintro (rfl | ⟨rfl | h, h3⟩)
          · exact .inl rfl
          · rw [h2] at h3; cases h3
          · exact .inr h
      · rename_i h2
        rw [List.mem_cons, List.mem_cons]
        constructor
        · rintro (rfl | rfl | h)
          · exact .inl rfl
          · exact .inr ⟨.inl rfl, by simpa using h2⟩
          · exact .inr ⟨.inr h, hL y h⟩
        · rintro (rfl | ⟨h, _⟩)
          · exact .inl rfl
          · exact .inr h
theorem setL_srt : ∀ {L : List Rte} {a n h : Nat}, SrtR L → SrtR (setL L a n h)
  | [], a, n, h, _ => List.pairwise_singleton _ _
  | x :: L, a, n, h, hs => by
    have hs' := List.pairwise_cons.1 hs
    unfold setL
    split
    · rename_i h1
      have h1' := of_decide_eq_true h1
      refine List.pairwise_cons.2 ⟨fun y hy => ?_, setL_srt hs'.2⟩
      rcases (setL_mem hs'.2 y).1 hy with rfl | ⟨h2, _⟩
      · exact h1'
      · exact hs'.1 y h2
    · rename_i h1
      have h1' : ¬ (x.1 < a ∨ (x.1 = a ∧ x.2.1 < n)) := fun h => h1 (decide_eq_true h)
      split
      · rename_i h2
        have h2' := keyIs_iff.1 h2
        refine List.pairwise_cons.2 ⟨fun y hy => ?_, hs'.2⟩
        have := hs'.1 y hy
        unfold ltR at this ⊢; simp only; omega
      · rename_i h2
        have h2' : ¬ (x.1 = a ∧ x.2.1 = n) := fun h => h2 (keyIs_iff.2 h)
        refine List.pairwise_cons.2 ⟨fun y hy => ?_, hs⟩
        rcases List.mem_cons.1 hy with rfl | hy
        · unfold ltR; simp only; omega
        · have := hs'.1 y hy
          unfold ltR at this ⊢; simp only; omega
theorem dropL_mem {L : List Rte} {a n : Nat} {y : Rte} : y ∈ dropL L a n ↔ y ∈ L ∧ keyIs y a n = false := by
  unfold dropL; rw [List.mem_filter]; simp
theorem dropL_srt {L : List Rte} {a n : Nat} (h : SrtR L) : SrtR (dropL L a n) := h.filter _
/-- One thing for each key. -/
theorem srt_key {L : List Rte} (h : SrtR L) {x y : Rte} (hx : x ∈ L) (hy : y ∈ L) (h1 : x.1 = y.1) (h2 : x.2.1 = y.2.1) : x = y := by
  obtain ⟨i, hi⟩ := List.mem_iff_getElem?.1 hx
  obtain ⟨j, hj⟩ := List.mem_iff_getElem?.1 hy
  obtain ⟨hi1, rfl⟩ := List.getElem?_eq_some_iff.1 hi
  obtain ⟨hj1, rfl⟩ := List.getElem?_eq_some_iff.1 hj
  rcases Nat.lt_trichotomy i j with h3 | h3 | h3
  · have := List.pairwise_iff_getElem.1 h i j hi1 hj1 h3
    unfold ltR at this; omega
  · subst h3; rfl
  · have := List.pairwise_iff_getElem.1 h j i hj1 hi1 h3
    unfold ltR at this; omega
theorem lookL_of {L : List Rte} (hs : SrtR L) {a n h : Nat} (hm : (a, n, h) ∈ L) : lookL L a n = (h : Int) := by
  unfold lookL
  cases hf : L.find? (fun x => keyIs x a n) with
  | none => have := List.find?_eq_none.1 hf _ hm; simp [keyIs] at this
  | some x =>
    have h0 : keyIs x a n = true := List.find?_some (p := fun x => keyIs x a n) hf
    have h1 := keyIs_iff.1 h0
    have := srt_key hs (List.mem_of_find?_eq_some hf) hm h1.1 h1.2
    rw [this]
theorem lookL_not {L : List Rte} {a n : Nat} (h : ∀ x ∈ L, keyIs x a n = false) : lookL L a n = -1 := by
  unfold lookL
  rw [List.find?_eq_none.2 fun x hx => by rw [h x hx]; decide]
theorem hasL_look {L : List Rte} {a n : Nat} : hasL L a n = true ↔ 0 ≤ lookL L a n := by
  unfold hasL lookL
  rw [List.any_eq_true]
  cases hf : L.find? (fun x => keyIs x a n) with
  | none =>
    have := List.find?_eq_none.1 hf
    constructor
    · rintro ⟨x, hx, h⟩; exact absurd h (this x hx)
    · intro h; simp at h
  | some x => exact ⟨fun _ => by simp, fun _ => ⟨x, List.mem_of_find?_eq_some hf, List.find?_some (p := fun x => keyIs x a n) hf⟩⟩

/-! ### What a tree tells -/
theorem rts_mem {T : LT} (hd : T.deep 17) {a n h : Nat} (hk : lpOk a n) : (a, n, h) ∈ T.rts [] ↔ T.at (lpPath a n) = (h : Int) := by
  rw [LT.mem_rts]
  constructor
  · rintro ⟨τ, e, h0⟩
    have hl := LT.at_deep hd h0
    simp only [List.nil_append, Prod.mk.injEq] at e
    obtain ⟨e1, e2, e3⟩ := e
    rw [e1, e2, lpPath_addr (by omega)]
    omega
  · intro e
    refine ⟨lpPath a n, ?_, by omega⟩
    rw [List.nil_append, lpAddr_ok hk, lpPath_len, e]; rfl
theorem rts_ok {T : LT} (hd : T.deep 17) {x : Rte} (hx : x ∈ T.rts []) : lpOk x.1 x.2.1 := by
  obtain ⟨τ, rfl, h0⟩ := (LT.mem_rts T [] x).1 hx
  have hl := LT.at_deep hd h0
  simp only [List.nil_append]
  exact lpAddr_isOk (by omega)
theorem rts_sorted {T : LT} (hd : T.deep 17) : SrtR (T.rts []) := LT.rts_srt T [] 17 hd (by simp)
theorem at_look {T : LT} (hd : T.deep 17) {a n : Nat} (hk : lpOk a n) (hm : -1 ≤ T.at (lpPath a n)) : T.at (lpPath a n) = lookL (T.rts []) a n := by
  by_cases h0 : 0 ≤ T.at (lpPath a n)
  · obtain ⟨h, hh⟩ := Int.eq_ofNat_of_zero_le h0
    rw [lookL_of (rts_sorted hd) ((rts_mem hd hk).2 hh), hh]
  · rw [lookL_not fun x hx => ?_]
    · omega
    · cases hkx : keyIs x a n with
      | false => rfl
      | true =>
        exfalso
        have e := keyIs_iff.1 hkx
        have hx' : (a, n, x.2.2) ∈ T.rts [] := by rw [← e.1, ← e.2]; exact hx
        have := (rts_mem hd hk).1 hx'
        omega
/-- A hop turned. -/
theorem at_set {T : LT} {π : List Bool} {b : Nat} {h h' : Int} {l r : LT} (hs : T.sub π = .node b h l r) : (∀ ρ, ρ ≠ π → (T.repl π (.node b h' l r)).at ρ = T.at ρ) ∧ (T.repl π (.node b h' l r)).at π = h' := by
  have hn : T.sub π ≠ .nil := by rw [hs]; simp
  refine ⟨fun ρ hr => LT.at_repl T π π _ hn (fun τ => ?_) ρ hr, ?_⟩
  · rw [hs]
    match τ with
    | [] => exact .inr (by simp)
    | b :: τ => exact .inl rfl
  · unfold LT.at; rw [LT.sub_repl T π _ hn]; rfl
/-- A new node without a hop tells nothing. -/
theorem at_grow {T : LT} {π : List Bool} {u : LT} (hn : T.sub π ≠ .nil) (hu : ∀ τ, u.at τ = (T.sub π).at τ) : ∀ ρ, (T.repl π u).at ρ = T.at ρ := fun ρ =>
  LT.at_repl T π (ρ ++ [true]) u hn (fun τ => .inl (hu τ)) ρ (by intro e; have := congrArg List.length e; simp at this)
theorem rts_congr {T T' : LT} (hd : T.deep 17) (hd' : T'.deep 17) (h : ∀ ρ, T'.at ρ = T.at ρ) : T'.rts [] = T.rts [] :=
  srtR_uniq (rts_sorted hd') (rts_sorted hd) fun x => by rw [LT.mem_rts, LT.mem_rts]; simp only [h]
theorem at_low : ∀ (T : LT), (∀ π, -1 ≤ T.at π) ↔ ∀ π, T.sub π ≠ .nil → -1 ≤ (T.sub π).hop := fun T =>
  ⟨fun h π _ => h π, fun h π => by
    unfold LT.at
    by_cases hn : T.sub π = .nil
    · rw [hn]; simp [LT.hop]
    · exact h π hn⟩
theorem rts_set {T T' : LT} {a n h : Nat} (hd : T.deep 17) (hd' : T'.deep 17) (hk : lpOk a n) (h1 : ∀ ρ, ρ ≠ lpPath a n → T'.at ρ = T.at ρ) (h2 : T'.at (lpPath a n) = (h : Int)) : T'.rts [] = setL (T.rts []) a n h := by
  refine srtR_uniq (rts_sorted hd') (setL_srt (rts_sorted hd)) fun x => ?_
  rw [setL_mem (rts_sorted hd)]
  obtain ⟨xa, xn, xh⟩ := x
  constructor
  · intro hx
    have ho : lpOk xa xn := rts_ok hd' hx
    have hx2 := (rts_mem hd' ho).1 hx
    by_cases e : keyIs (xa, xn, xh) a n = true
    · obtain ⟨e1, e2⟩ := keyIs_iff.1 e
      simp only at e1 e2
      subst e1 e2
      left
      rw [h2] at hx2
      have : h = xh := by omega
      rw [this]
    · right
      refine ⟨(rts_mem hd ho).2 ?_, by simpa using e⟩
      rw [← h1 (lpPath xa xn) fun ee => ?_]
      · exact hx2
      · refine e (keyIs_iff.2 ⟨?_, ?_⟩)
        · rw [← lpAddr_ok ho, ee, lpAddr_ok hk]
        · have := congrArg List.length ee; rw [lpPath_len, lpPath_len] at this; exact this
  · rintro (e | ⟨hx, e⟩)
    · rw [e]; exact (rts_mem hd' hk).2 h2
    · have ho : lpOk xa xn := rts_ok hd hx
      refine (rts_mem hd' ho).2 ?_
      rw [h1 (lpPath xa xn) fun ee => ?_]
      · exact (rts_mem hd ho).1 hx
      · have e1 : xa = a := by rw [← lpAddr_ok ho, ee, lpAddr_ok hk]
        have e2 : xn = n := by have := congrArg List.length ee; rw [lpPath_len, lpPath_len] at this; exact this
        have : keyIs (xa, xn, xh) a n = true := keyIs_iff.2 ⟨e1, e2⟩
        rw [this] at e; cases e
theorem rts_drop {T T' : LT} {a n : Nat} (hd : T.deep 17) (hd' : T'.deep 17) (hk : lpOk a n) (h1 : ∀ ρ, ρ ≠ lpPath a n → T'.at ρ = T.at ρ) (h2 : T'.at (lpPath a n) = -1) : T'.rts [] = dropL (T.rts []) a n := by
  refine srtR_uniq (rts_sorted hd') (dropL_srt (rts_sorted hd)) fun x => ?_
  rw [dropL_mem]
  obtain ⟨xa, xn, xh⟩ := x
  constructor
  · intro hx
    have ho : lpOk xa xn := rts_ok hd' hx
    have hx2 := (rts_mem hd' ho).1 hx
    have hne : lpPath xa xn ≠ lpPath a n := fun ee => by rw [ee, h2] at hx2; omega
    refine ⟨(rts_mem hd ho).2 (by rw [← h1 _ hne]; exact hx2), ?_⟩
    cases e : keyIs (xa, xn, xh) a n with
    | false => rfl
    | true =>
      obtain ⟨e1, e2⟩ := keyIs_iff.1 e
      simp only at e1 e2
      exact absurd (by rw [e1, e2]) hne
  · rintro ⟨hx, e⟩
    have ho : lpOk xa xn := rts_ok hd hx
    refine (rts_mem hd' ho).2 ?_
    rw [h1 (lpPath xa xn) fun ee => ?_]
    · exact (rts_mem hd ho).1 hx
    · have e1 : xa = a := by rw [← lpAddr_ok ho, ee, lpAddr_ok hk]
      have e2 : xn = n := by have := congrArg List.length ee; rw [lpPath_len, lpPath_len] at this; exact this
      have : keyIs (xa, xn, xh) a n = true := keyIs_iff.2 ⟨e1, e2⟩
      rw [this] at e; cases e
theorem setL_len : ∀ {L : List Rte} {a n h : Nat}, SrtR L → (setL L a n h).length = if hasL L a n then L.length else L.length + 1
  | [], a, n, h, _ => rfl
  | x :: L, a, n, h, hs => by
    have hs' := List.pairwise_cons.1 hs
    unfold setL
    split
    · rename_i h1
      have hk : keyIs x a n = false := by have := of_decide_eq_true h1; simp [keyIs]; omega
      rw [List.length_cons, setL_len hs'.2]
      unfold hasL
      rw [List.any_cons, hk, Bool.false_or]
      split <;> rfl
    · rename_i h1
      have h1' : ¬ (x.1 < a ∨ (x.1 = a ∧ x.2.1 < n)) := fun h => h1 (decide_eq_true h)
      split
      · rename_i h2
        unfold hasL
        rw [List.any_cons, h2]; rfl
      · rename_i h2
        have hL : L.any (fun x => keyIs x a n) = false := by
          rw [List.any_eq_false]
          intro z hz
          have := hs'.1 z hz
          unfold ltR at this
          simp [keyIs]; omega
        unfold hasL
        rw [List.any_cons, hL, Bool.or_false]
        have : keyIs x a n = false := by simpa using h2
        rw [this]; rfl
theorem dropL_len {L : List Rte} {a n : Nat} (hs : SrtR L) (h : hasL L a n = true) : (dropL L a n).length + 1 = L.length := by
  induction L with
  | nil => cases h
  | cons x L ih =>
    have hs' := List.pairwise_cons.1 hs
    unfold dropL
    cases hk : keyIs x a n with
    | true =>
      have hL : L.filter (fun x => !keyIs x a n) = L := List.filter_eq_self.2 fun z hz => by
        have := hs'.1 z hz
        have e := keyIs_iff.1 hk
        unfold ltR at this
        simp [keyIs]; omega
      rw [List.filter_cons, hk]; simp [hL]
    | false =>
      rw [List.filter_cons, hk]
      have h2 : hasL L a n = true := by unfold hasL at h ⊢; rw [List.any_cons, hk, Bool.false_or] at h; exact h
      have := ih hs'.2 h2
      unfold dropL at this
      simp; omega
end Go.Proofs.YtbcfcjecobihnaaDoor
