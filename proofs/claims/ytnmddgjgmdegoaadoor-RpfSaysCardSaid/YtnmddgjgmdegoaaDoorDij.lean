/- Plain: Dijkstra's steps as spf.From takes them (pick, relax), what holds over them (DInv), and what that comes to at the end: the distance and the first hop. -/
import Derived.Test.YtnmddgjgmdegoaaDoorGraph
namespace Go.Proofs.YtnmddgjgmdegoaaDoor
set_option linter.unusedVariables false

structure Dij where
  far : Nat → Int
  hop : Nat → Int
  done : Nat → Bool
def updf {α : Type} (f : Nat → α) (k : Nat) (x : α) (i : Nat) : α := if i = k then x else f i
theorem updf_same {α : Type} {f : Nat → α} {k : Nat} {x : α} : updf f k x k = x := if_pos rfl
theorem updf_other {α : Type} {f : Nat → α} {k i : Nat} {x : α} (h : i ≠ k) : updf f k x i = f i := if_neg h
def firstHop (o a v : Nat) (s : Dij) : Int := if a = o then (v : Int) else s.hop a
def relax (o a : Nat) (s : Dij) (e : Edge) : Dij :=
  if e.1 = a ∧ s.done e.2.1 = false then
    if s.far a + e.2.2 < s.far e.2.1 then ⟨updf s.far e.2.1 (s.far a + e.2.2), updf s.hop e.2.1 (firstHop o a e.2.1 s), s.done⟩
    else if s.far a + e.2.2 = s.far e.2.1 then ⟨s.far, updf s.hop e.2.1 (min (s.hop e.2.1) (firstHop o a e.2.1 s)), s.done⟩
    else s
  else s
def pickD (s : Dij) : Nat → Int
  | 0 => -1
  | k + 1 => if s.done k = false ∧ s.far k < 1000 ∧ (pickD s k < 0 ∨ s.far k < s.far (pickD s k).toNat) then (k : Int) else pickD s k
def dij0 (o : Nat) : Dij := ⟨fun i => if i = o then 0 else 1000, fun _ => -1, fun _ => false⟩
def markD (a : Nat) (s : Dij) : Dij := ⟨s.far, s.hop, updf s.done a true⟩
def cntD (d : Nat → Bool) : Nat → Nat
  | 0 => 0
  | k + 1 => cntD d k + if d k then 1 else 0

theorem pickD_spec (s : Dij) : ∀ n : Nat, (pickD s n = -1 ∧ ∀ i, i < n → s.done i = true ∨ 1000 ≤ s.far i) ∨
    ∃ a : Nat, pickD s n = (a : Int) ∧ a < n ∧ s.done a = false ∧ s.far a < 1000 ∧ ∀ i, i < n → s.done i = false → s.far a ≤ s.far i
  | 0 => .inl ⟨rfl, fun i h => by omega⟩
  | n + 1 => by
    rcases pickD_spec s n with ⟨h1, h2⟩ | ⟨a, h1, h2, h3, h4, h5⟩
    · by_cases hc : s.done n = false ∧ s.far n < 1000
      · right
        refine ⟨n, by unfold pickD; rw [if_pos ⟨hc.1, hc.2, .inl (by omega)⟩], by omega, hc.1, hc.2, fun i hi hd => ?_⟩
        rcases Nat.lt_or_ge i n with h | h
        · rcases h2 i h with h' | h'
          · rw [h'] at hd; cases hd
          · omega
        · obtain rfl : i = n := by omega
          exact Int.le_refl _
      · left
        refine ⟨by unfold pickD; rw [if_neg (fun h => hc ⟨h.1, h.2.1⟩)]; exact h1, fun i hi => ?_⟩
        rcases Nat.lt_or_ge i n with h | h
        · exact h2 i h
        · obtain rfl : i = n := by omega
          cases hd : s.done i with
          | true => exact .inl rfl
          | false => right; have : ¬ s.far i < 1000 := fun h => hc ⟨hd, h⟩; omega
    · right
      by_cases hc : s.done n = false ∧ s.far n < 1000 ∧ s.far n < s.far a
      · refine ⟨n, by unfold pickD; rw [h1, if_pos ⟨hc.1, hc.2.1, .inr (by simpa using hc.2.2)⟩], by omega, hc.1, hc.2.1, fun i hi hd => ?_⟩
        rcases Nat.lt_or_ge i n with h | h
        · have := h5 i h hd; omega
        · obtain rfl : i = n := by omega
          exact Int.le_refl _
      · refine ⟨a, by
          unfold pickD; rw [h1, if_neg (fun h => hc ⟨h.1, h.2.1, by
            rcases h.2.2 with h' | h'
            · omega
            · simpa using h'⟩)], by omega, h3, h4, fun i hi hd => ?_⟩
        rcases Nat.lt_or_ge i n with h | h
        · exact h5 i h hd
        · obtain rfl : i = n := by omega
          have : ¬ (s.far i < 1000 ∧ s.far i < s.far a) := fun h => hc ⟨hd, h.1, h.2⟩
          omega
theorem cntD_mark {d : Nat → Bool} {a : Nat} (h : d a = false) : ∀ n : Nat, cntD (updf d a true) n = cntD d n + if a < n then 1 else 0
  | 0 => by simp [cntD]
  | n + 1 => by
    show cntD (updf d a true) n + (if updf d a true n then 1 else 0) = cntD d n + (if d n then 1 else 0) + (if a < n + 1 then 1 else 0)
    rw [cntD_mark h n]
    by_cases ha : n = a
    · subst ha; rw [updf_same, h]; simp
    · rw [updf_other ha]
      by_cases hl : a < n
      · rw [if_pos hl, if_pos (show a < n + 1 by omega)]; omega
      · rw [if_neg hl, if_neg (show ¬ a < n + 1 by omega)]; omega
theorem cntD_le (d : Nat → Bool) : ∀ n : Nat, cntD d n ≤ n
  | 0 => Nat.le_refl _
  | n + 1 => by unfold cntD; have := cntD_le d n; split <;> omega

/-- What holds: P are the edges that have been looked at, m bounds what is far. -/
structure DInv (n : Nat) (E : List Edge) (o : Nat) (P : Nat → Nat → Int → Prop) (m : Nat) (s : Dij) : Prop where
  src : s.far o = 0 ∧ s.hop o = -1
  pe : ∀ a v c, P a v c → (a, v, c) ∈ E ∧ s.done a = true
  up : ∀ v, v < n → v ≠ o → (s.far v = 1000 ∧ s.hop v = -1) ∨ ∃ a c, P a v c ∧ s.far v = s.far a + c ∧ s.hop v = firstHop o a v s ∧ s.far v < 1000
  lo : ∀ a v c, P a v c → s.far v ≤ s.far a + c ∧ (v ≠ o → s.far v = s.far a + c → s.hop v ≤ firstHop o a v s)
  fin : ∀ a, s.done a = true → a < n ∧ s.far a < 1000
  ord : ∀ a v, v < n → s.done a = true → s.done v = false → s.far a ≤ s.far v
  lim : ∀ v, v < n → 0 ≤ s.far v ∧ (s.far v ≤ 20 * (m : Int) ∨ s.far v = 1000)
theorem DInv.congr {n : Nat} {E : List Edge} {o : Nat} {P Q : Nat → Nat → Int → Prop} {m : Nat} {s : Dij} (h : DInv n E o P m s) (hq : ∀ a v c, P a v c ↔ Q a v c) : DInv n E o Q m s := by
  have : P = Q := by funext a v c; exact propext (hq a v c)
  exact this ▸ h
theorem DInv.first_nonneg {n : Nat} {E : List Edge} {o : Nat} {P : Nat → Nat → Int → Prop} {m : Nat} {s : Dij} (h : DInv n E o P m s) {k : Nat} :
    ∀ v, v < n → s.far v ≤ (k : Int) → (∀ a v c, P a v c → 1 ≤ c) → s.hop v = -1 ∨ ∃ x : Nat, s.hop v = (x : Int) ∧ x < n := by
  induction k with
  | zero =>
    intro v hv hk hc
    by_cases ho : v = o
    · subst ho; exact .inl h.src.2
    · rcases h.up v hv ho with h' | ⟨a, c, hp, h1, h2, h3⟩
      · exact .inl h'.2
      · have := hc _ _ _ hp
        have := (h.lim a (h.fin a (h.pe _ _ _ hp).2).1).1
        omega
  | succ k ih =>
    intro v hv hk hc
    by_cases ho : v = o
    · subst ho; exact .inl h.src.2
    · rcases h.up v hv ho with h' | ⟨a, c, hp, h1, h2, h3⟩
      · exact .inl h'.2
      · rw [h2]
        unfold firstHop
        by_cases ha : a = o
        · rw [if_pos ha]; exact .inr ⟨v, rfl, hv⟩
        · rw [if_neg ha]
          have := hc _ _ _ hp
          exact ih a (h.fin a (h.pe _ _ _ hp).2).1 (by omega) hc
theorem DInv.hop_range {n : Nat} {E : List Edge} (hn : Net n E) {o : Nat} {P : Nat → Nat → Int → Prop} {m : Nat} {s : Dij} (h : DInv n E o P m s) {v : Nat} (hv : v < n) (hm : m ≤ 40) : s.hop v = -1 ∨ ∃ x : Nat, s.hop v = (x : Int) ∧ x < n :=
  h.first_nonneg (k := 1000) v hv (by rcases (h.lim v hv).2 with h | h <;> omega) (fun a v c hp => (hn.dom _ _ _ (h.pe _ _ _ hp).1).2.2.2.1)

theorem relax_inv {n : Nat} {E : List Edge} (hn : Net n E) {o a : Nat} {P : Nat → Nat → Int → Prop} {m : Nat} {s : Dij} (h : DInv n E o P m s) (hm : m ≤ 40)
    (ha : s.done a = true) (hf : s.far a + 20 ≤ 20 * (m : Int)) (hlast : ∀ b, s.done b = true → s.far b ≤ s.far a) {e : Edge} (he : e ∈ E) :
    DInv n E o (fun x y z => P x y z ∨ (x, y, z) = e ∧ x = a) m (relax o a s e) ∧ (relax o a s e).done = s.done ∧ (∀ b, s.done b = true → (relax o a s e).far b = s.far b) := by
  obtain ⟨x, y, z⟩ := e
  obtain ⟨hx, hy, hxy, hz1, hz2⟩ := hn.dom _ _ _ he
  unfold relax
  simp only
  by_cases hxa : x = a
  · subst hxa
    have hfx := (h.fin x ha).2
    have hx0 := (h.lim x hx).1
    cases hd : s.done y with
    | true =>
      rw [if_neg (by simp)]
      refine ⟨⟨h.src, ?_, ?_, ?_, h.fin, h.ord, h.lim⟩, rfl, fun _ _ => rfl⟩
      · rintro b v c (hp | ⟨hp, rfl⟩)
        · exact h.pe _ _ _ hp
        · simp only [Prod.mk.injEq, true_and] at hp; rw [hp.1, hp.2]; exact ⟨he, ha⟩
      · intro v hv ho
        rcases h.up v hv ho with h' | ⟨b, c, hp, h'⟩
        · exact .inl h'
        · exact .inr ⟨b, c, .inl hp, h'⟩
      · rintro b v c (hp | ⟨hp, rfl⟩)
        · exact h.lo _ _ _ hp
        · simp only [Prod.mk.injEq, true_and] at hp; rw [hp.1, hp.2]
          have := hlast y hd
          exact ⟨by omega, fun _ _ => by omega⟩
    | false =>
      rw [if_pos ⟨rfl, rfl⟩]
      by_cases hlt : s.far x + z < s.far y
      · rw [if_pos hlt]
        have hyo : y ≠ o := fun h' => by subst h'; have := h.src.1; omega
        have hne : ∀ b, s.done b = true → b ≠ y := fun b hb h' => by subst h'; rw [hd] at hb; cases hb
        have hfst : ∀ b v, s.done b = true → firstHop o b v ⟨updf s.far y (s.far x + z), updf s.hop y (firstHop o x y s), s.done⟩ = firstHop o b v s := fun b v hb => by
          unfold firstHop
          simp only [updf_other (hne b hb)]
        refine ⟨⟨?_, ?_, ?_, ?_, ?_, ?_, ?_⟩, rfl, fun b hb => updf_other (hne b hb)⟩
        · simp only [updf_other hyo.symm]; exact h.src
        · rintro b v c (hp | ⟨hp, rfl⟩)
          · exact h.pe _ _ _ hp
          · simp only [Prod.mk.injEq, true_and] at hp; rw [hp.1, hp.2]; exact ⟨he, ha⟩
        · intro v hv ho
          by_cases hvy : v = y
          · subst hvy
            right
            refine ⟨x, z, .inr ⟨rfl, rfl⟩, ?_, ?_, ?_⟩
            · simp only [updf_same, updf_other (hne x ha)]
            · rw [hfst x v ha]; simp only [updf_same]
            · simp only [updf_same]; omega
          · rcases h.up v hv ho with h' | ⟨b, c, hp, h1, h2, h3⟩
            · left; simp only [updf_other hvy]; exact h'
            · right
              have hb := (h.pe _ _ _ hp).2
              refine ⟨b, c, .inl hp, ?_, ?_, ?_⟩
              · simp only [updf_other hvy, updf_other (hne b hb)]; exact h1
              · rw [hfst b v hb]; simp only [updf_other hvy]; exact h2
              · simp only [updf_other hvy]; exact h3
        · rintro b v c (hp | ⟨hp, rfl⟩)
          · have hb := (h.pe _ _ _ hp).2
            rw [hfst b v hb]
            simp only [updf_other (hne b hb)]
            have hl := h.lo _ _ _ hp
            by_cases hvy : v = y
            · subst hvy; simp only [updf_same]; exact ⟨by omega, fun _ _ => by omega⟩
            · simp only [updf_other hvy]; exact hl
          · simp only [Prod.mk.injEq, true_and] at hp; rw [hp.1, hp.2]
            rw [hfst b y ha]
            simp only [updf_same, updf_other (hne b ha)]
            exact ⟨Int.le_refl _, fun _ _ => Int.le_refl _⟩
        · intro b hb
          simp only [updf_other (hne b hb)]; exact h.fin b hb
        · intro b v hv hb hdv
          simp only [updf_other (hne b hb)]
          by_cases hvy : v = y
          · subst hvy; simp only [updf_same]; have := hlast b hb; omega
          · simp only [updf_other hvy]; exact h.ord b v hv hb hdv
        · intro v hv
          by_cases hvy : v = y
          · subst hvy; simp only [updf_same]; exact ⟨by omega, .inl (by omega)⟩
          · simp only [updf_other hvy]; exact h.lim v hv
      · rw [if_neg hlt]
        by_cases heq : s.far x + z = s.far y
        · rw [if_pos heq]
          have hyo : y ≠ o := fun h' => by subst h'; have := h.src.1; omega
          have hne : ∀ b, s.done b = true → b ≠ y := fun b hb h' => by subst h'; rw [hd] at hb; cases hb
          have hfst : ∀ b v, s.done b = true → firstHop o b v ⟨s.far, updf s.hop y (min (s.hop y) (firstHop o x y s)), s.done⟩ = firstHop o b v s := fun b v hb => by
            unfold firstHop
            simp only [updf_other (hne b hb)]
          refine ⟨⟨?_, ?_, ?_, ?_, ?_, ?_, ?_⟩, rfl, fun _ _ => rfl⟩
          · simp only [updf_other hyo.symm]; exact h.src
          · rintro b v c (hp | ⟨hp, rfl⟩)
            · exact h.pe _ _ _ hp
            · simp only [Prod.mk.injEq, true_and] at hp; rw [hp.1, hp.2]; exact ⟨he, ha⟩
          · intro v hv ho
            by_cases hvy : v = y
            · subst hvy
              right
              rcases h.up v hv ho with h' | ⟨b, c, hp, h1, h2, h3⟩
              · omega
              · have hb := (h.pe _ _ _ hp).2
                by_cases hmin : s.hop v ≤ firstHop o x v s
                · refine ⟨b, c, .inl hp, h1, ?_, h3⟩
                  rw [hfst b v hb]; simp only [updf_same]; omega
                · refine ⟨x, z, .inr ⟨rfl, rfl⟩, heq.symm, ?_, h3⟩
                  rw [hfst x v ha]; simp only [updf_same]; omega
            · rcases h.up v hv ho with h' | ⟨b, c, hp, h1, h2, h3⟩
              · left; simp only [updf_other hvy]; exact h'
              · right
                have hb := (h.pe _ _ _ hp).2
                refine ⟨b, c, .inl hp, h1, ?_, h3⟩
                rw [hfst b v hb]; simp only [updf_other hvy]; exact h2
          · rintro b v c (hp | ⟨hp, rfl⟩)
            · have hb := (h.pe _ _ _ hp).2
              rw [hfst b v hb]
              have hl := h.lo _ _ _ hp
              by_cases hvy : v = y
              · subst hvy; simp only [updf_same]; exact ⟨hl.1, fun h1 h2 => by have := hl.2 h1 h2; omega⟩
              · simp only [updf_other hvy]; exact hl
            · simp only [Prod.mk.injEq, true_and] at hp; rw [hp.1, hp.2]
              rw [hfst b y ha]
              simp only [updf_same]
              exact ⟨by omega, fun _ _ => by omega⟩
          · exact h.fin
          · exact h.ord
          · exact h.lim
        · rw [if_neg heq]
          refine ⟨⟨h.src, ?_, ?_, ?_, h.fin, h.ord, h.lim⟩, rfl, fun _ _ => rfl⟩
          · rintro b v c (hp | ⟨hp, rfl⟩)
            · exact h.pe _ _ _ hp
            · simp only [Prod.mk.injEq, true_and] at hp; rw [hp.1, hp.2]; exact ⟨he, ha⟩
          · intro v hv ho
            rcases h.up v hv ho with h' | ⟨b, c, hp, h'⟩
            · exact .inl h'
            · exact .inr ⟨b, c, .inl hp, h'⟩
          · rintro b v c (hp | ⟨hp, rfl⟩)
            · exact h.lo _ _ _ hp
            · simp only [Prod.mk.injEq, true_and] at hp; rw [hp.1, hp.2]
              exact ⟨by omega, fun _ _ => by omega⟩
  · rw [if_neg (fun h => hxa h.1)]
    refine ⟨h.congr fun b v c => ⟨.inl, ?_⟩, rfl, fun _ _ => rfl⟩
    rintro (hp | ⟨hp, hb⟩)
    · exact hp
    · simp only [Prod.mk.injEq] at hp; exact absurd (hp.1.symm.trans hb) hxa

theorem relaxs_inv {n : Nat} {E : List Edge} (hn : Net n E) {o a m : Nat} (hm : m ≤ 40) : ∀ (F : List Edge) (P : Nat → Nat → Int → Prop) (s : Dij), (∀ e ∈ F, e ∈ E) → DInv n E o P m s →
    s.done a = true → s.far a + 20 ≤ 20 * (m : Int) → (∀ b, s.done b = true → s.far b ≤ s.far a) →
    DInv n E o (fun x y z => P x y z ∨ (x, y, z) ∈ F ∧ x = a) m (F.foldl (relax o a) s) ∧ (F.foldl (relax o a) s).done = s.done ∧ (∀ b, s.done b = true → (F.foldl (relax o a) s).far b = s.far b)
  | [], P, s, _, h, _, _, _ => ⟨h.congr fun _ _ _ => ⟨.inl, fun h => h.elim id (fun h => absurd h.1 List.not_mem_nil)⟩, rfl, fun _ _ => rfl⟩
  | e :: F, P, s, hF, h, ha, hf, hl => by
    obtain ⟨h1, h2, h3⟩ := relax_inv hn h hm ha hf hl (hF e (List.mem_cons_self ..))
    obtain ⟨g1, g2, g3⟩ := relaxs_inv hn hm F _ (relax o a s e) (fun x hx => hF x (List.mem_cons_of_mem _ hx)) h1 (by rw [h2]; exact ha) (by rw [h3 a ha]; exact hf)
      (fun b hb => by rw [h2] at hb; rw [h3 b hb, h3 a ha]; exact hl b hb)
    rw [List.foldl_cons]
    refine ⟨g1.congr fun x y z => ?_, g2.trans h2, fun b hb => by rw [g3 b (by rw [h2]; exact hb), h3 b hb]⟩
    rw [List.mem_cons]
    constructor
    · rintro ((h | h) | h)
      · exact .inl h
      · exact .inr ⟨.inl h.1, h.2⟩
      · exact .inr ⟨.inr h.1, h.2⟩
    · rintro (h | ⟨h | h, hx⟩)
      · exact .inl (.inl h)
      · exact .inl (.inr ⟨h, hx⟩)
      · exact .inr ⟨h, hx⟩

/-- What holds ahead of each pick. -/
def DAll (n : Nat) (E : List Edge) (o : Nat) (s : Dij) : Prop := DInv n E o (fun a v c => (a, v, c) ∈ E ∧ s.done a = true) (cntD s.done n) s
/-- What holds while the edges of a are looked at; F are those ahead. -/
def DMid (n : Nat) (E : List Edge) (o a : Nat) (s : Dij) : Prop :=
  (∃ P, DInv n E o P (cntD s.done n) s) ∧ s.done a = true ∧ s.far a + 20 ≤ 20 * (cntD s.done n : Int) ∧ ∀ b, s.done b = true → s.far b ≤ s.far a
theorem dall_begin {n : Nat} {E : List Edge} {o : Nat} (ho : o < n) : DAll n E o (dij0 o) := by
  refine ⟨⟨if_pos rfl, rfl⟩, ?_, ?_, ?_, ?_, ?_, ?_⟩
  · rintro a v c ⟨_, h⟩; cases h
  · intro v _ hv; exact .inl ⟨if_neg hv, rfl⟩
  · rintro a v c ⟨_, h⟩; cases h
  · intro a h; cases h
  · intro a v _ h; cases h
  · intro v _
    show 0 ≤ (if v = o then (0 : Int) else 1000) ∧ _
    by_cases h : v = o
    · exact ⟨by rw [if_pos h]; omega, .inl (by show (if v = o then (0 : Int) else 1000) ≤ _; rw [if_pos h]; omega)⟩
    · exact ⟨by rw [if_neg h]; omega, .inr (if_neg h)⟩
theorem dall_mark {n : Nat} {E : List Edge} {o a : Nat} {s : Dij} (h : DAll n E o s) (h8 : n ≤ 8) (ha : a < n) (hd : s.done a = false) (hf : s.far a < 1000) (hl : ∀ i, i < n → s.done i = false → s.far a ≤ s.far i) :
    DInv n E o (fun x y z => (x, y, z) ∈ E ∧ s.done x = true) (cntD (markD a s).done n) (markD a s) ∧ (markD a s).done a = true ∧ (markD a s).far a + 20 ≤ 20 * (cntD (markD a s).done n : Int) ∧
    (∀ b, (markD a s).done b = true → (markD a s).far b ≤ (markD a s).far a) ∧ cntD (markD a s).done n = cntD s.done n + 1 ∧ cntD s.done n < n := by
  have hc : cntD (markD a s).done n = cntD s.done n + 1 := by show cntD (updf s.done a true) n = _; rw [cntD_mark hd, if_pos ha]
  have hle := cntD_le (markD a s).done n
  have hsplit : ∀ b, (markD a s).done b = true → b = a ∨ s.done b = true := fun b hb => by
    by_cases hba : b = a
    · exact .inl hba
    · exact .inr (by rw [← hb]; exact (updf_other hba).symm)
  have hkeep : ∀ b, s.done b = true → (markD a s).done b = true := fun b hb => by
    show updf s.done a true b = true
    by_cases hba : b = a
    · subst hba; exact updf_same
    · rw [updf_other hba]; exact hb
  have hlast : ∀ b, (markD a s).done b = true → s.far b ≤ s.far a := fun b hb => by
    rcases hsplit b hb with rfl | hb
    · exact Int.le_refl _
    · exact h.ord b a ha hb hd
  have hlim := (h.lim a ha).2
  refine ⟨⟨h.src, fun b v c hp => ⟨hp.1, hkeep b hp.2⟩, h.up, h.lo, ?_, ?_, ?_⟩, updf_same, ?_, hlast, hc, by omega⟩
  · intro b hb
    rcases hsplit b hb with rfl | hb
    · exact ⟨ha, hf⟩
    · exact h.fin b hb
  · intro b v hv hb hdv
    have hdv' : s.done v = false := by
      cases hx : s.done v with
      | false => rfl
      | true => rw [hkeep v hx] at hdv; cases hdv
    rcases hsplit b hb with rfl | hb
    · exact hl v hv hdv'
    · exact h.ord b v hv hb hdv'
  · intro v hv
    have := h.lim v hv
    rw [hc]
    refine ⟨this.1, ?_⟩
    show s.far v ≤ _ ∨ s.far v = 1000
    rcases this.2 with h' | h'
    · left; omega
    · exact .inr h'
  · show s.far a + 20 ≤ _
    rw [hc]; omega
theorem dall_step {n : Nat} {E : List Edge} (hn : Net n E) (h8 : n ≤ 8) {o a : Nat} {s : Dij} (h : DAll n E o s) (ha : a < n) (hd : s.done a = false) (hf : s.far a < 1000) (hl : ∀ i, i < n → s.done i = false → s.far a ≤ s.far i) :
    DAll n E o (E.foldl (relax o a) (markD a s)) ∧ cntD (E.foldl (relax o a) (markD a s)).done n = cntD s.done n + 1 ∧ cntD s.done n < n := by
  obtain ⟨h1, h2, h3, h4, h5, h6⟩ := dall_mark h h8 ha hd hf hl
  have hle := cntD_le (markD a s).done n
  obtain ⟨g1, g2, g3⟩ := relaxs_inv hn (by omega) E _ _ (fun _ h => h) h1 h2 h3 h4
  refine ⟨?_, by rw [g2]; exact h5, h6⟩
  unfold DAll
  rw [g2]
  refine g1.congr fun x y z => ?_
  show ((x, y, z) ∈ E ∧ s.done x = true) ∨ (x, y, z) ∈ E ∧ x = a ↔ (x, y, z) ∈ E ∧ updf s.done a true x = true
  by_cases hx : x = a
  · subst hx; rw [updf_same]; exact ⟨fun h => ⟨h.elim (·.1) (·.1), rfl⟩, fun h => .inr ⟨h.1, rfl⟩⟩
  · rw [updf_other hx]; exact ⟨fun h => h.elim id (fun h => absurd h.2 hx), .inl⟩
theorem dmid_take {n : Nat} {E : List Edge} (hn : Net n E) (h8 : n ≤ 8) {o a : Nat} {s : Dij} (h : DAll n E o s) (ha : a < n) (hd : s.done a = false) (hf : s.far a < 1000) (hl : ∀ i, i < n → s.done i = false → s.far a ≤ s.far i) (F : List Edge) (hF : ∀ e ∈ F, e ∈ E) :
    DMid n E o a (F.foldl (relax o a) (markD a s)) := by
  obtain ⟨h1, h2, h3, h4, h5, h6⟩ := dall_mark h h8 ha hd hf hl
  have hle := cntD_le (markD a s).done n
  obtain ⟨g1, g2, g3⟩ := relaxs_inv hn (by omega) F _ _ hF h1 h2 h3 h4
  unfold DMid
  rw [g2, g3 a h2]
  exact ⟨⟨_, g1⟩, h2, h3, fun b hb => by rw [g3 b hb]; exact h4 b hb⟩

/-- The end: nobody is left that is not done and not Far. -/
theorem dall_far {n : Nat} {E : List Edge} (hn : Net n E) (h8 : n ≤ 8) {o : Nat} (ho : o < n) {s : Dij} (h : DAll n E o s) (hend : ∀ i, i < n → s.done i = true ∨ 1000 ≤ s.far i) {v : Nat} (hv : v < n) : s.far v = far E o v := by
  refine Dst.unique (E := E) (u := o) (v := v) ?_ (far_dst hn h8 hv)
  have hle : ∀ v, v < n → s.far v ≤ 1000 := fun v hv => by
    have h1 := (h.lim v hv).2
    have h2 := cntD_le s.done n
    rcases h1 with h1 | h1 <;> omega
  have hwalk : ∀ (k v : Nat) (c : Int), Wk E k o v c → v < n → s.far v ≤ c := by
    intro k
    induction k with
    | zero => intro v c hw hv; obtain ⟨rfl, rfl⟩ := hw.zero; have := h.src.1; omega
    | succ k ih =>
      intro v c hw hv
      obtain ⟨w, z, d, hw2, he, rfl⟩ := hw.last
      have hd := hn.dom _ _ _ he
      have h1 := ih w d hw2 hd.1
      rcases hend w hd.1 with h2 | h2
      · have := (h.lo w v z ⟨he, h2⟩).1; omega
      · have := hle v hv; omega
  have hthere : ∀ (k v : Nat), v < n → s.far v ≤ (k : Int) → s.far v < 1000 → ∃ j, Wk E j o v (s.far v) := by
    intro k
    induction k with
    | zero =>
      intro v hv hk hf
      by_cases hvo : v = o
      · subst hvo; rw [h.src.1]; exact ⟨0, Wk.nil v⟩
      · rcases h.up v hv hvo with h' | ⟨a, c, hp, h1, _⟩
        · omega
        · have hd := hn.dom _ _ _ hp.1
          have := (h.lim a hd.1).1
          omega
    | succ k ih =>
      intro v hv hk hf
      by_cases hvo : v = o
      · subst hvo; rw [h.src.1]; exact ⟨0, Wk.nil v⟩
      · rcases h.up v hv hvo with h' | ⟨a, c, hp, h1, _⟩
        · omega
        · have hd := hn.dom _ _ _ hp.1
          obtain ⟨j, hw⟩ := ih a hd.1 (by omega) (h.fin a hp.2).2
          exact ⟨j + 1, h1 ▸ hw.snoc hp.1⟩
  refine ⟨?_, hle v hv, fun j c hw => hwalk j v c hw hv⟩
  rcases Int.lt_or_le (s.far v) 1000 with hf | hf
  · exact .inr (hthere 1000 v hv (by omega) hf)
  · have := hle v hv; left; omega
theorem dall_hop {n : Nat} {E : List Edge} (hn : Net n E) (h8 : n ≤ 8) {o : Nat} (ho : o < n) {s : Dij} (h : DAll n E o s) (hend : ∀ i, i < n → s.done i = true ∨ 1000 ≤ s.far i) :
    ∀ (k v : Nat), v < n → s.far v ≤ (k : Int) → IsHop n E o v (s.hop v) := by
  have hfar : ∀ v, v < n → s.far v = far E o v := fun v hv => dall_far hn h8 ho h hend hv
  intro k
  induction k with
  | zero =>
    intro v hv hk
    by_cases hvo : v = o
    · subst hvo; exact .inl ⟨.inl rfl, h.src.2⟩
    · have := far_apart hn h8 hv (Ne.symm hvo); rw [hfar v hv] at hk; omega
  | succ k ih =>
    intro v hv hk
    by_cases hvo : v = o
    · subst hvo; exact .inl ⟨.inl rfl, h.src.2⟩
    · rcases h.up v hv hvo with h' | ⟨a, c, hp, h1, h2, h3⟩
      · exact .inl ⟨.inr (by rw [← hfar v hv]; exact h'.1), h'.2⟩
      · right
        have hfv := hfar v hv
        refine ⟨⟨Ne.symm hvo, by rw [← hfv]; exact h3⟩, ?_⟩
        -- what each tight edge into v tells
        have hcand : ∀ b z, (b, v, z) ∈ E → far E o b + z = far E o v → ∃ w : Nat, firstHop o b v s = (w : Int) ∧ w < n ∧ ∃ x, (o, w, x) ∈ E ∧ x + far E w v = far E o v := by
          intro b z he ht
          have hd := hn.dom _ _ _ he
          unfold firstHop
          by_cases hb : b = o
          · subst hb
            rw [if_pos rfl]
            rw [far_self hn] at ht
            exact ⟨v, rfl, hv, z, he, by rw [far_self hn]; omega⟩
          · rw [if_neg hb]
            rcases ih b hd.1 (by rw [hfar b hd.1]; omega) with ⟨h4 | h4, _⟩ | ⟨_, w, h5, h6, ⟨x, h7, h8'⟩, _⟩
            · exact absurd h4.symm hb
            · rw [hfv] at h3; omega
            · refine ⟨w, h5, h6, x, h7, ?_⟩
              have e1 := far_edge hn h8 hv h7
              have e2 : far E w v ≤ far E w b + z := by
                have hle := far_tri hn h8 (u := w) (w := b) (v := v) hd.1 hv
                have hle2 := far_edge hn h8 (v := v) hv he
                rw [far_self hn] at hle2
                omega
              omega
        -- and each right first hop comes by a tight edge
        have hall : ∀ w x, (o, w, x) ∈ E → x + far E w v = far E o v → ∃ b z, (b, v, z) ∈ E ∧ far E o b + z = far E o v ∧ firstHop o b v s ≤ (w : Int) := by
          intro w x he ht
          have hd := hn.dom _ _ _ he
          by_cases hwv : w = v
          · subst hwv
            rw [far_self hn] at ht
            exact ⟨o, x, he, by rw [far_self hn]; omega, by unfold firstHop; rw [if_pos rfl]; exact Int.le_refl _⟩
          · rw [hfv] at h3
            obtain ⟨b, z, hb1, hb2⟩ := far_first hn h8 (u := v) (v := w) hd.2.1 (Ne.symm hwv) (by rw [far_swap hn]; omega)
            have hb3 := hn.sym _ _ _ hb1
            have hdb := hn.dom _ _ _ hb3
            rw [far_swap hn (u := b), far_swap hn (u := v)] at hb2
            have t1 := far_edge hn h8 (v := b) hdb.1 he
            have t2 := far_tri hn h8 (u := o) (w := b) (v := v) hdb.1 hv
            have t3 := far_edge hn h8 (v := v) hv hb3
            rw [far_self hn] at t3
            have ht' : far E o b + z = far E o v := by omega
            refine ⟨b, z, hb3, ht', ?_⟩
            have hbo : b ≠ o := fun h' => by
              subst h'
              have hnn := far_nonneg hn (u := w) (v := b)
              rw [far_self hn] at ht'
              omega
            unfold firstHop
            rw [if_neg hbo]
            rcases ih b hdb.1 (by rw [hfar b hdb.1]; omega) with ⟨h4 | h4, _⟩ | ⟨_, w', h5, h6, _, h9⟩
            · exact absurd h4.symm hbo
            · omega
            · rw [h5]
              have := h9 w x he (by omega)
              omega
        obtain ⟨w, g1, g2, x, g3, g4⟩ := hcand a c hp.1 (by rw [← hfar a (hn.dom _ _ _ hp.1).1, ← hfv]; omega)
        refine ⟨w, h2.trans g1, g2, ⟨x, g3, g4⟩, fun w' c' he ht => ?_⟩
        obtain ⟨b, z, k1, k2, k3⟩ := hall w' c' he ht
        have hdb := hn.dom _ _ _ k1
        have hbd : s.done b = true := by
          rcases hend b hdb.1 with h' | h'
          · exact h'
          · rw [hfar b hdb.1] at h'; rw [hfv] at h3; omega
        have := (h.lo b v z ⟨k1, hbd⟩).2 hvo (by rw [hfv, hfar b hdb.1]; omega)
        rw [h2, g1] at this
        omega
theorem dall_end {n : Nat} {E : List Edge} (hn : Net n E) (h8 : n ≤ 8) {o : Nat} (ho : o < n) {s : Dij} (h : DAll n E o s) (hend : ∀ i, i < n → s.done i = true ∨ 1000 ≤ s.far i) {v : Nat} (hv : v < n) :
    s.far v = far E o v ∧ IsHop n E o v (s.hop v) :=
  ⟨dall_far hn h8 ho h hend hv, dall_hop hn h8 ho h hend 1000 v hv (by
    have h1 := (h.lim v hv).2
    have h2 := cntD_le s.done n
    rcases h1 with h1 | h1 <;> omega)⟩
end Go.Proofs.YtnmddgjgmdegoaaDoor
