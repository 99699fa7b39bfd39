/- The desk: the map of its verbs. -/
import Derived.Test.YtbcfcjecobihnaaGreatDoorMapOwn
import Derived.Test.YtbcfcjecobihnaaGreatDoorRows
namespace Go.Proofs.YtbcfcjecobihnaaGreatDoor
open Go.RowKit Go.Maps
open Go.ChangeMaps (setBlock)
set_option linter.unusedVariables false
set_option linter.unusedSimpArgs false
set_option maxRecDepth 100000

section
variable {P : Program} {w : World} {t k e : TypeId} {b : Nat} {es : Array MapEntry} {clock : Nat} {L : KV} {x v : Value} {kl : Lit}
theorem update_new (K : Keyed P k) (ht : P.underlying t = some (.map k e)) (hb : w.heap[b]? = some (.map es clock)) (M : MapIs es clock L) (hkeys : ∀ p ∈ L, ∃ l, keyOf P k p.1 = some l)
    (hkey : keyOf P k x = some kl) (hno : ∀ p ∈ L, p.1 ≠ x) : (Instr.mapUpdate t (.map (some b)) x v).run P w = .ok () (setBlock w b (.map (es.push ⟨x, v, clock⟩) (clock + 1))) := by
  have hm : ∀ e0 ∈ es.toList, (e0.key, e0.val) ∈ L := fun e0 h0 => by rw [← M.ents]; exact List.mem_map.2 ⟨e0, h0, rfl⟩
  rcases K.find w hkey es.toList (fun e0 h0 => hkeys _ (hm e0 h0)) with ⟨h1, h2⟩ | ⟨j, e0, h1, h2, h3⟩
  · simp [Instr.mapUpdate, run_underlying ht, MapKept.run_getObj_map hb, K.check w false hkey, h1, MapKept.run_setObj_map _ hb, Result.andThen, setBlock]
  · exact absurd h3 (hno _ (hm e0 (List.mem_iff_getElem?.2 ⟨j, h2⟩)))
end
abbrev tVerb : TypeId := 119
abbrev tVerbs : TypeId := 120
theorem keyStr : Keyed Tryz.prog 9 := string_keyed Tryz.underlying9
def verbC (n : Int) (f : Nat) : Value := .agg #[.int .i64 n, .func (Fn.func f) #[] #[]]
def verbsL : KV := [(.string ⟨#[115, 101, 116]⟩, verbC 3 74), (.string ⟨#[100, 114, 111, 112]⟩, verbC 2 75), (.string ⟨#[102, 105, 110, 100]⟩, verbC 1 76), (.string ⟨#[109, 97, 110, 121]⟩, verbC 0 77), (.string ⟨#[99, 114, 97, 115, 104]⟩, verbC 1 78)]
theorem strKey (s : ByteArray) (h : s.size ≤ maxLen) : ∃ l, keyOf Tryz.prog 9 (.string s) = some l := by
  simp [keyOf, Tryz.underlying9, mapKey, h]
def StrOk (L : KV) : Prop := ∀ p ∈ L, ∃ s, p.1 = .string s ∧ s.size ≤ maxLen
theorem StrOk.nil : StrOk [] := fun p hp => by simp at hp
theorem StrOk.snoc {L : KV} (h : StrOk L) {x : ByteArray} (hx : x.size ≤ maxLen) (v : Value) : StrOk (L ++ [(.string x, v)]) := by
  intro p hp
  rcases List.mem_append.1 hp with hp | hp
  · exact h p hp
  · rw [List.mem_singleton] at hp
    subst hp
    exact ⟨x, rfl, hx⟩
theorem verb_step {w : World} {b c : Nat} {es : Array MapEntry} {L : KV} (hb : w.heap[b]? = some (.map es c)) (M : MapIs es c L) (hs : StrOk L) (x : ByteArray) (hx : x.size ≤ maxLen) (v : Value) (hno : ∀ p ∈ L, p.1 ≠ .string x) :
    ∃ w', (Instr.mapUpdate tVerbs (.map (some b)) (.string x) v).run Tryz.prog w = .ok () w' ∧ (∃ es', w'.heap[b]? = some (.map es' (c + 1)) ∧ MapIs es' (c + 1) (L ++ [(.string x, v)])) ∧ StrOk (L ++ [(.string x, v)]) ∧ ∀ B, B ≤ b → Below B w w' := by
  obtain ⟨kl, hk⟩ := strKey x hx
  have hr := update_new (v := v) keyStr Tryz.underlying120 hb M (fun p hp => by obtain ⟨s, hs, h2⟩ := hs p hp; rw [hs]; exact strKey s h2) hk hno
  exact ⟨_, hr, ⟨_, Go.ChangeMaps.heap_setBlock_same hb _, M.push _ _⟩, hs.snoc hx v, fun B hB => below_setBlock hb hB _⟩
theorem verbs_any (w : World) : ∃ w2 w3 w4 w5 w6 : World,
    (Instr.mapUpdate tVerbs (.map (some w.heap.size)) (.string ⟨#[115, 101, 116]⟩) (.agg #[.int .i64 3, .func (Fn.func 74) #[] #[]])).run Tryz.prog (w.alloc (.map #[] 0)) = .ok () w2 ∧
    (Instr.mapUpdate tVerbs (.map (some w.heap.size)) (.string ⟨#[100, 114, 111, 112]⟩) (.agg #[.int .i64 2, .func (Fn.func 75) #[] #[]])).run Tryz.prog w2 = .ok () w3 ∧
    (Instr.mapUpdate tVerbs (.map (some w.heap.size)) (.string ⟨#[102, 105, 110, 100]⟩) (.agg #[.int .i64 1, .func (Fn.func 76) #[] #[]])).run Tryz.prog w3 = .ok () w4 ∧
    (Instr.mapUpdate tVerbs (.map (some w.heap.size)) (.string ⟨#[109, 97, 110, 121]⟩) (.agg #[.int .i64 0, .func (Fn.func 77) #[] #[]])).run Tryz.prog w4 = .ok () w5 ∧
    (Instr.mapUpdate tVerbs (.map (some w.heap.size)) (.string ⟨#[99, 114, 97, 115, 104]⟩) (.agg #[.int .i64 1, .func (Fn.func 78) #[] #[]])).run Tryz.prog w5 = .ok () w6 ∧
    (∃ es, w6.heap[w.heap.size]? = some (.map es 5) ∧ MapIs es 5 verbsL) ∧ Below w.heap.size w w6 ∧ w.heap.size < w6.heap.size := by
  have h1 : (w.alloc (.map #[] 0)).heap[w.heap.size]? = some (.map #[] 0) := heap_alloc_new w _
  obtain ⟨w2, r2, ⟨e2, h2, m2⟩, s2, b2⟩ := verb_step h1 MapIs.nil StrOk.nil ⟨#[115, 101, 116]⟩ (by decide) (verbC 3 74) (by simp)
  obtain ⟨w3, r3, ⟨e3, h3, m3⟩, s3, b3⟩ := verb_step h2 m2 s2 ⟨#[100, 114, 111, 112]⟩ (by decide) (verbC 2 75) (by simp)
  obtain ⟨w4, r4, ⟨e4, h4, m4⟩, s4, b4⟩ := verb_step h3 m3 s3 ⟨#[102, 105, 110, 100]⟩ (by decide) (verbC 1 76) (by simp)
  obtain ⟨w5, r5, ⟨e5, h5, m5⟩, s5, b5⟩ := verb_step h4 m4 s4 ⟨#[109, 97, 110, 121]⟩ (by decide) (verbC 0 77) (by simp)
  obtain ⟨w6, r6, ⟨e6, h6, m6⟩, s6, b6⟩ := verb_step h5 m5 s5 ⟨#[99, 114, 97, 115, 104]⟩ (by decide) (verbC 1 78) (by simp)
  exact ⟨w2, w3, w4, w5, w6, r2, r3, r4, r5, r6, ⟨e6, h6, m6⟩, (below_alloc w _).trans ((b2 _ (Nat.le_refl _)).trans ((b3 _ (Nat.le_refl _)).trans ((b4 _ (Nat.le_refl _)).trans ((b5 _ (Nat.le_refl _)).trans (b6 _ (Nat.le_refl _)))))), (Array.getElem?_eq_some_iff.1 h6).1⟩
theorem verbs_str : ∀ p ∈ verbsL, ∃ l, keyOf Tryz.prog 9 p.1 = some l := by
  intro p hp
  simp only [verbsL, List.mem_cons, List.not_mem_nil, or_false] at hp
  rcases hp with rfl | rfl | rfl | rfl | rfl <;> exact strKey _ (by decide)
theorem verb_look {w : World} {b : Nat} {es : Array MapEntry} (hb : w.heap[b]? = some (.map es 5)) (M : MapIs es 5 verbsL) {s : ByteArray} (hsz : s.size ≤ maxLen) {v : Value} (hin : (.string s, v) ∈ verbsL) :
    (Instr.lookup tVerbs (.map (some b)) (.string s) true).run Tryz.prog w = .ok (.tuple #[v, .bool true]) w := by
  obtain ⟨kl, hk⟩ := strKey s hsz
  refine look_yes keyStr Tryz.underlying120 hb M verbs_str hk hin ?_
  intro p hp he
  simp only [verbsL, List.mem_cons, List.not_mem_nil, or_false] at hp hin
  rcases hp with rfl | rfl | rfl | rfl | rfl <;> rcases hin with h | h | h | h | h <;> simp_all
theorem verb_miss {w : World} {b : Nat} {es : Array MapEntry} (hb : w.heap[b]? = some (.map es 5)) (M : MapIs es 5 verbsL) {s : ByteArray} (hsz : s.size ≤ maxLen) (hno : ∀ p ∈ verbsL, p.1 ≠ .string s) :
    (Instr.lookup tVerbs (.map (some b)) (.string s) true).run Tryz.prog w = .ok (.tuple #[.agg #[.int .i64 0, .nilFunc], .bool false]) w := by
  obtain ⟨kl, hk⟩ := strKey s hsz
  exact look_no keyStr Tryz.underlying120 (fun u => by kernel_rfl) hb M verbs_str hk hno
end Go.Proofs.YtbcfcjecobihnaaGreatDoor
