/- nat: the table in memory: two maps that hold the same entries. -/
import Derived.Test.YtbcfcjecobihnaaRows
import Derived.Test.YtbcfcjecobihnaaMapOwn
import Derived.Test.YtbcfcjecobihnaaNatPlain
import Derived.DeepKeys4
namespace Go.Proofs.Ytbcfcjecobihnaa
open Go.RowKit Go.Maps
open Go.ChangeMaps (setBlock)
set_option linter.unusedVariables false
set_option maxRecDepth 100000

def plV (p : Pl) : Value := .agg #[.int .i64 p.1, .int .i64 p.2]
theorem natLaid : laidOutB Try.prog = true := by kernel_rfl
theorem plRow : (40 : TypeId) < Try.prog.types.size := of_decide_eq_true (by kernel_rfl)
theorem plWide : (match Try.prog.underlying 40 with | some (.array _ _) | some (.struct _) => true | _ => false) = true := by rw [Try.underlying40]
theorem plKeyed : Keyed Try.prog 40 := Keyed.of_law (deep_law_laid natLaid (m := 2) (by omega) plRow (by kernel_rfl) plWide)
theorem intKeyed : Keyed Try.prog 3 := int_keyed Try.underlying3
theorem plKeyTy : Try.prog.keyType 40 = true := by kernel_rfl
theorem plCells : Try.prog.cellsOf 40 = 2 := by kernel_rfl
theorem intCells : Try.prog.cellsOf 3 = 1 := by kernel_rfl
theorem intKey {a : Int} (h : -9223372036854775808 ≤ a ∧ a ≤ 9223372036854775807) : keyOf Try.prog 3 (.int .i64 a) = some (.int .i64 a) := keyOf_int_mk Try.underlying3 (WalkArith.wf_i64 (by omega))
theorem plKey {p : Pl} (h : PlOk p) : ∃ l, keyOf Try.prog 40 (plV p) = some l := by
  obtain ⟨⟨h1, h2⟩, h3, h4⟩ := h
  have w1 : (Lit.int .i64 p.1).wf = true := WalkArith.wf_i64 (by omega)
  have w2 : (Lit.int .i64 p.2).wf = true := WalkArith.wf_i64 (by omega)
  obtain ⟨d, hd⟩ : ∃ d, Try.prog.types.size = d + 1 := ⟨Try.prog.types.size - 1, by have h : (40 : Nat) < Try.prog.types.size := plRow; omega⟩
  have hl : Try.prog.keyLits (Try.prog.types.size + 1) 40 [.int .i64 p.1, .int .i64 p.2] = some [.int .i64 p.1, .int .i64 p.2] := by
    rw [hd]
    simp [Program.keyLits, Try.underlying40, Try.underlying3, plCells, intCells, w1, w2]
  refine ⟨.string (keyBytes [.int .i64 p.1, .int .i64 p.2]), ?_⟩
  unfold keyOf plV
  rw [Try.underlying40]
  simp only [plKeyTy, Value.formed, Try.underlying40, plCells]
  show (if _ then Option.map _ (Try.prog.keyLits (Try.prog.types.size + 1) 40 [.int .i64 p.1, .int .i64 p.2]) else none) = _
  rw [hl]
  rfl
theorem zeroInt (u : World) : (zeroValue 3).run Try.prog u = .ok (.int .i64 0) u := by kernel_rfl
theorem zeroPl (u : World) : (zeroValue 40).run Try.prog u = .ok (plV (0, 0)) u := by kernel_rfl

def kvP (M : NatM) : KV := M.map fun x => (plV x.2, .int .i64 x.1)
def kvQ (M : NatM) : KV := M.map fun x => (.int .i64 x.1, plV x.2)
theorem plV_inj {p q : Pl} (h : plV p = plV q) : p = q := by
  unfold plV at h
  simp at h
  exact Prod.ext h.1 h.2
section
variable {low many : Int} {M : NatM} {w : World} {b : Nat} {es : Array MapEntry} {clock : Nat}
theorem keysP (h : NatOk low many M) : ∀ p ∈ kvP M, ∃ l, keyOf Try.prog 40 p.1 = some l := by
  intro p hp
  obtain ⟨x, hx, rfl⟩ := List.mem_map.1 hp
  exact plKey (h.pl x hx)
theorem NatOk.bd (h : NatOk low many M) {x : Int × Pl} (hx : x ∈ M) : -9223372036854775808 ≤ x.1 ∧ x.1 ≤ 9223372036854775807 := by
  have := h.rng x hx; have := h.lm.1; have := h.lm.2.2; omega
theorem keysQ (h : NatOk low many M) : ∀ p ∈ kvQ M, ∃ l, keyOf Try.prog 3 p.1 = some l := by
  intro p hp
  obtain ⟨x, hx, rfl⟩ := List.mem_map.1 hp
  exact ⟨_, intKey (h.bd hx)⟩
/-- A look-up by place. -/
theorem lookP (h : NatOk low many M) (hb : w.heap[b]? = some (.map es clock)) (m : MapIs es clock (kvP M)) {p : Pl} (hp : PlOk p) :
    (Instr.lookup 50 (.map (some b)) (plV p) true).run Try.prog w = .ok (.tuple #[.int .i64 ((portOf M p).getD 0), .bool (portOf M p).isSome]) w := by
  obtain ⟨l, hl⟩ := plKey hp
  cases hq : portOf M p with
  | none =>
    exact look_no plKeyed Try.underlying50 zeroInt hb m (keysP h) hl (fun y hy e => by
      obtain ⟨x, hx, rfl⟩ := List.mem_map.1 hy
      exact portOf_none.1 hq x hx (plV_inj e))
  | some q =>
    exact look_yes plKeyed Try.underlying50 hb m (keysP h) hl (List.mem_map.2 ⟨(q, p), portOf_mem hq, rfl⟩) (fun y hy e => by
      obtain ⟨x, hx, rfl⟩ := List.mem_map.1 hy
      have := nodup_same h.places hx (portOf_mem hq) (plV_inj e)
      rw [this]; rfl)
/-- A look-up by port. -/
theorem lookQ (h : NatOk low many M) (hb : w.heap[b]? = some (.map es clock)) (m : MapIs es clock (kvQ M)) {q : Int} (hq : -9223372036854775808 ≤ q ∧ q ≤ 9223372036854775807) :
    (Instr.lookup 51 (.map (some b)) (.int .i64 q) true).run Try.prog w = .ok (.tuple #[plV ((placeOf M q).getD (0, 0)), .bool (placeOf M q).isSome]) w := by
  cases hp : placeOf M q with
  | none =>
    exact look_no intKeyed Try.underlying51 zeroPl hb m (keysQ h) (intKey hq) (fun y hy e => by
      obtain ⟨x, hx, rfl⟩ := List.mem_map.1 hy
      exact placeOf_none.1 hp x hx (by simpa using e))
  | some p =>
    exact look_yes intKeyed Try.underlying51 hb m (keysQ h) (intKey hq) (List.mem_map.2 ⟨(q, p), placeOf_mem hp, rfl⟩) (fun y hy e => by
      obtain ⟨x, hx, rfl⟩ := List.mem_map.1 hy
      have := nodup_same h.ports hx (placeOf_mem hp) (by simpa using e)
      rw [this]; rfl)
end
/-- A table: its block, and two maps that hold the same entries. -/
def tabE (g mp mq : Nat) (low many : Int) (e1 : Array MapEntry) (c1 : Nat) (e2 : Array MapEntry) (c2 : Nat) : List Ent :=
  [Ent.blk1 g 53 [.int .i64 low, .int .i64 many, .map (some mp), .map (some mq)], Ent.mapX mp e1 c1, Ent.mapX mq e2 c2]
def NatT (B : Nat) (w : World) (g : Nat) (low many : Int) (M : NatM) (F : List Ent) : Prop :=
  NatOk low many M ∧ ∃ mp mq e1 c1 e2 c2, MapIs e1 c1 (kvP M) ∧ MapIs e2 c2 (kvQ M) ∧ Sep B w (tabE g mp mq low many e1 c1 e2 c2 ++ F)
theorem NatT.kept {B : Nat} {w w' : World} {g : Nat} {low many : Int} {M : NatM} {F : List Ent} (h : NatT B w g low many M F) (hb : Below w.heap.size w w') : NatT B w' g low many M F := by
  obtain ⟨h1, mp, mq, e1, c1, e2, c2, m1, m2, hs⟩ := h
  exact ⟨h1, mp, mq, e1, c1, e2, c2, m1, m2, hs.kept hb⟩
theorem NatT.mono {B B' : Nat} {w : World} {g : Nat} {low many : Int} {M : NatM} {F : List Ent} (h : NatT B w g low many M F) (hb : B' ≤ B) : NatT B' w g low many M F := by
  obtain ⟨h1, mp, mq, e1, c1, e2, c2, m1, m2, hs⟩ := h
  exact ⟨h1, mp, mq, e1, c1, e2, c2, m1, m2, hs.mono hb⟩
end Go.Proofs.Ytbcfcjecobihnaa
