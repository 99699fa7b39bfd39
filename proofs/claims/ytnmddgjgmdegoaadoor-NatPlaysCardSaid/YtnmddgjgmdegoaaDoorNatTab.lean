/- nat: the table in memory: two maps that hold the same entries. -/
import Derived.Test.YtnmddgjgmdegoaaDoorRows
import Derived.Test.YtnmddgjgmdegoaaDoorMapOwn
import Derived.Test.YtnmddgjgmdegoaaDoorNatPlain
import Derived.DeepKeys4
namespace Go.Proofs.YtnmddgjgmdegoaaDoor
open Go.RowKit Go.Maps
open Go.ChangeMaps (setBlock)
set_option linter.unusedVariables false
set_option maxRecDepth 100000

def plV (p : Pl) : Value := .agg #[.int .i64 p.1, .int .i64 p.2]
theorem natLaid : laidOutB Tryd.prog = true := by kernel_rfl
theorem plRow : (24 : TypeId) < Tryd.prog.types.size := of_decide_eq_true (by kernel_rfl)
theorem plWide : (match Tryd.prog.underlying 24 with | some (.array _ _) | some (.struct _) => true | _ => false) = true := by rw [Tryd.underlying24]
theorem plKeyed : Keyed Tryd.prog 24 := Keyed.of_law (deep_law_laid natLaid (m := 2) (by omega) plRow (by kernel_rfl) plWide)
theorem intKeyed : Keyed Tryd.prog 3 := int_keyed Tryd.underlying3
theorem plKeyTy : Tryd.prog.keyType 24 = true := by kernel_rfl
theorem plCells : Tryd.prog.cellsOf 24 = 2 := by kernel_rfl
theorem intCells : Tryd.prog.cellsOf 3 = 1 := by kernel_rfl
theorem intKey {a : Int} (h : -9223372036854775808 ≤ a ∧ a ≤ 9223372036854775807) : keyOf Tryd.prog 3 (.int .i64 a) = some (.int .i64 a) := keyOf_int_mk Tryd.underlying3 (WalkArith.wf_i64 (by omega))
theorem plKey {p : Pl} (h : PlOk p) : ∃ l, keyOf Tryd.prog 24 (plV p) = some l := by
  obtain ⟨⟨h1, h2⟩, h3, h4⟩ := h
  have w1 : (Lit.int .i64 p.1).wf = true := WalkArith.wf_i64 (by omega)
  have w2 : (Lit.int .i64 p.2).wf = true := WalkArith.wf_i64 (by omega)
  obtain ⟨d, hd⟩ : ∃ d, Tryd.prog.types.size = d + 1 := ⟨Tryd.prog.types.size - 1, by have h : (24 : Nat) < Tryd.prog.types.size := plRow; omega⟩
  have hl : Tryd.prog.keyLits (Tryd.prog.types.size + 1) 24 [.int .i64 p.1, .int .i64 p.2] = some [.int .i64 p.1, .int .i64 p.2] := by
    rw [hd]
    simp [Program.keyLits, Tryd.underlying24, Tryd.underlying3, plCells, intCells, w1, w2]
  refine ⟨.string (keyBytes [.int .i64 p.1, .int .i64 p.2]), ?_⟩
  unfold keyOf plV
  rw [Tryd.underlying24]
  simp only [plKeyTy, Value.formed, Tryd.underlying24, plCells]
  show (if _ then Option.map _ (Tryd.prog.keyLits (Tryd.prog.types.size + 1) 24 [.int .i64 p.1, .int .i64 p.2]) else none) = _
  rw [hl]
  rfl
theorem zeroInt (u : World) : (zeroValue 3).run Tryd.prog u = .ok (.int .i64 0) u := by kernel_rfl
theorem zeroPl (u : World) : (zeroValue 24).run Tryd.prog u = .ok (plV (0, 0)) u := by kernel_rfl

def kvP (M : NatM) : KV := M.map fun x => (plV x.2, .int .i64 x.1)
def kvQ (M : NatM) : KV := M.map fun x => (.int .i64 x.1, plV x.2)
theorem plV_inj {p q : Pl} (h : plV p = plV q) : p = q := by
  unfold plV at h
  simp at h
  exact Prod.ext h.1 h.2
section
variable {low many : Int} {M : NatM} {w : World} {b : Nat} {es : Array MapEntry} {clock : Nat}
theorem keysP (h : NatOk low many M) : ∀ p ∈ kvP M, ∃ l, keyOf Tryd.prog 24 p.1 = some l := by
  intro p hp
  obtain ⟨x, hx, rfl⟩ := List.mem_map.1 hp
  exact plKey (h.pl x hx)
theorem NatOk.bd (h : NatOk low many M) {x : Int × Pl} (hx : x ∈ M) : -9223372036854775808 ≤ x.1 ∧ x.1 ≤ 9223372036854775807 := by
  have := h.rng x hx; have := h.lm.1; have := h.lm.2.2; omega
theorem keysQ (h : NatOk low many M) : ∀ p ∈ kvQ M, ∃ l, keyOf Tryd.prog 3 p.1 = some l := by
  intro p hp
  obtain ⟨x, hx, rfl⟩ := List.mem_map.1 hp
  exact ⟨_, intKey (h.bd hx)⟩
/-- A look-up by place. -/
theorem lookP (h : NatOk low many M) (hb : w.heap[b]? = some (.map es clock)) (m : MapIs es clock (kvP M)) {p : Pl} (hp : PlOk p) :
    (Instr.lookup 65 (.map (some b)) (plV p) true).run Tryd.prog w = .ok (.tuple #[.int .i64 ((portOf M p).getD 0), .bool (portOf M p).isSome]) w := by
  obtain ⟨l, hl⟩ := plKey hp
  cases hq : portOf M p with
  | none =>
    exact look_no plKeyed Tryd.underlying65 zeroInt hb m (keysP h) hl (fun y hy e => by
      obtain ⟨x, hx, rfl⟩ := List.mem_map.1 hy
      exact portOf_none.1 hq x hx (plV_inj e))
  | some q =>
    exact look_yes plKeyed Tryd.underlying65 hb m (keysP h) hl (List.mem_map.2 ⟨(q, p), portOf_mem hq, rfl⟩) (fun y hy e => by
      obtain ⟨x, hx, rfl⟩ := List.mem_map.1 hy
      have := nodup_same h.places hx (portOf_mem hq) (plV_inj e)
      rw [this]; rfl)
/-- A look-up by port. -/
theorem lookQ (h : NatOk low many M) (hb : w.heap[b]? = some (.map es clock)) (m : MapIs es clock (kvQ M)) {q : Int} (hq : -9223372036854775808 ≤ q ∧ q ≤ 9223372036854775807) :
    (Instr.lookup 66 (.map (some b)) (.int .i64 q) true).run Tryd.prog w = .ok (.tuple #[plV ((placeOf M q).getD (0, 0)), .bool (placeOf M q).isSome]) w := by
  cases hp : placeOf M q with
  | none =>
    exact look_no intKeyed Tryd.underlying66 zeroPl hb m (keysQ h) (intKey hq) (fun y hy e => by
      obtain ⟨x, hx, rfl⟩ := List.mem_map.1 hy
      exact placeOf_none.1 hp x hx (by simpa using e))
  | some p =>
    exact look_yes intKeyed Tryd.underlying66 hb m (keysQ h) (intKey hq) (List.mem_map.2 ⟨(q, p), placeOf_mem hp, rfl⟩) (fun y hy e => by
      obtain ⟨x, hx, rfl⟩ := List.mem_map.1 hy
      have := nodup_same h.ports hx (placeOf_mem hp) (by simpa using e)
      rw [this]; rfl)
end
/-- A table: its block, and two maps that hold the same entries. -/
def tabE (g mp mq : Nat) (low many : Int) (e1 : Array MapEntry) (c1 : Nat) (e2 : Array MapEntry) (c2 : Nat) : List Ent :=
  [Ent.blk1 g 68 [.int .i64 low, .int .i64 many, .map (some mp), .map (some mq)], Ent.mapX mp e1 c1, Ent.mapX mq e2 c2]
def NatT (B : Nat) (w : World) (g : Nat) (low many : Int) (M : NatM) (F : List Ent) : Prop :=
  NatOk low many M ∧ ∃ mp mq e1 c1 e2 c2, MapIs e1 c1 (kvP M) ∧ MapIs e2 c2 (kvQ M) ∧ Sep B w (tabE g mp mq low many e1 c1 e2 c2 ++ F)
theorem NatT.kept {B : Nat} {w w' : World} {g : Nat} {low many : Int} {M : NatM} {F : List Ent} (h : NatT B w g low many M F) (hb : Below w.heap.size w w') : NatT B w' g low many M F := by
  obtain ⟨h1, mp, mq, e1, c1, e2, c2, m1, m2, hs⟩ := h
  exact ⟨h1, mp, mq, e1, c1, e2, c2, m1, m2, hs.kept hb⟩
theorem NatT.mono {B B' : Nat} {w : World} {g : Nat} {low many : Int} {M : NatM} {F : List Ent} (h : NatT B w g low many M F) (hb : B' ≤ B) : NatT B' w g low many M F := by
  obtain ⟨h1, mp, mq, e1, c1, e2, c2, m1, m2, hs⟩ := h
  exact ⟨h1, mp, mq, e1, c1, e2, c2, m1, m2, hs.mono hb⟩
end Go.Proofs.YtnmddgjgmdegoaaDoor
