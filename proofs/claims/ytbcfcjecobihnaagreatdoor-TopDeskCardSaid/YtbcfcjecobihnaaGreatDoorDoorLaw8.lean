/- For a tied card of 8 listed variables: from these to what the walk reads; a world that meets the condition. -/
import Derived.Test.YtbcfcjecobihnaaGreatDoorRows
import Derived.Test.YtbcfcjecobihnaaGreatDoorPk9
import Derived.Test.YtbcfcjecobihnaaGreatDoorTold
import Derived.ChangeSame
import Derived.ChangeVars
import Derived.JoinedOf
import Derived.RowKit
import Derived.RowKitTokens
import Derived.LaidLaws
import Derived.LaidHandle
import Derived.Stop.Joined
import Derived.Stop.LaidErr
import Derived.Lib.LaidTab
import Derived.Shelf.Vars
import Derived.Deep.DeepLaidRun
import Derived.Handed
namespace Go.Proofs.YtbcfcjecobihnaaGreatDoor
open Go.ChangeShapes Go.WideShapes Go.RowKit

/-- The wrap of a law, its first world's shape kept. -/
theorem lift_shaped {H : Type} {enc : TypeId × Value → H} {a : Assume} {C : Checked} {os : Os} {f : FuncId} {fn : Func} {s : ChangeSpec} {conds : List PathCond} {apart fresh handsOn again : Bool} {X : World → Array Value → Prop}
    (hX : ∀ (w w' : World) (args : Array Value), w.heap = w'.heap → X w args → X w' args)
    (own : ownKnob C.prog.godebug = none) (started : os.Started) (noInit : C.prog.inits.idxOf? f = none) (hfn : C.prog.funcs[f]? = some fn)
    (witness : ∃ (w : World) (tape : Tape) (i : Input), w.os = os ∧ (w.forCall tape i).Shaped C.prog ∧ i.vars = [] ∧ Input.okWide C.prog (w.forCall tape i) .any w.heap.size f i ∧
      ((s.pre enc C.prog fn conds apart (w.forCall tape i).memory i.args ∧ X (w.forCall tape i).memory i.args) ∧ sizedMet enc C.prog fn (OpenSpec.ofChange s) apart (w.forCall tape i).memory i.args) ∧ a.holds C.prog (lone (Frame.enter C.prog f i.args .normal) [] (w.forCall tape i)))
    (contract : ∀ (W : World) (base : Nat) (args : Array Value) (ds gs : List (DataW H)) (before : List MemPlace),
      (∀ (j : Nat) t v, fn.params[j]? = some t → args[j]? = some v → Value.okWide C.prog W .any base t v) →
      DataW.Whole enc C.prog fn.params.toList s.vars apart W args.toList ds gs before →
      conds.all (PathCond.test C.prog ⟨fn.params.toList, ds, s.plain.varTypes C.prog, gs⟩) = true →
      (DataW.weightsEach C.prog (fn.params.toList ++ s.plain.varTypes C.prog) (ds ++ gs)).all (· ≤ reachBytes) = true → X W args → W.ShapedOpen C.prog →
      Calls C.prog f args W fun e W' => ∃ v, e = .returned v ∧ s.post enc C.prog fn apart fresh handsOn again W args v W') :
    ReturnsInHanded a C os f .any (fun w args => (s.pre enc C.prog fn conds apart w args ∧ X w args) ∧ sizedMet enc C.prog fn (OpenSpec.ofChange s) apart w args) (s.post enc C.prog fn apart fresh handsOn again) := by
  refine returnsInHanded_of_calls own started noInit witness ?_
  intro w tape i _ hshape _ hok hpre _
  obtain ⟨_, _, _, g, hg, _, _, _, _, hval⟩ := hok
  obtain rfl : g = fn := Option.some.inj (hg.symm.trans hfn)
  obtain ⟨⟨⟨ds, gs, before, h1, h2⟩, h3⟩, h4⟩ := hpre
  refine (contract (w.forCall tape i) w.heap.size i.args ds gs before hval (h1.of_heap (w' := w.forCall tape i) (by rfl)) h2 (h4.weights h1) (hX _ _ _ (by rfl) h3) hshape).mono ?_
  rintro e W' ⟨v, rfl, hp⟩
  exact ChangeSpec.post_blind hp

theorem laid_iface {P : Program} {n nm : String} {d : DataW Unit} {r : List (String × DataW Unit)} {W : World} {g : Nat} {ti : TypeId} {ms : Array (String × TypeId)}
    (h : laidMet P ((n, .iface nm d) :: r) W) (hg : P.globalNamed n = some g) (ht : (P.globals[g]?).map (·.type) = some ti) (hi : P.underlying ti = some (.interface ms)) :
    ∃ t p, W.cell? ⟨g, 0, none⟩ = some (.iface t p) := by
  obtain ⟨ps, ⟨g0, t0, cs0, f0, p0, q0, hg0, ht0, hv0, hd0, _, e0⟩, _, _⟩ := h
  obtain rfl := Option.some.inj (hg.symm.trans hg0)
  obtain rfl := Option.some.inj (ht.symm.trans ht0)
  obtain ⟨l0⟩ := cs0
  obtain ⟨f1, u, v, e, -, -⟩ := iface_of_trod hi hd0
  have e' : l0 = [.iface u v] := e
  subst e'
  exact ⟨u, v, by simpa using World.var?_cell hg0 hv0 0⟩

def Door8 (w : World) : Prop := Door w ∧ LibT w
def plainLaid : List (String × DataW Unit) := [("math/bits.deBruijn32tab", Rows.laid_math_bits_deBruijn32tab), ("math/bits.deBruijn64tab", Rows.laid_math_bits_deBruijn64tab), ("internal/strconv.uint64pow10", Rows.laid_internal_strconv_uint64pow10), ("unicode/utf8.acceptRanges", Rows.laid_unicode_utf8_acceptRanges), ("strconv.ErrRange", Rows.laid_strconv_ErrRange), ("strconv.ErrSyntax", Rows.laid_strconv_ErrSyntax), ("unicode/utf8.first", Rows.laid_unicode_utf8_first)]
def doorLaid : List (String × DataW Unit) := [("math/bits.deBruijn32tab", Rows.laid_math_bits_deBruijn32tab), ("math/bits.deBruijn64tab", Rows.laid_math_bits_deBruijn64tab), ("internal/strconv.uint64pow10", Rows.laid_internal_strconv_uint64pow10), ("unicode/utf8.acceptRanges", Rows.laid_unicode_utf8_acceptRanges), ("errors.errorType", Rows.laid_errors_errorType), ("strconv.ErrRange", Rows.laid_strconv_ErrRange), ("strconv.ErrSyntax", Rows.laid_strconv_ErrSyntax), ("unicode/utf8.first", Rows.laid_unicode_utf8_first)]
theorem door_et : Tryz.prog.globalNamed "errors.errorType" = some 0 := by kernel_rfl
theorem door_rt : (Tryz.prog.cutTypes.find? (·.1 == "internal/reflectlite.rtype")).map (·.2) = some 163 := by kernel_rfl
theorem door_oneRow : ((List.range 246).filter fun t => Tryz.prog.rowNamed t [101, 114, 114, 111, 114]) = [28] := by kernel_rfl
theorem door_size : Tryz.prog.types.size = 246 := by kernel_rfl
theorem pow_datum : (Rows.laid_internal_strconv_uint64pow10 : DataW Unit) = Lib.tabData .u64 Lib.pow10Tab := by kernel_rfl
theorem max_of_shaped {W : World} (h : W.ShapedOpen Tryz.prog) : ∃ m : Int, W.cell? ⟨1, 0, none⟩ = some (.int .i64 m) :=
  cell_of_shapedOpen_int (t := 3) (zero := #[.int .i64 0]) (k := .i64) h (of_decide_eq_true (by kernel_rfl)) (by kernel_rfl) rfl (by kernel_rfl) (by kernel_rfl) Tryz.underlying3
theorem lib_of_laid {W : World} (h' : laidMet Tryz.prog plainLaid W) (hs : W.ShapedOpen Tryz.prog) : LibT W := by
  have h2 := (h'.tail).tail
  have h3 := ((h2.tail).tail).tail
  refine ⟨?_, ⟨?_, ?_⟩, max_of_shaped hs⟩
  · rw [pow_datum] at h2
    exact Lib.tabIs_of_head pow_named (t := 205) (e := 151) (n := 20) (by kernel_rfl) (by kernel_rfl) (by kernel_rfl) (by kernel_rfl) (by kernel_rfl) h2
  · exact laid_iface (n := "strconv.ErrSyntax") (ti := 28) h3 (by kernel_rfl) (by kernel_rfl) Tryz.underlying28
  · exact laid_iface (n := "strconv.ErrRange") (ti := 28) (h2.tail).tail (by kernel_rfl) (by kernel_rfl) Tryz.underlying28
theorem door_of_laid {W : World} (h : laidMetH Tryz.prog doorLaid W) (hs : W.ShapedOpen Tryz.prog) : Door8 W := by
  have h' : laidMet Tryz.prog plainLaid W ∧ handlesMet Tryz.prog [("errors.errorType", Rows.laid_errors_errorType)] W := h
  refine ⟨?_, lib_of_laid h'.1 hs⟩
  obtain ⟨name, u, ty, e1, e2, e3, e4, e5⟩ := h'.2 _ (List.mem_singleton.2 rfl)
  have en : name = [101, 114, 114, 111, 114] := (Option.some.inj e1).symm
  subst en
  obtain rfl := Option.some.inj (door_rt.symm.trans e2)
  have hm : ty ∈ (List.range 246).filter fun t => Tryz.prog.rowNamed t [101, 114, 114, 111, 114] := List.mem_filter.2 ⟨List.mem_range.2 (by rw [← door_size]; exact e3), e4⟩
  rw [door_oneRow] at hm
  obtain rfl := List.mem_singleton.1 hm
  have hh : typeHandle Tryz.prog 28 = .pointer (some ⟨9, 28, none⟩) := by kernel_rfl
  rw [hh] at e5
  unfold Door
  simpa using World.var?_cell door_et e5 0

def litCells {H : Type} (x : DataW H) : List Value := match x with | .lit (.int k z) => [Value.int k z] | .agg ys => ys.map (fun y => match y with | .lit (.int k z) => Value.int k z | _ => undef) | _ => [undef]
def tabCells {H : Type} (d : DataW H) : Array Value := match d with
  | .agg xs => (xs.flatMap litCells).toArray
  | _ => #[]
def errText {H : Type} (d : DataW H) : List UInt8 := match d with
  | .iface _ (.ptr (.agg [.lit (.string t)])) => t
  | _ => []
/-- A world that meets the condition: the settled one, the variables' cells laid. -/
noncomputable def laidWorld (os : Os) : World :=
  let w0 := World.holding Tryz.prog os ⟨#[], #[], []⟩
  let n := w0.heap.size
  let lay := fun (cs : Array Value) (o : Obj) => match o with
    | .cells _ t frozen => Obj.cells cs t frozen
    | o => o
  { w0 with heap := ((((((((((w0.heap.modify 7 (lay (tabCells (Rows.laid_math_bits_deBruijn32tab : DataW Unit)))).modify 8 (lay (tabCells (Rows.laid_math_bits_deBruijn64tab : DataW Unit)))).modify 4 (lay (tabCells (Rows.laid_internal_strconv_uint64pow10 : DataW Unit)))).modify 6 (lay (tabCells (Rows.laid_unicode_utf8_acceptRanges : DataW Unit)))).modify 3 (lay #[.iface 208 (.pointer (some ⟨n, 0, none⟩))])).modify 2 (lay #[.iface 208 (.pointer (some ⟨n + 1, 0, none⟩))])).modify 5 (lay (tabCells (Rows.laid_unicode_utf8_first : DataW Unit)))).modify 0 (lay #[.iface 163 (.agg #[.pointer (some ⟨9, 28, none⟩)])]))).push (.cells #[.string ⟨(errText (Rows.laid_strconv_ErrRange : DataW Unit)).toArray⟩] 210)).push (.cells #[.string ⟨(errText (Rows.laid_strconv_ErrSyntax : DataW Unit)).toArray⟩] 210) }
theorem laidWorld_met (os : Os) (args : Array Value) : laidMetH Tryz.prog doorLaid ((laidWorld os).forCall (fun _ _ => 0) ⟨#[], args, []⟩).memory :=
  laidMetH_of_parts (show laidMet Tryz.prog plainLaid _ from laidMet_of_run3 8 (by kernel_rfl) (by kernel_rfl) (by kernel_rfl)) (by kernel_rfl)
theorem laidWorld_shaped (os : Os) (args : Array Value) : ((laidWorld os).forCall (fun _ _ => 0) ⟨#[], args, []⟩).Shaped Tryz.prog := World.shaped_of_RefB (by kernel_rfl) (by kernel_rfl)
end Go.Proofs.YtbcfcjecobihnaaGreatDoor
