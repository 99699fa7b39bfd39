/- The queues in a row, each with its own numbers: Push, Len, First, Pop at one of them. -/
import Derived.Test.YtpfpaheafpibiaaQueueInt
import Derived.StillTailTactics
namespace Go.Proofs.Ytpfpaheafpibiaa
open Go.RowKit
set_option linter.unusedVariables false
set_option maxRecDepth 100000

/-- A thing that owns nothing. -/
def Ent.free (P : Prop) : Ent := ⟨none, fun _ => P⟩
theorem Sep.addFree {B : Nat} {w : World} {L : List Ent} {P : Prop} (h : Sep B w L) (hp : P) : Sep B w (Ent.free P :: L) := by
  refine ⟨fun F hF => ?_, List.pairwise_cons.2 ⟨fun F _ g hg => by simp [Ent.free] at hg, h.2⟩⟩
  rcases List.mem_cons.1 hF with rfl | hF
  · exact ⟨hp, fun g hg => by simp [Ent.free] at hg⟩
  · exact h.1 F hF

abbrev Qv := Value × List Int
/-- A queue's numbers: a row of its own; where it is empty, nothing. -/
def quEnt (p : Qv) : Ent := if p.2 = [] then Ent.free (∃ ao c, p.1 = .slice ao 0 c) else Ent.ints 3 p.1 p.2
theorem quEnt_cons (v : Value) (x : Int) (xs : List Int) : quEnt (v, x :: xs) = Ent.ints 3 v (x :: xs) := by simp [quEnt]
theorem quEnt_nil (v : Value) : quEnt (v, []) = Ent.free (∃ ao c, v = .slice ao 0 c) := by simp [quEnt]
def quEnts (qv : List Qv) : List Ent := qv.map quEnt
/-- The row of queues, and each queue's own row. -/
def QSep (B : Nat) (w : World) (A : List Ent) (g n : Nat) (qv : List Qv) : Prop :=
  Sep B w (A ++ (Ent.row (.slice (some ⟨g, 0, none⟩) n n) n 1 50 (qv.map (·.1)) :: quEnts qv))

theorem pull_perm {α : Type} : ∀ (l : List α) (i : Nat) (x : α), l[i]? = some x → l.Perm (x :: l.eraseIdx i)
  | [], i, x, h => by simp at h
  | y :: r, 0, x, h => by simp at h; subst h; simp
  | y :: r, i + 1, x, h => by
    rw [List.getElem?_cons_succ] at h
    rw [List.eraseIdx_cons_succ]
    exact ((pull_perm r i x h).cons y).trans (List.Perm.swap x y _)
theorem erase_set {α : Type} : ∀ (l : List α) (i : Nat) (x : α), (l.set i x).eraseIdx i = l.eraseIdx i
  | [], i, x => by simp
  | y :: r, 0, x => by simp
  | y :: r, i + 1, x => by simp [erase_set r i x]

theorem quEnts_pull {qv : List Qv} {i : Nat} {p : Qv} (hi : qv[i]? = some p) : (quEnts qv).Perm (quEnt p :: quEnts (qv.eraseIdx i)) := (pull_perm qv i p hi).map _
theorem quEnts_put {qv : List Qv} {i : Nat} (hi : i < qv.length) (p : Qv) : (quEnt p :: quEnts (qv.eraseIdx i)).Perm (quEnts (qv.set i p)) := by
  have hs : (qv.set i p)[i]? = some p := List.getElem?_set_self hi
  have h := (quEnts_pull hs).symm
  rwa [erase_set] at h

section
variable {B : Nat} {w : World} {A : List Ent} {g n : Nat} {qv : List Qv} {i : Nat} {v : Value} {xs : List Int}
theorem QSep.pull (h : QSep B w A g n qv) (hi : qv[i]? = some (v, xs)) :
    Sep B w (Ent.row (.slice (some ⟨g, 0, none⟩) n n) n 1 50 (qv.map (·.1)) :: quEnt (v, xs) :: (quEnts (qv.eraseIdx i) ++ A)) := by
  refine Sep.perm h ?_
  refine List.perm_append_comm.trans ?_
  exact List.Perm.cons _ ((quEnts_pull hi).append_right A)
theorem QSep.put {w' : World} {v' : Value} {xs' : List Int} (hi : qv[i]? = some (v, xs))
    (h : Sep B w' (Ent.row (.slice (some ⟨g, 0, none⟩) n n) n 1 50 ((qv.map (·.1)).set i v') :: quEnt (v', xs') :: (quEnts (qv.eraseIdx i) ++ A))) : QSep B w' A g n (qv.set i (v', xs')) := by
  have hl := (List.getElem?_eq_some_iff.1 hi).1
  unfold QSep
  rw [show ((qv.set i (v', xs')).map (·.1)) = (qv.map (·.1)).set i v' by rw [List.map_set]]
  refine Sep.perm h ?_
  refine List.Perm.trans ?_ List.perm_append_comm
  exact List.Perm.cons _ ((quEnts_put hl (v', xs')).append_right A)
theorem QSep.cellAt (hi : qv[i]? = some (v, xs)) : (qv.map (·.1))[i]? = some v := by rw [List.getElem?_map, hi]; rfl
theorem QSep.shape (h : QSep B w A g n qv) (hi : qv[i]? = some (v, xs)) : ∃ ao c, v = .slice ao xs.length c := by
  have h1 := h.pull hi
  cases xs with
  | nil =>
    rw [quEnt_nil] at h1
    exact (Sep.mem (A := [_]) h1).1
  | cons x r =>
    rw [quEnt_cons] at h1
    obtain ⟨ao, c, e, _⟩ := Sep.intsShape (A := [_]) h1
    exact ⟨ao, c, e⟩

theorem qlen_raw (B g off n cap i : Nat) (cs : List Value) (ao : Option Addr) (k c : Nat) (F : List Ent) (w : World) (hi : cs[i]? = some (.slice ao k c)) (hk : k ≤ 1000000)
    (hsep : Sep B w (Ent.row (.slice (some ⟨g, off, none⟩) n cap) n 1 50 cs :: F)) :
    Calls Try.prog 22 #[.pointer (some ⟨g, off + i, none⟩)] w fun e w' => e = .returned (.int .i64 k) ∧ w = w' := by
  obtain ⟨cv, fv⟩ := hsep.rowCell hi
  have HS := Lib.hid hsep; clear hsep hi
  go_enter Try.func22, Try.ntmps22
  go_wp2
  go_ret
  exact ⟨rfl, rfl⟩

theorem qsLen (h : QSep B w A g n qv) (hi : qv[i]? = some (v, xs)) (hl : xs.length ≤ 1000000) :
    Calls Try.prog 22 #[.pointer (some ⟨g, i, none⟩)] w fun e w' => e = .returned (.int .i64 xs.length) ∧ w = w' := by
  obtain ⟨ao, c, rfl⟩ := h.shape hi
  have := qlen_raw B g 0 n n i _ ao xs.length c _ w (QSep.cellAt hi) hl (h.pull hi)
  rwa [Nat.zero_add] at this
theorem qsFirst {x : Int} (h : QSep B w A g n qv) (hi : qv[i]? = some (v, x :: xs)) :
    Calls Try.prog 23 #[.pointer (some ⟨g, i, none⟩)] w fun e w' => e = .returned (.int .i64 x) ∧ w = w' := by
  have h1 := h.pull hi
  rw [quEnt_cons] at h1
  have := qfirst_any B g 0 n n i _ v x xs _ w (QSep.cellAt hi) h1
  rwa [Nat.zero_add] at this
/-- Push onto a queue that has some, or is nil. -/
theorem qsPush (x : Int) (h : QSep B w A g n qv) (hi : qv[i]? = some (v, xs)) (hn : xs = [] → v = .slice none 0 0) (hl : xs.length ≤ 1000000) (hB : B ≤ w.heap.size) :
    Calls Try.prog 21 #[.pointer (some ⟨g, i, none⟩), .int .i64 x] w fun e w' => e = .returned (.tuple #[]) ∧ ∃ v', QSep B w' A g n (qv.set i (v', xs ++ [x])) ∧ Below B w w' := by
  have h1 := h.pull hi
  have h2 : Sep B w (Ent.row (.slice (some ⟨g, 0, none⟩) n n) n 1 50 (qv.map (·.1)) :: Ent.ints 3 v xs :: (quEnts (qv.eraseIdx i) ++ A)) := by
    cases xs with
    | nil =>
      rw [hn rfl] at h1 ⊢
      have h3 := (h1.sub (List.Sublist.cons_cons _ (List.sublist_cons_self _ _))).intsNil 3
      exact h3.perm (List.Perm.swap _ _ _)
    | cons y r => rwa [quEnt_cons] at h1
  have := qpush_any B g 0 n n i _ v x xs _ w (QSep.cellAt hi) hl hB h2
  rw [Nat.zero_add] at this
  refine this.mono ?_
  rintro e w' ⟨rfl, ⟨v', hs⟩, hb⟩
  refine ⟨rfl, v', QSep.put hi ?_, hb⟩
  rw [show quEnt (v', xs ++ [x]) = Ent.ints 3 v' (xs ++ [x]) by simp [quEnt]]
  exact hs
end

theorem run_cut1 (w : World) (ao : Option Addr) (len cap : Nat) (h1 : 1 ≤ len) : (Instr.sliceAt 24 (.slice ao len cap) (some (.int .i64 1)) none none).run Try.prog w = .ok (.slice (cutAddr ao cap 1 1) (len - 1) (cap - 1)) w := by
  obtain ⟨ht, ⟨i, hi, hz, hs, _⟩, hzs, hsz⟩ := elemInt9
  have hk' : (0 : Int) ≤ (1 : Int) ∧ (1 : Int) ≤ (len : Int) := by omega
  simp [Instr.sliceAt, Instr.slice, run_underlying ht, Instr.sliceBounds, Instr.sliceBound, asIntOf, sizeOf, typeInfo, hi, cutAddr, hs]
  intro h; omega

theorem qpop_any (B g off n cap i : Nat) (cs : List Value) (v : Value) (x : Int) (xs : List Int) (F : List Ent) (w : World) (hi : cs[i]? = some v) (hl : xs.length ≤ 1000000)
    (hsep : Sep B w (Ent.row (.slice (some ⟨g, off, none⟩) n cap) n 1 50 cs :: Ent.ints 3 v (x :: xs) :: F)) :
    Calls Try.prog 24 #[.pointer (some ⟨g, off + i, none⟩)] w fun e w' => e = .returned (.tuple #[.int .i64 x, .bool true]) ∧
      (∃ v', Sep B w' (Ent.row (.slice (some ⟨g, off, none⟩) n cap) n 1 50 (cs.set i v') :: quEnt (v', xs) :: F)) ∧ Below B w w' := by
  obtain ⟨ao, c, rfl, hc, _⟩ := Sep.intsShape (A := [_]) hsep
  obtain ⟨cv, fv⟩ := hsep.rowCell hi
  obtain ⟨b, o, rfl, c0, _⟩ := Sep.intsAt (A := [_]) hsep (j := 0) (x := x) rfl
  have hBg : B ≤ g := (Sep.rowBlk (A := []) hsep).1
  simp only [List.length_cons] at hc cv
  have hne : ((xs.length : Int) + 1 == 0) = false := by simp; omega
  have hcut := fun W : World => run_cut1 W (some ⟨b, o, none⟩) (xs.length + 1) c (by omega)
  simp only [Nat.add_sub_cancel] at hcut
  obtain ⟨ca, hca⟩ : ∃ ca, ca = cutAddr (some ⟨b, o, none⟩) c 1 1 := ⟨_, rfl⟩
  obtain ⟨c', hc'⟩ : ∃ c', c' = c - 1 := ⟨_, rfl⟩
  rw [← hca, ← hc'] at hcut
  have HCA := Lib.hid hca; clear hca
  have HC' := Lib.hid hc'; clear hc'
  have HI := Lib.hid hi; clear hi
  have HS := Lib.hid hsep; clear hsep
  simp only [Nat.add_zero] at c0
  go_enter Try.func24, Try.ntmps24
  go_wp2
  go_still_tail 15, (by kernel_rfl)
  change wpList _ _ _ _ _ w.drew
  have HSD := Lib.hid HS.out.drew
  have HBD := Lib.hid (below_drew B w)
  change w.drew.cell? _ = _ at cv
  change w.drew.frozen? _ = _ at fv
  generalize w.drew = wd at *
  have hset := Sep.rowSet (A := []) HSD.out i (.slice ca xs.length c')
  have hbs := HBD.out.setCell (p := ⟨g, off + i, none⟩) hBg (.slice ca xs.length c')
  have HSET := Lib.hid hset; clear hset
  have HBS := Lib.hid hbs; clear hbs
  go_wp2
  go_ret2
  refine ⟨rfl, ⟨.slice ca xs.length c', ?_⟩, HBS.out⟩
  have hs := HSET.out
  cases xs with
  | nil =>
    have h1 := (hs.sub (List.Sublist.cons_cons _ (List.sublist_cons_self _ _))).addFree (P := ∃ ao c, Value.slice ca 0 c' = .slice ao 0 c) ⟨ca, c', rfl⟩
    rw [quEnt_nil]
    exact h1.perm (List.Perm.swap _ _ _)
  | cons y r =>
    have h1 := Sep.rowCut (A := [_]) hs 1 (r.length + 1) c' (by simp; omega) (by have := HC'.out; simp at hc; omega)
    have e : ca = some ⟨b, o + 1 * 1, none⟩ := by
      rw [HCA.out]; unfold cutAddr
      rw [if_neg (by simp at hc; omega)]
      simp [Addr.add]
    rw [e] at h1
    rw [quEnt_cons, e]
    exact h1

theorem qsPop {B : Nat} {w : World} {A : List Ent} {g n : Nat} {qv : List Qv} {i : Nat} {v : Value} {x : Int} {xs : List Int} (h : QSep B w A g n qv) (hi : qv[i]? = some (v, x :: xs)) (hl : xs.length ≤ 1000000) :
    Calls Try.prog 24 #[.pointer (some ⟨g, i, none⟩)] w fun e w' => e = .returned (.tuple #[.int .i64 x, .bool true]) ∧ ∃ v', QSep B w' A g n (qv.set i (v', xs)) ∧ Below B w w' := by
  have h1 := h.pull hi
  rw [quEnt_cons] at h1
  have := qpop_any B g 0 n n i _ v x xs _ w (QSep.cellAt hi) hl h1
  rw [Nat.zero_add] at this
  refine this.mono ?_
  rintro e w' ⟨rfl, ⟨v', hs⟩, hb⟩
  exact ⟨rfl, v', QSep.put hi hs, hb⟩
end Go.Proofs.Ytpfpaheafpibiaa
