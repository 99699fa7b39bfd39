/- Which of two routes is first: the closure of (*lpm.Table).Routes; a list that is sorted stays as it is. -/
import Derived.Test.YtbcfcjecobihnaaDoorCmpOr
import Derived.Test.YtbcfcjecobihnaaDoorLpmPlain
import Derived.Test.YtbcfcjecobihnaaDoorShRte
namespace Go.Proofs.YtbcfcjecobihnaaDoor
open Go.RowKit Go.Lib Go.Sort
set_option linter.unusedVariables false
set_option maxRecDepth 100000

def rteL (x : Rte) : List Value := [.int .i64 x.1, .int .i64 x.2.1, .int .i64 x.2.2]
def cfR (x y : Rte) : Int := or2 (cmpI x.1 y.1) (cmpI x.2.1 y.2.1)
theorem ltR_cf (x y : Rte) : ltOf cfR x y = decide (ltR x y) := by
  unfold ltOf
  rw [decide_eq_decide]
  unfold cfR or2 cmpI ltR
  constructor
  · intro h
    split at h <;> split at h <;> (try split at h) <;> (try split at h) <;> omega
  · intro h
    split <;> split <;> (try split) <;> (try split) <;> omega
theorem swoR : SWO (ltOf cfR) where
  irrefl x := by rw [ltR_cf]; exact decide_eq_false (by unfold ltR; omega)
  trans x y z h1 h2 := by
    rw [ltR_cf] at h1 h2 ⊢
    have k1 := of_decide_eq_true h1
    have k2 := of_decide_eq_true h2
    refine decide_eq_true ?_
    unfold ltR at *
    omega
  ntrans x y z h1 h2 := by
    rw [ltR_cf] at h1 h2 ⊢
    have k1 := of_decide_eq_false h1
    have k2 := of_decide_eq_false h2
    refine decide_eq_false ?_
    unfold ltR at *
    omega
theorem sorted_same {L : List Rte} (hs : SrtR L) (d' : Array Rte) (hp : PermIn 0 L.toArray.size L.toArray d') (ho : SortedIn (ltOf cfR) 0 L.toArray.size d') : d' = L.toArray := by
  obtain ⟨h1, -, h3⟩ := hp
  have h4 : d'.toList.Perm L := by
    have e1 : d'.extract 0 L.toArray.size = d' := by rw [← h1]; simp
    have e2 : L.toArray.extract 0 L.toArray.size = L.toArray := by simp
    rw [e1, e2] at h3
    exact h3
  have h5 : d'.toList.Pairwise fun x y : Rte => ¬ (x.1 = y.1 ∧ x.2.1 = y.2.1) := by
    refine (h4.pairwise_iff (fun {x y} h e => h ⟨e.1.symm, e.2.symm⟩)).2 (hs.imp ?_)
    intro x y h e
    unfold ltR at h
    omega
  have h6 : SrtR d'.toList := by
    refine List.pairwise_iff_getElem.2 fun i j hi hj hij => ?_
    have h7 := List.pairwise_iff_getElem.1 h5 i j hi hj hij
    have hj' : j < d'.size := by simpa using hj
    have hi' : i < d'.size := by simpa using hi
    have h8 := ho i j (Nat.zero_le _) hij (by rw [← h1]; exact hj')
    rw [ltR_cf] at h8
    have e1 : d'[i]! = d'.toList[i] := by simp [hi']
    have e2 : d'[j]! = d'.toList[j] := by simp [hj']
    rw [e1, e2] at h8
    have h9 := of_decide_eq_false h8
    unfold ltR at h9 ⊢
    omega
  have h10 := srtR_uniq h6 hs (fun x => h4.mem_iff)
  rw [← h10]
set_option maxHeartbeats 2000000 in
theorem rtcmp_any (x y : Rte) (w : World) :
    Calls Tryd.prog 27 #[.agg (rteL x).toArray, .agg (rteL y).toArray] w fun e w' => e = .returned (.int .i64 (cfR x y)) ∧ ∃ q os', w' = grow (w.drewN q) os' := by
  obtain ⟨a0, a1, a2⟩ := x
  obtain ⟨b0, b1, b2⟩ := y
  unfold rteL cfR
  simp only
  obtain ⟨g, hg⟩ : ∃ g, g = w.heap.size := ⟨_, rfl⟩
  have s1 := Sep.blkNew (Sep.nil w.heap.size w) (Nat.le_refl _) #[.int .i64 a0, .int .i64 a1, .int .i64 a2] 36
  have z1 : (w.alloc (.cells #[.int .i64 a0, .int .i64 a1, .int .i64 a2] 36)).heap.size = w.heap.size + 1 := by simp
  have s2 := Sep.blkNew s1 (by omega) #[.int .i64 b0, .int .i64 b1, .int .i64 b2] 36
  rw [z1, ← hg] at s2
  have hgr : ∃ os, (w.alloc (.cells #[.int .i64 a0, .int .i64 a1, .int .i64 a2] 36)).alloc (.cells #[.int .i64 b0, .int .i64 b1, .int .i64 b2] 36) = grow w os := ⟨_, by rw [alloc_eq_grow, alloc_eq_grow, grow_grow]⟩
  have HS2 := Lib.hid s2
  have HG := Lib.hid hg
  have HGR := Lib.hid hgr
  clear s1 z1 s2 hgr
  change Calls _ _ #[.agg #[.int .i64 a0, .int .i64 a1, .int .i64 a2], .agg #[.int .i64 b0, .int .i64 b1, .int .i64 b2]] _ _
  go_enter Tryd.func27, Tryd.ntmps27
  go_upto_region 1 with fail
  rw [← hg]
  clear hg
  generalize (w.alloc (.cells #[.int .i64 (a0 : Int), .int .i64 (a1 : Int), .int .i64 (a2 : Int)] 36)).alloc (.cells #[.int .i64 (b0 : Int), .int .i64 (b1 : Int), .int .i64 (b2 : Int)] 36) = w2 at *
  obtain ⟨p0, _⟩ := Sep.blkAt (A := [_]) HS2.out (j := 0) rfl
  obtain ⟨p2, _⟩ := Sep.blkAt (A := [_]) HS2.out (j := 1) rfl
  obtain ⟨q0, _⟩ := Sep.blkAt (A := []) HS2.out (j := 0) rfl
  obtain ⟨q2, _⟩ := Sep.blkAt (A := []) HS2.out (j := 1) rfl
  have his : IntSl (w2.heap.size + 1) (w2.alloc (.cells #[.int .i64 (cmpI a0 b0), .int .i64 (cmpI a1 b1)] 3)).drew (some ⟨w2.heap.size, 0, none⟩) [cmpI a0 b0, cmpI a1 b1] :=
    (intSl_new w2 #[.int .i64 (cmpI a0 b0), .int .i64 (cmpI a1 b1)] 3 [cmpI a0 b0, cmpI a1 b1] rfl).below (below_drew _ _)
  have HIS := Lib.hid his; clear his
  go_region_held3 (fun w' => w'.cell? ⟨g, 0, none⟩ = some (.int .i64 a0) ∧ w'.cell? ⟨g, 1, none⟩ = some (.int .i64 a1) ∧ w'.cell? ⟨g + 1, 0, none⟩ = some (.int .i64 b0) ∧ w'.cell? ⟨g + 1, 1, none⟩ = some (.int .i64 b1))
    (first | exact ⟨p0, p2, q0, q2⟩ | go_keep) (first
    | (go_at_call 29; refine (compare_any _ _ _).mono ?_; rintro e w' ⟨rfl, rfl⟩)
    | (go_at_call 28; refine (or2_any _ (w2.heap.size + 1) (cmpI a0 b0) (cmpI a1 b1) _ ?_).mono ?_; exact HIS.out; rintro e w' ⟨rfl, rfl⟩))
  all_goals
    go_wp2
    go_ret
    refine ⟨rfl, ?_⟩
    obtain ⟨os, ho⟩ := HGR.out
    rw [ho, alloc_eq_grow, grow_grow]
    exact ⟨1, _, rfl⟩
end Go.Proofs.YtbcfcjecobihnaaDoor
