/- One link for all: what Share gives; a closed case. -/
import Derived.Test.YtciolkmhafdlpaaMaxShare
import Derived.Test.YtciolkmhafdlpaaRws
import Derived.Test.YtciolkmhafdlpaaStp
namespace Go.Proofs.Ytciolkmhafdlpaa
open Go.RowKit
set_option linter.unusedVariables false

theorem oneWay {ws : List (List Int)} (h : ∀ w ∈ ws, w = [0]) {i : Nat} (hi : i < ws.length) : wayOf ws i = [0] := by
  rw [wayOf_get (List.getElem?_eq_getElem hi), h _ (List.getElem_mem hi)]; rfl
theorem oneOk {r : Int} {ws : List (List Int)} (h : ∀ w ∈ ws, w = [0]) (h5 : ws.length ≤ 5) (h0 : 0 ≤ r) (h1 : r ≤ 1000) : MmOk [r] ws :=
  ⟨by simp, h5, by simp; exact ⟨h0, h1⟩, fun w hw => by rw [h w hw]; simp⟩
theorem oneOut {r : Int} {ws : List (List Int)} (h : ∀ w ∈ ws, w = [0]) (hn : 0 < ws.length) (h5 : ws.length ≤ 5) (h0 : 0 ≤ r) (h1 : r ≤ 1000) : mmOut [r] ws = arr (fun _ => r / (ws.length : Int)) ws.length := by
  have hok := oneOk h h5 h0 h1
  have hend := mmShare_end h5 hok.wok hok.room_bd
  unfold mmOut
  refine arr_congr fun i hi => ?_
  obtain ⟨n, hnn⟩ : ∃ n, n = ws.length := ⟨_, rfl⟩
  have hsame : ∀ j, j < ws.length → (mmShare ws.length (wayOf ws) (roomOf [r])).out j = (mmShare ws.length (wayOf ws) (roomOf [r])).out i := fun j hj =>
    mmShare_same fun x => by rw [oneWay h hi, oneWay h hj]
  obtain ⟨t, ht⟩ : ∃ t, t = (mmShare ws.length (wayOf ws) (roomOf [r])).out i := ⟨_, rfl⟩
  have hl := hend.left 0 (by simp)
  have hnn0 := hend.nn 0 (by simp)
  obtain ⟨x, hx, hlt, _⟩ := hend.neck i hi
  rw [oneWay h hi] at hx
  obtain rfl : x = 0 := by simpa using hx
  have e1 : psum (fun i => (mmShare ws.length (wayOf ws) (roomOf [r])).out i * (wayOf ws i).count 0) ws.length = ws.length * t := by
    rw [psum_congr (g := fun _ => t) (fun j hj => by rw [hsame j hj, ← ht, oneWay h hj]; simp)]
    have : ∀ k, psum (fun _ => t) k = k * t := fun k => by
      induction k with
      | zero => simp [psum]
      | succ k ih => rw [psum, ih, Nat.add_mul]; omega
    exact this _
  have e2 : many ws.length (wayOf ws) 0 = ws.length := by
    unfold many
    rw [psum_congr (g := fun _ => 1) (fun j hj => by rw [oneWay h hj]; simp)]
    have : ∀ k, psum (fun _ => 1) k = k := fun k => by
      induction k with
      | zero => simp [psum]
      | succ k ih => rw [psum, ih]
    exact this _
  rw [e1] at hl
  rw [e2] at hlt
  rw [← ht]
  have hr : roomOf [r] 0 = r := rfl
  rw [hr] at hl
  generalize (mmShare ws.length (wayOf ws) (roomOf [r])).L 0 = y at *
  rw [← hnn] at hl hlt hn ⊢
  have h3 : r = y + (n : Int) * (t : Int) := by rw [hl]; simp
  rw [h3, Int.add_mul_ediv_left _ _ (by omega), Int.ediv_eq_zero_of_lt (by omega) (by omega)]
  omega

/-- [7], [[0], [0]]. -/
def W4 (w : World) : World := (((w.alloc (.cells #[.int .i64 7] 3)).alloc (.cells #[.int .i64 0] 3)).alloc (.cells #[.int .i64 0] 3)).alloc (.cells #[.slice (some ⟨w.heap.size + 1, 0, none⟩) 1 1, .slice (some ⟨w.heap.size + 1 + 1, 0, none⟩) 1 1] 22)
theorem topFact_any (w : World) : Calls Try.prog 12 #[.slice (some ⟨w.heap.size, 0, none⟩) 1 1, .slice (some ⟨w.heap.size + 1 + 1 + 1, 0, none⟩) 2 2] (W4 w) fun e w' => ∃ va, e = .returned (.tuple #[va, .nilIface]) ∧ Sep w.heap.size w' [Ent.ints 3 va [3, 3]] ∧ Below w.heap.size w w' := by
  have s1 := Sep.blkNew (Sep.nil w.heap.size w) (Nat.le_refl _) #[.int .i64 7] 3
  have b1 := below_alloc w (.cells #[.int .i64 7] 3)
  have z1 : (w.alloc (.cells #[.int .i64 7] 3)).heap.size = w.heap.size + 1 := by simp
  have s2 := Sep.blkNew s1 (by omega) #[.int .i64 0] 3
  have b2 := b1.alloc (by omega) (.cells #[.int .i64 0] 3)
  have z2 : ((w.alloc (.cells #[.int .i64 7] 3)).alloc (.cells #[.int .i64 0] 3)).heap.size = w.heap.size + 1 + 1 := by simp
  have s3 := Sep.blkNew s2 (by omega) #[.int .i64 0] 3
  have b3 := b2.alloc (by omega) (.cells #[.int .i64 0] 3)
  have z3 : (((w.alloc (.cells #[.int .i64 7] 3)).alloc (.cells #[.int .i64 0] 3)).alloc (.cells #[.int .i64 0] 3)).heap.size = w.heap.size + 1 + 1 + 1 := by simp
  have s4 := Sep.blkNew s3 (by omega) #[.slice (some ⟨w.heap.size + 1, 0, none⟩) 1 1, .slice (some ⟨w.heap.size + 1 + 1, 0, none⟩) 1 1] 22
  have b4 := b3.alloc (by omega) (.cells #[.slice (some ⟨w.heap.size + 1, 0, none⟩) 1 1, .slice (some ⟨w.heap.size + 1 + 1, 0, none⟩) 1 1] 22)
  rw [z1, z2, z3] at s4
  change Sep w.heap.size (W4 w) _ at s4
  change Below w.heap.size w (W4 w) at b4
  have hM : IntSl (W4 w).heap.size (W4 w) (some ⟨w.heap.size, 0, none⟩) [7] := Sep.blkInts (A := [_, _, _]) (C := []) s4
  have hR : RowSl (W4 w).heap.size (W4 w) (some ⟨w.heap.size + 1 + 1 + 1, 0, none⟩) 1 ([(w.heap.size + 1, [0]), (w.heap.size + 1 + 1, [0])].map stpOf |>.map stpC) := Sep.blkRows (A := []) (C := [_, _, _]) s4
  have s5 : Sep w.heap.size (W4 w) ([_] ++ [(w.heap.size + 1, [0]), (w.heap.size + 1 + 1, [0])].map blkOf) := s4.perm (L' := _ :: [blkOf (w.heap.size + 1, [0]), blkOf (w.heap.size + 1 + 1, [0])] ++ [_]) (List.Perm.cons _ (List.Perm.swap _ _ _)) |>.sub (List.sublist_append_left _ _)
  have hS := s5.blksOk (by intro b hb; simp at hb; rcases hb with rfl | rfl <;> simp [maxLen])
  have hout : mmOut [7] (rowsOf ([(w.heap.size + 1, [0]), (w.heap.size + 1 + 1, [0])].map stpOf)) = [3, 3] := by
    rw [show rowsOf ([(w.heap.size + 1, [0]), (w.heap.size + 1 + 1, [0])].map stpOf) = [[0], [0]] from rfl, oneOut (by simp) (by simp) (by simp) (by decide) (by decide)]
    decide
  have hcall := mmShare_ok (some ⟨w.heap.size, 0, none⟩) 1 1 [7] _ 2 2 (W4 w).heap.size _ (W4 w) hM rfl hR hS rfl (Nat.le_refl _) (oneOk (by simp [rowsOf, stpOf]) (by simp [rowsOf]) (by decide) (by decide))
  refine hcall.mono ?_
  rintro e w5 ⟨va, rfl, hs, hb⟩
  rw [hout] at hs
  exact ⟨va, rfl, hs.mono b4.size, b4.trans (hb.mono b4.size)⟩
end Go.Proofs.Ytciolkmhafdlpaa
