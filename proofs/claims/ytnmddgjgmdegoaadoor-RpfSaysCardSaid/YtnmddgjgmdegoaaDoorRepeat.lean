/- slices.Repeat of a slice of one number: a new row of n such numbers (n from 1 to 8). -/
import Derived.Test.YtnmddgjgmdegoaaDoorRows
import Derived.Test.YtnmddgjgmdegoaaDoorBase
import Derived.Test.YtnmddgjgmdegoaaDoorRow2
import Derived.Test.YtnmddgjgmdegoaaDoorElem
import Derived.Laws.IdiomCopy
import Derived.Lib.SlBuf
import Derived.StillTailTactics
import Derived.Laws.Bits64b
namespace Go.Proofs.YtnmddgjgmdegoaaDoor
open Go.RowKit
set_option linter.unusedVariables false

section
variable {B : Nat} {w : World} {A C : List Ent} {n : Nat} {e : TypeId} {g off cap : Nat}
/-- Cells that are stored one behind another into a row. -/
theorem Sep.rowPut : ∀ (news : List Value) (k : Nat) (xs : List Value) (w : World), Sep B w (A ++ Ent.row (.slice (some ⟨g, off, none⟩) n cap) n 1 e xs :: C) → k + news.length ≤ n →
    Sep B (w.setCells g (off + k) news) (A ++ Ent.row (.slice (some ⟨g, off, none⟩) n cap) n 1 e (xs.take k ++ news ++ xs.drop (k + news.length)) :: C)
  | [], k, xs, w, h, _ => by simpa [World.setCells] using h
  | v :: vs, k, xs, w, h, hl => by
    simp only [List.length_cons] at hl
    have hxl : xs.length = n * 1 := h.mem.1.1
    have h1 := Sep.rowPut vs (k + 1) (xs.set k v) _ (h.rowSet k v) (by omega)
    have e1 : (xs.set k v).take (k + 1) ++ vs ++ (xs.set k v).drop (k + 1 + vs.length) = xs.take k ++ (v :: vs) ++ xs.drop (k + (v :: vs).length) := by
      rw [List.take_add_one, List.take_set_of_le (Nat.le_refl _), List.getElem?_set_self (by omega), List.drop_set_of_lt (by omega)]
      simp only [Option.toList_some, List.append_assoc, List.length_cons, List.cons_append, List.nil_append]
      rw [show k + (vs.length + 1) = k + 1 + vs.length by omega]
    rw [e1] at h1
    exact h1
end

theorem repl_put {α : Type} (z o : α) (j m n : Nat) (hn : j + m ≤ n) :
    (List.replicate j z ++ List.replicate (n - j) o).take j ++ List.replicate m z ++ (List.replicate j z ++ List.replicate (n - j) o).drop (j + m) = List.replicate (j + m) z ++ List.replicate (n - (j + m)) o := by
  rw [List.take_append_of_le_length (by simp), List.take_of_length_le (by simp), List.drop_append, List.drop_of_length_le (by simp), List.nil_append, List.length_replicate, List.drop_replicate, List.replicate_append_replicate]
  congr 2
  omega

set_option maxHeartbeats 4000000 in
theorem mul1_any (n : Nat) (hn : 1 ≤ n ∧ n ≤ 8) (w : World) : Calls Tryd.prog 53 #[.int .u64 1, .int .u64 n] w fun e w' => e = .returned (.tuple #[.int .u64 0, .int .u64 n]) ∧ w = w' := by
  have h : n = 1 ∨ n = 2 ∨ n = 3 ∨ n = 4 ∨ n = 5 ∨ n = 6 ∨ n = 7 ∨ n = 8 := by omega
  rcases h with rfl | rfl | rfl | rfl | rfl | rfl | rfl | rfl
  all_goals
    go_enter Tryd.func53, Tryd.ntmps53
    go_wp2
    go_ret2
    exact ⟨rfl, rfl⟩
/-- 'copy(d, s)' into a row of the call's own. -/
theorem run_copy_row {P : Program} {B : Nat} {w : World} {A C : List Ent} {g off cap n : Nat} {e t : TypeId} {xs : List Value} (ty : TypeId) (hu : P.underlying t = some (.slice e)) (hz : (P.info? e).map (·.size) = some 1)
    (hsep : Sep B w (A ++ Ent.row (.slice (some ⟨g, off, none⟩) n cap) n 1 e xs :: C)) (k dLen dCap : Nat) (src : Addr) (sLen sCap : Nat) (news : List Value)
    (hlen : news.length = Nat.min sLen dLen) (hk : k + news.length ≤ n)
    (hsrc : ∀ (j : Nat) (u : Value), news[j]? = some u → w.cell? (src.add j) = some u) (h1 : ∀ u ∈ news, u.oneCell' = true) :
    ∃ w', (Builtin.copy_ #[t, t] ty #[.slice (some ⟨g, off + k, none⟩) dLen dCap, .slice (some src) sLen sCap]).run P w = .ok (.int .i64 (news.length : Int)) w' ∧
      Sep B w' (A ++ Ent.row (.slice (some ⟨g, off, none⟩) n cap) n 1 e (xs.take k ++ news ++ xs.drop (k + news.length)) :: C) ∧ Below B w w' := by
  have hB := (hsep.mem.2 g rfl).1
  have hxl : xs.length = n * 1 := hsep.mem.1.1
  have hr := run_copy_cells (P := P) w t t ty e g (off + k) dLen dCap src sLen sCap news hu hz hlen hsrc
    (fun j hj => by
      obtain ⟨g', off', he, _, hc, _⟩ := hsep.rowAt (by omega)
      simp only [Option.some.injEq, Addr.mk.injEq, and_true] at he
      obtain ⟨rfl, rfl⟩ := he
      have := hc (k + j) (by omega)
      rw [← Nat.add_assoc] at this
      rw [this, List.getElem?_eq_getElem (by omega)]; rfl)
    (fun j hj => by
      obtain ⟨g', off', he, _, _, hf⟩ := hsep.rowAt (by omega)
      simp only [Option.some.injEq, Addr.mk.injEq, and_true] at he
      obtain ⟨rfl, rfl⟩ := he
      exact hf _) h1
  exact ⟨_, hr, hsep.rowPut news k xs w hk, below_setCells_own hB _ _ _⟩

theorem made_zeros (n : Nat) : (madeCells #[Value.int .i64 0] n).toList = List.replicate n (Value.int .i64 0) := by
  have := madeCells_flat #[Value.int .i64 0] n
  simpa [List.flatten_replicate_singleton] using this

set_option maxHeartbeats 1000000 in
theorem repeat_any (ao : Option Addr) (c B : Nat) (z : Int) (n : Nat) (w : World) (hA : IntSl B w ao [z]) (hB : B ≤ w.heap.size) (hn : 1 ≤ n ∧ n ≤ 8) :
    Calls Tryd.prog 45 #[.slice ao 1 c, .int .i64 n] w fun e w' => ∃ v, e = .returned v ∧ Sep w.heap.size w' [Ent.ints 3 v (List.replicate n z)] ∧ Below w.heap.size w w' := by
  obtain ⟨b, off, rfl, hb, c0⟩ := hA 0 z rfl
  simp only [Nat.add_zero] at c0
  have HA := Lib.hid hA; clear hA
  obtain ⟨h1, h8⟩ := hn
  obtain ⟨g, hg⟩ : ∃ g, g = w.heap.size := ⟨_, rfl⟩
  have hbg : b < g := by omega
  have HG := Lib.hid hg; clear hg hb hB
  go_enter Tryd.func45, Tryd.ntmps45
  go_wp2_with fail
  refine (mul1_any n ⟨h1, h8⟩ _).mono ?_
  rintro e w1 ⟨rfl, rfl⟩
  have hnil := Sep.nil w.heap.size w
  have HNIL := Lib.hid hnil; clear hnil
  go_wp2_with (at_make; refine wpList_make_sep rfl _ _ rfl elemInt8 .i64 .i64 n n n rfl rfl rfl rfl (by omega) (by unfold maxLen; omega) HNIL.out (Nat.le_refl _) ?_)
  intro w2 hs hb hsz
  rw [← HG.out] at hs ⊢
  have hz : (madeCells #[Value.int .i64 0] n).toList = List.replicate 0 (.int .i64 z) ++ List.replicate (n - 0) (.int .i64 0) := made_zeros n
  rw [hz] at hs
  have HS := Lib.hid hs
  have HB := Lib.hid hb
  have c1 : w2.cell? ⟨b, off, none⟩ = some (.int .i64 z) := (hb.cell (p := ⟨b, off, none⟩) (by rw [← HG.out]; exact hbg)).trans c0
  clear hs hb hz hsz c0
  have hm1 : ([Value.int .i64 z] : List Value).length = Nat.min 1 n := by show 1 = Nat.min 1 n; exact (Nat.min_eq_left h1).symm
  have hs1 : ∀ (j : Nat) (u : Value), ([Value.int .i64 z] : List Value)[j]? = some u → w2.cell? ((⟨b, off, none⟩ : Addr).add j) = some u := by
    intro j u hj
    have hj0 : j = 0 := by have := (List.getElem?_eq_some_iff.1 hj).1; simp at this; exact this
    subst hj0
    simp at hj
    rw [← hj, ← c1]
    rfl
  have ho1 : ∀ u ∈ ([Value.int .i64 z] : List Value), u.oneCell' = true := by intro u hu; rw [List.mem_singleton] at hu; subst hu; rfl
  obtain ⟨w3, hr, hs, hb⟩ := run_copy_row (A := []) 3 elemInt8.under (by kernel_rfl) HS.out 0 n n ⟨b, off, none⟩ 1 c [.int .i64 z] hm1 (by simpa using h1) hs1 ho1
  simp only [List.length_singleton, Nat.add_zero] at hr
  have hq : [Value.int .i64 z] = List.replicate 1 (.int .i64 z) := rfl
  rw [hq, List.length_replicate, repl_put _ _ _ _ _ (by omega)] at hs
  have HS3 := Lib.hid hs
  have HB3 := Lib.hid (HB.out.trans (hb.mono (by rw [← HG.out]; exact Nat.le_refl _)))
  clear hs hb hq hm1 hs1 ho1 c1
  go_wp2
  go_loopw [8] (fun i wr => ∃ j : Nat, 1 ≤ j ∧ j ≤ n ∧ i = .int .i64 j ∧ Sep g wr [Ent.row (.slice (some ⟨g, 0, none⟩) n n) n 1 3 (List.replicate j (.int .i64 z) ++ List.replicate (n - j) (.int .i64 0))] ∧ Below w.heap.size w wr) (fun i _ => n - (intOf i).toNat)
  case atStart => exact ⟨1, Nat.le_refl _, h1, rfl, HS3.out, HB3.out⟩
  case round =>
    clear hr
    obtain ⟨j, hj1, hjn, rfl, hs, hb⟩ := hrel
    have HSR := Lib.hid hs; clear hs
    have HBR := Lib.hid hb; clear hb
    by_cases hlt : j < n
    · have hd : decide ((j : Int) < (n : Int)) = true := decide_eq_true (by omega)
      obtain ⟨m, hm⟩ : ∃ m, m = Nat.min j (n - j) := ⟨_, rfl⟩
      have hmj : m ≤ j := by rw [hm]; exact Nat.min_le_left _ _
      have hmn : m ≤ n - j := by rw [hm]; exact Nat.min_le_right _ _
      have hm0 : 1 ≤ m := by rw [hm]; exact Nat.le_min.2 ⟨hj1, by omega⟩
      have HSD := Lib.hid HSR.out.drew
      have HBD := Lib.hid (HBR.out.trans (below_drew w.heap.size wr))
      have hsrc : ∀ (i : Nat) (u : Value), (List.replicate m (Value.int .i64 z))[i]? = some u → wr.drew.cell? ((⟨g, 0, none⟩ : Addr).add i) = some u := by
        intro i u hu
        rw [List.getElem?_replicate] at hu
        split at hu
        · next hi =>
          have hc := (Sep.rowCell HSD.out (i := i) (v := .int .i64 z) (by rw [List.getElem?_append_left (by simp; omega), List.getElem?_replicate, if_pos (by omega)])).1
          rw [← hu, ← hc, show (⟨g, 0, none⟩ : Addr).add i = ⟨g, 0 + i, none⟩ by unfold Addr.add; split <;> simp_all]
        · cases hu
      obtain ⟨w4, hr, hs, hb⟩ := run_copy_row (A := []) 3 elemInt8.under (by kernel_rfl) HSD.out j (n - j) (n - j) ⟨g, 0, none⟩ j n (List.replicate m (.int .i64 z)) (by rw [List.length_replicate, hm]) (by rw [List.length_replicate]; omega) hsrc (fun u hu => by obtain ⟨_, rfl⟩ := List.mem_replicate.1 hu; rfl)
      rw [List.length_replicate, repl_put _ _ _ _ _ (by omega)] at hs
      rw [List.length_replicate, Nat.zero_add] at hr
      have HS4 := Lib.hid hs
      have HB4 := Lib.hid (HBD.out.trans (hb.mono (by rw [← HG.out]; exact Nat.le_refl _)))
      clear hs hb hsrc hm HSD HBD
      have hjc : (j : Int) ≤ (n : Int) := by omega
      have hj0 : (0 : Int) ≤ (j : Int) := by omega
      go_wp2_with fail
      go_region
      go_wp2
      go_roundw
      case rel => exact ⟨j + m, by omega, by omega, by first | rfl | go_num, HS4.out, HB4.out⟩
      case measure => simp [intOf]; omega
    · obtain rfl : j = n := by omega
      have hd : decide ((j : Int) < (j : Int)) = false := decide_eq_false (by omega)
      have hs := HSR.out
      have hq : List.replicate j (Value.int .i64 z) ++ List.replicate (j - j) (Value.int .i64 0) = (List.replicate j z).map (Value.int .i64) := by simp
      rw [hq] at hs
      have hs2 : Sep g wr [Ent.ints 3 (.slice (some ⟨g, 0, none⟩) j j) (List.replicate j z)] := by
        unfold Ent.ints
        rw [List.length_replicate]
        exact hs
      rw [HG.out] at hs2
      have HSF := Lib.hid hs2; clear hs hq hs2
      go_wp2
      go_ret
      exact ⟨_, rfl, by first | exact HSF.out | (rw [HG.out]; exact HSF.out), HBR.out⟩
end Go.Proofs.YtnmddgjgmdegoaaDoor
