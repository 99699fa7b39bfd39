/- spf.From: how far each point is from one, and over which neighbour one goes first. -/
import Derived.Test.YtnmddgjgmdegoaaDoorDij
import Derived.Test.YtnmddgjgmdegoaaDoorLnk
import Derived.Test.YtnmddgjgmdegoaaDoorVCheck
import Derived.Test.YtnmddgjgmdegoaaDoorRepeat
import Derived.Test.YtnmddgjgmdegoaaDoorArr
import Derived.Deep.LoopGhost
namespace Go.Proofs.YtnmddgjgmdegoaaDoor
open Go.RowKit
set_option linter.unusedVariables false

def fCode (n : Int) (L : List Lnk) (o : Int) : Int := if vCode n L = 0 then (if 0 ≤ o ∧ o ≤ n - 1 then 0 else 1) else vCode n L
theorem fCode_zero {n : Int} {L : List Lnk} {o : Int} : fCode n L o = 0 ↔ ∃ m p : Nat, n = (m : Int) ∧ o = (p : Int) ∧ p < m ∧ VOk m L := by
  unfold fCode
  constructor
  · intro h
    split at h
    · next hv =>
      obtain ⟨m, rfl, hk⟩ := vCode_zero.1 hv
      split at h
      · next ho =>
        obtain ⟨p, rfl⟩ := Int.eq_ofNat_of_zero_le ho.1
        exact ⟨m, p, rfl, rfl, by omega, hk⟩
      · omega
    · next hv => exact absurd h hv
  · rintro ⟨m, p, rfl, rfl, hp, hv⟩
    rw [if_pos (vCode_nat.2 hv), if_pos (by omega)]

theorem from_err (n : Int) (ao : Option Addr) (len ac B : Nat) (L : List Lnk) (o c : Int) (w : World) (hA : RowSl B w ao 3 (L.map lnkC)) (hlen : len = L.length) (hl : L.length ≤ 9223372036854775807) (hB : B ≤ w.heap.size) (hc : c = fCode n L o) (h0 : ¬ c = 0) :
    Calls Tryd.prog 37 #[.int .i64 n, .slice ao len ac, .int .i64 o] w fun e w' => e = .returned (.tuple #[.slice none 0 0, .slice none 0 0, .iface 64 (.int .i64 c)]) ∧ Below w.heap.size w w' := by
  subst hlen
  have HA := Lib.hid hA; clear hA
  unfold fCode at hc
  by_cases hv : vCode n L = 0
  · rw [if_pos hv] at hc
    obtain ⟨m, hm, hok⟩ := vCode_zero.1 hv
    have hm1 := hok.n1
    have hm8 := hok.n8
    clear hok
    subst hm
    by_cases ho : 0 ≤ o ∧ o ≤ (m : Int) - 1
    · rw [if_pos ho] at hc; exact absurd hc h0
    · rw [if_neg ho] at hc
      subst hc
      clear h0
      have HO := Lib.hid ho; clear ho
      have HV := Lib.hid hv; clear hv
      go_enter Tryd.func37, Tryd.ntmps37
      go_wp2_with fail
      refine (vCheck_any _ _ _ _ _ L _ HA.out rfl hl hB).mono ?_
      rintro e w1 ⟨rfl, hb⟩
      rw [HV.out, errV_zero]
      have HB := Lib.hid hb; clear hb
      go_wp2_with fail
      refine (within_no _ _ _ _ HO.out).mono ?_
      rintro e w' ⟨rfl, rfl⟩
      go_wp2
      go_ret3
      exact ⟨rfl, HB.out⟩
  · rw [if_neg hv] at hc
    subst hc
    have HV := Lib.hid hv; clear hv h0
    go_enter Tryd.func37, Tryd.ntmps37
    go_wp2_with fail
    refine (vCheck_any _ _ _ _ _ L _ HA.out rfl hl hB).mono ?_
    rintro e w1 ⟨rfl, hb⟩
    rw [errV_not HV.out]
    have HB := Lib.hid hb; clear hb
    go_wp2
    go_ret3
    exact ⟨rfl, HB.out⟩
/-- How an edge changes nothing, or what it changes. -/
theorem relax_skip {o a : Nat} {s : Dij} {e : Edge} (h : ¬ (e.1 = a ∧ s.done e.2.1 = false)) : relax o a s e = s := by unfold relax; rw [if_neg h]
theorem relax_lt {o a y : Nat} {z : Int} {s : Dij} (hd : s.done y = false) (h : s.far a + z < s.far y) : relax o a s (a, y, z) = ⟨updf s.far y (s.far a + z), updf s.hop y (firstHop o a y s), s.done⟩ := by
  unfold relax; simp only; rw [if_pos ⟨trivial, hd⟩, if_pos h]
theorem relax_eq {o a y : Nat} {z : Int} {s : Dij} (hd : s.done y = false) (h : s.far a + z = s.far y) : relax o a s (a, y, z) = ⟨s.far, updf s.hop y (min (s.hop y) (firstHop o a y s)), s.done⟩ := by
  unfold relax; simp only; rw [if_pos ⟨trivial, hd⟩, if_neg (by omega), if_pos h]
theorem relax_gt {o a y : Nat} {z : Int} {s : Dij} (hd : s.done y = false) (h : s.far y < s.far a + z) : relax o a s (a, y, z) = s := by
  unfold relax; simp only; rw [if_pos ⟨trivial, hd⟩, if_neg (by omega), if_neg (by omega)]
/-- What the walk needs of the numbers. -/
structure Rng (n : Nat) (s : Dij) : Prop where
  far : ∀ v, v < n → 0 ≤ s.far v ∧ s.far v ≤ 1000
  hop : ∀ v, v < n → -1 ≤ s.hop v ∧ s.hop v ≤ (n : Int) - 1
theorem DInv.rng {n : Nat} {E : List Edge} (hn : Net n E) {o : Nat} {P : Nat → Nat → Int → Prop} {m : Nat} {s : Dij} (h : DInv n E o P m s) (hm : m ≤ 40) : Rng n s :=
  ⟨fun v hv => by have := h.lim v hv; omega, fun v hv => by rcases h.hop_range hn hv hm with h' | ⟨x, h', hx⟩ <;> omega⟩
theorem DAll.rng {n : Nat} {E : List Edge} (hn : Net n E) (h8 : n ≤ 8) {o : Nat} {s : Dij} (h : DAll n E o s) : Rng n s := DInv.rng hn h (by have := cntD_le s.done n; omega)
theorem DMid.rng {n : Nat} {E : List Edge} (hn : Net n E) (h8 : n ≤ 8) {o a : Nat} {s : Dij} (h : DMid n E o a s) : Rng n s := by
  obtain ⟨⟨P, hp⟩, _⟩ := h
  exact hp.rng hn (by have := cntD_le s.done n; omega)
theorem made_false (n : Nat) : (madeCells #[Value.bool false] n).toList = arr (fun _ => Value.bool false) n := by
  have := madeCells_flat #[Value.bool false] n
  rw [← arr_const]
  simpa [List.flatten_replicate_singleton] using this

/-- The three rows. -/
def dRows (gf fo cf gh ho ch gd n : Nat) (s : Dij) : List Ent :=
  [Ent.ints 3 (.slice (some ⟨gf, fo, none⟩) n cf) (arr s.far n), Ent.ints 3 (.slice (some ⟨gh, ho, none⟩) n ch) (arr s.hop n), Ent.row (.slice (some ⟨gd, 0, none⟩) n n) n 1 4 (arr (fun i => .bool (s.done i)) n)]
section
variable {B n gf fo cf gh ho ch gd k : Nat} {w : World} {s : Dij} {F : List Ent}
theorem dRows_far (h : Sep B w (F ++ dRows gf fo cf gh ho ch gd n s)) (hk : k < n) : w.cell? ⟨gf, fo + k, none⟩ = some (.int .i64 (s.far k)) ∧ w.frozen? ⟨gf, fo + k, none⟩ = false ∧
    (∀ y, Sep B (w.setCell ⟨gf, fo + k, none⟩ (.int .i64 y)) (F ++ dRows gf fo cf gh ho ch gd n ⟨updf s.far k y, s.hop, s.done⟩)) ∧ B ≤ gf := by
  obtain ⟨g, off, he, h0, h1, h2, h3⟩ := arrI_at (A := F) h hk
  simp only [Option.some.injEq, Addr.mk.injEq, and_true] at he
  obtain ⟨rfl, rfl⟩ := he
  exact ⟨h1, h2, h3, h0⟩
theorem dRows_hop (h : Sep B w (F ++ dRows gf fo cf gh ho ch gd n s)) (hk : k < n) : w.cell? ⟨gh, ho + k, none⟩ = some (.int .i64 (s.hop k)) ∧ w.frozen? ⟨gh, ho + k, none⟩ = false ∧
    (∀ y, Sep B (w.setCell ⟨gh, ho + k, none⟩ (.int .i64 y)) (F ++ dRows gf fo cf gh ho ch gd n ⟨s.far, updf s.hop k y, s.done⟩)) ∧ B ≤ gh := by
  have h' : Sep B w ((F ++ [Ent.ints 3 (.slice (some ⟨gf, fo, none⟩) n cf) (arr s.far n)]) ++ Ent.ints 3 (.slice (some ⟨gh, ho, none⟩) n ch) (arr s.hop n) :: [Ent.row (.slice (some ⟨gd, 0, none⟩) n n) n 1 4 (arr (fun i => .bool (s.done i)) n)]) := by
    rw [List.append_assoc]; exact h
  obtain ⟨g, off, he, h0, h1, h2, h3⟩ := arrI_at h' hk
  simp only [Option.some.injEq, Addr.mk.injEq, and_true] at he
  obtain ⟨rfl, rfl⟩ := he
  exact ⟨h1, h2, fun y => by have := h3 y; rw [List.append_assoc] at this; exact this, h0⟩
theorem dRows_done (h : Sep B w (F ++ dRows gf fo cf gh ho ch gd n s)) (hk : k < n) : w.cell? ⟨gd, k, none⟩ = some (.bool (s.done k)) ∧ w.frozen? ⟨gd, k, none⟩ = false ∧
    Sep B (w.setCell ⟨gd, k, none⟩ (.bool true)) (F ++ dRows gf fo cf gh ho ch gd n (markD k s)) ∧ B ≤ gd := by
  have h' : Sep B w ((F ++ [Ent.ints 3 (.slice (some ⟨gf, fo, none⟩) n cf) (arr s.far n), Ent.ints 3 (.slice (some ⟨gh, ho, none⟩) n ch) (arr s.hop n)]) ++ Ent.row (.slice (some ⟨gd, 0, none⟩) n n) n 1 4 (arr (fun i => .bool (s.done i)) n) :: []) := by
    rw [List.append_assoc]; exact h
  obtain ⟨h1, h2, h3⟩ := arrB_at h' hk
  exact ⟨h1, h2, by have := h3 true; rw [List.append_assoc] at this; exact this, (h'.mem.2 gd rfl).1⟩
end
end Go.Proofs.YtnmddgjgmdegoaaDoor
