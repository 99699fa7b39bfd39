/- Put of whatever frame; the closed fact. -/
import Derived.Test.YthnlpmjfibidcaaDoorRows
import Derived.Test.YthnlpmjfibidcaaDoorMuxPut
import Derived.Test.YthnlpmjfibidcaaDoorMuxRead
import Derived.Test.YthnlpmjfibidcaaDoorMuxWaits
import Derived.Test.YthnlpmjfibidcaaDoorMuxNew
import Derived.Test.YthnlpmjfibidcaaDoorFrameOf
namespace Go.Proofs.YthnlpmjfibidcaaDoor
open Go.RowKit
set_option linter.unusedVariables false

def clashB (f : Nat → Option UInt8) : Nat → List UInt8 → Bool
  | _, [] => false
  | p, c :: d => (match f p with | some b => b != c | none => false) || clashB f (p + 1) d

theorem clashB_iff (f : Nat → Option UInt8) : ∀ (d : List UInt8) (p : Nat), clashB f p d = true ↔ Clash f p d
  | [], p => by constructor <;> intro h; · simp [clashB] at h
                · obtain ⟨i, c, b, h, _⟩ := h; simp at h
  | c :: d, p => by
    have ih := clashB_iff f d (p + 1)
    unfold clashB
    rw [Bool.or_eq_true, ih]
    constructor
    · rintro (h | ⟨i, x, b, h1, h2, h3⟩)
      · cases hf : f p with
        | none => simp [hf] at h
        | some b => simp [hf] at h; exact ⟨0, c, b, rfl, by simpa using hf, h⟩
      · exact ⟨i + 1, x, b, by simpa using h1, by rw [show p + (i + 1) = p + 1 + i by omega]; exact h2, h3⟩
    · rintro ⟨i, x, b, h1, h2, h3⟩
      cases i with
      | zero => simp at h1; subst h1; left; simp only [Nat.add_zero] at h2; rw [h2]; simpa using h3
      | succ i => right; exact ⟨i, x, b, by simpa using h1, by rw [show p + 1 + i = p + (i + 1) by omega]; exact h2, h3⟩

/-- What Put says (0: nothing is wrong), and what is there behind it. -/
def muxPut (ss : List Str) (i p : Int) (d : List UInt8) : Int × List Str :=
  if ¬ (0 ≤ i ∧ i ≤ 3) ∨ ¬ (0 ≤ p ∧ p ≤ 200) then (1, ss)
  else if 200 - p < d.length then (4, ss)
  else match ss[i.toNat]? with
    | none => (1, ss)
    | some s => if clashB s.came p.toNat d then (6, ss) else (0, ss.set i.toNat ⟨putF s.came p.toNat d, s.read⟩)

def errVal (e : TypeId) (c : Int) : Value := if c = 0 then .nilIface else .iface e (.int .i64 c)

theorem muxPut_len (ss : List Str) (i p : Int) (d : List UInt8) : (muxPut ss i p d).2.length = ss.length := by
  unfold muxPut
  split
  · rfl
  · split
    · rfl
    · split
      · rfl
      · split
        · rfl
        · simp

theorem muxPut_read {ss : List Str} (i p : Int) (d : List UInt8) (h : ∀ s ∈ ss, s.read ≤ 200) : ∀ s ∈ (muxPut ss i p d).2, s.read ≤ 200 := by
  unfold muxPut
  split
  · exact h
  · split
    · exact h
    · split
      · exact h
      · rename_i s hs
        split
        · exact h
        · intro x hx
          rcases List.mem_or_eq_of_mem_set hx with hx | rfl
          · exact h x hx
          · exact h s (List.mem_iff_getElem?.2 ⟨_, hs⟩)

theorem muxPut_other {ss : List Str} {i p : Int} {d : List UInt8} {k : Nat} (h : i ≠ (k : Int)) : (muxPut ss i p d).2[k]? = ss[k]? := by
  unfold muxPut
  split
  · rfl
  · rename_i h1
    split
    · rfl
    · split
      · rfl
      · split
        · rfl
        · rw [List.getElem?_set_ne (by omega)]

theorem muxPut_any (B g : Nat) (ss : List Str) (F : List Ent) (i p : Int) (d : ByteArray) (w : World) (hp : -9223372036854775808 ≤ p ∧ p ≤ 9223372036854775807) (hl : ss.length = 4)
    (hsep : Sep B w (Ent.mux 63 g ss :: F)) (hB : B ≤ w.heap.size) :
    Calls Tryd.prog 8 #[.pointer (some ⟨g, 0, none⟩), .agg #[.int .i64 i, .int .i64 p, .string d]] w fun e w' =>
      e = .returned (errVal 64 (muxPut ss i p d.data.toList).1) ∧ Sep B w' (Ent.mux 63 g (muxPut ss i p d.data.toList).2 :: F) ∧ Below B w w' := by
  have bad : ∀ c, PutBad i p d.data.toList c → c ≠ 0 → muxPut ss i p d.data.toList = (c, ss) → Calls Tryd.prog 8 #[.pointer (some ⟨g, 0, none⟩), .agg #[.int .i64 i, .int .i64 p, .string d]] w fun e w' =>
      e = .returned (errVal 64 (muxPut ss i p d.data.toList).1) ∧ Sep B w' (Ent.mux 63 g (muxPut ss i p d.data.toList).2 :: F) ∧ Below B w w' := by
    intro c hbad hc he
    rw [he]
    refine (muxPut_bad (some ⟨g, 0, none⟩) i p c d w hp hbad).mono fun e w' ⟨h1, h2⟩ => ⟨?_, hsep.kept h2, h2.mono hB⟩
    rw [h1]; unfold errVal; rw [if_neg hc]
  by_cases h1 : 0 ≤ i ∧ i ≤ 3
  · by_cases h2 : 0 ≤ p ∧ p ≤ 200
    · by_cases h3 : 200 - p < (d.data.toList.length : Int)
      · exact bad 4 (.inr (.inr ⟨h1, h2, h3, rfl⟩)) (by decide) (by unfold muxPut; rw [if_neg (by omega), if_pos h3])
      · obtain ⟨i, rfl⟩ := Int.eq_ofNat_of_zero_le h1.1
        obtain ⟨p, rfl⟩ := Int.eq_ofNat_of_zero_le h2.1
        obtain ⟨⟨f, r⟩, hs⟩ : ∃ s, ss[i]? = some s := ⟨_, List.getElem?_eq_getElem (by omega)⟩
        have hdl : d.data.toList.length = d.size := by simp
        have e : muxPut ss (i : Int) (p : Int) d.data.toList = if clashB f p d.data.toList then (6, ss) else (0, ss.set i ⟨putF f p d.data.toList, r⟩) := by
          unfold muxPut; rw [if_neg (by omega), if_neg h3]; simp only [Int.toNat_natCast, hs]
        rw [e]
        by_cases hc : Clash f p d.data.toList
        · rw [if_pos ((clashB_iff f _ p).2 hc)]
          exact muxPut_clash B g ss F i p r d f w (by omega) (by omega) hs hc hsep hB
        · rw [if_neg (fun h => hc ((clashB_iff f _ p).1 h))]
          exact muxPut_ok B g ss F i p r d f w (by omega) (by omega) hs hc hsep hB
    · exact bad 1 (.inr (.inl ⟨h1, h2, rfl⟩)) (by decide) (by unfold muxPut; rw [if_pos (.inr h2)])
  · exact bad 1 (.inl ⟨h1, rfl⟩) (by decide) (by unfold muxPut; rw [if_pos (.inl h1)])

set_option maxHeartbeats 400000 in
set_option maxRecDepth 100000 in
theorem muxFact_any (w : World) : Calls Tryd.prog 6 #[] w fun e w' => e = .returned (.bool true) ∧ Below w.heap.size w w' := by
  obtain ⟨s1, h1⟩ : ∃ s1, s1 = muxPut (List.replicate 4 Str.new) 1 2 [99] := ⟨_, rfl⟩
  have e1 : s1.1 = 0 := by rw [h1]; rfl
  have q1 : ∃ s, s1.2[1]? = some s ∧ s.text = [] ∧ s.read ≤ 200 ∧ clashB s.came 0 [97, 98] = false ∧ (Str.text ⟨putF s.came 0 [97, 98], s.next⟩ = [97, 98, 99]) := ⟨_, by rw [h1]; rfl, by decide +kernel, by decide, by decide +kernel, by decide +kernel⟩
  obtain ⟨s, hs1, ht1, hr1, hc2, ht2⟩ := q1
  have hl1 : s1.2.length = 4 := by rw [h1, muxPut_len]; rfl
  have E1 := Lib.hid e1; clear e1
  have H1 := Lib.hid h1; clear h1
  have HS1 := Lib.hid hs1; clear hs1
  have HT1 := Lib.hid ht1; clear ht1
  have HC2 := Lib.hid hc2; clear hc2
  have HT2 := Lib.hid ht2; clear ht2
  have HL1 := Lib.hid hl1; clear hl1
  go_enter Tryd.func6, Tryd.ntmps6
  go_wp2_with fail
  refine (muxNew_any _).mono ?_
  rintro e w1 ⟨g, rfl, hsep, hb⟩
  have HS := Lib.hid hsep; clear hsep
  have HB := Lib.hid hb; clear hb
  go_wp2_with fail
  refine (frameOf_any _ _ _ _).mono ?_
  rintro e w2 ⟨rfl, hb⟩
  have HS' := Lib.hid (HS.out.kept hb)
  have HB' := Lib.hid (HB.out.trans (hb.mono HB.out.size)); clear hb
  go_wp2_with fail
  refine (muxPut_any _ g _ [] 1 2 ⟨#[99]⟩ _ (by decide) rfl HS'.out HB'.out.size).mono ?_
  rintro e w3 ⟨rfl, hsep, hb⟩
  rw [← H1.out, show errVal 64 s1.1 = .nilIface from by rw [E1.out]; rfl]
  rw [← H1.out] at hsep
  have HS3 := Lib.hid hsep; clear hsep
  have HB3 := Lib.hid (HB'.out.trans hb); clear hb
  go_wp2_with fail
  refine (muxRead_ok _ g _ [] 1 s _ (by decide) HS1.out hr1 HS3.out HB3.out.size).mono ?_
  rintro e w4 ⟨rfl, hsep, hb⟩
  rw [HT1.out]
  have HS4 := Lib.hid hsep; clear hsep
  have HB4 := Lib.hid (HB3.out.trans hb); clear hb
  go_wp2_with fail
  refine (frameOf_any _ _ _ _).mono ?_
  rintro e w5 ⟨rfl, hb⟩
  have HS5 := Lib.hid (HS4.out.kept hb)
  have HB5 := Lib.hid (HB4.out.trans (hb.mono HB4.out.size)); clear hb
  go_wp2_with fail
  refine (muxPut_ok _ g _ [] 1 0 s.next ⟨#[97, 98]⟩ s.came _ (by decide) (by decide) (List.getElem?_set_self (by rw [HL1.out]; decide)) (fun h => by have := (clashB_iff _ _ _).2 h; rw [HC2.out] at this; cases this) HS5.out HB5.out.size).mono ?_
  rintro e w6 ⟨rfl, hsep, hb⟩
  have HS6 := Lib.hid hsep; clear hsep
  have HB6 := Lib.hid (HB5.out.trans hb); clear hb
  have hn := Lib.hid (runTo_ge s.came (200 - s.read) s.read)
  go_wp2_with fail
  refine (muxRead_ok _ g _ [] 1 ⟨putF s.came 0 [97, 98], s.next⟩ _ (by decide) (List.getElem?_set_self (by rw [List.length_set, HL1.out]; decide)) (by have := hn.out; unfold Str.next; simp only; omega) HS6.out HB6.out.size).mono ?_
  rintro e w7 ⟨rfl, hsep, hb⟩
  rw [HT2.out]
  have HB7 := Lib.hid (HB6.out.trans hb); clear hb hsep
  go_wp2
  go_ret
  exact ⟨rfl, HB7.out⟩
end Go.Proofs.YthnlpmjfibidcaaDoor
