/- slices.symMergeCmpFunc at rounds.item, the tail (behind its third loop): turn the middle, then each half. -/
import Derived.Test.YtpfpaheafpibiaaDoorSymR
import Derived.Test.YtpfpaheafpibiaaDoorSymPlain
namespace Go.Proofs.YtpfpaheafpibiaaDoor
open Go.RowKit
set_option linter.unusedVariables false
set_option linter.unusedSimpArgs false
set_option maxRecDepth 100000

/-- What the call does, for rows of at most D things. -/
def SymOk (B g off N cap : Nat) (F : List Ent) (D : Nat) : Prop := ∀ (P A Bs R : List Itm) (a m b : Nat) (w : World), (P ++ A ++ Bs ++ R).length = N → N ≤ 1000 → a = P.length → m = a + A.length → b = m + Bs.length → A.length + Bs.length ≤ D → 0 < A.length → 0 < Bs.length → Srt A → Srt Bs → B ≤ w.heap.size →
    Sep B w (itN g off N cap (P ++ A ++ Bs ++ R) :: F) →
    Calls Tryd.prog 31 #[.slice (some ⟨g, off, none⟩) N cap, .int .i64 a, .int .i64 m, .int .i64 b, cmpV] w fun e w' => e = .returned (.tuple #[]) ∧ (∃ C, C.Perm (A ++ Bs) ∧ Srt C ∧ Sep B w' (itN g off N cap (P ++ C ++ R) :: F)) ∧ Below B w w'

/-- How the two rows are cut. -/
structure SymF (P A Bs R A1 A2 B1 B2 : List Itm) (N a m b s mid n en D : Nat) : Prop where
  len : P.length + A1.length + A2.length + B1.length + B2.length + R.length = N
  hN : N ≤ 1000
  hP : a = P.length
  hl : A1.length = s - a ∧ A2.length = m - s ∧ B1.length = en - m ∧ B2.length = b - en
  nums : a ≤ s ∧ s ≤ m ∧ s ≤ mid ∧ m ≤ en ∧ en ≤ b ∧ mid + m = s + en
  mida : a < mid
  midb : mid < b
  hen : en + s = n
  hab : b = a + (A.length + Bs.length)
  hD : A.length + Bs.length ≤ D + 1
  so : Srt A1 ∧ Srt A2 ∧ Srt B1 ∧ Srt B2
  jn : ∀ C1 C2 : List Itm, C1.Perm (A1 ++ B1) → C2.Perm (A2 ++ B2) → Srt C1 → Srt C2 → Srt (C1 ++ C2) ∧ (C1 ++ C2).Perm (A ++ Bs)

def headOf : Code → Nat
  | .region k _ _ => k
  | .seq x _ => headOf x
  | _ => 100000
/-- The code from the statement on that begins with region k. -/
def fromAt (k : Nat) : Code → Option Code
  | .seq x y => if headOf x = k then some (.seq x y) else fromAt k y
  | _ => none
noncomputable def symCode (k : Nat) : Code := (Tryd.f31.body.bind (fromAt k)).getD .skip

set_option maxHeartbeats 2000000 in
theorem sym43 (B g off N cap : Nat) (F : List Ent) (D : Nat) (HIH : Hid (SymOk B g off N cap F D)) {P A Bs R A1 A2 B1 B2 : List Itm} {a m b s mid n en : Nat} (HT : SymF P A Bs R A1 A2 B1 B2 N a m b s mid n en D) (w0 : World) (hB : B ≤ w0.heap.size) (C1 : List Itm) (HQ1 : Hid (C1.Perm (A1 ++ B1))) (HQ2 : Hid (Srt C1)) (wc : World) (HS7 : Hid (Sep B wc (itN g off N cap (P ++ C1 ++ A2 ++ B2 ++ R) :: F))) (HB7 : Hid (Below B w0 wc))
    (u5 u6 u7 u8 u9 u10 u11 u12 u13 u14 u15 u16 u17 u21 u22 u23 u25 u26 u27 u28 u29 u30 u31 u32 u33 u34 u35 u36 u37 u38 u39 u40 u41 u42 u43 u44 u45 u46 u47 u48 u49 u50 u51 u52 u53 u54 u55 u56 u57 u58 u59 u60 u61 u62 u63 u64 u65 u66 u67 u68 u69 u70 u71 u72 u73 u74 u75 u76 u77 u78 u79 u80 u81 u82 u83 u84 u85 u86 u87 u88 u89 u90 u91 u92 u93 u94 u95 u96 u97 u98 u99 u100 u101 u102 u103 u104 u105 u106 u107 u108 u109 u110 u111 u112 u113 u114 u115 u116 u117 u118 u119 u120 u121 u122 u123 u124 u125 u126 u127 u128 u129 u130 u131 u132 u133 u134 u135 u136 u137 u138 u139 u140 u141 u142 u143 u144 u145 u146 u147 u148 u149 u150 u151 u152 u153 u154 u155 u156 u157 u158 u159 u160 u161 u162 u163 u164 u165 u166 u167 u168 u169 u170 u171 u172 u173 u174 u175 u176 u177 u178 u179 u180 u181 u182 u183 u184 u185 u186 u187 u188 u189 u190 u191 u192 u193 u194 u195 u196 u197 u198 u199 u200 u201 u202 u203 u204 u205 u206 u207 u208 u209 u210 u211 u212 u213 u214 u215 u216 u217 u218 u219 : Value) :
    Code.wp Tryd.prog (symCode 43) (bodyPost Tryd.prog Tryd.f31 (fun e w' => e = .returned (.tuple #[]) ∧ (∃ C, C.Perm (A ++ Bs) ∧ Srt C ∧ Sep B w' (itN g off N cap (P ++ C ++ R) :: F)) ∧ Below B w0 w')) ⟨List.toArray (Value.slice (some ⟨g, off, none⟩) N cap :: Value.int .i64 (a : Int) :: Value.int .i64 (m : Int) :: Value.int .i64 (b : Int) :: cmpV :: u5 :: u6 :: u7 :: u8 :: u9 :: u10 :: u11 :: u12 :: u13 :: u14 :: u15 :: u16 :: u17 :: Value.int .i64 (mid : Int) :: Value.int .i64 (n : Int) :: Value.int .i64 (s : Int) :: u21 :: u22 :: u23 :: Value.int .i64 (en : Int) :: u25 :: u26 :: u27 :: u28 :: u29 :: u30 :: u31 :: u32 :: u33 :: u34 :: u35 :: u36 :: u37 :: u38 :: u39 :: u40 :: u41 :: u42 :: u43 :: u44 :: u45 :: u46 :: u47 :: u48 :: u49 :: u50 :: u51 :: u52 :: u53 :: u54 :: u55 :: u56 :: u57 :: u58 :: u59 :: u60 :: u61 :: u62 :: u63 :: u64 :: u65 :: u66 :: u67 :: u68 :: u69 :: u70 :: u71 :: u72 :: u73 :: u74 :: u75 :: u76 :: u77 :: u78 :: u79 :: u80 :: u81 :: u82 :: u83 :: u84 :: u85 :: u86 :: u87 :: u88 :: u89 :: u90 :: u91 :: u92 :: u93 :: u94 :: u95 :: u96 :: u97 :: u98 :: u99 :: u100 :: u101 :: u102 :: u103 :: u104 :: u105 :: u106 :: u107 :: u108 :: u109 :: u110 :: u111 :: u112 :: u113 :: u114 :: u115 :: u116 :: u117 :: u118 :: u119 :: u120 :: u121 :: u122 :: u123 :: u124 :: u125 :: u126 :: u127 :: u128 :: u129 :: u130 :: u131 :: u132 :: u133 :: u134 :: u135 :: u136 :: u137 :: u138 :: u139 :: u140 :: u141 :: u142 :: u143 :: u144 :: u145 :: u146 :: u147 :: u148 :: u149 :: u150 :: u151 :: u152 :: u153 :: u154 :: u155 :: u156 :: u157 :: u158 :: u159 :: u160 :: u161 :: u162 :: u163 :: u164 :: u165 :: u166 :: u167 :: u168 :: u169 :: u170 :: u171 :: u172 :: u173 :: u174 :: u175 :: u176 :: u177 :: u178 :: u179 :: u180 :: u181 :: u182 :: u183 :: u184 :: u185 :: u186 :: u187 :: u188 :: u189 :: u190 :: u191 :: u192 :: u193 :: u194 :: u195 :: u196 :: u197 :: u198 :: u199 :: u200 :: u201 :: u202 :: u203 :: u204 :: u205 :: u206 :: u207 :: u208 :: u209 :: u210 :: u211 :: u212 :: u213 :: u214 :: u215 :: u216 :: u217 :: u218 :: u219 :: []), []⟩ wc := by
  conv => arg 2; whnf
  have hg7 : B ≤ wc.heap.size := Nat.le_trans hB HB7.out.size
  have hcl : C1.length = mid - a := by rw [HQ1.out.length_eq, List.length_append, HT.hl.1, HT.hl.2.2.1]; have := HT.nums; omega
  have HCL := Lib.hid hcl
  clear hcl
  by_cases h1 : mid < en
  · have h1I : (mid : Int) < (en : Int) := by omega
    by_cases h2 : en < b
    · have h2I : (en : Int) < (b : Int) := by omega
      have hc := HIH.out (P ++ C1) A2 B2 R mid en b wc (by have h1 := HT.len; have h2 := HCL.out; have h3 := HT.hl; have h4 := HT.nums; have h5 := HT.mida; simp only [List.length_append]; omega) HT.hN (by rw [List.length_append, HCL.out, ← HT.hP]; have := HT.mida; omega) (by rw [HT.hl.2.1]; have := HT.nums; omega) (by rw [HT.hl.2.2.2]; omega) (by rw [HT.hl.2.1, HT.hl.2.2.2]; have h1 := HT.nums; have h2 := HT.hD; have h3 := HT.hab; have h5 := HT.mida; omega) (by rw [HT.hl.2.1]; have := HT.nums; omega) (by rw [HT.hl.2.2.2]; omega) HT.so.2.1 HT.so.2.2.2 hg7 HS7.out
      have HC := Lib.hid hc
      clear hc
      go_wp2_with fail
      refine HC.out.mono ?_
      rintro e w2 ⟨rfl, ⟨C2, r1, r2, hs⟩, hb⟩
      have hjn := HT.jn C1 C2 HQ1.out r1 HQ2.out r2
      have hs9 : Sep B w2 (itN g off N cap (P ++ (C1 ++ C2) ++ R) :: F) := by simpa using hs
      have HS9 := Lib.hid hs9
      have HB9 := Lib.hid (HB7.out.trans hb)
      have HJN := Lib.hid hjn
      clear hs hb hs9 hjn
      go_wp2
      go_end0
      exact ⟨rfl, ⟨_, HJN.out.2, HJN.out.1, HS9.out⟩, HB9.out⟩
    · have h2I : decide ((en : Int) < (b : Int)) = false := decide_eq_false (by omega)
      have h2N : decide (en < b) = false := decide_eq_false h2
      have hB0 : B2 = [] := List.eq_nil_of_length_eq_zero (by rw [HT.hl.2.2.2]; omega)
      have hjn := HT.jn C1 A2 HQ1.out (by rw [hB0, List.append_nil]) HQ2.out HT.so.2.1
      have hs9 : Sep B wc (itN g off N cap (P ++ (C1 ++ A2) ++ R) :: F) := by have := HS7.out; rw [hB0] at this; simpa using this
      have HS9 := Lib.hid hs9
      have HJN := Lib.hid hjn
      clear hB0 h2 hs9 hjn
      go_wp2
      go_end0
      exact ⟨rfl, ⟨_, HJN.out.2, HJN.out.1, HS9.out⟩, HB7.out⟩
  · have h1I : decide ((mid : Int) < (en : Int)) = false := decide_eq_false (by omega)
    have h1N : decide (mid < en) = false := decide_eq_false h1
    have hB0 : A2 = [] := List.eq_nil_of_length_eq_zero (by rw [HT.hl.2.1]; have := HT.nums; omega)
    have hjn := HT.jn C1 B2 HQ1.out (by rw [hB0, List.nil_append]) HQ2.out HT.so.2.2.2
    have hs9 : Sep B wc (itN g off N cap (P ++ (C1 ++ B2) ++ R) :: F) := by have := HS7.out; rw [hB0] at this; simpa using this
    have HS9 := Lib.hid hs9
    have HJN := Lib.hid hjn
    clear hB0 h1 hs9 hjn
    go_wp2
    go_end0
    exact ⟨rfl, ⟨_, HJN.out.2, HJN.out.1, HS9.out⟩, HB7.out⟩
end Go.Proofs.YtpfpaheafpibiaaDoor
