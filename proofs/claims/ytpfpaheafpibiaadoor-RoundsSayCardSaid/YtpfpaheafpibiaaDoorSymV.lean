/- slices.symMergeCmpFunc at rounds.item: the tail, from the first rotation on. -/
import Derived.Test.YtpfpaheafpibiaaDoorSymU
namespace Go.Proofs.YtpfpaheafpibiaaDoor
open Go.RowKit
set_option linter.unusedVariables false
set_option linter.unusedSimpArgs false
set_option maxRecDepth 100000

set_option maxHeartbeats 2000000 in
theorem sym38 (B g off N cap : Nat) (F : List Ent) (D : Nat) (HIH : Hid (SymOk B g off N cap F D)) {P A Bs R A1 A2 B1 B2 : List Itm} {a m b s mid n en : Nat} (HT : SymF P A Bs R A1 A2 B1 B2 N a m b s mid n en D) (w0 : World) (hB : B ≤ w0.heap.size) (wr : World) (HS5 : Hid (Sep B wr (itN g off N cap ((P ++ A1) ++ A2 ++ B1 ++ (B2 ++ R)) :: F))) (HB1 : Hid (Below B w0 wr))
    (u5 u6 u7 u8 u9 u10 u11 u12 u13 u14 u15 u16 u17 u21 u22 u23 u24 u25 u26 u27 u28 u29 u30 u31 u32 u33 u34 u35 u36 u37 u38 u39 u40 u41 u42 u43 u44 u45 u46 u47 u48 u49 u50 u51 u52 u53 u54 u55 u56 u57 u58 u59 u60 u61 u62 u63 u64 u65 u66 u67 u68 u69 u70 u71 u72 u73 u74 u75 u76 u77 u78 u79 u80 u81 u82 u83 u84 u85 u86 u87 u88 u89 u90 u91 u92 u93 u94 u95 u96 u97 u98 u99 u100 u101 u102 u103 u104 u105 u106 u107 u108 u109 u110 u111 u112 u113 u114 u115 u116 u117 u118 u119 u120 u121 u122 u123 u124 u125 u126 u127 u128 u129 u130 u131 u132 u133 u134 u135 u136 u137 u138 u139 u140 u141 u142 u143 u144 u145 u146 u147 u148 u149 u150 u151 u152 u153 u154 u155 u156 u157 u158 u159 u160 u161 u162 u163 u164 u165 u166 u167 u168 u169 u170 u171 u172 u173 u174 u175 u176 u177 u178 u179 u180 u181 u182 u183 u184 u185 u186 u187 u188 u189 u190 u191 u192 u193 u194 u195 u196 u197 u198 u199 u200 u201 u202 u203 u204 u205 u206 u207 u208 u209 u210 u211 u212 u213 u214 u215 u216 u217 u218 u219 : Value) :
    Code.wp Tryd.prog (symCode 38) (bodyPost Tryd.prog Tryd.f31 (fun e w' => e = .returned (.tuple #[]) ∧ (∃ C, C.Perm (A ++ Bs) ∧ Srt C ∧ Sep B w' (itN g off N cap (P ++ C ++ R) :: F)) ∧ Below B w0 w')) ⟨List.toArray (Value.slice (some ⟨g, off, none⟩) N cap :: Value.int .i64 (a : Int) :: Value.int .i64 (m : Int) :: Value.int .i64 (b : Int) :: cmpV :: u5 :: u6 :: u7 :: u8 :: u9 :: u10 :: u11 :: u12 :: u13 :: u14 :: u15 :: u16 :: u17 :: Value.int .i64 (mid : Int) :: Value.int .i64 (n : Int) :: Value.int .i64 (s : Int) :: u21 :: u22 :: u23 :: u24 :: u25 :: u26 :: u27 :: u28 :: u29 :: u30 :: u31 :: u32 :: u33 :: u34 :: u35 :: u36 :: u37 :: u38 :: u39 :: u40 :: u41 :: u42 :: u43 :: u44 :: u45 :: u46 :: u47 :: u48 :: u49 :: u50 :: u51 :: u52 :: u53 :: u54 :: u55 :: u56 :: u57 :: u58 :: u59 :: u60 :: u61 :: u62 :: u63 :: u64 :: u65 :: u66 :: u67 :: u68 :: u69 :: u70 :: u71 :: u72 :: u73 :: u74 :: u75 :: u76 :: u77 :: u78 :: u79 :: u80 :: u81 :: u82 :: u83 :: u84 :: u85 :: u86 :: u87 :: u88 :: u89 :: u90 :: u91 :: u92 :: u93 :: u94 :: u95 :: u96 :: u97 :: u98 :: u99 :: u100 :: u101 :: u102 :: u103 :: u104 :: u105 :: u106 :: u107 :: u108 :: u109 :: u110 :: u111 :: u112 :: u113 :: u114 :: u115 :: u116 :: u117 :: u118 :: u119 :: u120 :: u121 :: u122 :: u123 :: u124 :: u125 :: u126 :: u127 :: u128 :: u129 :: u130 :: u131 :: u132 :: u133 :: u134 :: u135 :: u136 :: u137 :: u138 :: u139 :: u140 :: u141 :: u142 :: u143 :: u144 :: u145 :: u146 :: u147 :: u148 :: u149 :: u150 :: u151 :: u152 :: u153 :: u154 :: u155 :: u156 :: u157 :: u158 :: u159 :: u160 :: u161 :: u162 :: u163 :: u164 :: u165 :: u166 :: u167 :: u168 :: u169 :: u170 :: u171 :: u172 :: u173 :: u174 :: u175 :: u176 :: u177 :: u178 :: u179 :: u180 :: u181 :: u182 :: u183 :: u184 :: u185 :: u186 :: u187 :: u188 :: u189 :: u190 :: u191 :: u192 :: u193 :: u194 :: u195 :: u196 :: u197 :: u198 :: u199 :: u200 :: u201 :: u202 :: u203 :: u204 :: u205 :: u206 :: u207 :: u208 :: u209 :: u210 :: u211 :: u212 :: u213 :: u214 :: u215 :: u216 :: u217 :: u218 :: u219 :: []), []⟩ wr := by
  conv => arg 2; whnf
  have henI : (n : Int) - (s : Int) = (en : Int) := by have := HT.hen; omega
  have henN : en ≤ 3000 := by have h1 := HT.nums; have h2 := HT.hab; have h3 := HT.len; have h4 := HT.hN; have h5 := HT.hP; have h6 := HT.hl; omega
  have hN := HT.hN
  obtain ⟨g1, hg1⟩ : ∃ g1 : Bool, g1 = (decide (s < m) && decide (m < en)) := ⟨_, rfl⟩
  have HG1 := Lib.hid hg1
  clear hg1
  go_upto_region 39 with fail
  clear henI
  go_cut [185] (fun v wx => v = .bool g1 ∧ wx = wr)
  case first =>
    by_cases h1 : s < m
    · have h1I : (s : Int) < (m : Int) := by omega
      by_cases h2 : m < en
      · have h2I : (m : Int) < (en : Int) := by omega
        have hgt : g1 = true := by rw [HG1.out]; simp [h1, h2]
        have HGT := Lib.hid hgt
        clear hgt
        go_wp2_with fail
        go_meet
        exact ⟨by rw [HGT.out], rfl⟩
      · have h2I : decide ((m : Int) < (en : Int)) = false := decide_eq_false (by omega)
        have h2N : decide (m < en) = false := decide_eq_false h2
        have hgt : g1 = false := by rw [HG1.out]; simp [h2]
        have HGT := Lib.hid hgt
        clear hgt h2
        go_wp2_with fail
        go_meet
        exact ⟨by rw [HGT.out], rfl⟩
    · have h1I : decide ((s : Int) < (m : Int)) = false := decide_eq_false (by omega)
      have h1N : decide (s < m) = false := decide_eq_false h1
      have hgt : g1 = false := by rw [HG1.out]; simp [h1]
      have HGT := Lib.hid hgt
      clear hgt h1
      go_wp2_with fail
      go_meet
      exact ⟨by rw [HGT.out], rfl⟩
  case rest =>
  obtain ⟨rfl, hwx⟩ := hcut
  subst hwx
  obtain ⟨w5, hw5⟩ : ∃ w5, w5 = wc := ⟨_, rfl⟩
  obtain rfl := hw5
  go_upto_if 185 with fail
  go_cut [] (fun wx => Sep B wx (itN g off N cap (P ++ A1 ++ B1 ++ A2 ++ B2 ++ R) :: F) ∧ Below B w0 wx)
  case first =>
    cases g1 with
    | true =>
      have hh := HG1.out
      have h1 : s < m := by
        by_cases h : s < m
        · exact h
        · simp [h] at hh
      have h2 : m < en := by
        by_cases h : m < en
        · exact h
        · simp [h] at hh
      have hc := rotR_any B g off N cap (P ++ A1) A2 B1 (B2 ++ R) s m en cmpV F w5 (by have := HT.len; simp only [List.length_append]; omega) hN (by rw [List.length_append, HT.hl.1, ← HT.hP]; have := HT.nums; omega) (by rw [List.length_append, HT.hl.1, HT.hl.2.1, ← HT.hP]; have := HT.nums; omega) (by rw [HT.hl.2.2.1]; have := HT.nums; omega) (by rw [HT.hl.2.1]; omega) (by rw [HT.hl.2.2.1]; omega) HS5.out
      have HC := Lib.hid hc
      clear hc h1 h2 hh
      go_wp2_with fail
      refine HC.out.mono ?_
      rintro e w2 ⟨rfl, hs, hb⟩
      go_wp2_with fail
      go_meet
      exact ⟨by simpa using hs, HB1.out.trans hb⟩
    | false =>
      have hE : A2 = [] ∨ B1 = [] := by
        have hh := HG1.out
        by_cases h1 : s < m
        · by_cases h2 : m < en
          · simp [h1, h2] at hh
          · exact .inr (List.eq_nil_of_length_eq_zero (by rw [HT.hl.2.2.1]; omega))
        · exact .inl (List.eq_nil_of_length_eq_zero (by rw [HT.hl.2.1]; omega))
      have hs6 : Sep B w5 (itN g off N cap (P ++ A1 ++ B1 ++ A2 ++ B2 ++ R) :: F) := by
        have := HS5.out
        rcases hE with h | h
        · rw [h] at this ⊢; simpa using this
        · rw [h] at this ⊢; simpa using this
      have HS6 := Lib.hid hs6
      clear hE hs6
      go_wp2_with fail
      go_meet
      exact ⟨HS6.out, HB1.out⟩
  case rest =>
    obtain ⟨hs, hb⟩ := hcut
    refine (by assumption : ∀ a w, Code.wp _ _ _ a w → _) _ _ ?_
    exact sym41 B g off N cap F D HIH HT w0 hB wc (Lib.hid hs) (Lib.hid hb) _ _ _ _ _ _ _ _ _ _ _ _ _ _ _ _ _ _ _ _ _ _ _ _ _ _ _ _ _ _ _ _ _ _ _ _ _ _ _ _ _ _ _ _ _ _ _ _ _ _ _ _ _ _ _ _ _ _ _ _ _ _ _ _ _ _ _ _ _ _ _ _ _ _ _ _ _ _ _ _ _ _ _ _ _ _ _ _ _ _ _ _ _ _ _ _ _ _ _ _ _ _ _ _ _ _ _ _ _ _ _ _ _ _ _ _ _ _ _ _ _ _ _ _ _ _ _ _ _ _ _ _ _ _ _ _ _ _ _ _ _ _ _ _ _ _ _ _ _ _ _ _ _ _ _ _ _ _ _ _ _ _ _ _ _ _ _ _ _ _ _ _ _ _ _ _ _ _ _ _ _ _ _ _ _ _ _ _ _ _ _ _ _ _ _ _ _ _ _ _ _ _ _ _ _ _ _ _ _ _ _
end Go.Proofs.YtpfpaheafpibiaaDoor
