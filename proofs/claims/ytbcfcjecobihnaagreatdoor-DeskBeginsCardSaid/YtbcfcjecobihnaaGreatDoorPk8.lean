/- Of the laws that the given statement is lifted from; each holds for every input that it names: Plain: what a line of a book says; a text cut at a byte. · Contracts of the shelf, laid by the kit's own tool (lay-shelf, lay-plain), its numbers turned to names. · book.number. · Contracts of the shelf, laid by the kit's own tool (lay-shelf, lay-plain), its numbers turned to names. · strings.Lines: its iterator, for whatever state a loop over it keeps. · 'for line := range strings.Lines(text)': what a loop owes. -/
import Derived.Test.YtbcfcjecobihnaaGreatDoorPk7
import Derived.Lib.AtoiAll
import Derived.Lib.SplitLaws
import Derived.Lib.IndexBytes
import Derived.Lib.IndexLaws
import Derived.Lib.CountLaws
import Derived.Lib.LastIndexByte
import Derived.Lib.Split
import Derived.Test.YtbcfcjecobihnaaGreatDoorRows
import Derived.Shelf.Lay
import Derived.Shelf.LaysC
import Derived.Shelf.Strconv.AtoiAll
import Derived.Shelf.Small.Strs
import Derived.Shelf.Small.Wraps
import Derived.Shelf.Strings.LastIndex
import Derived.Shelf.Strings.Prefix
import Derived.Shelf.Strings.Split
import Derived.Shelf.Strings.Shaped
import Derived.RangeFuncNested
import Derived.RangeFuncBound
import Derived.RangeFuncCalls
import Derived.RangeFuncLeaves
import Derived.TacticsInMore
import Derived.OwnWalkIn
import Derived.LoopIn
import Derived.StillTailTactics
import Derived.Deep.DeepCutAuto

section
/- Plain: what a line of a book says; a text cut at a byte. -/
namespace Go.Proofs.YtbcfcjecobihnaaGreatDoor
set_option linter.unusedVariables false

def cutL (c : UInt8) : List UInt8 → List (List UInt8)
  | [] => [[]]
  | x :: r => if x = c then [] :: cutL c r else match cutL c r with | [] => [[x]] | y :: ys => (x :: y) :: ys
theorem cutL_ne (c : UInt8) : ∀ l, cutL c l ≠ []
  | [] => by simp [cutL]
  | x :: r => by
    unfold cutL
    split
    · simp
    · split <;> simp
theorem cutL_none {c : UInt8} : ∀ {l : List UInt8}, (∀ k : Nat, l[k]? ≠ some c) → cutL c l = [l]
  | [], _ => rfl
  | x :: r, h => by
    have h0 : x ≠ c := fun e => h 0 (by simp [e])
    have ih := cutL_none (l := r) (fun k => by have := h (k + 1); simpa using this)
    unfold cutL
    rw [if_neg h0, ih]
theorem cutL_hit {c : UInt8} : ∀ {l : List UInt8} {i : Nat}, l[i]? = some c → (∀ k : Nat, k < i → l[k]? ≠ some c) → cutL c l = l.take i :: cutL c (l.drop (i + 1))
  | [], i, h, _ => by simp at h
  | x :: r, 0, h, _ => by
    have : x = c := by simpa using h
    rw [cutL, if_pos this]; rfl
  | x :: r, i + 1, h, hn => by
    have h0 : x ≠ c := fun e => hn 0 (by omega) (by simp [e])
    have ih := cutL_hit (l := r) (i := i) (by simpa using h) (fun k hk => by have := hn (k + 1) (by omega); simpa using this)
    rw [cutL, if_neg h0, ih]
    simp
abbrev oneB (c : UInt8) : ByteArray := ⟨#[c]⟩
theorem split_cut (c : UInt8) : ∀ (m : Nat) (s : ByteArray), s.size ≤ m → Lib.splitB (oneB c) 0 (Lib.countB s (oneB c)) s = (cutL c s.data.toList).map fun x => ⟨x.toArray⟩ := by
  intro m
  induction m with
  | zero =>
    intro s hs
    have hl : s.data.toList = [] := List.eq_nil_of_length_eq_zero (by have := Lib.size_eq s; omega)
    have hi : Lib.indexB s (oneB c) = -1 := by
      rcases Lib.indexB_cases s (oneB c) with h | ⟨i, _, h⟩
      · exact h
      · have : (oneB c).size = 1 := rfl
        omega
    rw [Lib.countB_miss s _ hi, Lib.splitB_zero, hl]
    show [s] = [⟨([] : List UInt8).toArray⟩]
    rw [← hl, ba_eta]
  | succ m ih =>
    intro s hs
    have hsz : (oneB c).size = 1 := rfl
    rcases Lib.indexB_cases s (oneB c) with hi | ⟨i, hi, hr⟩
    · have h2 : Lib.indexByte s.data.toList c = -1 := by rw [← Lib.index_one]; exact hi
      rw [Lib.countB_miss s _ hi, Lib.splitB_zero, cutL_none (Lib.indexByte_none h2)]
      show [s] = [⟨s.data.toList.toArray⟩]
      rw [ba_eta]
    · have h2 : Lib.indexByte s.data.toList c = i := by rw [← Lib.index_one]; exact hi
      obtain ⟨h3, h4⟩ := Lib.indexByte_some h2
      have hex : (s.extract (i + 1) s.size).data.toList = s.data.toList.drop (i + 1) := by
        obtain ⟨⟨ls⟩⟩ := s
        rw [ByteArray.extract_mk]
        show (List.take (ls.length - (i + 1)) (List.drop (i + 1) ls)) = ls.drop (i + 1)
        exact List.take_of_length_le (by simp)
      have hex0 : s.extract 0 i = ⟨(s.data.toList.take i).toArray⟩ := by
        have h5 : (s.extract 0 i).data.toList = s.data.toList.take i := by
          obtain ⟨⟨ls⟩⟩ := s
          rw [ByteArray.extract_mk]
          rfl
        rw [← h5, ba_eta]
      have hsx : (s.extract (i + 1) s.size).size ≤ m := by
        rw [Lib.size_eq, hex, List.length_drop, ← Lib.size_eq]; omega
      rw [Lib.countB_hit s _ i (by omega) hi, Nat.add_comm 1, Lib.splitB_hit _ _ _ _ i hi, hsz, ih _ hsx, hex, cutL_hit h3 h4, List.map_cons, Nat.add_zero, hex0]

/-! ### Numbers -/
def numV (s : List UInt8) : Int := match Lib.atoiAll s with
  | .ok v => v
  | .range => Lib.atoiSat s
  | _ => 0
def numOk (s : List UInt8) : Bool := match Lib.atoiAll s with
  | .ok v => decide (0 ≤ v ∧ Lib.decDigits v.toNat = s)
  | _ => false
theorem numOk_is {s : List UInt8} (h : numOk s = true) : ∃ n : Nat, numV s = (n : Int) ∧ Lib.decDigits n = s := by
  unfold numOk at h
  unfold numV
  cases ha : Lib.atoiAll s with
  | ok v =>
    rw [ha] at h
    obtain ⟨h1, h2⟩ := of_decide_eq_true h
    exact ⟨v.toNat, by simp only; omega, h2⟩
  | _ => rw [ha] at h; cases h
/-! ### A line -/
def lineDo (b : Bk) (ws : List (List UInt8)) : Bk × Int :=
  if ws.tail.all numOk = false then (b, 2) else
  if ws.head? = some [115] ∧ ws.tail.length = 3 then bkSet b (numV (ws.getD 1 [])) (numV (ws.getD 2 [])) (numV (ws.getD 3 [])) else
  if ws.head? = some [100] ∧ ws.tail.length = 2 then bkDrop b (numV (ws.getD 1 [])) (numV (ws.getD 2 [])) else (b, 2)
def lastSp (l : List UInt8) : Int := Lib.lastIndexByte ⟨l.toArray⟩ 32
def bkLine (b : Bk) (l : List UInt8) : Bk × Int :=
  if lastSp l < 0 then (b, 2) else
  if numOk (l.drop ((lastSp l).toNat + 1)) = false then (b, 2) else
  if ¬ numV (l.drop ((lastSp l).toNat + 1)) = (sumB (l.take (lastSp l).toNat) : Int) then (b, 6) else lineDo b (cutL 32 (l.take (lastSp l).toNat))
theorem lastSp_lt {l : List UInt8} (h : ¬ lastSp l < 0) : (lastSp l).toNat < l.length ∧ lastSp l = ((lastSp l).toNat : Int) := by
  unfold lastSp at *
  have hs : (⟨l.toArray⟩ : ByteArray).size = l.length := rfl
  rcases Lib.lastIdx_spec ⟨l.toArray⟩ 32 (⟨l.toArray⟩ : ByteArray).size with ⟨h1, -⟩ | ⟨i, hi, h1, -⟩
  · exact absurd (show Lib.lastIndexByte ⟨l.toArray⟩ 32 = -1 from h1) (by omega)
  · have h2 : Lib.lastIndexByte ⟨l.toArray⟩ 32 = i := h1
    rw [h2]; omega
theorem BkOk.line {b : Bk} (h : BkOk b) (l : List UInt8) : BkOk (bkLine b l).1 := by
  unfold bkLine
  split
  · exact h
  · split
    · exact h
    · split
      · exact h
      · unfold lineDo
        split
        · exact h
        · split
          · exact h.set ..
          · split
            · exact h.drop ..
            · exact h
end Go.Proofs.YtbcfcjecobihnaaGreatDoor

end

section
/- Contracts of the shelf, laid by the kit's own tool (lay-shelf, lay-plain), its numbers turned to names. -/
namespace Go.Proofs.YtbcfcjecobihnaaGreatDoor
open Go.Shelf Go.Proofs Go.Sort Go.RowKit Go.Lib
def shelf_laysC172_ren : Go.Shelf.Ren := ⟨fun | 172 => 87 | 244 => 113 | 245 => 114 | 247 => 130 | 279 => 131 | 280 => 132 | 281 => 133 | 282 => 134 | 287 => 144 | 316 => 145 | 171 => 65 | 205 => 146 | 321 => 155 | 322 => 156 | 243 => 93 | 246 => 121 | 283 => 139 | 284 => 140 | 285 => 141 | 286 => 142 | 129 => 103 | 317 => 151 | 318 => 152 | 319 => 153 | 320 => 154 | 337 => 158 | 338 => 159 | n => n, fun | 9 => 9 | 3 => 3 | 75 => 28 | 76 => 94 | 4 => 4 | 5 => 5 | 167 => 185 | 37 => 31 | 0 => 0 | 85 => 186 | 2 => 2 | 168 => 188 | 53 => 151 | 175 => 200 | 46 => 111 | 210 => 203 | 127 => 101 | 145 => 210 | 143 => 208 | 21 => 21 | 171 => 193 | 173 => 195 | 212 => 205 | 51 => 149 | 20 => 20 | 213 => 206 | 232 => 217 | 233 => 218 | 80 => 26 | n => n, fun | 15 => 2 | 16 => 3 | 17 => 4 | 18 => 7 | 19 => 8 | n => n⟩
theorem shelf_laysC172 : Go.Proofs.LaysC.n172 Tryz.prog shelf_laysC172_ren := {
  mixed := by kernel_rfl
  f129 := Tryz.func103.trans (congrArg some (by kernel_rfl))
  f171 := Tryz.func65.trans (congrArg some (by kernel_rfl))
  f172 := Tryz.func87.trans (congrArg some (by kernel_rfl))
  f205 := Tryz.func146.trans (congrArg some (by kernel_rfl))
  f243 := Tryz.func93.trans (congrArg some (by kernel_rfl))
  f244 := Tryz.func113.trans (congrArg some (by kernel_rfl))
  f245 := Tryz.func114.trans (congrArg some (by kernel_rfl))
  f246 := Tryz.func121.trans (congrArg some (by kernel_rfl))
  f247 := Tryz.func130.trans (congrArg some (by kernel_rfl))
  f279 := Tryz.func131.trans (congrArg some (by kernel_rfl))
  f280 := Tryz.func132.trans (congrArg some (by kernel_rfl))
  f281 := Tryz.func133.trans (congrArg some (by kernel_rfl))
  f282 := Tryz.func134.trans (congrArg some (by kernel_rfl))
  f283 := Tryz.func139.trans (congrArg some (by kernel_rfl))
  f284 := Tryz.func140.trans (congrArg some (by kernel_rfl))
  f285 := Tryz.func141.trans (congrArg some (by kernel_rfl))
  f286 := Tryz.func142.trans (congrArg some (by kernel_rfl))
  f287 := Tryz.func144.trans (congrArg some (by kernel_rfl))
  f316 := Tryz.func145.trans (congrArg some (by kernel_rfl))
  f317 := Tryz.func151.trans (congrArg some (by kernel_rfl))
  f318 := Tryz.func152.trans (congrArg some (by kernel_rfl))
  f319 := Tryz.func153.trans (congrArg some (by kernel_rfl))
  f320 := Tryz.func154.trans (congrArg some (by kernel_rfl))
  f321 := Tryz.func155.trans (congrArg some (by kernel_rfl))
  f322 := Tryz.func156.trans (congrArg some (by kernel_rfl))
  f337 := Tryz.func158.trans (congrArg some (by kernel_rfl))
  f338 := Tryz.func159.trans (congrArg some (by kernel_rfl))
  t0 := Tryz.underlying0
  a0 := Tryz.isAgg0
  z0 := Tryz.sizeOf0
  v0 := Tryz.zeroValue0
  t2 := Tryz.underlying2
  a2 := Tryz.isAgg2
  z2 := Tryz.sizeOf2
  v2 := Tryz.zeroValue2
  t3 := Tryz.underlying3
  a3 := Tryz.isAgg3
  z3 := Tryz.sizeOf3
  v3 := Tryz.zeroValue3
  t4 := Tryz.underlying4
  a4 := Tryz.isAgg4
  z4 := Tryz.sizeOf4
  v4 := Tryz.zeroValue4
  t5 := Tryz.underlying5
  a5 := Tryz.isAgg5
  z5 := Tryz.sizeOf5
  v5 := Tryz.zeroValue5
  t9 := Tryz.underlying9
  a9 := Tryz.isAgg9
  z9 := Tryz.sizeOf9
  v9 := Tryz.zeroValue9
  t20 := Tryz.underlying20
  a20 := Tryz.isAgg20
  z20 := Tryz.sizeOf20
  v20 := Tryz.zeroValue20
  t21 := Tryz.underlying21
  a21 := Tryz.isAgg21
  z21 := Tryz.sizeOf21
  v21 := Tryz.zeroValue21
  t37 := Tryz.underlying31
  a37 := Tryz.isAgg31
  z37 := Tryz.sizeOf31
  v37 := Tryz.zeroValue31
  t46 := Tryz.underlying111
  a46 := Tryz.isAgg111
  z46 := Tryz.sizeOf111
  v46 := Tryz.zeroValue111
  t51 := Tryz.underlying149
  a51 := Tryz.isAgg149
  z51 := Tryz.sizeOf149
  v51 := Tryz.zeroValue149
  t53 := Tryz.underlying151
  a53 := Tryz.isAgg151
  z53 := Tryz.sizeOf151
  v53 := Tryz.zeroValue151
  t75 := Tryz.underlying28
  a75 := Tryz.isAgg28
  z75 := Tryz.sizeOf28
  v75 := Tryz.zeroValue28
  t76 := Tryz.underlying94
  a76 := Tryz.isAgg94
  z76 := Tryz.sizeOf94
  v76 := Tryz.zeroValue94
  t85 := Tryz.underlying186
  a85 := Tryz.isAgg186
  z85 := Tryz.sizeOf186
  v85 := Tryz.zeroValue186
  t127 := Tryz.underlying101
  a127 := Tryz.isAgg101
  z127 := Tryz.sizeOf101
  v127 := Tryz.zeroValue101
  t143 := Tryz.underlying208
  a143 := Tryz.isAgg208
  z143 := Tryz.sizeOf208
  v143 := Tryz.zeroValue208
  t145 := Tryz.underlying210
  a145 := Tryz.isAgg210
  z145 := Tryz.sizeOf210
  v145 := Tryz.zeroValue210
  t167 := Tryz.underlying185
  a167 := Tryz.isAgg185
  z167 := Tryz.sizeOf185
  v167 := Tryz.zeroValue185
  t168 := Tryz.underlying188
  a168 := Tryz.isAgg188
  z168 := Tryz.sizeOf188
  v168 := Tryz.zeroValue188
  t171 := Tryz.underlying193
  a171 := Tryz.isAgg193
  z171 := Tryz.sizeOf193
  v171 := Tryz.zeroValue193
  t173 := Tryz.underlying195
  a173 := Tryz.isAgg195
  z173 := Tryz.sizeOf195
  v173 := Tryz.zeroValue195
  t175 := Tryz.underlying200
  a175 := Tryz.isAgg200
  z175 := Tryz.sizeOf200
  v175 := Tryz.zeroValue200
  t210 := Tryz.underlying203
  a210 := Tryz.isAgg203
  z210 := Tryz.sizeOf203
  v210 := Tryz.zeroValue203
  t212 := Tryz.underlying205
  a212 := Tryz.isAgg205
  z212 := Tryz.sizeOf205
  v212 := Tryz.zeroValue205
  t213 := Tryz.underlying206
  a213 := Tryz.isAgg206
  z213 := Tryz.sizeOf206
  t232 := Tryz.underlying217
  a232 := Tryz.isAgg217
  z232 := Tryz.sizeOf217
  v232 := Tryz.zeroValue217
  t233 := Tryz.underlying218
  a233 := Tryz.isAgg218
  z233 := Tryz.sizeOf218
  v233 := Tryz.zeroValue218
  g15 := by kernel_rfl
  g16 := by kernel_rfl
  g17 := by kernel_rfl
  g18 := by kernel_rfl
  g19 := by kernel_rfl
  t80 := Tryz.underlying26
  a80 := Tryz.isAgg26
  z80 := Tryz.sizeOf26
  v80 := Tryz.zeroValue26
  i0 := by kernel_rfl
  i2 := by kernel_rfl
  i3 := by kernel_rfl
  i4 := by kernel_rfl
  i5 := by kernel_rfl
  i9 := by kernel_rfl
  i20 := by kernel_rfl
  i21 := by kernel_rfl
  i37 := by kernel_rfl
  i46 := by kernel_rfl
  i51 := by kernel_rfl
  i53 := by kernel_rfl
  i75 := by kernel_rfl
  i76 := by kernel_rfl
  i80 := by kernel_rfl
  i85 := by kernel_rfl
  i127 := by kernel_rfl
  i143 := by kernel_rfl
  i145 := by kernel_rfl
  i167 := by kernel_rfl
  i168 := by kernel_rfl
  i171 := by kernel_rfl
  i173 := by kernel_rfl
  i175 := by kernel_rfl
  i210 := by kernel_rfl
  i212 := by kernel_rfl
  i232 := by kernel_rfl
  i233 := by kernel_rfl
  m15 := by kernel_rfl
  m16 := by kernel_rfl
  m17 := by kernel_rfl
  m18 := by kernel_rfl
  m19 := by kernel_rfl
  c0 := by kernel_rfl
  c2 := by kernel_rfl
  c3 := by kernel_rfl
  c4 := by kernel_rfl
  c5 := by kernel_rfl
  c9 := by kernel_rfl
  c20 := by kernel_rfl
  c21 := by kernel_rfl
  c37 := by kernel_rfl
  c46 := by kernel_rfl
  c51 := by kernel_rfl
  c53 := by kernel_rfl
  c75 := by kernel_rfl
  c76 := by kernel_rfl
  c80 := by kernel_rfl
  c85 := by kernel_rfl
  c127 := by kernel_rfl
  c143 := by kernel_rfl
  c145 := by kernel_rfl
  c167 := by kernel_rfl
  c168 := by kernel_rfl
  c171 := by kernel_rfl
  c173 := by kernel_rfl
  c175 := by kernel_rfl
  c210 := by kernel_rfl
  c212 := by kernel_rfl
  c213 := by kernel_rfl
  c232 := by kernel_rfl
  c233 := by kernel_rfl }
theorem shelf_strconv_Atoi_ok (s : ByteArray) (hmax : s.size ≤ 9223372036854775806) (v : Int) (h : Lib.atoiAll s.data.toList = .ok v) (w : World) :
    Calls Tryz.prog 87 #[.string s] w fun e w' => e = .returned (.tuple #[.int .i64 v, .nilIface]) ∧ (w' = w ∨ ∃ t, w' = Lib.bytesWorld w 5 t) := Any.strconv_Atoi_ok shelf_laysC172 s hmax v h w
theorem shelf_strconv_Atoi_syntax (s : ByteArray) (hlim : s.size ≤ 281474976710656) (h : Lib.atoiAll s.data.toList = Lib.NumEnd.syntax) (ev : Value) (w : World) (hv : w.cell? ⟨2, 0, none⟩ = some ev) (hev : ev = .nilIface ∨ ∃ te pe, ev = .iface te pe) :
    Calls Tryz.prog 87 #[.string s] w fun e w' => ∃ N, e = .returned (.tuple #[.int .i64 (0), .iface 188 (.pointer (some ⟨N, 0, none⟩))]) ∧ w.heap.size ≤ N ∧ w'.heap[N]? = some (.cells #[.string ⟨#[65, 116, 111, 105]⟩, .string s, ev] 203 (0, 0)) ∧ Below w.heap.size w w' := Any.strconv_Atoi_syntax shelf_laysC172 s hlim h ev w hv hev
theorem shelf_strconv_Atoi_range (s : ByteArray) (hlim : s.size ≤ 281474976710656) (h : Lib.atoiAll s.data.toList = .range) (ev : Value) (w : World) (hv : w.cell? ⟨3, 0, none⟩ = some ev) (hev : ev = .nilIface ∨ ∃ te pe, ev = .iface te pe) :
    Calls Tryz.prog 87 #[.string s] w fun e w' => ∃ N, e = .returned (.tuple #[.int .i64 (Lib.atoiSat s.data.toList), .iface 188 (.pointer (some ⟨N, 0, none⟩))]) ∧ w.heap.size ≤ N ∧ w'.heap[N]? = some (.cells #[.string ⟨#[65, 116, 111, 105]⟩, .string s, ev] 203 (0, 0)) ∧ Below w.heap.size w w' := Any.strconv_Atoi_range shelf_laysC172 s hlim h ev w hv hev
end Go.Proofs.YtbcfcjecobihnaaGreatDoor

end

section
/- book.number. -/
namespace Go.Proofs.YtbcfcjecobihnaaGreatDoor
open Go.RowKit
set_option linter.unusedVariables false
set_option linter.unusedSimpArgs false
set_option maxRecDepth 100000

/-- The library's two error variables hold errors. -/
def ErrT (w : World) : Prop := (∃ t p, w.cell? ⟨2, 0, none⟩ = some (.iface t p)) ∧ ∃ t p, w.cell? ⟨3, 0, none⟩ = some (.iface t p)
theorem ErrT.below {w w' : World} {B : Nat} (h : ErrT w) (hb : Below B w w') (h1 : 2 < B) (h2 : 3 < B) : ErrT w' := by
  obtain ⟨⟨t, p, e⟩, t', p', e'⟩ := h
  exact ⟨⟨t, p, (hb.cell (p := ⟨2, 0, none⟩) h1).trans e⟩, t', p', (hb.cell (p := ⟨3, 0, none⟩) h2).trans e'⟩
abbrev bytesOf (l : List UInt8) : ByteArray := ⟨l.toArray⟩
theorem atoi_any (s : List UInt8) (w : World) (hl : s.length ≤ 10000) (hE : ErrT w) :
    Calls Tryz.prog 87 #[.string (bytesOf s)] w fun e w' => (∃ er, e = .returned (.tuple #[.int .i64 (numV s), er]) ∧ ((∃ v, Lib.atoiAll s = .ok v ∧ er = .nilIface) ∨ ((∀ v, Lib.atoiAll s ≠ .ok v) ∧ ∃ t p, er = .iface t p))) ∧ Below w.heap.size w w' := by
  obtain ⟨⟨t, p, e⟩, t', p', e'⟩ := hE
  have hs : (bytesOf s).size = s.length := rfl
  unfold numV
  cases ha : Lib.atoiAll s with
  | ok v =>
    refine (shelf_strconv_Atoi_ok (bytesOf s) (by omega) v ha w).mono ?_
    rintro e w' ⟨rfl, hw⟩
    refine ⟨⟨_, rfl, .inl ⟨v, rfl, rfl⟩⟩, ?_⟩
    rcases hw with rfl | ⟨t, rfl⟩
    · exact Below.refl _ _
    · exact ⟨rfl, rfl, rfl, by rw [Lib.bytesWorld_size]; omega, fun k hk => Lib.bytesWorld_at_old w 5 t k hk⟩
  | range =>
    refine (shelf_strconv_Atoi_range (bytesOf s) (by omega) ha _ w e' (.inr ⟨_, _, rfl⟩)).mono ?_
    rintro e w' ⟨N, rfl, -, -, hb⟩
    exact ⟨⟨_, rfl, .inr ⟨by simp, _, _, rfl⟩⟩, hb⟩
  | _ =>
    refine (shelf_strconv_Atoi_syntax (bytesOf s) (by omega) ha _ w e (.inr ⟨_, _, rfl⟩)).mono ?_
    rintro e w' ⟨N, rfl, -, -, hb⟩
    exact ⟨⟨_, rfl, .inr ⟨by simp, _, _, rfl⟩⟩, hb⟩
theorem atoiAll_le {l : List UInt8} {k : Nat} (h : Lib.atoiAll l = .ok (k : Int)) : k ≤ 9223372036854775807 := by
  cases l with
  | nil => cases h
  | cons c r =>
    simp only [Lib.atoiAll] at h
    split at h
    · cases h
    · cases h
    · rename_i u hu
      split at h
      · cases h
      · rename_i h1
        split at h
        · cases h
        · rename_i h2
          injection h with h
          split at h <;> omega
set_option maxHeartbeats 1000000 in
theorem number_any (s : List UInt8) (w : World) (hl : s.length ≤ 10000) (hE : ErrT w) (hp : PowT w) :
    Calls Tryz.prog 61 #[.string (bytesOf s)] w fun e w' => e = .returned (.tuple #[.int .i64 (numV s), .bool (numOk s)]) ∧ Below w.heap.size w w' := by
  have HAT := Lib.hid (atoi_any s w hl hE)
  have HP := Lib.hid hp
  clear hE hp
  go_enter Tryz.func61, Tryz.ntmps61
  go_wp2_with fail
  refine HAT.out.mono ?_
  rintro e w1 ⟨⟨er, rfl, hor⟩, hb⟩
  have HB1 := Lib.hid hb
  have HP1 := Lib.hid (HP.out.below hb HP.out.pos)
  clear hb HAT
  rcases hor with ⟨v, hv, rfl⟩ | ⟨hv, t, p, rfl⟩
  · have hn : numV s = v := by unfold numV; rw [hv]
    have ho : numOk s = decide (0 ≤ v ∧ Lib.decDigits v.toNat = s) := by unfold numOk; rw [hv]
    rw [hn]
    by_cases h0 : 0 ≤ v
    · obtain ⟨k, rfl⟩ := Int.eq_ofNat_of_zero_le h0
      have hk : k ≤ 9223372036854775807 := atoiAll_le hv
      have hk0 : decide ((0 : Int) ≤ (k : Int)) = true := decide_eq_true (by omega)
      rw [Int.toNat_natCast] at ho
      by_cases he : Lib.decDigits k = s
      · have hoo : numOk s = true := by rw [ho]; exact decide_eq_true ⟨h0, he⟩
        have HO := Lib.hid hoo
        clear ho hoo hv h0
        go_wp2_with fail
        refine (itoa_any k w1 hk HP1.out).mono ?_
        rintro e w2 ⟨rfl, hb⟩
        have HB2 := Lib.hid (HB1.out.trans (hb.mono HB1.out.size))
        clear hb
        rw [he]
        go_wp2
        go_ret2
        rw [hn, HO.out]
        exact ⟨rfl, HB2.out⟩
      · have hoo : numOk s = false := by rw [ho]; exact decide_eq_false fun h => he h.2
        have HO := Lib.hid hoo
        have hbe : (Lib.decDigits k == s) = false := beq_eq_false_iff_ne.2 he
        clear ho hoo hv h0
        go_wp2_with fail
        refine (itoa_any k w1 hk HP1.out).mono ?_
        rintro e w2 ⟨rfl, hb⟩
        have HB2 := Lib.hid (HB1.out.trans (hb.mono HB1.out.size))
        clear hb
        go_wp2
        go_ret2
        rw [hn, HO.out]
        exact ⟨rfl, HB2.out⟩
    · have h0' : decide ((0 : Int) ≤ v) = false := decide_eq_false h0
      have hoo : numOk s = false := by rw [ho]; exact decide_eq_false fun h => h0 h.1
      have HO := Lib.hid hoo
      clear ho hoo hv h0
      go_wp2
      go_ret2
      rw [hn, HO.out]
      exact ⟨rfl, HB1.out⟩
  · have hoo : numOk s = false := by
      unfold numOk
      cases ha : Lib.atoiAll s with
      | ok v => exact absurd ha (hv v)
      | _ => rfl
    have HO := Lib.hid hoo
    obtain ⟨v, hvv⟩ : ∃ v, v = numV s := ⟨_, rfl⟩
    rw [← hvv]
    have HV := Lib.hid hvv
    clear hoo hv hvv
    go_wp2
    go_ret2
    rw [← HV.out, HO.out]
    exact ⟨rfl, HB1.out⟩
end Go.Proofs.YtbcfcjecobihnaaGreatDoor

end

section
/- Contracts of the shelf, laid by the kit's own tool (lay-shelf, lay-plain), its numbers turned to names. -/
namespace Go.Proofs.YtbcfcjecobihnaaGreatDoor
open Go.Shelf Go.Proofs Go.RowKit Go.Lib
def shelf_lays137_ren : Go.Shelf.Ren := ⟨fun | 137 => 58 | 217 => 84 | 266 => 112 | n => n, fun | 9 => 9 | 5 => 5 | 3 => 3 | n => n, fun | n => n⟩
theorem shelf_lays137 : Go.Proofs.Lays.n137 Tryz.prog shelf_lays137_ren := {
  mixed := by kernel_rfl
  f137 := Tryz.func58.trans (congrArg some (by kernel_rfl))
  f217 := Tryz.func84.trans (congrArg some (by kernel_rfl))
  f266 := Tryz.func112.trans (congrArg some (by kernel_rfl))
  t3 := Tryz.underlying3
  a3 := Tryz.isAgg3
  z3 := Tryz.sizeOf3
  v3 := Tryz.zeroValue3
  t5 := Tryz.underlying5
  a5 := Tryz.isAgg5
  z5 := Tryz.sizeOf5
  v5 := Tryz.zeroValue5
  t9 := Tryz.underlying9
  a9 := Tryz.isAgg9
  z9 := Tryz.sizeOf9
  v9 := Tryz.zeroValue9 }
theorem shelf_strings_IndexByte (s : ByteArray) (c : Int) (w : World) :
    Calls Tryz.prog 58 #[.string s, .int .u8 c] w fun e w' => e = .returned (.int .i64 (Lib.indexByte s.data.toList c.toNat.toUInt8)) ∧ w' = w := Any.strings_IndexByte shelf_lays137 s c w
def shelf_lays104_ren : Go.Shelf.Ren := ⟨fun | 104 => 37 | 211 => 59 | 207 => 85 | n => n, fun | 9 => 9 | 4 => 4 | 24 => 72 | 3 => 3 | n => n, fun | n => n⟩
theorem shelf_lays104 : Go.Proofs.Lays.n104 Tryz.prog shelf_lays104_ren := {
  mixed := by kernel_rfl
  f104 := Tryz.func37.trans (congrArg some (by kernel_rfl))
  f207 := Tryz.func85.trans (congrArg some (by kernel_rfl))
  f211 := Tryz.func59.trans (congrArg some (by kernel_rfl))
  t3 := Tryz.underlying3
  a3 := Tryz.isAgg3
  z3 := Tryz.sizeOf3
  v3 := Tryz.zeroValue3
  t4 := Tryz.underlying4
  a4 := Tryz.isAgg4
  z4 := Tryz.sizeOf4
  v4 := Tryz.zeroValue4
  t9 := Tryz.underlying9
  a9 := Tryz.isAgg9
  z9 := Tryz.sizeOf9
  v9 := Tryz.zeroValue9
  t24 := Tryz.underlying72
  a24 := Tryz.isAgg72
  z24 := Tryz.sizeOf72
  v24 := Tryz.zeroValue72 }
theorem shelf_strings_CutSuffix (s p : ByteArray) (w : World) (hs : s.size ≤ 9223372036854775807) :
    Calls Tryz.prog 37 #[.string s, .string p] w fun e w' => e = .returned (.tuple #[.string ⟨(Lib.trimSuffix s.data.toList p.data.toList).toArray⟩, .bool (Lib.hasSuffix s.data.toList p.data.toList)]) ∧ w' = w := Any.strings_CutSuffix shelf_lays104 s p w hs
def shelf_lays149_ren : Go.Shelf.Ren := ⟨fun | 149 => 60 | 222 => 86 | n => n, fun | 9 => 9 | 5 => 5 | 3 => 3 | 4 => 4 | n => n, fun | n => n⟩
theorem shelf_lays149 : Go.Proofs.Lays.n149 Tryz.prog shelf_lays149_ren := {
  mixed := by kernel_rfl
  f149 := Tryz.func60.trans (congrArg some (by kernel_rfl))
  f222 := Tryz.func86.trans (congrArg some (by kernel_rfl))
  t3 := Tryz.underlying3
  a3 := Tryz.isAgg3
  z3 := Tryz.sizeOf3
  v3 := Tryz.zeroValue3
  t4 := Tryz.underlying4
  a4 := Tryz.isAgg4
  z4 := Tryz.sizeOf4
  v4 := Tryz.zeroValue4
  t5 := Tryz.underlying5
  a5 := Tryz.isAgg5
  z5 := Tryz.sizeOf5
  v5 := Tryz.zeroValue5
  t9 := Tryz.underlying9
  a9 := Tryz.isAgg9
  z9 := Tryz.sizeOf9
  v9 := Tryz.zeroValue9 }
theorem shelf_strings_LastIndexByte (s : ByteArray) (c : Int) (hs : s.size < 4611686018427387904) (w : World) :
    Calls Tryz.prog 60 #[.string s, .int .u8 c] w fun e w' => e = .returned (.int .i64 (Lib.lastIndexByte s c)) ∧ w' = w := Any.strings_LastIndexByte shelf_lays149 s c hs w
def shelf_lays102_ren : Go.Shelf.Ren := ⟨fun | 102 => 50 | 209 => 80 | 207 => 85 | n => n, fun | 9 => 9 | 4 => 4 | 3 => 3 | n => n, fun | n => n⟩
theorem shelf_lays102 : Go.Proofs.Lays.n102 Tryz.prog shelf_lays102_ren := {
  mixed := by kernel_rfl
  f102 := Tryz.func50.trans (congrArg some (by kernel_rfl))
  f207 := Tryz.func85.trans (congrArg some (by kernel_rfl))
  f209 := Tryz.func80.trans (congrArg some (by kernel_rfl))
  t3 := Tryz.underlying3
  a3 := Tryz.isAgg3
  z3 := Tryz.sizeOf3
  v3 := Tryz.zeroValue3
  t4 := Tryz.underlying4
  a4 := Tryz.isAgg4
  z4 := Tryz.sizeOf4
  v4 := Tryz.zeroValue4
  t9 := Tryz.underlying9
  a9 := Tryz.isAgg9
  z9 := Tryz.sizeOf9
  v9 := Tryz.zeroValue9 }
theorem shelf_strings_TrimSuffix (s p : ByteArray) (w : World) (hs : s.size ≤ 9223372036854775807) :
    Calls Tryz.prog 50 #[.string s, .string p] w fun e w' => e = .returned (.string ⟨(Lib.trimSuffix s.data.toList p.data.toList).toArray⟩) ∧ w' = w := Any.strings_TrimSuffix shelf_lays102 s p w hs
def shelf_lays146_ren : Go.Shelf.Ren := ⟨fun | 146 => 63 | 221 => 88 | 268 => 115 | 138 => 116 | 143 => 117 | 195 => 135 | 197 => 136 | 218 => 137 | 219 => 138 | 260 => 147 | 217 => 84 | 225 => 148 | 224 => 149 | 267 => 150 | 266 => 112 | 314 => 157 | n => n, fun | 9 => 9 | 31 => 88 | 3 => 3 | 4 => 4 | 0 => 0 | 105 => 191 | 21 => 21 | 5 => 5 | 46 => 111 | 119 => 211 | 139 => 214 | 138 => 213 | 146 => 215 | 51 => 149 | n => n, fun | 1 => 1 | 3 => 5 | 4 => 6 | n => n⟩
theorem shelf_lays146 : Go.Proofs.Lays.n146 Tryz.prog shelf_lays146_ren := {
  mixed := by kernel_rfl
  f138 := Tryz.func116.trans (congrArg some (by kernel_rfl))
  f143 := Tryz.func117.trans (congrArg some (by kernel_rfl))
  f146 := Tryz.func63.trans (congrArg some (by kernel_rfl))
  f195 := Tryz.func135.trans (congrArg some (by kernel_rfl))
  f197 := Tryz.func136.trans (congrArg some (by kernel_rfl))
  f217 := Tryz.func84.trans (congrArg some (by kernel_rfl))
  f218 := Tryz.func137.trans (congrArg some (by kernel_rfl))
  f219 := Tryz.func138.trans (congrArg some (by kernel_rfl))
  f221 := Tryz.func88.trans (congrArg some (by kernel_rfl))
  f224 := Tryz.func149.trans (congrArg some (by kernel_rfl))
  f225 := Tryz.func148.trans (congrArg some (by kernel_rfl))
  f260 := Tryz.func147.trans (congrArg some (by kernel_rfl))
  f266 := Tryz.func112.trans (congrArg some (by kernel_rfl))
  f267 := Tryz.func150.trans (congrArg some (by kernel_rfl))
  f268 := Tryz.func115.trans (congrArg some (by kernel_rfl))
  f314 := Tryz.func157.trans (congrArg some (by kernel_rfl))
  t0 := Tryz.underlying0
  a0 := Tryz.isAgg0
  z0 := Tryz.sizeOf0
  v0 := Tryz.zeroValue0
  t3 := Tryz.underlying3
  a3 := Tryz.isAgg3
  z3 := Tryz.sizeOf3
  v3 := Tryz.zeroValue3
  t4 := Tryz.underlying4
  a4 := Tryz.isAgg4
  z4 := Tryz.sizeOf4
  v4 := Tryz.zeroValue4
  t5 := Tryz.underlying5
  a5 := Tryz.isAgg5
  z5 := Tryz.sizeOf5
  v5 := Tryz.zeroValue5
  t9 := Tryz.underlying9
  a9 := Tryz.isAgg9
  z9 := Tryz.sizeOf9
  v9 := Tryz.zeroValue9
  t21 := Tryz.underlying21
  a21 := Tryz.isAgg21
  z21 := Tryz.sizeOf21
  v21 := Tryz.zeroValue21
  t31 := Tryz.underlying88
  a31 := Tryz.isAgg88
  z31 := Tryz.sizeOf88
  v31 := Tryz.zeroValue88
  t46 := Tryz.underlying111
  a46 := Tryz.isAgg111
  z46 := Tryz.sizeOf111
  v46 := Tryz.zeroValue111
  t51 := Tryz.underlying149
  a51 := Tryz.isAgg149
  z51 := Tryz.sizeOf149
  v51 := Tryz.zeroValue149
  t105 := Tryz.underlying191
  a105 := Tryz.isAgg191
  z105 := Tryz.sizeOf191
  v105 := Tryz.zeroValue191
  t119 := Tryz.underlying211
  a119 := Tryz.isAgg211
  z119 := Tryz.sizeOf211
  t138 := Tryz.underlying213
  a138 := Tryz.isAgg213
  z138 := Tryz.sizeOf213
  v138 := Tryz.zeroValue213
  t139 := Tryz.underlying214
  a139 := Tryz.isAgg214
  z139 := Tryz.sizeOf214
  v139 := Tryz.zeroValue214
  t146 := Tryz.underlying215
  a146 := Tryz.isAgg215
  z146 := Tryz.sizeOf215
  v146 := Tryz.zeroValue215
  g1 := by kernel_rfl
  g3 := by kernel_rfl
  g4 := by kernel_rfl }
theorem shelf_strings_Split (s sep : ByteArray) (m : Int) (w : World) (hs : s.size < 4294967281) (hm : w.cell? ⟨1, 0, none⟩ = some (.int .i64 m)) (h1 : 1 ≤ sep.size) :
    Calls Tryz.prog 63 #[.string s, .string sep] w fun e w' =>
      e = .returned (.slice (some ⟨w.heap.size, 0, none⟩) (Lib.countB s sep + 1) (Lib.countB s sep + 1)) ∧ w' = w.alloc (.cells ((Lib.splitB sep 0 (Lib.countB s sep) s).map Value.string).toArray 9) := Any.strings_Split shelf_lays146 (by kernel_rfl) s sep m w hs hm h1
end Go.Proofs.YtbcfcjecobihnaaGreatDoor

end

section
/- strings.Lines: its iterator, for whatever state a loop over it keeps. -/
namespace Go.Proofs.YtbcfcjecobihnaaGreatDoor
open Go.RowKit
attribute [local go_sem] Oper.semAt_some
set_option linter.unusedVariables false
set_option linter.unusedSimpArgs false
set_option maxRecDepth 100000

/-! ### The lines of a text -/
def linesOf : List UInt8 → List (List UInt8)
  | [] => []
  | x :: r => if x = 10 then [10] :: linesOf r else match linesOf r with | [] => [[x]] | y :: ys => (x :: y) :: ys
theorem linesOf_none : ∀ {l : List UInt8}, l ≠ [] → (∀ k : Nat, l[k]? ≠ some 10) → linesOf l = [l]
  | [], h, _ => absurd rfl h
  | x :: r, _, h => by
    have h0 : x ≠ 10 := fun e => h 0 (by simp [e])
    rw [linesOf, if_neg h0]
    cases r with
    | nil => rfl
    | cons y ys => rw [linesOf_none (l := y :: ys) (by simp) (fun k => by have := h (k + 1); simpa using this)]
theorem linesOf_hit : ∀ {l : List UInt8} {i : Nat}, l[i]? = some 10 → (∀ k : Nat, k < i → l[k]? ≠ some 10) → linesOf l = l.take (i + 1) :: linesOf (l.drop (i + 1))
  | [], i, h, _ => by simp at h
  | x :: r, 0, h, _ => by
    have : x = 10 := by simpa using h
    rw [linesOf, if_pos this, this]; rfl
  | x :: r, i + 1, h, hn => by
    have h0 : x ≠ 10 := fun e => hn 0 (by omega) (by simp [e])
    have ih := linesOf_hit (l := r) (i := i) (by simpa using h) (fun k hk => by have := hn (k + 1) (by omega); simpa using this)
    rw [linesOf, if_neg h0, ih]
    simp
/-- A loop over the lines: it goes on, or has stopped. -/
def runL {σ τ : Type} (step : σ → List UInt8 → σ ⊕ τ) : σ → List (List UInt8) → σ ⊕ τ
  | s, [] => .inl s
  | s, x :: r => match step s x with
    | .inl s' => runL step s' r
    | .inr t => .inr t
/-- How the loop ends: where all lines have come; where a round has left. -/
def EndL {σ τ : Type} (J : σ → List UInt8 → World → Prop) (Jx : τ → World → Prop) (W : World) : σ ⊕ τ → Prop
  | .inl s => J s [] W
  | .inr t => Jx t W
/-- What a round hands back. -/
def StepL {σ τ : Type} (J : σ → List UInt8 → World → Prop) (Jx : τ → World → Prop) (rest : List UInt8) (e : Ending) (W : World) : σ ⊕ τ → Prop
  | .inl s => e = .returned (.bool true) ∧ J s rest W
  | .inr t => e = .returned (.bool false) ∧ Jx t W
def restSize (gc : Nat) (w : World) : Nat := match w.cell? ⟨gc, 0, none⟩ with
  | some (.string b) => b.size
  | _ => 0
theorem restSize_of {gc : Nat} {w : World} {l : List UInt8} (h : w.cell? ⟨gc, 0, none⟩ = some (.string (bytesOf l))) : restSize gc w = l.length := by
  unfold restSize; rw [h]; rfl
set_option maxHeartbeats 4000000 in
theorem lines_any {σ τ : Type} (step : σ → List UInt8 → σ ⊕ τ) (N l gc : Nat) (J : σ → List UInt8 → World → Prop) (Jx : τ → World → Prop)
    (hcell : ∀ s rest W, J s rest W → W.cell? ⟨gc, 0, none⟩ = some (.string (bytesOf rest)) ∧ W.frozen? ⟨gc, 0, none⟩ = false)
    (hset : ∀ s rest rest' W, J s rest W → J s rest' (W.setCell ⟨gc, 0, none⟩ (.string (bytesOf rest'))))
    (hdrew : ∀ s rest W, J s rest W → J s rest W.drew)
    (hY : ∀ s rest line W, line.length ≤ N → J s rest W → YieldAt Fence.wide 1 Tryz.prog l #[.string (bytesOf line)] W fun e W' => StepL J Jx rest e W' (step s line))
    (s0 : σ) (text : List UInt8) (hN : text.length ≤ N) (hN2 : N ≤ 100000) (W : World) (h0 : J s0 text W) :
    Calls Tryz.prog 57 #[.func (.yield l) #[] #[], .pointer (some ⟨gc, 0, none⟩)] W fun e W' => (∃ v, e = .returned v) ∧ EndL J Jx W' (runL step s0 (linesOf text)) := by
  obtain ⟨R, hR⟩ : ∃ R, R = runL step s0 (linesOf text) := ⟨_, rfl⟩
  rw [← hR]
  have HC := Lib.hid hcell
  have HSET := Lib.hid hset
  have HDR := Lib.hid hdrew
  have HY := Lib.hid hY
  have H0 := Lib.hid h0
  have HR := Lib.hid hR
  clear hcell hset hdrew hY h0 hR
  go_enter Tryz.func57, Tryz.ntmps57
  go_wp2
  go_loopw [3, 4] (fun _ _ wr => ∃ (s : σ) (rest : List UInt8), rest.length ≤ N ∧ Hid (R = runL step s (linesOf rest)) ∧ Hid (J s rest wr)) (fun _ _ wr => restSize gc wr)
  case atStart => exact ⟨s0, text, hN, HR, H0⟩
  case round =>
    obtain ⟨s, rest, hrN, hrun, HJ⟩ := hrel
    obtain ⟨c0, f0⟩ := HC.out _ _ _ HJ.out
    obtain ⟨w1, hw1⟩ : ∃ w1, w1 = wr := ⟨_, rfl⟩
    obtain rfl := hw1
    have hsz : (bytesOf rest).size = rest.length := rfl
    have hrz := restSize_of c0
    cases hre : rest with
    | nil =>
      subst hre
      have hrun2 := hrun.out
      rw [show linesOf [] = [] from rfl, show runL step s [] = .inl s from rfl] at hrun2
      have HR2 := Lib.hid hrun2
      have hd : decide ((0 : Int) < ((bytesOf []).size : Int)) = false := rfl
      clear hrun2
      go_wp2
      go_end0
      rw [HR2.out]
      exact ⟨⟨_, rfl⟩, HJ.out⟩
    | cons y ys =>
      have hpos : 0 < rest.length := by rw [hre]; simp
      have hne : rest ≠ [] := by rw [hre]; simp
      clear hre
      have hpI : (0 : Int) < (rest.length : Int) := by omega
      have hix := shelf_strings_IndexByte (bytesOf rest) 10 w1
      have hix2 : Calls Tryz.prog 58 #[.string (bytesOf rest), .int .u8 10] w1 fun e w' => e = .returned (.int .i64 (Lib.indexByte rest 10)) ∧ w' = w1 := hix
      rcases (by omega : Lib.indexByte rest 10 < 0 ∨ 0 ≤ Lib.indexByte rest 10) with hlt | hge
      · have hi1 : Lib.indexByte rest 10 = -1 := by have := Lib.indexByte_ge rest 10; omega
        have hln := linesOf_none hne (Lib.indexByte_none hi1)
        rw [hi1] at hix2
        have HIX := Lib.hid hix2
        have hrun2 := hrun.out
        rw [hln] at hrun2
        have HR2 := Lib.hid hrun2
        have hk0 : decide ((0 : Int) ≤ (-1 : Int)) = false := by decide
        have HJS := Lib.hid (HSET.out _ _ [] _ HJ.out)
        clear hix hix2 hi1 hln hrun2 hlt hne
        go_wp2_with fail
        refine HIX.out.mono ?_
        rintro e w' ⟨rfl, hw⟩
        rw [hw]
        clear hw HIX
        go_upto_region 6 with fail
        have hy0 := HY.out s [] rest _ hrN HJS.out
        clear c0 f0 HJ
        change Code.wp _ _ _ _ (w1.setCell ⟨gc, 0, none⟩ (.string (bytesOf [])))
        generalize w1.setCell ⟨gc, 0, none⟩ (.string (bytesOf [])) = w3 at *
        obtain ⟨fn, tmps, assign, body, hy, hRI⟩ := hy0
        have HRI := Lib.hid hRI
        clear hRI HJS
        refine (wpIn_wide (n := 2)).1 ?_
        gi_wp2
        refine HRI.out.mono ?_
        rintro e w4 hst
        cases hss : step s rest with
        | inl s' =>
          rw [hss] at hst
          obtain ⟨rfl, hj⟩ := hst
          have HJ4 := Lib.hid hj
          have hrun3 : R = runL step s' (linesOf []) := by
            have := HR2.out
            unfold runL at this
            rw [hss] at this
            exact this
          have HR3 := Lib.hid hrun3
          have HZ := Lib.hid (restSize_of (HC.out _ _ _ hj).1)
          have HZ0 := Lib.hid hrz
          clear hj hrun3 hss
          gi_wp2
          go_wp2
          go_roundw
          case rel => exact ⟨s', [], (by first | (simp; omega) | simp), HR3, HJ4⟩
          case measure => rw [HZ.out, HZ0.out]; first | (simp; omega) | simpa using hpos
        | inr t =>
          rw [hss] at hst
          obtain ⟨rfl, hj⟩ := hst
          have HJ4 := Lib.hid hj
          have hrun3 : R = .inr t := by
            have := HR2.out
            unfold runL at this
            rw [hss] at this
            exact this
          have HR3 := Lib.hid hrun3
          clear hj hrun3 hss
          gi_wp2
          go_wp2
          try simp only [Exit.inBlock, Exit.then]
          refine bodyPost_ret (results_none rfl _ _ _) rfl ?_
          rw [HR3.out]
          exact ⟨⟨_, rfl⟩, HJ4.out⟩
      · obtain ⟨k, hk⟩ := Int.eq_ofNat_of_zero_le hge
        obtain ⟨g1, g2⟩ := Lib.indexByte_some hk
        have hln := linesOf_hit g1 g2
        have hkl : k < rest.length := (List.getElem?_eq_some_iff.1 g1).1
        rw [hk] at hix2
        have HIX := Lib.hid hix2
        have hrun2 := hrun.out
        rw [hln] at hrun2
        have HR2 := Lib.hid hrun2
        obtain ⟨k1, hkk⟩ : ∃ k1, k1 = k + 1 := ⟨_, rfl⟩
        have hkI : (k : Int) + 1 = (k1 : Int) := by omega
        have hk0 : decide ((0 : Int) ≤ (k : Int)) = true := decide_eq_true (by omega)
        have hk1l : (k1 : Int) ≤ (rest.length : Int) := by omega
        have hk10 : (0 : Int) ≤ (k1 : Int) := by omega
        have hxd : (bytesOf rest).extract k1 rest.length = bytesOf (rest.drop k1) := by
          rw [ByteArray.extract_mk]
          show (⟨(List.take (rest.length - k1) (List.drop k1 rest)).toArray⟩ : ByteArray) = _
          rw [List.take_of_length_le (by simp)]
        have hxt : (bytesOf rest).extract 0 k1 = bytesOf (rest.take k1) := by
          rw [ByteArray.extract_mk]; rfl
        have HKK := Lib.hid hkk
        have hkN : k < 100000 := by omega
        have hkw : IntKind.i64.wrap (k1 : Int) = (k1 : Int) := by simp [IntKind.wrap, IntKind.bits, IntKind.signed]; omega
        clear hix hix2 hk g1 g2 hln hrun2 hge hkk hne
        go_wp2_with fail
        refine HIX.out.mono ?_
        rintro e w' ⟨rfl, hw⟩
        rw [hw]
        clear hw HIX
        go_upto_region 4 with fail
        go_still_tail 9, (by kernel_rfl)
        change wpList _ _ _ _ _ w1.drew
        have HJD := Lib.hid (HDR.out _ _ _ HJ.out)
        obtain ⟨d0, d1⟩ := HC.out _ _ _ HJD.out
        have HJS := Lib.hid (HSET.out _ _ (rest.drop k1) _ HJD.out)
        clear c0 f0 HJ
        generalize w1.drew = w2 at *
        go_upto_region 6 with fail
        have hy0 := HY.out s (rest.drop k1) (rest.take k1) _ (by rw [List.length_take]; omega) HJS.out
        rw [← HKK.out] at HR2
        generalize w2.setCell ⟨gc, 0, none⟩ (.string (bytesOf (rest.drop k1))) = w3 at *
        obtain ⟨fn, tmps, assign, body, hy, hRI⟩ := hy0
        have HRI := Lib.hid hRI
        clear hRI HJS
        refine (wpIn_wide (n := 2)).1 ?_
        gi_wp2
        refine HRI.out.mono ?_
        rintro e w4 hst
        cases hss : step s (rest.take k1) with
        | inl s' =>
          rw [hss] at hst
          obtain ⟨rfl, hj⟩ := hst
          have HJ4 := Lib.hid hj
          have hrun3 : R = runL step s' (linesOf (rest.drop k1)) := by
            have := HR2.out
            unfold runL at this
            rw [hss] at this
            exact this
          have HR3 := Lib.hid hrun3
          have HZ := Lib.hid (restSize_of (HC.out _ _ _ hj).1)
          have HZ0 := Lib.hid hrz
          clear hj hrun3 hss
          gi_wp2
          go_wp2
          go_roundw
          case rel => exact ⟨s', (rest.drop k1), (by first | (simp; omega) | simp), HR3, HJ4⟩
          case measure => rw [HZ.out, HZ0.out]; first | (simp; omega) | simpa using hpos
        | inr t =>
          rw [hss] at hst
          obtain ⟨rfl, hj⟩ := hst
          have HJ4 := Lib.hid hj
          have hrun3 : R = .inr t := by
            have := HR2.out
            unfold runL at this
            rw [hss] at this
            exact this
          have HR3 := Lib.hid hrun3
          clear hj hrun3 hss
          gi_wp2
          go_wp2
          try simp only [Exit.inBlock, Exit.then]
          refine bodyPost_ret (results_none rfl _ _ _) rfl ?_
          rw [HR3.out]
          exact ⟨⟨_, rfl⟩, HJ4.out⟩
end Go.Proofs.YtbcfcjecobihnaaGreatDoor

end

section
/- 'for line := range strings.Lines(text)': what a loop owes. -/
namespace Go.Proofs.YtbcfcjecobihnaaGreatDoor
open Go.RowKit
set_option linter.unusedVariables false
set_option linter.unusedSimpArgs false
set_option maxRecDepth 100000

/-- How a round leaves the loop. -/
structure Leaves where
  ret : Bool
  id : Nat
def Leaves.exit (t : Leaves) : Exit := if t.ret then .ret else .exit t.id
def Leaves.code (t : Leaves) : Code := if t.ret then .ret else .exit t.id
set_option maxHeartbeats 1000000 in
theorem wp_lines {σ τ : Type} {g : Operand} {p : Tmp} {assign body : Code} {Q : Exit → Act → World → Prop} {a : Act} {w : World} (step : σ → List UInt8 → σ ⊕ τ) (lv : τ → Leaves) (N gc : Nat)
    (hg : a.eval g = .func (Fn.func 57) #[] #[.pointer (some ⟨gc, 0, none⟩)])
    (J : Obj → σ → List UInt8 → World → Prop) (Jx : Obj → τ → World → Prop)
    (hobj : ∀ o s rest W, J o s rest W → W.heap[w.heap.size + 1]? = some o) (hobjx : ∀ o t W, Jx o t W → W.heap[w.heap.size + 1]? = some o)
    (hput : ∀ o o' s rest W, J o s rest W → J o' s rest (W.putObj (w.heap.size + 1) o')) (hputx : ∀ o o' t W, Jx o t W → Jx o' t (W.putObj (w.heap.size + 1) o'))
    (hcell : ∀ o s rest W, J o s rest W → W.cell? ⟨gc, 0, none⟩ = some (.string (bytesOf rest)) ∧ W.frozen? ⟨gc, 0, none⟩ = false)
    (hset : ∀ o s rest rest' W, J o s rest W → J o s rest' (W.setCell ⟨gc, 0, none⟩ (.string (bytesOf rest'))))
    (hdrew : ∀ o s rest W, J o s rest W → J o s rest W.drew)
    (s0 : σ) (text : List UInt8) (hN : text.length ≤ N) (hN2 : N ≤ 100000) (h0 : ∀ o, J o s0 text ((w.alloc (.deferred (some []))).alloc o)) (a₁ : List UInt8 → Act)
    (hassign : ∀ (l : Nat) (line : List UInt8) (W : World) (K : Act → World → Prop), K (a₁ line) W → assign.wpIn (Fence.wide.inRound l) 1 Tryz.prog (Exit.then K (fun _ _ _ => False)) { tmps := a.tmps.setIfInBounds p (.string (bytesOf line)), defers := [] } W)
    (hbody : ∀ (l : Nat) (o : Obj) (s : σ) (rest line : List UInt8) (W : World), line.length ≤ N → J o s rest W → body.wpIn (Fence.wide.inRound l) 1 Tryz.prog (fun e _ W' => match step s line with
      | .inl s' => e = .normal ∧ J o s' rest W'
      | .inr t => e = (lv t).exit ∧ Jx o t W') (a₁ line) W)
    (hdone : ∀ o s W, runL step s0 (linesOf text) = .inl s → J o s [] W → Q .normal { a with defers := { target := .collected w.heap.size, args := #[] } :: a.defers } W)
    (hstop : ∀ o t W, runL step s0 (linesOf text) = .inr t → Jx o t W → (lv t).code.wp Tryz.prog Q { a with defers := { target := .collected w.heap.size, args := #[] } :: a.defers } W) :
    (Code.rangeFunc g #[p] assign body).wp Tryz.prog Q a w := by
  have hro : Fence.wide.round = none := rfl
  refine (wpIn_wide (n := 2)).1 ?_
  refine wpIn_rangeFunc ?_
  intro fn hfn
  rw [hro]
  obtain ⟨rec, hrec⟩ : ∃ rec : LoopState → Option Code → Loop, rec = fun st pe => { state := st, pending := pe, fn, tmps := a.tmps, params := #[p], assign, body, defers := w.heap.size } := ⟨_, rfl⟩
  obtain ⟨W1, hW1⟩ : ∃ W1, (w.alloc (.deferred (some []))).alloc (.loop (rec .ready none)) = W1 := ⟨_, rfl⟩
  have hJ1 : J (.loop (rec .ready none)) s0 text W1 := by rw [← hW1]; exact h0 _
  refine ⟨w.heap.size + 1, [{ target := .collected w.heap.size, args := #[] }], W1, { target := .fn (.func 57) #[.pointer (some ⟨gc, 0, none⟩)], args := #[.func (.yield (w.heap.size + 1)) #[] #[]] }, W1, 57,
    #[.func (.yield (w.heap.size + 1)) #[] #[]] ++ #[.pointer (some ⟨gc, 0, none⟩)], W1, ?_, ?_, ?_, ?_, fun _ => by decide, ?_⟩
  · rw [← hW1, hrec]; exact run_enterLoop_outer _ _ _ _ _
  · simp only [resolve, hg]
    simp [go_sem]
  · intro f' hf'; trivial
  · have eg : ∀ args w, (callFunc 57 args).run Tryz.prog w = .ok (.enter 57 args) w := enters_of Tryz.func57 (by kernel_rfl) rfl
    simp [invoke, go_sem, eg]
  · refine CallsIn.mono (callsIn_wide.2 (lines_any step N (w.heap.size + 1) gc (fun s rest W => J (.loop (rec .ready none)) s rest W) (fun t W => Jx (.loop (rec .done (some (lv t).code))) t W)
      (fun s rest W h => hcell _ s rest W h) (fun s rest rest' W h => hset _ s rest rest' W h) (fun s rest W h => hdrew _ s rest W h) ?_ s0 text hN hN2 W1 hJ1)) ?_
    · intro s rest line W hl hJ
      have hL := hobj _ _ _ _ hJ
      have hlt : w.heap.size + 1 < W.heap.size := (Array.getElem?_eq_some_iff.1 hL).1
      have hy := run_yield (P := Tryz.prog) (args := #[.string (bytesOf line)]) hL (by rw [hrec]; rfl)
      have hy2 : (Instr.yield (w.heap.size + 1) #[.string (bytesOf line)]).run Tryz.prog W = .ok (.round (w.heap.size + 1) fn (a.tmps.setIfInBounds p (.string (bytesOf line))) assign body) W := by
        rw [hrec] at hy
        simpa using hy
      clear hy
      refine ⟨fn, _, assign, body, hy2, roundIn_of_wpIn hfn ?_⟩
      refine hassign _ line W _ ?_
      refine ⟨_, run_beginRound hL (by rw [hrec]), ?_⟩
      have hJ2 := hput _ (.loop { rec .ready none with state := .busy }) _ _ _ hJ
      refine wpIn_mono (hbody _ _ s rest line _ hl hJ2) ?_
      intro e a3 W3 hp
      cases hs : step s line with
      | inl s' =>
        rw [hs] at hp
        obtain ⟨rfl, hj3⟩ := hp
        have hl3 := hobj _ _ _ _ hj3
        have her := run_endRound (P := Tryz.prog) none hl3
        refine ⟨_, _, her, rfl, ?_⟩
        have := hput _ (.loop { rec .ready none with state := .ready, pending := none }) _ _ _ hj3
        rw [hrec] at this ⊢
        exact this
      | inr t =>
        rw [hs] at hp
        obtain ⟨he, hj3⟩ := hp
        have hl3 := hobjx _ _ _ hj3
        have her := run_endRound (P := Tryz.prog) (some (lv t).code) hl3
        have := hputx _ (.loop { rec .ready none with state := .done, pending := some (lv t).code }) _ _ hj3
        subst he
        have hk : (some (lv t).code).isNone = false := rfl
        unfold Leaves.exit
        by_cases hr : (lv t).ret = true
        · rw [if_pos hr]
          have hc : (lv t).code = .ret := by unfold Leaves.code; rw [if_pos hr]
          rw [hc] at her this
          refine ⟨_, _, her, rfl, ?_⟩
          show Jx (.loop (rec .done (some (lv t).code))) t _
          rw [hc]
          rw [hrec] at this ⊢
          exact this
        · rw [if_neg hr]
          have hc : (lv t).code = .exit (lv t).id := by unfold Leaves.code; rw [if_neg hr]
          rw [hc] at her this
          refine ⟨_, _, her, rfl, ?_⟩
          show Jx (.loop (rec .done (some (lv t).code))) t _
          rw [hc]
          rw [hrec] at this ⊢
          exact this
    · rintro e W2 ⟨⟨v, rfl⟩, hend⟩
      cases hrn : runL step s0 (linesOf text) with
      | inl s =>
        rw [hrn] at hend
        have hj : J (.loop (rec .ready none)) s [] W2 := hend
        have := run_endLoop (P := Tryz.prog) (hobj _ _ _ _ hj) (by rw [hrec]; simp)
        refine ⟨none, _, by rw [hrec] at this ⊢; exact this, hdone _ s _ hrn (hput _ (.loop { rec .ready none with state := .exhausted }) _ _ _ hj)⟩
      | inr t =>
        rw [hrn] at hend
        have hj : Jx (.loop (rec .done (some (lv t).code))) t W2 := hend
        have := run_endLoop (P := Tryz.prog) (hobjx _ _ _ hj) (by rw [hrec]; simp)
        refine ⟨some (lv t).code, _, by rw [hrec] at this ⊢; exact this, wpIn_wide.2 (hstop _ t _ hrn (hputx _ (.loop { rec .done (some (lv t).code) with state := .exhausted }) _ _ hj))⟩
end Go.Proofs.YtbcfcjecobihnaaGreatDoor

end
