/- The desk, plain: what a line of a session is answered, and what a session is. -/
import Derived.Test.YtbcfcjecobihnaaGreatDoorPk9
import Derived.Test.YtbcfcjecobihnaaGreatDoorBkTorn
namespace Go.Proofs.YtbcfcjecobihnaaGreatDoor
open Go.RowKit
set_option linter.unusedVariables false
set_option linter.unusedSimpArgs false

def okT : List UInt8 := [111, 107]
def badT : List UInt8 := [98, 97, 100]
def setT : List UInt8 := [115, 101, 116]
def dropT : List UInt8 := [100, 114, 111, 112]
def findT : List UInt8 := [102, 105, 110, 100]
def manyT : List UInt8 := [109, 97, 110, 121]
def crashT : List UInt8 := [99, 114, 97, 115, 104]
def foundT : List UInt8 := [102, 111, 117, 110, 100, 32]
def tooT : List UInt8 := [116, 111, 111, 32, 108, 111, 110, 103, 10]
/-- The name of an error number; ok. -/
def errT (c : Int) : List UInt8 :=
  if c = 0 then okT else
  if c = 1 then [69, 114, 114, 82, 97, 110, 103, 101] else
  if c = 2 then [69, 114, 114, 83, 121, 110, 116, 97, 120] else
  if c = 3 then [69, 114, 114, 83, 104, 97, 112, 101] else
  if c = 4 then [69, 114, 114, 70, 117, 108, 108] else
  if c = 5 then [69, 114, 114, 78, 111, 110, 101] else
  if c = 6 then [69, 114, 114, 67, 108, 97, 115, 104] else
  if c = 7 then [69, 114, 114, 83, 116, 97, 116, 101] else [69, 114, 114, 110, 111]
/-- A number of a session. -/
def numW (s : List UInt8) : Bool := numOk s && decide (s.length ≤ 7)
def findA (b : Bk) (a : Int) : List UInt8 :=
  if (findR b.1 a).2.2 = 0 then Lib.decDigits (findR b.1 a).1.toNat ++ 32 :: Lib.decDigits (findR b.1 a).2.1.toNat else errT (findR b.1 a).2.2
def crashD (b : Bk) (n : Int) : Bk × List UInt8 := match openB (b.2.1.take n.toNat) with
  | (some o, many, _) => (o, foundT ++ Lib.decDigits many)
  | (none, _, c) => (b, errT c)
def verbD (b : Bk) (v : List UInt8) (l : List (List UInt8)) : Bk × List UInt8 :=
  if l.all numW = false then (b, badT) else
  if v = setT ∧ l.length = 3 then ((bkSet b (numV (l.getD 0 [])) (numV (l.getD 1 [])) (numV (l.getD 2 []))).1, errT (bkSet b (numV (l.getD 0 [])) (numV (l.getD 1 [])) (numV (l.getD 2 []))).2) else
  if v = dropT ∧ l.length = 2 then ((bkDrop b (numV (l.getD 0 [])) (numV (l.getD 1 []))).1, errT (bkDrop b (numV (l.getD 0 [])) (numV (l.getD 1 []))).2) else
  if v = findT ∧ l.length = 1 then (b, findA b (numV (l.getD 0 []))) else
  if v = manyT ∧ l.length = 0 then (b, Lib.decDigits b.1.length) else
  if v = crashT ∧ l.length = 1 then crashD b (numV (l.getD 0 [])) else (b, badT)
/-- A line's answer. -/
def ansD (b : Bk) (line : List UInt8) : Bk × List UInt8 := verbD b ((cutL 32 line).headD []) (cutL 32 line).tail
def dskStep (s : Bk × List UInt8) (line : List UInt8) : Bk × List UInt8 :=
  ((ansD s.1 (Lib.trimSuffix line [10])).1, s.2 ++ (ansD s.1 (Lib.trimSuffix line [10])).2 ++ [10])
def sesD (s : Bk × List UInt8) (ls : List (List UInt8)) : Bk × List UInt8 := ls.foldl dskStep s
abbrev bk0 : Bk := ([], [], 0)
/-- A session. -/
def runD (text : List UInt8) : List UInt8 := if 3000 < text.length then tooT else (sesD (bk0, []) (linesOf text)).2

/-! ### A loop that goes on -/
theorem runL_fold {σ τ : Type} (f : σ → List UInt8 → σ) : ∀ (ls : List (List UInt8)) (s : σ), runL (fun s x => (.inl (f s x) : σ ⊕ τ)) s ls = .inl (ls.foldl f s)
  | [], s => rfl
  | x :: r, s => by rw [runL]; exact runL_fold f r (f s x)
theorem openB_some {t : List UInt8} {o : Bk} {n : Nat} {c : Int} (h : openB t = (some o, n, c)) : c = 0 := by
  unfold openB at h
  split at h
  · simp at h
  · split at h
    · simp only [Prod.mk.injEq] at h; exact h.2.2.symm
    · simp only [Prod.mk.injEq] at h; exact h.2.2.symm
    · simp at h

/-! ### Lines -/
def EndN (l : List UInt8) : Prop := l = [] ∨ ∃ A, l = A ++ [10]
theorem EndN.tail {x : UInt8} {r : List UInt8} (h : EndN (x :: r)) : EndN r := by
  rcases h with h | ⟨A, h⟩
  · cases h
  · cases A with
    | nil => simp only [List.nil_append, List.cons.injEq] at h; exact .inl h.2
    | cons y A => simp only [List.cons_append, List.cons.injEq] at h; exact .inr ⟨A, h.2⟩
theorem linesOf_ne {x : UInt8} {r : List UInt8} : linesOf (x :: r) ≠ [] := by
  unfold linesOf
  split
  · simp
  · split <;> simp
theorem linesOf_append : ∀ {A B : List UInt8}, EndN A → linesOf (A ++ B) = linesOf A ++ linesOf B
  | [], B, _ => rfl
  | x :: r, B, h => by
    have ih := linesOf_append (B := B) h.tail
    rw [List.cons_append]
    by_cases hx : x = 10
    · rw [linesOf, if_pos hx, linesOf, if_pos hx, ih]; rfl
    · cases r with
      | nil =>
        rcases h with h | ⟨A, h⟩
        · cases h
        · cases A with
          | nil => simp only [List.nil_append, List.cons.injEq] at h; exact absurd h.1 hx
          | cons y A => simp at h
      | cons y r =>
        rw [linesOf, if_neg hx, linesOf, if_neg hx, ih]
        cases hl : linesOf (y :: r) with
        | nil => exact absurd hl linesOf_ne
        | cons z zs => rfl
theorem trim_line (l : List UInt8) : Lib.trimSuffix (l ++ [10]) [10] = l := by
  have k1 : Lib.hasSuffix (l ++ [10]) [10] = true := by
    unfold Lib.hasSuffix
    rw [List.isSuffixOf_iff_suffix]
    exact List.suffix_append _ _
  unfold Lib.trimSuffix
  rw [if_pos k1, List.length_append, List.length_singleton, Nat.add_sub_cancel, List.take_left]
theorem sesD_out (ls : List (List UInt8)) : ∀ (b : Bk) (o : List UInt8), sesD (b, o) ls = ((sesD (b, []) ls).1, o ++ (sesD (b, []) ls).2) := by
  induction ls with
  | nil => intro b o; simp [sesD]
  | cons x r ih =>
    intro b o
    have e : ∀ s, sesD s (x :: r) = sesD (dskStep s x) r := fun s => rfl
    rw [e, e]
    unfold dskStep
    rw [ih, ih _ ([] ++ _ ++ [10])]
    simp
theorem sesD_app (s : Bk × List UInt8) (A B : List (List UInt8)) : sesD s (A ++ B) = sesD (sesD s A) B := List.foldl_append ..

/-! ### Answers hold no end of a line -/
theorem dig_no10 (n : Nat) : (10 : UInt8) ∉ Lib.decDigits n := fun h => by
  have := (dig_bytes n 10 h).1
  exact absurd this (by decide)
theorem errT_no10 (c : Int) : (10 : UInt8) ∉ errT c := by
  unfold errT
  repeat' split
  all_goals decide
theorem errT_ne (c : Int) : errT c ≠ [] := by
  unfold errT
  repeat' split
  all_goals decide
theorem crashD_no10 (b : Bk) (n : Int) : (10 : UInt8) ∉ (crashD b n).2 ∧ (crashD b n).2 ≠ [] := by
  unfold crashD
  split
  · refine ⟨fun h => ?_, by simp [foundT]⟩
    rcases List.mem_append.1 h with h | h
    · exact absurd h (by decide)
    · exact dig_no10 _ h
  · exact ⟨errT_no10 _, errT_ne _⟩
theorem findA_no10 (b : Bk) (a : Int) : (10 : UInt8) ∉ findA b a ∧ findA b a ≠ [] := by
  unfold findA
  split
  · refine ⟨fun h => ?_, by simp⟩
    rcases List.mem_append.1 h with h | h
    · exact dig_no10 _ h
    · rcases List.mem_cons.1 h with h | h
      · exact absurd h (by decide)
      · exact dig_no10 _ h
  · exact ⟨errT_no10 _, errT_ne _⟩
theorem ansD_no10 (b : Bk) (l : List UInt8) : (10 : UInt8) ∉ (ansD b l).2 ∧ (ansD b l).2 ≠ [] := by
  unfold ansD verbD
  split
  · exact ⟨(by decide : (10 : UInt8) ∉ badT), (by decide : badT ≠ [])⟩
  · split
    · exact ⟨errT_no10 _, errT_ne _⟩
    · split
      · exact ⟨errT_no10 _, errT_ne _⟩
      · split
        · exact findA_no10 ..
        · split
          · exact ⟨dig_no10 _, dig_ne _⟩
          · split
            · exact crashD_no10 ..
            · exact ⟨(by decide : (10 : UInt8) ∉ badT), (by decide : badT ≠ [])⟩
theorem sesD_end (ls : List (List UInt8)) (b : Bk) : EndN (sesD (b, []) ls).2 := by
  rcases List.eq_nil_or_concat ls with rfl | ⟨r, x, rfl⟩
  · exact .inl rfl
  · rw [List.concat_eq_append, sesD_app]
    refine .inr ⟨(sesD (b, []) r).2 ++ (ansD (sesD (b, []) r).1 (Lib.trimSuffix x [10])).2, rfl⟩
theorem sesD_cnt (ls : List (List UInt8)) : ∀ (b : Bk), (sesD (b, []) ls).2.count 10 = ls.length := by
  induction ls with
  | nil => intro b; rfl
  | cons x r ih =>
    intro b
    have e : sesD (b, []) (x :: r) = sesD (dskStep (b, []) x) r := rfl
    rw [e]
    unfold dskStep
    rw [sesD_out, List.count_append, ih, List.nil_append, List.count_append, List.count_eq_zero.2 (ansD_no10 _ _).1]
    simp; omega
/-- The lines of a text, counted. -/
theorem linesOf_cnt : ∀ (l : List UInt8), (linesOf l).length = l.count 10 + if l = [] ∨ l.getLast? = some 10 then 0 else 1
  | [] => rfl
  | x :: r => by
    have ih := linesOf_cnt r
    by_cases hx : x = 10
    · subst hx
      rw [linesOf, if_pos rfl, List.length_cons, ih, List.count_cons_self]
      cases r with
      | nil => simp
      | cons y r => simp only [List.getLast?_cons_cons, reduceCtorEq, false_or]; omega
    · rw [linesOf, if_neg hx, List.count_cons_of_ne (fun e => hx (by simpa using e))]
      cases r with
      | nil => simp [linesOf, hx]
      | cons y r =>
        cases hl : linesOf (y :: r) with
        | nil => exact absurd hl linesOf_ne
        | cons z zs =>
          rw [hl] at ih
          simp only [List.getLast?_cons_cons, reduceCtorEq, false_or, List.length_cons] at ih ⊢
          exact ih

/-! ### What the laws say of sessions -/
/-- The answers to a beginning are a beginning of the answers. -/
theorem runD_begins {A B : List UInt8} (hA : EndN A) (hl : (A ++ B).length ≤ 3000) : ∃ z, runD (A ++ B) = runD A ++ z := by
  have h1 : A.length ≤ 3000 := by rw [List.length_append] at hl; omega
  unfold runD
  rw [if_neg (by omega), if_neg (by omega), linesOf_append hA, sesD_app]
  obtain ⟨b, o, hbo⟩ : ∃ b o, sesD (bk0, []) (linesOf A) = (b, o) := ⟨_, _, rfl⟩
  rw [hbo, sesD_out]
  exact ⟨_, rfl⟩
theorem runD_lines {A : List UInt8} (hl : A.length ≤ 3000) : (runD A).count 10 = (linesOf A).length ∧ EndN (runD A) := by
  unfold runD
  rw [if_neg (by omega)]
  exact ⟨sesD_cnt _ _, sesD_end _ _⟩
/-- The book behind a text. -/
def bkD (A : List UInt8) : Bk := (sesD (bk0, []) (linesOf A)).1
theorem bkD_snoc {A x : List UInt8} (hA : EndN A) (hx : (10 : UInt8) ∉ x) : bkD (A ++ (x ++ [10])) = (ansD (bkD A) x).1 := by
  have h1 : linesOf (x ++ [10]) = [x ++ [10]] := by
    have := linesOf_app (x := x) (y := []) (fun k h => hx (List.mem_iff_getElem?.2 ⟨k, h⟩))
    exact this
  unfold bkD
  rw [linesOf_append hA, sesD_app, h1]
  show (dskStep _ _).1 = _
  unfold dskStep
  rw [trim_line]
theorem runD_snoc {A x : List UInt8} (hA : EndN A) (hx : (10 : UInt8) ∉ x) (hl : (A ++ (x ++ [10])).length ≤ 3000) : ∃ P, EndN P ∧ runD (A ++ (x ++ [10])) = P ++ ((ansD (bkD A) x).2 ++ [10]) := by
  have h1 : linesOf (x ++ [10]) = [x ++ [10]] := by
    have := linesOf_app (x := x) (y := []) (fun k h => hx (List.mem_iff_getElem?.2 ⟨k, h⟩))
    exact this
  refine ⟨(sesD (bk0, []) (linesOf A)).2, sesD_end _ _, ?_⟩
  unfold runD bkD
  rw [if_neg (by omega), linesOf_append hA, sesD_app, h1]
  show (dskStep _ _).2 = _
  unfold dskStep
  rw [trim_line, List.append_assoc]
/-! ### What is so of each session's book -/
def FineB (b : Bk) : Prop := SrtR b.1 ∧ BkOk b ∧ ∃ ops, Made b ops
theorem app_srt {b : Bk} (h : SrtR b.1) (op : BOp) : SrtR (op.app b).1.1 := by
  cases op with
  | set a n x =>
    show SrtR (bkSet b _ _ _).1.1
    unfold bkSet setRR
    repeat' split
    all_goals first | exact h | exact setL_srt h
  | drop a n =>
    show SrtR (bkDrop b _ _).1.1
    unfold bkDrop dropR
    repeat' split
    all_goals first | exact h | exact dropL_srt h
theorem runOps_srt : ∀ {ops : List BOp} {b0 b : Bk}, SrtR b0.1 → runOps b0 ops = some b → SrtR b.1
  | [], b0, b, h, e => by simp only [runOps, Option.some.injEq] at e; exact e ▸ h
  | op :: r, b0, b, h, e => by
    unfold runOps at e
    split at e
    · exact runOps_srt (app_srt h op) e
    · cases e
theorem Made.srt {b : Bk} {ops : List BOp} (h : Made b ops) : SrtR b.1 := runOps_srt (b0 := ([], [], 0)) List.Pairwise.nil h.2
theorem FineB.start : FineB bk0 := ⟨List.Pairwise.nil, ⟨by decide, by decide⟩, [], Made.start⟩
theorem FineB.of {b : Bk} {ops : List BOp} (h : Made b ops) (hk : BkOk b) : FineB b := ⟨h.srt, hk, ops, h⟩
theorem FineB.set {b : Bk} (h : FineB b) (a n x : Int) : FineB (bkSet b a n x).1 := by
  obtain ⟨h1, h2, ops, h3⟩ := h
  by_cases hz : (bkSet b a n x).2 = 0
  · obtain ⟨op, ho, e⟩ := set_op hz
    have := h3.next ho (by rw [e]; exact hz)
    rw [e] at this
    exact FineB.of this (h2.set ..)
  · rw [bkSet_err hz]; exact ⟨h1, h2, ops, h3⟩
theorem FineB.drop {b : Bk} (h : FineB b) (a n : Int) : FineB (bkDrop b a n).1 := by
  obtain ⟨h1, h2, ops, h3⟩ := h
  by_cases hz : (bkDrop b a n).2 = 0
  · obtain ⟨op, ho, e⟩ := drop_op hz
    have := h3.next ho (by rw [e]; exact hz)
    rw [e] at this
    exact FineB.of this (h2.drop ..)
  · rw [bkDrop_err hz]; exact ⟨h1, h2, ops, h3⟩
theorem crash_open {b : Bk} {O : List BOp} (h : Made b O) (hok : BkOk b) (n : Nat) : ∃ (k : Nat) (o : Bk), Made o (O.take k) ∧ openB (b.2.1.take n) = (some o, k, 0) ∧ o.2.2 = k ∧ k ≤ b.2.2 := by
  obtain ⟨k, tl, h1, h2, h3, h4⟩ := torn O n
  obtain ⟨o, ho⟩ := made_of_take h k
  have e1 := h.text.1
  have e2 := h.text.2
  have e3 := ho.text
  rw [List.length_take, Nat.min_eq_left h1] at e3
  have hlen := text_short h.1
  have hl2 : (textOf (O.take k) ++ tl).length ≤ 2000 := by
    rw [← h2]
    have := hok.2
    rw [List.length_take]; omega
  refine ⟨k, o, ho, ?_, e3.2, by omega⟩
  rw [e1, h2]
  have := open_made ho (by rw [e3.2]; have := hok.2; omega) h3 hl2
  rw [e3.2] at this
  exact this
theorem made_ok {b : Bk} {ops : List BOp} (h : Made b ops) (hn : b.2.2 ≤ 60) : BkOk b := by
  obtain ⟨e1, e2⟩ := h.text
  have := text_short h.1
  exact ⟨by rw [e1, e2]; omega, hn⟩
theorem FineB.crash {b : Bk} (h : FineB b) (n : Int) : FineB (crashD b n).1 := by
  obtain ⟨h1, h2, O, h3⟩ := h
  obtain ⟨k, o, e1, e2, e3, e4⟩ := crash_open h3 h2 n.toNat
  unfold crashD
  rw [e2]
  exact FineB.of e1 (made_ok e1 (by have := h2.2; show o.2.2 ≤ 60; omega))
theorem FineB.ans {b : Bk} (h : FineB b) (l : List UInt8) : FineB (ansD b l).1 := by
  unfold ansD verbD
  split
  · exact h
  · split
    · exact h.set ..
    · split
      · exact h.drop ..
      · split
        · exact h
        · split
          · exact h
          · split
            · exact h.crash _
            · exact h
theorem FineB.ses (ls : List (List UInt8)) : ∀ {s : Bk × List UInt8}, FineB s.1 → FineB (sesD s ls).1 := by
  induction ls with
  | nil => intro s h; exact h
  | cons x r ih => intro s h; exact ih (h.ans _)
theorem bkD_fine (A : List UInt8) : FineB (bkD A) := FineB.ses _ FineB.start
/-! ### The lines that the laws put behind -/
theorem numW_dig {n : Nat} (h : n ≤ 9999999) : numW (Lib.decDigits n) = true ∧ numV (Lib.decDigits n) = (n : Int) := by
  obtain ⟨h1, h2⟩ := dig_num n (by omega)
  have h3 := dig_short 7 n (by omega) (by omega)
  refine ⟨?_, h1⟩
  unfold numW
  rw [h2, decide_eq_true h3]; rfl
theorem cutL_dig (n : Nat) : cutL 32 (Lib.decDigits n) = [Lib.decDigits n] := cutL_none (dig_no n (by decide))
def setLn (a h : Nat) : List UInt8 := setT ++ 32 :: (Lib.decDigits a ++ 32 :: (Lib.decDigits 16 ++ 32 :: Lib.decDigits h))
def findLn (a : Nat) : List UInt8 := findT ++ 32 :: Lib.decDigits a
def crashLn : List UInt8 := crashT ++ 32 :: Lib.decDigits 9999999
theorem no_of_all {v : List UInt8} {c : UInt8} (h : c ∉ v) : ∀ k : Nat, v[k]? ≠ some c := fun k hk => h (List.mem_iff_getElem?.2 ⟨k, hk⟩)
theorem setLn_no (a h : Nat) : (10 : UInt8) ∉ setLn a h := by
  unfold setLn setT
  simp only [List.mem_append, List.mem_cons, List.not_mem_nil, or_false, not_or]
  exact ⟨by decide, by decide, dig_no10 _, by decide, dig_no10 _, by decide, dig_no10 _⟩
theorem findLn_no (a : Nat) : (10 : UInt8) ∉ findLn a := by
  unfold findLn findT
  simp only [List.mem_append, List.mem_cons, List.not_mem_nil, or_false, not_or]
  exact ⟨by decide, by decide, dig_no10 _⟩
theorem crashLn_no : (10 : UInt8) ∉ crashLn := by
  unfold crashLn crashT
  simp only [List.mem_append, List.mem_cons, List.not_mem_nil, or_false, not_or]
  exact ⟨by decide, by decide, dig_no10 _⟩
theorem ans_set (b : Bk) {a h : Nat} (ha : a ≤ 65535) (hh : h ≤ 9) : ansD b (setLn a h) = ((bkSet b a 16 h).1, errT (bkSet b a 16 h).2) := by
  have c1 : cutL 32 (setLn a h) = [setT, Lib.decDigits a, Lib.decDigits 16, Lib.decDigits h] := by
    unfold setLn
    rw [cutL_app (no_of_all (by decide)), cutL_app (dig_no a (by decide)), cutL_app (dig_no 16 (by decide)), cutL_dig]
  unfold ansD
  rw [c1]
  obtain ⟨a1, a2⟩ := numW_dig (n := a) (by omega)
  obtain ⟨b1, b2⟩ := numW_dig (n := 16) (by omega)
  obtain ⟨d1, d2⟩ := numW_dig (n := h) (by omega)
  unfold verbD
  rw [List.tail_cons, List.headD_cons, if_neg (by simp [a1, b1, d1]), if_pos ⟨rfl, rfl⟩]
  simp only [List.getD_cons_zero, List.getD_cons_succ, a2, b2, d2]
  rfl
theorem ans_find (b : Bk) {a : Nat} (ha : a ≤ 65535) : ansD b (findLn a) = (b, findA b a) := by
  have c1 : cutL 32 (findLn a) = [findT, Lib.decDigits a] := by
    unfold findLn
    rw [cutL_app (no_of_all (by decide)), cutL_dig]
  unfold ansD
  rw [c1]
  obtain ⟨a1, a2⟩ := numW_dig (n := a) (by omega)
  unfold verbD
  rw [List.tail_cons, List.headD_cons, if_neg (by simp [a1]), if_neg (by simp), if_neg (by simp), if_pos ⟨rfl, rfl⟩]
  simp only [List.getD_cons_zero, a2]
theorem ans_many (b : Bk) : ansD b manyT = (b, Lib.decDigits b.1.length) := by
  have c1 : cutL 32 manyT = [manyT] := cutL_none (no_of_all (by decide))
  unfold ansD
  rw [c1]
  unfold verbD
  rw [List.tail_cons, List.headD_cons, if_neg (by simp), if_neg (by simp), if_neg (by simp), if_neg (by simp), if_pos ⟨rfl, rfl⟩]
theorem ans_crash {b : Bk} (h : FineB b) : (ansD b crashLn).1 = b := by
  have c1 : cutL 32 crashLn = [crashT, Lib.decDigits 9999999] := by
    unfold crashLn
    rw [cutL_app (no_of_all (by decide)), cutL_dig]
  unfold ansD
  rw [c1]
  obtain ⟨a1, a2⟩ := numW_dig (n := 9999999) (by omega)
  obtain ⟨h1, h2, O, h3⟩ := h
  have hl := text_short h3.1
  obtain ⟨e1, e2⟩ := h3.text
  have h4 := h2.2
  unfold verbD
  rw [List.tail_cons, List.headD_cons, if_neg (by simp [a1]), if_neg (by simp), if_neg (by simp), if_neg (by simp [crashT, findT]), if_neg (by simp), if_pos ⟨rfl, rfl⟩]
  simp only [List.getD_cons_zero, a2]
  unfold crashD
  rw [List.take_of_length_le (by rw [e1]; simp; omega), open_text h3 h4]
end Go.Proofs.YtbcfcjecobihnaaGreatDoor
