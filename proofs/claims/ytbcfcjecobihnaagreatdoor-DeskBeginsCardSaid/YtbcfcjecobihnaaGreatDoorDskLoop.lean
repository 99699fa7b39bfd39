/- strings.Lines once more: the round is told which line it has. -/
import Derived.Test.YtbcfcjecobihnaaGreatDoorPk8
import Derived.Test.YtbcfcjecobihnaaGreatDoorPk9
namespace Go.Proofs.YtbcfcjecobihnaaGreatDoor
open Go.RowKit
attribute [local go_sem] Oper.semAt_some
set_option linter.unusedVariables false
set_option linter.unusedSimpArgs false
set_option maxRecDepth 100000

set_option maxHeartbeats 4000000 in
theorem lines_any2 {σ τ : Type} (step : σ → List UInt8 → σ ⊕ τ) (N l gc : Nat) (J : σ → List UInt8 → World → Prop) (JB : σ → List UInt8 → List UInt8 → World → Prop) (Jx : τ → World → Prop)
    (hcell : ∀ s rest W, J s rest W → W.cell? ⟨gc, 0, none⟩ = some (.string (bytesOf rest)) ∧ W.frozen? ⟨gc, 0, none⟩ = false)
    (hset : ∀ s rest line rest' W, rest = line ++ rest' → line ≠ [] → J s rest W → JB s line rest' (W.setCell ⟨gc, 0, none⟩ (.string (bytesOf rest'))))
    (hdrew : ∀ s rest W, J s rest W → J s rest W.drew)
    (hY : ∀ s rest line W, line.length ≤ N → JB s line rest W → YieldAt Fence.wide 1 Tryz.prog l #[.string (bytesOf line)] W fun e W' => StepL J Jx rest e W' (step s line))
    (s0 : σ) (text : List UInt8) (hN : text.length ≤ N) (hN2 : N ≤ 100000) (W : World) (h0 : J s0 text W) :
    Calls Tryz.prog 57 #[.func (.yield l) #[] #[], .pointer (some ⟨gc, 0, none⟩)] W fun e W' => (∃ v, e = .returned v) ∧ EndL J Jx W' (runL step s0 (linesOf text)) := by
  obtain ⟨R, hR⟩ : ∃ R, R = runL step s0 (linesOf text) := ⟨_, rfl⟩
  rw [← hR]
  have HC := Lib.hid hcell
  have HSET := Lib.hid hset
  have HDR := Lib.hid hdrew
  have HY := Lib.hid hY
  have H0 := Lib.hid h0
  have HR := Lib.hid hR
  clear hcell hset hdrew hY h0 hR
  go_enter Tryz.func57, Tryz.ntmps57
  go_wp2
  go_loopw [3, 4] (fun _ _ wr => ∃ (s : σ) (rest : List UInt8), rest.length ≤ N ∧ Hid (R = runL step s (linesOf rest)) ∧ Hid (J s rest wr)) (fun _ _ wr => restSize gc wr)
  case atStart => exact ⟨s0, text, hN, HR, H0⟩
  case round =>
    obtain ⟨s, rest, hrN, hrun, HJ⟩ := hrel
    obtain ⟨c0, f0⟩ := HC.out _ _ _ HJ.out
    obtain ⟨w1, hw1⟩ : ∃ w1, w1 = wr := ⟨_, rfl⟩
    obtain rfl := hw1
    have hsz : (bytesOf rest).size = rest.length := rfl
    have hrz := restSize_of c0
    cases hre : rest with
    | nil =>
      subst hre
      have hrun2 := hrun.out
      rw [show linesOf [] = [] from rfl, show runL step s [] = .inl s from rfl] at hrun2
      have HR2 := Lib.hid hrun2
      have hd : decide ((0 : Int) < ((bytesOf []).size : Int)) = false := rfl
      clear hrun2
      go_wp2
      go_end0
      rw [HR2.out]
      exact ⟨⟨_, rfl⟩, HJ.out⟩
    | cons y ys =>
      have hpos : 0 < rest.length := by rw [hre]; simp
      have hne : rest ≠ [] := by rw [hre]; simp
      clear hre
      have hpI : (0 : Int) < (rest.length : Int) := by omega
      have hix := shelf_strings_IndexByte (bytesOf rest) 10 w1
      have hix2 : Calls Tryz.prog 58 #[.string (bytesOf rest), .int .u8 10] w1 fun e w' => e = .returned (.int .i64 (Lib.indexByte rest 10)) ∧ w' = w1 := hix
      rcases (by omega : Lib.indexByte rest 10 < 0 ∨ 0 ≤ Lib.indexByte rest 10) with hlt | hge
      · have hi1 : Lib.indexByte rest 10 = -1 := by have := Lib.indexByte_ge rest 10; omega
        have hln := linesOf_none hne (Lib.indexByte_none hi1)
        rw [hi1] at hix2
        have HIX := Lib.hid hix2
        have hrun2 := hrun.out
        rw [hln] at hrun2
        have HR2 := Lib.hid hrun2
        have hk0 : decide ((0 : Int) ≤ (-1 : Int)) = false := by decide
        have HJS := Lib.hid (HSET.out _ rest rest [] _ (by simp) hne HJ.out)
        clear hix hix2 hi1 hln hrun2 hlt hne
        go_wp2_with fail
        refine HIX.out.mono ?_
        rintro e w' ⟨rfl, hw⟩
        rw [hw]
        clear hw HIX
        go_upto_region 6 with fail
        have hy0 := HY.out s [] rest _ hrN HJS.out
        clear c0 f0 HJ
        change Code.wp _ _ _ _ (w1.setCell ⟨gc, 0, none⟩ (.string (bytesOf [])))
        generalize w1.setCell ⟨gc, 0, none⟩ (.string (bytesOf [])) = w3 at *
        obtain ⟨fn, tmps, assign, body, hy, hRI⟩ := hy0
        have HRI := Lib.hid hRI
        clear hRI HJS
        refine (wpIn_wide (n := 2)).1 ?_
        gi_wp2
        refine HRI.out.mono ?_
        rintro e w4 hst
        cases hss : step s rest with
        | inl s' =>
          rw [hss] at hst
          obtain ⟨rfl, hj⟩ := hst
          have HJ4 := Lib.hid hj
          have hrun3 : R = runL step s' (linesOf []) := by
            have := HR2.out
            unfold runL at this
            rw [hss] at this
            exact this
          have HR3 := Lib.hid hrun3
          have HZ := Lib.hid (restSize_of (HC.out _ _ _ hj).1)
          have HZ0 := Lib.hid hrz
          clear hj hrun3 hss
          gi_wp2
          go_wp2
          go_roundw
          case rel => exact ⟨s', [], (by first | (simp; omega) | simp), HR3, HJ4⟩
          case measure => rw [HZ.out, HZ0.out]; first | (simp; omega) | simpa using hpos
        | inr t =>
          rw [hss] at hst
          obtain ⟨rfl, hj⟩ := hst
          have HJ4 := Lib.hid hj
          have hrun3 : R = .inr t := by
            have := HR2.out
            unfold runL at this
            rw [hss] at this
            exact this
          have HR3 := Lib.hid hrun3
          clear hj hrun3 hss
          gi_wp2
          go_wp2
          try simp only [Exit.inBlock, Exit.then]
          refine bodyPost_ret (results_none rfl _ _ _) rfl ?_
          rw [HR3.out]
          exact ⟨⟨_, rfl⟩, HJ4.out⟩
      · obtain ⟨k, hk⟩ := Int.eq_ofNat_of_zero_le hge
        obtain ⟨g1, g2⟩ := Lib.indexByte_some hk
        have hln := linesOf_hit g1 g2
        have hkl : k < rest.length := (List.getElem?_eq_some_iff.1 g1).1
        rw [hk] at hix2
        have HIX := Lib.hid hix2
        have hrun2 := hrun.out
        rw [hln] at hrun2
        have HR2 := Lib.hid hrun2
        obtain ⟨k1, hkk⟩ : ∃ k1, k1 = k + 1 := ⟨_, rfl⟩
        have hkI : (k : Int) + 1 = (k1 : Int) := by omega
        have hk0 : decide ((0 : Int) ≤ (k : Int)) = true := decide_eq_true (by omega)
        have hk1l : (k1 : Int) ≤ (rest.length : Int) := by omega
        have hk10 : (0 : Int) ≤ (k1 : Int) := by omega
        have hxd : (bytesOf rest).extract k1 rest.length = bytesOf (rest.drop k1) := by
          rw [ByteArray.extract_mk]
          show (⟨(List.take (rest.length - k1) (List.drop k1 rest)).toArray⟩ : ByteArray) = _
          rw [List.take_of_length_le (by simp)]
        have hxt : (bytesOf rest).extract 0 k1 = bytesOf (rest.take k1) := by
          rw [ByteArray.extract_mk]; rfl
        have HKK := Lib.hid hkk
        have hkN : k < 100000 := by omega
        have hkw : IntKind.i64.wrap (k1 : Int) = (k1 : Int) := by simp [IntKind.wrap, IntKind.bits, IntKind.signed]; omega
        clear hix hix2 hk g1 g2 hln hrun2 hge hkk hne
        go_wp2_with fail
        refine HIX.out.mono ?_
        rintro e w' ⟨rfl, hw⟩
        rw [hw]
        clear hw HIX
        go_upto_region 4 with fail
        go_still_tail 9, (by kernel_rfl)
        change wpList _ _ _ _ _ w1.drew
        have HJD := Lib.hid (HDR.out _ _ _ HJ.out)
        obtain ⟨d0, d1⟩ := HC.out _ _ _ HJD.out
        have HJS := Lib.hid (HSET.out _ rest (rest.take k1) (rest.drop k1) _ (List.take_append_drop ..).symm (fun h => by have h1 := congrArg List.length h; have h2 := HKK.out; rw [List.length_take, List.length_nil] at h1; omega) HJD.out)
        clear c0 f0 HJ
        generalize w1.drew = w2 at *
        go_upto_region 6 with fail
        have hy0 := HY.out s (rest.drop k1) (rest.take k1) _ (by rw [List.length_take]; omega) HJS.out
        rw [← HKK.out] at HR2
        generalize w2.setCell ⟨gc, 0, none⟩ (.string (bytesOf (rest.drop k1))) = w3 at *
        obtain ⟨fn, tmps, assign, body, hy, hRI⟩ := hy0
        have HRI := Lib.hid hRI
        clear hRI HJS
        refine (wpIn_wide (n := 2)).1 ?_
        gi_wp2
        refine HRI.out.mono ?_
        rintro e w4 hst
        cases hss : step s (rest.take k1) with
        | inl s' =>
          rw [hss] at hst
          obtain ⟨rfl, hj⟩ := hst
          have HJ4 := Lib.hid hj
          have hrun3 : R = runL step s' (linesOf (rest.drop k1)) := by
            have := HR2.out
            unfold runL at this
            rw [hss] at this
            exact this
          have HR3 := Lib.hid hrun3
          have HZ := Lib.hid (restSize_of (HC.out _ _ _ hj).1)
          have HZ0 := Lib.hid hrz
          clear hj hrun3 hss
          gi_wp2
          go_wp2
          go_roundw
          case rel => exact ⟨s', (rest.drop k1), (by first | (simp; omega) | simp), HR3, HJ4⟩
          case measure => rw [HZ.out, HZ0.out]; first | (simp; omega) | simpa using hpos
        | inr t =>
          rw [hss] at hst
          obtain ⟨rfl, hj⟩ := hst
          have HJ4 := Lib.hid hj
          have hrun3 : R = .inr t := by
            have := HR2.out
            unfold runL at this
            rw [hss] at this
            exact this
          have HR3 := Lib.hid hrun3
          clear hj hrun3 hss
          gi_wp2
          go_wp2
          try simp only [Exit.inBlock, Exit.then]
          refine bodyPost_ret (results_none rfl _ _ _) rfl ?_
          rw [HR3.out]
          exact ⟨⟨_, rfl⟩, HJ4.out⟩
set_option maxHeartbeats 1000000 in
theorem wp_lines2 {σ τ : Type} {g : Operand} {p : Tmp} {assign body : Code} {Q : Exit → Act → World → Prop} {a : Act} {w : World} (step : σ → List UInt8 → σ ⊕ τ) (lv : τ → Leaves) (N gc : Nat)
    (hg : a.eval g = .func (Fn.func 57) #[] #[.pointer (some ⟨gc, 0, none⟩)])
    (J : Obj → σ → List UInt8 → World → Prop) (JB : Obj → σ → List UInt8 → List UInt8 → World → Prop) (Jx : Obj → τ → World → Prop)
    (hobj : ∀ o s rest W, J o s rest W → W.heap[w.heap.size + 1]? = some o) (hobjb : ∀ o s line rest W, JB o s line rest W → W.heap[w.heap.size + 1]? = some o) (hobjx : ∀ o t W, Jx o t W → W.heap[w.heap.size + 1]? = some o)
    (hput : ∀ o o' s rest W, J o s rest W → J o' s rest (W.putObj (w.heap.size + 1) o')) (hputb : ∀ o o' s line rest W, JB o s line rest W → JB o' s line rest (W.putObj (w.heap.size + 1) o')) (hputx : ∀ o o' t W, Jx o t W → Jx o' t (W.putObj (w.heap.size + 1) o'))
    (hcell : ∀ o s rest W, J o s rest W → W.cell? ⟨gc, 0, none⟩ = some (.string (bytesOf rest)) ∧ W.frozen? ⟨gc, 0, none⟩ = false)
    (hset : ∀ o s rest line rest' W, rest = line ++ rest' → line ≠ [] → J o s rest W → JB o s line rest' (W.setCell ⟨gc, 0, none⟩ (.string (bytesOf rest'))))
    (hdrew : ∀ o s rest W, J o s rest W → J o s rest W.drew)
    (s0 : σ) (text : List UInt8) (hN : text.length ≤ N) (hN2 : N ≤ 100000) (h0 : ∀ o, J o s0 text ((w.alloc (.deferred (some []))).alloc o)) (a₁ : List UInt8 → Act)
    (hassign : ∀ (l : Nat) (line : List UInt8) (W : World) (K : Act → World → Prop), K (a₁ line) W → assign.wpIn (Fence.wide.inRound l) 1 Tryz.prog (Exit.then K (fun _ _ _ => False)) { tmps := a.tmps.setIfInBounds p (.string (bytesOf line)), defers := [] } W)
    (hbody : ∀ (l : Nat) (o : Obj) (s : σ) (rest line : List UInt8) (W : World), line.length ≤ N → JB o s line rest W → body.wpIn (Fence.wide.inRound l) 1 Tryz.prog (fun e _ W' => match step s line with
      | .inl s' => e = .normal ∧ J o s' rest W'
      | .inr t => e = (lv t).exit ∧ Jx o t W') (a₁ line) W)
    (hdone : ∀ o s W, runL step s0 (linesOf text) = .inl s → J o s [] W → Q .normal { a with defers := { target := .collected w.heap.size, args := #[] } :: a.defers } W)
    (hstop : ∀ o t W, runL step s0 (linesOf text) = .inr t → Jx o t W → (lv t).code.wp Tryz.prog Q { a with defers := { target := .collected w.heap.size, args := #[] } :: a.defers } W) :
    (Code.rangeFunc g #[p] assign body).wp Tryz.prog Q a w := by
  have hro : Fence.wide.round = none := rfl
  refine (wpIn_wide (n := 2)).1 ?_
  refine wpIn_rangeFunc ?_
  intro fn hfn
  rw [hro]
  obtain ⟨rec, hrec⟩ : ∃ rec : LoopState → Option Code → Loop, rec = fun st pe => { state := st, pending := pe, fn, tmps := a.tmps, params := #[p], assign, body, defers := w.heap.size } := ⟨_, rfl⟩
  obtain ⟨W1, hW1⟩ : ∃ W1, (w.alloc (.deferred (some []))).alloc (.loop (rec .ready none)) = W1 := ⟨_, rfl⟩
  have hJ1 : J (.loop (rec .ready none)) s0 text W1 := by rw [← hW1]; exact h0 _
  refine ⟨w.heap.size + 1, [{ target := .collected w.heap.size, args := #[] }], W1, { target := .fn (.func 57) #[.pointer (some ⟨gc, 0, none⟩)], args := #[.func (.yield (w.heap.size + 1)) #[] #[]] }, W1, 57,
    #[.func (.yield (w.heap.size + 1)) #[] #[]] ++ #[.pointer (some ⟨gc, 0, none⟩)], W1, ?_, ?_, ?_, ?_, fun _ => by decide, ?_⟩
  · rw [← hW1, hrec]; exact run_enterLoop_outer _ _ _ _ _
  · simp only [resolve, hg]
    simp [go_sem]
  · intro f' hf'; trivial
  · have eg : ∀ args w, (callFunc 57 args).run Tryz.prog w = .ok (.enter 57 args) w := enters_of Tryz.func57 (by kernel_rfl) rfl
    simp [invoke, go_sem, eg]
  · refine CallsIn.mono (callsIn_wide.2 (lines_any2 step N (w.heap.size + 1) gc (fun s rest W => J (.loop (rec .ready none)) s rest W) (fun s line rest W => JB (.loop (rec .ready none)) s line rest W) (fun t W => Jx (.loop (rec .done (some (lv t).code))) t W)
      (fun s rest W h => hcell _ s rest W h) (fun s rest line rest' W e n h => hset _ s rest line rest' W e n h) (fun s rest W h => hdrew _ s rest W h) ?_ s0 text hN hN2 W1 hJ1)) ?_
    · intro s rest line W hl hJ
      have hL := hobjb _ _ _ _ _ hJ
      have hlt : w.heap.size + 1 < W.heap.size := (Array.getElem?_eq_some_iff.1 hL).1
      have hy := run_yield (P := Tryz.prog) (args := #[.string (bytesOf line)]) hL (by rw [hrec]; rfl)
      have hy2 : (Instr.yield (w.heap.size + 1) #[.string (bytesOf line)]).run Tryz.prog W = .ok (.round (w.heap.size + 1) fn (a.tmps.setIfInBounds p (.string (bytesOf line))) assign body) W := by
        rw [hrec] at hy
        simpa using hy
      clear hy
      refine ⟨fn, _, assign, body, hy2, roundIn_of_wpIn hfn ?_⟩
      refine hassign _ line W _ ?_
      refine ⟨_, run_beginRound hL (by rw [hrec]), ?_⟩
      have hJ2 := hputb _ (.loop { rec .ready none with state := .busy }) _ _ _ _ hJ
      refine wpIn_mono (hbody _ _ s rest line _ hl hJ2) ?_
      intro e a3 W3 hp
      cases hs : step s line with
      | inl s' =>
        rw [hs] at hp
        obtain ⟨rfl, hj3⟩ := hp
        have hl3 := hobj _ _ _ _ hj3
        have her := run_endRound (P := Tryz.prog) none hl3
        refine ⟨_, _, her, rfl, ?_⟩
        have := hput _ (.loop { rec .ready none with state := .ready, pending := none }) _ _ _ hj3
        rw [hrec] at this ⊢
        exact this
      | inr t =>
        rw [hs] at hp
        obtain ⟨he, hj3⟩ := hp
        have hl3 := hobjx _ _ _ hj3
        have her := run_endRound (P := Tryz.prog) (some (lv t).code) hl3
        have := hputx _ (.loop { rec .ready none with state := .done, pending := some (lv t).code }) _ _ hj3
        subst he
        have hk : (some (lv t).code).isNone = false := rfl
        unfold Leaves.exit
        by_cases hr : (lv t).ret = true
        · rw [if_pos hr]
          have hc : (lv t).code = .ret := by unfold Leaves.code; rw [if_pos hr]
          rw [hc] at her this
          refine ⟨_, _, her, rfl, ?_⟩
          show Jx (.loop (rec .done (some (lv t).code))) t _
          rw [hc]
          rw [hrec] at this ⊢
          exact this
        · rw [if_neg hr]
          have hc : (lv t).code = .exit (lv t).id := by unfold Leaves.code; rw [if_neg hr]
          rw [hc] at her this
          refine ⟨_, _, her, rfl, ?_⟩
          show Jx (.loop (rec .done (some (lv t).code))) t _
          rw [hc]
          rw [hrec] at this ⊢
          exact this
    · rintro e W2 ⟨⟨v, rfl⟩, hend⟩
      cases hrn : runL step s0 (linesOf text) with
      | inl s =>
        rw [hrn] at hend
        have hj : J (.loop (rec .ready none)) s [] W2 := hend
        have := run_endLoop (P := Tryz.prog) (hobj _ _ _ _ hj) (by rw [hrec]; simp)
        refine ⟨none, _, by rw [hrec] at this ⊢; exact this, hdone _ s _ hrn (hput _ (.loop { rec .ready none with state := .exhausted }) _ _ _ hj)⟩
      | inr t =>
        rw [hrn] at hend
        have hj : Jx (.loop (rec .done (some (lv t).code))) t W2 := hend
        have := run_endLoop (P := Tryz.prog) (hobjx _ _ _ hj) (by rw [hrec]; simp)
        refine ⟨some (lv t).code, _, by rw [hrec] at this ⊢; exact this, wpIn_wide.2 (hstop _ t _ hrn (hputx _ (.loop { rec .done (some (lv t).code) with state := .exhausted }) _ _ hj))⟩
end Go.Proofs.YtbcfcjecobihnaaGreatDoor
