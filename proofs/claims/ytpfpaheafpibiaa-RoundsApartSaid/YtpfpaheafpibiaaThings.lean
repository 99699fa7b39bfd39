/- how many things queues have (ferryhytheref3). -/
import Derived.Test.YtpfpaheafpibiaaDrrRun
import Derived.Test.YtpfpaheafpibiaaInts
import Derived.Test.YtpfpaheafpibiaaCnts
namespace Go.Proofs.Ytpfpaheafpibiaa
open Go.RowKit
set_option linter.unusedVariables false

set_option maxHeartbeats 400000 in
theorem things_any (ao : Option Addr) (len ac B : Nat) (rs : List Stp) (w : World) (hA : RowSl B w ao 1 (rs.map stpC)) (hlen : len = rs.length) (hok : QsOk (rowsOf rs)) :
    Calls Try.prog 9 #[.slice ao len ac] w fun e w' => e = .returned (.int .i64 (drrTot (rowsOf rs))) ∧ w = w' := by
  subst hlen
  have HA := Lib.hid hA; clear hA
  have hn5 : rs.length ≤ 5 := by rw [← rowsOf_len]; exact hok.few
  have HOK := Lib.hid hok; clear hok
  obtain ⟨s, hs⟩ : ∃ s, s = drrTot (rowsOf rs) := ⟨_, rfl⟩
  rw [← hs]
  have HS := Lib.hid hs; clear hs
  go_enter Try.func9, Try.ntmps9
  go_wp2
  go_loop [3, 4] (fun m i => ∃ (k c : Nat), k ≤ rs.length ∧ i = .int .i64 k ∧ m = .int .i64 c ∧ Hid (c = psum (fun i => ((rowsOf rs).getD i []).length) k) ∧ c ≤ 8 * k) (fun _ i => rs.length - (intOf i).toNat)
  case atStart => exact ⟨0, 0, Nat.zero_le _, rfl, rfl, rfl, by omega⟩
  case round =>
    obtain ⟨k, c, hk, rfl, rfl, hc, hck⟩ := hrel
    by_cases hlt : k < rs.length
    · obtain ⟨⟨ra, rc, xs⟩, hrk⟩ : ∃ r, rs[k]? = some r := ⟨_, List.getElem?_eq_getElem hlt⟩
      obtain ⟨b, off, rfl, hbb, c0⟩ := rows_at HA.out hrk
      have hrg := rowsOf_get hrk
      have hx8 := (HOK.out.all xs (List.mem_iff_getElem?.2 ⟨k, hrg⟩)).1
      have hnx : psum (fun i => ((rowsOf rs).getD i []).length) (k + 1) = c + xs.length := by
        rw [psum, ← hc.out, List.getD_eq_getElem?_getD, hrg]; rfl
      have HN := Lib.hid hnx; clear hnx hrk hrg
      go_wp2
      go_round
      case rel => exact ⟨k + 1, c + xs.length, by omega, by go_num, by go_num, HN.out.symm, by omega⟩
      case measure => simp [intOf]; omega
    · have hkn : k = rs.length := by omega
      have hfin : c = s := by rw [HS.out, hc.out, hkn]; unfold drrTot; rw [rowsOf_len]
      subst hfin
      clear hkn
      go_wp2
      go_ret
      exact ⟨rfl, rfl⟩
end Go.Proofs.Ytpfpaheafpibiaa
