/- Plain: where symMerge cuts its two rows. -/
import Derived.Test.YtpfpaheafpibiaaDoorItemsPlain
namespace Go.Proofs.YtpfpaheafpibiaaDoor
set_option linter.unusedVariables false

theorem sym_cut {A Bs : List Itm} {a m b mid n lo r0 s : Nat} (hsA : Srt A) (hsB : Srt Bs) (hm : m = a + A.length) (hb : b = m + Bs.length) (hn : n = mid + m) (hbo : a ≤ lo ∧ lo ≤ r0 ∧ r0 ≤ m ∧ r0 ≤ mid ∧ n ≤ lo + b ∧ (lo = a ∨ n = lo + b) ∧ (r0 = m ∨ r0 = mid)) (h2 : lo ≤ s) (h3 : s ≤ r0)
    (d1 : s = lo ∨ ∃ x y, A[s - 1 - a]? = some x ∧ Bs[n - s - m]? = some y ∧ leI x y) (d2 : s = r0 ∨ ∃ x y, Bs[n - 1 - s - m]? = some x ∧ A[s - a]? = some y ∧ leI x y) :
    ∃ (en : Nat) (A1 A2 B1 B2 : List Itm), en + s = n ∧ A = A1 ++ A2 ∧ Bs = B1 ++ B2 ∧ (A1.length = s - a ∧ A2.length = m - s ∧ B1.length = en - m ∧ B2.length = b - en) ∧ (a ≤ s ∧ s ≤ m ∧ s ≤ mid ∧ m ≤ en ∧ en ≤ b ∧ mid + m = s + en) ∧ (Srt A1 ∧ Srt A2 ∧ Srt B1 ∧ Srt B2) ∧
      ∀ C1 C2 : List Itm, C1.Perm (A1 ++ B1) → C2.Perm (A2 ++ B2) → Srt C1 → Srt C2 → Srt (C1 ++ C2) ∧ (C1 ++ C2).Perm (A ++ Bs) := by
  obtain ⟨b1, b2, b3, b4, b5, b6, b7⟩ := hbo
  have e1 : n - s + s = n := by omega
  refine ⟨n - s, A.take (s - a), A.drop (s - a), Bs.take (n - s - m), Bs.drop (n - s - m), e1, (List.take_append_drop _ _).symm, (List.take_append_drop _ _).symm, ⟨?_, ?_, ?_, ?_⟩, ?_, ⟨?_, ?_, ?_, ?_⟩, ?_⟩
  · rw [List.length_take]; omega
  · rw [List.length_drop]; omega
  · rw [List.length_take]; omega
  · rw [List.length_drop]; omega
  · omega
  · exact List.Pairwise.sublist (List.take_sublist _ _) hsA
  · exact List.Pairwise.sublist (List.drop_sublist _ _) hsA
  · exact List.Pairwise.sublist (List.take_sublist _ _) hsB
  · exact List.Pairwise.sublist (List.drop_sublist _ _) hsB
  · intro C1 C2 p1 p2 g1 g2
    refine sym_join hsA hsB ?_ ?_ p1 p2 g1 g2
    · rcases d1 with h | ⟨x, y, q1, q2, q3⟩
      · rcases b6 with h4 | h4
        · left; omega
        · right; left; omega
      · right; right
        exact ⟨x, y, by rw [show s - a - 1 = s - 1 - a by omega]; exact q1, q2, q3⟩
    · rcases d2 with h | ⟨x, y, q1, q2, q3⟩
      · rcases b7 with h4 | h4
        · right; left; omega
        · left; omega
      · right; right
        exact ⟨x, y, by rw [show n - s - m - 1 = n - 1 - s - m by omega]; exact q1, q2, q3⟩
end Go.Proofs.YtpfpaheafpibiaaDoor
