/- Count, at all numbers in their ranges. -/
import Derived.Test.YtgnkjmgkfibipaaDoorKCntA
import Derived.Test.YtgnkjmgkfibipaaDoorKCntB
import Derived.Test.YtgnkjmgkfibipaaDoorKCntC
import Derived.Test.YtgnkjmgkfibipaaDoorKCntD
namespace Go.Proofs.YtgnkjmgkfibipaaDoor
set_option linter.unusedVariables false
set_option linter.unusedSimpArgs false
open Go Go.R
set_option maxRecDepth 1000000
noncomputable section

theorem chk_all : ∀ n, n < 13 → chk n = true
  | 0, _ => chk_0 | 1, _ => chk_1 | 2, _ => chk_2 | 3, _ => chk_3 | 4, _ => chk_4 | 5, _ => chk_5 | 6, _ => chk_6
  | 7, _ => chk_7 | 8, _ => chk_8 | 9, _ => chk_9 | 10, _ => chk_10 | 11, _ => chk_11 | 12, _ => chk_12
  | n + 13, h => by omega

theorem local85 : ∀ N, N ≤ 13 → HookOk Tryd.prog (hC N) ∧ ∀ n b t, n < N → b < 7 → t < 13 → Local Tryd.prog 3 85 (argsC n b t) (hp rootsC) (Keeps rootsC (i64 (countN n b t)))
  | 0, _ => ⟨or_ok hReach_ok (memo_ok tame (by kernel_rfl) (by kernel_rfl) fun ns v h => by
      unfold grid3 at h
      split at h
      · simp [Nat.blt] at h
      · cases h), fun n b t h => absurd h (Nat.not_lt_zero n)⟩
  | N + 1, hN => by
    obtain ⟨ih1, ih2⟩ := local85 N (by omega)
    have L : ∀ n b t, n < N + 1 → b < 7 → t < 13 → Local Tryd.prog 3 85 (argsC n b t) (hp rootsC) (Keeps rootsC (i64 (countN n b t))) := by
      intro n b t hn hb ht
      by_cases e : n < N
      · exact ih2 n b t e hb ht
      · have : n = N := by omega
        subst this
        have hc := chk_all n (by omega)
        simp only [chk, List.all_eq_true, List.mem_range] at hc
        exact step85 n b t ih1 (hc b hb t ht)
    refine ⟨or_ok hReach_ok (memo_ok tame (by kernel_rfl) (by kernel_rfl) fun ns v h => ?_), L⟩
    unfold grid3 at h
    split at h
    · rename_i a b c
      by_cases h1 : Nat.blt a (N + 1) = true
      · by_cases h2 : Nat.blt b 7 = true
        · by_cases h3 : Nat.blt c 13 = true
          · simp only [h1, h2, h3, if_true, vC, Option.some.injEq] at h
            subst h
            exact ⟨fun x hx => by simp only [List.mem_cons, List.mem_nil_iff, or_false] at hx; rcases hx with rfl | rfl | rfl <;> rfl, rfl, L a b c (blt_lt h1) (blt_lt h2) (blt_lt h3)⟩
          · simp [h1, h2, h3] at h
        · simp [h1, h2] at h
      · simp [h1] at h
    · cases h

end
end Go.Proofs.YtgnkjmgkfibipaaDoor
