/- TrialBest: for all numbers. -/
import Derived.Test.YtgnkjmgkfibipaaDoorKBestD
import Derived.Test.YtgnkjmgkfibipaaDoorKBestE
import Derived.Test.YtgnkjmgkfibipaaDoorKBestF
namespace Go.Proofs.YtgnkjmgkfibipaaDoor
set_option linter.unusedVariables false
set_option linter.unusedSimpArgs false
open Go Go.R
set_option maxRecDepth 1000000
noncomputable section
theorem b1_all : ∀ n, n < 13 → chkB1 n = true
  | 0, _ => b1_0
  | 1, _ => b1_1
  | 2, _ => b1_2
  | 3, _ => b1_3
  | 4, _ => b1_4
  | 5, _ => b1_5
  | 6, _ => b1_6
  | 7, _ => b1_7
  | 8, _ => b1_8
  | 9, _ => b1_9
  | 10, _ => b1_10
  | 11, _ => b1_11
  | 12, _ => b1_12
  | n + 13, h => by omega
theorem b2_all : ∀ n, n < 13 → chkB2 n = true
  | 0, _ => b2_0
  | 1, _ => b2_1
  | 2, _ => b2_2
  | 3, _ => b2_3
  | 4, _ => b2_4
  | 5, _ => b2_5
  | 6, _ => b2_6
  | 7, _ => b2_7
  | 8, _ => b2_8
  | 9, _ => b2_9
  | 10, _ => b2_10
  | 11, _ => b2_11
  | 12, _ => b2_12
  | n + 13, h => by omega
theorem b3p_all : ∀ n, n < 13 → ∀ k : Nat, chkB3 n (.int .i64 (.ofNat (k + 13))) = true
  | 0, _ => b3p_0
  | 1, _ => b3p_1
  | 2, _ => b3p_2
  | 3, _ => b3p_3
  | 4, _ => b3p_4
  | 5, _ => b3p_5
  | 6, _ => b3p_6
  | 7, _ => b3p_7
  | 8, _ => b3p_8
  | 9, _ => b3p_9
  | 10, _ => b3p_10
  | 11, _ => b3p_11
  | 12, _ => b3p_12
  | n + 13, h => by omega
theorem b3n_all : ∀ n, n < 13 → ∀ k : Nat, chkB3 n (.int .i64 (.negSucc k)) = true
  | 0, _ => b3n_0
  | 1, _ => b3n_1
  | 2, _ => b3n_2
  | 3, _ => b3n_3
  | 4, _ => b3n_4
  | 5, _ => b3n_5
  | 6, _ => b3n_6
  | 7, _ => b3n_7
  | 8, _ => b3n_8
  | 9, _ => b3n_9
  | 10, _ => b3n_10
  | 11, _ => b3n_11
  | 12, _ => b3n_12
  | n + 13, h => by omega
theorem outb_all : ∀ n, n < 13 → ∀ (k : Nat) (z : Int), (runBo (i64 n) (.int .i64 (.ofNat (k + 7))) (.int .i64 z) && (runBo (i64 n) (.int .i64 (.negSucc k)) (.int .i64 z) && runBo (i64 n) (i64 0) (.int .i64 z))) = true
  | 0, _ => outb_0
  | 1, _ => outb_1
  | 2, _ => outb_2
  | 3, _ => outb_3
  | 4, _ => outb_4
  | 5, _ => outb_5
  | 6, _ => outb_6
  | 7, _ => outb_7
  | 8, _ => outb_8
  | 9, _ => outb_9
  | 10, _ => outb_10
  | 11, _ => outb_11
  | 12, _ => outb_12
  | n + 13, h => by omega

theorem runBo_ok {a b c : Value} (h : runBo a b c = true) : Runs Tryd.prog 0 bodyB (entry Tryd.f15 [a, b, c] AH.empty) (EndsAs Tryd.prog Tryd.f15 fun v' _ => v' = .bool true) :=
  Runs.last mixed (call_ok mixed noNum works_ok 1000) (Nat.zero_le _) h

theorem best_in (n b l : Nat) (hn : n < 13) (hb0 : b ≠ 0) (hb : b < 7) (hl : l < 13) : Runs Tryd.prog 0 bodyB (entry Tryd.f15 [i64 n, i64 b, i64 l] AH.empty) (EndsAs Tryd.prog Tryd.f15 fun v' _ => v' = .bool true) := by
  have hk : CallOk Tryd.prog kBW := call_ok mixed noNum hBestW_ok 1000
  have h1 := b1_all n hn
  simp only [chkB1, List.all_eq_true, List.mem_range] at h1
  have h1 := h1 b hb
  rw [Bool.or_eq_true] at h1
  have h1 := h1.resolve_left fun h => hb0 (Nat.eq_of_beq_eq_true h)
  rw [List.all_eq_true] at h1
  obtain ⟨af, e1, s1⟩ := ends_spec (h1 l (List.mem_range.2 hl))
  have h2 := b2_all n hn
  simp only [chkB2, List.all_eq_true, List.mem_range] at h2
  have h2 := h2 b hb
  rw [Bool.or_eq_true] at h2
  have h2 := h2.resolve_left fun h => hb0 (Nat.eq_of_beq_eq_true h)
  rw [List.all_eq_true] at h2
  refine Runs.chain mixed hk 7 bodyB _ .normal af (Nat.zero_le _) e1 ?_
  show Runs Tryd.prog 0 (behind 7 bodyB) af _
  exact Runs.less (sees_less tame s1 (Nat.zero_le _)) (Runs.last mixed hk (Nat.zero_le _) (h2 _ (wE_opts n b l)))

theorem best_far (n b : Nat) (v : Value) (hb0 : b ≠ 0) (hb : b < 7) (h : chkB3 n v = true) : Runs Tryd.prog 0 bodyB (entry Tryd.f15 [i64 n, i64 b, v] AH.empty) (EndsAs Tryd.prog Tryd.f15 fun v' _ => v' = .bool true) := by
  simp only [chkB3, List.all_eq_true, List.mem_range] at h
  have h := h b hb
  rw [Bool.or_eq_true] at h
  exact Runs.last mixed (call_ok mixed noNum hBest_ok 1000) (Nat.zero_le _) (h.resolve_left fun h => hb0 (Nat.eq_of_beq_eq_true h))

theorem best_runs (x y z : Int) : Runs Tryd.prog 0 bodyB (entry Tryd.f15 [.int .i64 x, .int .i64 y, .int .i64 z] AH.empty) (EndsAs Tryd.prog Tryd.f15 fun v' _ => v' = .bool true) := by
  cases x with
  | negSucc k => exact runBo_ok (out_neg k y z)
  | ofNat n =>
    by_cases hn : n < 13
    · have ho := fun k => outb_all n hn k z
      cases y with
      | negSucc k =>
        have := ho k
        simp only [Bool.and_eq_true] at this
        exact runBo_ok this.2.1
      | ofNat b =>
        by_cases hb0 : b = 0
        · subst hb0
          have := ho 0
          simp only [Bool.and_eq_true] at this
          exact runBo_ok this.2.2
        · by_cases hb : b < 7
          · cases z with
            | negSucc k => exact best_far n b _ hb0 hb (b3n_all n hn k)
            | ofNat l =>
              by_cases hl : l < 13
              · exact best_in n b l hn hb0 hb hl
              · obtain ⟨k, rfl⟩ : ∃ k, l = k + 13 := ⟨l - 13, by omega⟩
                exact best_far n b _ hb0 hb (b3p_all n hn k)
          · obtain ⟨k, rfl⟩ : ∃ k, b = k + 7 := ⟨b - 7, by omega⟩
            have := ho k
            simp only [Bool.and_eq_true] at this
            exact runBo_ok this.1
    · obtain ⟨k, rfl⟩ : ∃ k, n = k + 13 := ⟨n - 13, by omega⟩
      exact runBo_ok (out_big k y z)
end
end Go.Proofs.YtgnkjmgkfibipaaDoor
