/- Least, at all numbers in their ranges: by the kernel. -/
import Derived.Test.YtgnkjmgkfibipaaDoorQKLeast
namespace Go.Proofs.YtgnkjmgkfibipaaDoor
set_option linter.unusedVariables false
set_option linter.unusedSimpArgs false
open Go Go.R
set_option maxRecDepth 1000000
noncomputable section

theorem chkl_0 : chkL 0 = true := by kernel_rfl
theorem chkl_1 : chkL 1 = true := by kernel_rfl
theorem chkl_2 : chkL 2 = true := by kernel_rfl
theorem chkl_3 : chkL 3 = true := by kernel_rfl
theorem chkl_4 : chkL 4 = true := by kernel_rfl
theorem chkl_5 : chkL 5 = true := by kernel_rfl
theorem chkl_6 : chkL 6 = true := by kernel_rfl
theorem chkl_7 : chkL 7 = true := by kernel_rfl
theorem chkl_8 : chkL 8 = true := by kernel_rfl
theorem chkl_9 : chkL 9 = true := by kernel_rfl
theorem chkl_10 : chkL 10 = true := by kernel_rfl
theorem chkl_11 : chkL 11 = true := by kernel_rfl
theorem chkl_12 : chkL 12 = true := by kernel_rfl
theorem chkL_all : ∀ n, n < 13 → chkL n = true
  | 0, _ => chkl_0 | 1, _ => chkl_1 | 2, _ => chkl_2 | 3, _ => chkl_3 | 4, _ => chkl_4 | 5, _ => chkl_5 | 6, _ => chkl_6
  | 7, _ => chkl_7 | 8, _ => chkl_8 | 9, _ => chkl_9 | 10, _ => chkl_10 | 11, _ => chkl_11 | 12, _ => chkl_12
  | n + 13, h => by omega

theorem local110 : ∀ N, N ≤ 13 → HookOk Tryd.prog (hL N) ∧ ∀ n b, n < N → b < 7 → b ≠ 0 → Local Tryd.prog 3 110 (argsL n b) (hp rootsL) (Keeps rootsL (i64 (leastN n b)))
  | 0, _ => ⟨or_ok hReach_ok (memo_ok tame (by kernel_rfl) (by kernel_rfl) fun ns v h => by
      unfold grid2 at h
      split at h
      · simp [Nat.blt] at h
      · cases h), fun n b h => absurd h (Nat.not_lt_zero n)⟩
  | N + 1, hN => by
    obtain ⟨ih1, ih2⟩ := local110 N (by omega)
    have L : ∀ n b, n < N + 1 → b < 7 → b ≠ 0 → Local Tryd.prog 3 110 (argsL n b) (hp rootsL) (Keeps rootsL (i64 (leastN n b))) := by
      intro n b hn hb hb0
      by_cases e : n < N
      · exact ih2 n b e hb hb0
      · have : n = N := by omega
        subst this
        have hc := chkL_all n (by omega)
        simp only [chkL, List.all_eq_true, List.mem_range] at hc
        have h2 := hc b hb
        rw [Bool.or_eq_true] at h2
        exact step110 n b ih1 (h2.resolve_left fun h => hb0 (Nat.eq_of_beq_eq_true h))
    refine ⟨or_ok hReach_ok (memo_ok tame (by kernel_rfl) (by kernel_rfl) fun ns v h => ?_), L⟩
    unfold grid2 at h
    split at h
    · rename_i a b
      by_cases h1 : Nat.blt a (N + 1) = true
      · by_cases h2 : Nat.blt b 7 = true
        · simp only [h1, h2, if_true, vL] at h
          split at h
          · cases h
          · rename_i hb0
            cases h
            exact ⟨fun x hx => by simp only [List.mem_cons, List.mem_nil_iff, or_false] at hx; rcases hx with rfl | rfl <;> rfl, rfl, L a b (blt_lt h1) (blt_lt h2) hb0⟩
        · simp [h1, h2] at h
      · simp [h1] at h
    · cases h

def kLT : CallF := callA Tryd.prog (hL 13) 1000
def c57 : Code := bodyOf Tryd.f57
def lLT (n b : Nat) : List (Nat × Value) := [(0, i64 n), (1, i64 b), (6, ptrV 1), (7, ptrV 2)]
def vLeast (n b : Nat) : Option Value := if b = 0 then none else some (.tuple #[i64 (leastN n b), i64 0])
def chkLT1 (n b : Nat) : Bool := ends (execCh Tryd.prog kLT 0 1000 5 c57 (entry Tryd.f57 [i64 n, i64 b] AH.empty)) (fun af => sees (lLT n b) 20 [.map [], cMl, cFl] af) &&
  okRun Tryd.prog Tryd.f57 (execA Tryd.prog kLT 1000 (behind 5 c57) (sth (lLT n b) 20 rootsL)) (.tuple #[i64 (leastN n b), i64 0])
def chkLT : Bool := (List.range 13).all fun n => (List.range 7).all fun b => Nat.beq b 0 || chkLT1 n b
theorem lt_all : chkLT = true := by kernel_rfl

theorem step57 (n b : Nat) (hc : chkLT1 n b = true) : Local Tryd.prog 0 57 [i64 n, i64 b] AH.empty fun v' _ => v' = .tuple #[i64 (leastN n b), i64 0] := by
  have hk : CallOk Tryd.prog kLT := call_ok mixed noNum (local110 13 (Nat.le_refl _)).1 1000
  unfold chkLT1 at hc
  rw [Bool.and_eq_true] at hc
  obtain ⟨ha, hb⟩ := hc
  obtain ⟨af, e1, s1⟩ := ends_spec ha
  refine local_of noNum Tryd.func57 (show Tryd.f57.body = some c57 by kernel_rfl) ?_
  show Runs Tryd.prog 0 c57 (entry Tryd.f57 [i64 n, i64 b] AH.empty) (EndsAs Tryd.prog Tryd.f57 fun v' _ => v' = .tuple #[i64 (leastN n b), i64 0])
  refine Runs.chain mixed hk 5 c57 _ .normal af (Nat.zero_le _) e1 ?_
  show Runs Tryd.prog 0 (behind 5 c57) af _
  refine Runs.less (sees_less tame s1 (Nat.zero_le _)) ?_
  refine Runs.shut (t := 6) (i := 1) (g := 0) (tag := 1) (es := []) ⟨by kernel_rfl, true, [], some 112, by kernel_rfl⟩ (by kernel_rfl) (fun e he => by cases he) ?_
  exact Runs.less (af1 := sth (lLT n b) 20 rootsL) (less_seen (l := lLT n b) (sz := 20) (os := rootsL) tame (by kernel_rfl) (Nat.zero_le _) (by kernel_rfl) (by kernel_rfl) (by kernel_rfl) (by kernel_rfl)) (Runs.last mixed hk (Nat.zero_le _) hb)

theorem least_ok : HookOk Tryd.prog (numH 57 (grid2 13 7 vLeast)) := by
  refine num_ok fun args v hg => ?_
  unfold grid2 at hg
  split at hg
  · rename_i a b
    by_cases ha : Nat.blt a 13 = true
    · by_cases hb : Nat.blt b 7 = true
      · simp only [ha, hb, if_true, vLeast] at hg
        split at hg
        · cases hg
        · rename_i hb0
          cases hg
          have h1 := lt_all
          simp only [chkLT, List.all_eq_true, List.mem_range] at h1
          have h2 := h1 a (blt_lt ha) b (blt_lt hb)
          rw [Bool.or_eq_true] at h2
          exact ⟨by simp [plainV], rfl, step57 a b (h2.resolve_left fun h => hb0 (Nat.eq_of_beq_eq_true h))⟩
      · simp [ha, hb] at hg
    · simp [ha] at hg
  · cases hg
end
end Go.Proofs.YtgnkjmgkfibipaaDoor
