/- Count, at all numbers in their ranges. -/
import Derived.Test.YtgnkjmgkfibipaaDoorQKCntA
import Derived.Test.YtgnkjmgkfibipaaDoorQKCntC
namespace Go.Proofs.YtgnkjmgkfibipaaDoor
set_option linter.unusedVariables false
set_option linter.unusedSimpArgs false
open Go Go.R
set_option maxRecDepth 1000000
noncomputable section

theorem chk_all : ∀ n, n < 13 → chk n = true
  | 0, _ => chk_0 | 1, _ => chk_1 | 2, _ => chk_2 | 3, _ => chk_3 | 4, _ => chk_4 | 5, _ => chk_5 | 6, _ => chk_6
  | 7, _ => chk_7 | 8, _ => chk_8 | 9, _ => chk_9 | 10, _ => chk_10 | 11, _ => chk_11 | 12, _ => chk_12
  | n + 13, h => by omega

theorem local85 : ∀ N, N ≤ 13 → HookOk Tryd.prog (hC N) ∧ ∀ n b t, n < N → b < 7 → t < 13 → Local Tryd.prog 3 85 (argsC n b t) (hp rootsC) (Keeps rootsC (i64 (countN n b t)))
  | 0, _ => ⟨or_ok hReach_ok (memo_ok tame (by kernel_rfl) (by kernel_rfl) fun ns v h => by
      unfold grid3 at h
      split at h
      · simp [Nat.blt] at h
      · cases h), fun n b t h => absurd h (Nat.not_lt_zero n)⟩
  | N + 1, hN => by
    obtain ⟨ih1, ih2⟩ := local85 N (by omega)
    have L : ∀ n b t, n < N + 1 → b < 7 → t < 13 → Local Tryd.prog 3 85 (argsC n b t) (hp rootsC) (Keeps rootsC (i64 (countN n b t))) := by
      intro n b t hn hb ht
      by_cases e : n < N
      · exact ih2 n b t e hb ht
      · have : n = N := by omega
        subst this
        have hc := chk_all n (by omega)
        simp only [chk, List.all_eq_true, List.mem_range] at hc
        exact step85 n b t ih1 (hc b hb t ht)
    refine ⟨or_ok hReach_ok (memo_ok tame (by kernel_rfl) (by kernel_rfl) fun ns v h => ?_), L⟩
    unfold grid3 at h
    split at h
    · rename_i a b c
      by_cases h1 : Nat.blt a (N + 1) = true
      · by_cases h2 : Nat.blt b 7 = true
        · by_cases h3 : Nat.blt c 13 = true
          · simp only [h1, h2, h3, if_true, vC, Option.some.injEq] at h
            subst h
            exact ⟨fun x hx => by simp only [List.mem_cons, List.mem_nil_iff, or_false] at hx; rcases hx with rfl | rfl | rfl <;> rfl, rfl, L a b c (blt_lt h1) (blt_lt h2) (blt_lt h3)⟩
          · simp [h1, h2, h3] at h
        · simp [h1, h2] at h
      · simp [h1] at h
    · cases h

end
end Go.Proofs.YtgnkjmgkfibipaaDoor


namespace Go.Proofs.YtgnkjmgkfibipaaDoor
set_option linter.unusedVariables false
set_option linter.unusedSimpArgs false
open Go Go.R
set_option maxRecDepth 1000000
noncomputable section
def kCT : CallF := callA Tryd.prog (hC 13) 1000
def c32 : Code := bodyOf Tryd.f32
def lCT (n b t : Nat) : List (Nat × Value) := [(0, i64 n), (1, i64 b), (2, i64 t), (8, ptrV 1), (9, ptrV 2)]
def vCount (n b t : Nat) : Option Value := if b = 0 then none else some (.tuple #[i64 (countN n b t), i64 0])
def chkT1 (n b t : Nat) : Bool := ends (execCh Tryd.prog kCT 0 1000 5 c32 (entry Tryd.f32 [i64 n, i64 b, i64 t] AH.empty)) (fun af => sees (lCT n b t) 27 [.map [], cM, cF] af) &&
  okRun Tryd.prog Tryd.f32 (execA Tryd.prog kCT 1000 (behind 5 c32) (sth (lCT n b t) 27 rootsC)) (.tuple #[i64 (countN n b t), i64 0])
def chkT (n : Nat) : Bool := (List.range 7).all fun b => (List.range 13).all fun t => Nat.beq b 0 || chkT1 n b t

theorem step32 (n b t : Nat) (hc : chkT1 n b t = true) : Local Tryd.prog 0 32 [i64 n, i64 b, i64 t] AH.empty fun v' _ => v' = .tuple #[i64 (countN n b t), i64 0] := by
  have hk : CallOk Tryd.prog kCT := call_ok mixed noNum (local85 13 (Nat.le_refl _)).1 1000
  unfold chkT1 at hc
  rw [Bool.and_eq_true] at hc
  obtain ⟨ha, hb⟩ := hc
  obtain ⟨af, e1, s1⟩ := ends_spec ha
  refine local_of noNum Tryd.func32 (show Tryd.f32.body = some c32 by kernel_rfl) ?_
  show Runs Tryd.prog 0 c32 (entry Tryd.f32 [i64 n, i64 b, i64 t] AH.empty) (EndsAs Tryd.prog Tryd.f32 fun v' _ => v' = .tuple #[i64 (countN n b t), i64 0])
  refine Runs.chain mixed hk 5 c32 _ .normal af (Nat.zero_le _) e1 ?_
  show Runs Tryd.prog 0 (behind 5 c32) af _
  refine Runs.less (sees_less tame s1 (Nat.zero_le _)) ?_
  refine Runs.shut (t := 8) (i := 1) (g := 0) (tag := 0) (es := []) ⟨by kernel_rfl, true, [], some 88, by kernel_rfl⟩ (by kernel_rfl) (fun e he => by cases he) ?_
  exact Runs.less (af1 := sth (lCT n b t) 27 rootsC) (less_seen (l := lCT n b t) (sz := 27) (os := rootsC) tame (by kernel_rfl) (Nat.zero_le _) (by kernel_rfl) (by kernel_rfl) (by kernel_rfl) (by kernel_rfl)) (Runs.last mixed hk (Nat.zero_le _) hb)

theorem ct0 : chkT 0 = true := by kernel_rfl
theorem ct1 : chkT 1 = true := by kernel_rfl
theorem ct2 : chkT 2 = true := by kernel_rfl
theorem ct3 : chkT 3 = true := by kernel_rfl
theorem ct4 : chkT 4 = true := by kernel_rfl
theorem ct5 : chkT 5 = true := by kernel_rfl
theorem ct6 : chkT 6 = true := by kernel_rfl
theorem ct7 : chkT 7 = true := by kernel_rfl
theorem ct8 : chkT 8 = true := by kernel_rfl
theorem ct9 : chkT 9 = true := by kernel_rfl
theorem ct10 : chkT 10 = true := by kernel_rfl
theorem ct11 : chkT 11 = true := by kernel_rfl
theorem ct12 : chkT 12 = true := by kernel_rfl
theorem chkT_all : ∀ n, n < 13 → chkT n = true
  | 0, _ => ct0 | 1, _ => ct1 | 2, _ => ct2 | 3, _ => ct3 | 4, _ => ct4 | 5, _ => ct5 | 6, _ => ct6
  | 7, _ => ct7 | 8, _ => ct8 | 9, _ => ct9 | 10, _ => ct10 | 11, _ => ct11 | 12, _ => ct12
  | n + 13, h => by omega

theorem count_ok : HookOk Tryd.prog (numH 32 (grid3 13 7 13 vCount)) := by
  refine num_ok fun args v hg => ?_
  unfold grid3 at hg
  split at hg
  · rename_i a b c
    by_cases ha : Nat.blt a 13 = true
    · by_cases hb : Nat.blt b 7 = true
      · by_cases hcc : Nat.blt c 13 = true
        · simp only [ha, hb, hcc, if_true, vCount] at hg
          split at hg
          · cases hg
          · rename_i hb0
            cases hg
            have h1 := chkT_all a (blt_lt ha)
            simp only [chkT, List.all_eq_true, List.mem_range] at h1
            have h2 := h1 b (blt_lt hb) c (blt_lt hcc)
            rw [Bool.or_eq_true] at h2
            refine ⟨by simp [plainV], rfl, step32 a b c (h2.resolve_left fun h => hb0 (Nat.eq_of_beq_eq_true h))⟩
        · simp [ha, hb, hcc] at hg
      · simp [ha, hb] at hg
    · simp [ha] at hg
  · cases hg
end
end Go.Proofs.YtgnkjmgkfibipaaDoor
