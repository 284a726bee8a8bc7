/- TrialSums: from its arguments on. -/
import Derived.Test.YtgnkjmgkfibipaaDoorQKSumE
namespace Go.Proofs.YtgnkjmgkfibipaaDoor
set_option linter.unusedVariables false
set_option linter.unusedSimpArgs false
open Go Go.R
set_option maxRecDepth 1000000
noncomputable section

def byL12 (y : Nat → Nat) : List Value := (List.range 12).map fun i => .int .u8 (.ofNat (y i))
def byV12 (y : Nat → Nat) : Value := .agg (byL12 y).toArray

theorem smS_clo {y : Nat → Nat} {n b : Nat} {s : SmS} : ∀ o ∈ smS y n b s, CloO 5 o := fun o ho => by
  simp only [smS, List.mem_cons, List.mem_nil_iff, or_false] at ho
  rcases ho with rfl | rfl | rfl | rfl | rfl
  · exact cloO_plain (byA12_plain y) _ _
  · exact cloO_one (clo_plain rfl) _
  · exact cloO_one (clo_plain rfl) _
  · exact cloO_one (clo_plain rfl) _
  · exact cloO_one (clo_plain rfl) _

theorem least_says {n b : Nat} (hn : n < 13) (hb0 : b ≠ 0) (hb : b < 7) (h : AH) : Says Tryd.prog h 57 [i64 n, i64 b] (.tuple #[i64 (leastN n b), i64 0]) h := by
  refine hook_says (hk := numH 57 (grid2 13 7 vLeast)) least_ok ?_
  have h1 := blt_true hn
  have h2 := blt_true hb
  simp only [numH, grid2, i64, h1, h2, if_true, vLeast, if_neg hb0]
  rfl

theorem sums_runs (x z : Int) (hx : 0 ≤ x ∧ x ≤ 255) (hz : 0 ≤ z ∧ z ≤ 255) (y : Nat → Nat) (hy : ∀ i, y i < 256) : Runs Tryd.prog 0 c16 (entry Tryd.f16 [.int .u8 x, .int .u8 z, byV12 y] AH.empty) Ends16 := by
  have hk : CallOk Tryd.prog kSm := call_ok mixed noNum hSm_ok 1000
  obtain ⟨n, hn, en⟩ := restJ_of hx.1 hx.2 (k := 8) (by decide) (by decide)
  obtain ⟨b, hb, eb⟩ := rest_of hz.1 hz.2 (k := 6) (by decide) (by decide)
  refine Runs.sqR mixed hk38 [] (by kernel_rfl) (by kernel_rfl) (by kernel_rfl) oblN ?_
  refine Runs.sqR mixed hk38 [] (by kernel_rfl) (by kernel_rfl) (by kernel_rfl) oblN ?_
  refine Runs.less (af1 := sth [(5, ptrC 0), (7, ptrC 1), (8, ptrC 2)] 87 [byA12 y, boxZ (restJ x (.ofNat 8)), boxZ (restI z (.ofNat 6))])
    (less_seenP (clo_all (k := 3) (by kernel_rfl)) (fun o ho => by
      simp only [List.mem_cons, List.mem_nil_iff, or_false] at ho
      rcases ho with rfl | rfl | rfl
      · exact cloO_plain (byA12_plain y) _ _
      · exact cloO_one (clo_plain rfl) _
      · exact cloO_one (clo_plain rfl) _) (Nat.zero_le _) (by kernel_rfl) (by kernel_rfl) (by kernel_rfl) (by kernel_rfl)) ?_
  rw [en, eb]
  refine Runs.sqR mixed hk38 [] (by kernel_rfl) (by kernel_rfl) (by kernel_rfl) oblN ?_
  have hp := sm_plans (y := y) (b := b + 1) hn
  rw [smE_eq hn hb] at hp
  refine Runs.sqR mixed hk38 [viaH 2 53 [i64 0, i64 n, .func (.func 62) #[] (capsAt smPs).toArray] (.tuple #[]) (Go.R.hp (smS y n (b + 1) (smV n (b + 1))))] (by kernel_rfl) (by kernel_rfl) (by kernel_rfl)
    (oblC (shown_callHE (h0 := Go.R.hp (smS y n (b + 1) smZero)) (by kernel_rfl) (by kernel_rfl) hp) oblN) ?_
  refine Runs.less (af1 := sth L16 87 (smS y n (b + 1) (smV n (b + 1)))) (less_seenP (clo_all (k := 5) (by kernel_rfl)) smS_clo (Nat.zero_le _) (by kernel_rfl) (by kernel_rfl) (by kernel_rfl) (by kernel_rfl)) ?_
  cases n with
  | zero => exact Runs.last mixed hk (Nat.zero_le _) (zero_all y b hb)
  | succ m =>
    have hG := grownN_good y (m + 1)
    have hne : grownN y (m + 1) ≠ [] := fun e => by have := hG.len; rw [e] at this; cases this
    refine Runs.sqR mixed hk38 [viaC 2 57 [i64 (m + 1), i64 (b + 1)] (.tuple #[i64 (leastN (m + 1) (b + 1)), i64 0])] (by kernel_rfl) (by kernel_rfl) (by kernel_rfl)
      (oblC (shown_callE (h0 := Go.R.hp (smS y (m + 1) (b + 1) (smV (m + 1) (b + 1)))) (by kernel_rfl) (by kernel_rfl) (least_says (by omega) (by omega) (by omega) _)) oblN) ?_
    refine Runs.sq (by kernel_rfl) (Runs.sqR mixed hk38 [viaV 5 (.bool false)] (by kernel_rfl) (by kernel_rfl) (by kernel_rfl) (oblC (shown_eq (v := .bool (!(eqF (.ofNat (leastN (m + 1) (b + 1))) (.ofNat (leastN (m + 1) (b + 1)))))) (by kernel_rfl) (by kernel_rfl) (by rw [eq_self]; rfl)) oblN) ?_)
    refine Runs.cd (b := false) (by kernel_rfl) (fun h => by cases h) (fun _ => Runs.now (x := .normal) (by kernel_rfl) ?_)
    show Runs Tryd.prog 0 _ _ _
    refine Runs.sqR mixed hk38 [viaH 2 46 [i64 (m + 1), .slice (some ⟨0, 0, none⟩) 12 12] (planV 5 (grownN y (m + 1))) (Go.R.hp (sm4 y (m + 1) (b + 1) (smV (m + 1) (b + 1)) (grownN y (m + 1))))] (by kernel_rfl) (by kernel_rfl) (by kernel_rfl)
      (oblC (shown_callHE (h0 := Go.R.hp (smS y (m + 1) (b + 1) (smV (m + 1) (b + 1)))) (by kernel_rfl) (by kernel_rfl) (grown_at (g := 0) (lv := true) (par := []) (ty := some 60) hy (by omega) (by kernel_rfl))) oblN) ?_
    refine Runs.sqR mixed hk38 [] (by kernel_rfl) (by kernel_rfl) (by kernel_rfl) oblN ?_
    refine Runs.sq (by kernel_rfl) (Runs.sqR mixed hk38 [viaV 1 (i64 (m + 1 + 1))] (by kernel_rfl) (by kernel_rfl) (by kernel_rfl) (oblC (shown_eq (v := .int .i64 (wrapF .i64 (Int.add (.ofNat (m + 1)) (.ofNat 1)))) (by kernel_rfl) (by kernel_rfl) (by rw [wrap_succ (by omega)]; rfl)) oblN) (Runs.bk (id := 0) (by kernel_rfl) ?_))
    refine Runs.less (af1 := sth (S16 (grownN y (m + 1)) (m + 1) 0) 87 (sm4 y (m + 1) (b + 1) (smV (m + 1) (b + 1)) (grownN y (m + 1)))) (less_seenP (S16_clo _ _ _) sm4_clo (Nat.zero_le _) (by kernel_rfl) (by kernel_rfl) (by kernel_rfl) (by kernel_rfl)) ?_
    show Runs Tryd.prog 0 lp16 _ _
    refine law16_loop hG hne (by omega) (fun af less => ?_) (m + 1 + 1) 0 (by omega)
    show Runs Tryd.prog 0 (behind 9 c16) af Ends16
    exact Runs.less less (law16_end hG hne (by omega) (by omega) (by omega))
end
end Go.Proofs.YtgnkjmgkfibipaaDoor
