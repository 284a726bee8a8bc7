/- TopNarrowed: the whole walk. -/
import Derived.Test.YtbcjmmbmeebfgaaGreatDoorSNarrowedKNarZ
namespace Go.Proofs.YtbcjmmbmeebfgaaGreatDoor
set_option linter.unusedVariables false
set_option linter.unusedSimpArgs false
open Go Go.R
set_option maxRecDepth 1000000
noncomputable section
theorem hs_0 : sliceA Tryz.prog 51 (ptrV 0) none (some (i64 0)) none = some (smallS 0 0 8) := by kernel_rfl
theorem hs_1 : sliceA Tryz.prog 51 (ptrV 0) none (some (i64 1)) none = some (smallS 0 1 8) := by kernel_rfl
theorem hs_2 : sliceA Tryz.prog 51 (ptrV 0) none (some (i64 2)) none = some (smallS 0 2 8) := by kernel_rfl
theorem hs_3 : sliceA Tryz.prog 51 (ptrV 0) none (some (i64 3)) none = some (smallS 0 3 8) := by kernel_rfl
theorem hs_4 : sliceA Tryz.prog 51 (ptrV 0) none (some (i64 4)) none = some (smallS 0 4 8) := by kernel_rfl
theorem hs_5 : sliceA Tryz.prog 51 (ptrV 0) none (some (i64 5)) none = some (smallS 0 5 8) := by kernel_rfl
theorem hs_6 : sliceA Tryz.prog 51 (ptrV 0) none (some (i64 6)) none = some (smallS 0 6 8) := by kernel_rfl
theorem hs_7 : sliceA Tryz.prog 51 (ptrV 0) none (some (i64 7)) none = some (smallS 0 7 8) := by kernel_rfl
theorem hs_8 : sliceA Tryz.prog 51 (ptrV 0) none (some (i64 8)) none = some (smallS 0 8 8) := by kernel_rfl
theorem head_slice {q : Nat} (h : q < 9) : sliceA Tryz.prog 51 (ptrV 0) none (some (i64 q)) none = some (smallS 0 q 8) := by
  match q, h with
  | 0, _ => exact hs_0
  | 1, _ => exact hs_1
  | 2, _ => exact hs_2
  | 3, _ => exact hs_3
  | 4, _ => exact hs_4
  | 5, _ => exact hs_5
  | 6, _ => exact hs_6
  | 7, _ => exact hs_7
  | 8, _ => exact hs_8
  | m + 9, h => omega
theorem narrow_rest {m q : Nat} {b : Nat → Nat} (hm : m < 6) (hq : q < 9) (hb : ∀ i, i < 8 → b i < 256) :
    Runs Tryz.prog 0 (.block 0 lp4) (sth (S40 m q) 188 (Os40 m b)) fun e af => e = .normal ∧ ((q = 0 ∧ Less 0 (sth [(7, i64 (m + 1)), (8, ptrV 2), (9, .slice none 0 0)] 188 (Os40 m b)) af) ∨ (0 < q ∧ Less 0 (sth (E4 m q) 188 (Os4 m b q)) af)) := by
  refine Runs.bk (id := 0) (by kernel_rfl) ?_
  show Runs Tryz.prog 0 lp4 _ _
  rcases Nat.eq_zero_or_pos q with h0 | h0
  · subst h0
    refine Runs.lp (by kernel_rfl) (Runs.sqR mixed hkU [] (by kernel_rfl) (by kernel_rfl) (by kernel_rfl) oblN (Runs.sq (by kernel_rfl) ?_))
    refine Runs.cd (b := false) (by kernel_rfl) (fun h => by cases h) (fun _ => Runs.now (x := .exit 0) (by kernel_rfl) ⟨rfl, .inl ⟨rfl, ?_⟩⟩)
    exact less_seenP (clo_all (k := 3) (by kernel_rfl)) os40_clo (Nat.zero_le 3) (by kernel_rfl) (by kernel_rfl) (by kernel_rfl) (by kernel_rfl)
  · refine narrow_first hm h0 hq hb ?_
    refine (narrow_loop hm hq hb (q - 1) 1 (by omega) (by decide)).mono fun e af hx => ?_
    obtain ⟨rfl, less⟩ := hx
    exact ⟨rfl, .inr ⟨h0, less⟩⟩
theorem narrow_runs {x z : Nat} {b : Nat → Nat} (hx : x < 256) (hz : z < 256) (hb : ∀ i, i < 8 → b i < 256) :
    Runs Tryz.prog 0 c4 (entry Tryz.f4 [u8 x, u8 z, arrV b] AH.empty) (EndsAs Tryz.prog Tryz.f4 fun v' _ => v' = .bool true) := by
  have hm : x % 6 < 6 := Nat.mod_lt _ (by decide)
  have hq : z % 9 < 9 := Nat.mod_lt _ (by decide)
  refine Runs.sqR mixed hkU [] (by kernel_rfl) (by kernel_rfl) (by kernel_rfl) oblN ?_
  refine Runs.sqR mixed hkU [viaV 1 (i64 x), viaV 2 (i64 (x % 6)), viaV 3 (i64 (x % 6 + 1))] (by kernel_rfl) (by kernel_rfl) (by kernel_rfl)
    (oblC (shown_eq (v := .int .i64 (IntKind.wrap .i64 (.ofNat x))) (by kernel_rfl) (by kernel_rfl) (by rw [conv_i (by omega)]; rfl))
    (oblC ⟨by kernel_rfl, (show _ = (intBin .rem .i64 (.ofNat x) (.ofNat (5 + 1))).map (·, _) by kernel_rfl).trans (by rw [rem_i]; rfl)⟩
    (oblC (shown_eq (v := .int .i64 (wrapF .i64 (Int.add (.ofNat 1) (.ofNat (x % 6))))) (by kernel_rfl) (by kernel_rfl) (by rw [one_add (by omega), Nat.add_comm]; rfl)) oblN))) ?_
  generalize x % 6 = m at hm ⊢
  refine Runs.sqR mixed hkU [viaV 1 (i64 (m + 2))] (by kernel_rfl) (by kernel_rfl) (by kernel_rfl)
    (oblC (shown_eq (v := .int .i64 (wrapF .i64 (Int.add (.ofNat (m + 1)) (.ofNat 1)))) (by kernel_rfl) (by kernel_rfl) (by rw [wrap_succ (by omega)]; rfl)) oblN) ?_
  refine Runs.sqR mixed hkU [] (by kernel_rfl) (by kernel_rfl) (by kernel_rfl) oblN ?_
  refine Runs.sq (by kernel_rfl) (Runs.sqR mixed hkU [viaV 1 (i64 z), viaV 2 (i64 (z % 9)), viaV 3 (smallS 0 (z % 9) 8)] (by kernel_rfl) (by kernel_rfl) (by kernel_rfl)
    (oblC (shown_eq (v := .int .i64 (IntKind.wrap .i64 (.ofNat z))) (by kernel_rfl) (by kernel_rfl) (by rw [conv_i (by omega)]; rfl))
    (oblC ⟨by kernel_rfl, (show _ = (intBin .rem .i64 (.ofNat z) (.ofNat (8 + 1))).map (·, _) by kernel_rfl).trans (by rw [rem_i]; rfl)⟩
    (oblC ⟨by kernel_rfl, (show _ = (sliceA Tryz.prog 51 (ptrV 0) none (some (i64 (z % 9))) none).map (·, _) by kernel_rfl).trans (by rw [head_slice hq]; rfl)⟩ oblN))) ?_)
  generalize z % 9 = q at hq ⊢
  refine Runs.less (af1 := sth (S40 m q) 188 (Os40 m b)) (less_seenP (clo_all (k := 3) (by kernel_rfl)) os40_clo (Nat.zero_le 3) (by kernel_rfl) (by kernel_rfl) (by kernel_rfl) (by kernel_rfl)) ?_
  show Runs Tryz.prog 0 (.block 0 lp4) _ _
  refine (narrow_rest hm hq hb).mono fun e af hx => ?_
  obtain ⟨rfl, ⟨rfl, less⟩ | ⟨h0, less⟩⟩ := hx
  · show Runs Tryz.prog 0 (behind 5 c4) af _
    exact Runs.less less (Runs.last mixed hkU (n := 1000) (Nat.zero_le _) (chk0_all hm b))
  · show Runs Tryz.prog 0 (behind 5 c4) af _
    refine Runs.less less ?_
    rcases Nat.lt_or_ge (highN (m + 1) (fN m b) (gN b) q) (lowN (fN m b) (gN b) q) with h | h
    · exact narrow_clash hm h0 hq h
    · exact narrow_agree hm h0 hq h
end
end Go.Proofs.YtbcjmmbmeebfgaaGreatDoor
