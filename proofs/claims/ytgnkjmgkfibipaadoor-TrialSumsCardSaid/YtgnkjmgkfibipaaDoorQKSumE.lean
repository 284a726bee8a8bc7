/- TrialSums: its run. -/
import Derived.Test.YtgnkjmgkfibipaaDoorQKG12
namespace Go.Proofs.YtgnkjmgkfibipaaDoor
set_option linter.unusedVariables false
set_option linter.unusedSimpArgs false
open Go Go.R
set_option maxRecDepth 1000000
noncomputable section

/-! ### By the kernel -/
theorem sm_0 : chkSm 0 = true := by kernel_rfl
theorem sm_1 : chkSm 1 = true := by kernel_rfl
theorem sm_2 : chkSm 2 = true := by kernel_rfl
theorem sm_3 : chkSm 3 = true := by kernel_rfl
theorem sm_4 : chkSm 4 = true := by kernel_rfl
theorem sm_5 : chkSm 5 = true := by kernel_rfl
theorem sm_6 : chkSm 6 = true := by kernel_rfl
theorem sm_7 : chkSm 7 = true := by kernel_rfl
theorem sm_all : ∀ n, n < 8 → chkSm n = true
  | 0, _ => sm_0 | 1, _ => sm_1 | 2, _ => sm_2 | 3, _ => sm_3 | 4, _ => sm_4 | 5, _ => sm_5 | 6, _ => sm_6 | 7, _ => sm_7
  | n + 8, h => by omega
def smV (n b : Nat) : SmS := ⟨.ofNat (leastN n b), .ofNat (fewestN n b)⟩
theorem smE_eq {n b : Nat} (hn : n < 8) (hb : b < 6) : smE n (b + 1) = smV n (b + 1) := by
  have h := sm_all n hn
  simp only [chkSm, List.all_eq_true, List.mem_range] at h
  have h := h b hb
  generalize smE n (b + 1) = e at h
  obtain ⟨e1, e2⟩ := e
  simp only [eqS, Bool.and_eq_true, eqF_eq, beq_iff_eq] at h
  rw [h.1, h.2]
  rfl
def hSm : Hook := orH works (numH 57 (grid2 13 7 vLeast))
theorem hSm_ok : HookOk Tryd.prog hSm := or_ok works_ok least_ok
def kSm : CallF := callA Tryd.prog hSm 1000
noncomputable def L16 : List (Nat × Value) := [(5, ptrC 0), (7, ptrC 1), (8, ptrC 2), (9, ptrC 3), (10, ptrC 4)]
def chk16 (y : Nat → Nat) (b : Nat) : Bool := okRun Tryd.prog Tryd.f16 (execA Tryd.prog kSm 1000 (behind 4 c16) (sth L16 87 (smS y 0 b (smV 0 b)))) (.bool true)
theorem zero_1 (y : Nat → Nat) : chk16 y 1 = true := by kernel_rfl
theorem zero_2 (y : Nat → Nat) : chk16 y 2 = true := by kernel_rfl
theorem zero_3 (y : Nat → Nat) : chk16 y 3 = true := by kernel_rfl
theorem zero_4 (y : Nat → Nat) : chk16 y 4 = true := by kernel_rfl
theorem zero_5 (y : Nat → Nat) : chk16 y 5 = true := by kernel_rfl
theorem zero_6 (y : Nat → Nat) : chk16 y 6 = true := by kernel_rfl
theorem zero_all (y : Nat → Nat) : ∀ b, b < 6 → chk16 y (b + 1) = true
  | 0, _ => zero_1 y | 1, _ => zero_2 y | 2, _ => zero_3 y | 3, _ => zero_4 y | 4, _ => zero_5 y | 5, _ => zero_6 y
  | b + 6, h => by omega

/-! ### The end -/
def Ends16 : AExit → AF → Prop := EndsAs Tryd.prog Tryd.f16 fun v' _ => v' = .bool true
noncomputable def T16 (G : List Nat) (w : Nat) : List (Nat × Value) := [(8, ptrC 2), (13, planV 5 G), (19, i64 w)]
section
variable {y : Nat → Nat} {n b : Nat} {E : SmS} {G : List Nat}
theorem law16_tail (hG : Good 0 n G) (hne : G ≠ []) (hn : n < 13) (hb : b ≤ 6) {w : Nat} (hw : pvN n b (longTo (gO G) (n + 1)) (mostTo (gO G) (n + 1)) = w) :
    Runs Tryd.prog 0 (behind 11 c16) (sth (T16 G w) 87 (sm4 y n b E G)) Ends16 := by
  have hg : (hp (sm4 y n b E G)).get 5 = .cells (litI G) true [] (some 3) := Eq.trans (show _ = planO (some 3) G by kernel_rfl) (planO_ne hne)
  have p1 := proves_at (b := b) hG hne hn hg
  rw [hw] at p1
  have p2 := proves_at (b := 7) hG hne hn hg
  have e7 : pvN n 7 (longTo (gO G) (n + 1)) (mostTo (gO G) (n + 1)) = 1 := by
    unfold pvN
    rw [if_pos (by decide)]
  rw [e7] at p2
  have hwho : (whoL [viaC 2 63 [planV 5 G, i64 b] (i64 w), viaV 4 (.bool true), viaC 7 63 [planV 5 G, i64 7] (i64 1)]).Pairwise (· ≠ ·) := by
    show List.Pairwise _ [((63 : FuncId), [planV 5 G, i64 b]), (63, [planV 5 G, i64 7])]
    refine List.Pairwise.cons (fun p hp => ?_) (List.pairwise_singleton _ _)
    rw [List.mem_singleton.1 hp]
    intro e
    simp only [Prod.mk.injEq, List.cons.injEq, and_true, true_and, i64, Value.int.injEq, Int.ofNat.injEq] at e
    omega
  refine Runs.sqR2 mixed hk38 [viaC 2 63 [planV 5 G, i64 b] (i64 w), viaV 4 (.bool true), viaC 7 63 [planV 5 G, i64 7] (i64 1)] (by kernel_rfl) (by kernel_rfl) hwho (by kernel_rfl)
    (oblC (shown_callE (h0 := hp (sm4 y n b E G)) (by kernel_rfl) (by kernel_rfl) p1) (oblC (shown_eq (v := .bool (eqF (.ofNat w) (.ofNat w))) (by kernel_rfl) (by kernel_rfl) (by rw [eq_self])) (oblC (shown_callE (h0 := hp (sm4 y n b E G)) (by kernel_rfl) (by kernel_rfl) p2) oblN))) ?_
  exact Runs.now (x := .ret) (by kernel_rfl) ⟨.inr rfl, [.bool true], by kernel_rfl, rfl⟩

theorem T16_clo (G : List Nat) (w : Nat) : ∀ p ∈ T16 G w, Clo 6 p.2 := fun p hp => by
  simp only [T16, List.mem_cons, List.mem_nil_iff, or_false] at hp
  rcases hp with rfl | rfl | rfl
  · exact clo_of 10 6 _ (by kernel_rfl)
  · exact planV_clo (by decide) G
  · exact clo_plain rfl

theorem law16_end (hG : Good 0 n G) (hne : G ≠ []) (hn : n < 13) (hb0 : 1 ≤ b) (hb : b ≤ 6) : Runs Tryd.prog 0 (behind 9 c16) (sth (S16 G n (n + 1)) 87 (sm4 y n b (smV n b) G)) Ends16 := by
  have tail : ∀ {w : Nat} {af : AF}, pvN n b (longTo (gO G) (n + 1)) (mostTo (gO G) (n + 1)) = w → Less 0 (sth (T16 G w) 87 (sm4 y n b (smV n b) G)) af → Runs Tryd.prog 0 (behind 11 c16) af Ends16 := fun hw less => Runs.less less (law16_tail hG hne hn hb hw)
  have out : outZ (.ofNat b) 1 6 = false := by
    unfold outZ
    rw [Bool.or_eq_false_iff]
    exact ⟨ltF_not.2 (show (1 : Int) ≤ (b : Int) by omega), ltF_not.2 (show (b : Int) ≤ 6 by omega)⟩
  generalize hW : longTo (gO G) (n + 1) = W at *
  generalize hB : mostTo (gO G) (n + 1) = B at *
  refine Runs.sqR mixed hk38 [] (by kernel_rfl) (by kernel_rfl) (by kernel_rfl) oblN ?_
  refine Runs.less (af1 := sth [(8, ptrC 2), (10, ptrC 4), (13, planV 5 G), (14, i64 W), (15, i64 B), (19, i64 0)] 87 (sm4 y n b (smV n b) G)) (less_seenP (fun p hp => ?_) sm4_clo (Nat.zero_le _) ?_ (by kernel_rfl) (by kernel_rfl) (by kernel_rfl)) ?_
  · simp only [List.mem_cons, List.mem_nil_iff, or_false] at hp
    rcases hp with rfl | rfl | rfl | rfl | rfl | rfl
    · exact clo_of 10 6 _ (by kernel_rfl)
    · exact clo_of 10 6 _ (by kernel_rfl)
    · exact planV_clo (show 5 < 6 by decide) G
    all_goals exact clo_plain rfl
  · subst hW hB
    exact Eq.trans (Eq.refl _) (by kernel_rfl)
  refine Runs.sq (by kernel_rfl) (Runs.bk (id := 2) (by kernel_rfl) ?_)
  refine Runs.sqR mixed hk38 [] (by kernel_rfl) (by kernel_rfl) (by kernel_rfl) oblN ?_
  refine Runs.cd (b := ltF (.ofNat b) (.ofNat B)) (by kernel_rfl) (fun h1 => ?_) (fun h1 => ?_)
  · refine Runs.rg mixed hk38 [] (by kernel_rfl) (by kernel_rfl) (by kernel_rfl) oblN ?_
    show Runs Tryd.prog 0 (behind 11 c16) _ _
    refine tail (w := 15) ?_ (less_seenP (T16_clo _ _) sm4_clo (Nat.zero_le _) (by kernel_rfl) (by kernel_rfl) (by kernel_rfl) (by kernel_rfl))
    unfold pvN
    rw [out]
    simp [ltN_yes h1]
  · refine Runs.sqR mixed hk38 [] (by kernel_rfl) (by kernel_rfl) (by kernel_rfl) oblN ?_
    refine Runs.cd (b := ltF (.ofNat (fewestN n b)) (.ofNat W)) (by kernel_rfl) (fun h2 => ?_) (fun h2 => Runs.now (x := .normal) (by kernel_rfl) ?_)
    · refine Runs.rg mixed hk38 [] (by kernel_rfl) (by kernel_rfl) (by kernel_rfl) oblN ?_
      show Runs Tryd.prog 0 (behind 11 c16) _ _
      refine tail (w := 14) ?_ (less_seenP (T16_clo _ _) sm4_clo (Nat.zero_le _) (by kernel_rfl) (by kernel_rfl) (by kernel_rfl) (by kernel_rfl))
      have := ltN_yes h2
      unfold pvN
      rw [out]
      simp [ltN_no h1, this]
      omega
    · show Runs Tryd.prog 0 (behind 11 c16) _ _
      refine tail (w := 0) ?_ (less_seenP (T16_clo _ _) sm4_clo (Nat.zero_le _) (by kernel_rfl) (by kernel_rfl) (by kernel_rfl) (by kernel_rfl))
      unfold pvN
      rw [out]
      simp [ltN_no h1, ltN_no h2]
end
end
end Go.Proofs.YtgnkjmgkfibipaaDoor
