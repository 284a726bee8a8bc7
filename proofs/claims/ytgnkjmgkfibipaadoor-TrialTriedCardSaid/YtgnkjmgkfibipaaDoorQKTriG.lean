/- TrialTried: its run. -/
import Derived.Test.YtgnkjmgkfibipaaDoorQKTriF
namespace Go.Proofs.YtgnkjmgkfibipaaDoor
set_option linter.unusedVariables false
set_option linter.unusedSimpArgs false
open Go Go.R
set_option maxRecDepth 1000000
noncomputable section

theorem trS_clo {n b t : Nat} {s : TrS} : ∀ o ∈ trS n b t s, CloO 10 o := fun o ho => by
  simp only [trS, trB, List.mem_append, List.mem_cons, List.mem_nil_iff, or_false] at ho
  rcases ho with (rfl | rfl | rfl | rfl | rfl | rfl | rfl | rfl) | rfl | rfl
  · exact cloO_one (clo_plain rfl) _
  · exact cloO_one (clo_plain rfl) _
  · exact cloO_one (clo_plain rfl) _
  · exact cloO_one (clo_plain rfl) _
  · exact cloO_one (clo_plain rfl) _
  · exact cloO_one (clo_plain rfl) _
  · exact cloO_one (planV_clo (by decide) _) _
  · exact cloO_one (planV_clo (by decide) _) _
  · exact planO_plain _ _
  · exact planO_plain _ _

theorem tried_runs (x y z : Int) (hx : 0 ≤ x ∧ x ≤ 255) (hy : 0 ≤ y ∧ y ≤ 255) (hz : 0 ≤ z ∧ z ≤ 255) :
    Runs Tryd.prog 0 bodyT (entry Tryd.f12 [.int .u8 x, .int .u8 y, .int .u8 z] AH.empty) (EndsAs Tryd.prog Tryd.f12 fun v' _ => v' = .bool true) := by
  have hk : CallOk Tryd.prog kT := call_ok mixed noNum hTried_ok 1000
  obtain ⟨n, hn, en⟩ := restJ_of hx.1 hx.2 (k := 8) (by decide) (by decide)
  obtain ⟨b, hb, eb⟩ := rest_of hy.1 hy.2 (k := 6) (by decide) (by decide)
  obtain ⟨t, ht, et⟩ := restJ_of hz.1 hz.2 (k := 13) (by decide) (by decide)
  refine Runs.sqR mixed hk38 [] (by kernel_rfl) (by kernel_rfl) (by kernel_rfl) oblN ?_
  refine Runs.sqR mixed hk38 [] (by kernel_rfl) (by kernel_rfl) (by kernel_rfl) oblN ?_
  refine Runs.less (af1 := sth [(7, .pointer (some ⟨0, 0, none⟩)), (8, .pointer (some ⟨1, 0, none⟩)), (9, .pointer (some ⟨2, 0, none⟩))] 132 [boxZ (restJ x (.ofNat 8)), boxZ (restI y (.ofNat 6)), boxZ (restJ z (.ofNat 13))])
    (less_seenP (clo_all (k := 3) (by kernel_rfl)) (fun o ho => by
      simp only [List.mem_cons, List.mem_nil_iff, or_false] at ho
      rcases ho with rfl | rfl | rfl <;> exact cloO_one (clo_plain rfl) _) (Nat.zero_le _) (by kernel_rfl) (by kernel_rfl) (by kernel_rfl) (by kernel_rfl)) ?_
  rw [en, eb, et]
  refine Runs.sqR mixed hk38 [] (by kernel_rfl) (by kernel_rfl) (by kernel_rfl) oblN ?_
  refine Runs.sqR mixed hk38 [] (by kernel_rfl) (by kernel_rfl) (by kernel_rfl) oblN ?_
  refine Runs.sqR mixed hk38 [viaH 2 53 [i64 0, i64 n, .func (.func 54) #[] (capsAt trPs).toArray] (.tuple #[]) (hp (trS n (b + 1) t (trE n (b + 1) t)))] (by kernel_rfl) (by kernel_rfl) (by kernel_rfl)
    (oblC (shown_callHE (h0 := hp (trB n (b + 1) t triZero 8 9)) (by kernel_rfl) (by kernel_rfl) (tri_plans hn)) oblN) ?_
  refine Runs.less (af1 := sth LT 132 (trS n (b + 1) t (trE n (b + 1) t))) (less_seenP (clo_all (k := 10) (by kernel_rfl)) trS_clo (Nat.zero_le _) (by kernel_rfl) (by kernel_rfl) (by kernel_rfl) (by kernel_rfl)) ?_
  have hc := tri_all n hn
  simp only [chkTriN, List.all_eq_true, List.mem_range] at hc
  have he := trE_all n hn
  simp only [chkE, List.all_eq_true, List.mem_range] at he
  rw [eqT_sound (he b hb t ht)]
  exact Runs.last mixed hk (Nat.zero_le _) (hc b hb t ht)
end
end Go.Proofs.YtgnkjmgkfibipaaDoor
