/- TrialPlans: lifted. -/
import Derived.Test.YtgnkjmgkfibipaaGreatDoorSPlansKZ8
namespace Go.Proofs.YtgnkjmgkfibipaaGreatDoor
set_option linter.unusedVariables false
set_option linter.unusedSimpArgs false
open Go.ChangeShapes Go.WideShapes Go.ChangeAt Go.RowKit
open Go Go.R
set_option maxRecDepth 1000000

theorem none_walk (s s' : Value) (x z : Int) (hs : run3 s x z = true) (hv : VR (fun _ => none) s s') (W : World) :
    Calls Tryz.prog 3 #[s', .int .i64 x, .int .i64 z] W fun e w' => e = .returned (.bool true) ∧ Below W.heap.size W w' := by
  have hrun : Runs Tryz.prog 0 q3 (entry Tryz.f3 [s, .int .i64 x, .int .i64 z] AH.empty) (EndsAs Tryz.prog Tryz.f3 fun v' _ => v' = .bool true) := Runs.last (n := 1000) mixed (call_ok mixed noNum works_ok 1000) (Nat.zero_le _) hs
  have hl : LR (fun _ => none) [s, .int .i64 x, .int .i64 z] (#[s', .int .i64 x, .int .i64 z] : Array Value).toList := LR.cons hv (LR.cons (.plain rfl) (LR.cons (.plain rfl) LR.nil))
  refine (calls_of (k := 0) (R := fun v' _ => v' = .bool true) Tryz.func3 (show Tryz.f3.body = some q3 by kernel_rfl) hrun (HR.start W) hl).mono fun e w' hh => ?_
  obtain ⟨v', rfl, v, h', rfl, μ', q1, q2, _⟩ := hh
  rw [q1.bool_inv]
  exact ⟨rfl, q2.below⟩

theorem plansL_walk (x z : Int) (W : World) {H : Type} {enc : TypeId × Value → H} {v : Value} {d : DataW H} {ps : List MemPlace} (hs : ∃ a len cap, v = .slice a len cap)
    (h : DataW.Trod enc Tryz.prog W 0 (fun _ => true) true 22 v d ps) :
    Calls Tryz.prog 3 #[v, .int .i64 x, .int .i64 z] W (fun e w' => e = .returned (.bool true) ∧ Below W.heap.size W w') ∧ ∀ y ∈ ps, y.block < W.heap.size := by
  obtain ⟨fuel, hf⟩ := h
  rcases open_ints (show Tryz.prog.underlying 22 = some (.slice 3) by kernel_rfl) (show Tryz.prog.underlying 3 = some (.int .i64) by kernel_rfl) (by kernel_rfl) hf with ⟨hc, hx⟩ | ⟨a, len, cap, ss, hc, _, hl, hm, hlen, hx, hall, _⟩
  · obtain ⟨a, len, cap, rfl⟩ := hs
    have hv : Value.slice a len cap = .slice none 0 0 := by simpa [Value.cells] using hc
    rw [hv]
    cases hx
    exact ⟨none_walk _ _ x z (run3_nil x z) (.plain rfl) W, fun x hx => by cases hx⟩
  · obtain ⟨a', len', cap', rfl⟩ := hs
    have hv : Value.slice a' len' cap' = .slice (some a) len cap := by simpa [Value.cells] using hc
    rw [hv]
    have hss : ss.length = cap := by rw [hlen]; simp
    refine ⟨?_, fun y hx' => ?_⟩
    · by_cases hz : len = 0
      · subst hz
        exact none_walk emp _ x z (run3_emp x z) .slice0 W
      · exact plans_walk a len cap (by omega) hl (fun i => ss.getD i 0) x z W fun i hi => hall i (by omega)
    · have hps : ps = MemPlace.row a ss.length := (Prod.mk.inj hx).2
      rw [hps] at hx'
      unfold MemPlace.row at hx'
      obtain ⟨k, hk, rfl⟩ := List.mem_map.1 hx'
      have hpos : 0 < ss.length := by have := List.mem_range.1 hk; omega
      obtain ⟨_, cs, el, fr, hb, _⟩ := cell_block (hall 0 hpos)
      have : (a.add 0).block = a.block := by unfold Addr.add; split <;> rfl
      rw [this] at hb
      exact (Array.getElem?_eq_some_iff.1 hb).1

theorem z_laid : laidOutB Tryz.prog = true := by kernel_rfl

theorem plans_start (os : Os) (args : Array Value) : laidMetH Tryz.prog Rows.trialPlansRow.laid ((World.laidAll Tryz.prog os Rows.trialPlansRow.laid).forCall (fun _ _ => 0) ⟨#[], args, []⟩).memory := by
  rw [MakeChecks.laidMetH_plain _ _ _ (by kernel_rfl)]
  exact laidMet_laidAll args (by kernel_rfl) (by kernel_rfl)

theorem plans_lifted (os : Os) (started : os.Started) (H : Type) (enc : TypeId × Value → H) :
    ReturnsInHanded {} Tryz.checked os 3 .any (fun w args => (Rows.trialPlansSpec.pre enc Tryz.prog Tryz.f3 [] false w args ∧ laidMetH Tryz.prog Rows.trialPlansRow.laid w) ∧ sizedMet enc Tryz.prog Tryz.f3 (OpenSpec.ofChange Rows.trialPlansSpec) false w args)
      (Rows.trialPlansSpec.post enc Tryz.prog Tryz.f3 false true false false) := by
  refine returnsInHanded_of_change_and (C := Tryz.checked) (X := fun w _ => laidMetH Tryz.prog Rows.trialPlansRow.laid w) (fun _ _ _ hh h => h.of_heap hh) knob started (by kernel_rfl) Tryz.func3
    (ChangeSpec.witness_shaped (enc := enc) (C := Tryz.checked) (os := os) (X := fun w _ => laidMetH Tryz.prog Rows.trialPlansRow.laid w) false (World.laidAll Tryz.prog os Rows.trialPlansRow.laid) #[.slice none 0 0, .int .i64 0, .int .i64 0] 8 (World.laidAll_os _ _ _) (World.shaped_of_ZipB (by kernel_rfl) (by kernel_rfl)) (by kernel_rfl) (by kernel_rfl) (by kernel_rfl) (plans_start os _)) ?_
  intro W base args ds gs before hval0 hW _ _ hL _
  have hval : ∀ (j : Nat) t v, Tryz.f3.params[j]? = some t → args[j]? = some v → Value.okWide Tryz.prog W .any base t v := hval0
  have hW' := hW
  obtain ⟨p, q, hA0, hV, rfl, hfz, hnd⟩ := hW
  have hA : DataW.TrodAll enc Tryz.prog W 0 (fun _ => true) true Tryz.f3.params.toList args.toList ds p := hA0
  rw [Tryz.params3] at hA hval
  obtain ⟨v0, v1, v2, d0, d1, d2, p0, p1, p2, rfl, rfl, rfl, h0, h1, h2⟩ := trodAll_three hA
  obtain ⟨rfl, rfl⟩ := trodVars_none hV
  have hs := okWide_slice (show Tryz.prog.underlying 22 = some (.slice 3) by kernel_rfl) (hval 0 22 v0 rfl rfl)
  obtain ⟨x, rfl, rfl, rfl, wx⟩ := open_int Tryz.underlying3 (hval 1 3 v1 rfl rfl) h1
  obtain ⟨z, rfl, rfl, rfl, wz⟩ := open_int Tryz.underlying3 (hval 2 3 v2 rfl rfl) h2
  clear hA0 hval0
  obtain ⟨hw, hlt⟩ := plansL_walk x z W hs h0
  refine hw.mono fun e W' ⟨he, bel⟩ => ?_
  subst he
  exact ⟨_, rfl, _, _, _, [], _, [], hW', trodAll_mk1 (shut_bool Tryz.underlying4 _), trodAll_mk3 (Below.trod z_laid (by kernel_rfl) (of_decide_eq_true (by kernel_rfl)) h0 bel hlt) (shut_int Tryz.underlying3 wx) (shut_int Tryz.underlying3 wz), rfl, bel.frame _, fun h => by cases h⟩

end Go.Proofs.YtgnkjmgkfibipaaGreatDoor
