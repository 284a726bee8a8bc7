/- TrialWords: lifted. -/
import Derived.Test.YtgnkjmgkfibipaaDoorSWordsKLawWords
import Derived.Test.YtgnkjmgkfibipaaDoorSWordsKTopResults
namespace Go.Proofs.YtgnkjmgkfibipaaDoor
set_option linter.unusedVariables false
set_option linter.unusedSimpArgs false
open Go.ChangeShapes Go.WideShapes Go.ChangeAt Go.RowKit
open Go Go.R
set_option maxRecDepth 1000000

noncomputable def run3 (s : Value) : Bool := okRun Tryd.prog Tryd.f3 (execA Tryd.prog k38 1000 c3 (entry Tryd.f3 [s] AH.empty)) (.bool true)
theorem run3_nil : run3 (.slice none 0 0) = true := by kernel_rfl
theorem run3_emp : run3 emp = true := by kernel_rfl
theorem none_walk (s s' : Value) (hs : run3 s = true) (hv : VR (fun _ => none) s s') (W : World) :
    Calls Tryd.prog 3 #[s'] W fun e w' => e = .returned (.bool true) ∧ Below W.heap.size W w' := by
  have hrun : Runs Tryd.prog 0 c3 (entry Tryd.f3 [s] AH.empty) (EndsAs Tryd.prog Tryd.f3 fun v' _ => v' = .bool true) := Runs.last (n := 1000) mixed hk38 (Nat.zero_le _) hs
  have hl : LR (fun _ => none) [s] (#[s'] : Array Value).toList := LR.cons hv LR.nil
  refine (calls_of (k := 0) (R := fun v' _ => v' = .bool true) Tryd.func3 (show Tryd.f3.body = some c3 by kernel_rfl) hrun (HR.start W) hl).mono fun e w' hh => ?_
  obtain ⟨v', rfl, v, h', rfl, μ', q1, q2, _⟩ := hh
  rw [q1.bool_inv]
  exact ⟨rfl, q2.below⟩

theorem wordsL_walk (W : World) {H : Type} {enc : TypeId × Value → H} {v : Value} {d : DataW H} {ps : List MemPlace} (hs : ∃ a len cap, v = .slice a len cap)
    (h : DataW.Trod enc Tryd.prog W 0 (fun _ => true) true 22 v d ps) :
    Calls Tryd.prog 3 #[v] W (fun e w' => e = .returned (.bool true) ∧ Below W.heap.size W w') ∧ ∀ x ∈ ps, x.block < W.heap.size := by
  obtain ⟨fuel, hf⟩ := h
  rcases open_strings (show Tryd.prog.underlying 22 = some (.slice 9) by kernel_rfl) (show Tryd.prog.underlying 9 = some .string by kernel_rfl) (by kernel_rfl) hf with ⟨hc, hx⟩ | ⟨a, len, cap, ss, hc, _, hl, hm, hlen, hx, hall, _⟩
  · obtain ⟨a, len, cap, rfl⟩ := hs
    have hv : Value.slice a len cap = .slice none 0 0 := by simpa [Value.cells] using hc
    rw [hv]
    cases hx
    exact ⟨none_walk _ _ run3_nil (.plain rfl) W, fun x hx => by cases hx⟩
  · obtain ⟨a', len', cap', rfl⟩ := hs
    have hv : Value.slice a' len' cap' = .slice (some a) len cap := by simpa [Value.cells] using hc
    rw [hv]
    have hss : ss.length = cap := by rw [hlen]; simp
    refine ⟨?_, fun x hx' => ?_⟩
    · by_cases hz : len = 0
      · subst hz
        exact none_walk emp _ run3_emp .slice0 W
      · exact words_walk a len cap (by omega) hl (fun i => ss.getD i ByteArray.empty) W fun i hi => hall i (by omega)
    · have hps : ps = MemPlace.row a ss.length := (Prod.mk.inj hx).2
      rw [hps] at hx'
      unfold MemPlace.row at hx'
      obtain ⟨k, hk, rfl⟩ := List.mem_map.1 hx'
      have hpos : 0 < ss.length := by have := List.mem_range.1 hk; omega
      obtain ⟨_, cs, el, fr, hb, _⟩ := cell_block (hall 0 hpos)
      have : (a.add 0).block = a.block := by unfold Addr.add; split <;> rfl
      rw [this] at hb
      exact (Array.getElem?_eq_some_iff.1 hb).1

theorem words_start (os : Os) (args : Array Value) : laidMetH Tryd.prog Rows.trialWordsRow.laid ((World.laidAll Tryd.prog os Rows.trialWordsRow.laid).forCall (fun _ _ => 0) ⟨#[], args, []⟩).memory := by
  rw [MakeChecks.laidMetH_plain _ _ _ (by kernel_rfl)]
  exact laidMet_laidAll args (by kernel_rfl) (by kernel_rfl)

theorem words_lifted (os : Os) (started : os.Started) (H : Type) (enc : TypeId × Value → H) :
    ReturnsInHanded {} Tryd.checked os 3 .any (fun w args => (Rows.trialWordsSpec.pre enc Tryd.prog Tryd.f3 [] false w args ∧ laidMetH Tryd.prog Rows.trialWordsRow.laid w) ∧ sizedMet enc Tryd.prog Tryd.f3 (OpenSpec.ofChange Rows.trialWordsSpec) false w args)
      (Rows.trialWordsSpec.post enc Tryd.prog Tryd.f3 false true false false) := by
  refine returnsInHanded_of_change_and (C := Tryd.checked) (X := fun w _ => laidMetH Tryd.prog Rows.trialWordsRow.laid w) (fun _ _ _ hh h => h.of_heap hh) knob started (by kernel_rfl) Tryd.func3
    (ChangeSpec.witness_shaped (enc := enc) (C := Tryd.checked) (os := os) (X := fun w _ => laidMetH Tryd.prog Rows.trialWordsRow.laid w) false (World.laidAll Tryd.prog os Rows.trialWordsRow.laid) #[.slice none 0 0] 8 (World.laidAll_os _ _ _) (World.shaped_of_ZipB (by kernel_rfl) (by kernel_rfl)) (by kernel_rfl) (by kernel_rfl) (by kernel_rfl) (words_start os _)) ?_
  intro W base args ds gs before hval0 hW _ _ hL _
  have hval : ∀ (j : Nat) t v, Tryd.f3.params[j]? = some t → args[j]? = some v → Value.okWide Tryd.prog W .any base t v := hval0
  have hW' := hW
  obtain ⟨p, q, hA0, hV, rfl, hfz, hnd⟩ := hW
  have hA : DataW.TrodAll enc Tryd.prog W 0 (fun _ => true) true Tryd.f3.params.toList args.toList ds p := hA0
  rw [Tryd.params3] at hA hval
  obtain ⟨v0, d0, rfl, rfl, h0⟩ := trodAll_one hA
  obtain ⟨rfl, rfl⟩ := trodVars_none hV
  have hs := okWide_slice (show Tryd.prog.underlying 22 = some (.slice 9) by kernel_rfl) (hval 0 22 v0 rfl rfl)
  clear hA0 hval0
  obtain ⟨hw, hlt⟩ := wordsL_walk W hs h0
  refine hw.mono fun e W' ⟨he, bel⟩ => ?_
  subst he
  exact ⟨_, rfl, _, _, _, [], _, [], hW', trodAll_mk1 (shut_bool Tryd.underlying4 _), trodAll_mk1 (Below.trod res_laid (by kernel_rfl) (of_decide_eq_true (by kernel_rfl)) h0 bel hlt), rfl, bel.frame _, fun h => by cases h⟩

end Go.Proofs.YtgnkjmgkfibipaaDoor
