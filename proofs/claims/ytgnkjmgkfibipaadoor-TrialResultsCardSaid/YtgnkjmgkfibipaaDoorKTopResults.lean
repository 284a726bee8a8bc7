/- TrialResults: lifted. -/
import Derived.Test.YtgnkjmgkfibipaaDoorKLawResults
import Derived.Test.YtgnkjmgkfibipaaDoorKRest
namespace Go.Proofs.YtgnkjmgkfibipaaDoor
set_option linter.unusedVariables false
set_option linter.unusedSimpArgs false
open Go.ChangeShapes Go.WideShapes Go.ChangeAt Go.RowKit
open Go Go.R
set_option maxRecDepth 1000000

def intOfV : Value → Int
  | .int _ n => n
  | _ => 0
def boolOfV : Value → Bool
  | .bool b => b
  | _ => false

noncomputable def fld52 (k : Nat) : Field := match Tryd.prog.underlying 52 with
  | some (.struct fs) => fs[k]!
  | _ => default

theorem res_laid : laidOutB Tryd.prog = true := by kernel_rfl

theorem results_walk (L : Int) (W : World) {H : Type} {enc : TypeId × Value → H} {v : Value} {d : DataW H} {ps : List MemPlace} (hs : ∃ a len cap, v = .slice a len cap)
    (h : DataW.Trod enc Tryd.prog W 0 (fun _ => true) true 42 v d ps) :
    Calls Tryd.prog 8 #[.int .i64 L, v] W (fun e w' => e = .returned (.bool true) ∧ Below W.heap.size W w') ∧ ∀ x ∈ ps, x.block < W.heap.size := by
  obtain ⟨fuel, hf⟩ := h
  obtain ⟨f0, f1, hst, o0, o1, t0, t1⟩ : ∃ f0 f1 : Field, Tryd.prog.underlying 52 = some (.struct #[f0, f1]) ∧ f0.offset = 0 ∧ f1.offset = 1 ∧ f0.type = 3 ∧ f1.type = 4 :=
    ⟨fld52 0, fld52 1, by kernel_rfl, by kernel_rfl, by kernel_rfl, by kernel_rfl, by kernel_rfl⟩
  have c3 : Tryd.prog.cellsOf 3 = 1 := by kernel_rfl
  have c4 : Tryd.prog.cellsOf 4 = 1 := by kernel_rfl
  rcases Deep.open_slice_pairs (show Tryd.prog.underlying 42 = some (.slice 52) by kernel_rfl) hst (by kernel_rfl) o0 o1 (by rw [t0]; exact c3) (by rw [t1]; exact c4) hf with ⟨hc, hx⟩ | ⟨a, len, cap, m, n, V0, V1, D0, D1, P0, P1, hc, _, hl, hm, hmm, hx, hall⟩
  · obtain ⟨a, len, cap, rfl⟩ := hs
    have hv : Value.slice a len cap = .slice none 0 0 := by simpa [Value.cells] using hc
    rw [hv]
    cases hx
    exact ⟨empty_walk L _ _ (.inl rfl) (.plain rfl) W, fun x hx => by cases hx⟩
  · obtain ⟨a', len', cap', rfl⟩ := hs
    have hv : Value.slice a' len' cap' = .slice (some a) len cap := by simpa [Value.cells] using hc
    rw [hv]
    have hmc : m = cap := by rw [hmm]; simp
    rw [t0, t1] at hall
    have vals : ∀ i, i < m → ∃ x y, V0 i = .int .i64 x ∧ V1 i = .bool y ∧ P0 i = [] ∧ P1 i = [] := by
      intro i hi
      obtain ⟨_, _, h3, h4⟩ := hall i hi
      obtain ⟨x, e1, e2, _⟩ := DataW.trod_int Tryd.underlying3 h3
      obtain ⟨y, e3, e4⟩ := DataW.trod_bool Tryd.underlying4 h4
      simp only [List.cons.injEq, and_true] at e1 e3
      exact ⟨x, y, e1, e3, (Prod.mk.inj e2).2, (Prod.mk.inj e4).2⟩
    refine ⟨?_, fun x hx' => ?_⟩
    · by_cases hz : len = 0
      · subst hz
        exact empty_walk L emp _ (.inr rfl) .slice0 W
      · refine res_walk L a len cap (by omega) hl (fun i => intOfV (V0 i)) (fun i => boolOfV (V1 i)) W fun i hi => ?_
        · obtain ⟨h1, h2, _, _⟩ := hall i (by omega)
          obtain ⟨x, y, e1, e2, _, _⟩ := vals i (by omega)
          rw [h1, h2, e1, e2]
          exact ⟨rfl, rfl⟩
    · have hps : ps = MemPlace.row a (m * 2) ++ (List.range m).flatMap fun i => P0 i ++ P1 i := by
        have := (Prod.mk.inj hx).2
        exact this
      rw [hps] at hx'
      rcases List.mem_append.1 hx' with hr | hr
      · unfold MemPlace.row at hr
        obtain ⟨k, hk, rfl⟩ := List.mem_map.1 hr
        have hpos : 0 < m := by have := List.mem_range.1 hk; omega
        obtain ⟨_, cs, el, fr, hb, _⟩ := cell_block (hall 0 hpos).1
        have : (a.add (0 * 2)).block = a.block := by unfold Addr.add; split <;> rfl
        rw [this] at hb
        exact (Array.getElem?_eq_some_iff.1 hb).1
      · obtain ⟨i, hi, hp⟩ := List.mem_flatMap.1 hr
        obtain ⟨_, _, _, _, e3, e4⟩ := vals i (List.mem_range.1 hi)
        rw [e3, e4] at hp
        cases hp

theorem results_start (os : Os) (args : Array Value) : laidMetH Tryd.prog Rows.trialResultsRow.laid ((World.laidAll Tryd.prog os Rows.trialResultsRow.laid).forCall (fun _ _ => 0) ⟨#[], args, []⟩).memory := by
  rw [MakeChecks.laidMetH_plain _ _ _ (by kernel_rfl)]
  exact laidMet_laidAll args (by kernel_rfl) (by kernel_rfl)

theorem results_lifted (os : Os) (started : os.Started) (H : Type) (enc : TypeId × Value → H) :
    ReturnsInHanded {} Tryd.checked os 8 .any (fun w args => (Rows.trialResultsSpec.pre enc Tryd.prog Tryd.f8 [] false w args ∧ laidMetH Tryd.prog Rows.trialResultsRow.laid w) ∧ sizedMet enc Tryd.prog Tryd.f8 (OpenSpec.ofChange Rows.trialResultsSpec) false w args)
      (Rows.trialResultsSpec.post enc Tryd.prog Tryd.f8 false true false false) := by
  refine returnsInHanded_of_change_and (C := Tryd.checked) (X := fun w _ => laidMetH Tryd.prog Rows.trialResultsRow.laid w) (fun _ _ _ hh h => h.of_heap hh) knob started (by kernel_rfl) Tryd.func8
    (ChangeSpec.witness_shaped (enc := enc) (C := Tryd.checked) (os := os) (X := fun w _ => laidMetH Tryd.prog Rows.trialResultsRow.laid w) false (World.laidAll Tryd.prog os Rows.trialResultsRow.laid) #[.int .i64 0, .slice none 0 0] 8 (World.laidAll_os _ _ _) (World.shaped_of_ZipB (by kernel_rfl) (by kernel_rfl)) (by kernel_rfl) (by kernel_rfl) (by kernel_rfl) (results_start os _)) ?_
  intro W base args ds gs before hval0 hW _ _ hL _
  have hval : ∀ (j : Nat) t v, Tryd.f8.params[j]? = some t → args[j]? = some v → Value.okWide Tryd.prog W .any base t v := hval0
  have hW' := hW
  obtain ⟨p, q, hA0, hV, rfl, hfz, hnd⟩ := hW
  have hA : DataW.TrodAll enc Tryd.prog W 0 (fun _ => true) true Tryd.f8.params.toList args.toList ds p := hA0
  rw [Tryd.params8] at hA hval
  obtain ⟨v0, v1, d0, d1, p0, p1, rfl, rfl, rfl, h0, h1⟩ := trodAll_two hA
  obtain ⟨rfl, rfl⟩ := trodVars_none hV
  obtain ⟨a, rfl, rfl, rfl, wa⟩ := open_int Tryd.underlying3 (hval 0 3 v0 rfl rfl) h0
  have hs := okWide_slice (show Tryd.prog.underlying 42 = some (.slice 52) by kernel_rfl) (hval 1 42 v1 rfl rfl)
  clear hA0 hval0
  obtain ⟨hw, hlt⟩ := results_walk a W hs h1
  refine hw.mono fun e W' ⟨he, bel⟩ => ?_
  subst he
  exact ⟨_, rfl, _, _, _, [], _, [], hW', trodAll_mk1 (shut_bool Tryd.underlying4 _), trodAll_mk2 (shut_int Tryd.underlying3 wa) (Below.trod res_laid (by kernel_rfl) (of_decide_eq_true (by kernel_rfl)) h1 bel hlt), rfl, bel.frame _, fun h => by cases h⟩

end Go.Proofs.YtgnkjmgkfibipaaDoor
