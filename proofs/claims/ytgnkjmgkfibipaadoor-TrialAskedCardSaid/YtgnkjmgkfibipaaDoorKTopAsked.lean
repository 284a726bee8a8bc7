/- TrialAsked: lifted. -/
import Derived.Test.YtgnkjmgkfibipaaDoorKAsk2
import Derived.Test.YtgnkjmgkfibipaaDoorKRest
import Derived.Test.YtgnkjmgkfibipaaDoorTie
import Derived.Test.YtgnkjmgkfibipaaDoorCards
import Derived.ProofKit
import Derived.LaidMore
import Derived.Lay
import Derived.MakeChecks
import Derived.OpenShut
import Derived.Carry
import Derived.Stop.Joined
import Derived.SizedLaws
import Derived.SevenTiedAt
namespace Go.Proofs.YtgnkjmgkfibipaaDoor
set_option linter.unusedVariables false
set_option linter.unusedSimpArgs false
open Go.ChangeShapes Go.WideShapes Go.ChangeAt Go.RowKit
open Go Go.R
set_option maxRecDepth 1000000

theorem byte_of' {n : Int} (h : (Lit.int .u8 n).wf = true) : 0 ≤ n ∧ n ≤ 255 := bounds_u8 h

def natOfV : Value → Nat
  | .int _ n => n.toNat
  | _ => 0

theorem ask_laid : laidOutB Tryd.prog = true := by kernel_rfl

theorem open_bytes (W : World) {H : Type} {enc : TypeId × Value → H} {cs : Array Value} {d : DataW H} {ps : List MemPlace} (h : DataW.Trod enc Tryd.prog W 0 (fun _ => true) true 49 (.agg cs) d ps) :
    ∃ y : Nat → Nat, (∀ i, y i < 256) ∧ byL y = cs.toList ∧ ps = [] := by
  obtain ⟨fuel, hf⟩ := h
  have c5 : Tryd.prog.cellsOf 5 = 1 := by kernel_rfl
  have c49 : Tryd.prog.cellsOf 49 = 20 := by kernel_rfl
  obtain ⟨xs, m, _, ex, hlen, hl, hel⟩ := DataW.trod_array (show Tryd.prog.underlying 49 = some (.array 20 5) by kernel_rfl) hf
  rw [c49] at hlen
  rw [c5] at hel
  have hlen' : cs.toList.length = 20 := hlen
  have each : ∀ i, i < 20 → ∃ n : Nat, cs.toList[i]? = some (.int .u8 (.ofNat n)) ∧ n < 256 ∧ ∀ x, xs[i]? = some x → x.2 = [] := by
    intro i hi
    have h1 := hel i hi
    obtain ⟨x, hx⟩ : ∃ x, xs[i]? = some x := ⟨xs[i], List.getElem?_eq_getElem (by omega)⟩
    rw [hx] at h1
    obtain ⟨n, e1, e2, e3⟩ := DataW.trod_int (show Tryd.prog.underlying 5 = some (.int .u8) by kernel_rfl) h1
    have hb := byte_of' e3
    have hc : cs.toList[i]? = some (.int .u8 n) := by
      have := congrArg (fun l : List Value => l[0]?) e1
      simp only [List.getElem?_take, List.getElem?_drop, Nat.mul_one, Nat.add_zero] at this
      have e : (Value.agg cs).cells = cs := rfl
      simpa [e] using this
    refine ⟨n.toNat, ?_, by omega, fun x' hx' => ?_⟩
    · rw [hc, show Int.ofNat n.toNat = n from Int.toNat_of_nonneg hb.1]
    · rw [hx] at hx'
      cases hx'
      exact (Prod.mk.inj e2).2
  refine ⟨fun i => if i < 20 then natOfV (cs.toList.getD i (.int .u8 0)) else 0, fun i => ?_, ?_, ?_⟩
  · show (if i < 20 then _ else 0) < 256
    by_cases hi : i < 20
    · rw [if_pos hi]
      obtain ⟨n, h1, h2, _⟩ := each i hi
      rw [List.getD_eq_getElem?_getD, h1]
      exact h2
    · rw [if_neg hi]; decide
  · apply List.ext_getElem?
    intro i
    unfold byL
    rw [List.getElem?_map]
    by_cases hi : i < 20
    · obtain ⟨n, h1, h2, _⟩ := each i hi
      rw [List.getElem?_range hi, h1]
      simp only [Option.map_some, if_pos hi]
      rw [List.getD_eq_getElem?_getD, h1]
      rfl
    · rw [List.getElem?_eq_none (by simpa using hi), List.getElem?_eq_none (by omega)]
      rfl
  · have := (Prod.mk.inj ex).2
    rw [this, List.flatMap_eq_nil_iff]
    intro x hx
    obtain ⟨i, hi⟩ := List.getElem?_of_mem hx
    have hlt : i < 20 := by rw [← hl]; exact (List.getElem?_eq_some_iff.1 hi).1
    obtain ⟨n, _, _, h3⟩ := each i hlt
    exact h3 x hi

theorem asked_start (os : Os) (args : Array Value) : laidMetH Tryd.prog Rows.trialAskedRow.laid ((World.laidAll Tryd.prog os Rows.trialAskedRow.laid).forCall (fun _ _ => 0) ⟨#[], args, []⟩).memory := by
  rw [MakeChecks.laidMetH_plain _ _ _ (by kernel_rfl)]
  exact laidMet_laidAll args (by kernel_rfl) (by kernel_rfl)

theorem asked_lifted (os : Os) (started : os.Started) (H : Type) (enc : TypeId × Value → H) :
    ReturnsInHanded {} Tryd.checked os 9 .any (fun w args => (Rows.trialAskedSpec.pre enc Tryd.prog Tryd.f9 [] false w args ∧ laidMetH Tryd.prog Rows.trialAskedRow.laid w) ∧ sizedMet enc Tryd.prog Tryd.f9 (OpenSpec.ofChange Rows.trialAskedSpec) false w args)
      (Rows.trialAskedSpec.post enc Tryd.prog Tryd.f9 false true false false) := by
  refine returnsInHanded_of_change_and (C := Tryd.checked) (X := fun w _ => laidMetH Tryd.prog Rows.trialAskedRow.laid w) (fun _ _ _ hh h => h.of_heap hh) knob started (by kernel_rfl) Tryd.func9
    (ChangeSpec.witness_shaped (enc := enc) (C := Tryd.checked) (os := os) (X := fun w _ => laidMetH Tryd.prog Rows.trialAskedRow.laid w) false (World.laidAll Tryd.prog os Rows.trialAskedRow.laid) #[.int .u8 0, .int .u8 0, .agg (Array.replicate 20 (.int .u8 0))] 8 (World.laidAll_os _ _ _) (World.shaped_of_ZipB (by kernel_rfl) (by kernel_rfl)) (by kernel_rfl) (by kernel_rfl) (by kernel_rfl) (asked_start os _)) ?_
  intro W base args ds gs before hval0 hW _ _ hL _
  have hval : ∀ (j : Nat) t v, Tryd.f9.params[j]? = some t → args[j]? = some v → Value.okWide Tryd.prog W .any base t v := hval0
  have hW' := hW
  obtain ⟨p, q, hA0, hV, rfl, hfz, hnd⟩ := hW
  have hA : DataW.TrodAll enc Tryd.prog W 0 (fun _ => true) true Tryd.f9.params.toList args.toList ds p := hA0
  rw [Tryd.params9] at hA hval
  obtain ⟨v0, v1, v2, d0, d1, d2, p0, p1, p2, rfl, rfl, rfl, h0, h1, h2⟩ := trodAll_three hA
  obtain ⟨rfl, rfl⟩ := trodVars_none hV
  obtain ⟨a, rfl, rfl, rfl, wa⟩ := open_int Tryd.underlying5 (hval 0 5 v0 rfl rfl) h0
  obtain ⟨b, rfl, rfl, rfl, wb⟩ := open_int Tryd.underlying5 (hval 1 5 v1 rfl rfl) h1
  obtain ⟨cs, rfl⟩ : ∃ cs, v2 = .agg cs := by
    have := hval 2 49 v2 rfl rfl
    unfold Value.okWide at this
    rw [show Tryd.prog.underlying 49 = some (.array 20 5) by kernel_rfl] at this
    obtain ⟨cs, h, _⟩ := this
    exact ⟨cs, h⟩
  obtain ⟨y, hy, hcs, hp⟩ := open_bytes W h2
  clear hA0 hval0
  refine (asked_walk a b (byte_of' wa) (byte_of' wb) y hy cs hcs W).mono fun e W' ⟨he, bel⟩ => ?_
  subst he
  exact ⟨_, rfl, _, _, _, [], _, [], hW', trodAll_mk1 (shut_bool Tryd.underlying4 _), trodAll_mk3 (shut_int Tryd.underlying5 wa) (shut_int Tryd.underlying5 wb) (Below.trod ask_laid (by kernel_rfl) (of_decide_eq_true (by kernel_rfl)) h2 bel (fun x hx => by rw [hp] at hx; cases hx)), rfl, bel.frame _, fun h => by cases h⟩

end Go.Proofs.YtgnkjmgkfibipaaDoor
