/- TrialSpelled: lifted. -/
import Derived.Test.YtgnkjmgkfibipaaGreatDoorSSpelledKZC
import Derived.Test.YtgnkjmgkfibipaaGreatDoorTie
import Derived.Test.YtgnkjmgkfibipaaGreatDoorCards
import Derived.ProofKit
import Derived.LaidMore
import Derived.Lay
import Derived.MakeChecks
import Derived.OpenShut
import Derived.Carry
import Derived.Stop.Joined
import Derived.SizedLaws
import Derived.SevenTiedAt
namespace Go.Proofs.YtgnkjmgkfibipaaGreatDoor
set_option linter.unusedVariables false
set_option linter.unusedSimpArgs false
open Go.ChangeShapes Go.WideShapes Go.ChangeAt Go.RowKit
open Go Go.R
set_option maxRecDepth 1000000

theorem knobS : ownKnob Tryz.prog.godebug = none := by kernel_rfl
theorem spelled_walk (a : Int) (ha : 0 ≤ a ∧ a ≤ 255) (y z : Nat → Nat) (hy : ∀ i, y i < 256) (cs ds : Array Value) (hcs : byL6 y = cs.toList) (hds : byL6 z = ds.toList) (W : World) :
    Calls Tryz.prog 4 #[.int .u8 a, .agg cs, .agg ds] W fun e w' => e = .returned (.bool true) ∧ Below W.heap.size W w' := by
  obtain ⟨n, rfl⟩ : ∃ n : Nat, a = .ofNat n := ⟨a.toNat, (Int.toNat_of_nonneg ha.1).symm⟩
  have hn : ((n : Nat) : Int) ≤ 255 := ha.2
  have hl : LR (fun _ => none) [.int .u8 (.ofNat n), by6V y, by6V z] (#[.int .u8 (.ofNat n), .agg cs, .agg ds] : Array Value).toList := by
    refine LR.cons (.plain rfl) (LR.cons (VR.agg_of ?_) (LR.cons (VR.agg_of ?_) LR.nil))
    · show LR (fun _ => none) (byL6 y) cs.toList
      rw [← hcs]
      exact LR.of_plain (byL6_plain y)
    · show LR (fun _ => none) (byL6 z) ds.toList
      rw [← hds]
      exact LR.of_plain (byL6_plain z)
  refine (calls_of (k := 0) (R := fun v' _ => v' = .bool true) Tryz.func4 (show Tryz.f4.body = some q4 by kernel_rfl) (spelled_runs n (by omega) y z hy) (HR.start W) hl).mono fun e w' hh => ?_
  obtain ⟨v', rfl, v, h', rfl, μ', q1, q2, _⟩ := hh
  rw [q1.bool_inv]
  exact ⟨rfl, q2.below⟩

theorem byte_of3 {n : Int} (h : (Lit.int .u8 n).wf = true) : 0 ≤ n ∧ n ≤ 255 := bounds_u8 h

def natOfV3 : Value → Nat
  | .int _ n => n.toNat
  | _ => 0

theorem spelled_laid : laidOutB Tryz.prog = true := by kernel_rfl

theorem open_bytes6 (W : World) {H : Type} {enc : TypeId × Value → H} {cs : Array Value} {d : DataW H} {ps : List MemPlace} (h : DataW.Trod enc Tryz.prog W 0 (fun _ => true) true 42 (.agg cs) d ps) :
    ∃ y : Nat → Nat, (∀ i, y i < 256) ∧ byL6 y = cs.toList ∧ ps = [] := by
  obtain ⟨fuel, hf⟩ := h
  have c5 : Tryz.prog.cellsOf 5 = 1 := by kernel_rfl
  have c42 : Tryz.prog.cellsOf 42 = 6 := by kernel_rfl
  obtain ⟨xs, m, _, ex, hlen, hl, hel⟩ := DataW.trod_array (show Tryz.prog.underlying 42 = some (.array 6 5) by kernel_rfl) hf
  rw [c42] at hlen
  rw [c5] at hel
  have hlen' : cs.toList.length = 6 := hlen
  have each : ∀ i, i < 6 → ∃ n : Nat, cs.toList[i]? = some (.int .u8 (.ofNat n)) ∧ n < 256 ∧ ∀ x, xs[i]? = some x → x.2 = [] := by
    intro i hi
    have h1 := hel i hi
    obtain ⟨x, hx⟩ : ∃ x, xs[i]? = some x := ⟨xs[i], List.getElem?_eq_getElem (by omega)⟩
    rw [hx] at h1
    obtain ⟨n, e1, e2, e3⟩ := DataW.trod_int (show Tryz.prog.underlying 5 = some (.int .u8) by kernel_rfl) h1
    have hb := byte_of3 e3
    have hc : cs.toList[i]? = some (.int .u8 n) := by
      have := congrArg (fun l : List Value => l[0]?) e1
      simp only [List.getElem?_take, List.getElem?_drop, Nat.mul_one, Nat.add_zero] at this
      have e : (Value.agg cs).cells = cs := rfl
      simpa [e] using this
    refine ⟨n.toNat, ?_, by omega, fun x' hx' => ?_⟩
    · rw [hc, show Int.ofNat n.toNat = n from Int.toNat_of_nonneg hb.1]
    · rw [hx] at hx'
      cases hx'
      exact (Prod.mk.inj e2).2
  refine ⟨fun i => if i < 6 then natOfV3 (cs.toList.getD i (.int .u8 0)) else 0, fun i => ?_, ?_, ?_⟩
  · show (if i < 6 then _ else 0) < 256
    by_cases hi : i < 6
    · rw [if_pos hi]
      obtain ⟨n, h1, h2, _⟩ := each i hi
      rw [List.getD_eq_getElem?_getD, h1]
      exact h2
    · rw [if_neg hi]; decide
  · apply List.ext_getElem?
    intro i
    unfold byL6
    rw [List.getElem?_map]
    by_cases hi : i < 6
    · obtain ⟨n, h1, h2, _⟩ := each i hi
      rw [List.getElem?_range hi, h1]
      simp only [Option.map_some, if_pos hi]
      rw [List.getD_eq_getElem?_getD, h1]
      rfl
    · rw [List.getElem?_eq_none (by simpa using hi), List.getElem?_eq_none (by omega)]
      rfl
  · have := (Prod.mk.inj ex).2
    rw [this, List.flatMap_eq_nil_iff]
    intro x hx
    obtain ⟨i, hi⟩ := List.getElem?_of_mem hx
    have hlt : i < 6 := by rw [← hl]; exact (List.getElem?_eq_some_iff.1 hi).1
    obtain ⟨n, _, _, h3⟩ := each i hlt
    exact h3 x hi

theorem spelled_start (os : Os) (args : Array Value) : laidMetH Tryz.prog Rows.trialSpelledRow.laid ((World.laidAll Tryz.prog os Rows.trialSpelledRow.laid).forCall (fun _ _ => 0) ⟨#[], args, []⟩).memory := by
  rw [MakeChecks.laidMetH_plain _ _ _ (by kernel_rfl)]
  exact laidMet_laidAll args (by kernel_rfl) (by kernel_rfl)

theorem agg42 {W : World} {base : Nat} {v : Value} (h : Value.okWide Tryz.prog W .any base 42 v) : ∃ cs, v = .agg cs := by
  unfold Value.okWide at h
  rw [show Tryz.prog.underlying 42 = some (.array 6 5) by kernel_rfl] at h
  obtain ⟨cs, h, _⟩ := h
  exact ⟨cs, h⟩

theorem spelled_lifted (os : Os) (started : os.Started) (H : Type) (enc : TypeId × Value → H) :
    ReturnsInHanded {} Tryz.checked os 4 .any (fun w args => (Rows.trialSpelledSpec.pre enc Tryz.prog Tryz.f4 [] false w args ∧ laidMetH Tryz.prog Rows.trialSpelledRow.laid w) ∧ sizedMet enc Tryz.prog Tryz.f4 (OpenSpec.ofChange Rows.trialSpelledSpec) false w args)
      (Rows.trialSpelledSpec.post enc Tryz.prog Tryz.f4 false true false false) := by
  refine returnsInHanded_of_change_and (C := Tryz.checked) (X := fun w _ => laidMetH Tryz.prog Rows.trialSpelledRow.laid w) (fun _ _ _ hh h => h.of_heap hh) knobS started (by kernel_rfl) Tryz.func4
    (ChangeSpec.witness_shaped (enc := enc) (C := Tryz.checked) (os := os) (X := fun w _ => laidMetH Tryz.prog Rows.trialSpelledRow.laid w) false (World.laidAll Tryz.prog os Rows.trialSpelledRow.laid) #[.int .u8 0, .agg (Array.replicate 6 (.int .u8 0)), .agg (Array.replicate 6 (.int .u8 0))] 8 (World.laidAll_os _ _ _) (World.shaped_of_ZipB (by kernel_rfl) (by kernel_rfl)) (by kernel_rfl) (by kernel_rfl) (by kernel_rfl) (spelled_start os _)) ?_
  intro W base args ds gs before hval0 hW _ _ hL _
  have hval : ∀ (j : Nat) t v, Tryz.f4.params[j]? = some t → args[j]? = some v → Value.okWide Tryz.prog W .any base t v := hval0
  have hW' := hW
  obtain ⟨p, q, hA0, hV, rfl, hfz, hnd⟩ := hW
  have hA : DataW.TrodAll enc Tryz.prog W 0 (fun _ => true) true Tryz.f4.params.toList args.toList ds p := hA0
  rw [Tryz.params4] at hA hval
  obtain ⟨v0, v1, v2, d0, d1, d2, p0, p1, p2, rfl, rfl, rfl, h0, h1, h2⟩ := trodAll_three hA
  obtain ⟨rfl, rfl⟩ := trodVars_none hV
  obtain ⟨a, rfl, rfl, rfl, wa⟩ := open_int Tryz.underlying5 (hval 0 5 v0 rfl rfl) h0
  obtain ⟨cs, rfl⟩ := agg42 (hval 1 42 v1 rfl rfl)
  obtain ⟨es, rfl⟩ := agg42 (hval 2 42 v2 rfl rfl)
  obtain ⟨y, hy, hcs, hp⟩ := open_bytes6 W h1
  obtain ⟨z, hz, hes, hp2⟩ := open_bytes6 W h2
  clear hA0 hval0
  refine (spelled_walk a (byte_of3 wa) y z hy cs es hcs hes W).mono fun e W' ⟨he, bel⟩ => ?_
  subst he
  exact ⟨_, rfl, _, _, _, [], _, [], hW', trodAll_mk1 (shut_bool Tryz.underlying4 _), trodAll_mk3 (shut_int Tryz.underlying5 wa) (Below.trod spelled_laid (by kernel_rfl) (of_decide_eq_true (by kernel_rfl)) h1 bel (fun x hx => by rw [hp] at hx; cases hx)) (Below.trod spelled_laid (by kernel_rfl) (of_decide_eq_true (by kernel_rfl)) h2 bel (fun x hx => by rw [hp2] at hx; cases hx)), rfl, bel.frame _, fun h => by cases h⟩

end Go.Proofs.YtgnkjmgkfibipaaGreatDoor
