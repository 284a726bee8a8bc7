/- TrialWorded: lifted. -/
import Derived.Test.YtgnkjmgkfibipaaDoorSWordedKW8
import Derived.Test.YtgnkjmgkfibipaaDoorSWordedKRest
import Derived.Test.YtgnkjmgkfibipaaDoorTie
import Derived.Test.YtgnkjmgkfibipaaDoorCards
import Derived.ProofKit
import Derived.LaidMore
import Derived.Lay
import Derived.MakeChecks
import Derived.OpenShut
import Derived.Carry
import Derived.Stop.Joined
import Derived.SizedLaws
import Derived.SevenTiedAt
namespace Go.Proofs.YtgnkjmgkfibipaaDoor
set_option linter.unusedVariables false
set_option linter.unusedSimpArgs false
open Go.ChangeShapes Go.WideShapes Go.ChangeAt Go.RowKit
open Go Go.R
set_option maxRecDepth 1000000

def byL12 (y : Nat → Nat) : List Value := (List.range 12).map fun i => .int .u8 (.ofNat (y i))
theorem byL12_plain (y : Nat → Nat) : ∀ v ∈ byL12 y, plainV v = true := fun v hv => by
  obtain ⟨i, _, rfl⟩ := List.mem_map.1 hv; rfl

theorem worded_walk (a : Int) (ha : 0 ≤ a ∧ a ≤ 255) (y : Nat → Nat) (hy : ∀ i, y i < 256) (cs : Array Value) (hcs : byL12 y = cs.toList) (W : World) :
    Calls Tryd.prog 11 #[.int .u8 a, .agg cs] W fun e w' => e = .returned (.bool true) ∧ Below W.heap.size W w' := by
  have hl : LR (fun _ => none) [.int .u8 a, byW y] (#[.int .u8 a, .agg cs] : Array Value).toList := by
    refine LR.cons (.plain rfl) (LR.cons (VR.agg_of ?_) LR.nil)
    show LR (fun _ => none) (byL12 y) cs.toList
    rw [← hcs]
    exact LR.of_plain (byL12_plain y)
  refine (calls_of (k := 0) (R := fun v' _ => v' = .bool true) Tryd.func11 (show Tryd.f11.body = some c11 by kernel_rfl) (worded_runs a ha y hy) (HR.start W) hl).mono fun e w' hh => ?_
  obtain ⟨v', rfl, v, h', rfl, μ', q1, q2, _⟩ := hh
  rw [q1.bool_inv]
  exact ⟨rfl, q2.below⟩

theorem byte_of3 {n : Int} (h : (Lit.int .u8 n).wf = true) : 0 ≤ n ∧ n ≤ 255 := bounds_u8 h

def natOfV3 : Value → Nat
  | .int _ n => n.toNat
  | _ => 0

theorem worded_laid : laidOutB Tryd.prog = true := by kernel_rfl

theorem open_bytes12 (W : World) {H : Type} {enc : TypeId × Value → H} {cs : Array Value} {d : DataW H} {ps : List MemPlace} (h : DataW.Trod enc Tryd.prog W 0 (fun _ => true) true 60 (.agg cs) d ps) :
    ∃ y : Nat → Nat, (∀ i, y i < 256) ∧ byL12 y = cs.toList ∧ ps = [] := by
  obtain ⟨fuel, hf⟩ := h
  have c5 : Tryd.prog.cellsOf 5 = 1 := by kernel_rfl
  have c60 : Tryd.prog.cellsOf 60 = 12 := by kernel_rfl
  obtain ⟨xs, m, _, ex, hlen, hl, hel⟩ := DataW.trod_array (show Tryd.prog.underlying 60 = some (.array 12 5) by kernel_rfl) hf
  rw [c60] at hlen
  rw [c5] at hel
  have hlen' : cs.toList.length = 12 := hlen
  have each : ∀ i, i < 12 → ∃ n : Nat, cs.toList[i]? = some (.int .u8 (.ofNat n)) ∧ n < 256 ∧ ∀ x, xs[i]? = some x → x.2 = [] := by
    intro i hi
    have h1 := hel i hi
    obtain ⟨x, hx⟩ : ∃ x, xs[i]? = some x := ⟨xs[i], List.getElem?_eq_getElem (by omega)⟩
    rw [hx] at h1
    obtain ⟨n, e1, e2, e3⟩ := DataW.trod_int (show Tryd.prog.underlying 5 = some (.int .u8) by kernel_rfl) h1
    have hb := byte_of3 e3
    have hc : cs.toList[i]? = some (.int .u8 n) := by
      have := congrArg (fun l : List Value => l[0]?) e1
      simp only [List.getElem?_take, List.getElem?_drop, Nat.mul_one, Nat.add_zero] at this
      have e : (Value.agg cs).cells = cs := rfl
      simpa [e] using this
    refine ⟨n.toNat, ?_, by omega, fun x' hx' => ?_⟩
    · rw [hc, show Int.ofNat n.toNat = n from Int.toNat_of_nonneg hb.1]
    · rw [hx] at hx'
      cases hx'
      exact (Prod.mk.inj e2).2
  refine ⟨fun i => if i < 12 then natOfV3 (cs.toList.getD i (.int .u8 0)) else 0, fun i => ?_, ?_, ?_⟩
  · show (if i < 12 then _ else 0) < 256
    by_cases hi : i < 12
    · rw [if_pos hi]
      obtain ⟨n, h1, h2, _⟩ := each i hi
      rw [List.getD_eq_getElem?_getD, h1]
      exact h2
    · rw [if_neg hi]; decide
  · apply List.ext_getElem?
    intro i
    unfold byL12
    rw [List.getElem?_map]
    by_cases hi : i < 12
    · obtain ⟨n, h1, h2, _⟩ := each i hi
      rw [List.getElem?_range hi, h1]
      simp only [Option.map_some, if_pos hi]
      rw [List.getD_eq_getElem?_getD, h1]
      rfl
    · rw [List.getElem?_eq_none (by simpa using hi), List.getElem?_eq_none (by omega)]
      rfl
  · have := (Prod.mk.inj ex).2
    rw [this, List.flatMap_eq_nil_iff]
    intro x hx
    obtain ⟨i, hi⟩ := List.getElem?_of_mem hx
    have hlt : i < 12 := by rw [← hl]; exact (List.getElem?_eq_some_iff.1 hi).1
    obtain ⟨n, _, _, h3⟩ := each i hlt
    exact h3 x hi

theorem worded_start (os : Os) (args : Array Value) : laidMetH Tryd.prog Rows.trialWordedRow.laid ((World.laidAll Tryd.prog os Rows.trialWordedRow.laid).forCall (fun _ _ => 0) ⟨#[], args, []⟩).memory := by
  rw [MakeChecks.laidMetH_plain _ _ _ (by kernel_rfl)]
  exact laidMet_laidAll args (by kernel_rfl) (by kernel_rfl)

theorem worded_lifted (os : Os) (started : os.Started) (H : Type) (enc : TypeId × Value → H) :
    ReturnsInHanded {} Tryd.checked os 11 .any (fun w args => (Rows.trialWordedSpec.pre enc Tryd.prog Tryd.f11 [] false w args ∧ laidMetH Tryd.prog Rows.trialWordedRow.laid w) ∧ sizedMet enc Tryd.prog Tryd.f11 (OpenSpec.ofChange Rows.trialWordedSpec) false w args)
      (Rows.trialWordedSpec.post enc Tryd.prog Tryd.f11 false true false false) := by
  refine returnsInHanded_of_change_and (C := Tryd.checked) (X := fun w _ => laidMetH Tryd.prog Rows.trialWordedRow.laid w) (fun _ _ _ hh h => h.of_heap hh) knob started (by kernel_rfl) Tryd.func11
    (ChangeSpec.witness_shaped (enc := enc) (C := Tryd.checked) (os := os) (X := fun w _ => laidMetH Tryd.prog Rows.trialWordedRow.laid w) false (World.laidAll Tryd.prog os Rows.trialWordedRow.laid) #[.int .u8 0, .agg (Array.replicate 12 (.int .u8 0))] 8 (World.laidAll_os _ _ _) (World.shaped_of_ZipB (by kernel_rfl) (by kernel_rfl)) (by kernel_rfl) (by kernel_rfl) (by kernel_rfl) (worded_start os _)) ?_
  intro W base args ds gs before hval0 hW _ _ hL _
  have hval : ∀ (j : Nat) t v, Tryd.f11.params[j]? = some t → args[j]? = some v → Value.okWide Tryd.prog W .any base t v := hval0
  have hW' := hW
  obtain ⟨p, q, hA0, hV, rfl, hfz, hnd⟩ := hW
  have hA : DataW.TrodAll enc Tryd.prog W 0 (fun _ => true) true Tryd.f11.params.toList args.toList ds p := hA0
  rw [Tryd.params11] at hA hval
  obtain ⟨v0, v2, d0, d2, p0, p2, rfl, rfl, rfl, h0, h2⟩ := trodAll_two hA
  obtain ⟨rfl, rfl⟩ := trodVars_none hV
  obtain ⟨a, rfl, rfl, rfl, wa⟩ := open_int Tryd.underlying5 (hval 0 5 v0 rfl rfl) h0
  obtain ⟨cs, rfl⟩ : ∃ cs, v2 = .agg cs := by
    have := hval 1 60 v2 rfl rfl
    unfold Value.okWide at this
    rw [show Tryd.prog.underlying 60 = some (.array 12 5) by kernel_rfl] at this
    obtain ⟨cs, h, _⟩ := this
    exact ⟨cs, h⟩
  obtain ⟨y, hy, hcs, hp⟩ := open_bytes12 W h2
  clear hA0 hval0
  refine (worded_walk a (byte_of3 wa) y hy cs hcs W).mono fun e W' ⟨he, bel⟩ => ?_
  subst he
  exact ⟨_, rfl, _, _, _, [], _, [], hW', trodAll_mk1 (shut_bool Tryd.underlying4 _), trodAll_mk2 (shut_int Tryd.underlying5 wa) (Below.trod worded_laid (by kernel_rfl) (of_decide_eq_true (by kernel_rfl)) h2 bel (fun x hx => by rw [hp] at hx; cases hx)), rfl, bel.frame _, fun h => by cases h⟩

end Go.Proofs.YtgnkjmgkfibipaaDoor
