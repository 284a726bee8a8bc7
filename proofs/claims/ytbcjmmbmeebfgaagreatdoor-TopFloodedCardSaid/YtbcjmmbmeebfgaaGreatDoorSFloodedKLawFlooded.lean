/- TopFlooded: the row, out of the machine's answers. -/
import Derived.Test.YtbcjmmbmeebfgaaGreatDoorSFloodedUF12
import Derived.Test.YtbcjmmbmeebfgaaGreatDoorSFloodedKArr43
import Derived.Test.YtbcjmmbmeebfgaaGreatDoorSFloodedRLaid
import Derived.Test.YtbcjmmbmeebfgaaGreatDoorTie
import Derived.Test.YtbcjmmbmeebfgaaGreatDoorCards
import Derived.ProofKit
import Derived.LaidMore
import Derived.Lay
import Derived.MakeChecks
import Derived.OpenShut
import Derived.Carry
import Derived.Stop.Joined
import Derived.SizedLaws
import Derived.SevenTiedAt
namespace Go.Proofs.YtbcjmmbmeebfgaaGreatDoor
set_option linter.unusedVariables false
set_option linter.unusedSimpArgs false
open Go.ChangeShapes Go.WideShapes Go.ChangeAt Go.RowKit
open Go Go.R
set_option maxRecDepth 1000000

noncomputable section
theorem knob : ownKnob Tryz.prog.godebug = none := by kernel_rfl
theorem byte_of {n : Int} (h : (Lit.int .u8 n).wf = true) : 0 ≤ n ∧ n ≤ 255 := by
  simp [Lit.wf, IntKind.min, IntKind.max, IntKind.signed, IntKind.bits] at h
  omega
theorem nat_of {n : Int} (h : (Lit.int .u8 n).wf = true) : ∃ x : Nat, x < 256 ∧ n = .ofNat x := by
  have := byte_of h
  obtain ⟨m, rfl⟩ := Int.eq_ofNat_of_zero_le this.1
  exact ⟨m, by omega, rfl⟩
theorem flooded_args {x z : Nat} {g : Nat → Nat} {μ : Mp} : LR μ [u8 x, u8 z, arr12V g] [u8 x, u8 z, arr12V g] :=
  LR.cons (.plain rfl) (LR.cons (.plain rfl) (LR.cons (VR.agg_of (LR.of_plain (arr12_plain g))) LR.nil))
theorem flooded_walk {x z : Nat} {g : Nat → Nat} (hx : x < 256) (hz : z < 256) (hg : ∀ i, i < 12 → g i < 256) (W : World) (hlaid : Laid (fun b => b < W.heap.size) W) :
    Calls Tryz.prog 3 #[u8 x, u8 z, arr12V g] W fun e w' => e = .returned (.bool true) ∧ Below W.heap.size W w' := by
  refine (calls_of (args := [u8 x, u8 z, arr12V g]) (args' := #[u8 x, u8 z, arr12V g]) (R := fun v' _ => v' = .bool true) Tryz.func3 (show Tryz.f3.body = some c3 by kernel_rfl) (flood_runs hx hz hg) (HR.start W hlaid) flooded_args).mono fun e w' hh => ?_
  obtain ⟨v', rfl, v, h', rfl, μ', q1, q2, _⟩ := hh
  rw [q1.bool_inv]
  exact ⟨rfl, q2.below⟩

theorem flooded_laid {W : World} (h : laidMetH Tryz.prog Rows.topFloodedRow.laid W) : Laid (fun b => b < W.heap.size) W := by
  rw [MakeChecks.laidMetH_plain _ _ _ (by kernel_rfl)] at h
  intro g l hm
  obtain ⟨rfl, rfl⟩ : g = 1 ∧ l = Lib.deBruijn64tab := by
    rcases List.mem_cons.1 hm with e | e
    · cases e; exact ⟨rfl, rfl⟩
    · cases e
  exact tab_of_laid h (n := "math/bits.deBruijn64tab") (d := Rows.laid_math_bits_deBruijn64tab) (t := 129) (e := 5) (tab := Lib.deBruijn64tab) (List.mem_cons_of_mem _ List.mem_cons_self)
    (by kernel_rfl) (by kernel_rfl) (by kernel_rfl) (by kernel_rfl) (by kernel_rfl) (by kernel_rfl) (by kernel_rfl)

theorem flooded_start (os : Os) (args : Array Value) : laidMetH Tryz.prog Rows.topFloodedRow.laid ((World.laidAll Tryz.prog os Rows.topFloodedRow.laid).forCall (fun _ _ => 0) ⟨#[], args, []⟩).memory := by
  rw [MakeChecks.laidMetH_plain _ _ _ (by kernel_rfl)]
  exact laidMet_laidAll args (by kernel_rfl) (by kernel_rfl)

theorem flooded_lifted (os : Os) (started : os.Started) (H : Type) (enc : TypeId × Value → H) :
    ReturnsInHanded {} Tryz.checked os 3 .any (fun w args => (Rows.topFloodedSpec.pre enc Tryz.prog Tryz.f3 [] false w args ∧ laidMetH Tryz.prog Rows.topFloodedRow.laid w) ∧ sizedMet enc Tryz.prog Tryz.f3 (OpenSpec.ofChange Rows.topFloodedSpec) false w args)
      (Rows.topFloodedSpec.post enc Tryz.prog Tryz.f3 false true false false) := by
  refine returnsInHanded_of_change_and (C := Tryz.checked) (X := fun w _ => laidMetH Tryz.prog Rows.topFloodedRow.laid w) (fun _ _ _ hh h => h.of_heap hh) knob started (by kernel_rfl) Tryz.func3
    (ChangeSpec.witness_shaped (enc := enc) (C := Tryz.checked) (os := os) (X := fun w _ => laidMetH Tryz.prog Rows.topFloodedRow.laid w) false (World.laidAll Tryz.prog os Rows.topFloodedRow.laid) #[.int .u8 0, .int .u8 0, arr12V fun _ => 0] 12 (World.laidAll_os _ _ _) (World.shaped_of_ZipB (by kernel_rfl) (by kernel_rfl)) (by kernel_rfl) (by kernel_rfl) (by kernel_rfl) (flooded_start os _)) ?_
  intro W base args ds gs before hval0 hW _ _ hL _
  have hval : ∀ (j : Nat) t v, Tryz.f3.params[j]? = some t → args[j]? = some v → Value.okWide Tryz.prog W .any base t v := hval0
  have hW' := hW
  obtain ⟨p, q, hA0, hV, rfl, hfz, hnd⟩ := hW
  have hA : DataW.TrodAll enc Tryz.prog W 0 (fun _ => true) true Tryz.f3.params.toList args.toList ds p := hA0
  rw [show Tryz.f3.params = #[5, 5, 23] by kernel_rfl] at hA hval
  obtain ⟨v0, v1, v2, d0, d1, d2, p0, p1, p2, rfl, rfl, rfl, h0, h1, h2⟩ := trodAll_three hA
  obtain ⟨rfl, rfl⟩ := trodVars_none hV
  have u5 : Tryz.prog.underlying 5 = some (.int .u8) := by kernel_rfl
  have u22 : Tryz.prog.underlying 22 = some (.array 3 5) := by kernel_rfl
  have u23 : Tryz.prog.underlying 23 = some (.array 4 22) := by kernel_rfl
  have c5' : Tryz.prog.cellsOf 5 = 1 := by kernel_rfl
  have c22 : Tryz.prog.cellsOf 22 = 3 := by kernel_rfl
  have c23 : Tryz.prog.cellsOf 23 = 12 := by kernel_rfl
  obtain ⟨a, rfl, rfl, rfl, wa⟩ := open_int u5 (hval 0 5 v0 rfl rfl) h0
  obtain ⟨b, rfl, rfl, rfl, wb⟩ := open_int u5 (hval 1 5 v1 rfl rfl) h1
  obtain ⟨n, rfl, rfl, rfl, wn⟩ := open_arr43 u23 u22 u5 c5' c22 c23 (hval 2 23 v2 rfl rfl) h2
  clear hA0 hval0
  obtain ⟨x, hx, rfl⟩ := nat_of wa
  obtain ⟨z, hz, rfl⟩ := nat_of wb
  have hn : ∀ i, i < 12 → n i = .ofNat (n i).toNat ∧ (n i).toNat < 256 := fun i hi => by
    obtain ⟨y, hy, e⟩ := nat_of (wn i hi)
    rw [e]
    exact ⟨rfl, hy⟩
  have ea : arr12V (fun i => (n i).toNat) = .agg #[.int .u8 (n 0), .int .u8 (n 1), .int .u8 (n 2), .int .u8 (n 3), .int .u8 (n 4), .int .u8 (n 5), .int .u8 (n 6), .int .u8 (n 7), .int .u8 (n 8), .int .u8 (n 9), .int .u8 (n 10), .int .u8 (n 11)] := by
    unfold arr12V u8
    rw [← (hn 0 (by decide)).1, ← (hn 1 (by decide)).1, ← (hn 2 (by decide)).1, ← (hn 3 (by decide)).1, ← (hn 4 (by decide)).1, ← (hn 5 (by decide)).1, ← (hn 6 (by decide)).1, ← (hn 7 (by decide)).1, ← (hn 8 (by decide)).1, ← (hn 9 (by decide)).1, ← (hn 10 (by decide)).1, ← (hn 11 (by decide)).1]
  have hwk := flooded_walk hx hz (fun i hi => (hn i hi).2) W (flooded_laid hL)
  rw [ea] at hwk
  refine hwk.mono fun e W' ⟨he, bel⟩ => ?_
  subst he
  exact ⟨_, rfl, _, _, _, [], _, [], hW', trodAll_mk1 (shut_bool Tryz.underlying4 _), trodAll_mk3 (shut_int u5 wa) (shut_int u5 wb) (shut_arr43 u23 u22 u5 c5' c22 c23 n wn), rfl, bel.frame _, fun h => by cases h⟩
end
end Go.Proofs.YtbcjmmbmeebfgaaGreatDoor
