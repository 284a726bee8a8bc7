/- TrialWorse: its first numbers, and the row out of the machine's answers. -/
import Derived.Test.YtgnkjmgkfibipaaDoorKRunWorse
import Derived.Test.YtgnkjmgkfibipaaDoorTie
import Derived.Test.YtgnkjmgkfibipaaDoorCards
import Derived.ProofKit
import Derived.LaidMore
import Derived.Lay
import Derived.MakeChecks
import Derived.OpenShut
import Derived.Stop.Joined
import Derived.SizedLaws
import Derived.SevenTiedAt
namespace Go.Proofs.YtgnkjmgkfibipaaDoor
set_option linter.unusedVariables false
set_option linter.unusedSimpArgs false
open Go.ChangeShapes Go.WideShapes Go.ChangeAt Go.RowKit
open Go Go.R
set_option maxRecDepth 1000000

/-- One more than the rest of a byte. -/
def restI (x : Int) (k : Int) : Int := wrapF .i64 (1 + Int.tmod (IntKind.i64.wrap x) k)

theorem restI_eq : ((List.range 13).all fun k => (List.range 256).all fun m => Nat.beq k 0 || decide (restI (.ofNat m) (.ofNat k) = .ofNat (m % k + 1))) = true := by kernel_rfl

theorem rest_of {x : Int} (h0 : 0 ≤ x) (h1 : x ≤ 255) {k : Nat} (hk : 0 < k) (hk' : k < 13) : ∃ n, n < k ∧ restI x (.ofNat k) = .ofNat (n + 1) := by
  obtain ⟨m, rfl⟩ := Int.eq_ofNat_of_zero_le h0
  have h := restI_eq
  simp only [List.all_eq_true, List.mem_range] at h
  have h2 := h k hk' m (by omega)
  rw [Bool.or_eq_true] at h2
  rcases h2 with h2 | h2
  · have := Nat.eq_of_beq_eq_true h2; omega
  · exact ⟨m % k, Nat.mod_lt _ hk, of_decide_eq_true h2⟩

theorem chkW_all : ∀ n, 0 < n → n < 13 → chkW n = true
  | 1, _, _ => w1 | 2, _, _ => w2 | 3, _, _ => w3 | 4, _, _ => w4 | 5, _, _ => w5 | 6, _, _ => w6
  | 7, _, _ => w7 | 8, _, _ => w8 | 9, _, _ => w9 | 10, _, _ => w10 | 11, _, _ => w11 | 12, _, _ => w12
  | 0, h, _ => by omega
  | n + 13, _, h => by omega

theorem worse_runs (x y z : Int) (hx : 0 ≤ x ∧ x ≤ 255) (hy : 0 ≤ y ∧ y ≤ 255) (hz : 0 ≤ z ∧ z ≤ 255) :
    Runs Tryd.prog 0 c7 (entry Tryd.f7 [.int .u8 x, .int .u8 y, .int .u8 z] AH.empty) (EndsAs Tryd.prog Tryd.f7 fun v' _ => v' = .bool true) := by
  have hk : CallOk Tryd.prog kW := call_ok mixed noNum hCho_ok 1000
  rw [show c7 = .seq (hd c7) (.seq (hd (tl c7)) (.seq (hd (tl (tl c7))) (behind 3 c7))) by kernel_rfl]
  refine Runs.seqObs (n := 10) mixed hk [(0, .int .u8 x), (1, .int .u8 y), (2, .int .u8 z)] (sz := 129) (by kernel_rfl) (by kernel_rfl) ?_
  refine Runs.seqObs (n := 10) mixed hk [(7, .int .i64 (restI x (.ofNat 12))), (8, .int .i64 (restI y (.ofNat 6))), (2, .int .u8 z)] (sz := 129) (by kernel_rfl) (by kernel_rfl) ?_
  obtain ⟨n, hn, en⟩ := rest_of hx.1 hx.2 (k := 12) (by decide) (by decide)
  obtain ⟨b, hb, eb⟩ := rest_of hy.1 hy.2 (k := 6) (by decide) (by decide)
  rw [en, eb]
  refine Runs.seqObs (n := 10) mixed hk [(7, i64 (n + 1)), (8, i64 (b + 1)), (9, .int .i64 (restI z (.ofNat (n + 1))))] (sz := 129) (by kernel_rfl) (by kernel_rfl) ?_
  obtain ⟨l, hl, el⟩ := rest_of hz.1 hz.2 (k := n + 1) (by omega) (by omega)
  rw [el]
  have hc := chkW_all (n + 1) (by omega) (by omega)
  simp only [chkW, List.all_eq_true, List.mem_range] at hc
  exact Runs.last mixed hk (Nat.zero_le _) (hc b hb l hl)

theorem worse_walk (x y z : Int) (hx : 0 ≤ x ∧ x ≤ 255) (hy : 0 ≤ y ∧ y ≤ 255) (hz : 0 ≤ z ∧ z ≤ 255) (W : World) :
    Calls Tryd.prog 7 #[.int .u8 x, .int .u8 y, .int .u8 z] W fun e w' => e = .returned (.bool true) ∧ Below W.heap.size W w' :=
  walk_true (args := [.int .u8 x, .int .u8 y, .int .u8 z]) Tryd.func7 (show Tryd.f7.body = some c7 by kernel_rfl) rfl (worse_runs x y z hx hy hz) W

theorem worse_knob : ownKnob Tryd.prog.godebug = none := by kernel_rfl

theorem worse_start (os : Os) (args : Array Value) : laidMetH Tryd.prog Rows.trialWorseRow.laid ((World.laidAll Tryd.prog os Rows.trialWorseRow.laid).forCall (fun _ _ => 0) ⟨#[], args, []⟩).memory := by
  rw [MakeChecks.laidMetH_plain _ _ _ (by kernel_rfl)]
  exact laidMet_laidAll args (by kernel_rfl) (by kernel_rfl)

theorem byte_of {n : Int} (h : (Lit.int .u8 n).wf = true) : 0 ≤ n ∧ n ≤ 255 := by
  simp [Lit.wf, IntKind.min, IntKind.max, IntKind.signed, IntKind.bits] at h
  omega

set_option maxRecDepth 100000 in
theorem worse_lifted (os : Os) (started : os.Started) (H : Type) (enc : TypeId × Value → H) :
    ReturnsInHanded {} Tryd.checked os 7 .any (fun w args => (Rows.trialWorseSpec.pre enc Tryd.prog Tryd.f7 [] false w args ∧ laidMetH Tryd.prog Rows.trialWorseRow.laid w) ∧ sizedMet enc Tryd.prog Tryd.f7 (OpenSpec.ofChange Rows.trialWorseSpec) false w args)
      (Rows.trialWorseSpec.post enc Tryd.prog Tryd.f7 false true false false) := by
  refine returnsInHanded_of_change_and (C := Tryd.checked) (X := fun w _ => laidMetH Tryd.prog Rows.trialWorseRow.laid w) (fun _ _ _ hh h => h.of_heap hh) worse_knob started (by kernel_rfl) Tryd.func7
    (ChangeSpec.witness_shaped (enc := enc) (C := Tryd.checked) (os := os) (X := fun w _ => laidMetH Tryd.prog Rows.trialWorseRow.laid w) false (World.laidAll Tryd.prog os Rows.trialWorseRow.laid) #[.int .u8 0, .int .u8 0, .int .u8 0] 8 (World.laidAll_os _ _ _) (World.shaped_of_ZipB (by kernel_rfl) (by kernel_rfl)) (by kernel_rfl) (by kernel_rfl) (by kernel_rfl) (worse_start os _)) ?_
  intro W base args ds gs before hval0 hW _ _ hL _
  have hval : ∀ (j : Nat) t v, Tryd.f7.params[j]? = some t → args[j]? = some v → Value.okWide Tryd.prog W .any base t v := hval0
  have hW' := hW
  obtain ⟨p, q, hA0, hV, rfl, hfz, hnd⟩ := hW
  have hA : DataW.TrodAll enc Tryd.prog W 0 (fun _ => true) true Tryd.f7.params.toList args.toList ds p := hA0
  rw [Tryd.params7] at hA hval
  obtain ⟨v0, v1, v2, d0, d1, d2, p0, p1, p2, rfl, rfl, rfl, h0, h1, h2⟩ := trodAll_three hA
  obtain ⟨rfl, rfl⟩ := trodVars_none hV
  obtain ⟨a, rfl, rfl, rfl, wa⟩ := open_int Tryd.underlying5 (hval 0 5 v0 rfl rfl) h0
  obtain ⟨b, rfl, rfl, rfl, wb⟩ := open_int Tryd.underlying5 (hval 1 5 v1 rfl rfl) h1
  obtain ⟨c, rfl, rfl, rfl, wc⟩ := open_int Tryd.underlying5 (hval 2 5 v2 rfl rfl) h2
  clear hA0 hval0
  refine (worse_walk a b c (byte_of wa) (byte_of wb) (byte_of wc) W).mono fun e W' ⟨he, bel⟩ => ?_
  subst he
  exact ⟨_, rfl, _, _, _, [], _, [], hW', trodAll_mk1 (shut_bool Tryd.underlying4 _), trodAll_mk3 (shut_int Tryd.underlying5 wa) (shut_int Tryd.underlying5 wb) (shut_int Tryd.underlying5 wc), rfl, bel.frame _, fun h => by cases h⟩

end Go.Proofs.YtgnkjmgkfibipaaDoor
