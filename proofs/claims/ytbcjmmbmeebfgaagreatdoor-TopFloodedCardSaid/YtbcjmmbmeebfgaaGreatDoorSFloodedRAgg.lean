/- Closed calls as contracts, where structs and arrays of plain values are handed in. -/
import Derived.Test.YtbcjmmbmeebfgaaGreatDoorSFloodedRG5
namespace Go.R
set_option linter.unusedVariables false
set_option linter.unusedSimpArgs false
open Go Go.RowKit
noncomputable section

def plainG : Value → Bool
  | .agg vs => vs.toList.all plainV
  | v => plainV v

theorem plainG_same {μ : Mp} {v x : Value} (h : VR μ v x) (hp : plainG v = true) : x = v := by
  cases v with
  | agg vs =>
    obtain ⟨vs', rfl, hl⟩ := h.agg_inv
    have := plains_same hl (fun y hy => List.all_eq_true.1 hp y hy)
    rw [arr_eq this]
  | _ => exact plain_same h hp

theorem plainsG_same {μ : Mp} : ∀ {l k : List Value}, LR μ l k → (∀ v ∈ l, plainG v = true) → k = l
  | [], [], _, _ => rfl
  | a :: l, b :: k, h, hp => by
    rw [plainG_same h.head (hp a (by simp)), plainsG_same h.tail fun v hv => hp v (by simp [hv])]
  | [], _ :: _, h, _ => absurd h.1 (by simp)
  | _ :: _, [], h, _ => absurd h.1 (by simp)

theorem plainG_vr {μ : Mp} {v : Value} (hp : plainG v = true) : VR μ v v := by
  cases v with
  | agg vs => exact VR.agg_of (LR.of_plain fun y hy => List.all_eq_true.1 hp y hy)
  | _ => exact .plain hp

theorem plainsG_lr {μ : Mp} : ∀ {l : List Value}, (∀ v ∈ l, plainG v = true) → LR μ l l
  | [], _ => LR.nil
  | a :: l, h => LR.cons (plainG_vr (h a (by simp))) (plainsG_lr fun v hv => h v (by simp [hv]))

end
end Go.R
