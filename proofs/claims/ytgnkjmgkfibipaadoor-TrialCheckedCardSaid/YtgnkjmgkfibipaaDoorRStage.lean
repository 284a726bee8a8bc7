/- Contracts of what calls itself with a smaller second number: stage by stage. -/
import Derived.Test.YtgnkjmgkfibipaaDoorRFresh
namespace Go.R
set_option linter.unusedVariables false
set_option linter.unusedSimpArgs false
open Go Go.RowKit
noncomputable section
variable {P : Program}

def stageH (hk : Hook) (f : FuncId) (A : Nat) (val : Nat → Nat → Option Value) (N : Nat) : Hook := orH hk (numH f (grid2 A N val))

def col2 (P : Program) (hk : Hook) (f : FuncId) (A : Nat) (val : Nat → Nat → Option Value) (N : Nat) : Bool :=
  (List.range A).all fun a => match val a N with
    | some v => flatV v && says (callA P (stageH hk f A val N) 1000 f [.int .i64 (.ofNat a), .int .i64 (.ofNat N)] AH.empty) v
    | none => true

theorem stage2_ok (hm : P.follows .mixedOrders = true) (hn : NoNum P) {hk : Hook} (hh : HookOk P hk) {f : FuncId} {A M : Nat} {val : Nat → Nat → Option Value} (h : ∀ N, N < M → col2 P hk f A val N = true) :
    ∀ N, N ≤ M → HookOk P (numH f (grid2 A N val))
  | 0, _ => num_ok fun args v hg => by
      unfold grid2 at hg
      split at hg
      · simp [Nat.blt] at hg
      · cases hg
  | N + 1, hN => by
    have ih := stage2_ok hm hn hh h N (by omega)
    refine num_ok fun args v hg => ?_
    unfold grid2 at hg
    split at hg
    · rename_i a b
      by_cases ha : Nat.blt a A = true
      · by_cases hb : Nat.blt b (N + 1) = true
        · simp only [ha, hb, if_true] at hg
          have hp : ∀ x ∈ [Value.int .i64 (.ofNat a), Value.int .i64 (.ofNat b)], plainV x = true := by simp [plainV]
          have hlt := blt_lt hb
          have hc := h N (by omega)
          simp only [col2, List.all_eq_true, List.mem_range] at hc
          by_cases e : b < N
          · have hb' : Nat.blt b N = true := by rw [Nat.blt_eq]; exact e
            have hcol := h b (by omega)
            simp only [col2, List.all_eq_true, List.mem_range] at hcol
            have h2 := hcol a (blt_lt ha)
            simp only [hg, Bool.and_eq_true] at h2
            refine ⟨hp, h2.1, fun F w0 μ w args' H hl => ?_⟩
            have := local_call (P := P) (call := fun g as h => match numH f (grid2 A N val) g as h with | some r => r | none => none) ih (k := 0) (f := f) (args := [.int .i64 (.ofNat a), .int .i64 (.ofNat b)]) (h := AH.empty) (h' := AH.empty) (v := v) (Nat.zero_le _) (by
              simp only [numH, Nat.beq_refl, if_true, grid2, ha, hb', hg])
            exact (this F w0 μ w args' H hl).mono fun v' w' ⟨v, h'', ⟨ev, _⟩, r⟩ => ⟨v, h'', ev, r⟩
          · have : b = N := by omega
            subst this
            have h2 := hc a (blt_lt ha)
            simp only [hg, Bool.and_eq_true] at h2
            exact ⟨hp, h2.1, local_says (call_ok hm hn (or_ok hh ih) 1000) h2.2⟩
        · simp [ha, hb] at hg
      · simp [ha] at hg
    · cases hg

def fstageH (hk : Hook) (f : FuncId) (ty : Option TypeId) (A : Nat) (val : Nat → Nat → Option (List Value × Option Value)) (N : Nat) : Hook := orH hk (freshH f ty (fgrid2 A N val))

def fcol2 (P : Program) (hk : Hook) (f : FuncId) (ty : Option TypeId) (A : Nat) (val : Nat → Nat → Option (List Value × Option Value)) (N : Nat) : Bool :=
  (List.range A).all fun a => match val a N with
    | some (cells, e) => cells.all plainV && (match e with | some v => plainV v | none => true) && saysFresh ty (callA P (fstageH hk f ty A val N) 1000 f [.int .i64 (.ofNat a), .int .i64 (.ofNat N)] AH.empty) cells e
    | none => true

theorem fstage2_local (hm : P.follows .mixedOrders = true) (hn : NoNum P) {hk : Hook} (hh : HookOk P hk) {f : FuncId} {ty : Option TypeId} {A M : Nat} {val : Nat → Nat → Option (List Value × Option Value)} (h : ∀ N, N < M → fcol2 P hk f ty A val N = true) :
    ∀ N, N ≤ M → HookOk P (freshH f ty (fgrid2 A N val)) ∧ ∀ a b cells e, a < A → b < N → val a b = some (cells, e) →
      (cells.all plainV && (match e with | some v => plainV v | none => true)) = true ∧ Local P 0 f [.int .i64 (.ofNat a), .int .i64 (.ofNat b)] AH.empty fun v' h' => ∃ i par, (v' = rowV i cells.length e ∨ v' = rowK i cells.length e) ∧ h'.get i = .cells cells true par ty
  | 0, _ => by
    refine ⟨freshH_ok fun args cells e hg => ?_, fun a b cells e _ hb => absurd hb (Nat.not_lt_zero b)⟩
    unfold fgrid2 at hg
    split at hg
    · simp [Nat.blt] at hg
    · cases hg
  | N + 1, hN => by
    obtain ⟨ih1, ih2⟩ := fstage2_local hm hn hh h N (by omega)
    have L : ∀ a b cells e, a < A → b < N + 1 → val a b = some (cells, e) →
      (cells.all plainV && (match e with | some v => plainV v | none => true)) = true ∧ Local P 0 f [.int .i64 (.ofNat a), .int .i64 (.ofNat b)] AH.empty fun v' h' => ∃ i par, (v' = rowV i cells.length e ∨ v' = rowK i cells.length e) ∧ h'.get i = .cells cells true par ty := by
      intro a b cells e ha hb hv
      by_cases hbN : b < N
      · exact ih2 a b cells e ha hbN hv
      · have : b = N := by omega
        subst this
        have hc := h b (by omega)
        simp only [fcol2, List.all_eq_true, List.mem_range] at hc
        have h2 := hc a ha
        simp only [hv] at h2
        rw [Bool.and_eq_true] at h2
        exact ⟨h2.1, saysFresh_local (call_ok hm hn (or_ok hh ih1) 1000) h2.2⟩
    refine ⟨freshH_ok fun args cells e hg => ?_, L⟩
    unfold fgrid2 at hg
    split at hg
    · rename_i a b
      by_cases ha : Nat.blt a A = true
      · by_cases hb : Nat.blt b (N + 1) = true
        · simp only [ha, hb, if_true] at hg
          obtain ⟨q1, q2⟩ := L a b cells e (blt_lt ha) (blt_lt hb) hg
          exact ⟨by simp [plainV], q1, q2⟩
        · simp [ha, hb] at hg
      · simp [ha] at hg
    · cases hg
/-- The same with three numbers, the stages being those of the third. -/
def fcell3 (P : Program) (hk : Hook) (f : FuncId) (ty : Option TypeId) (A B : Nat) (val : Nat → Nat → Nat → Option (List Value × Option Value)) (N a : Nat) : Bool :=
  (List.range B).all fun b => match val a b N with
    | some (cells, e) => cells.all plainV && (match e with | some v => plainV v | none => true) && saysFresh ty (callA P (orH hk (freshH f ty (fgrid3 A B N val))) 1000 f [.int .i64 (.ofNat a), .int .i64 (.ofNat b), .int .i64 (.ofNat N)] AH.empty) cells e
    | none => true

theorem fstage3_local (hm : P.follows .mixedOrders = true) (hn : NoNum P) {hk : Hook} (hh : HookOk P hk) {f : FuncId} {ty : Option TypeId} {A B M : Nat} {val : Nat → Nat → Nat → Option (List Value × Option Value)} (h : ∀ N, N < M → ∀ a, a < A → fcell3 P hk f ty A B val N a = true) :
    ∀ N, N ≤ M → HookOk P (freshH f ty (fgrid3 A B N val)) ∧ ∀ a b c cells e, a < A → b < B → c < N → val a b c = some (cells, e) →
      (cells.all plainV && (match e with | some v => plainV v | none => true)) = true ∧ Local P 0 f [.int .i64 (.ofNat a), .int .i64 (.ofNat b), .int .i64 (.ofNat c)] AH.empty fun v' h' => ∃ i par, (v' = rowV i cells.length e ∨ v' = rowK i cells.length e) ∧ h'.get i = .cells cells true par ty
  | 0, _ => by
    refine ⟨freshH_ok fun args cells e hg => ?_, fun a b c cells e _ _ hc => absurd hc (Nat.not_lt_zero c)⟩
    unfold fgrid3 at hg
    split at hg
    · simp [Nat.blt] at hg
    · cases hg
  | N + 1, hN => by
    obtain ⟨ih1, ih2⟩ := fstage3_local hm hn hh h N (by omega)
    have L : ∀ a b c cells e, a < A → b < B → c < N + 1 → val a b c = some (cells, e) →
      (cells.all plainV && (match e with | some v => plainV v | none => true)) = true ∧ Local P 0 f [.int .i64 (.ofNat a), .int .i64 (.ofNat b), .int .i64 (.ofNat c)] AH.empty fun v' h' => ∃ i par, (v' = rowV i cells.length e ∨ v' = rowK i cells.length e) ∧ h'.get i = .cells cells true par ty := by
      intro a b c cells e ha hb hc hv
      by_cases hcN : c < N
      · exact ih2 a b c cells e ha hb hcN hv
      · have : c = N := by omega
        subst this
        have hq := h c (by omega) a ha
        simp only [fcell3, List.all_eq_true, List.mem_range] at hq
        have h2 := hq b hb
        simp only [hv] at h2
        rw [Bool.and_eq_true] at h2
        exact ⟨h2.1, saysFresh_local (call_ok hm hn (or_ok hh ih1) 1000) h2.2⟩
    refine ⟨freshH_ok fun args cells e hg => ?_, L⟩
    unfold fgrid3 at hg
    split at hg
    · rename_i a b c
      by_cases ha : Nat.blt a A = true
      · by_cases hb : Nat.blt b B = true
        · by_cases hc : Nat.blt c (N + 1) = true
          · simp only [ha, hb, hc, if_true] at hg
            obtain ⟨q1, q2⟩ := L a b c cells e (blt_lt ha) (blt_lt hb) (blt_lt hc) hg
            exact ⟨by simp [plainV], q1, q2⟩
          · simp [ha, hb, hc] at hg
        · simp [ha, hb] at hg
      · simp [ha] at hg
    · cases hg
end
end Go.R
