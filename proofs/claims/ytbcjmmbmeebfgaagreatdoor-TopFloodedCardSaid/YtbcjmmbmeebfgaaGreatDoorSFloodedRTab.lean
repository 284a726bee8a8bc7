/- bits.TrailingZeros, out of the shelf: a contract over the laid table. -/
import Derived.Test.YtbcjmmbmeebfgaaGreatDoorSFloodedRG5
import Derived.Lib.TrailingZeros
namespace Go.R
set_option linter.unusedVariables false
set_option linter.unusedSimpArgs false
open Go Go.RowKit
noncomputable section

def ctzF : Nat → Nat → Nat := fun f => Nat.rec (motive := fun _ => Nat → Nat) (fun _ => 0) (fun _ ih x => Bool.rec (motive := fun _ => Nat) (Nat.succ (ih (Nat.div x (nat_lit 2)))) (nat_lit 0) (Nat.beq (Nat.mod x (nat_lit 2)) (nat_lit 1))) f

theorem ctzF_eq : ∀ (f x : Nat), ctzF f x = Lib.ctzFrom f x
  | 0, _ => rfl
  | f + 1, x => by
    show Bool.rec (motive := fun _ => Nat) (Nat.succ (ctzF f (x / 2))) 0 (Nat.beq (x % 2) 1) = _
    unfold Lib.ctzFrom
    by_cases h : x % 2 = 1
    · rw [if_pos h, h]; rfl
    · rw [if_neg h]
      have : Nat.beq (x % 2) 1 = false := by
        cases hq : Nat.beq (x % 2) 1 with
        | false => rfl
        | true => exact absurd (Nat.eq_of_beq_eq_true hq) h
      rw [this]
      show Nat.succ (ctzF f (x / 2)) = _
      rw [ctzF_eq f]
      omega

/-- How many times two divides a number of 64 bits; 64 for none. -/
def tz (x : Nat) : Nat := Bool.rec (motive := fun _ => Nat) (ctzF 64 x) 64 (Nat.beq x 0)

theorem tz_eq (x : Nat) : tz x = Lib.ctz 64 x := by
  unfold tz Lib.ctz
  by_cases h : x = 0
  · subst h; rfl
  · rw [if_neg h]
    have : Nat.beq x 0 = false := by
      cases hq : Nat.beq x 0 with
      | false => rfl
      | true => exact absurd (Nat.eq_of_beq_eq_true hq) h
    rw [this]
    exact ctzF_eq 64 x

def tzH (f0 : FuncId) : Hook := fun f args h => match Nat.beq f f0 with
  | true => match args with
    | [.int .u64 (.ofNat n)] => match Nat.blt n 18446744073709551616 with
      | true => some (some (.int .i64 (.ofNat (tz n)), h))
      | false => none
    | _ => none
  | false => none

/-- The table in its variable, as the shelf says it. -/
def TabIn (g : Nat) (tab : List Nat) (w : World) : Prop := ∀ j, j < tab.length → w.cell? ⟨g, j, none⟩ = some (.int .u8 (tab.getD j 0))

theorem tz_ok {P : Program} (hn : NoNum P) {f0 : FuncId} {fn : Func} (hf : P.funcs[f0]? = some fn) (hb : fn.body.isSome = true) {g : Nat} {tab : List Nat} (hm : (g, tab) ∈ tabs)
    (C : ∀ (x : Nat), x < 18446744073709551616 → ∀ w : World, (x ≠ 0 → TabIn g tab w) → Calls P f0 #[.int .u64 x] w fun e w' => e = .returned (.int .i64 (Lib.ctz 64 x)) ∧ w' = w) : HookOk P (tzH f0) := by
  obtain ⟨c, hb⟩ := Option.isSome_iff_exists.1 hb
  intro f args h v h' he F w0 μ w args' H hl
  unfold tzH at he
  cases hq : Nat.beq f f0 with
  | false => simp only [hq] at he; cases he
  | true =>
    simp only [hq] at he
    have := Nat.eq_of_beq_eq_true hq
    subst this
    split at he
    · rename_i r hr
      subst he
      split at hr
      · rename_i n
        split at hr
        · rename_i hlt
          have hlt : n < 18446744073709551616 := by simpa [Nat.blt_eq] using hlt
          cases hr
          obtain ⟨y, e, hy⟩ := hl.one rfl
          have ea : args' = #[y] := arr_eq (by simpa using e)
          subst ea
          have := hy.int_inv
          subst this
          refine .inl ⟨enters hn hf hb _ w, Calls.mono (C n hlt w fun _ j hj => ?_) fun e w' hq => ?_⟩
          · have := H.laidNow g tab hm
            exact this.2 j hj
          · obtain ⟨rfl, rfl⟩ := hq
            exact ⟨_, rfl, μ, by rw [tz_eq]; exact .plain rfl, H, Ext.refl μ _⟩
        · cases hr
      · cases hr
    · cases he
end
end Go.R
