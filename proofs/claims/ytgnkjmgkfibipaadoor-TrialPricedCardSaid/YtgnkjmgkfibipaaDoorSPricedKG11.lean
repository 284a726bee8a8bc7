/- strings.Count, Worst and Proves over plans that pass the check. -/
import Derived.Test.YtgnkjmgkfibipaaDoorSPricedKG8
import Derived.Test.YtgnkjmgkfibipaaDoorSPricedKTabs
namespace Go.Proofs.YtgnkjmgkfibipaaDoor
set_option linter.unusedVariables false
set_option linter.unusedSimpArgs false
open Go Go.R
set_option maxRecDepth 1000000
noncomputable section

/-! ### Letters -/
noncomputable def strb : Value := .string ⟨#[98]⟩
noncomputable def c50 : Code := bodyOf Tryd.f50
theorem count_local (s : ByteArray) : Local Tryd.prog 0 50 [.string s, strb] AH.empty fun v' _ => v' = .int .i64 (cntB s.data.toList 98 0 : Nat) := by
  refine local_of noNum Tryd.func50 (show Tryd.f50.body = some c50 by kernel_rfl) ?_
  exact Runs.lastEq (R := fun v' _ => v' = .int .i64 (cntB s.data.toList 98 0 : Nat)) mixed hk38 (n := 100) (x := .ret) (vs := [.int .i64 (cntB s.data.toList 98 0 : Nat)]) (Nat.zero_le _) (.inr rfl) (by kernel_rfl) (fun _ => rfl)
theorem count_says (s : ByteArray) (h : AH) : Says Tryd.prog h 50 [.string s, strb] (.int .i64 (cntB s.data.toList 98 0 : Nat)) h := fun F w0 μ w args' H hl =>
  (count_local s).closed (fun v hv => by
    rcases List.mem_cons.1 hv with rfl | hv
    · rfl
    · rw [List.mem_singleton.1 hv]; rfl) rfl h H hl

/-- How many trials blunt. -/
def bluntN (hd : Nat) (l : List Int) : Nat := (l.filter fun x => ltF (.ofNat hd) x).length
theorem cnt_word (hd : Nat) : ∀ (l : List Int) (k : Nat), cntB (strB (wordOf (.ofNat hd) l)).data.toList 98 k = k + bluntN hd l := by
  have e : ∀ l : List Int, (strB (wordOf (.ofNat hd) l)).data.toList = l.map fun x => (byteW (ltF (.ofNat hd) x)).toNat.toUInt8 := fun l => by
    show (((wordOf (.ofNat hd) l).map fun x => x.toNat.toUInt8).toArray).toList = _
    unfold wordOf
    rw [List.map_map]
    rfl
  intro l
  rw [e]
  clear e
  induction l with
  | nil => intro k; rfl
  | cons x l ih =>
    intro k
    unfold bluntN at ih ⊢
    rw [List.map_cons, List.filter_cons]
    cases ltF (.ofNat hd) x with
    | true =>
      show cntB _ 98 (k + 1) = _
      rw [ih, if_pos rfl, List.length_cons]
      omega
    | false =>
      show cntB (l.map fun x => (byteW (ltF (.ofNat hd) x)).toNat.toUInt8) 98 k = _
      rw [ih, if_neg (by simp)]

/-! ### The worst case -/
end
end Go.Proofs.YtgnkjmgkfibipaaDoor

/- Proves over plans that pass the check. -/
namespace Go.Proofs.YtgnkjmgkfibipaaDoor
set_option linter.unusedVariables false
set_option linter.unusedSimpArgs false
open Go Go.R
set_option maxRecDepth 1000000
noncomputable section

theorem hook_says {hk : Hook} (hh : HookOk Tryd.prog hk) {f : FuncId} {args : List Value} {h h1 : AH} {v : Value} (he : hk f args h = some (some (v, h1))) : Says Tryd.prog h f args v h1 :=
  fun F w0 μ w args' H hl => hh f args h v h1 (by simp only [he]) F w0 μ w args' H hl
theorem blt_true {a b : Nat} (h : a < b) : Nat.blt a b = true := by rw [Nat.blt_eq]; exact h
end
end Go.Proofs.YtgnkjmgkfibipaaDoor
