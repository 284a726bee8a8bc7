/- TrialTried: all plans for its numbers; what the kernel is to see. -/
import Derived.Test.YtgnkjmgkfibipaaDoorQKG7
import Derived.Test.YtgnkjmgkfibipaaDoorQKBestB
import Derived.Test.YtgnkjmgkfibipaaDoorQKTabs2
import Derived.Test.YtgnkjmgkfibipaaDoorQKCountTop
import Derived.Test.YtgnkjmgkfibipaaDoorQKRest
namespace Go.Proofs.YtgnkjmgkfibipaaDoor
set_option linter.unusedVariables false
set_option linter.unusedSimpArgs false
open Go Go.R
set_option maxRecDepth 1000000
noncomputable section

theorem plansF_le : ∀ (f low n : Nat) (p : List Nat × Nat × Nat), p ∈ plansF f low n → ∀ x ∈ p.1, x ≤ low + n
  | 0, low, n, p, h => by cases h
  | f + 1, low, 0, p, h => by
    rw [plansF, List.mem_singleton] at h
    subst h
    intro x hx; cases hx
  | f + 1, low, n + 1, p, h => by
    rw [plansF] at h
    obtain ⟨i, hi, h⟩ := List.mem_flatMap.1 h
    obtain ⟨a, ha, h⟩ := List.mem_flatMap.1 h
    obtain ⟨c, hc, rfl⟩ := List.mem_map.1 h
    have hin := List.mem_range.1 hi
    intro x hx
    rcases List.mem_cons.1 hx with rfl | hx
    · omega
    · rcases List.mem_append.1 hx with hx | hx
      · have := plansF_le f low i a ha x hx; omega
      · have := plansF_le f (low + 1 + i) (n - i) c hc x hx; omega

theorem nodup_len : ∀ (k : Nat) (l : List Nat), l.Nodup → (∀ x ∈ l, x < k) → l.length ≤ k
  | 0, l, _, h => by
    cases l with
    | nil => exact Nat.le_refl _
    | cons x l => exact absurd (h x List.mem_cons_self) (Nat.not_lt_zero x)
  | k + 1, l, hd, h => by
    by_cases hk : k ∈ l
    · have := nodup_len k (l.erase k) (hd.erase k) (fun x hx => by
        have h1 := (List.Nodup.mem_erase_iff hd).1 hx
        have := h x h1.2
        have := h1.1
        omega)
      rw [List.length_erase_of_mem hk] at this
      omega
    · have := nodup_len k l hd (fun x hx => by
        have := h x hx
        have : x ≠ k := fun e => hk (e ▸ hx)
        omega)
      omega

def triOk (s : TrS) : Prop := s.choices.Nodup ∧ ∀ x ∈ s.choices, x < 100
theorem triOk_step {n b t : Nat} {s : TrS} {l : List Nat} {u d : Nat} (h : triOk s) (hl : l.headD 0 < 100) : triOk (trStep n b t s l u d) := by
  unfold trStep
  simp only
  cases ltF (.ofNat b) (.ofNat d) || ltF s.least (.ofNat u) with
  | true => exact h
  | false =>
    simp only [cond_false]
    cases ltF (.ofNat u) s.least with
    | true =>
      simp only [cond_true]
      cases Nat.blt 0 n with
      | true => exact ⟨by simp, fun x hx => by rw [List.mem_singleton.1 hx]; exact hl⟩
      | false => exact ⟨by simp, fun x hx => by cases hx⟩
    | false =>
      simp only [cond_false]
      cases hc : Nat.blt 0 n && !(s.choices.contains (l.headD 0)) with
      | true =>
        have hn : l.headD 0 ∉ s.choices := fun hm => by
          rw [Bool.and_eq_true, Bool.not_eq_true', (List.contains_iff_mem).2 hm] at hc
          exact absurd hc.2 (by simp)
        refine ⟨?_, fun x hx => ?_⟩
        · show (s.choices ++ [l.headD 0]).Nodup
          exact List.nodup_append.2 ⟨h.1, by simp, fun a ha b hb => by
            rw [List.mem_singleton.1 hb]
            exact fun e => hn (e ▸ ha)⟩
        · have hx : x ∈ s.choices ++ [l.headD 0] := hx
          rcases List.mem_append.1 hx with hx | hx
          · exact h.2 x hx
          · rw [List.mem_singleton.1 hx]; exact hl
      | false => exact h

def triZero : TrS := ⟨0, 0, 100, [], []⟩
def trE (n b t : Nat) : TrS := foldP (trStep n b t) triZero (plansF 8 0 n)

theorem tri_zero_at (n b t : Nat) : ∀ i, i < 10 → (hp (trS n b t triZero)).get i = (hp (trB n b t triZero 8 9)).get i
  | 0, _ => by kernel_rfl
  | 1, _ => by kernel_rfl
  | 2, _ => by kernel_rfl
  | 3, _ => by kernel_rfl
  | 4, _ => by kernel_rfl
  | 5, _ => by kernel_rfl
  | 6, _ => by kernel_rfl
  | 7, _ => by kernel_rfl
  | 8, _ => by kernel_rfl
  | 9, _ => by kernel_rfl
  | i + 10, h => by omega

theorem tri_plans {n b t : Nat} (hn : n < 8) : Says Tryd.prog (hp (trB n b t triZero 8 9)) 53 [i64 0, i64 n, .func (.func 54) #[] (capsAt trPs).toArray] (.tuple #[]) (hp (trS n b t (trE n b t))) := by
  refine base_call (S := trS n b t) (P0 := triOk) (m := 8) (M := 10) (s := triZero) (pre := [i64 0, i64 n]) (fun _ => rfl) (by decide) (fun s => ?_) (ps := trPs) (by decide) (by decide) (by decide) rfl (fun i hi => ?_) ⟨by simp [triZero], fun x hx => by cases hx⟩
    (fun v hv => by simp only [List.mem_cons, List.mem_nil_iff, or_false] at hv; rcases hv with rfl | rfl <;> rfl) (fun μ => ?_)
  · simp only [trS, trB, List.all_append, List.all_cons, List.all_nil, planO_tidy]
    rfl
  · exact tri_zero_at n b t i hi
  · have := plOK n 8 (by omega) TrS (Hid.base (trS n b t) triOk μ 8 trPs) (Nat.le_refl 16) 54 8 0 (by decide) (by omega) (trStep n b t)
      (base_cb (S := trS n b t) (m := 8) (M := 10) (fun _ => rfl) (by decide) (fun s => by
        simp only [trS, trB, List.all_append, List.all_cons, List.all_nil, planO_tidy]
        rfl) (by decide) (by decide) (fun s l u d hs hok => by
          obtain ⟨h1, h2, h3⟩ := plansF_small 8 0 n _ hok
          have h4 := plansF_le 8 0 n _ hok
          refine ⟨triOk_step hs ?_, tri_local ?_ h1⟩
          · cases l with
            | nil => exact Nat.lt_of_lt_of_le Nat.zero_lt_one (by decide)
            | cons x l => have := h4 x List.mem_cons_self; show x < 100; omega
          · have := nodup_len 100 s.choices hs.1 hs.2
            omega)) triZero
    rw [Nat.zero_add] at this
    exact this

/-! ### The law behind that -/
def hTried : Hook := orH hBest (orH hNum (numH 32 (grid3 13 7 13 vCount)))
theorem hTried_ok : HookOk Tryd.prog hTried := or_ok hBest_ok (or_ok hNum_ok count_ok)
def kT : CallF := callA Tryd.prog hTried 1000
noncomputable def bodyT : Code := bodyOf Tryd.f12
def LT : List (Nat × Value) := [(7, .pointer (some ⟨0, 0, none⟩)), (8, .pointer (some ⟨1, 0, none⟩)), (9, .pointer (some ⟨2, 0, none⟩)), (10, .pointer (some ⟨3, 0, none⟩)), (11, .pointer (some ⟨4, 0, none⟩)), (12, .pointer (some ⟨5, 0, none⟩)), (13, .pointer (some ⟨6, 0, none⟩)), (14, .pointer (some ⟨7, 0, none⟩))]
end
end Go.Proofs.YtgnkjmgkfibipaaDoor
