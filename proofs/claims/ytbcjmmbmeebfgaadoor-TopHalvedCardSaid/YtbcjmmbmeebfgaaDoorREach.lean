/- Rounds that only look: what they keep; and the relation while a loop over a map is under way. -/
import Derived.Test.YtbcjmmbmeebfgaaDoorRDraw4
import Derived.Scope
import Derived.Maps.RangeRun
namespace Go.R
set_option linter.unusedVariables false
set_option linter.unusedSimpArgs false
open Go Go.RowKit
noncomputable section

theorem T.get_del {α : Type} : ∀ (t : T α) (k j : Nat), (t.del k).get j = if j = k then none else t.get j
  | .nil, k, j => by simp [T.del, T.gN, T.gZ, T.gS]
  | .node l v r, 0, 0 => by simp [T.del, T.gN, T.gZ, T.gS]
  | .node l v r, 0, j + 1 => by simp [T.del, T.gN, T.gZ, T.gS]
  | .node l v r, k + 1, 0 => by
    simp only [T.del]
    split <;> simp [T.gN, T.gZ, T.gS]
  | .node l v r, k + 1, j + 1 => by
    simp only [T.del, Nat.add_right_cancel_iff]
    by_cases hk : k % 2 = 0
    · rw [if_pos hk]
      by_cases hj : j % 2 = 0
      · simp only [T.gN, T.gZ, T.gS, hj, if_true, T.get_del l]
        by_cases e : j = k
        · subst e; simp
        · rw [if_neg e, if_neg (by omega)]
      · have : j ≠ k := by intro e; subst e; exact hj hk
        simp [T.gN, T.gZ, T.gS, hj, this]
    · rw [if_neg hk]
      by_cases hj : j % 2 = 0
      · have : j ≠ k := by intro e; subst e; exact hk hj
        simp [T.gN, T.gZ, T.gS, hj, this]
      · simp only [T.gN, T.gZ, T.gS, hj, if_false, T.get_del r]
        by_cases e : j = k
        · subst e; simp
        · rw [if_neg e, if_neg (by omega)]

theorem delL_get (tm : T Value) : ∀ (W : List Tmp) (t : Tmp), (delL tm W).get t = if W.contains t then none else tm.get t
  | [], t => by simp [delL]
  | k :: W, t => by
    simp only [delL, T.get_del, delL_get tm W, List.contains_cons]
    by_cases e : t = k
    · subst e; simp
    · have : (t == k) = false := by simpa using e
      simp [this, e]

/-- What is kept: the heap, the size, and the places outside W. -/
def Kept (W : List Tmp) (af af' : AF) : Prop := af'.h = af.h ∧ af'.sz = af.sz ∧ ∀ t, W.contains t = false → af'.tm.get t = af.tm.get t

theorem Kept.refl (W : List Tmp) (af : AF) : Kept W af af := ⟨rfl, rfl, fun _ _ => rfl⟩
theorem Kept.trans {W : List Tmp} {a b c : AF} (h : Kept W a b) (k : Kept W b c) : Kept W a c :=
  ⟨k.1.trans h.1, k.2.1.trans h.2.1, fun t ht => (k.2.2 t ht).trans (h.2.2 t ht)⟩

theorem Kept.put {W : List Tmp} {a : AF} {dst : Option Tmp} (hd : ∀ d, dst = some d → W.contains d = true) (v : Value) : Kept W a (a.put dst v a.h) := by
  refine ⟨AF.put_h _ _ _ _, AF.put_sz _ _ _ _, fun t ht => ?_⟩
  cases dst with
  | none => rfl
  | some d =>
    simp only [AF.put_def]
    split
    · rw [T.get_set', if_neg]
      intro e; subst e; rw [hd t rfl] at ht; cases ht
    · rfl

section
variable {P : Program} {F : Nat → Prop} {w0 : World} {call : CallF} {W : List Tmp}

theorem lit_ops {ops : Array Oper} : ∀ (l : List Oper) (af af' : AF) (hs : List AF), litL W l = true → opsL P call ops l af = some (af', hs) → Kept W af af'
  | [], af, af', hs, _, he => by
    simp only [opsL, Option.some.injEq, Prod.mk.injEq] at he
    obtain ⟨rfl, _⟩ := he
    exact Kept.refl _ _
  | o :: l, af, af', hs, hl, he => by
    simp only [litL, List.all_cons, Bool.and_eq_true] at hl
    obtain ⟨⟨hl1, hl2⟩, hl3⟩ := hl
    have hd : ∀ d, o.dst = some d → W.contains d = true := fun d hd => by rw [hd] at hl2; exact hl2
    simp only [opsL] at he
    split at he
    · split at he
      · rename_i v h hst
        unfold stepA at hst
        rw [light_call hl1] at hst
        have := light_stay hl1 hst
        subst this
        split at he
        · rename_i a2 hs2 hrec
          cases he
          exact (Kept.put hd v).trans (lit_ops l _ _ _ hl3 hrec)
        · cases he
      · cases he
    · split at he
      · rename_i a2 hs2 hrec
        cases he
        exact (Kept.put hd undef).trans (lit_ops l _ _ _ hl3 hrec)
      · cases he
    · cases he

theorem headForm_lit {y : Code} {H : Head} (h : headForm y = some H) : litC W y = false := by
  unfold headForm at h
  split at h
  · simp [litC]
  · cases h

theorem lit_exec : ∀ (n : Nat) (c : Code) (af af' : AF) (x : AExit), litC W c = true → execA P call n c af = some (x, af') → Kept W af af'
  | 0, c, af, af', x, _, he => by simp [execA] at he
  | n + 1, c, af, af', x, hl, he => by
    have ih := lit_exec n
    cases c with
    | skip => simp only [execA, Option.some.injEq, Prod.mk.injEq] at he; rw [← he.2]; exact Kept.refl _ _
    | label l => simp only [execA, Option.some.injEq, Prod.mk.injEq] at he; rw [← he.2]; exact Kept.refl _ _
    | exit id => simp only [execA, Option.some.injEq, Prod.mk.injEq] at he; rw [← he.2]; exact Kept.refl _ _
    | ret => simp only [execA, Option.some.injEq, Prod.mk.injEq] at he; rw [← he.2]; exact Kept.refl _ _
    | region id ops draw =>
      simp only [litC, Bool.and_eq_true, Bool.not_eq_true'] at hl
      simp only [execA, hl.1, regionA] at he
      split at he
      · rename_i a2 hr
        split at hr
        · rename_i a3 hs3 h3
          cases hr; cases he
          exact lit_ops _ _ _ _ hl.2 h3
        · cases hr
      · cases he
    | seq a b =>
      simp only [litC, Bool.and_eq_true] at hl
      simp only [execA] at he
      split at he
      · rename_i ops H hf
        exfalso
        unfold eachForm at hf
        split at hf
        · split at hf
          · rename_i H' hh
            have := headForm_lit (W := W) hh
            rw [hl.2] at this; cases this
          · cases hf
        · cases hf
      · split at he
        · rename_i a1 h1
          exact (ih a af a1 _ hl.1 h1).trans (ih b a1 af' x hl.2 he)
        · exact ih a af af' x hl.1 he
    | cond v t e =>
      simp only [litC, Bool.and_eq_true] at hl
      simp only [execA] at he
      split at he
      · exact ih t af af' x hl.1 he
      · exact ih e af af' x hl.2 he
      · cases he
    | block id body =>
      simp only [litC] at hl
      simp only [execA] at he
      split at he
      · rename_i id' a1 h1
        have := ih body af a1 _ hl h1
        split at he <;> (cases he; exact this)
      · exact ih body af af' x hl he
    | scope body =>
      simp only [litC] at hl
      simp only [execA] at he
      exact ih body af af' x hl he
    | loop body => simp [litC] at hl
    | goto l => cases he
    | rangeFunc f ps a b => cases he
    | refuse why => cases he

/-! ### The relation -/
variable {μ : Mp} {h : AH} {w : World}

theorem HR.off (H : HR F w0 μ h w) {r : Nat} (hr : ∀ i z e, μ i = some (r, z, e) → h.get i = .dead) (hF : ¬ F r) {w' : World}
    (hh : ∀ b, b ≠ r → w'.heap[b]? = w.heap[b]?) (hs : w.heap.size ≤ w'.heap.size) (ho : w'.os = w.os) (ht : w'.tape = w.tape) (hp : w'.output = w.output) : HR F w0 μ h w' where
  dom := H.dom
  obj := fun i b z e hi => by
    by_cases hb : b = r
    · subst hb; rw [hr i z e hi]; trivial
    · exact (H.obj i b z e hi).world (hh b hb)
  own := H.own
  sep := H.sep
  par := H.par
  os := ho.trans H.os
  tape := ht.trans H.tape
  output := hp.trans H.output
  size := Nat.le_trans H.size hs
  fr := fun b hb => ⟨(H.fr b hb).1, by
    by_cases e : b = r
    · subst e; exact absurd hb hF
    · rw [hh b e]; exact (H.fr b hb).2⟩
  tab := H.tab

/-- A map shares its block with nothing that lives. -/
theorem HR.map_alone (H : HR F w0 μ h w) {m b z e : Nat} (hm : μ m = some (b, z, e)) {es : List (Value × Value)} (hg : h.get m = .map es) {j zj ej : Nat} (hj : μ j = some (b, zj, ej)) : j = m ∨ h.get j = .dead := by
  rcases Nat.decEq j m with hne | heq
  · have := H.sep m j b z e zj ej (Ne.symm hne) hm hj
    rw [hg] at this
    rcases this with h1 | h1 | h1
    · simp [share] at h1
    · cases hx : h.get j <;> rw [hx] at h1 <;> simp [share] at h1
      exact .inr rfl
    · simp [AObj.wr] at h1
  · exact .inl heq

theorem HR.put_dead (H : HR F w0 μ h w) {m b e : Nat} (hm : μ m = some (b, 0, e)) {es : List (Value × Value)} (hg : h.get m = .map es) : HR F w0 μ (h.put m .dead) w where
  dom := H.dom
  obj := fun i b' z e' hi => by
    rw [AH.get_put]
    split
    · trivial
    · exact H.obj i b' z e' hi
  own := fun i b' z e' hi hw => by
    rw [AH.get_put] at hw
    split at hw
    · cases hw
    · exact H.own i b' z e' hi hw
  sep := fun i j b' zi ei zj ej hne hi hj => by
    rw [AH.get_put, AH.get_put]
    by_cases h1 : i = m
    · rw [if_pos h1]; exact .inl trivial
    · by_cases h2 : j = m
      · rw [if_pos h2]; exact .inr (.inl trivial)
      · rw [if_neg h1, if_neg h2]; exact H.sep i j b' zi ei zj ej hne hi hj
  par := fun i c l p ty hi hc j hj => by
    rw [AH.get_put] at hc
    split at hc
    · cases hc
    · exact H.par i c l p ty hi hc j hj
  os := H.os
  tape := H.tape
  output := H.output
  size := H.size
  fr := H.fr
  tab := H.tab

/-- More blocks are held fast from here on. -/
theorem HR.guard (H : HR F w0 μ h w) {G : Nat → Prop} (hG : ∀ b, G b → b < w.heap.size) (hw : ∀ i b z e, μ i = some (b, z, e) → G b → (h.get i).wr = false) : HR (fun b => F b ∨ G b) w μ h w where
  dom := H.dom
  obj := H.obj
  own := fun i b z e hi hwr => by
    rintro (h1 | h1)
    · exact H.own i b z e hi hwr h1
    · rw [hw i b z e hi h1] at hwr; cases hwr
  sep := H.sep
  par := H.par
  os := rfl
  tape := rfl
  output := rfl
  size := Nat.le_refl _
  fr := fun b hb => ⟨by
    rcases hb with h1 | h1
    · exact Nat.lt_of_lt_of_le (H.fr b h1).1 H.size
    · exact hG b h1, rfl⟩
  tab := H.laidIn fun b hb => .inl hb

theorem Ext.same {μ μ' : Mp} {h : AH} (E : Ext μ μ' h h) {F : Nat → Prop} {w0 w w' : World} (H : HR F w0 μ h w) {F' : Nat → Prop} {w1 : World} (H' : HR F' w1 μ' h w') : μ' = μ := by
  funext i
  cases hm : μ i with
  | some p => exact E.sub i p hm
  | none =>
    rcases Nat.lt_or_ge i h.next with h1 | h1
    · exact (E.unborn i h1 hm).1
    · exact H'.none_next h1

theorem HR.unguard {w2 w' : World} (H : HR F w0 μ h w2) {m b e : Nat} (hm : μ m = some (b, 0, e)) {es : List (Value × Value)} (hg : h.get m = .map es) {G : Nat → Prop} (hb : G b)
    (H' : HR (fun b => F b ∨ G b) w2 μ (h.put m .dead) w') : HR F w0 μ h w' where
  dom := H.dom
  obj := fun i b' z e' hi => by
    by_cases h1 : i = m
    · subst h1
      rw [hm] at hi
      cases hi
      exact (H.obj i b 0 e hm).world (H'.fr b (.inr hb)).2
    · have := H'.obj i b' z e' hi
      rw [AH.get_put, if_neg h1] at this
      exact this
  own := H.own
  sep := H.sep
  par := H.par
  os := H'.os.trans H.os
  tape := H'.tape.trans H.tape
  output := H'.output.trans H.output
  size := Nat.le_trans H.size H'.size
  fr := fun b' hb' => ⟨(H.fr b' hb').1, (H'.fr b' (.inl hb')).2.trans (H.fr b' hb').2⟩
  tab := H.tab

end
end
end Go.R
