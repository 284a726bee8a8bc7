/- Rounds that only look: what they keep; and the relation while a loop over a map is under way. -/
import Derived.Test.YtbcjmmbmeebfgaaGreatDoorSFloodedRG3
import Derived.Scope
import Derived.Maps.RangeRun
import Derived.Test.YtbcjmmbmeebfgaaGreatDoorSFloodedRFloat
import Derived.Lib.Bytealg
import Derived.Lib.MakeNoZero
import Derived.Room.MakeNoZero
namespace Go.R
set_option linter.unusedVariables false
set_option linter.unusedSimpArgs false
open Go Go.RowKit
noncomputable section

theorem T.get_del {α : Type} : ∀ (t : T α) (k j : Nat), (t.del k).get j = if j = k then none else t.get j
  | .nil, k, j => by simp [T.del, T.gN, T.gZ, T.gS]
  | .node l v r, 0, 0 => by simp [T.del, T.gN, T.gZ, T.gS]
  | .node l v r, 0, j + 1 => by simp [T.del, T.gN, T.gZ, T.gS]
  | .node l v r, k + 1, 0 => by
    simp only [T.del]
    split <;> simp [T.gN, T.gZ, T.gS]
  | .node l v r, k + 1, j + 1 => by
    simp only [T.del, Nat.add_right_cancel_iff]
    by_cases hk : k % 2 = 0
    · rw [if_pos hk]
      by_cases hj : j % 2 = 0
      · simp only [T.gN, T.gZ, T.gS, hj, if_true, T.get_del l]
        by_cases e : j = k
        · subst e; simp
        · rw [if_neg e, if_neg (by omega)]
      · have : j ≠ k := by intro e; subst e; exact hj hk
        simp [T.gN, T.gZ, T.gS, hj, this]
    · rw [if_neg hk]
      by_cases hj : j % 2 = 0
      · have : j ≠ k := by intro e; subst e; exact hk hj
        simp [T.gN, T.gZ, T.gS, hj, this]
      · simp only [T.gN, T.gZ, T.gS, hj, if_false, T.get_del r]
        by_cases e : j = k
        · subst e; simp
        · rw [if_neg e, if_neg (by omega)]

theorem delL_get (tm : T Value) : ∀ (W : List Tmp) (t : Tmp), (delL tm W).get t = if W.contains t then none else tm.get t
  | [], t => by simp [delL]
  | k :: W, t => by
    simp only [delL, T.get_del, delL_get tm W, List.contains_cons]
    by_cases e : t = k
    · subst e; simp
    · have : (t == k) = false := by simpa using e
      simp [this, e]

/-- What is kept: the heap, the size, and the places outside W. -/
def Kept (W : List Tmp) (af af' : AF) : Prop := af'.h = af.h ∧ af'.sz = af.sz ∧ ∀ t, W.contains t = false → af'.tm.get t = af.tm.get t

theorem Kept.refl (W : List Tmp) (af : AF) : Kept W af af := ⟨rfl, rfl, fun _ _ => rfl⟩
theorem Kept.trans {W : List Tmp} {a b c : AF} (h : Kept W a b) (k : Kept W b c) : Kept W a c :=
  ⟨k.1.trans h.1, k.2.1.trans h.2.1, fun t ht => (k.2.2 t ht).trans (h.2.2 t ht)⟩

theorem Kept.put {W : List Tmp} {a : AF} {dst : Option Tmp} (hd : ∀ d, dst = some d → W.contains d = true) (v : Value) : Kept W a (a.put dst v a.h) := by
  refine ⟨AF.put_h _ _ _ _, AF.put_sz _ _ _ _, fun t ht => ?_⟩
  cases dst with
  | none => rfl
  | some d =>
    simp only [AF.put_def]
    split
    · rw [T.get_set', if_neg]
      intro e; subst e; rw [hd t rfl] at ht; cases ht
    · rfl

section
variable {P : Program} {F : Nat → Prop} {w0 : World} {call : CallF} {W : List Tmp}

theorem lit_ops {ops : Array Oper} : ∀ (l : List Oper) (af af' : AF) (hs : List AF), litL W l = true → opsL P call ops l af = some (af', hs) → Kept W af af'
  | [], af, af', hs, _, he => by
    simp only [opsL, Option.some.injEq, Prod.mk.injEq] at he
    obtain ⟨rfl, _⟩ := he
    exact Kept.refl _ _
  | o :: l, af, af', hs, hl, he => by
    simp only [litL, List.all_cons, Bool.and_eq_true] at hl
    obtain ⟨⟨hl1, hl2⟩, hl3⟩ := hl
    have hd : ∀ d, o.dst = some d → W.contains d = true := fun d hd => by rw [hd] at hl2; exact hl2
    simp only [opsL] at he
    split at he
    · split at he
      · rename_i v h hst
        unfold stepA at hst
        rw [light_call hl1] at hst
        have := light_stay hl1 hst
        subst this
        split at he
        · rename_i a2 hs2 hrec
          cases he
          exact (Kept.put hd v).trans (lit_ops l _ _ _ hl3 hrec)
        · cases he
      · cases he
    · split at he
      · rename_i a2 hs2 hrec
        cases he
        exact (Kept.put hd undef).trans (lit_ops l _ _ _ hl3 hrec)
      · cases he
    · cases he

theorem headForm_lit {y : Code} {H : Head} (h : headForm y = some H) : litC W y = false := by
  unfold headForm at h
  split at h
  · simp [litC]
  · cases h

theorem lit_exec : ∀ (n : Nat) (c : Code) (af af' : AF) (x : AExit), litC W c = true → execA P call n c af = some (x, af') → Kept W af af'
  | 0, c, af, af', x, _, he => by simp [execA] at he
  | n + 1, c, af, af', x, hl, he => by
    have ih := lit_exec n
    cases c with
    | skip => simp only [execA, Option.some.injEq, Prod.mk.injEq] at he; rw [← he.2]; exact Kept.refl _ _
    | label l => simp only [execA, Option.some.injEq, Prod.mk.injEq] at he; rw [← he.2]; exact Kept.refl _ _
    | exit id => simp only [execA, Option.some.injEq, Prod.mk.injEq] at he; rw [← he.2]; exact Kept.refl _ _
    | ret => simp only [execA, Option.some.injEq, Prod.mk.injEq] at he; rw [← he.2]; exact Kept.refl _ _
    | region id ops draw =>
      simp only [litC, Bool.and_eq_true, Bool.not_eq_true'] at hl
      simp only [execA, hl.1, regionA] at he
      split at he
      · rename_i a2 hr
        split at hr
        · rename_i a3 hs3 h3
          cases hr; cases he
          exact lit_ops _ _ _ _ hl.2 h3
        · cases hr
      · cases he
    | seq a b =>
      simp only [litC, Bool.and_eq_true] at hl
      simp only [execA] at he
      split at he
      · rename_i ops H hf
        exfalso
        unfold eachForm at hf
        split at hf
        · split at hf
          · rename_i H' hh
            have := headForm_lit (W := W) hh
            rw [hl.2] at this; cases this
          · cases hf
        · cases hf
      · split at he
        · rename_i a1 h1
          exact (ih a af a1 _ hl.1 h1).trans (ih b a1 af' x hl.2 he)
        · exact ih a af af' x hl.1 he
    | cond v t e =>
      simp only [litC, Bool.and_eq_true] at hl
      simp only [execA] at he
      split at he
      · exact ih t af af' x hl.1 he
      · exact ih e af af' x hl.2 he
      · cases he
    | block id body =>
      simp only [litC] at hl
      simp only [execA] at he
      split at he
      · rename_i id' a1 h1
        have := ih body af a1 _ hl h1
        split at he <;> (cases he; exact this)
      · exact ih body af af' x hl he
    | scope body =>
      simp only [litC] at hl
      simp only [execA] at he
      exact ih body af af' x hl he
    | loop body => simp [litC] at hl
    | goto l => cases he
    | rangeFunc f ps a b => cases he
    | refuse why => cases he

/-! ### The relation -/
variable {μ : Mp} {h : AH} {w : World}

theorem HR.off (H : HR F w0 μ h w) {r : Nat} (hr : ∀ i z e, μ i = some (r, z, e) → h.get i = .dead) (hF : ¬ F r) {w' : World}
    (hh : ∀ b, b ≠ r → w'.heap[b]? = w.heap[b]?) (hs : w.heap.size ≤ w'.heap.size) (ho : w'.os = w.os) (ht : w'.tape = w.tape) (hp : w'.output = w.output) : HR F w0 μ h w' where
  dom := H.dom
  obj := fun i b z e hi => by
    by_cases hb : b = r
    · subst hb; rw [hr i z e hi]; trivial
    · exact (H.obj i b z e hi).world (hh b hb)
  own := H.own
  sep := H.sep
  par := H.par
  os := ho.trans H.os
  tape := ht.trans H.tape
  output := hp.trans H.output
  size := Nat.le_trans H.size hs
  fr := fun b hb => ⟨(H.fr b hb).1, by
    by_cases e : b = r
    · subst e; exact absurd hb hF
    · rw [hh b e]; exact (H.fr b hb).2⟩
  tab := H.tab

/-- A map shares its block with nothing that lives. -/
theorem HR.map_alone (H : HR F w0 μ h w) {m b z e : Nat} (hm : μ m = some (b, z, e)) {es : List (Value × Value)} (hg : h.get m = .map es) {j zj ej : Nat} (hj : μ j = some (b, zj, ej)) : j = m ∨ h.get j = .dead := by
  rcases Nat.decEq j m with hne | heq
  · have := H.sep m j b z e zj ej (Ne.symm hne) hm hj
    rw [hg] at this
    rcases this with h1 | h1 | h1
    · simp [share] at h1
    · cases hx : h.get j <;> rw [hx] at h1 <;> simp [share] at h1
      exact .inr rfl
    · simp [AObj.wr] at h1
  · exact .inl heq

theorem HR.put_dead (H : HR F w0 μ h w) {m b e : Nat} (hm : μ m = some (b, 0, e)) {es : List (Value × Value)} (hg : h.get m = .map es) : HR F w0 μ (h.put m .dead) w where
  dom := H.dom
  obj := fun i b' z e' hi => by
    rw [AH.get_put]
    split
    · trivial
    · exact H.obj i b' z e' hi
  own := fun i b' z e' hi hw => by
    rw [AH.get_put] at hw
    split at hw
    · cases hw
    · exact H.own i b' z e' hi hw
  sep := fun i j b' zi ei zj ej hne hi hj => by
    rw [AH.get_put, AH.get_put]
    by_cases h1 : i = m
    · rw [if_pos h1]; exact .inl trivial
    · by_cases h2 : j = m
      · rw [if_pos h2]; exact .inr (.inl trivial)
      · rw [if_neg h1, if_neg h2]; exact H.sep i j b' zi ei zj ej hne hi hj
  par := fun i c l p ty hi hc j hj => by
    rw [AH.get_put] at hc
    split at hc
    · cases hc
    · exact H.par i c l p ty hi hc j hj
  os := H.os
  tape := H.tape
  output := H.output
  size := H.size
  fr := H.fr
  tab := H.tab

/-- More blocks are held fast from here on. -/
theorem HR.guard (H : HR F w0 μ h w) {G : Nat → Prop} (hG : ∀ b, G b → b < w.heap.size) (hw : ∀ i b z e, μ i = some (b, z, e) → G b → (h.get i).wr = false) : HR (fun b => F b ∨ G b) w μ h w where
  dom := H.dom
  obj := H.obj
  own := fun i b z e hi hwr => by
    rintro (h1 | h1)
    · exact H.own i b z e hi hwr h1
    · rw [hw i b z e hi h1] at hwr; cases hwr
  sep := H.sep
  par := H.par
  os := rfl
  tape := rfl
  output := rfl
  size := Nat.le_refl _
  fr := fun b hb => ⟨by
    rcases hb with h1 | h1
    · exact Nat.lt_of_lt_of_le (H.fr b h1).1 H.size
    · exact hG b h1, rfl⟩
  tab := H.laidIn fun b hb => .inl hb

theorem Ext.same {μ μ' : Mp} {h : AH} (E : Ext μ μ' h h) {F : Nat → Prop} {w0 w w' : World} (H : HR F w0 μ h w) {F' : Nat → Prop} {w1 : World} (H' : HR F' w1 μ' h w') : μ' = μ := by
  funext i
  cases hm : μ i with
  | some p => exact E.sub i p hm
  | none =>
    rcases Nat.lt_or_ge i h.next with h1 | h1
    · exact (E.unborn i h1 hm).1
    · exact H'.none_next h1

theorem HR.unguard {w2 w' : World} (H : HR F w0 μ h w2) {m b e : Nat} (hm : μ m = some (b, 0, e)) {es : List (Value × Value)} (hg : h.get m = .map es) {G : Nat → Prop} (hb : G b)
    (H' : HR (fun b => F b ∨ G b) w2 μ (h.put m .dead) w') : HR F w0 μ h w' where
  dom := H.dom
  obj := fun i b' z e' hi => by
    by_cases h1 : i = m
    · subst h1
      rw [hm] at hi
      cases hi
      exact (H.obj i b 0 e hm).world (H'.fr b (.inr hb)).2
    · have := H'.obj i b' z e' hi
      rw [AH.get_put, if_neg h1] at this
      exact this
  own := H.own
  sep := H.sep
  par := H.par
  os := H'.os.trans H.os
  tape := H'.tape.trans H.tape
  output := H'.output.trans H.output
  size := Nat.le_trans H.size H'.size
  fr := fun b' hb' => ⟨(H.fr b' hb').1, (H'.fr b' (.inl hb')).2.trans (H.fr b' hb').2⟩
  tab := H.tab

end
end
end Go.R

/- How code may end. -/
namespace Go.R
set_option linter.unusedVariables false
set_option linter.unusedSimpArgs false
open Go Go.RowKit

section
variable {P : Program} {F : Nat → Prop} {w0 : World} {call : CallF}

def Post (F : Nat → Prop) (w0 : World) (μ : Mp) (h : AH) (D : List Deferred) (x : AExit) (af' : AF) : Exit → Act → World → Prop
  | .normal, a, w => x = .normal ∧ Onward F w0 μ h D af' a w
  | .exit id, a, w => x = .exit id ∧ Onward F w0 μ h D af' a w
  | .ret, a, w => x = .ret ∧ Onward F w0 μ h D af' a w
  | _, _, _ => False

theorem Post.trans {μ μ1 : Mp} {h h1 : AH} {D D1 : List Deferred} {x : AExit} {af' : AF} (E : Ext μ μ1 h h1) (hD : D1 = D) {e : Exit} {a : Act} {w : World}
    (p : Post F w0 μ1 h1 D1 x af' e a w) : Post F w0 μ h D x af' e a w := by
  subst hD
  have go : Onward F w0 μ1 h1 D1 af' a w → Onward F w0 μ h D1 af' a w := fun ⟨μ2, r1, r2, r3⟩ => ⟨μ2, r1, E.trans r2, r3⟩
  cases e <;> simp only [Post] at p ⊢
  · exact ⟨p.1, go p.2⟩
  · exact ⟨p.1, go p.2⟩
  · exact ⟨p.1, go p.2⟩

def LoopWp (P : Program) (c : Code) (Q : Exit → Act → World → Prop) (a : Act) (w : World) : Prop :=
  ∀ (b : Frame) (k : List Item) (cs : List Frame),
    ∃ e a' w', Q e a' w' ∧ Arrives P (lone (b.at a (.code c :: .inLoop c :: k)) cs w) b k cs e a' w'

theorem LoopWp.wp {c : Code} {Q : Exit → Act → World → Prop} {a : Act} {w : World} (h : LoopWp P c Q a w) : (Code.loop c).wp P Q a w :=
  fun b k cs => let ⟨e, a', w', q, r⟩ := h b k cs; ⟨e, a', w', q, .of_steps (.one step_loop) r⟩

theorem LoopWp.round {c : Code} {Q : Exit → Act → World → Prop} {a : Act} {w : World} (h : c.wp P (Exit.then (LoopWp P c Q) Q) a w) : LoopWp P c Q a w := by
  intro b k cs
  obtain ⟨e, a₁, w₁, hq, harr⟩ := h b (.inLoop c :: k) cs
  cases e with
  | normal =>
    obtain ⟨e₂, a₂, w₂, hq₂, harr₂⟩ := hq b k cs
    exact ⟨e₂, a₂, w₂, hq₂, .of_steps (Steps.trans harr (.one step_inLoop)) harr₂⟩
  | exit id => exact ⟨_, a₁, w₁, hq, .pass (x := .inLoop c) rfl (fun _ _ => .inl (by simp)) harr⟩
  | goto l => exact ⟨_, a₁, w₁, hq, .pass (x := .inLoop c) rfl (fun _ _ => .inl (by simp)) harr⟩
  | ret => exact ⟨_, a₁, w₁, hq, .pass (x := .inLoop c) rfl (fun _ _ => .inl (by simp)) harr⟩
  | panic ch => exact ⟨_, a₁, w₁, hq, .pass (x := .inLoop c) rfl (fun _ _ => .inl (by simp)) harr⟩
  | outgrown => exact ⟨_, a₁, w₁, hq, .pass (x := .inLoop c) rfl (fun _ _ => .inl (by simp)) harr⟩

def Wp (P : Program) (c : Code) (Q : Exit → Act → World → Prop) (a : Act) (w : World) : Prop :=
  match c with
  | .loop b => LoopWp P b Q a w
  | c => c.wp P Q a w

theorem Wp.wp {c : Code} {Q : Exit → Act → World → Prop} {a : Act} {w : World} (h : Wp P c Q a w) : c.wp P Q a w := by
  cases c <;> first | exact LoopWp.wp h | exact h

end
end Go.R

/- A loop over a map whose rounds only look: whatever order the entries come in. -/
namespace Go.R
set_option linter.unusedVariables false
set_option linter.unusedSimpArgs false
open Go Go.RowKit
noncomputable section
open Go.ChangeMaps (setBlock)

section
variable {P : Program} {F : Nat → Prop} {w0 : World} {call : CallF}

/-- The first operations of a region, and what follows them. -/
theorem ops_on (hc : CallOk P call) {ops : Array Oper} {Q : Exit → Act → World → Prop} (m : Nat) :
    ∀ (l : List Oper) (k : Nat) (af af' : AF) (hs : List AF) (μ : Mp) (a : Act) (w : World), (∀ i : Nat, i < l.length → l[i]? = ops[k + i]?) → opsL P call ops l af = some (af', hs) → AR F w0 μ af a w →
      (∀ a' w', Onward F w0 μ af.h a.defers af' a' w' → wpOps P ops Q (List.range' (k + l.length) m) a' w') → wpOps P ops Q (List.range' k (l.length + m)) a w
  | [], k, af, af', hs, μ, a, w, _, he, R, K => by
    simp only [opsL, Option.some.injEq, Prod.mk.injEq] at he
    obtain ⟨rfl, _⟩ := he
    have := K a w ⟨μ, R, Ext.refl μ _, rfl⟩
    simpa using this
  | o :: l, k, af, af', hs, μ, a, w, hl, he, R, K => by
    have ho : ops[k]? = some o := by have := hl 0 (by simp); simpa using this.symm
    have hl' : ∀ i : Nat, i < l.length → l[i]? = ops[k + 1 + i]? := fun i hi => by
      have := hl (i + 1) (by simpa using hi)
      rw [List.getElem?_cons_succ] at this
      rw [this]; congr 1; omega
    have hlen : (o :: l).length + m = (l.length + m) + 1 := by simp only [List.length_cons]; omega
    have K' : ∀ a' w', Onward F w0 μ af.h a.defers af' a' w' → wpOps P ops Q (List.range' (k + 1 + l.length) m) a' w' := fun a' w' h => by
      have := K a' w' h
      rw [List.length_cons] at this
      have e : k + (l.length + 1) = k + 1 + l.length := by omega
      rwa [e] at this
    rw [hlen, List.range'_succ]
    simp only [wpOps, ho]
    simp only [opsL] at he
    split at he
    · rename_i hwant
      have hw := wanted_ok (o := o) (ops := ops) R.tm (fun _ _ => trivial) hwant
      simp only [hw, if_true]
      split at he
      · rename_i v h' hs'
        split at he
        · rename_i a2 hs2 hrec
          cases he
          refine .inl (step_ok hc R.heap (fun x _ v hv => evalA_ok R.tm (fun _ _ => trivial) hv) hs' fun μ' v' w' q1 q2 q3 => ?_)
          refine ops_on hc m l (k + 1) _ _ _ μ' _ w' hl' hrec (R.put q3 q1 q2 o.dst) fun a' w'' ⟨μ2, r1, r2, r3⟩ => K' a' w'' ⟨μ2, r1, ?_, ?_⟩
          · rw [AF.put_h] at r2; exact q3.trans r2
          · rw [r3, Act.put_def]
        · cases he
      · cases he
    · rename_i hwant
      have hw := wanted_ok (o := o) (ops := ops) R.tm (fun _ _ => trivial) hwant
      simp only [hw]
      split at he
      · rename_i a2 hs2 hrec
        cases he
        refine ops_on hc m l (k + 1) _ _ _ μ _ w hl' hrec (R.put (Ext.refl μ _) VR.undef R.heap o.dst) fun a' w'' ⟨μ2, r1, r2, r3⟩ => K' a' w'' ⟨μ2, r1, ?_, ?_⟩
        · rw [AF.put_h] at r2; exact r2
        · rw [r3, Act.put_def]
      · cases he
    · cases he

theorem entryForm_spec {it : Tmp} {c : Code} {E : Ent} (h : entryForm it c = some E) :
    ∃ id o, c = .block E.b2 (.seq (.region id E.ops3 false) E.more) ∧ E.ops3.toList = o :: E.l ∧ o.dst = some E.e ∧ o.op = .entry (.tmp it) ∧ o.guard = none := by
  unfold entryForm at h
  split at h
  · rename_i b2 id ops3 more
    split at h
    · rename_i o l ho
      split at h
      · rename_i e it2 h1 h2 h3
        split at h
        · rename_i hit
          cases h
          subst hit
          exact ⟨id, o, rfl, ho, h1, h2, h3⟩
        · cases h
      · cases h
    · cases h
  · cases h

theorem headForm_spec {c : Code} {H : Head} (h : headForm c = some H) :
    ∃ id o1 o2, c = .block H.b1 (.loop (.seq (.region id H.ops2 false) (.seq (.cond (.tmp H.t) .skip (.exit H.b1)) H.rest))) ∧ H.ops2 = #[o1, o2] ∧
      o1.dst = some H.x ∧ o1.op = .next (.tmp H.it) false ∧ o1.guard = none ∧ o2.dst = some H.t ∧ o2.op = .extract (.tmp H.x) 0 ∧ o2.guard = none ∧ H.x ≠ H.t := by
  unfold headForm at h
  split at h
  · rename_i b1 id ops2 t b2 rest
    split at h
    · rename_i o1 o2 hops
      have hq : ops2 = #[o1, o2] := by cases ops2; simp at hops; simp [hops]
      split at h
      · rename_i x it t2 x2 h1 h2 h3 h4 h5 h6
        split at h
        · rename_i hd
          simp only [Bool.and_eq_true, decide_eq_true_eq] at hd
          obtain ⟨e1, e2, e3, e4⟩ := hd
          cases h
          subst e1; subst e2; subst e3
          exact ⟨id, o1, o2, rfl, hq, h1, h2, h3, h4, h5, h6, e4⟩
        · cases h
      · cases h
    · cases h
  · cases h

/-- A round behind its head. -/
theorem rest_ok (hc : CallOk P call) {ex : Code → AF → Option (AExit × AF)}
    (hex : ∀ (c : Code) (af af' : AF) (x : AExit) (F : Nat → Prop) (w0 : World) (μ : Mp) (a : Act) (w : World), ex c af = some (x, af') → AR F w0 μ af a w → c.wp P (Post F w0 μ af.h a.defers x af') a w)
    {it : Tmp} {k v k' v' : Value} {rest : Code} {af af' : AF} {x : AExit} (he : restA P call ex it k v rest af = some (x, af')) {μ : Mp} {a : Act} {w : World} (R : AR F w0 μ af a w)
    (hk : VR μ k k') (hv : VR μ v v') (hent : (Instr.entry (a.eval (.tmp it))).run P w = .ok (.tuple #[k', v']) w) : rest.wp P (Post F w0 μ af.h a.defers x af') a w := by
  unfold restA at he
  split at he
  · rename_i E hE
    obtain ⟨id, o, rfl, hops, hd, hop, hg⟩ := entryForm_spec hE
    split at he
    · rename_i a1 hs hl
      split at he
      · rename_i x' a' hx
        cases he
        refine wp_block (wp_seq (wp_region ?_))
        have hsz : E.ops3.size = E.l.length + 1 := by rw [← Array.length_toList, hops]; rfl
        have h0 : E.ops3[0]? = some o := by rw [← Array.getElem?_toList, hops]; rfl
        rw [List.range_eq_range', hsz, List.range'_succ]
        have hwant : Region.wanted o (yielded E.ops3 a.tmps) = true := by simp [Region.wanted, hg]
        simp only [wpOps, h0, hwant, if_true]
        left
        unfold Oper.wp
        simp only [execOp, hop, Sem.run_bind, hent, Result.andThen_ok, Sem.run_pure, Oper.upon_value, hd]
        have hvr : VR μ (.tuple #[k, v]) (.tuple #[k', v']) := VR.tuple_of (LR.cons hk (LR.cons hv LR.nil))
        have R1 := R.put (Ext.refl μ _) hvr R.heap (some E.e)
        have := ops_on (Q := Exit.then (E.more.wp P (Exit.inBlock E.b2 (Post F w0 μ af.h a.defers (catchA E.b2 x') af'))) (Exit.inBlock E.b2 (Post F w0 μ af.h a.defers (catchA E.b2 x') af'))) hc 0 E.l 1 _ _ hs μ _ w (fun i hi => by rw [← Array.getElem?_toList, hops, Nat.add_comm, List.getElem?_cons_succ]) hl R1
          (fun a2 w2 ⟨μ2, r1, r2, r3⟩ => by
            show E.more.wp P _ a2 w2
            refine wp_mono (hex _ _ _ _ F w0 μ2 a2 w2 hx r1) fun e a3 w3 hp => ?_
            rw [AF.put_h] at r2
            replace hp : Post F w0 μ af.h a.defers x' af' e a3 w3 := hp.trans r2 (r3.trans (Act.put_def _ _ _))
            cases e <;> simp only [Post] at hp
            · obtain ⟨rfl, o⟩ := hp
              exact ⟨rfl, o⟩
            · rename_i id'
              obtain ⟨rfl, o⟩ := hp
              simp only [Exit.inBlock, catchA]
              by_cases hid : id' = E.b2
              · rw [if_pos hid, if_pos hid]; exact ⟨rfl, o⟩
              · rw [if_neg hid, if_neg hid]; exact ⟨rfl, o⟩
            · obtain ⟨rfl, o⟩ := hp
              exact ⟨rfl, o⟩)
        simpa using this
      · cases he
    · cases he
  · exact hex _ _ _ _ _ _ _ _ _ he R

theorem rest_kept {ex : Code → AF → Option (AExit × AF)} {W : List Tmp} (hlit : ∀ (c : Code) (af af' : AF) (x : AExit), litC W c = true → ex c af = some (x, af') → Kept W af af')
    {it : Tmp} {k v : Value} {rest : Code} {af af' : AF} {x : AExit} (he : restA P call ex it k v rest af = some (x, af')) (hl : litR W it rest = true) : Kept W af af' := by
  unfold restA at he
  unfold litR at hl
  split at he
  · rename_i E hE
    rw [hE] at hl
    simp only [Bool.and_eq_true] at hl
    split at he
    · rename_i a1 hs hops
      split at he
      · rename_i x' a' hx
        cases he
        exact ((Kept.put (fun d hd => by cases hd; exact hl.1) _).trans (lit_ops _ _ _ _ hl.2.1 hops)).trans (hlit _ _ _ _ hl.2.2 hx)
      · cases he
    · cases he
  · rename_i hE
    rw [hE] at hl
    exact hlit _ _ _ _ hl he

/-! ### What the rounds' results come to -/
theorem aexEq_eq {x y : AExit} (h : aexEq x y = true) : x = y := by
  cases x <;> cases y <;> simp [aexEq] at h ⊢
  exact h

theorem agree_get (f0 : AF) (outs : List (AExit × AF)) (tm : T Value) : ∀ (W : List Tmp) (t : Tmp) (v : Value), (agree f0 outs tm W).get t = some v → tm.get t = some v ∨ ∀ p ∈ outs, p.2.tm.get t = some v
  | [], t, v, h => .inl h
  | k :: W, t, v, h => by
    simp only [agree] at h
    split at h
    · rename_i u hu
      split at h
      · rename_i hall
        rw [T.get_set'] at h
        split at h
        · rename_i e
          subst e
          cases h
          refine .inr fun p hp => ?_
          have := List.all_eq_true.1 hall p hp
          split at this
          · rename_i u' hu'
            rw [hu', veq_sound _ _ _ this]
          · cases this
        · exact agree_get f0 outs tm W t v h
      · exact agree_get f0 outs tm W t v h
    · exact agree_get f0 outs tm W t v h

theorem join_out {b1 sz : Nat} {tm : T Value} {h : AH} {W : List Tmp} {outs : List (AExit × AF)} {x : AExit} {af' : AF} (hj : joinA b1 tm sz h W outs = some (x, af'))
    {xi : AExit} {fi : AF} (hm : (xi, fi) ∈ outs) (ho : isOut (xi, fi) = true) : x = catchA b1 xi ∧ af'.sz = sz ∧ af'.h = h ∧ ∀ t v, af'.tm.get t = some v → tm.get t = some v ∨ fi.tm.get t = some v := by
  have hmem : (xi, fi) ∈ outs.filter isOut := List.mem_filter.2 ⟨hm, ho⟩
  unfold joinA at hj
  split at hj
  · rename_i e; rw [e] at hmem; cases hmem
  · rename_i x0 f0 l e
    rw [e] at hmem
    split at hj
    · rename_i hall
      cases hj
      have hx : xi = x0 := by
        rcases List.mem_cons.1 hmem with h1 | h1
        · cases h1; rfl
        · exact aexEq_eq (List.all_eq_true.1 hall _ h1)
      refine ⟨by rw [hx], rfl, rfl, fun t v ht => ?_⟩
      rcases agree_get _ _ _ _ _ _ ht with h1 | h1
      · exact .inl h1
      · exact .inr (h1 _ hmem)
    · cases hj

theorem join_none {b1 sz : Nat} {tm : T Value} {h : AH} {W : List Tmp} {outs : List (AExit × AF)} {x : AExit} {af' : AF} (hj : joinA b1 tm sz h W outs = some (x, af'))
    (hn : ∀ o ∈ outs, isOut o = false) : x = .normal ∧ af' = { tm := tm, sz := sz, h := h } := by
  have : outs.filter isOut = [] := List.filter_eq_nil_iff.2 fun o ho => by rw [hn o ho]; simp
  unfold joinA at hj
  rw [this] at hj
  cases hj
  exact ⟨rfl, rfl⟩

theorem mapM_at {f : Value × Value → Option (AExit × AF)} : ∀ {es : List (Value × Value)} {outs : List (AExit × AF)}, es.mapM f = some outs → outs.length = es.length ∧ ∀ (i : Nat) (p : Value × Value), es[i]? = some p → ∃ o, outs[i]? = some o ∧ f p = some o
  | [], outs, h => by simp at h; subst h; exact ⟨rfl, fun i p hp => by simp at hp⟩
  | e :: es, outs, h => by
    rw [List.mapM_cons] at h
    cases h1 : f e with
    | none => rw [h1] at h; cases h
    | some o =>
      rw [h1] at h
      cases h2 : es.mapM f with
      | none => rw [h2] at h; cases h
      | some os =>
        rw [h2] at h
        cases h
        obtain ⟨q1, q2⟩ := mapM_at h2
        refine ⟨by simp [q1], fun i p hp => ?_⟩
        cases i with
        | zero => simp at hp; subst hp; exact ⟨o, rfl, h1⟩
        | succ i => rw [List.getElem?_cons_succ] at hp ⊢; exact q2 i p hp

end
end
end Go.R

/- A loop over a map whose rounds only look: the loop itself. -/
namespace Go.R
set_option linter.unusedVariables false
set_option linter.unusedSimpArgs false
open Go Go.RowKit
noncomputable section
open Go.ChangeMaps (setBlock)

section
variable {P : Program} {F : Nat → Prop} {w0 : World} {call : CallF}

theorem AR.putW {μ : Mp} {tm : T Value} {sz : Nat} {h : AH} {a : Act} {w : World} (R : AR F w0 μ ⟨tm, sz, h⟩ a w) {d : Tmp} (hd : tm.get d = none) (v : Value) : AR F w0 μ ⟨tm, sz, h⟩ (a.put (some d) v) w where
  heap := R.heap
  tm := fun t _ u hu => by
    have hne : d ≠ t := by intro e; subst e; rw [hd] at hu; cases hu
    have := R.tm t trivial u hu
    simp only [Act.put, Array.getD_eq_getD_getElem?] at this ⊢
    rw [Array.getElem?_setIfInBounds_ne hne]
    exact this
  sz := by rw [Act.put_size]; exact R.sz

theorem eval_put_self (a : Act) {d : Tmp} (hd : d < a.tmps.size) (v : Value) : (a.put (some d) v).eval (.tmp d) = v := by
  simp [Act.eval, Act.put, Array.getD_eq_getD_getElem?, hd]

theorem AF.put_get_ne (a : AF) {d t : Tmp} (h : d ≠ t) (v : Value) (h' : AH) : (a.put (some d) v h').tm.get t = a.tm.get t := by
  simp only [AF.put_def]
  split
  · rw [T.get_set', if_neg (Ne.symm h)]
  · rfl

/-- The loop, round by round. -/
theorem loop_each (hc : CallOk P call) {ex : Code → AF → Option (AExit × AF)}
    (hex : ∀ (c : Code) (af af' : AF) (x : AExit) (F : Nat → Prop) (w0 : World) (μ : Mp) (a : Act) (w : World), ex c af = some (x, af') → AR F w0 μ af a w → c.wp P (Post F w0 μ af.h a.defers x af') a w)
    (hlit : ∀ (W : List Tmp) (c : Code) (af af' : AF) (x : AExit), litC W c = true → ex c af = some (x, af') → Kept W af af')
    {H : Head} {id : Nat} {o1 o2 : Oper} (hops2 : H.ops2 = #[o1, o2]) (d1 : o1.dst = some H.x) (p1 : o1.op = .next (.tmp H.it) false) (g1 : o1.guard = none)
    (d2 : o2.dst = some H.t) (p2 : o2.op = .extract (.tmp H.x) 0) (g2 : o2.guard = none) (hxt : H.x ≠ H.t)
    {tm : T Value} {sz : Nat} {h1 : AH} {m bm e0 r ih cl : Nat} {es : List (Value × Value)} {ms : Array MapEntry} {μ : Mp} {W : List Tmp} {outs : List (AExit × AF)} {x : AExit} {af' : AF} {D : List Deferred}
    (hWx : W.contains H.x = true) (hWt : W.contains H.t = true) (hxs : H.x < sz) (hts : H.t < sz) (hlr : litR W H.it H.rest = true) (htm : ∀ t, W.contains t = true → tm.get t = none)
    (hit : tm.get H.it = some (.pointer (some ⟨ih, 0, none⟩)))
    (hm : μ m = some (bm, 0, e0)) (hg : h1.get m = .map es) (hr : ∀ i z e, μ i = some (r, z, e) → h1.get i = .dead) (hih : μ ih = some (r, 0, 0)) (hFr : ¬ F r) (hne : r ≠ bm) (her : ER μ es ms.toList) (hst : Stamps ms.toList cl)
    (hpl : ∀ p ∈ es, plainV p.1 = true)
    (houts : es.mapM (roundA P call ex H tm sz (h1.put m .dead)) = some outs) (hj : joinA H.b1 tm sz h1 W outs = some (x, af')) :
    ∀ (n : Nat) (seen : Array Nat) (c0 : Nat) (a : Act) (w : World), (leftOf ms seen).size = n → AR F w0 μ ⟨tm, sz, h1⟩ a w → a.defers = D → w.heap[r]? = some (.mapIter (some bm) cl seen c0) → cl ≤ c0 → w.heap[bm]? = some (.map ms cl) →
      (∀ (i : Nat) y, ms[i]? = some y → seen.contains y.born = true → ∃ o, outs[i]? = some o ∧ isOut o = false) →
      LoopWp P (.seq (.region id H.ops2 false) (.seq (.cond (.tmp H.t) .skip (.exit H.b1)) H.rest)) (Exit.inBlock H.b1 (Post F w0 μ h1 D x af')) a w := by
  obtain ⟨hlen, hat⟩ := mapM_at houts
  intro n
  induction n using Nat.strongRecOn with
  | _ n IH =>
    intro seen c0 a w hn R hD hheap hc0 hb hseen
    have hsz : a.tmps.size = sz := R.sz.symm
    have hita : a.eval (.tmp H.it) = .pointer (some ⟨r, 0, none⟩) := by
      have := R.tm H.it trivial _ hit
      obtain ⟨b, z, e, q1, q2⟩ := this.ptr_inv
      rw [hih] at q1
      cases q1
      exact q2
    have hrlt : r < w.heap.size := (Array.getElem?_eq_some_iff.1 hheap).1
    have hblt : bm < w.heap.size := (Array.getElem?_eq_some_iff.1 hb).1
    have hix : H.it ≠ H.x := by intro e; rw [e, htm _ hWx] at hit; cases hit
    have hitt : H.it ≠ H.t := by intro e; rw [e, htm _ hWt] at hit; cases hit
    have hrange : List.range H.ops2.size = [0, 1] := by rw [hops2]; rfl
    have ho1 : H.ops2[0]? = some o1 := by rw [hops2]; rfl
    have ho2 : H.ops2[1]? = some o2 := by rw [hops2]; rfl
    have hw1 : ∀ y, Region.wanted o1 y = true := fun y => by simp [Region.wanted, g1]
    have hw2 : ∀ y, Region.wanted o2 y = true := fun y => by simp [Region.wanted, g2]
    -- the two operations of the head
    have head : ∀ (vs : Array Value) (t : Bool) (w2 : World) (Q : Exit → Act → World → Prop), vs[0]? = some (.bool t) →
        (Instr.next (.pointer (some ⟨r, 0, none⟩)) false o1.type).run P w = .ok (.tuple vs) w2 → Q .normal ((a.put (some H.x) (.tuple vs)).put (some H.t) (.bool t)) w2 → wpOps P H.ops2 Q (List.range H.ops2.size) a w := by
      intro vs t w2 Q hvs hrun hQ
      rw [hrange]
      simp only [wpOps, ho1, ho2, hw1, hw2, if_true]
      left
      unfold Oper.wp
      simp only [execOp, p1, hita, Sem.run_bind, hrun, Result.andThen_ok, Sem.run_pure, Oper.upon_value, d1]
      left
      have ev : (a.put (some H.x) (.tuple vs)).eval (.tmp H.x) = .tuple vs := eval_put_self a (by rw [hsz]; exact hxs) _
      simp only [p2, ev, Instr.extract, hvs, Sem.run_bind, Result.andThen_ok, Sem.run_pure, Oper.upon_value, d2]
      exact hQ
    refine LoopWp.round (wp_seq (wp_region ?_))
    rcases run_next_at (P := P) w o1.type r bm cl c0 seen ms cl hheap hb hst.1 hc0 with ⟨hl0, hrun⟩ | ⟨e, he, w1, hal, hrun⟩
    · refine head _ false w _ rfl hrun ?_
      show Code.wp P (.seq (.cond (.tmp H.t) .skip (.exit H.b1)) H.rest) _ _ w
      refine wp_seq (wp_cond_false (eval_put_self _ (by rw [Act.put_size, hsz]; exact hts) _) (wp_exit ?_))
      show Exit.inBlock H.b1 (Post F w0 μ h1 D x af') (.exit H.b1) _ w
      simp only [Exit.inBlock, if_true]
      obtain ⟨rfl, rfl⟩ := join_none hj fun o ho => by
        obtain ⟨i, hi⟩ := List.mem_iff_getElem?.1 ho
        have hil : i < ms.size := by
          have h1 := (List.getElem?_eq_some_iff.1 hi).1
          have h2 := her.1
          simp at h2
          omega
        have hy : ms[i]? = some ms[i] := Array.getElem?_eq_getElem hil
        obtain ⟨o', q1, q2⟩ := hseen i _ hy (all_seen ms seen hl0 _ (by simp))
        rw [hi] at q1
        cases q1
        exact q2
      exact ⟨rfl, μ, (R.putW (htm _ hWx) _).putW (htm _ hWt) _, Ext.refl μ _, by rw [Act.put_def, Act.put_def]; exact hD⟩
    · refine head _ true _ _ rfl hrun ?_
      show Code.wp P (.seq (.cond (.tmp H.t) .skip (.exit H.b1)) H.rest) _ _ _
      refine wp_seq (wp_cond_true (eval_put_self _ (by rw [Act.put_size, hsz]; exact hts) _) (wp_skip ?_))
      obtain ⟨hem, hes⟩ := mem_left he
      obtain ⟨i, hi⟩ := List.mem_iff_getElem?.1 hem
      obtain ⟨p, hp⟩ : ∃ p, es[i]? = some p := ⟨es[i]'(by have := (List.getElem?_eq_some_iff.1 hi).1; have := her.1; omega), List.getElem?_eq_getElem _⟩
      obtain ⟨hkey, hval⟩ := her.2 i p e hp hi
      obtain ⟨⟨xi, fi⟩, ho, hround⟩ := hat i p hp
      have hw1h : w1.heap = w.heap := by rcases hal with rfl | rfl <;> rfl
      obtain ⟨w2, hw2e⟩ : ∃ w2, w2 = setBlock w1 r (.mapIter (some bm) cl (seen.push e.born) cl) := ⟨_, rfl⟩
      rw [← hw2e]
      have hh2 : w2.heap = w.heap.setIfInBounds r (.mapIter (some bm) cl (seen.push e.born) cl) := by rw [hw2e]; show w1.heap.setIfInBounds _ _ = _; rw [hw1h]
      have hr2 : w2.heap[r]? = some (.mapIter (some bm) cl (seen.push e.born) cl) := by rw [hh2, Array.getElem?_setIfInBounds_self_of_lt hrlt]
      have hb2 : w2.heap[bm]? = some (.map ms cl) := by rw [hh2, Array.getElem?_setIfInBounds_ne hne, hb]
      have hs2 : w2.heap.size = w.heap.size := by rw [hh2]; simp
      have H2 : HR F w0 μ h1 w2 := by
        refine R.heap.off hr hFr (fun b hb' => by rw [hh2, Array.getElem?_setIfInBounds_ne (Ne.symm hb')]) (by rw [hs2]; exact Nat.le_refl _) ?_ ?_ ?_ <;>
          (rw [hw2e]; rcases hal with rfl | rfl <;> rfl)
      obtain ⟨G, hGe⟩ : ∃ G : Nat → Prop, G = fun b => b = r ∨ b = bm := ⟨_, rfl⟩
      have HG : HR (fun b => F b ∨ G b) w2 μ (h1.put m .dead) w2 := by
        refine (H2.put_dead hm hg).guard (fun b hb' => ?_) (fun j b z e hj hb' => ?_)
        · subst hGe
          rcases hb' with rfl | rfl
          · rw [hs2]; exact hrlt
          · rw [hs2]; exact hblt
        · subst hGe
          rw [AH.get_put]
          split
          · rfl
          · rename_i hjm
            rcases hb' with rfl | rfl
            · rw [hr j z e hj]; rfl
            · rcases H2.map_alone hm hg hj with h | h
              · exact absurd h hjm
              · rw [h]; rfl
      have R3 : AR (fun b => F b ∨ G b) w2 μ ⟨tm, sz, h1.put m .dead⟩ a w2 := ⟨HG, R.tm, R.sz⟩
      have hvk : VR μ p.1 e.key := by rw [hkey]; exact .plain (hpl p (List.mem_of_getElem? hp))
      have R4 := (R3.put (Ext.refl μ _) (VR.tuple_of (a := #[.bool true, p.1, p.2]) (a' := #[.bool true, e.key, e.val]) (LR.cons (.plain rfl) (LR.cons hvk (LR.cons hval LR.nil)))) HG (some H.x)).put
        (Ext.refl μ _) (v := .bool true) (v' := .bool true) (.plain rfl) (by rw [AF.put_h]; exact HG) (some H.t)
      rw [AF.put_h] at R4
      have hev : ((a.put (some H.x) (.tuple #[.bool true, e.key, e.val])).put (some H.t) (.bool true)).eval (.tmp H.it) = .pointer (some ⟨r, 0, none⟩) := by
        rw [Act.eval_put (fun d hd => by cases hd; simp; exact hitt), Act.eval_put (fun d hd => by cases hd; simp; exact hix), hita]
      have hrest := rest_ok hc hex hround R4 hvk hval (by rw [hev]; exact run_entry_at w2 r bm cl seen ms cl e hr2 hb2 hem hst.2)
      have hkept := rest_kept (hlit W) hround hlr
      refine wp_mono hrest fun e' a5 w5 hpost => ?_
      rw [AF.put_h] at hpost
      have hdef : ((a.put (some H.x) (.tuple #[.bool true, e.key, e.val])).put (some H.t) (.bool true)).defers = D := by rw [Act.put_def, Act.put_def]; exact hD
      rw [hdef] at hpost
      -- what holds behind the round
      have after : Onward (fun b => F b ∨ G b) w2 μ (h1.put m .dead) D fi a5 w5 → HR F w0 μ h1 w5 ∧ TR μ fi.tm a5.tmps (fun _ => True) ∧ (∀ t u, tm.get t = some u → fi.tm.get t = some u) ∧ sz = a5.tmps.size ∧ a5.defers = D ∧
          w5.heap[r]? = w2.heap[r]? ∧ w5.heap[bm]? = w2.heap[bm]? := by
        rintro ⟨μ5, r1, r2, r3⟩
        have e1 : fi.h = h1.put m .dead := hkept.1.trans (AF.put_h _ _ _ _)
        have r1h := r1.heap
        rw [e1] at r2 r1h
        have : μ5 = μ := r2.same HG r1h
        subst this
        refine ⟨H2.unguard hm hg (by rw [hGe]; exact .inr rfl) r1h, r1.tm, fun t u hu => ?_, ?_, r3, (r1h.fr r (.inr (by rw [hGe]; exact .inl rfl))).2, (r1h.fr bm (.inr (by rw [hGe]; exact .inr rfl))).2⟩
        · have hnW : W.contains t = false := by
            cases hc : W.contains t with
            | false => rfl
            | true => rw [htm t hc] at hu; cases hu
          rw [hkept.2.2 t hnW, AF.put_get_ne _ (by intro e; rw [e, hnW] at hWt; cases hWt), AF.put_get_ne _ (by intro e; rw [e, hnW] at hWx; cases hWx)]
          exact hu
        · rw [← r1.sz, hkept.2.1, AF.put_sz, AF.put_sz]
      cases e' <;> simp only [Post] at hpost
      · obtain ⟨rfl, ho'⟩ := hpost
        obtain ⟨q1, q2, q3, q4, q5, q6, q7⟩ := after ho'
        refine IH _ (by rw [← hn]; exact left_shrinks ms seen e he) (seen.push e.born) cl a5 w5 rfl ⟨q1, fun t _ u hu => q2 t trivial u (q3 t u hu), q4⟩ q5 (q6.trans hr2) (Nat.le_refl _) (q7.trans hb2) fun j y hy hs => ?_
        by_cases hji : j = i
        · subst hji
          exact ⟨_, ho, rfl⟩
        · refine hseen j y hy ?_
          rw [Array.contains_push] at hs
          simp only [Bool.or_eq_true, beq_iff_eq] at hs
          rcases hs with hs | hs
          · exact hs
          · exfalso
            have hy' : ms.toList[j]? = some y := by simpa using hy
            have hj1 : (ms.toList.map (·.born))[j]? = some y.born := by rw [List.getElem?_map, hy']; rfl
            have hi1 : (ms.toList.map (·.born))[i]? = some e.born := by rw [List.getElem?_map, hi]; rfl
            exact hji ((List.getElem?_inj (List.getElem?_eq_some_iff.1 hj1).1 hst.2).1 (by rw [hj1, hi1, hs]))
      · rename_i id'
        obtain ⟨rfl, ho'⟩ := hpost
        obtain ⟨q1, q2, q3, q4, q5, q6, q7⟩ := after ho'
        obtain ⟨rfl, j2, j3, j4⟩ := join_out hj (List.mem_of_getElem? ho) rfl
        have fin : Onward F w0 μ h1 D af' a5 w5 := ⟨μ, ⟨by rw [j3]; exact q1, fun t _ u hu => by
          rcases j4 t u hu with h | h
          · exact q2 t trivial u (q3 t u h)
          · exact q2 t trivial u h, by rw [j2]; exact q4⟩, by rw [j3]; exact Ext.refl μ _, q5⟩
        show Exit.inBlock H.b1 (Post F w0 μ h1 D (catchA H.b1 (.exit id')) af') (.exit id') a5 w5
        simp only [Exit.inBlock, catchA]
        by_cases hid : id' = H.b1
        · rw [if_pos hid, if_pos hid]; exact ⟨rfl, fin⟩
        · rw [if_neg hid, if_neg hid]; exact ⟨rfl, fin⟩
      · obtain ⟨rfl, ho'⟩ := hpost
        obtain ⟨q1, q2, q3, q4, q5, q6, q7⟩ := after ho'
        obtain ⟨rfl, j2, j3, j4⟩ := join_out hj (List.mem_of_getElem? ho) rfl
        have fin : Onward F w0 μ h1 D af' a5 w5 := ⟨μ, ⟨by rw [j3]; exact q1, fun t _ u hu => by
          rcases j4 t u hu with h | h
          · exact q2 t trivial u (q3 t u h)
          · exact q2 t trivial u h, by rw [j2]; exact q4⟩, by rw [j3]; exact Ext.refl μ _, q5⟩
        exact ⟨rfl, fin⟩

/-- The range and its loop. -/
theorem each_ok (hc : CallOk P call) {ex : Code → AF → Option (AExit × AF)}
    (hex : ∀ (c : Code) (af af' : AF) (x : AExit) (F : Nat → Prop) (w0 : World) (μ : Mp) (a : Act) (w : World), ex c af = some (x, af') → AR F w0 μ af a w → c.wp P (Post F w0 μ af.h a.defers x af') a w)
    (hlit : ∀ (W : List Tmp) (c : Code) (af af' : AF) (x : AExit), litC W c = true → ex c af = some (x, af') → Kept W af af')
    {X Y : Code} {ops : Array Oper} {H : Head} (hf : eachForm X Y = some (ops, H)) {af af' : AF} {x : AExit} (he : mapLoopA P call ex H ops af = some (x, af'))
    {μ : Mp} {a : Act} {w : World} (R : AR F w0 μ af a w) : (Code.seq X Y).wp P (Post F w0 μ af.h a.defers x af') a w := by
  unfold eachForm at hf
  split at hf
  · rename_i rid ops' y
    split at hf
    · rename_i H' hh
      cases hf
      obtain ⟨id, o1, o2, rfl, hops2, d1, p1, g1, d2, p2, g2, hxt⟩ := headForm_spec hh
      unfold mapLoopA at he
      split at he
      · rename_i o hlast
        split at he
        · rename_i it2 ty x1 hd hop hg
          split at he
          · rename_i kt et a1 hs hun hl
            split at he
            · rename_i m hx1
              split at he
              · rename_i es hgm
                dsimp only at he
                split at he
                · rename_i hcond
                  simp only [Bool.and_eq_true, decide_eq_true_eq, Bool.not_eq_true', Nat.blt_eq, List.all_eq_true] at hcond
                  obtain ⟨⟨rfl, hpl⟩, hnW, hits, hxs, hts, hlr⟩ := hcond
                  split at he
                  · rename_i outs houts
                    have hne : ops.toList ≠ [] := by intro e; rw [e] at hlast; cases hlast
                    have hsplit : ops.toList = ops.toList.dropLast ++ [o] := by
                      have := List.dropLast_concat_getLast hne
                      rw [List.getLast?_eq_some_getLast hne] at hlast
                      cases hlast
                      exact this.symm
                    have hlen : ops.toList.length = ops.toList.dropLast.length + 1 := by
                      have := congrArg List.length hsplit
                      simpa using this
                    refine wp_seq (wp_region ?_)
                    have hsz : ops.size = ops.toList.dropLast.length + 1 := by rw [← hlen]; simp
                    rw [List.range_eq_range', hsz]
                    refine ops_on hc 1 ops.toList.dropLast 0 af a1 hs μ a w (fun i hi => ?_) hl R fun a2 w2 hon => ?_
                    · rw [Nat.zero_add, ← Array.getElem?_toList]
                      have h3 : (ops.toList.dropLast ++ [o])[i]? = ops.toList.dropLast[i]? := List.getElem?_append_left hi
                      rw [← hsplit] at h3
                      exact h3.symm
                    · obtain ⟨μ2, R2, E2, D2⟩ := hon
                      have ho : ops[0 + ops.toList.dropLast.length]? = some o := by
                        rw [Nat.zero_add, ← Array.getElem?_toList]
                        have h3 : (ops.toList.dropLast ++ [o])[ops.toList.dropLast.length]? = some o := by simp
                        rw [← hsplit] at h3
                        exact h3
                      have hw : Region.wanted o (yielded ops a2.tmps) = true := by simp [Region.wanted, hg]
                      have hr1 : List.range' (0 + ops.toList.dropLast.length) 1 = [0 + ops.toList.dropLast.length] := rfl
                      rw [hr1]
                      simp only [wpOps, ho, hw, if_true]
                      left
                      have hvx := evalA_ok R2.tm (fun _ _ => trivial) hx1
                      obtain ⟨bm, e0, hm, hxe⟩ := hvx.map_inv
                      obtain ⟨ms, cl, hb, her, hst⟩ := map_at R2.heap hm hgm
                      have hbl : bm < w2.heap.size := (Array.getElem?_eq_some_iff.1 hb).1
                      unfold Oper.wp
                      simp only [execOp, hop, hxe, Sem.run_bind, run_range_map w2 ty kt et bm ms cl hun hb, Result.andThen_ok, Sem.run_pure, Oper.upon_value, hd]
                      obtain ⟨N1, N2⟩ := R2.heap.new .dead (.mapIter (some bm) cl #[] cl) 0 (fun c l p ty e => by cases e) trivial
                      have hmn : m ≠ a1.h.next := by have := R2.heap.dom m _ hm; omega
                      have hget : (a1.h.new .dead).2.get m = .map es := by rw [AH.get_new, if_neg hmn]; exact hgm
                      have hvp : VR (μ2.add a1.h.next (w2.heap.size, 0, 0)) (.pointer (some ⟨a1.h.next, 0, none⟩)) (.pointer (some ⟨w2.heap.size, 0, none⟩)) := VR.new_ptr
                      have R3 := R2.put N2 hvp N1 (some H.it)
                      have hput : (a1.put (some H.it) (.pointer (some ⟨a1.h.next, 0, none⟩)) (a1.h.new .dead).2) = ⟨a1.tm.set H.it (.pointer (some ⟨a1.h.next, 0, none⟩)), a1.sz, (a1.h.new .dead).2⟩ := by
                        simp only [AF.put_def, Nat.blt_eq, hits, if_true]
                      rw [hput] at R3
                      have hfst : (a1.h.new .dead).1 = a1.h.next := rfl
                      rw [hfst] at houts he
                      have R4 : AR F w0 (μ2.add a1.h.next (w2.heap.size, 0, 0)) ⟨delL (a1.tm.set H.it (.pointer (some ⟨a1.h.next, 0, none⟩))) (H.x :: H.t :: dstsC H.rest), a1.sz, (a1.h.new .dead).2⟩
                          (a2.put (some H.it) (.pointer (some ⟨w2.heap.size, 0, none⟩))) (w2.alloc (.mapIter (some bm) cl #[] cl)) :=
                        ⟨R3.heap, fun t _ u hu => by
                          rw [delL_get] at hu
                          split at hu
                          · cases hu
                          · exact R3.tm t trivial u hu, R3.sz⟩
                      have hbne : w2.heap.size ≠ bm := by omega
                      show Code.wp P (.block H.b1 _) _ _ _
                      refine wp_block (LoopWp.wp ?_)
                      have hrold : ∀ i z e, μ2 i = some (w2.heap.size, z, e) → (a1.h.new .dead).2.get i = .dead := fun i z e hi => by
                        rw [AH.get_new]
                        split
                        · rfl
                        · cases hd' : a1.h.get i with
                          | dead => rfl
                          | _ => exact absurd (R2.heap.inb hi (by rw [hd']; intro e; cases e)) (Nat.lt_irrefl _)
                      have h := loop_each (id := id) hc hex hlit hops2 d1 p1 g1 d2 p2 g2 hxt (by simp) (by simp) hxs hts hlr (fun t ht => by rw [delL_get, ht]; rfl) (ih := a1.h.next) (by
                          rw [delL_get, hnW, T.get_set', if_pos rfl]; rfl) (m := m) (bm := bm) (e0 := e0) (r := w2.heap.size) (cl := cl) (ms := ms) (by
                          simp only [Mp.add]; rw [if_neg hmn]; exact hm) hget (fun i z e hi => by
                          simp only [Mp.add] at hi
                          split at hi
                          · rename_i e1; subst e1; rw [AH.get_new, if_pos rfl]
                          · exact hrold i z e hi) (by simp [Mp.add]) (fun hF => by
                          have := R2.heap.fr _ hF
                          have := R2.heap.size
                          omega) hbne (her.mono (N2.sub)) hst hpl houts he (leftOf ms #[]).size #[] cl _ _ rfl R4 (D := a.defers) (by rw [Act.put_def]; exact D2) (heap_alloc_new _ _) (Nat.le_refl _) (by rw [heap_alloc_old _ _ hbl]; exact hb) (fun i y _ hs => by simp at hs)
                      intro b k cs
                      obtain ⟨e, a', w', q1, q2⟩ := h b k cs
                      refine ⟨e, a', w', ?_, q2⟩
                      have tr : ∀ {e a' w'}, Post F w0 (μ2.add a1.h.next (w2.heap.size, 0, 0)) (a1.h.new .dead).2 a.defers x af' e a' w' → Post F w0 μ af.h a.defers x af' e a' w' := fun hp => hp.trans (E2.trans N2) rfl
                      cases e with
                      | exit id' =>
                        simp only [Exit.inBlock] at q1 ⊢
                        by_cases hid : id' = H.b1
                        · rw [if_pos hid] at q1 ⊢; exact tr q1
                        · rw [if_neg hid] at q1 ⊢; exact tr q1
                      | normal => exact tr (e := .normal) q1
                      | goto l => exact (show False from q1).elim
                      | ret => exact tr (e := .ret) q1
                      | panic ch => exact (show False from q1).elim
                      | outgrown => exact (show False from q1).elim
                  · cases he
                · cases he
              · cases he
            · cases he
          · cases he
        · cases he
      · cases he
    · cases hf
  · cases hf

end
end
end Go.R

/- Code and calls: what the machine answers, the model answers. -/
namespace Go.R
set_option linter.unusedVariables false
set_option linter.unusedSimpArgs false
open Go Go.RowKit
noncomputable section

section
variable {P : Program} {F : Nat → Prop} {w0 : World} {call : CallF}

theorem exec_ok (hm : P.follows .mixedOrders = true) (hc : CallOk P call) {F : Nat → Prop} {w0 : World} : ∀ (n : Nat) (c : Code) (af af' : AF) (x : AExit) (μ : Mp) (a : Act) (w : World),
    execA P call n c af = some (x, af') → AR F w0 μ af a w → Wp P c (Post F w0 μ af.h a.defers x af') a w
  | 0, c, af, af', x, μ, a, w, he, R => by simp [execA] at he
  | n + 1, c, af, af', x, μ, a, w, he, R => by
    have ih := exec_ok (F := F) (w0 := w0) hm hc n
    have here : Onward F w0 μ af.h a.defers af a w := ⟨μ, R, Ext.refl μ _, rfl⟩
    cases c with
    | skip => simp only [execA, Option.some.injEq, Prod.mk.injEq] at he; obtain ⟨rfl, rfl⟩ := he; exact wp_skip ⟨rfl, here⟩
    | label l => simp only [execA, Option.some.injEq, Prod.mk.injEq] at he; obtain ⟨rfl, rfl⟩ := he; exact wp_label ⟨rfl, here⟩
    | exit id => simp only [execA, Option.some.injEq, Prod.mk.injEq] at he; obtain ⟨rfl, rfl⟩ := he; exact wp_exit ⟨rfl, here⟩
    | ret => simp only [execA, Option.some.injEq, Prod.mk.injEq] at he; obtain ⟨rfl, rfl⟩ := he; exact wp_ret ⟨rfl, here⟩
    | region id ops draw =>
      simp only [execA] at he
      split at he
      · rename_i a2 hr
        cases he
        exact region_ok hm hc hr R fun a' w' h => ⟨rfl, h⟩
      · cases he
    | seq c1 c2 =>
      simp only [execA] at he
      split at he
      · rename_i ops H hf
        exact each_ok hc (fun c af af' x F w0 μ a w hx hR => (exec_ok (F := F) (w0 := w0) hm hc n c af af' x μ a w hx hR).wp) (fun W c af af' x hl hx => lit_exec n c af af' x hl hx) hf he R
      refine wp_seq ?_
      split at he
      · rename_i a1 h1
        refine wp_mono (ih c1 af a1 .normal μ a w h1 R).wp fun e a' w' hp => ?_
        cases e <;> simp only [Post] at hp
        · obtain ⟨_, μ1, r1, r2, r3⟩ := hp
          exact wp_mono (ih c2 a1 af' x μ1 a' w' he r1).wp fun e a'' w'' q => q.trans r2 r3
        · cases hp.1
        · cases hp.1
      · rename_i h1
        refine wp_mono (ih c1 af af' x μ a w he R).wp fun e a' w' hp => ?_
        cases e <;> simp only [Post] at hp
        · obtain ⟨rfl, _⟩ := hp
          exact absurd he (h1 _)
        · exact hp
        · exact hp
    | cond v t e =>
      simp only [execA] at he
      split at he
      · rename_i hv
        exact wp_cond_true ((evalA_ok R.tm (fun _ _ => trivial) hv).bool_inv) (ih t af af' x μ a w he R).wp
      · rename_i hv
        exact wp_cond_false ((evalA_ok R.tm (fun _ _ => trivial) hv).bool_inv) (ih e af af' x μ a w he R).wp
      · cases he
    | block id body =>
      simp only [execA] at he
      refine wp_block ?_
      split at he
      · rename_i id' a1 h1
        refine wp_mono (ih body af a1 (.exit id') μ a w h1 R).wp fun e a' w' hp => ?_
        cases e <;> simp only [Post] at hp
        · cases hp.1
        · rename_i id''
          obtain ⟨e1, o⟩ := hp
          cases e1
          simp only [Exit.inBlock]
          split at he
          · rename_i hid
            cases he
            rw [if_pos hid]; exact ⟨rfl, o⟩
          · rename_i hid
            cases he
            rw [if_neg hid]; exact ⟨rfl, o⟩
        · cases hp.1
      · rename_i h1
        refine wp_mono (ih body af af' x μ a w he R).wp fun e a' w' hp => ?_
        cases e <;> simp only [Post] at hp
        · exact hp
        · obtain ⟨rfl, _⟩ := hp
          exact absurd he (h1 _ _)
        · exact hp
    | loop body =>
      simp only [execA] at he
      refine LoopWp.round ?_
      split at he
      · rename_i a1 h1
        refine wp_mono (ih body af a1 .normal μ a w h1 R).wp fun e a' w' hp => ?_
        cases e <;> simp only [Post] at hp
        · obtain ⟨_, μ1, r1, r2, r3⟩ := hp
          have := ih (.loop body) a1 af' x μ1 a' w' he r1
          intro b k cs
          obtain ⟨e, a2, w2, q1, q2⟩ := this b k cs
          exact ⟨e, a2, w2, q1.trans r2 r3, q2⟩
        · cases hp.1
        · cases hp.1
      · rename_i h1
        refine wp_mono (ih body af af' x μ a w he R).wp fun e a' w' hp => ?_
        cases e <;> simp only [Post] at hp
        · obtain ⟨rfl, _⟩ := hp
          exact absurd he (h1 _)
        · exact hp
        · exact hp
    | scope body =>
      simp only [execA] at he
      refine wp_scope_straight (wp_mono (ih body af af' x μ a w he R).wp fun e a' w' hp => ?_)
      cases e <;> simp only [Post] at hp <;> exact hp
    | goto l => cases he
    | rangeFunc f ps a b => cases he
    | refuse why => cases he

theorem initTm_get : ∀ (l : List Value) (i : Nat) (t : T Value) (k : Nat), (initTm l i t).get k = if i ≤ k ∧ k < i + l.length then l[k - i]? else t.get k
  | [], i, t, k => by simp only [initTm, List.length_nil]; rw [if_neg (by omega)]
  | v :: l, i, t, k => by
    simp only [initTm, initTm_get l (i + 1), List.length_cons, T.get_set']
    by_cases h1 : k = i
    · subst h1
      rw [if_neg (by omega), if_pos rfl, if_pos (by omega)]; simp
    · by_cases h2 : i + 1 ≤ k ∧ k < i + 1 + l.length
      · rw [if_pos h2, if_pos (by omega)]
        have : k - i = (k - (i + 1)) + 1 := by omega
        rw [this, List.getElem?_cons_succ]
      · rw [if_neg h2, if_neg h1, if_neg (by omega)]

def resVar (tmps : Array Value) : ResultVar → Sem Value
  | .tmp t => pure (tmps.getD t undef)
  | .cell a t => do loadVar t (← asAddr (tmps.getD a undef))

theorem results_eq (fn : Func) (tmps : Array Value) : results fn tmps = (do
    let vs ← fn.results.mapM (resVar tmps)
    pure (if h : vs.size = 1 then vs[0] else .tuple vs)) := by
  unfold results
  congr 1

theorem results_ok {μ : Mp} {h : AH} {w : World} (H : HR F w0 μ h w) {tm : T Value} {tmps : Array Value} (R : TR μ tm tmps (fun _ => True)) :
    ∀ (l : List ResultVar) (vs : List Value), resultsA P tm h l = some vs →
    ∃ vs', (l.mapM (resVar tmps)).run P w = .ok vs' w ∧ LR μ vs vs'
  | [], vs, he => by
    simp only [resultsA, Option.some.injEq] at he; subst he
    exact ⟨[], by simp, LR.nil⟩
  | .tmp t :: l, vs, he => by
    simp only [resultsA] at he
    split at he
    · rename_i v vs1 ht h1
      cases he
      obtain ⟨vs', q1, q2⟩ := results_ok H R l vs1 h1
      exact ⟨_ :: vs', by rw [List.mapM_cons]; simp only [resVar, pure_bind, Sem.run_bind, q1, Result.andThen_ok, Sem.run_pure], LR.cons (R t trivial v ht) q2⟩
    · cases he
  | .cell t ty :: l, vs, he => by
    simp only [resultsA] at he
    split at he
    · rename_i i o vs1 ht h1
      rw [Option.map_eq_some_iff] at he
      obtain ⟨v, hv, rfl⟩ := he
      obtain ⟨vs', q1, q2⟩ := results_ok H R l vs1 h1
      have hr := R t trivial _ ht
      obtain ⟨v', r1, r2⟩ := load_ok (P := P) H hv hr
      obtain ⟨b, z, e, hi, hx⟩ := hr.ptr_inv
      refine ⟨v' :: vs', ?_, LR.cons r2 q2⟩
      rw [hx] at r1
      simp only [Instr.loadAt, Instr.sureAddr, pure_bind] at r1
      rw [List.mapM_cons]
      have e1 : resVar tmps (.cell t ty) = loadVar ty ⟨b, z + o, none⟩ := by simp only [resVar, hx, asAddr, pure_bind]
      simp only [e1, Sem.run_bind, r1, Result.andThen_ok, q1, Sem.run_pure]
    · cases he

theorem body_ok (hm : P.follows .mixedOrders = true) (hc : CallOk P call) {n : Nat} {f : FuncId} {fn : Func} {c : Code} (hf : P.funcs[f]? = some fn) (hb : fn.body = some c)
    {args : List Value} {h h' : AH} {v : Value} (he : bodyA P call n fn c args h = some (v, h')) {μ : Mp} {w : World} {args' : Array Value} (H : HR F w0 μ h w) (hl : LR μ args args'.toList) :
    Calls P f args' w fun e w' => ∃ v', e = .returned v' ∧ ∃ μ', VR μ' v v' ∧ HR F w0 μ' h' w' ∧ Ext μ μ' h h' := by
  have hlen : args.length = args'.size := by have := hl.1; simpa using this
  have R : AR F w0 μ { tm := initTm args 0 .nil, sz := args.length + (fn.ntmps - args.length), h := h } { tmps := args' ++ Array.replicate (fn.ntmps - args'.size) undef, defers := [] } w := by
    refine ⟨H, fun t _ u hu => ?_, by simp [hlen]⟩
    simp only [initTm_get, Nat.zero_le, Nat.zero_add, true_and, Nat.sub_zero] at hu
    simp only [Array.getD_eq_getD_getElem?]
    by_cases ht : t < args.length
    · rw [if_pos ht] at hu
      rw [Array.getElem?_append_left (by omega)]
      obtain ⟨v', q1, q2⟩ := hl.at_ hu
      rw [← Array.getElem?_toList, q1]
      exact q2
    · rw [if_neg ht] at hu
      cases hu
  have fin : ∀ (x : AExit) (af' : AF), (match (resultsA P af'.tm af'.h fn.results.toList : Option (List Value)) with
      | some [v] => some (v, af'.h)
      | some vs => some (.tuple vs.toArray, af'.h)
      | none => none) = some (v, h') → ∀ a' w', Onward F w0 μ h [] af' a' w' →
      a'.defers = [] ∧ ∃ v', (results fn a'.tmps).run P w' = .ok v' w' ∧ ∃ v'', Ending.returned v' = .returned v'' ∧ ∃ μ', VR μ' v v'' ∧ HR F w0 μ' h' w' ∧ Ext μ μ' h h' := by
    intro x af' hr a' w' ⟨μ', r1, r2, r3⟩
    refine ⟨r3, ?_⟩
    cases hres : resultsA P af'.tm af'.h fn.results.toList with
    | none => rw [hres] at hr; cases hr
    | some vs =>
      obtain ⟨vs', q1, q2⟩ := results_ok (P := P) r1.heap r1.tm _ _ hres
      have hrun : (results fn a'.tmps).run P w' = .ok (if h : vs'.toArray.size = 1 then vs'.toArray[0] else .tuple vs'.toArray) w' := by
        rw [results_eq, Array.mapM_eq_mapM_toList]
        simp only [bind_pure_comp, Sem.run_bind, Sem.run_map, q1, Result.andThen_ok, Sem.run_pure]
      refine ⟨_, hrun, _, rfl, μ', ?_⟩
      rw [hres] at hr
      match vs, hr, q2 with
      | [x], hr, q2 =>
        cases hr
        obtain ⟨y, e, hy⟩ := q2.one rfl
        subst e
        exact ⟨by simpa using hy, r1.heap, r2⟩
      | [], hr, q2 =>
        cases hr
        have : vs' = [] := List.eq_nil_of_length_eq_zero q2.1.symm
        subst this
        exact ⟨VR.tuple_of q2, r1.heap, r2⟩
      | x :: y :: l, hr, q2 =>
        cases hr
        have : vs'.toArray.size ≠ 1 := by have := q2.1; simp at this ⊢; omega
        rw [dif_neg this]
        exact ⟨VR.tuple_of (by simpa using q2), r1.heap, r2⟩
  refine calls_of_wp hf hb ?_
  unfold bodyA at he
  split at he
  · rename_i af' h1
    refine wp_mono (exec_ok hm hc n c _ af' .normal μ _ w h1 R).wp fun e a' w' hp => ?_
    cases e <;> simp only [Post] at hp
    · exact fin .normal af' he a' w' hp.2
    · cases hp.1
    · cases hp.1
  · rename_i af' h1
    refine wp_mono (exec_ok hm hc n c _ af' .ret μ _ w h1 R).wp fun e a' w' hp => ?_
    cases e <;> simp only [Post] at hp
    · cases hp.1
    · cases hp.1
    · exact fin .ret af' he a' w' hp.2
  · cases he

def HookOk (P : Program) (hk : Hook) : Prop := CallOk P fun f args h => match hk f args h with | some r => r | none => none

def NoNum (P : Program) : Prop := ∀ (f : FuncId) fn, P.funcs[f]? = some fn → (fn.name == "runtime.NumGoroutine") = false

theorem enters (hn : NoNum P) {f : FuncId} {fn : Func} {c : Code} (hf : P.funcs[f]? = some fn) (hb : fn.body = some c) (args : Array Value) (w : World) :
    (callFunc f args).run P w = .ok (.enter f args) w := by
  unfold callFunc
  have := hn f fn hf
  simp only [beq_eq_false_iff_ne, ne_eq] at this
  simp [hf, hb, this]

theorem call_ok (hm : P.follows .mixedOrders = true) (hn : NoNum P) {hk : Hook} (hh : HookOk P hk) : ∀ n, CallOk P (callA P hk n)
  | 0 => fun f args h v h' he => by simp [callA] at he
  | n + 1 => fun f args h v h' he F w0 μ w args' H hl => by
    unfold callA at he
    split at he
    · rename_i r hr
      exact hh f args h v h' (by simp only [hr]; exact he) F w0 μ w args' H hl
    · split at he
      · cases he
      · rename_i fn hf
        split at he
        · cases he
        · rename_i c hb
          exact .inl ⟨enters hn hf hb args' w, body_ok hm (call_ok hm hn hh n) hf hb he H hl⟩

end
end
end Go.R

/- The entries without a body that the machine answers for. -/
namespace Go.R
set_option linter.unusedVariables false
set_option linter.unusedSimpArgs false
open Go Go.RowKit
noncomputable section

structure Ids where
  noEscape : Option FuncId
  indexByteS : Option FuncId
  countS : Option FuncId
  makeNoZero : Option FuncId
  byte : TypeId

def isId (x : Option FuncId) (f : FuncId) : Bool :=
  match x with
  | some k => Nat.beq f k
  | none => false

def idxB : List UInt8 → Nat → Nat → Int
  | [], _, _ => -1
  | b :: l, c, i => if Nat.beq b.toNat c then (i : Int) else idxB l c (i + 1)

def cntB : List UInt8 → Nat → Nat → Nat
  | [], _, n => n
  | b :: l, c, n => if Nat.beq b.toNat c then cntB l c (n + 1) else cntB l c n

def extA (x : Ids) : Hook := fun f args h =>
  if isId x.noEscape f then some (match args with
    | [v] => some (v, h)
    | _ => none)
  else if isId x.makeNoZero f then some (match args with
    | [.int .i64 n] =>
      if decide (0 ≤ n) && decide (n ≤ 281474976710656) then
        let r := h.new (.cells [] true [] (some x.byte))
        some (.slice (some ⟨r.1, 0, some 1⟩) n.toNat n.toNat, r.2)
      else none
    | _ => none)
  else if isId x.indexByteS f then some (match args with
    | [.string s, .int .u8 c] => some (.int .i64 (idxB s.data.toList c.toNat.toUInt8.toNat 0), h)
    | _ => none)
  else if isId x.countS f then some (match args with
    | [.string s, .int .u8 c] => some (.int .i64 (cntB s.data.toList c.toNat.toUInt8.toNat 0 : Nat), h)
    | _ => none)
  else none

def Entry (P : Program) (f : FuncId) (e : Array Value → Sem Value) : Prop :=
  ∃ fn, P.funcs[f]? = some fn ∧ (fn.name == "runtime.NumGoroutine") = false ∧ fn.body.isNone = true ∧ Extern.findNext fn = none ∧ Extern.find fn = some e

structure ExtOk (P : Program) (x : Ids) : Prop where
  noEscape : ∀ f, x.noEscape = some f → Entry P f Extern.AbiNoEscape.same
  indexByteS : ∀ f, x.indexByteS = some f → Entry P f Extern.BytealgIndexByte.indexByte
  countS : ∀ f, x.countS = some f → Entry P f Extern.BytealgCount.count
  makeNoZero : ∀ f, x.makeNoZero = some f → ∃ ps t, P.underlying t = some (.slice x.byte) ∧ Entry P f (Extern.BytealgMakeNoZero.makeNoZero ps #[t])

section
variable {P : Program} {F : Nat → Prop} {w0 : World} {μ : Mp} {h : AH} {w : World}

theorem Entry.run {f : FuncId} {e : Array Value → Sem Value} (E : Entry P f e) {args : Array Value} {v : Value} {w' : World} (he : (e args).run P w = .ok v w') :
    (callFunc f args).run P w = .ok (.value v) w' := by
  obtain ⟨fn, h1, h2, h3, h4, h5⟩ := E
  have h2' : ¬ fn.name = "runtime.NumGoroutine" := by simpa using h2
  unfold callFunc
  simp [h1, h2', Option.isNone_iff_eq_none.1 h3, h4, h5, he]

theorem idxB_eq (c : UInt8) : ∀ (l : List UInt8) (i : Nat), idxB l c.toNat i = if Lib.indexByte l c = -1 then -1 else Lib.indexByte l c + i
  | [], i => by simp [idxB, Lib.indexByte]
  | b :: l, i => by
    have hge := Lib.indexByte_ge l c
    unfold idxB Lib.indexByte
    rw [idxB_eq c l (i + 1)]
    by_cases hb : b = c
    · subst hb; simp
    · have h1 : Nat.beq b.toNat c.toNat = false := by
        cases hq : Nat.beq b.toNat c.toNat with
        | false => rfl
        | true => exact absurd (UInt8.toNat_inj.1 (Nat.eq_of_beq_eq_true hq)) hb
      have h2 : (b == c) = false := by simpa using hb
      simp only [h1, h2, Bool.false_eq_true, if_false, beq_iff_eq]
      by_cases hm : Lib.indexByte l c = -1
      · simp [hm]
      · simp only [hm, if_false]
        rw [if_neg (by omega)]
        omega

theorem cntB_eq (c : UInt8) : ∀ (l : List UInt8) (n : Nat), cntB l c.toNat n = n + Lib.countByte l c
  | [], n => by simp [cntB, Lib.countByte]
  | b :: l, n => by
    unfold cntB
    have e : Lib.countByte (b :: l) c = Lib.countByte l c + if b == c then 1 else 0 := by unfold Lib.countByte; rw [List.count_cons]
    by_cases hb : b = c
    · subst hb
      simp only [Nat.beq_refl, if_true, cntB_eq, e, beq_self_eq_true]
      omega
    · have h1 : Nat.beq b.toNat c.toNat = false := by
        cases hq : Nat.beq b.toNat c.toNat with
        | false => rfl
        | true => exact absurd (UInt8.toNat_inj.1 (Nat.eq_of_beq_eq_true hq)) hb
      have h2 : (b == c) = false := by simpa using hb
      simp only [h1, h2, e, Bool.false_eq_true, if_false, cntB_eq]
      omega

theorem isId_eq {x : Option FuncId} {f : FuncId} (h : isId x f = true) : x = some f := by
  unfold isId at h
  split at h
  · rw [Nat.eq_of_beq_eq_true h]
  · cases h

theorem ext_ok {x : Ids} (X : ExtOk P x) : HookOk P (extA x) := by
  intro f args h v h' he F w0 μ w args' H hl
  unfold extA at he
  by_cases h1 : isId x.noEscape f = true
  · simp only [h1, if_true] at he
    split at he
    · rename_i v0
      cases he
      obtain ⟨y, e, hy⟩ := hl.one rfl
      have ea : args' = #[y] := arr_eq (by simpa using e)
      subst ea
      exact .inr ⟨y, w, (X.noEscape f (isId_eq h1)).run rfl, μ, hy, H, Ext.refl μ _⟩
    · cases he
  simp only [h1, Bool.false_eq_true, if_false] at he
  by_cases h2 : isId x.makeNoZero f = true
  · simp only [h2, if_true] at he
    split at he
    · rename_i n
      split at he
      · rename_i hn
        simp only [Bool.and_eq_true, decide_eq_true_eq] at hn
        cases he
        obtain ⟨y, e, hy⟩ := hl.one rfl
        have ea : args' = #[y] := arr_eq (by simpa using e)
        subst ea
        have := hy.int_inv
        subst this
        obtain ⟨ps, t, ht, E⟩ := X.makeNoZero f (isId_eq h2)
        obtain ⟨cs, r1, r2, _, _⟩ := Lib.run_makeNoZero_cap w ps t x.byte ht n.toNat (by omega)
        rw [Int.toNat_of_nonneg hn.1] at r1
        have Hd : HR F w0 μ h w.drew.drew := H.congr rfl rfl rfl rfl
        have N := new_row Hd x.byte (LR.nil (μ := μ)) cs (by simp) (some x.byte) (fun t e => by cases e; rfl)
        refine .inr ⟨_, _, E.run r1, _, ?_, N.1, N.2⟩
        have := VR.sliceU (μ := μ.add h.next (w.drew.drew.heap.size, 0, cs.size)) (i := h.next) (o := 0) (n := n.toNat) (c := n.toNat) (c' := cs.size) (s := 0) (b := w.drew.drew.heap.size) (z := 0) (e := cs.size)
          (by simp [Mp.add]) (Nat.le_refl _) r2 (by omega)
        exact this
      · cases he
    · cases he
  simp only [h2, Bool.false_eq_true, if_false] at he
  by_cases h3 : isId x.indexByteS f = true
  · simp only [h3, if_true] at he
    split at he
    · rename_i s c
      cases he
      obtain ⟨y, z, e, hy, hz⟩ := hl.two rfl
      have ea : args' = #[y, z] := arr_eq (by simpa using e)
      subst ea
      have := hy.string_inv
      subst this
      have := hz.int_inv
      subst this
      refine .inr ⟨_, w, (X.indexByteS f (isId_eq h3)).run (Lib.run_indexByteString s c w), μ, ?_, H, Ext.refl μ _⟩
      rw [idxB_eq]
      have hge := Lib.indexByte_ge s.data.toList c.toNat.toUInt8
      have : (if Lib.indexByte s.data.toList c.toNat.toUInt8 = -1 then (-1 : Int) else Lib.indexByte s.data.toList c.toNat.toUInt8 + (0 : Nat)) = Lib.indexByte s.data.toList c.toNat.toUInt8 := by
        split <;> omega
      rw [this]
      exact .plain rfl
    · cases he
  simp only [h3, Bool.false_eq_true, if_false] at he
  by_cases h4 : isId x.countS f = true
  · simp only [h4, if_true] at he
    split at he
    · rename_i s c
      cases he
      obtain ⟨y, z, e, hy, hz⟩ := hl.two rfl
      have ea : args' = #[y, z] := arr_eq (by simpa using e)
      subst ea
      have := hy.string_inv
      subst this
      have := hz.int_inv
      subst this
      refine .inr ⟨_, w, (X.countS f (isId_eq h4)).run (Lib.run_countString s c w), μ, ?_, H, Ext.refl μ _⟩
      rw [cntB_eq, Nat.zero_add]
      exact .plain rfl
    · cases he
  simp [h4] at he

end
end
end Go.R

/- From the machine's answer at an empty heap to the model's call. -/
namespace Go.R
set_option linter.unusedVariables false
set_option linter.unusedSimpArgs false
open Go Go.RowKit
noncomputable section

def AH.empty : AH := ⟨.nil, 0⟩

theorem HR.start (w : World) (hl : Laid (fun b => b < w.heap.size) w) : HR (fun b => b < w.heap.size) w (fun _ => none) AH.empty w where
  dom := fun i p h => by cases h
  obj := fun i b z e h => by cases h
  own := fun i b z e h => by cases h
  sep := fun i j b zi ei zj ej _ h => by cases h
  par := fun i c l p ty h => absurd rfl h
  os := rfl
  tape := rfl
  output := rfl
  size := Nat.le_refl _
  fr := fun b h => ⟨h, rfl⟩
  tab := hl

theorem HR.below {w w' : World} {μ : Mp} {h : AH} (H : HR (fun b => b < w.heap.size) w μ h w') : Below w.heap.size w w' :=
  ⟨H.os, H.tape, H.output, H.size, fun k hk => (H.fr k hk).2⟩

theorem noNum_of {P : Program} (h : (P.funcs.all fun fn => !(fn.name == "runtime.NumGoroutine")) = true) : NoNum P := by
  intro f fn hf
  have := Array.all_eq_true_iff_forall_mem.1 h fn (Array.mem_of_getElem? hf)
  simpa using this

theorem walk_of {P : Program} {hk : Hook} (hm : P.follows .mixedOrders = true) (hn : NoNum P) (hh : HookOk P hk) {n : Nat} {f : FuncId} {fn : Func} {c : Code} (hf : P.funcs[f]? = some fn) (hb : fn.body = some c)
    {args : List Value} {h h' : AH} {v : Value} (hno : hk f args h = none) (he : callA P hk (n + 1) f args h = some (v, h'))
    {F : Nat → Prop} {w0 : World} {μ : Mp} {w : World} {args' : Array Value} (H : HR F w0 μ h w) (hl : LR μ args args'.toList) :
    Calls P f args' w fun e w' => ∃ v', e = .returned v' ∧ ∃ μ', VR μ' v v' ∧ HR F w0 μ' h' w' ∧ Ext μ μ' h h' := by
  simp only [callA, hno, hf, hb] at he
  exact body_ok hm (call_ok hm hn hh n) hf hb he H hl

end
end Go.R
