/- States whose objects are numbered anew. -/
import Derived.Test.YtgnkjmgkfibipaaDoorRSym
namespace Go.R
set_option linter.unusedVariables false
set_option linter.unusedSimpArgs false
open Go Go.RowKit
noncomputable section
variable {P : Program}

def Mp.by (μ : Mp) (ρ : Nat → Nat) (m : Nat) : Mp := fun j => if j < m then μ (ρ j) else none

theorem by_lt {μ : Mp} {ρ : Nat → Nat} {m j : Nat} (h : j < m) : μ.by ρ m j = μ (ρ j) := by unfold Mp.by; rw [if_pos h]

/-- A value that says in the new numbers what another says in the old ones. -/
def Ren (ρ : Nat → Nat) (m : Nat) (u v : Value) : Prop := ∀ (μ : Mp) (x : Value), VR μ u x → VR (μ.by ρ m) v x

theorem Ren.plain {ρ : Nat → Nat} {m : Nat} {v : Value} (h : plainV v = true) : Ren ρ m v v := fun μ x hx => by rw [plain_same hx h]; exact .plain h
theorem Ren.ptr {ρ : Nat → Nat} {m i j o : Nat} (hj : j < m) (e : ρ j = i) : Ren ρ m (.pointer (some ⟨i, o, none⟩)) (.pointer (some ⟨j, o, none⟩)) := fun μ x hx => by
  obtain ⟨b, z, ee, hm, rfl⟩ := hx.ptr_inv
  exact .ptr (by rw [by_lt hj, e]; exact hm)
theorem Ren.slice {ρ : Nat → Nat} {m i j o n c : Nat} (hj : j < m) (e : ρ j = i) : Ren ρ m (.slice (some ⟨i, o, none⟩) n c) (.slice (some ⟨j, o, none⟩) n c) := fun μ x hx => by
  obtain ⟨b, z, ee, hm, rfl⟩ := hx.slice_inv
  exact .slice (by rw [by_lt hj, e]; exact hm)
theorem Ren.sliceU {ρ : Nat → Nat} {m i j o n c s : Nat} (hj : j < m) (e : ρ j = i) : Ren ρ m (.slice (some ⟨i, o, some (s + 1)⟩) n c) (.slice (some ⟨j, o, some (s + 1)⟩) n c) := fun μ x hx => by
  obtain ⟨b, z, ee, c', hm, q1, q2, q3, rfl⟩ := hx.sliceU_inv
  exact .sliceU (by rw [by_lt hj, e]; exact hm) q1 q2 q3

def RenO (ρ : Nat → Nat) (m : Nat) : AObj → AObj → Prop
  | .cells c live _ ty, .cells c' live' par' ty' => c.length = c'.length ∧ (∀ (k : Nat) u v, c[k]? = some u → c'[k]? = some v → Ren ρ m u v) ∧ (live' = true → live = true) ∧ par' = [] ∧ (ty' = none ∨ ty' = ty)
  | _, .dead => True
  | _, _ => False

theorem RenO.wr {ρ : Nat → Nat} {m : Nat} {x y : AObj} (h : RenO ρ m x y) (hw : y.wr = true) : x.wr = true := by
  cases x <;> cases y <;> simp only [RenO] at h <;> first | exact h.elim | (cases hw; done) | skip
  exact h.2.2.1 hw

theorem Runs.renum {k : Nat} {c : Code} {af : AF} {Q : AExit → AF → Prop} {l : List (Nat × Value)} {sz : Nat} {os : List AObj} (ρ : Nat → Nat)
    (hsz : af.sz = sz) (hk : k ≤ os.length) (fix : ∀ j, j < k → ρ j = j ∧ ∀ o, os[j]? = some o → af.h.get j = o)
    (inj : ∀ i j, i < os.length → j < os.length → ρ i = ρ j → i = j)
    (tm : ∀ p ∈ l, ∃ u, af.tm.get p.1 = some u ∧ Ren ρ os.length u p.2)
    (ob : ∀ (j : Nat) o, os[j]? = some o → RenO ρ os.length (af.h.get (ρ j)) o)
    (np : ∀ i j, i < os.length → j < os.length → i ≠ j → ∀ c lv p ty, af.h.get (ρ i) = .cells c lv p ty → ρ j ∉ p)
    (h : Runs P k c (sth l sz os) Q) : Runs P k c af Q := by
  intro F w0 μ a w R
  have hget : ∀ i, i < os.length → ∃ o, os[i]? = some o ∧ (hp os).get i = o := fun i hi => ⟨os[i], List.getElem?_eq_getElem hi, hp_get os i _ (List.getElem?_eq_getElem hi)⟩
  have cutS : ∀ {i p}, μ.by ρ os.length i = some p → i < os.length ∧ μ (ρ i) = some p := by
    intro i p hi
    unfold Mp.by at hi
    split at hi
    · rename_i hlt; exact ⟨hlt, hi⟩
    · cases hi
  have A : AR F w0 (μ.by ρ os.length) (sth l sz os) a w := by
    refine ⟨⟨fun i p hi => by rw [show (sth l sz os).h = hp os from rfl, hp_next]; exact (cutS hi).1, fun i b z e hi => ?_, fun i b z e hi hw => ?_, fun i j b zi ei zj ej hne hi hj => ?_, fun i c l p ty hi hg j hj => ?_,
      R.heap.os, R.heap.tape, R.heap.output, R.heap.size, R.heap.fr⟩, fun t ht v hv => ?_, hsz ▸ R.sz⟩
    · obtain ⟨hlt, hm⟩ := cutS hi
      obtain ⟨o, ho, hg⟩ := hget i hlt
      rw [show (sth l sz os).h = hp os from rfl, hg]
      have hr := ob i o ho
      have hob := R.heap.obj (ρ i) b z e hm
      cases hx : af.h.get (ρ i) with
      | cells c live par ty =>
        rw [hx] at hr hob
        cases o with
        | cells c' live' par' ty' =>
          obtain ⟨e1, e2, e3, e4, e5⟩ := hr
          obtain ⟨cs, el, fr, h1, h2, h3, h4, h5, h6⟩ := hob
          refine ⟨cs, el, fr, h1, by omega, h3, fun q v hq => ?_, fun hl => h5 (e3 hl), fun t ht => ?_⟩
          · have hlt' : q < c.length := by rw [e1]; exact (List.getElem?_eq_some_iff.1 hq).1
            obtain ⟨v', g1, g2⟩ := h4 q c[q] (List.getElem?_eq_getElem hlt')
            exact ⟨v', g1, e2 q _ _ (List.getElem?_eq_getElem hlt') hq μ v' g2⟩
          · rcases e5 with e5 | e5
            · rw [e5] at ht; cases ht
            · exact h6 t (e5 ▸ ht)
        | dead => trivial
        | map es => exact hr.elim
        | str s p => exact hr.elim
        | ghost t => exact hr.elim
      | map es => rw [hx] at hr; cases o <;> first | trivial | exact hr.elim
      | str s p => rw [hx] at hr; cases o <;> first | trivial | exact hr.elim
      | ghost t => rw [hx] at hr; cases o <;> first | trivial | exact hr.elim
      | dead => rw [hx] at hr; cases o <;> first | trivial | exact hr.elim
    · obtain ⟨hlt, hm⟩ := cutS hi
      obtain ⟨o, ho, hg⟩ := hget i hlt
      rw [show (sth l sz os).h = hp os from rfl, hg] at hw
      exact R.heap.own (ρ i) b z e hm ((ob i o ho).wr hw)
    · obtain ⟨hlt, hm⟩ := cutS hi
      obtain ⟨hlt', hm'⟩ := cutS hj
      obtain ⟨x, hx, hgx⟩ := hget i hlt
      obtain ⟨y, hy, hgy⟩ := hget j hlt'
      rw [show (sth l sz os).h = hp os from rfl, hgx, hgy]
      have rx := ob i x hx
      have ry := ob j y hy
      have hne' : ρ i ≠ ρ j := fun e => hne (inj i j hlt hlt' e)
      have dead_of : ∀ {o o' : AObj}, RenO ρ os.length o o' → o = .dead → o' = .dead := by
        intro o o' hr he; subst he; cases o' <;> first | rfl | exact hr.elim
      rcases R.heap.sep (ρ i) (ρ j) b zi ei zj ej hne' hm hm' with s | s | s
      · cases hxx : af.h.get (ρ i) with
        | dead => rw [dead_of rx hxx]; exact .inl (by unfold share; trivial)
        | cells c lv p ty =>
          rw [hxx] at s
          cases hyy : af.h.get (ρ j) with
          | cells c' lv' p' ty' =>
            rw [hyy] at s
            cases lv <;> cases lv' <;> simp only [share] at s
            exact absurd s.1 (np i j hlt hlt' hne _ _ _ _ hxx)
          | dead => rw [dead_of ry hyy]; exact .inr (.inl (by unfold share; trivial))
          | map es => rw [hyy] at s; cases lv <;> exact s.elim
          | str _ _ => rw [hyy] at s; cases lv <;> exact s.elim
          | ghost _ => rw [hyy] at s; cases lv <;> exact s.elim
        | map es => rw [hxx] at s; exact s.elim
        | str _ _ => rw [hxx] at s; exact s.elim
        | ghost _ => rw [hxx] at s; exact s.elim
      · cases hyy : af.h.get (ρ j) with
        | dead => rw [dead_of ry hyy]; exact .inr (.inl (by unfold share; trivial))
        | cells c lv p ty =>
          rw [hyy] at s
          cases hxx : af.h.get (ρ i) with
          | cells c' lv' p' ty' =>
            rw [hxx] at s
            cases lv <;> cases lv' <;> simp only [share] at s
            exact absurd s.1 (np j i hlt' hlt (Ne.symm hne) _ _ _ _ hyy)
          | dead => rw [dead_of rx hxx]; exact .inl (by unfold share; trivial)
          | map es => rw [hxx] at s; cases lv <;> exact s.elim
          | str _ _ => rw [hxx] at s; cases lv <;> exact s.elim
          | ghost _ => rw [hxx] at s; cases lv <;> exact s.elim
        | map es => rw [hyy] at s; exact s.elim
        | str _ _ => rw [hyy] at s; exact s.elim
        | ghost _ => rw [hyy] at s; exact s.elim
      · refine .inr (.inr ⟨?_, ?_⟩)
        · cases hq : x.wr with
          | false => rfl
          | true => rw [rx.wr hq] at s; cases s.1
        · cases hq : y.wr with
          | false => rfl
          | true => rw [ry.wr hq] at s; cases s.2
    · have hi' : i < os.length := by
        unfold Mp.by at hi
        split at hi
        · rename_i hlt; exact hlt
        · exact absurd rfl hi
      obtain ⟨o, ho, hg'⟩ := hget i hi'
      rw [show (sth _ sz os).h = hp os from rfl, hg'] at hg
      have hr := ob i o ho
      rw [hg] at hr
      cases hx : af.h.get (ρ i) <;> rw [hx] at hr <;> first | exact hr.elim | skip
      rw [hr.2.2.2.1] at hj
      cases hj
    · rcases mkT_get l .nil t v hv with hm | hm
      · obtain ⟨u, h1, h2⟩ := tm (t, v) hm
        exact h2 μ _ (R.tm t trivial u h1)
      · simp [T.gN] at hm
  refine Wp.mono (h F w0 _ a w A) fun e a' w' ⟨x, af', q, s, d, μ', r, kp⟩ => ⟨x, af', q, s, d, μ', r, fun i hi => ?_⟩
  have h1 := kp i hi
  have hlow : i < os.length := Nat.lt_of_lt_of_le hi hk
  have hcut : μ.by ρ os.length i = μ i := by rw [by_lt hlow, (fix i hi).1]
  refine ⟨h1.1.trans hcut, fun hn => (h1.2 (hcut.trans hn)).trans ?_⟩
  obtain ⟨o, ho, hg⟩ := hget i hlow
  rw [show (sth l sz os).h = hp os from rfl, hg]
  exact ((fix i hi).2 o ho).symm

/-- A drawn region in which nothing that looks may come elsewhere. -/
theorem Runs.regionD0 (hm : P.follows .mixedOrders = true) {call : CallF} (hc : CallOk P call) {k id : Nat} {ops : Array Oper} {af af' : AF} {Q : AExit → AF → Prop} (hk : k ≤ af.h.next)
    (h : (opsL P call ops ops.toList af).map (·.1) = some af') (hd : dynPairs P ops (masks ops.toList []) = []) (st : statOk ops (masks ops.toList []) = true) (q : Q .normal af') : Runs P k (.region id ops true) af Q := by
  refine Runs.regionD (vs := []) hm hc hk ?_ st q
  cases ho : opsL P call ops ops.toList af with
  | none => rw [ho] at h; cases h
  | some r => rw [ho] at h; cases h; rw [hd]; rfl

theorem rows2_fst (a b : Nat → Value) {n i : Nat} (h : i < n) : ((rows2 a b n).drop (i * 2)).take 1 = [a i] := by
  have := congrArg (List.take 1) (rows2_at a b n i h)
  rw [List.take_take] at this
  simpa using this

theorem rows2_snd (a b : Nat → Value) {n i : Nat} (h : i < n) : ((rows2 a b n).drop (i * 2 + 1)).take 1 = [b i] := by
  have := congrArg (List.drop 1) (rows2_at a b n i h)
  rw [List.drop_take, List.drop_drop] at this
  simpa using this

theorem load1_step {call : CallF} {ρ : Operand → Option Value} {h : AH} {t : TypeId} {x : Operand} {g o : Nat} {info : TypeInfo} {d : TypeDesc} {v : Value}
    (hx : ρ x = some (.pointer (some ⟨g, o, none⟩))) (hi : P.info? t = some info) (ht : P.underlying t = some d) (hd : isAggD d = false) (hl : rowAt? h g o 1 = some [v]) :
    stepA P call ρ (.load t x) h = some (v, h) := by
  simp only [stepA, callOp?, opA, hx, loadA, hi, ht, hd, Bool.false_eq_true, if_false, hl, Option.map_some]
end
end Go.R
