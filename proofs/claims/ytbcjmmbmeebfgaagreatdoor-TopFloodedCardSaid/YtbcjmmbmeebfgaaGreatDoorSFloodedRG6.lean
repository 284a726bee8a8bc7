/- States whose objects are numbered anew. -/
import Derived.Test.YtbcjmmbmeebfgaaGreatDoorSFloodedRG5
namespace Go.R
set_option linter.unusedVariables false
set_option linter.unusedSimpArgs false
open Go Go.RowKit
noncomputable section
variable {P : Program}

def Mp.by (μ : Mp) (ρ : Nat → Nat) (m : Nat) : Mp := fun j => if j < m then μ (ρ j) else none

theorem by_lt {μ : Mp} {ρ : Nat → Nat} {m j : Nat} (h : j < m) : μ.by ρ m j = μ (ρ j) := by unfold Mp.by; rw [if_pos h]

/-- A value that says in the new numbers what another says in the old ones. -/
def Ren (ρ : Nat → Nat) (m : Nat) (u v : Value) : Prop := ∀ (μ : Mp) (x : Value), VR μ u x → VR (μ.by ρ m) v x

theorem Ren.plain {ρ : Nat → Nat} {m : Nat} {v : Value} (h : plainV v = true) : Ren ρ m v v := fun μ x hx => by rw [plain_same hx h]; exact .plain h
theorem Ren.ptr {ρ : Nat → Nat} {m i j o : Nat} (hj : j < m) (e : ρ j = i) : Ren ρ m (.pointer (some ⟨i, o, none⟩)) (.pointer (some ⟨j, o, none⟩)) := fun μ x hx => by
  obtain ⟨b, z, ee, hm, rfl⟩ := hx.ptr_inv
  exact .ptr (by rw [by_lt hj, e]; exact hm)
theorem Ren.slice {ρ : Nat → Nat} {m i j o n c : Nat} (hj : j < m) (e : ρ j = i) : Ren ρ m (.slice (some ⟨i, o, none⟩) n c) (.slice (some ⟨j, o, none⟩) n c) := fun μ x hx => by
  obtain ⟨b, z, ee, hm, rfl⟩ := hx.slice_inv
  exact .slice (by rw [by_lt hj, e]; exact hm)
theorem Ren.sliceU {ρ : Nat → Nat} {m i j o n c s : Nat} (hj : j < m) (e : ρ j = i) : Ren ρ m (.slice (some ⟨i, o, some (s + 1)⟩) n c) (.slice (some ⟨j, o, some (s + 1)⟩) n c) := fun μ x hx => by
  obtain ⟨b, z, ee, c', hm, q1, q2, q3, rfl⟩ := hx.sliceU_inv
  exact .sliceU (by rw [by_lt hj, e]; exact hm) q1 q2 q3

def RenO (ρ : Nat → Nat) (m : Nat) : AObj → AObj → Prop
  | .cells c live _ ty, .cells c' live' par' ty' => c.length = c'.length ∧ (∀ (k : Nat) u v, c[k]? = some u → c'[k]? = some v → Ren ρ m u v) ∧ (live' = true → live = true) ∧ par' = [] ∧ (ty' = none ∨ ty' = ty)
  | _, .dead => True
  | _, _ => False

theorem RenO.wr {ρ : Nat → Nat} {m : Nat} {x y : AObj} (h : RenO ρ m x y) (hw : y.wr = true) : x.wr = true := by
  cases x <;> cases y <;> simp only [RenO] at h <;> first | exact h.elim | (cases hw; done) | skip
  exact h.2.2.1 hw

/-- A drawn region in which nothing that looks may come elsewhere. -/
theorem Runs.regionD0 (hm : P.follows .mixedOrders = true) {call : CallF} (hc : CallOk P call) {k id : Nat} {ops : Array Oper} {af af' : AF} {Q : AExit → AF → Prop} (hk : k ≤ af.h.next)
    (h : (opsL P call ops ops.toList af).map (·.1) = some af') (hd : dynPairs P ops (masks ops.toList []) = []) (st : statOk ops (masks ops.toList []) = true) (q : Q .normal af') : Runs P k (.region id ops true) af Q := by
  refine Runs.regionD (vs := []) hm hc hk ?_ st q
  cases ho : opsL P call ops ops.toList af with
  | none => rw [ho] at h; cases h
  | some r => rw [ho] at h; cases h; rw [hd]; rfl

end
end Go.R

/- Regions some of whose steps are told, not evaluated: unknown rows, calls by contracts; rules that read the code's shape. -/
namespace Go.R
set_option linter.unusedVariables false
set_option linter.unusedSimpArgs false
open Go Go.RowKit
noncomputable section
variable {P : Program}

/-- A contract from one heap. -/
def Says (P : Program) (h : AH) (f : FuncId) (args : List Value) (v : Value) (h1 : AH) : Prop :=
  ∀ (F : Nat → Prop) (w0 : World) (μ : Mp) (w : World) (args' : Array Value), HR F w0 μ h w → LR μ args args'.toList →
    Goes P f args' w fun v' w' => ∃ μ', VR μ' v v' ∧ HR F w0 μ' h1 w' ∧ Ext μ μ' h h1

/-- A step that is told: its number, its value, the heap behind it where it is another one, and for a call whom and with what. -/
structure Via where
  no : Nat
  v : Value
  h : Option AH
  who : Option (FuncId × List Value)

def viaV (i : Nat) (v : Value) : Via := ⟨i, v, none, none⟩
def viaC (i : Nat) (f : FuncId) (args : List Value) (v : Value) : Via := ⟨i, v, none, some (f, args)⟩
def viaH (i : Nat) (f : FuncId) (args : List Value) (v : Value) (h : AH) : Via := ⟨i, v, some h, some (f, args)⟩

def hOr (h : AH) : Option AH → AH
  | some h' => h'
  | none => h

def viaAt : List Via → Nat → Option Via
  | [], _ => none
  | e :: l, i => match Nat.beq e.no i with
    | true => some e
    | false => viaAt l i

def foes : List Via → List FuncId
  | [] => []
  | e :: l => match e.who with
    | some (f, _) => f :: foes l
    | none => foes l

def notIn (f : FuncId) : List FuncId → Bool
  | [] => true
  | g :: l => !Nat.beq f g && notIn f l
def apart : List FuncId → Bool
  | [] => true
  | g :: l => notIn g l && apart l

/-- No call of one whose call is told. -/
def clear (P : Program) (fs : List FuncId) (ρ : Operand → Option Value) (o : Op) : Bool :=
  match callOp? o with
  | some c => match callee? P ρ c with
    | some (f, _) => notIn f fs
    | none => false
  | none => true

def opsV (P : Program) (call : CallF) (ops : Array Oper) (ov : List Via) (fs : List FuncId) : Nat → List Oper → AF → Option AF
  | _, [], a => some a
  | i, o :: l, a => match wantedA ops a.tm o with
    | some true => match viaAt ov i with
      | some e => opsV P call ops ov fs (i + 1) l (a.put o.dst e.v (hOr a.h e.h))
      | none => match clear P fs (evalA a.tm) o.op with
        | true => match stepA P call (evalA a.tm) o.op a.h with
          | some (v, h) => opsV P call ops ov fs (i + 1) l (a.put o.dst v h)
          | none => none
        | false => none
    | some false => opsV P call ops ov fs (i + 1) l (a.put o.dst undef a.h)
    | none => none

def endV (P : Program) (call : CallF) (c : Code) (ov : List Via) (af : AF) : Option AF := opsV P call (regOps c) ov (foes ov) 0 (regOps c).toList af
def aftV (P : Program) (call : CallF) (c : Code) (ov : List Via) (af : AF) : AF := (endV P call c ov af).getD af
def preV (P : Program) (call : CallF) (c : Code) (ov : List Via) (af : AF) (i : Nat) : AF := (opsV P call (regOps c) ov (foes ov) 0 ((regOps c).toList.take i) af).getD af

/-- What is to be shown of a told step. -/
def Shown (P : Program) (a : AF) (o : Oper) (e : Via) : Prop :=
  match e.who with
  | none => callOp? o.op = none ∧ opA P (evalA a.tm) o.op a.h = some (e.v, hOr a.h e.h)
  | some (f, args) => (∃ c, callOp? o.op = some c ∧ callee? P (evalA a.tm) c = some (f, args)) ∧ Says P a.h f args e.v (hOr a.h e.h)

def OblV (P : Program) (call : CallF) (c : Code) (af : AF) (ov : List Via) : List Via → Prop
  | [] => True
  | e :: l => Shown P (preV P call c ov af e.no) (opAt c e.no) e ∧ OblV P call c af ov l

theorem oblN {call : CallF} {c : Code} {af : AF} {ov : List Via} : OblV P call c af ov [] := trivial
theorem oblC {call : CallF} {c : Code} {af : AF} {ov l : List Via} {e : Via} (h : Shown P (preV P call c ov af e.no) (opAt c e.no) e) (t : OblV P call c af ov l) : OblV P call c af ov (e :: l) := ⟨h, t⟩

theorem viaAt_mem : ∀ {l : List Via} {i : Nat} {e : Via}, viaAt l i = some e → e ∈ l ∧ e.no = i
  | [], i, e, h => by cases h
  | x :: l, i, e, h => by
    unfold viaAt at h
    cases hb : Nat.beq x.no i with
    | true =>
      rw [hb] at h
      cases h
      exact ⟨List.mem_cons_self, Nat.eq_of_beq_eq_true hb⟩
    | false =>
      rw [hb] at h
      obtain ⟨h1, h2⟩ := viaAt_mem h
      exact ⟨List.mem_cons_of_mem _ h1, h2⟩

theorem oblV_at {call : CallF} {c : Code} {af : AF} {ov : List Via} : ∀ {l : List Via}, OblV P call c af ov l → ∀ e ∈ l, Shown P (preV P call c ov af e.no) (opAt c e.no) e
  | [], _, e, he => by cases he
  | x :: l, h, e, he => by
    rcases List.mem_cons.1 he with rfl | he
    · exact h.1
    · exact oblV_at h.2 e he

theorem opsV_app {call : CallF} {ops : Array Oper} {ov : List Via} {fs : List FuncId} : ∀ (l1 l2 : List Oper) (i : Nat) (a : AF),
    opsV P call ops ov fs i (l1 ++ l2) a = (opsV P call ops ov fs i l1 a).bind (opsV P call ops ov fs (i + l1.length) l2)
  | [], l2, i, a => rfl
  | o :: l, l2, i, a => by
    have e : ∀ b, opsV P call ops ov fs (i + 1) (l ++ l2) b = (opsV P call ops ov fs (i + 1) l b).bind (opsV P call ops ov fs (i + (o :: l).length) l2) := fun b => by
      rw [opsV_app l l2 (i + 1) b, List.length_cons, show i + 1 + l.length = i + (l.length + 1) by omega]
    simp only [List.cons_append, opsV]
    split
    · split
      · exact e _
      · split
        · split
          · exact e _
          · rfl
        · rfl
    · exact e _
    · rfl

/-- The told calls ahead of the others. -/
def anyOf : List (FuncId × List Value × AH × Value × AH) → CallF → CallF
  | [], base => base
  | (f0, args0, h0, v0, h1) :: S, base => callAt f0 args0 h0 v0 h1 (anyOf S base)

def told (P : Program) (call : CallF) (c : Code) (af : AF) (ov : List Via) : List Via → List (FuncId × List Value × AH × Value × AH)
  | [] => []
  | e :: l => match e.who with
    | some (f, args) => (f, args, (preV P call c ov af e.no).h, e.v, hOr (preV P call c ov af e.no).h e.h) :: told P call c af ov l
    | none => told P call c af ov l

theorem notIn_mem : ∀ {l : List FuncId} {f : FuncId}, notIn f l = true → f ∉ l
  | [], f, _, h => by cases h
  | g :: l, f, h, hm => by
    simp only [notIn, Bool.and_eq_true, Bool.not_eq_true'] at h
    rcases List.mem_cons.1 hm with rfl | hm
    · rw [Nat.beq_refl] at h; cases h.1
    · exact notIn_mem h.2 hm

theorem told_ids {call : CallF} {c : Code} {af : AF} {ov : List Via} : ∀ l : List Via, (told P call c af ov l).map (·.1) = foes l
  | [] => rfl
  | e :: l => by
    unfold told foes
    split
    · rename_i f args hw
      simp only [hw, List.map_cons, told_ids l]
    · rename_i hw
      simp only [hw, told_ids l]

theorem anyOf_other : ∀ {S : List (FuncId × List Value × AH × Value × AH)} {base : CallF} {f : FuncId} {args : List Value} {h : AH}, f ∉ S.map (·.1) → anyOf S base f args h = base f args h
  | [], _, _, _, _, _ => rfl
  | (f0, args0, h0, v0, h1) :: S, base, f, args, h, hn => by
    simp only [List.map_cons, List.mem_cons, not_or] at hn
    show callAt f0 args0 h0 v0 h1 (anyOf S base) f args h = _
    unfold callAt
    rw [if_neg (fun q => hn.1 q.1)]
    exact anyOf_other hn.2

theorem anyOf_at : ∀ {S : List (FuncId × List Value × AH × Value × AH)} {base : CallF}, apart (S.map (·.1)) = true → ∀ p ∈ S, anyOf S base p.1 p.2.1 p.2.2.1 = some (p.2.2.2.1, p.2.2.2.2)
  | [], _, _, p, hp => by cases hp
  | (f0, args0, h0, v0, h1) :: S, base, ha, p, hp => by
    simp only [List.map_cons, apart, Bool.and_eq_true] at ha
    show callAt f0 args0 h0 v0 h1 (anyOf S base) p.1 p.2.1 p.2.2.1 = _
    rcases List.mem_cons.1 hp with rfl | hp
    · simp only [callAt, and_self, if_true]
    · unfold callAt
      have hne : p.1 ≠ f0 := fun e => notIn_mem ha.1 (e ▸ List.mem_map_of_mem (f := (·.1)) hp)
      rw [if_neg (fun q => hne q.1)]
      exact anyOf_at ha.2 p hp

theorem anyOf_ok : ∀ {S : List (FuncId × List Value × AH × Value × AH)} {base : CallF}, CallOk P base → (∀ p ∈ S, Says P p.2.2.1 p.1 p.2.1 p.2.2.2.1 p.2.2.2.2) → CallOk P (anyOf S base)
  | [], _, hb, _ => hb
  | (f0, args0, h0, v0, h1) :: S, base, hb, hs => callAt_ok (anyOf_ok hb fun p hp => hs p (List.mem_cons_of_mem _ hp)) (hs _ List.mem_cons_self)

theorem told_says {call : CallF} {c : Code} {af : AF} {ov : List Via} : ∀ {l : List Via}, OblV P call c af ov l → ∀ p ∈ told P call c af ov l, Says P p.2.2.1 p.1 p.2.1 p.2.2.2.1 p.2.2.2.2
  | [], _, p, hp => by cases hp
  | e :: l, h, p, hp => by
    obtain ⟨h1, h2⟩ := h
    unfold told at hp
    unfold Shown at h1
    split at hp
    · rename_i f args hw
      rw [hw] at h1
      rcases List.mem_cons.1 hp with rfl | hp
      · exact h1.2
      · exact told_says h2 p hp
    · exact told_says h2 p hp

theorem told_mem {call : CallF} {c : Code} {af : AF} {ov : List Via} {f : FuncId} {args : List Value} : ∀ {l : List Via} {e : Via}, e ∈ l → e.who = some (f, args) → (f, args, (preV P call c ov af e.no).h, e.v, hOr (preV P call c ov af e.no).h e.h) ∈ told P call c af ov l
  | x :: l, e, he, hw => by
    unfold told
    rcases List.mem_cons.1 he with rfl | he
    · rw [hw]; exact List.mem_cons_self
    · split
      · exact List.mem_cons_of_mem _ (told_mem he hw)
      · exact told_mem he hw

theorem opsV_opsL {call : CallF} {c : Code} {af : AF} {ov : List Via} (ha : apart (foes ov) = true) (ob : OblV P call c af ov ov) : ∀ (m : Nat) (b : AF), opsV P call (regOps c) ov (foes ov) 0 ((regOps c).toList.take m) af = some b →
    (opsL P (anyOf (told P call c af ov ov) call) (regOps c) ((regOps c).toList.take m) af).map (·.1) = some b
  | 0, b, h => by simpa [opsV, opsL] using h
  | m + 1, b, h => by
    by_cases hm : m < (regOps c).toList.length
    · have et : (regOps c).toList.take (m + 1) = (regOps c).toList.take m ++ [(regOps c).toList[m]] := by rw [List.take_succ_eq_append_getElem hm]
      rw [et] at h ⊢
      rw [opsV_app, Nat.zero_add, List.length_take, Nat.min_eq_left (Nat.le_of_lt hm)] at h
      cases hb : opsV P call (regOps c) ov (foes ov) 0 ((regOps c).toList.take m) af with
      | none => rw [hb] at h; cases h
      | some b0 =>
        rw [hb] at h
        simp only [Option.bind_some] at h
        refine opsL_app _ _ af b0 b (opsV_opsL ha ob m b0 hb) ?_
        have hpre : preV P call c ov af m = b0 := by unfold preV; rw [hb]; rfl
        have hop : opAt c m = (regOps c).toList[m] := by
          unfold opAt
          rw [Array.getD_eq_getD_getElem?, ← Array.getElem?_toList, List.getElem?_eq_getElem hm]
          rfl
        generalize ho : (regOps c).toList[m] = o at h hop ⊢
        simp only [opsV] at h
        simp only [opsL]
        cases hw : wantedA (regOps c) b0.tm o with
        | none => rw [hw] at h; cases h
        | some w =>
          rw [hw] at h
          cases w with
          | false =>
            simp only [Option.some.injEq] at h
            simp only [Option.map_some, h]
          | true =>
            simp only at h ⊢
            have fin : ∀ v h', stepA P (anyOf (told P call c af ov ov) call) (evalA b0.tm) o.op b0.h = some (v, h') → b0.put o.dst v h' = b →
                Option.map (·.1) (match stepA P (anyOf (told P call c af ov ov) call) (evalA b0.tm) o.op b0.h with
                  | some (v, h) => some (b0.put o.dst v h, [b0, b0.put o.dst v h])
                  | none => none) = some b := by
              intro v h' e1 e2
              rw [e1]
              simp only [Option.map_some, e2]
            cases hv : viaAt ov m with
            | some e =>
              rw [hv] at h
              simp only [Option.some.injEq] at h
              obtain ⟨hmem, hno⟩ := viaAt_mem hv
              have hs := oblV_at ob e hmem
              rw [hno, hpre, hop] at hs
              refine fin e.v (hOr b0.h e.h) ?_ h
              unfold Shown at hs
              cases hwho : e.who with
              | none =>
                rw [hwho] at hs
                unfold stepA
                rw [hs.1]
                exact hs.2
              | some p =>
                obtain ⟨f, args⟩ := p
                rw [hwho] at hs
                obtain ⟨⟨cc, q1, q2⟩, _⟩ := hs
                have hmt := told_mem (P := P) (call := call) (c := c) (af := af) (ov := ov) hmem hwho
                rw [hno, hpre] at hmt
                have := anyOf_at (S := told P call c af ov ov) (base := call) (by rw [told_ids]; exact ha) _ hmt
                unfold stepA
                rw [q1]
                simp only [q2]
                exact this
            | none =>
              rw [hv] at h
              simp only at h
              cases hcl : clear P (foes ov) (evalA b0.tm) o.op with
              | false => rw [hcl] at h; cases h
              | true =>
                rw [hcl] at h
                simp only at h
                cases hst : stepA P call (evalA b0.tm) o.op b0.h with
                | none => rw [hst] at h; cases h
                | some r =>
                  obtain ⟨v, h'⟩ := r
                  rw [hst] at h
                  simp only [Option.some.injEq] at h
                  refine fin v h' ?_ h
                  rw [← hst]
                  unfold stepA
                  unfold clear at hcl
                  cases hco : callOp? o.op with
                  | none => rfl
                  | some cc =>
                    rw [hco] at hcl
                    simp only at hcl ⊢
                    cases hce : callee? P (evalA b0.tm) cc with
                    | none => rfl
                    | some q =>
                      obtain ⟨f, args⟩ := q
                      rw [hce] at hcl
                      simp only at hcl ⊢
                      exact anyOf_other (by rw [told_ids]; exact notIn_mem hcl)
    · have et : ∀ j, (regOps c).toList.length ≤ j → (regOps c).toList.take j = (regOps c).toList := fun j hj => List.take_of_length_le hj
      rw [et (m + 1) (by omega), ← et m (by omega)] at h ⊢
      exact opsV_opsL ha ob m b h

/-! ### Rules that read the code's shape -/
def regGood (P : Program) : Code → Bool
  | .region _ _ false => true
  | .region _ ops true => (dynPairs P ops (masks ops.toList [])).isEmpty && statOk ops (masks ops.toList [])
  | _ => false
def within : Code → Code
  | .block _ b => b
  | .loop b => b
  | c => c
def elseOf : Code → Code
  | .cond _ _ e => e
  | c => c
def isSeq : Code → Bool
  | .seq _ _ => true
  | _ => false
def isLoop : Code → Bool
  | .loop _ => true
  | _ => false
def blockNo : Code → Option Nat
  | .block i _ => some i
  | _ => none
def condVal (af : AF) : Code → Option Value
  | .cond x _ _ => evalA af.tm x
  | _ => none
/-- What ends at once. -/
def endNow : Code → Option AExit
  | .skip => some .normal
  | .exit i => some (.exit i)
  | .ret => some .ret
  | _ => none

theorem Runs.rg (hm : P.follows .mixedOrders = true) {call : CallF} (hc : CallOk P call) {k : Nat} {c : Code} {af : AF} {Q : AExit → AF → Prop} (ov : List Via) (hk : Nat.ble k af.h.next = true)
    (hg : (regGood P c && apart (foes ov)) = true) (hs : (endV P call c ov af).isSome = true) (ob : OblV P call c af ov ov) (q : Q .normal (aftV P call c ov af)) : Runs P k c af Q := by
  rw [Bool.and_eq_true] at hg
  have hle := Nat.le_of_ble_eq_true hk
  have hend : endV P call c ov af = some (aftV P call c ov af) := by
    unfold aftV
    cases h : endV P call c ov af with
    | none => rw [h] at hs; cases hs
    | some b => rfl
  have hL : (opsL P (anyOf (told P call c af ov ov) call) (regOps c) (regOps c).toList af).map (·.1) = some (aftV P call c ov af) := by
    have := opsV_opsL hg.2 ob (regOps c).toList.length (aftV P call c ov af)
    rw [List.take_length] at this
    exact this hend
  have hcall := anyOf_ok hc (told_says ob)
  cases c with
  | region id ops dr =>
    cases dr with
    | false => exact Runs.regionL hm hcall hle hL q
    | true =>
      have h1 := hg.1
      simp only [regGood, Bool.and_eq_true, List.isEmpty_iff] at h1
      exact Runs.regionD0 hm hcall hle hL h1.1 h1.2 q
  | _ => cases hg.1

theorem Runs.sq {k : Nat} {c : Code} {af : AF} {Q : AExit → AF → Prop} (hsq : isSeq c = true) (h : Runs P k (hd c) af (andThen (fun a => Runs P k (tl c) a Q) Q)) : Runs P k c af Q := by
  cases c with
  | seq a b => exact Runs.seq h
  | _ => cases hsq

/-- A part that is a region, and on. -/
theorem Runs.sqR (hm : P.follows .mixedOrders = true) {call : CallF} (hc : CallOk P call) {k : Nat} {c : Code} {af : AF} {Q : AExit → AF → Prop} (ov : List Via) (hk : Nat.ble k af.h.next = true)
    (hg : (isSeq c && (regGood P (hd c) && apart (foes ov))) = true) (hs : (endV P call (hd c) ov af).isSome = true) (ob : OblV P call (hd c) af ov ov) (q : Runs P k (tl c) (aftV P call (hd c) ov af) Q) : Runs P k c af Q := by
  rw [Bool.and_eq_true] at hg
  exact Runs.sq hg.1 (Runs.rg hm hc ov hk hg.2 hs ob q)

theorem Runs.bk {k id : Nat} {c : Code} {af : AF} {Q : AExit → AF → Prop} (hb : blockNo c = some id) (h : Runs P k (within c) af (caught id Q)) : Runs P k c af Q := by
  cases c with
  | block i b => cases hb; exact Runs.block h
  | _ => cases hb

theorem Runs.lp {k : Nat} {c : Code} {af : AF} {Q : AExit → AF → Prop} (hl : isLoop c = true) (h : Runs P k (within c) af (andThen (fun a => Runs P k c a Q) Q)) : Runs P k c af Q := by
  cases c with
  | loop b => exact Runs.loop h
  | _ => cases hl

theorem Runs.cd {k : Nat} {c : Code} {af : AF} {Q : AExit → AF → Prop} {b : Bool} (hx : condVal af c = some (.bool b)) (ht : b = true → Runs P k (thenOf c) af Q) (hf : b = false → Runs P k (elseOf c) af Q) : Runs P k c af Q := by
  cases c with
  | cond x t e => exact Runs.cond hx ht hf
  | _ => cases hx

theorem Runs.now {k : Nat} {c : Code} {af : AF} {Q : AExit → AF → Prop} {x : AExit} (he : endNow c = some x) (q : Q x af) : Runs P k c af Q := by
  cases c with
  | skip => cases he; exact Runs.skip q
  | exit i => cases he; exact Runs.exit q
  | ret => cases he; exact Runs.ret q
  | _ => cases he

/-! ### Told steps -/
/-- What an index reaches: object, offset, number of elements, index, size of one. -/
def idxIn (P : Program) (a : AF) (o : Oper) : Option (Nat × Nat × Nat × Nat × Nat) :=
  match o.op with
  | .indexAddr t x y => match evalA a.tm x, evalA a.tm y, P.underlying t with
    | some (.slice (some ⟨g, off, sp⟩) n _), some (.int _ (.ofNat i)), some (.slice e) => match P.info? e with
      | some info => some (g, off, n, i, info.size)
      | none => none
    | _, _, _ => none
  | _ => none

theorem shown_idx {a : AF} {o : Oper} {j g off n i sz : Nat} (h : idxIn P a o = some (g, off, n, i, sz)) (hlt : i < n) : Shown P a o (viaV j (.pointer (some ⟨g, off + i * sz, none⟩))) := by
  unfold idxIn at h
  split at h
  · rename_i t x y hop
    split at h
    · rename_i g' off' sp n' c' kd i' e hx hy ht
      split at h
      · rename_i info hi
        simp only [Option.some.injEq, Prod.mk.injEq] at h
        obtain ⟨rfl, rfl, rfl, rfl, rfl⟩ := h
        refine ⟨by rw [hop]; rfl, ?_⟩
        have := idx_step (P := P) (call := fun _ _ _ => none) (h := a.h) hx hy hlt ht hi
        rw [hop]
        simpa [stepA, callOp?, viaV, hOr] using this
      · cases h
    · cases h
  · cases h

/-- What a load reads: object, offset, number of cells, and whether these are one value. -/
def loadIn (P : Program) (a : AF) (o : Oper) : Option (Nat × Nat × Nat × Bool) :=
  match o.op with
  | .load t x => match evalA a.tm x, P.info? t, P.underlying t with
    | some (.pointer (some ⟨g, off, none⟩)), some info, some d => some (g, off, info.size, isAggD d)
    | _, _, _ => none
  | _ => none

theorem shown_agg {a : AF} {o : Oper} {j g off sz : Nat} {l : List Value} (h : loadIn P a o = some (g, off, sz, true)) (hr : rowAt? a.h g off sz = some l) : Shown P a o (viaV j (.agg l.toArray)) := by
  unfold loadIn at h
  split at h
  · rename_i t x hop
    split at h
    · rename_i g' off' info d hx hi ht
      simp only [Option.some.injEq, Prod.mk.injEq] at h
      obtain ⟨rfl, rfl, rfl, hd⟩ := h
      refine ⟨by rw [hop]; rfl, ?_⟩
      have := load_step (P := P) (call := fun _ _ _ => none) (h := a.h) hx hi ht hd hr
      rw [hop]
      simpa [stepA, callOp?, viaV, hOr] using this
    · cases h
  · cases h

theorem shown_cell {a : AF} {o : Oper} {j g off : Nat} {v : Value} (h : loadIn P a o = some (g, off, 1, false)) (hr : rowAt? a.h g off 1 = some [v]) : Shown P a o (viaV j v) := by
  unfold loadIn at h
  split at h
  · rename_i t x hop
    split at h
    · rename_i g' off' info d hx hi ht
      simp only [Option.some.injEq, Prod.mk.injEq] at h
      obtain ⟨rfl, rfl, _, hd⟩ := h
      refine ⟨by rw [hop]; rfl, ?_⟩
      rw [hop]
      show opA P (evalA a.tm) (.load t x) a.h = some (v, a.h)
      simp only [opA, hx, loadA, hi, ht, hd, Bool.false_eq_true, if_false, hr, Option.map_some]
    · cases h
  · cases h

/-- A call by its contract. -/
def callIn (P : Program) (a : AF) (o : Oper) : Option (FuncId × List Value) :=
  match callOp? o.op with
  | some c => callee? P (evalA a.tm) c
  | none => none

theorem shown_call {a : AF} {o : Oper} {j : Nat} {f : FuncId} {args : List Value} {v : Value} (h : callIn P a o = some (f, args)) (hs : Says P a.h f args v a.h) : Shown P a o (viaC j f args v) := by
  unfold callIn at h
  split at h
  · rename_i c hc
    exact ⟨⟨c, hc, h⟩, hs⟩
  · cases h

theorem shown_callH {a : AF} {o : Oper} {j : Nat} {f : FuncId} {args : List Value} {v : Value} {h1 : AH} (h : callIn P a o = some (f, args)) (hs : Says P a.h f args v h1) : Shown P a o (viaH j f args v h1) := by
  unfold callIn at h
  split at h
  · rename_i c hc
    exact ⟨⟨c, hc, h⟩, hs⟩
  · cases h

/-- The same where the heap is known by an equation. -/
theorem shown_callE {a : AF} {o : Oper} {j : Nat} {f : FuncId} {args : List Value} {v : Value} {h0 : AH} (h : callIn P a o = some (f, args)) (ha : a.h = h0) (hs : Says P h0 f args v h0) : Shown P a o (viaC j f args v) :=
  shown_call h (by rw [ha]; exact hs)
theorem shown_callHE {a : AF} {o : Oper} {j : Nat} {f : FuncId} {args : List Value} {v : Value} {h0 h1 : AH} (h : callIn P a o = some (f, args)) (ha : a.h = h0) (hs : Says P h0 f args v h1) : Shown P a o (viaH j f args v h1) :=
  shown_callH h (by rw [ha]; exact hs)

/-- A step whose value is equal to another one. -/
theorem shown_eq {a : AF} {o : Oper} {j : Nat} {v w : Value} (hc : callOp? o.op = none) (h : opA P (evalA a.tm) o.op a.h = some (v, a.h)) (e : v = w) : Shown P a o (viaV j w) := by
  subst e
  exact ⟨hc, h⟩
end
end Go.R

/- A call that looks at given objects and answers with a new row of plain cells, told from any heap. -/
namespace Go.R
set_option linter.unusedVariables false
set_option linter.unusedSimpArgs false
open Go Go.RowKit
noncomputable section
variable {P : Program}

end
end Go.R

/- A call that only reads a row, told at a slice over a part of a live row. -/
namespace Go.R
set_option linter.unusedVariables false
set_option linter.unusedSimpArgs false
open Go Go.RowKit
noncomputable section
variable {P : Program}

end
end Go.R

/- A call that reads one row and answers with a new one, told from any heap. -/
namespace Go.R
set_option linter.unusedVariables false
set_option linter.unusedSimpArgs false
open Go Go.RowKit
noncomputable section
variable {P : Program}

end
end Go.R

/- A call that sets a given cell to a slice over a new row; numbering anew where a held object changed. -/
namespace Go.R
set_option linter.unusedVariables false
set_option linter.unusedSimpArgs false
open Go Go.RowKit
noncomputable section
variable {P : Program}

/-- Whoever holds the value holds the object. -/
def Born (j : Nat) (v : Value) : Prop := ∀ (μ : Mp) (x : Value), VR μ v x → μ j ≠ none
theorem Born.ptr (j o : Nat) : Born j (.pointer (some ⟨j, o, none⟩)) := fun μ x h => by
  obtain ⟨b, z, e, hm, _⟩ := h.ptr_inv
  rw [hm]; exact fun e => by cases e
theorem Born.func {j : Nat} {fn : Fn} {a b : Array Value} {q : Nat} {v : Value} (hq : b.toList[q]? = some v) (hv : Born j v) : Born j (.func fn a b) := fun μ x h => by
  obtain ⟨f', c', _, _, h2⟩ := h.func_inv
  obtain ⟨y, _, hy⟩ := h2.at_ hq
  exact hv μ y hy

/-- The same where a held object may have changed, if a temporary holds it. -/
theorem Runs.renumT {k : Nat} {c : Code} {af : AF} {Q : AExit → AF → Prop} {l : List (Nat × Value)} {sz : Nat} {os : List AObj} (ρ : Nat → Nat)
    (hsz : af.sz = sz) (hk : k ≤ os.length) (fix : ∀ j, j < k → ρ j = j ∧ ((∀ o, os[j]? = some o → af.h.get j = o) ∨ ∃ t v, af.tm.get t = some v ∧ Born j v))
    (inj : ∀ i j, i < os.length → j < os.length → ρ i = ρ j → i = j)
    (tm : ∀ p ∈ l, ∃ u, af.tm.get p.1 = some u ∧ Ren ρ os.length u p.2)
    (ob : ∀ (j : Nat) o, os[j]? = some o → RenO ρ os.length (af.h.get (ρ j)) o)
    (np : ∀ i j, i < os.length → j < os.length → i ≠ j → ∀ c lv p ty, af.h.get (ρ i) = .cells c lv p ty → ρ j ∉ p)
    (h : Runs P k c (sth l sz os) Q) : Runs P k c af Q := by
  intro F w0 μ a w R
  have hget : ∀ i, i < os.length → ∃ o, os[i]? = some o ∧ (hp os).get i = o := fun i hi => ⟨os[i], List.getElem?_eq_getElem hi, hp_get os i _ (List.getElem?_eq_getElem hi)⟩
  have cutS : ∀ {i p}, μ.by ρ os.length i = some p → i < os.length ∧ μ (ρ i) = some p := by
    intro i p hi
    unfold Mp.by at hi
    split at hi
    · rename_i hlt; exact ⟨hlt, hi⟩
    · cases hi
  have A : AR F w0 (μ.by ρ os.length) (sth l sz os) a w := by
    refine ⟨⟨fun i p hi => by rw [show (sth l sz os).h = hp os from rfl, hp_next]; exact (cutS hi).1, fun i b z e hi => ?_, fun i b z e hi hw => ?_, fun i j b zi ei zj ej hne hi hj => ?_, fun i c l p ty hi hg j hj => ?_,
      R.heap.os, R.heap.tape, R.heap.output, R.heap.size, R.heap.fr, R.heap.tab⟩, fun t ht v hv => ?_, hsz ▸ R.sz⟩
    · obtain ⟨hlt, hm⟩ := cutS hi
      obtain ⟨o, ho, hg⟩ := hget i hlt
      rw [show (sth l sz os).h = hp os from rfl, hg]
      have hr := ob i o ho
      have hob := R.heap.obj (ρ i) b z e hm
      cases hx : af.h.get (ρ i) with
      | cells c live par ty =>
        rw [hx] at hr hob
        cases o with
        | cells c' live' par' ty' =>
          obtain ⟨e1, e2, e3, e4, e5⟩ := hr
          obtain ⟨cs, el, fr, h1, h2, h3, h4, h5, h6⟩ := hob
          refine ⟨cs, el, fr, h1, by omega, h3, fun q v hq => ?_, fun hl => h5 (e3 hl), fun t ht => ?_⟩
          · have hlt' : q < c.length := by rw [e1]; exact (List.getElem?_eq_some_iff.1 hq).1
            obtain ⟨v', g1, g2⟩ := h4 q c[q] (List.getElem?_eq_getElem hlt')
            exact ⟨v', g1, e2 q _ _ (List.getElem?_eq_getElem hlt') hq μ v' g2⟩
          · rcases e5 with e5 | e5
            · rw [e5] at ht; cases ht
            · exact h6 t (e5 ▸ ht)
        | dead => trivial
        | map es => exact hr.elim
        | str s p => exact hr.elim
        | ghost t => exact hr.elim
      | map es => rw [hx] at hr; cases o <;> first | trivial | exact hr.elim
      | str s p => rw [hx] at hr; cases o <;> first | trivial | exact hr.elim
      | ghost t => rw [hx] at hr; cases o <;> first | trivial | exact hr.elim
      | dead => rw [hx] at hr; cases o <;> first | trivial | exact hr.elim
    · obtain ⟨hlt, hm⟩ := cutS hi
      obtain ⟨o, ho, hg⟩ := hget i hlt
      rw [show (sth l sz os).h = hp os from rfl, hg] at hw
      exact R.heap.own (ρ i) b z e hm ((ob i o ho).wr hw)
    · obtain ⟨hlt, hm⟩ := cutS hi
      obtain ⟨hlt', hm'⟩ := cutS hj
      obtain ⟨x, hx, hgx⟩ := hget i hlt
      obtain ⟨y, hy, hgy⟩ := hget j hlt'
      rw [show (sth l sz os).h = hp os from rfl, hgx, hgy]
      have rx := ob i x hx
      have ry := ob j y hy
      have hne' : ρ i ≠ ρ j := fun e => hne (inj i j hlt hlt' e)
      have dead_of : ∀ {o o' : AObj}, RenO ρ os.length o o' → o = .dead → o' = .dead := by
        intro o o' hr he; subst he; cases o' <;> first | rfl | exact hr.elim
      rcases R.heap.sep (ρ i) (ρ j) b zi ei zj ej hne' hm hm' with s | s | s
      · cases hxx : af.h.get (ρ i) with
        | dead => rw [dead_of rx hxx]; exact .inl (by unfold share; trivial)
        | cells c lv p ty =>
          rw [hxx] at s
          cases hyy : af.h.get (ρ j) with
          | cells c' lv' p' ty' =>
            rw [hyy] at s
            cases lv <;> cases lv' <;> simp only [share] at s
            exact absurd s.1 (np i j hlt hlt' hne _ _ _ _ hxx)
          | dead => rw [dead_of ry hyy]; exact .inr (.inl (by unfold share; trivial))
          | map es => rw [hyy] at s; cases lv <;> exact s.elim
          | str _ _ => rw [hyy] at s; cases lv <;> exact s.elim
          | ghost _ => rw [hyy] at s; cases lv <;> exact s.elim
        | map es => rw [hxx] at s; exact s.elim
        | str _ _ => rw [hxx] at s; exact s.elim
        | ghost _ => rw [hxx] at s; exact s.elim
      · cases hyy : af.h.get (ρ j) with
        | dead => rw [dead_of ry hyy]; exact .inr (.inl (by unfold share; trivial))
        | cells c lv p ty =>
          rw [hyy] at s
          cases hxx : af.h.get (ρ i) with
          | cells c' lv' p' ty' =>
            rw [hxx] at s
            cases lv <;> cases lv' <;> simp only [share] at s
            exact absurd s.1 (np j i hlt' hlt (Ne.symm hne) _ _ _ _ hyy)
          | dead => rw [dead_of rx hxx]; exact .inl (by unfold share; trivial)
          | map es => rw [hxx] at s; cases lv <;> exact s.elim
          | str _ _ => rw [hxx] at s; cases lv <;> exact s.elim
          | ghost _ => rw [hxx] at s; cases lv <;> exact s.elim
        | map es => rw [hyy] at s; exact s.elim
        | str _ _ => rw [hyy] at s; exact s.elim
        | ghost _ => rw [hyy] at s; exact s.elim
      · refine .inr (.inr ⟨?_, ?_⟩)
        · cases hq : x.wr with
          | false => rfl
          | true => rw [rx.wr hq] at s; cases s.1
        · cases hq : y.wr with
          | false => rfl
          | true => rw [ry.wr hq] at s; cases s.2
    · have hi' : i < os.length := by
        unfold Mp.by at hi
        split at hi
        · rename_i hlt; exact hlt
        · exact absurd rfl hi
      obtain ⟨o, ho, hg'⟩ := hget i hi'
      rw [show (sth _ sz os).h = hp os from rfl, hg'] at hg
      have hr := ob i o ho
      rw [hg] at hr
      cases hx : af.h.get (ρ i) <;> rw [hx] at hr <;> first | exact hr.elim | skip
      rw [hr.2.2.2.1] at hj
      cases hj
    · rcases mkT_get l .nil t v hv with hm | hm
      · obtain ⟨u, h1, h2⟩ := tm (t, v) hm
        exact h2 μ _ (R.tm t trivial u h1)
      · simp [T.gN] at hm
  refine Wp.mono (h F w0 _ a w A) fun e a' w' ⟨x, af', q, s, d, μ', r, kp⟩ => ⟨x, af', q, s, d, μ', r, fun i hi => ?_⟩
  have h1 := kp i hi
  have hlow : i < os.length := Nat.lt_of_lt_of_le hi hk
  have hcut : μ.by ρ os.length i = μ i := by rw [by_lt hlow, (fix i hi).1]
  refine ⟨h1.1.trans hcut, fun hn => ?_⟩
  rcases (fix i hi).2 with same | ⟨t, v, ht, hv⟩
  · refine (h1.2 (hcut.trans hn)).trans ?_
    obtain ⟨o, ho, hg⟩ := hget i hlow
    rw [show (sth l sz os).h = hp os from rfl, hg]
    exact (same o ho).symm
  · exact absurd hn (hv μ _ (R.tm t trivial _ ht))

end
end Go.R

/- Numbering anew, by checks that compute. -/
namespace Go.R
set_option linter.unusedVariables false
set_option linter.unusedSimpArgs false
open Go Go.RowKit
noncomputable section
variable {P : Program}

/-- A value's places under other numbers. -/
def renV (σ : Nat → Nat) : Nat → Value → Value
  | 0, v => v
  | f + 1, v => match v with
    | .pointer (some ⟨i, o, none⟩) => .pointer (some ⟨σ i, o, none⟩)
    | .slice (some ⟨i, o, none⟩) n c => .slice (some ⟨σ i, o, none⟩) n c
    | .slice (some ⟨i, o, some (s + 1)⟩) n c => .slice (some ⟨σ i, o, some (s + 1)⟩) n c
    | .func fn a b => .func fn (a.toList.map (renV σ f)).toArray (b.toList.map (renV σ f)).toArray
    | v => v
def okV (σ ρ : Nat → Nat) (m : Nat) : Nat → Value → Bool
  | 0, _ => false
  | f + 1, v => match v with
    | .pointer (some ⟨i, o, none⟩) => Nat.blt (σ i) m && Nat.beq (ρ (σ i)) i
    | .slice (some ⟨i, o, none⟩) n c => Nat.blt (σ i) m && Nat.beq (ρ (σ i)) i
    | .slice (some ⟨i, o, some (s + 1)⟩) n c => Nat.blt (σ i) m && Nat.beq (ρ (σ i)) i
    | .func fn a b => a.toList.all (okV σ ρ m f) && b.toList.all (okV σ ρ m f)
    | .int _ _ => true
    | .bool _ => true
    | .string _ => true
    | .pointer none => true
    | .nilFunc => true
    | .nilIface => true
    | .map none => true
    | .slice none n c => Nat.beq n 0 && Nat.beq c 0
    | _ => false

theorem map_rel {ρ : Nat → Nat} {m : Nat} {g : Value → Value} {l : List Value} (h : ∀ v ∈ l, Ren ρ m v (g v)) {μ : Mp} {x : List Value} (hx : LR μ l x) : LR (μ.by ρ m) (l.map g) x := by
  refine ⟨by rw [List.length_map]; exact hx.1, fun i u u' hu hu' => ?_⟩
  rw [List.getElem?_map] at hu
  cases hq : l[i]? with
  | none => rw [hq] at hu; cases hu
  | some w =>
    rw [hq] at hu
    cases hu
    exact h w (List.mem_of_getElem? hq) μ u' (hx.2 i w u' hq hu')

theorem renV_ok {σ ρ : Nat → Nat} {m : Nat} : ∀ (f : Nat) (v : Value), okV σ ρ m f v = true → Ren ρ m v (renV σ f v)
  | 0, v, h => by cases h
  | f + 1, v, h => by
    have two : ∀ {i : Nat}, (Nat.blt (σ i) m && Nat.beq (ρ (σ i)) i) = true → σ i < m ∧ ρ (σ i) = i := fun h => by
      rw [Bool.and_eq_true] at h
      exact ⟨blt_lt h.1, Nat.eq_of_beq_eq_true h.2⟩
    unfold okV at h
    split at h
    · exact Ren.ptr (two h).1 (two h).2
    · exact Ren.slice (two h).1 (two h).2
    · exact Ren.sliceU (two h).1 (two h).2
    · rename_i fn a b
      rw [Bool.and_eq_true] at h
      intro μ x hx
      obtain ⟨f', c', rfl, h1, h2⟩ := hx.func_inv
      exact VR.func_of (by simpa using map_rel (fun v hv => renV_ok f v (List.all_eq_true.1 h.1 v hv)) h1) (by simpa using map_rel (fun v hv => renV_ok f v (List.all_eq_true.1 h.2 v hv)) h2)
    · exact Ren.plain rfl
    · exact Ren.plain rfl
    · exact Ren.plain rfl
    · exact Ren.plain rfl
    · exact Ren.plain rfl
    · exact Ren.plain rfl
    · exact Ren.plain rfl
    · rename_i n c
      refine Ren.plain ?_
      rw [Bool.and_eq_true] at h
      rw [Nat.eq_of_beq_eq_true h.1, Nat.eq_of_beq_eq_true h.2]
      rfl
    · cases h

def renOb (σ : Nat → Nat) : AObj → AObj
  | .cells c lv _ ty => .cells (c.map (renV σ 3)) lv [] ty
  | o => o
def okOb (σ ρ : Nat → Nat) (m : Nat) : AObj → Bool
  | .cells c _ _ _ => c.all (okV σ ρ m 3)
  | _ => false

/-- An object all of whose cells are known. -/
theorem RenO.of {σ ρ : Nat → Nat} {m : Nat} {x o : AObj} (e : renOb σ x = o) (h : okOb σ ρ m x = true) : RenO ρ m x o := by
  subst e
  cases x with
  | cells c lv p ty =>
    refine ⟨(List.length_map _).symm, fun k u v hu hv => ?_, fun h => h, rfl, .inr rfl⟩
    rw [List.getElem?_map, hu] at hv
    cases hv
    exact renV_ok 3 u (List.all_eq_true.1 h u (List.mem_of_getElem? hu))
  | _ => cases h

/-- A row of plain cells. -/
theorem RenO.row {ρ : Nat → Nat} {m : Nat} {x : AObj} {c : List Value} {lv lv' : Bool} {p : List Nat} {ty ty' : Option TypeId} (e : x = .cells c lv p ty) (h : ∀ v ∈ c, plainV v = true) (hl : lv' = true → lv = true) (ht : ty' = none ∨ ty' = ty) : RenO ρ m x (.cells c lv' [] ty') := by
  subst e
  exact ⟨rfl, fun k u v hu hv => by rw [hu] at hv; cases hv; exact Ren.plain (h u (List.mem_of_getElem? hu)), hl, rfl, ht⟩

def parsOf : AObj → List Nat
  | .cells _ _ p _ => p
  | _ => []
def injB (ρ : Nat → Nat) (m : Nat) : Bool := (List.range m).all fun i => (List.range m).all fun j => Nat.beq i j || !(Nat.beq (ρ i) (ρ j))
def npB (h : AH) (ρ : Nat → Nat) (m : Nat) : Bool := (List.range m).all fun i => (List.range m).all fun j => Nat.beq i j || !((parsOf (h.get (ρ i))).any fun q => Nat.beq q (ρ j))
def fixB (ρ : Nat → Nat) (k : Nat) : Bool := (List.range k).all fun j => Nat.beq (ρ j) j

def ObsOk (ρ : Nat → Nat) (m : Nat) (h : AH) : Nat → List AObj → Prop
  | _, [] => True
  | j, o :: l => RenO ρ m (h.get (ρ j)) o ∧ ObsOk ρ m h (j + 1) l
/-- Below k an object is what it was, or a temporary points to it. -/
def FixOk (k : Nat) (af : AF) : Nat → List AObj → Prop
  | _, [] => True
  | j, o :: l => (Nat.blt j k = true → af.h.get j = o ∨ ∃ t v, af.tm.get t = some v ∧ Born j v) ∧ FixOk k af (j + 1) l

theorem obs_at {ρ : Nat → Nat} {m : Nat} {h : AH} : ∀ {l : List AObj} {j : Nat}, ObsOk ρ m h j l → ∀ (i : Nat) o, l[i]? = some o → RenO ρ m (h.get (ρ (j + i))) o
  | [], _, _, i, o, ho => by cases ho
  | x :: l, j, hh, 0, o, ho => by cases ho; exact hh.1
  | x :: l, j, hh, i + 1, o, ho => by
    have := obs_at hh.2 i o (by simpa using ho)
    rw [show j + (i + 1) = j + 1 + i by omega]
    exact this
theorem fix_at {k : Nat} {af : AF} : ∀ {l : List AObj} {j : Nat}, FixOk k af j l → ∀ (i : Nat) o, l[i]? = some o → j + i < k → (af.h.get (j + i) = o ∨ ∃ t v, af.tm.get t = some v ∧ Born (j + i) v)
  | [], _, _, i, o, ho, _ => by cases ho
  | x :: l, j, hh, 0, o, ho, hk => by cases ho; exact hh.1 (by rw [Nat.blt_eq]; exact hk)
  | x :: l, j, hh, i + 1, o, ho, hk => by
    have := fix_at hh.2 i o (by simpa using ho) (by omega)
    rw [show j + (i + 1) = j + 1 + i by omega]
    exact this

theorem Runs.renumK {k : Nat} {c : Code} {af : AF} {Q : AExit → AF → Prop} {l : List (Nat × Value)} {sz : Nat} {os : List AObj} (ρ σ : Nat → Nat)
    (hsz : af.sz = sz) (hk : k ≤ os.length) (hf : fixB ρ k = true) (fx : FixOk k af 0 os) (hi : injB ρ os.length = true) (hn : npB af.h ρ os.length = true)
    (tt : (l.map fun p => (af.tm.get p.1).map (renV σ 3)) = l.map fun p => some p.2) (to : (l.all fun p => match af.tm.get p.1 with | some v => okV σ ρ os.length 3 v | none => false) = true)
    (ob : ObsOk ρ os.length af.h 0 os) (h : Runs P k c (sth l sz os) Q) : Runs P k c af Q := by
  have inj : ∀ i j, i < os.length → j < os.length → ρ i = ρ j → i = j := fun i j h1 h2 e => by
    have := List.all_eq_true.1 (List.all_eq_true.1 hi i (List.mem_range.2 h1)) j (List.mem_range.2 h2)
    rw [Bool.or_eq_true] at this
    rcases this with q | q
    · exact Nat.eq_of_beq_eq_true q
    · rw [e, Nat.beq_refl] at q; cases q
  refine Runs.renumT (l := l) (os := os) ρ hsz hk (fun j hj => ⟨Nat.eq_of_beq_eq_true (List.all_eq_true.1 hf j (List.mem_range.2 hj)), ?_⟩) inj (fun p hp => ?_) (fun j o ho => by have := obs_at ob j o ho; rwa [Nat.zero_add] at this) (fun a c ha hc hne cs lv p ty hg hm => ?_) h
  · have hlt : j < os.length := by omega
    have := fix_at fx j os[j] (List.getElem?_eq_getElem hlt) (by omega)
    rw [Nat.zero_add] at this
    rcases this with q | ⟨t, v, q⟩
    · exact .inl fun o ho => by rw [List.getElem?_eq_getElem hlt] at ho; rw [q]; exact Option.some.inj ho
    · exact .inr ⟨t, v, q⟩
  · have e1 := List.map_inj_left.1 tt p hp
    have e2 := List.all_eq_true.1 to p hp
    cases hq : af.tm.get p.1 with
    | none => rw [hq] at e1; cases e1
    | some u =>
      rw [hq] at e1 e2
      refine ⟨u, rfl, ?_⟩
      have := renV_ok (σ := σ) 3 u e2
      rw [Option.some.inj e1] at this
      exact this
  · have := List.all_eq_true.1 (List.all_eq_true.1 hn a (List.mem_range.2 ha)) c (List.mem_range.2 hc)
    rw [Bool.or_eq_true] at this
    rcases this with q | q
    · exact hne (Nat.eq_of_beq_eq_true q)
    · rw [hg] at q
      have : ((parsOf (.cells cs lv p ty)).any fun q => Nat.beq q (ρ c)) = true := List.any_eq_true.2 ⟨_, hm, Nat.beq_refl _⟩
      rw [this] at q; cases q
end
end Go.R

/- A call that sets the last cell of a held object to a slice over a new row. -/
namespace Go.R
set_option linter.unusedVariables false
set_option linter.unusedSimpArgs false
open Go Go.RowKit
noncomputable section
variable {P : Program}

end
end Go.R

/- A call that reads one row, among plain arguments, told at any slice over it: with a flat answer, or with a new row and a plain value. -/
namespace Go.R
set_option linter.unusedVariables false
set_option linter.unusedSimpArgs false
open Go Go.RowKit
noncomputable section
variable {P : Program}

/-- A slice from a place of an object, its capacity known or not. -/
def SliceAt (i o n : Nat) (s : Value) : Prop := (∃ z, s = .slice (some ⟨i, o, some (z + 1)⟩) n n) ∨ ∃ cap, n ≤ cap ∧ s = .slice (some ⟨i, o, none⟩) n cap

theorem plain_mono {μ μ' : Mp} : ∀ {l l' : List Value}, (∀ v ∈ l, plainV v = true) → LR μ l l' → LR μ' l l' := fun h hl => by
  rw [plains_same hl h]
  exact LR.of_plain h

theorem lr_split {μ : Mp} : ∀ {pre : List Value} {s : Value} {post l : List Value}, LR μ (pre ++ s :: post) l → ∃ pre' s' post', l = pre' ++ s' :: post' ∧ LR μ pre pre' ∧ VR μ s s' ∧ LR μ post post'
  | [], s, post, x :: l, h => ⟨[], x, l, rfl, LR.nil, h.head, h.tail⟩
  | [], s, post, [], h => absurd h.1 (by simp)
  | p :: pre, s, post, [], h => absurd h.1 (by simp)
  | p :: pre, s, post, x :: l, h => by
    obtain ⟨pre', s', post', rfl, h1, h2, h3⟩ := lr_split (pre := pre) (show LR μ (pre ++ s :: post) l from h.tail)
    exact ⟨x :: pre', s', post', rfl, LR.cons h.head h1, h2, h3⟩

theorem lr_join {μ : Mp} : ∀ {pre pre' : List Value} {s s' : Value} {post post' : List Value}, LR μ pre pre' → VR μ s s' → LR μ post post' → LR μ (pre ++ s :: post) (pre' ++ s' :: post')
  | [], [], s, s', post, post', _, h2, h3 => LR.cons h2 h3
  | [], x :: l, _, _, _, _, h, _, _ => absurd h.1 (by simp)
  | x :: l, [], _, _, _, _, h, _, _ => absurd h.1 (by simp)
  | x :: l, y :: l', s, s', post, post', h, h2, h3 => LR.cons h.head (lr_join h.tail h2 h3)

end
end Go.R

/- Regions in drawn order with told steps, where what looks at the heap may come to stand elsewhere. -/
namespace Go.R
set_option linter.unusedVariables false
set_option linter.unusedSimpArgs false
open Go Go.RowKit
noncomputable section
variable {P : Program}

/-- What stands ahead of each operation. -/
theorem opsL_states {call : CallF} {ops : Array Oper} : ∀ (l : List Oper) (a a' : AF) (hs : List AF), opsL P call ops l a = some (a', hs) → ∀ i, i ≤ l.length → ∃ ai, hs[i]? = some ai ∧ (opsL P call ops (l.take i) a).map (·.1) = some ai
  | [], a, a', hs, he, i, hi => by
    simp only [opsL, Option.some.injEq, Prod.mk.injEq] at he
    obtain ⟨rfl, rfl⟩ := he
    have : i = 0 := by simpa using hi
    subst this
    exact ⟨a, rfl, rfl⟩
  | o :: l, a, a', hs, he, i, hi => by
    simp only [opsL] at he
    cases hw : wantedA ops a.tm o with
    | none => rw [hw] at he; cases he
    | some w =>
      rw [hw] at he
      have go : ∀ (b : AF) (r : Option (AF × List AF)), opsL P call ops l b = r → (match r with | some (a', hs) => some (a', a :: hs) | none => none) = some (a', hs) →
          (∀ k, opsL P call ops ((o :: l).take (k + 1)) a = match opsL P call ops (l.take k) b with | some (a', hs) => some (a', a :: hs) | none => none) →
          ∃ ai, hs[i]? = some ai ∧ (opsL P call ops ((o :: l).take i) a).map (·.1) = some ai := by
        intro b r hr e1 e2
        cases r with
        | none => cases e1
        | some p =>
          obtain ⟨a2, hs2⟩ := p
          simp only [Option.some.injEq, Prod.mk.injEq] at e1
          obtain ⟨rfl, rfl⟩ := e1
          cases i with
          | zero => exact ⟨a, rfl, rfl⟩
          | succ k =>
            obtain ⟨ai, q1, q2⟩ := opsL_states l b a2 hs2 hr k (by simpa using hi)
            refine ⟨ai, by simpa using q1, ?_⟩
            rw [e2 k]
            cases hk : opsL P call ops (l.take k) b with
            | none => rw [hk] at q2; cases q2
            | some p => rw [hk] at q2; exact q2
      cases w with
      | false =>
        simp only at he
        exact go (a.put o.dst undef a.h) _ rfl he fun k => by
          simp only [List.take_succ_cons, opsL, hw]
          cases opsL P call ops (List.take k l) (a.put o.dst undef a.h) <;> rfl
      | true =>
        simp only at he
        cases hst : stepA P call (evalA a.tm) o.op a.h with
        | none => rw [hst] at he; cases he
        | some r =>
          obtain ⟨v, h⟩ := r
          rw [hst] at he
          exact go (a.put o.dst v h) _ rfl he fun k => by
            simp only [List.take_succ_cons, opsL, hw, hst]
            cases opsL P call ops (List.take k l) (a.put o.dst v h) <;> rfl

def DynAt (P : Program) (call : CallF) (c : Code) (ov : List Via) (af : AF) (q : Nat × Nat) : Prop :=
  ∃ v h2, opA P (evalA (preV P call c ov af q.1).tm) (opAt c q.1).op (preV P call c ov af q.2).h = some (v, h2) ∧ ∀ d, (opAt c q.1).dst = some d → (preV P call c ov af (q.1 + 1)).tm.get d = some v

def DynL (P : Program) (call : CallF) (c : Code) (ov : List Via) (af : AF) : List (Nat × Nat) → Prop
  | [] => True
  | q :: l => DynAt P call c ov af q ∧ DynL P call c ov af l
theorem dynN {call : CallF} {c : Code} {af : AF} {ov : List Via} : DynL P call c ov af [] := trivial
theorem dynC {call : CallF} {c : Code} {af : AF} {ov : List Via} {q : Nat × Nat} {l : List (Nat × Nat)} (h : DynAt P call c ov af q) (t : DynL P call c ov af l) : DynL P call c ov af (q :: l) := ⟨h, t⟩
theorem dynL_at {call : CallF} {c : Code} {af : AF} {ov : List Via} : ∀ {l : List (Nat × Nat)}, DynL P call c ov af l → ∀ q ∈ l, DynAt P call c ov af q
  | q :: l, h, x, hx => by
    rcases List.mem_cons.1 hx with rfl | hx
    · exact h.1
    · exact dynL_at h.2 x hx

/-- Within the region: the pairs stand in it. -/
def pairsIn (n : Nat) : List (Nat × Nat) → Bool
  | [] => true
  | q :: l => Nat.blt q.1 n && (Nat.ble q.2 n && pairsIn n l)
theorem pairsIn_at {n : Nat} : ∀ {l : List (Nat × Nat)}, pairsIn n l = true → ∀ q ∈ l, q.1 < n ∧ q.2 ≤ n
  | q :: l, h, x, hx => by
    simp only [pairsIn, Bool.and_eq_true] at h
    rcases List.mem_cons.1 hx with rfl | hx
    · exact ⟨blt_lt h.1, Nat.le_of_ble_eq_true h.2.1⟩
    · exact pairsIn_at h.2.2 x hx

def isDrawn : Code → Bool
  | .region _ _ true => true
  | _ => false

theorem Runs.rgD (hm : P.follows .mixedOrders = true) {call : CallF} (hc : CallOk P call) {k : Nat} {c : Code} {af : AF} {Q : AExit → AF → Prop} (ov : List Via) (pairs : List (Nat × Nat)) (hk : Nat.ble k af.h.next = true)
    (hg : (isDrawn c && (statOk (regOps c) (masks (regOps c).toList []) && (pairsIn (regOps c).toList.length pairs && apart (foes ov)))) = true) (hp : dynPairs P (regOps c) (masks (regOps c).toList []) = pairs)
    (hs : (endV P call c ov af).isSome = true) (ob : OblV P call c af ov ov) (dy : DynL P call c ov af pairs) (q : Q .normal (aftV P call c ov af)) : Runs P k c af Q := by
  simp only [Bool.and_eq_true] at hg
  obtain ⟨g1, g2, g3, g4⟩ := hg
  have hle := Nat.le_of_ble_eq_true hk
  have hend : endV P call c ov af = some (aftV P call c ov af) := by
    unfold aftV
    cases h : endV P call c ov af with
    | none => rw [h] at hs; cases hs
    | some b => rfl
  have hL : (opsL P (anyOf (told P call c af ov ov) call) (regOps c) (regOps c).toList af).map (·.1) = some (aftV P call c ov af) := by
    have := opsV_opsL g4 ob (regOps c).toList.length (aftV P call c ov af)
    rw [List.take_length] at this
    exact this hend
  have hcall := anyOf_ok hc (told_says ob)
  -- each state of the listed run
  have pre : ∀ i, opsV P call (regOps c) ov (foes ov) 0 ((regOps c).toList.take i) af = some (preV P call c ov af i) := by
    intro i
    have h1 := hend
    unfold endV at h1
    rw [← List.take_append_drop i (regOps c).toList, opsV_app] at h1
    unfold preV
    cases h2 : opsV P call (regOps c) ov (foes ov) 0 ((regOps c).toList.take i) af with
    | none => rw [h2] at h1; cases h1
    | some b => rfl
  cases c with
  | region id ops dr =>
    cases dr with
    | false => cases g1
    | true =>
      intro F w0 μ a w R
      cases ho : opsL P (anyOf (told P call (.region id ops true) af ov ov) call) ops ops.toList af with
      | none =>
        have : opsL P (anyOf (told P call (.region id ops true) af ov ov) call) (regOps (.region id ops true)) (regOps (.region id ops true)).toList af = none := ho
        rw [this] at hL; cases hL
      | some r =>
        obtain ⟨b, hs'⟩ := r
        have hb : b = aftV P call (.region id ops true) ov af := by
          have : opsL P (anyOf (told P call (.region id ops true) af ov ov) call) (regOps (.region id ops true)) (regOps (.region id ops true)).toList af = some (b, hs') := ho
          rw [this] at hL
          exact Option.some.inj hL
        subst hb
        have st : ∀ i, i ≤ ops.toList.length → hs'[i]? = some (preV P call (.region id ops true) ov af i) := by
          intro i hi
          obtain ⟨ai, q1, q2⟩ := opsL_states ops.toList af _ hs' ho i hi
          have q3 := opsV_opsL g4 ob i _ (pre i)
          have q4 : (opsL P (anyOf (told P call (.region id ops true) af ov ov) call) ops (ops.toList.take i) af).map (·.1) = some (preV P call (.region id ops true) ov af i) := q3
          rw [q2] at q4
          rw [q1]
          exact q4
        have dg : ∀ x ∈ dynPairs P ops (masks ops.toList []), DynGood P ops hs' x := by
          intro x hx
          have hx' : x ∈ pairs := by rw [← hp]; exact hx
          obtain ⟨l1, l2⟩ := pairsIn_at g3 x hx'
          have l1' : x.1 < ops.toList.length := l1
          have l2' : x.2 ≤ ops.toList.length := l2
          obtain ⟨v, h2, e1, e2⟩ := dynL_at dy x hx'
          have hop : ops[x.1]? = some (opAt (.region id ops true) x.1) := by
            unfold opAt
            show ops[x.1]? = some (ops.getD x.1 default)
            rw [Array.getD_eq_getD_getElem?]
            have : x.1 < ops.size := by simpa using l1'
            rw [Array.getElem?_eq_getElem this]
            rfl
          exact ⟨_, _, _, _, hop, st x.2 l2', st x.1 (by omega), st (x.1 + 1) (by omega), .inr ⟨v, h2, e1, e2⟩⟩
        refine plan_ok hm hcall (hs := hs') ⟨traced _ _ _ _ ho, g2, dg⟩ R fun a' w' ⟨μ', r1, r2, r3⟩ => ?_
        exact ⟨.normal, _, q, trivial, r3, μ', r1, .of_ext r2 hle⟩
  | _ => cases g1

end
end Go.R
