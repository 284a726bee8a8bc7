/- Regions some of whose steps are told, not evaluated: unknown rows, calls by contracts; rules that read the code's shape. -/
import Derived.Test.YtgnkjmgkfibipaaDoorRRen

namespace Go.R
set_option linter.unusedVariables false
set_option linter.unusedSimpArgs false
open Go Go.RowKit
noncomputable section
variable {P : Program}

/-- A contract from one heap. -/
def Says (P : Program) (h : AH) (f : FuncId) (args : List Value) (v : Value) (h1 : AH) : Prop :=
  ∀ (F : Nat → Prop) (w0 : World) (μ : Mp) (w : World) (args' : Array Value), HR F w0 μ h w → LR μ args args'.toList →
    Goes P f args' w fun v' w' => ∃ μ', VR μ' v v' ∧ HR F w0 μ' h1 w' ∧ Ext μ μ' h h1

/-- A step that is told: its number, its value, the heap behind it where it is another one, and for a call whom and with what. -/
structure Via where
  no : Nat
  v : Value
  h : Option AH
  who : Option (FuncId × List Value)

def viaV (i : Nat) (v : Value) : Via := ⟨i, v, none, none⟩
def viaC (i : Nat) (f : FuncId) (args : List Value) (v : Value) : Via := ⟨i, v, none, some (f, args)⟩
def viaH (i : Nat) (f : FuncId) (args : List Value) (v : Value) (h : AH) : Via := ⟨i, v, some h, some (f, args)⟩

def hOr (h : AH) : Option AH → AH
  | some h' => h'
  | none => h

def viaAt : List Via → Nat → Option Via
  | [], _ => none
  | e :: l, i => match Nat.beq e.no i with
    | true => some e
    | false => viaAt l i

def foes : List Via → List FuncId
  | [] => []
  | e :: l => match e.who with
    | some (f, _) => f :: foes l
    | none => foes l

def notIn (f : FuncId) : List FuncId → Bool
  | [] => true
  | g :: l => !Nat.beq f g && notIn f l
def apart : List FuncId → Bool
  | [] => true
  | g :: l => notIn g l && apart l

/-- No call of one whose call is told. -/
def clear (fs : List FuncId) (ρ : Operand → Option Value) (o : Op) : Bool :=
  match callOp? o with
  | some c => match callee? ρ c with
    | some (f, _) => notIn f fs
    | none => false
  | none => true

def opsV (P : Program) (call : CallF) (ops : Array Oper) (ov : List Via) (fs : List FuncId) : Nat → List Oper → AF → Option AF
  | _, [], a => some a
  | i, o :: l, a => match wantedA ops a.tm o with
    | some true => match viaAt ov i with
      | some e => opsV P call ops ov fs (i + 1) l (a.put o.dst e.v (hOr a.h e.h))
      | none => match clear fs (evalA a.tm) o.op with
        | true => match stepA P call (evalA a.tm) o.op a.h with
          | some (v, h) => opsV P call ops ov fs (i + 1) l (a.put o.dst v h)
          | none => none
        | false => none
    | some false => opsV P call ops ov fs (i + 1) l (a.put o.dst undef a.h)
    | none => none

def endV (P : Program) (call : CallF) (c : Code) (ov : List Via) (af : AF) : Option AF := opsV P call (regOps c) ov (foes ov) 0 (regOps c).toList af
def aftV (P : Program) (call : CallF) (c : Code) (ov : List Via) (af : AF) : AF := (endV P call c ov af).getD af
def preV (P : Program) (call : CallF) (c : Code) (ov : List Via) (af : AF) (i : Nat) : AF := (opsV P call (regOps c) ov (foes ov) 0 ((regOps c).toList.take i) af).getD af

/-- What is to be shown of a told step. -/
def Shown (P : Program) (a : AF) (o : Oper) (e : Via) : Prop :=
  match e.who with
  | none => callOp? o.op = none ∧ opA P (evalA a.tm) o.op a.h = some (e.v, hOr a.h e.h)
  | some (f, args) => (∃ c, callOp? o.op = some c ∧ callee? (evalA a.tm) c = some (f, args)) ∧ Says P a.h f args e.v (hOr a.h e.h)

def OblV (P : Program) (call : CallF) (c : Code) (af : AF) (ov : List Via) : List Via → Prop
  | [] => True
  | e :: l => Shown P (preV P call c ov af e.no) (opAt c e.no) e ∧ OblV P call c af ov l

theorem oblN {call : CallF} {c : Code} {af : AF} {ov : List Via} : OblV P call c af ov [] := trivial
theorem oblC {call : CallF} {c : Code} {af : AF} {ov l : List Via} {e : Via} (h : Shown P (preV P call c ov af e.no) (opAt c e.no) e) (t : OblV P call c af ov l) : OblV P call c af ov (e :: l) := ⟨h, t⟩

theorem viaAt_mem : ∀ {l : List Via} {i : Nat} {e : Via}, viaAt l i = some e → e ∈ l ∧ e.no = i
  | [], i, e, h => by cases h
  | x :: l, i, e, h => by
    unfold viaAt at h
    cases hb : Nat.beq x.no i with
    | true =>
      rw [hb] at h
      cases h
      exact ⟨List.mem_cons_self, Nat.eq_of_beq_eq_true hb⟩
    | false =>
      rw [hb] at h
      obtain ⟨h1, h2⟩ := viaAt_mem h
      exact ⟨List.mem_cons_of_mem _ h1, h2⟩

theorem oblV_at {call : CallF} {c : Code} {af : AF} {ov : List Via} : ∀ {l : List Via}, OblV P call c af ov l → ∀ e ∈ l, Shown P (preV P call c ov af e.no) (opAt c e.no) e
  | [], _, e, he => by cases he
  | x :: l, h, e, he => by
    rcases List.mem_cons.1 he with rfl | he
    · exact h.1
    · exact oblV_at h.2 e he

theorem opsV_app {call : CallF} {ops : Array Oper} {ov : List Via} {fs : List FuncId} : ∀ (l1 l2 : List Oper) (i : Nat) (a : AF),
    opsV P call ops ov fs i (l1 ++ l2) a = (opsV P call ops ov fs i l1 a).bind (opsV P call ops ov fs (i + l1.length) l2)
  | [], l2, i, a => rfl
  | o :: l, l2, i, a => by
    have e : ∀ b, opsV P call ops ov fs (i + 1) (l ++ l2) b = (opsV P call ops ov fs (i + 1) l b).bind (opsV P call ops ov fs (i + (o :: l).length) l2) := fun b => by
      rw [opsV_app l l2 (i + 1) b, List.length_cons, show i + 1 + l.length = i + (l.length + 1) by omega]
    simp only [List.cons_append, opsV]
    split
    · split
      · exact e _
      · split
        · split
          · exact e _
          · rfl
        · rfl
    · exact e _
    · rfl

/-- The told calls ahead of the others. -/
def anyOf : List (FuncId × List Value × AH × Value × AH) → CallF → CallF
  | [], base => base
  | (f0, args0, h0, v0, h1) :: S, base => callAt f0 args0 h0 v0 h1 (anyOf S base)

def told (P : Program) (call : CallF) (c : Code) (af : AF) (ov : List Via) : List Via → List (FuncId × List Value × AH × Value × AH)
  | [] => []
  | e :: l => match e.who with
    | some (f, args) => (f, args, (preV P call c ov af e.no).h, e.v, hOr (preV P call c ov af e.no).h e.h) :: told P call c af ov l
    | none => told P call c af ov l

theorem notIn_mem : ∀ {l : List FuncId} {f : FuncId}, notIn f l = true → f ∉ l
  | [], f, _, h => by cases h
  | g :: l, f, h, hm => by
    simp only [notIn, Bool.and_eq_true, Bool.not_eq_true'] at h
    rcases List.mem_cons.1 hm with rfl | hm
    · rw [Nat.beq_refl] at h; cases h.1
    · exact notIn_mem h.2 hm

theorem told_ids {call : CallF} {c : Code} {af : AF} {ov : List Via} : ∀ l : List Via, (told P call c af ov l).map (·.1) = foes l
  | [] => rfl
  | e :: l => by
    unfold told foes
    split
    · rename_i f args hw
      simp only [hw, List.map_cons, told_ids l]
    · rename_i hw
      simp only [hw, told_ids l]

theorem anyOf_other : ∀ {S : List (FuncId × List Value × AH × Value × AH)} {base : CallF} {f : FuncId} {args : List Value} {h : AH}, f ∉ S.map (·.1) → anyOf S base f args h = base f args h
  | [], _, _, _, _, _ => rfl
  | (f0, args0, h0, v0, h1) :: S, base, f, args, h, hn => by
    simp only [List.map_cons, List.mem_cons, not_or] at hn
    show callAt f0 args0 h0 v0 h1 (anyOf S base) f args h = _
    unfold callAt
    rw [if_neg (fun q => hn.1 q.1)]
    exact anyOf_other hn.2

theorem anyOf_at : ∀ {S : List (FuncId × List Value × AH × Value × AH)} {base : CallF}, apart (S.map (·.1)) = true → ∀ p ∈ S, anyOf S base p.1 p.2.1 p.2.2.1 = some (p.2.2.2.1, p.2.2.2.2)
  | [], _, _, p, hp => by cases hp
  | (f0, args0, h0, v0, h1) :: S, base, ha, p, hp => by
    simp only [List.map_cons, apart, Bool.and_eq_true] at ha
    show callAt f0 args0 h0 v0 h1 (anyOf S base) p.1 p.2.1 p.2.2.1 = _
    rcases List.mem_cons.1 hp with rfl | hp
    · simp only [callAt, and_self, if_true]
    · unfold callAt
      have hne : p.1 ≠ f0 := fun e => notIn_mem ha.1 (e ▸ List.mem_map_of_mem (f := (·.1)) hp)
      rw [if_neg (fun q => hne q.1)]
      exact anyOf_at ha.2 p hp

theorem anyOf_ok : ∀ {S : List (FuncId × List Value × AH × Value × AH)} {base : CallF}, CallOk P base → (∀ p ∈ S, Says P p.2.2.1 p.1 p.2.1 p.2.2.2.1 p.2.2.2.2) → CallOk P (anyOf S base)
  | [], _, hb, _ => hb
  | (f0, args0, h0, v0, h1) :: S, base, hb, hs => callAt_ok (anyOf_ok hb fun p hp => hs p (List.mem_cons_of_mem _ hp)) (hs _ List.mem_cons_self)

theorem told_says {call : CallF} {c : Code} {af : AF} {ov : List Via} : ∀ {l : List Via}, OblV P call c af ov l → ∀ p ∈ told P call c af ov l, Says P p.2.2.1 p.1 p.2.1 p.2.2.2.1 p.2.2.2.2
  | [], _, p, hp => by cases hp
  | e :: l, h, p, hp => by
    obtain ⟨h1, h2⟩ := h
    unfold told at hp
    unfold Shown at h1
    split at hp
    · rename_i f args hw
      rw [hw] at h1
      rcases List.mem_cons.1 hp with rfl | hp
      · exact h1.2
      · exact told_says h2 p hp
    · exact told_says h2 p hp

theorem told_mem {call : CallF} {c : Code} {af : AF} {ov : List Via} {f : FuncId} {args : List Value} : ∀ {l : List Via} {e : Via}, e ∈ l → e.who = some (f, args) → (f, args, (preV P call c ov af e.no).h, e.v, hOr (preV P call c ov af e.no).h e.h) ∈ told P call c af ov l
  | x :: l, e, he, hw => by
    unfold told
    rcases List.mem_cons.1 he with rfl | he
    · rw [hw]; exact List.mem_cons_self
    · split
      · exact List.mem_cons_of_mem _ (told_mem he hw)
      · exact told_mem he hw

theorem opsV_opsL {call : CallF} {c : Code} {af : AF} {ov : List Via} (ha : apart (foes ov) = true) (ob : OblV P call c af ov ov) : ∀ (m : Nat) (b : AF), opsV P call (regOps c) ov (foes ov) 0 ((regOps c).toList.take m) af = some b →
    (opsL P (anyOf (told P call c af ov ov) call) (regOps c) ((regOps c).toList.take m) af).map (·.1) = some b
  | 0, b, h => by simpa [opsV, opsL] using h
  | m + 1, b, h => by
    by_cases hm : m < (regOps c).toList.length
    · have et : (regOps c).toList.take (m + 1) = (regOps c).toList.take m ++ [(regOps c).toList[m]] := by rw [List.take_succ_eq_append_getElem hm]
      rw [et] at h ⊢
      rw [opsV_app, Nat.zero_add, List.length_take, Nat.min_eq_left (Nat.le_of_lt hm)] at h
      cases hb : opsV P call (regOps c) ov (foes ov) 0 ((regOps c).toList.take m) af with
      | none => rw [hb] at h; cases h
      | some b0 =>
        rw [hb] at h
        simp only [Option.bind_some] at h
        refine opsL_app _ _ af b0 b (opsV_opsL ha ob m b0 hb) ?_
        have hpre : preV P call c ov af m = b0 := by unfold preV; rw [hb]; rfl
        have hop : opAt c m = (regOps c).toList[m] := by
          unfold opAt
          rw [Array.getD_eq_getD_getElem?, ← Array.getElem?_toList, List.getElem?_eq_getElem hm]
          rfl
        generalize ho : (regOps c).toList[m] = o at h hop ⊢
        simp only [opsV] at h
        simp only [opsL]
        cases hw : wantedA (regOps c) b0.tm o with
        | none => rw [hw] at h; cases h
        | some w =>
          rw [hw] at h
          cases w with
          | false =>
            simp only [Option.some.injEq] at h
            simp only [Option.map_some, h]
          | true =>
            simp only at h ⊢
            have fin : ∀ v h', stepA P (anyOf (told P call c af ov ov) call) (evalA b0.tm) o.op b0.h = some (v, h') → b0.put o.dst v h' = b →
                Option.map (·.1) (match stepA P (anyOf (told P call c af ov ov) call) (evalA b0.tm) o.op b0.h with
                  | some (v, h) => some (b0.put o.dst v h, [b0, b0.put o.dst v h])
                  | none => none) = some b := by
              intro v h' e1 e2
              rw [e1]
              simp only [Option.map_some, e2]
            cases hv : viaAt ov m with
            | some e =>
              rw [hv] at h
              simp only [Option.some.injEq] at h
              obtain ⟨hmem, hno⟩ := viaAt_mem hv
              have hs := oblV_at ob e hmem
              rw [hno, hpre, hop] at hs
              refine fin e.v (hOr b0.h e.h) ?_ h
              unfold Shown at hs
              cases hwho : e.who with
              | none =>
                rw [hwho] at hs
                unfold stepA
                rw [hs.1]
                exact hs.2
              | some p =>
                obtain ⟨f, args⟩ := p
                rw [hwho] at hs
                obtain ⟨⟨cc, q1, q2⟩, _⟩ := hs
                have hmt := told_mem (P := P) (call := call) (c := c) (af := af) (ov := ov) hmem hwho
                rw [hno, hpre] at hmt
                have := anyOf_at (S := told P call c af ov ov) (base := call) (by rw [told_ids]; exact ha) _ hmt
                unfold stepA
                rw [q1]
                simp only [q2]
                exact this
            | none =>
              rw [hv] at h
              simp only at h
              cases hcl : clear (foes ov) (evalA b0.tm) o.op with
              | false => rw [hcl] at h; cases h
              | true =>
                rw [hcl] at h
                simp only at h
                cases hst : stepA P call (evalA b0.tm) o.op b0.h with
                | none => rw [hst] at h; cases h
                | some r =>
                  obtain ⟨v, h'⟩ := r
                  rw [hst] at h
                  simp only [Option.some.injEq] at h
                  refine fin v h' ?_ h
                  rw [← hst]
                  unfold stepA
                  unfold clear at hcl
                  cases hco : callOp? o.op with
                  | none => rfl
                  | some cc =>
                    rw [hco] at hcl
                    simp only at hcl ⊢
                    cases hce : callee? (evalA b0.tm) cc with
                    | none => rfl
                    | some q =>
                      obtain ⟨f, args⟩ := q
                      rw [hce] at hcl
                      simp only at hcl ⊢
                      exact anyOf_other (by rw [told_ids]; exact notIn_mem hcl)
    · have et : ∀ j, (regOps c).toList.length ≤ j → (regOps c).toList.take j = (regOps c).toList := fun j hj => List.take_of_length_le hj
      rw [et (m + 1) (by omega), ← et m (by omega)] at h ⊢
      exact opsV_opsL ha ob m b h

/-! ### Rules that read the code's shape -/
def regGood (P : Program) : Code → Bool
  | .region _ _ false => true
  | .region _ ops true => (dynPairs P ops (masks ops.toList [])).isEmpty && statOk ops (masks ops.toList [])
  | _ => false
def within : Code → Code
  | .block _ b => b
  | .loop b => b
  | c => c
def elseOf : Code → Code
  | .cond _ _ e => e
  | c => c
def isSeq : Code → Bool
  | .seq _ _ => true
  | _ => false
def isLoop : Code → Bool
  | .loop _ => true
  | _ => false
def blockNo : Code → Option Nat
  | .block i _ => some i
  | _ => none
def condVal (af : AF) : Code → Option Value
  | .cond x _ _ => evalA af.tm x
  | _ => none
/-- What ends at once. -/
def endNow : Code → Option AExit
  | .skip => some .normal
  | .exit i => some (.exit i)
  | .ret => some .ret
  | _ => none

theorem Runs.rg (hm : P.follows .mixedOrders = true) {call : CallF} (hc : CallOk P call) {k : Nat} {c : Code} {af : AF} {Q : AExit → AF → Prop} (ov : List Via) (hk : Nat.ble k af.h.next = true)
    (hg : (regGood P c && apart (foes ov)) = true) (hs : (endV P call c ov af).isSome = true) (ob : OblV P call c af ov ov) (q : Q .normal (aftV P call c ov af)) : Runs P k c af Q := by
  rw [Bool.and_eq_true] at hg
  have hle := Nat.le_of_ble_eq_true hk
  have hend : endV P call c ov af = some (aftV P call c ov af) := by
    unfold aftV
    cases h : endV P call c ov af with
    | none => rw [h] at hs; cases hs
    | some b => rfl
  have hL : (opsL P (anyOf (told P call c af ov ov) call) (regOps c) (regOps c).toList af).map (·.1) = some (aftV P call c ov af) := by
    have := opsV_opsL hg.2 ob (regOps c).toList.length (aftV P call c ov af)
    rw [List.take_length] at this
    exact this hend
  have hcall := anyOf_ok hc (told_says ob)
  cases c with
  | region id ops dr =>
    cases dr with
    | false => exact Runs.regionL hm hcall hle hL q
    | true =>
      have h1 := hg.1
      simp only [regGood, Bool.and_eq_true, List.isEmpty_iff] at h1
      exact Runs.regionD0 hm hcall hle hL h1.1 h1.2 q
  | _ => cases hg.1

theorem Runs.sq {k : Nat} {c : Code} {af : AF} {Q : AExit → AF → Prop} (hsq : isSeq c = true) (h : Runs P k (hd c) af (andThen (fun a => Runs P k (tl c) a Q) Q)) : Runs P k c af Q := by
  cases c with
  | seq a b => exact Runs.seq h
  | _ => cases hsq

/-- A part that is a region, and on. -/
theorem Runs.sqR (hm : P.follows .mixedOrders = true) {call : CallF} (hc : CallOk P call) {k : Nat} {c : Code} {af : AF} {Q : AExit → AF → Prop} (ov : List Via) (hk : Nat.ble k af.h.next = true)
    (hg : (isSeq c && (regGood P (hd c) && apart (foes ov))) = true) (hs : (endV P call (hd c) ov af).isSome = true) (ob : OblV P call (hd c) af ov ov) (q : Runs P k (tl c) (aftV P call (hd c) ov af) Q) : Runs P k c af Q := by
  rw [Bool.and_eq_true] at hg
  exact Runs.sq hg.1 (Runs.rg hm hc ov hk hg.2 hs ob q)

theorem Runs.bk {k id : Nat} {c : Code} {af : AF} {Q : AExit → AF → Prop} (hb : blockNo c = some id) (h : Runs P k (within c) af (caught id Q)) : Runs P k c af Q := by
  cases c with
  | block i b => cases hb; exact Runs.block h
  | _ => cases hb

theorem Runs.lp {k : Nat} {c : Code} {af : AF} {Q : AExit → AF → Prop} (hl : isLoop c = true) (h : Runs P k (within c) af (andThen (fun a => Runs P k c a Q) Q)) : Runs P k c af Q := by
  cases c with
  | loop b => exact Runs.loop h
  | _ => cases hl

theorem Runs.cd {k : Nat} {c : Code} {af : AF} {Q : AExit → AF → Prop} {b : Bool} (hx : condVal af c = some (.bool b)) (ht : b = true → Runs P k (thenOf c) af Q) (hf : b = false → Runs P k (elseOf c) af Q) : Runs P k c af Q := by
  cases c with
  | cond x t e => exact Runs.cond hx ht hf
  | _ => cases hx

theorem Runs.now {k : Nat} {c : Code} {af : AF} {Q : AExit → AF → Prop} {x : AExit} (he : endNow c = some x) (q : Q x af) : Runs P k c af Q := by
  cases c with
  | skip => cases he; exact Runs.skip q
  | exit i => cases he; exact Runs.exit q
  | ret => cases he; exact Runs.ret q
  | _ => cases he

/-! ### Told steps -/
/-- What an index reaches: object, offset, number of elements, index, size of one. -/
def idxIn (P : Program) (a : AF) (o : Oper) : Option (Nat × Nat × Nat × Nat × Nat) :=
  match o.op with
  | .indexAddr t x y => match evalA a.tm x, evalA a.tm y, P.underlying t with
    | some (.slice (some ⟨g, off, sp⟩) n _), some (.int _ (.ofNat i)), some (.slice e) => match P.info? e with
      | some info => some (g, off, n, i, info.size)
      | none => none
    | _, _, _ => none
  | _ => none

theorem shown_idx {a : AF} {o : Oper} {j g off n i sz : Nat} (h : idxIn P a o = some (g, off, n, i, sz)) (hlt : i < n) : Shown P a o (viaV j (.pointer (some ⟨g, off + i * sz, none⟩))) := by
  unfold idxIn at h
  split at h
  · rename_i t x y hop
    split at h
    · rename_i g' off' sp n' c' kd i' e hx hy ht
      split at h
      · rename_i info hi
        simp only [Option.some.injEq, Prod.mk.injEq] at h
        obtain ⟨rfl, rfl, rfl, rfl, rfl⟩ := h
        refine ⟨by rw [hop]; rfl, ?_⟩
        have := idx_step (P := P) (call := fun _ _ _ => none) (h := a.h) hx hy hlt ht hi
        rw [hop]
        simpa [stepA, callOp?, viaV, hOr] using this
      · cases h
    · cases h
  · cases h

/-- What a load reads: object, offset, number of cells, and whether these are one value. -/
def loadIn (P : Program) (a : AF) (o : Oper) : Option (Nat × Nat × Nat × Bool) :=
  match o.op with
  | .load t x => match evalA a.tm x, P.info? t, P.underlying t with
    | some (.pointer (some ⟨g, off, none⟩)), some info, some d => some (g, off, info.size, isAggD d)
    | _, _, _ => none
  | _ => none

theorem shown_agg {a : AF} {o : Oper} {j g off sz : Nat} {l : List Value} (h : loadIn P a o = some (g, off, sz, true)) (hr : rowAt? a.h g off sz = some l) : Shown P a o (viaV j (.agg l.toArray)) := by
  unfold loadIn at h
  split at h
  · rename_i t x hop
    split at h
    · rename_i g' off' info d hx hi ht
      simp only [Option.some.injEq, Prod.mk.injEq] at h
      obtain ⟨rfl, rfl, rfl, hd⟩ := h
      refine ⟨by rw [hop]; rfl, ?_⟩
      have := load_step (P := P) (call := fun _ _ _ => none) (h := a.h) hx hi ht hd hr
      rw [hop]
      simpa [stepA, callOp?, viaV, hOr] using this
    · cases h
  · cases h

theorem shown_cell {a : AF} {o : Oper} {j g off : Nat} {v : Value} (h : loadIn P a o = some (g, off, 1, false)) (hr : rowAt? a.h g off 1 = some [v]) : Shown P a o (viaV j v) := by
  unfold loadIn at h
  split at h
  · rename_i t x hop
    split at h
    · rename_i g' off' info d hx hi ht
      simp only [Option.some.injEq, Prod.mk.injEq] at h
      obtain ⟨rfl, rfl, _, hd⟩ := h
      refine ⟨by rw [hop]; rfl, ?_⟩
      rw [hop]
      show opA P (evalA a.tm) (.load t x) a.h = some (v, a.h)
      simp only [opA, hx, loadA, hi, ht, hd, Bool.false_eq_true, if_false, hr, Option.map_some]
    · cases h
  · cases h

/-- A call by its contract. -/
def callIn (a : AF) (o : Oper) : Option (FuncId × List Value) :=
  match callOp? o.op with
  | some c => callee? (evalA a.tm) c
  | none => none

theorem shown_call {a : AF} {o : Oper} {j : Nat} {f : FuncId} {args : List Value} {v : Value} (h : callIn a o = some (f, args)) (hs : Says P a.h f args v a.h) : Shown P a o (viaC j f args v) := by
  unfold callIn at h
  split at h
  · rename_i c hc
    exact ⟨⟨c, hc, h⟩, hs⟩
  · cases h

theorem shown_callH {a : AF} {o : Oper} {j : Nat} {f : FuncId} {args : List Value} {v : Value} {h1 : AH} (h : callIn a o = some (f, args)) (hs : Says P a.h f args v h1) : Shown P a o (viaH j f args v h1) := by
  unfold callIn at h
  split at h
  · rename_i c hc
    exact ⟨⟨c, hc, h⟩, hs⟩
  · cases h

/-- The same where the heap is known by an equation. -/
theorem shown_callE {a : AF} {o : Oper} {j : Nat} {f : FuncId} {args : List Value} {v : Value} {h0 : AH} (h : callIn a o = some (f, args)) (ha : a.h = h0) (hs : Says P h0 f args v h0) : Shown P a o (viaC j f args v) :=
  shown_call h (by rw [ha]; exact hs)
theorem shown_callHE {a : AF} {o : Oper} {j : Nat} {f : FuncId} {args : List Value} {v : Value} {h0 h1 : AH} (h : callIn a o = some (f, args)) (ha : a.h = h0) (hs : Says P h0 f args v h1) : Shown P a o (viaH j f args v h1) :=
  shown_callH h (by rw [ha]; exact hs)

/-- A step whose value is equal to another one. -/
theorem shown_eq {a : AF} {o : Oper} {j : Nat} {v w : Value} (hc : callOp? o.op = none) (h : opA P (evalA a.tm) o.op a.h = some (v, a.h)) (e : v = w) : Shown P a o (viaV j w) := by
  subst e
  exact ⟨hc, h⟩
end
end Go.R

/- A call that looks at given objects and answers with a new row of plain cells, told from any heap. -/
namespace Go.R
set_option linter.unusedVariables false
set_option linter.unusedSimpArgs false
open Go Go.RowKit
noncomputable section
variable {P : Program}

/-- The answer is a slice over a whole new row; the given objects stand as they did. -/
def IsNew (k s n : Nat) (cells : List Value) (ty : Option TypeId) (h : AH) (v' : Value) (h' : AH) : Prop :=
  ∃ i par, k ≤ i ∧ (∀ j, j < k → j ∉ par) ∧ v' = .slice (some ⟨i, 0, some (s + 1)⟩) n n ∧ h'.get i = .cells cells true par ty ∧ ∀ j, j < k → h'.get j = h.get j

theorem fresh_from {k s n : Nat} {f : FuncId} {args cells : List Value} {ty : Option TypeId} {hc h : AH} (L : Local P k f args hc (IsNew k s n cells ty h))
    (hn : hc.next = k) (hle : k ≤ h.next) (same : ∀ i, i < k → hc.get i = h.get i) (ca : ∀ v ∈ args, Clo k v) (c1 : ∀ i, i < k → CloO k (h.get i)) (cc : ∀ v ∈ cells, plainV v = true) :
    Says P h f args (.slice (some ⟨h.next, 0, some (s + 1)⟩) n n) (h.new (.cells cells true [] ty)).2 := by
  intro F w0 μ w args' H hl
  have S := H.small hn same c1
  refine (L _ w _ w args' S (clo_list ca hl)).mono fun v' w' ⟨u, h', ⟨i, par, hki, hpar, eu, hi, roots⟩, μ1, hv, H', K⟩ => ?_
  subst eu
  obtain ⟨b, z, ee, c', hm, q1, q2, q3, rfl⟩ := hv.sliceU_inv
  have eqμ : ∀ i, i < k → μ1 i = μ i := fun i hi => (K i hi).1.trans (cut_lt hi)
  have subμ : Sub (μ1.cut k) μ := fun i p hi => by
    obtain ⟨hlt, hm⟩ := cut_some hi
    rw [← eqμ i hlt]; exact hm
  have hob := H'.obj i b z ee hm
  rw [hi] at hob
  have hfree : ¬ Rest F k μ h b := H'.own i b z ee hm (by rw [hi]; rfl)
  have keepB : ∀ b, Rest F k μ h b → w'.heap[b]? = w.heap[b]? := fun b hb => (H'.fr b hb).2
  have old : ∀ j b z e, k ≤ j → μ j = some (b, z, e) → h.get j ≠ .dead → Rest F k μ h b := fun j b z e hk hm hd => .inr ⟨j, z, e, hk, hm, hd⟩
  have hnone : μ h.next = none := H.none_next (Nat.le_refl _)
  have hsub : Sub μ (μ.add h.next (b, z, ee)) := Mp.add_sub hnone
  have get_old : ∀ j, j ≠ h.next → (h.new (.cells cells true [] ty)).2.get j = h.get j := fun j hj => by rw [AH.get_new, if_neg hj]
  have get_new' : (h.new (.cells cells true [] ty)).2.get h.next = .cells cells true [] ty := by rw [AH.get_new, if_pos rfl]
  have add_inv : ∀ {j p}, μ.add h.next (b, z, ee) j = some p → (j = h.next ∧ p = (b, z, ee)) ∨ (j ≠ h.next ∧ μ j = some p) := by
    intro j p hj
    unfold Mp.add at hj
    split at hj
    · rename_i e1; cases hj; exact .inl ⟨e1, rfl⟩
    · rename_i e1; exact .inr ⟨e1, hj⟩
  have hob' : OR (μ.add h.next (b, z, ee)) (.cells cells true [] ty) b z ee w' := by
    obtain ⟨cs, el, fr, h1, h2, h3, h4, h5⟩ := hob
    refine ⟨cs, el, fr, h1, h2, h3, fun k v hk => ?_, h5⟩
    obtain ⟨v', g1, g2⟩ := h4 k v hk
    have hp := cc v (List.mem_of_getElem? hk)
    exact ⟨v', g1, by rw [plain_same g2 hp]; exact .plain hp⟩
  -- an old object in the new one's block is gone
  have newold : ∀ j zj ej, j ≠ h.next → μ j = some (b, zj, ej) → h.get j = .dead := by
    intro j zj ej hne hj
    by_cases hd : h.get j = .dead
    · exact hd
    · by_cases hjk : j < k
      · have s := H'.sep i j b z ee zj ej (by omega) hm ((eqμ j hjk).trans hj)
        rw [hi, roots j hjk] at s
        rcases s with s | s | s
        · cases hx : h.get j with
          | cells c l p t =>
            rw [hx] at s
            cases l with
            | false => exact absurd s.1 (hpar j hjk)
            | true => exact s.elim
          | dead => rfl
          | map es => rw [hx] at s; exact s.elim
          | str _ _ => rw [hx] at s; exact s.elim
          | ghost _ => rw [hx] at s; exact s.elim
        · cases hx : h.get j with
          | cells c l p t =>
            rw [hx] at s
            cases l <;> exact s.elim
          | dead => rfl
          | map es => rw [hx] at s; exact s.elim
          | str _ _ => rw [hx] at s; exact s.elim
          | ghost _ => rw [hx] at s; exact s.elim
        · cases s.1
      · exact absurd (old j b zj ej (by omega) hj hd) hfree
  refine ⟨μ.add h.next (b, z, ee), ?_, ⟨fun j p hj => ?_, fun j b' z' e' hj => ?_, fun j b' z' e' hj hw => ?_, fun j kk b' zj ej zk ek hne hj hk => ?_, fun j c l p ty' hj hg kk hk => ?_,
    H'.os.trans H.os, H'.tape.trans H.tape, H'.output.trans H.output, Nat.le_trans H.size H'.size, fun b' hb => ?_⟩, ⟨hsub, by simp, fun j hj hm' => ?_⟩⟩
  · exact VR.sliceU (μ := μ.add h.next (b, z, ee)) (i := h.next) (o := 0) (n := n) (c := n) (c' := c') (s := s) (b := b) (z := z) (e := ee) (by simp [Mp.add]) q1 q2 q3
  · rcases add_inv hj with ⟨rfl, _⟩ | ⟨_, hj⟩
    · simp
    · have := H.dom j p hj; simp; omega
  · rcases add_inv hj with ⟨rfl, e1⟩ | ⟨hne, hj⟩
    · cases e1; rw [get_new']; exact hob'
    · rw [get_old j hne]
      by_cases hjk : j < k
      · have := H'.obj j b' z' e' ((eqμ j hjk).trans hj)
        rw [roots j hjk] at this
        exact ((this.cut (c1 j hjk)).mono subμ).mono hsub
      · by_cases hd : h.get j = .dead
        · rw [hd]; trivial
        · exact ((H.obj j b' z' e' hj).mono hsub).world (keepB b' (old j b' z' e' (by omega) hj hd))
  · rcases add_inv hj with ⟨rfl, e1⟩ | ⟨hne, hj⟩
    · cases e1; exact fun hF => hfree (.inl hF)
    · rw [get_old j hne] at hw; exact H.own j b' z' e' hj hw
  · rcases add_inv hj with ⟨rfl, e1⟩ | ⟨hne1, hj⟩
    · cases e1
      rcases add_inv hk with ⟨rfl, _⟩ | ⟨hne2, hk⟩
      · exact absurd rfl hne
      · rw [get_old kk hne2, newold kk zk ek hne2 hk]; exact .inr (.inl (by unfold share; trivial))
    · rcases add_inv hk with ⟨rfl, e1⟩ | ⟨hne2, hk⟩
      · cases e1
        rw [get_old j hne1, newold j zj ej hne1 hj]; exact .inl (by unfold share; trivial)
      · rw [get_old j hne1, get_old kk hne2]; exact H.sep j kk b' zj ej zk ek hne hj hk
  · by_cases e1 : j = h.next
    · subst e1; rw [get_new'] at hg; cases hg; cases hk
    · rw [get_old j e1] at hg
      have hj' : μ j ≠ none := by
        unfold Mp.add at hj; rw [if_neg e1] at hj; exact hj
      have := H.par j c l p ty' hj' hg kk hk
      intro hn
      unfold Mp.add at hn
      split at hn
      · cases hn
      · exact this hn
  · have h1 := H'.fr b' (.inl hb)
    have h2 := H.fr b' hb
    exact ⟨h2.1, h1.2.trans h2.2⟩
  · have hne : j ≠ h.next := by omega
    refine ⟨by unfold Mp.add; rw [if_neg hne]; exact hm', get_old j hne⟩
end
end Go.R

/- A call that only reads a row, told at a slice over a part of a live row. -/
namespace Go.R
set_option linter.unusedVariables false
set_option linter.unusedSimpArgs false
open Go Go.RowKit
noncomputable section
variable {P : Program}

theorem read_says {fid : FuncId} {x0 : Value} {i o n s : Nat} {c cells : List Value} {lv : Bool} {par : List Nat} {ty : Option TypeId} {h : AH} {v : Value} {R : Value → AH → Prop}
    (hg : h.get i = .cells c lv par ty) (hsub : ∀ (k : Nat) u, cells[k]? = some u → c[o + k]? = some u) (hlen : cells.length ≤ n * (s + 1)) (hpl : ∀ u ∈ cells, plainV u = true)
    (L : ∀ cap, n ≤ cap → Local P 1 fid [x0, .slice (some ⟨0, 0, none⟩) n cap] (hp [.cells cells false [] none]) R) (hR : ∀ v' h', R v' h' → v' = v)
    (p0 : plainV x0 = true) (fv : flatV v = true) : Says P h fid [x0, .slice (some ⟨i, o, some (s + 1)⟩) n n] v h := by
  intro F w0 μ w args' H hl
  obtain ⟨y0, y1, ea, hy0, hy1⟩ := hl.two rfl
  obtain ⟨b, z, e, c', hm, q1, q2, q3, rfl⟩ := hy1.sliceU_inv
  have hob := H.obj i b z e hm
  rw [hg] at hob
  obtain ⟨cs, el, fr, h1, h2, h3, h4, h5⟩ := hob
  have hle : n * (s + 1) ≤ c' * (s + 1) := Nat.mul_le_mul_right _ q2
  let μ1 : Mp := fun j => if j = 0 then some (b, z + o, z + o + cells.length) else none
  have m0 : μ1 0 = some (b, z + o, z + o + cells.length) := rfl
  have mi : ∀ {j p}, μ1 j = some p → j = 0 ∧ p = (b, z + o, z + o + cells.length) := by
    intro j p hj
    by_cases h0 : j = 0
    · subst h0; exact ⟨rfl, (Option.some.inj hj).symm⟩
    · have : μ1 j = none := if_neg h0
      rw [this] at hj; cases hj
  have g0 : (hp [.cells cells false [] none]).get 0 = .cells cells false [] none := hp_get _ 0 _ rfl
  have H1 : HR (fun b => b < w.heap.size) w μ1 (hp [.cells cells false [] none]) w := by
    refine ⟨fun j p hj => ?_, fun j b' z' e' hj => ?_, fun j b' z' e' hj hw => ?_, fun j k b' zi ei zj ej hne hj hk => ?_, fun j cc l p ty' hj hg' k hk => ?_, rfl, rfl, rfl, Nat.le_refl _, fun b hb => ⟨hb, rfl⟩⟩
    · rw [(mi hj).1, hp_next]; exact Nat.zero_lt_one
    · obtain ⟨rfl, h2'⟩ := mi hj
      cases h2'
      rw [g0]
      refine ⟨cs, el, fr, h1, Nat.le_refl _, by omega, fun k u hk => ?_, fun h => (by cases h), fun t h => (by cases h)⟩
      obtain ⟨u', g1, g2⟩ := h4 (o + k) u (hsub k u hk)
      have hp := hpl u (List.mem_of_getElem? hk)
      rw [plain_same g2 hp, ← Nat.add_assoc] at g1
      exact ⟨u, g1, .plain hp⟩
    · obtain ⟨rfl, _⟩ := mi hj
      rw [g0] at hw; cases hw
    · exact absurd ((mi hj).1.trans (mi hk).1.symm) hne
    · have : j = 0 := by
        by_cases h0 : j = 0
        · exact h0
        · exact absurd (if_neg h0) hj
      subst this
      rw [g0] at hg'
      cases hg'
      cases hk
  have hl1 : LR μ1 [x0, .slice (some ⟨0, 0, none⟩) n c'] args'.toList := by
    rw [ea, plain_same hy0 p0]
    exact LR.cons (.plain p0) (LR.cons (VR.slice (μ := μ1) (i := 0) (o := 0) m0) LR.nil)
  refine (L c' q2 _ w μ1 w args' H1 hl1).mono fun v' w' ⟨u, h', r, μ', hv, H', K⟩ => ?_
  have eu := hR u h' r
  subst eu
  have keepB : ∀ b, b < w.heap.size → w'.heap[b]? = w.heap[b]? := fun b hb => (H'.fr b hb).2
  refine ⟨μ, flat_any hv fv, ⟨H.dom, fun j b' z' e' hj => ?_, H.own, H.sep, H.par, H'.os.trans H.os, H'.tape.trans H.tape, H'.output.trans H.output, Nat.le_trans H.size H'.size, fun b' hb => ?_⟩, ⟨Sub.refl μ, Nat.le_refl _, fun j hj hm' => ⟨hm', rfl⟩⟩⟩
  · by_cases hd : h.get j = .dead
    · rw [hd]; trivial
    · exact (H.obj j b' z' e' hj).world (keepB b' (H.inb hj hd))
  · have q := H.fr b' hb
    exact ⟨q.1, (keepB b' (Nat.lt_of_lt_of_le q.1 H.size)).trans q.2⟩
end
end Go.R

/- Regions in drawn order with told steps, where what looks at the heap may come to stand elsewhere. -/
namespace Go.R
set_option linter.unusedVariables false
set_option linter.unusedSimpArgs false
open Go Go.RowKit
noncomputable section
variable {P : Program}

/-- What stands ahead of each operation. -/
theorem opsL_states {call : CallF} {ops : Array Oper} : ∀ (l : List Oper) (a a' : AF) (hs : List AF), opsL P call ops l a = some (a', hs) → ∀ i, i ≤ l.length → ∃ ai, hs[i]? = some ai ∧ (opsL P call ops (l.take i) a).map (·.1) = some ai
  | [], a, a', hs, he, i, hi => by
    simp only [opsL, Option.some.injEq, Prod.mk.injEq] at he
    obtain ⟨rfl, rfl⟩ := he
    have : i = 0 := by simpa using hi
    subst this
    exact ⟨a, rfl, rfl⟩
  | o :: l, a, a', hs, he, i, hi => by
    simp only [opsL] at he
    cases hw : wantedA ops a.tm o with
    | none => rw [hw] at he; cases he
    | some w =>
      rw [hw] at he
      have go : ∀ (b : AF) (r : Option (AF × List AF)), opsL P call ops l b = r → (match r with | some (a', hs) => some (a', a :: hs) | none => none) = some (a', hs) →
          (∀ k, opsL P call ops ((o :: l).take (k + 1)) a = match opsL P call ops (l.take k) b with | some (a', hs) => some (a', a :: hs) | none => none) →
          ∃ ai, hs[i]? = some ai ∧ (opsL P call ops ((o :: l).take i) a).map (·.1) = some ai := by
        intro b r hr e1 e2
        cases r with
        | none => cases e1
        | some p =>
          obtain ⟨a2, hs2⟩ := p
          simp only [Option.some.injEq, Prod.mk.injEq] at e1
          obtain ⟨rfl, rfl⟩ := e1
          cases i with
          | zero => exact ⟨a, rfl, rfl⟩
          | succ k =>
            obtain ⟨ai, q1, q2⟩ := opsL_states l b a2 hs2 hr k (by simpa using hi)
            refine ⟨ai, by simpa using q1, ?_⟩
            rw [e2 k]
            cases hk : opsL P call ops (l.take k) b with
            | none => rw [hk] at q2; cases q2
            | some p => rw [hk] at q2; exact q2
      cases w with
      | false =>
        simp only at he
        exact go (a.put o.dst undef a.h) _ rfl he fun k => by
          simp only [List.take_succ_cons, opsL, hw]
          cases opsL P call ops (List.take k l) (a.put o.dst undef a.h) <;> rfl
      | true =>
        simp only at he
        cases hst : stepA P call (evalA a.tm) o.op a.h with
        | none => rw [hst] at he; cases he
        | some r =>
          obtain ⟨v, h⟩ := r
          rw [hst] at he
          exact go (a.put o.dst v h) _ rfl he fun k => by
            simp only [List.take_succ_cons, opsL, hw, hst]
            cases opsL P call ops (List.take k l) (a.put o.dst v h) <;> rfl

def DynAt (P : Program) (call : CallF) (c : Code) (ov : List Via) (af : AF) (q : Nat × Nat) : Prop :=
  ∃ v h2, opA P (evalA (preV P call c ov af q.1).tm) (opAt c q.1).op (preV P call c ov af q.2).h = some (v, h2) ∧ ∀ d, (opAt c q.1).dst = some d → (preV P call c ov af (q.1 + 1)).tm.get d = some v

def DynL (P : Program) (call : CallF) (c : Code) (ov : List Via) (af : AF) : List (Nat × Nat) → Prop
  | [] => True
  | q :: l => DynAt P call c ov af q ∧ DynL P call c ov af l
theorem dynN {call : CallF} {c : Code} {af : AF} {ov : List Via} : DynL P call c ov af [] := trivial
theorem dynC {call : CallF} {c : Code} {af : AF} {ov : List Via} {q : Nat × Nat} {l : List (Nat × Nat)} (h : DynAt P call c ov af q) (t : DynL P call c ov af l) : DynL P call c ov af (q :: l) := ⟨h, t⟩
theorem dynL_at {call : CallF} {c : Code} {af : AF} {ov : List Via} : ∀ {l : List (Nat × Nat)}, DynL P call c ov af l → ∀ q ∈ l, DynAt P call c ov af q
  | q :: l, h, x, hx => by
    rcases List.mem_cons.1 hx with rfl | hx
    · exact h.1
    · exact dynL_at h.2 x hx

/-- Within the region: the pairs stand in it. -/
def pairsIn (n : Nat) : List (Nat × Nat) → Bool
  | [] => true
  | q :: l => Nat.blt q.1 n && (Nat.ble q.2 n && pairsIn n l)
theorem pairsIn_at {n : Nat} : ∀ {l : List (Nat × Nat)}, pairsIn n l = true → ∀ q ∈ l, q.1 < n ∧ q.2 ≤ n
  | q :: l, h, x, hx => by
    simp only [pairsIn, Bool.and_eq_true] at h
    rcases List.mem_cons.1 hx with rfl | hx
    · exact ⟨blt_lt h.1, Nat.le_of_ble_eq_true h.2.1⟩
    · exact pairsIn_at h.2.2 x hx

def isDrawn : Code → Bool
  | .region _ _ true => true
  | _ => false

theorem Runs.rgD (hm : P.follows .mixedOrders = true) {call : CallF} (hc : CallOk P call) {k : Nat} {c : Code} {af : AF} {Q : AExit → AF → Prop} (ov : List Via) (pairs : List (Nat × Nat)) (hk : Nat.ble k af.h.next = true)
    (hg : (isDrawn c && (statOk (regOps c) (masks (regOps c).toList []) && (pairsIn (regOps c).toList.length pairs && apart (foes ov)))) = true) (hp : dynPairs P (regOps c) (masks (regOps c).toList []) = pairs)
    (hs : (endV P call c ov af).isSome = true) (ob : OblV P call c af ov ov) (dy : DynL P call c ov af pairs) (q : Q .normal (aftV P call c ov af)) : Runs P k c af Q := by
  simp only [Bool.and_eq_true] at hg
  obtain ⟨g1, g2, g3, g4⟩ := hg
  have hle := Nat.le_of_ble_eq_true hk
  have hend : endV P call c ov af = some (aftV P call c ov af) := by
    unfold aftV
    cases h : endV P call c ov af with
    | none => rw [h] at hs; cases hs
    | some b => rfl
  have hL : (opsL P (anyOf (told P call c af ov ov) call) (regOps c) (regOps c).toList af).map (·.1) = some (aftV P call c ov af) := by
    have := opsV_opsL g4 ob (regOps c).toList.length (aftV P call c ov af)
    rw [List.take_length] at this
    exact this hend
  have hcall := anyOf_ok hc (told_says ob)
  -- each state of the listed run
  have pre : ∀ i, opsV P call (regOps c) ov (foes ov) 0 ((regOps c).toList.take i) af = some (preV P call c ov af i) := by
    intro i
    have h1 := hend
    unfold endV at h1
    rw [← List.take_append_drop i (regOps c).toList, opsV_app] at h1
    unfold preV
    cases h2 : opsV P call (regOps c) ov (foes ov) 0 ((regOps c).toList.take i) af with
    | none => rw [h2] at h1; cases h1
    | some b => rfl
  cases c with
  | region id ops dr =>
    cases dr with
    | false => cases g1
    | true =>
      intro F w0 μ a w R
      cases ho : opsL P (anyOf (told P call (.region id ops true) af ov ov) call) ops ops.toList af with
      | none =>
        have : opsL P (anyOf (told P call (.region id ops true) af ov ov) call) (regOps (.region id ops true)) (regOps (.region id ops true)).toList af = none := ho
        rw [this] at hL; cases hL
      | some r =>
        obtain ⟨b, hs'⟩ := r
        have hb : b = aftV P call (.region id ops true) ov af := by
          have : opsL P (anyOf (told P call (.region id ops true) af ov ov) call) (regOps (.region id ops true)) (regOps (.region id ops true)).toList af = some (b, hs') := ho
          rw [this] at hL
          exact Option.some.inj hL
        subst hb
        have st : ∀ i, i ≤ ops.toList.length → hs'[i]? = some (preV P call (.region id ops true) ov af i) := by
          intro i hi
          obtain ⟨ai, q1, q2⟩ := opsL_states ops.toList af _ hs' ho i hi
          have q3 := opsV_opsL g4 ob i _ (pre i)
          have q4 : (opsL P (anyOf (told P call (.region id ops true) af ov ov) call) ops (ops.toList.take i) af).map (·.1) = some (preV P call (.region id ops true) ov af i) := q3
          rw [q2] at q4
          rw [q1]
          exact q4
        have dg : ∀ x ∈ dynPairs P ops (masks ops.toList []), DynGood P ops hs' x := by
          intro x hx
          have hx' : x ∈ pairs := by rw [← hp]; exact hx
          obtain ⟨l1, l2⟩ := pairsIn_at g3 x hx'
          have l1' : x.1 < ops.toList.length := l1
          have l2' : x.2 ≤ ops.toList.length := l2
          obtain ⟨v, h2, e1, e2⟩ := dynL_at dy x hx'
          have hop : ops[x.1]? = some (opAt (.region id ops true) x.1) := by
            unfold opAt
            show ops[x.1]? = some (ops.getD x.1 default)
            rw [Array.getD_eq_getD_getElem?]
            have : x.1 < ops.size := by simpa using l1'
            rw [Array.getElem?_eq_getElem this]
            rfl
          exact ⟨_, _, _, _, hop, st x.2 l2', st x.1 (by omega), st (x.1 + 1) (by omega), .inr ⟨v, h2, e1, e2⟩⟩
        refine plan_ok hm hcall (hs := hs') ⟨traced _ _ _ _ ho, g2, dg⟩ R fun a' w' ⟨μ', r1, r2, r3⟩ => ?_
        exact ⟨.normal, _, q, trivial, r3, μ', r1, .of_ext r2 hle⟩
  | _ => cases g1

/-- A load that may come to stand elsewhere. -/
theorem dyn_agg {call : CallF} {c : Code} {ov : List Via} {af : AF} {i p g off sz d : Nat} {l : List Value} (h : loadIn P (preV P call c ov af i) (opAt c i) = some (g, off, sz, true)) (hr : rowAt? (preV P call c ov af p).h g off sz = some l)
    (hd : (opAt c i).dst = some d) (hv : (preV P call c ov af (i + 1)).tm.get d = some (.agg l.toArray)) : DynAt P call c ov af (i, p) := by
  refine ⟨.agg l.toArray, (preV P call c ov af p).h, ?_, fun d' hd' => ?_⟩
  · unfold loadIn at h
    split at h
    · rename_i t x hop
      split at h
      · rename_i g' off' info dd hx hi ht
        simp only [Option.some.injEq, Prod.mk.injEq] at h
        obtain ⟨rfl, rfl, rfl, hd2⟩ := h
        show opA P (evalA (preV P call c ov af i).tm) (opAt c i).op (preV P call c ov af p).h = _
        rw [hop]
        simp only [opA, hx, loadA, hi, ht, hd2, if_true, hr, Option.map_some]
      · cases h
    · cases h
  · rw [hd] at hd'
    cases hd'
    exact hv
end
end Go.R

/- Regions with two operations that act and that no edge parts: either of them may come first. -/
namespace Go.R
set_option linter.unusedVariables false
set_option linter.unusedSimpArgs false
open Go Go.RowKit
noncomputable section
variable {P : Program}

def simpleOp : Op → Bool
  | .move _ | .assign _ | .alloc _ | .load _ _ | .store _ _ _ | .indexAddr _ _ _ | .fieldAddr _ _ _ => true
  | _ => false

theorem simple_run {o : Oper} {ρ : Operand → Value} {w w' : World} {n : Next} (h : simpleOp o.op = true) (he : (execOp ρ o).run P w = .ok n w') : (∃ v, n = .value v) ∨ n = .skip := by
  have vv : ∀ (s : Sem Value), (do pure (Next.value (← s)) : Sem Next).run P w = .ok n w' → ∃ v, n = .value v := by
    intro s hs
    simp only [Sem.run_bind] at hs
    cases hr : s.run P w with
    | ok x w2 =>
      rw [hr] at hs
      simp only [Result.andThen_ok, Sem.run_pure] at hs
      cases hs
      exact ⟨x, rfl⟩
    | halt x w2 => rw [hr] at hs; cases hs
  have uu : ∀ (s : Sem Unit), (do s; pure Next.skip : Sem Next).run P w = .ok n w' → n = .skip := by
    intro s hs
    simp only [Sem.run_bind] at hs
    cases hr : s.run P w with
    | ok x w2 =>
      rw [hr] at hs
      simp only [Result.andThen_ok, Sem.run_pure] at hs
      cases hs
      rfl
    | halt x w2 => rw [hr] at hs; cases hs
  unfold execOp at he
  cases hop : o.op <;> rw [hop] at h he <;> simp only [simpleOp] at h <;> first | (cases h; done) | skip
  · simp only [Sem.run_pure] at he; cases he; exact .inl ⟨_, rfl⟩
  · simp only [Sem.run_pure] at he; cases he; exact .inl ⟨_, rfl⟩
  · exact .inl (vv _ he)
  · exact .inl (vv _ he)
  · exact .inr (uu _ he)
  · exact .inl (vv _ he)
  · exact .inl (vv _ he)

theorem wp_and {o : Oper} {a : Act} {w : World} {K1 K2 : Act → World → Prop} {Q : Exit → Act → World → Prop} (hs : simpleOp o.op = true) (h1 : o.wp P a w K1 Q) (h2 : o.wp P a w K2 Q) : o.wp P a w (fun a w => K1 a w ∧ K2 a w) Q := by
  unfold Oper.wp at *
  cases hr : (execOp a.eval o).run P w with
  | ok n w' =>
    rw [hr] at h1 h2
    rcases simple_run hs hr with ⟨v, rfl⟩ | rfl
    · exact ⟨h1, h2⟩
    · exact ⟨h1, h2⟩
  | halt x w' =>
    rw [hr] at h1 h2
    cases x <;> simp only [Oper.upon] at h1 h2 ⊢ <;> exact h1

theorem wpOp_and {ops : Array Oper} {Q : Exit → Act → World → Prop} {i : Nat} {o : Oper} {K1 K2 : Act → World → Prop} {a : Act} {w : World} (ho : ops[i]? = some o) (hs : simpleOp o.op = true)
    (h1 : wpOp P ops Q i K1 a w) (h2 : wpOp P ops Q i K2 a w) : wpOp P ops Q i (fun a w => K1 a w ∧ K2 a w) a w := by
  unfold wpOp at *
  simp only [ho] at h1 h2 ⊢
  split
  · rename_i hw
    simp only [hw, if_true] at h1 h2
    rcases h1 with h1 | h1
    · rcases h2 with h2 | h2
      · exact .inl (wp_and hs h1 h2)
      · exact .inr h2
    · exact .inr h1
  · rename_i hw
    simp only [hw] at h1 h2
    exact ⟨h1, h2⟩

theorem wpOp_same {ops ops' : Array Oper} {Q : Exit → Act → World → Prop} {i i' : Nat} {o : Oper} {s : Array Edge} {K : Act → World → Prop} {a : Act} {w : World} (ho : ops[i]? = some o) (hg : o.guard = none)
    (ho' : ops'[i']? = some { o with after := s }) (h : wpOp P ops' Q i' K a w) : wpOp P ops Q i K a w := by
  unfold wpOp at *
  simp only [ho, ho'] at h ⊢
  have w1 : Region.wanted o (yielded ops a.tmps) = true := by simp [Region.wanted, hg]
  have w2 : Region.wanted { o with after := s } (yielded ops' a.tmps) = true := by simp [Region.wanted, hg]
  rw [if_pos w1]
  rw [if_pos w2] at h
  exact h

/-- The operations of one region under the numbers of another, whose operation u waits for z besides. -/
structure Emb (ops ops' : Array Oper) (σ : Nat → Nat) (u z : Nat) : Prop where
  size : ops'.size = ops.size
  inv : ∀ i, σ (σ i) = i
  lt : ∀ i, i < ops.size → σ i < ops.size
  get : ∀ (i : Nat) o, ops[i]? = some o → o.guard = none ∧ simpleOp o.op = true ∧ ∃ s, ops'[σ i]? = some { o with after := s } ∧
    (∀ e ∈ s, Region.binds .any e = true → (∃ e0 ∈ o.after, Region.binds .any e0 = true ∧ e.on = σ e0.on) ∨ (i = u ∧ e.on = σ z)) ∧ (∀ e0 ∈ o.after, Region.binds .any e0 = true → ∃ e ∈ s, Region.binds .any e = true ∧ e.on = σ e0.on) ∧
    (i = u → ∃ e ∈ s, Region.binds .any e = true ∧ e.on = σ z)

def Rel (σ : Nat → Nat) (L L' : Array Bool) : Prop := ∀ j d, L'.getD (σ j) d = L.getD j d

section
variable {ops ops' : Array Oper} {σ : Nat → Nat} {u z : Nat} {L L' : Array Bool}

theorem Emb.up (E : Emb ops ops' σ u z) (R : Rel σ L L') {i : Nat} (h : i ∈ Region.ready .any ops L) (hu : i = u → Lst L z) : σ i ∈ Region.ready .any ops' L' := by
  obtain ⟨h0, o, ho, hall⟩ := mem_ready.1 h
  obtain ⟨_, _, s, ho', e1, _, _⟩ := E.get i o ho
  refine mem_ready.2 ⟨by rw [R i true]; exact h0, _, ho', fun e he hb => ?_⟩
  rcases e1 e he hb with ⟨e0, q1, q2, q3⟩ | ⟨q1, q2⟩
  · rw [q3]
    have := hall e0 q1 q2
    rw [← R] at this
    exact this
  · rw [q2]
    have := hu q1
    unfold Lst at this
    rw [← R] at this
    exact this

theorem Emb.down (E : Emb ops ops' σ u z) (R : Rel σ L L') {i : Nat} (h : i ∈ Region.ready .any ops' L') : σ i ∈ Region.ready .any ops L ∧ (σ i = u → Lst L z) := by
  obtain ⟨h0, o', ho', hall⟩ := mem_ready.1 h
  have hlt : i < ops'.size := (Array.getElem?_eq_some_iff.1 ho').1
  have hlt2 : σ i < ops.size := E.lt i (by rw [← E.size]; exact hlt)
  have ho : ops[σ i]? = some ops[σ i] := Array.getElem?_eq_getElem hlt2
  obtain ⟨_, _, s, q, _, e2, e3⟩ := E.get (σ i) _ ho
  rw [E.inv, ho'] at q
  cases q
  have back : ∀ j d, L'.getD j d = L.getD (σ j) d := fun j d => by rw [← R (σ j) d, E.inv]
  refine ⟨mem_ready.2 ⟨by rw [← back]; exact h0, _, ho, fun e he hb => ?_⟩, fun hu => ?_⟩
  · obtain ⟨e', r1, r2, r3⟩ := e2 e he hb
    have := hall e' r1 r2
    rw [r3, R] at this
    exact this
  · obtain ⟨e', r1, r2, r3⟩ := e3 hu
    have := hall e' r1 r2
    rw [r3, R] at this
    exact this

theorem Rel.set (E : Emb ops ops' σ u z) (R : Rel σ L L') (hs : L.size = ops.size) (hs' : L'.size = ops.size) {i : Nat} (hi : i < ops.size) : Rel σ (L.setIfInBounds i true) (L'.setIfInBounds (σ i) true) := by
  intro j d
  have h2 := E.lt i hi
  by_cases e : j = i
  · subst e
    simp [Array.getD_eq_getD_getElem?, Array.getElem?_setIfInBounds, hs, hs', hi, h2]
  · have e' : σ j ≠ σ i := fun h => e (by rw [← E.inv j, h, E.inv])
    have := R j d
    simp only [Array.getD_eq_getD_getElem?] at this ⊢
    rw [Array.getElem?_setIfInBounds_ne (Ne.symm e'), Array.getElem?_setIfInBounds_ne (Ne.symm e)]
    exact this

theorem Emb.run (E : Emb ops ops' σ u z) {Q : Exit → Act → World → Prop} : ∀ (m : Nat) (L L' : Array Bool) (a : Act) (w : World), Rel σ L L' → L.size = ops.size → L'.size = ops.size → Lst L z →
    wpAny P .any ops' Q m L' a w → wpAny P .any ops Q m L a w
  | 0, L, L', a, w, R, hs, hs', hz, h => by
    refine ⟨?_, h.2⟩
    apply List.eq_nil_iff_forall_not_mem.2
    intro i hi
    have := E.up R hi (fun _ => hz)
    rw [h.1] at this
    cases this
  | m + 1, L, L', a, w, R, hs, hs', hz, h => by
    refine ⟨fun hr => h.1 ?_, fun i hi => ?_⟩
    · apply List.eq_nil_iff_forall_not_mem.2
      intro i hi
      have := (E.down R hi).1
      rw [hr] at this
      cases this
    · obtain ⟨_, o, ho, _⟩ := mem_ready.1 hi
      have hlt : i < ops.size := (Array.getElem?_eq_some_iff.1 ho).1
      obtain ⟨hg, _, s, ho', _⟩ := E.get i o ho
      refine wpOp_same ho hg ho' (wpOp_mono (fun a' w' hk => ?_) (h.2 (σ i) (E.up R hi (fun _ => hz))))
      exact Emb.run E m _ _ a' w' (Rel.set E R hs hs' hlt) (by simp [hs]) (by simp [hs']) ((Lst.set (by rw [hs]; exact hlt)).2 (.inr hz)) hk
end

/-- Two of them part no edge: in one text y waits for x, in the other x waits for y. -/
theorem twin {ops opsA opsB : Array Oper} {σA σB : Nat → Nat} {x y : Nat} (hx : x < ops.size) (hy : y < ops.size) (hxy : x ≠ y) (A : Emb ops opsA σA y x) (B : Emb ops opsB σB x y) {Q : Exit → Act → World → Prop} :
    ∀ (m : Nat) (L LA LB : Array Bool) (a : Act) (w : World), Rel σA L LA → Rel σB L LB → L.size = ops.size → LA.size = ops.size → LB.size = ops.size → ¬ Lst L x → ¬ Lst L y →
    wpAny P .any opsA Q m LA a w → wpAny P .any opsB Q m LB a w → wpAny P .any ops Q m L a w
  | 0, L, LA, LB, a, w, RA, RB, hs, hA, hB, nx, ny, wA, wB => by
    refine ⟨?_, wA.2⟩
    apply List.eq_nil_iff_forall_not_mem.2
    intro i hi
    by_cases e : i = y
    · have := B.up RB hi (fun h => absurd (h.symm.trans e) hxy)
      rw [wB.1] at this
      cases this
    · have := A.up RA hi (fun h => absurd h e)
      rw [wA.1] at this
      cases this
  | m + 1, L, LA, LB, a, w, RA, RB, hs, hA, hB, nx, ny, wA, wB => by
    refine ⟨fun hr => wA.1 ?_, fun i hi => ?_⟩
    · apply List.eq_nil_iff_forall_not_mem.2
      intro i hi
      have := (A.down RA hi).1
      rw [hr] at this
      cases this
    · obtain ⟨_, o, ho, _⟩ := mem_ready.1 hi
      have hlt : i < ops.size := (Array.getElem?_eq_some_iff.1 ho).1
      obtain ⟨hg, hsim, sA, oA, _⟩ := A.get i o ho
      obtain ⟨_, _, sB, oB, _⟩ := B.get i o ho
      have goA : i ≠ y → wpOp P ops Q i (wpAny P .any opsA Q m (LA.setIfInBounds (σA i) true)) a w := fun e => wpOp_same ho hg oA (wA.2 (σA i) (A.up RA hi (fun h => absurd h e)))
      have goB : i ≠ x → wpOp P ops Q i (wpAny P .any opsB Q m (LB.setIfInBounds (σB i) true)) a w := fun e => wpOp_same ho hg oB (wB.2 (σB i) (B.up RB hi (fun h => absurd h e)))
      by_cases ex : i = x
      · refine wpOp_mono (fun a' w' hk => ?_) (goA (fun h => hxy (ex.symm.trans h)))
        exact A.run m _ _ a' w' (Rel.set A RA hs hA hlt) (by simp [hs]) (by simp [hA]) ((Lst.set (by rw [hs]; exact hlt)).2 (.inl ex.symm)) hk
      · by_cases ey : i = y
        · refine wpOp_mono (fun a' w' hk => ?_) (goB ex)
          exact B.run m _ _ a' w' (Rel.set B RB hs hB hlt) (by simp [hs]) (by simp [hB]) ((Lst.set (by rw [hs]; exact hlt)).2 (.inl ey.symm)) hk
        · refine wpOp_mono (fun a' w' hk => ?_) (wpOp_and ho hsim (goA ey) (goB ex))
          refine twin hx hy hxy A B m _ _ _ a' w' (Rel.set A RA hs hA hlt) (Rel.set B RB hs hB hlt) (by simp [hs]) (by simp [hA]) (by simp [hB]) (fun h => ?_) (fun h => ?_) hk.1 hk.2
          · rcases (Lst.set (by rw [hs]; exact hlt)).1 h with h | h
            · exact ex h.symm
            · exact nx h
          · rcases (Lst.set (by rw [hs]; exact hlt)).1 h with h | h
            · exact ey h.symm
            · exact ny h
end
end Go.R

/- Regions with two operations that no edge parts: the rule. -/
namespace Go.R
set_option linter.unusedVariables false
set_option linter.unusedSimpArgs false
open Go Go.RowKit
noncomputable section
variable {P : Program}

def edgesOn (o : Oper) : List Nat := (o.after.toList.filter fun e => Region.binds .any e).map (·.on)
def withAfter (o : Oper) (l : List Nat) : Oper := { o with after := (l.map fun j => (⟨j, .data⟩ : Edge)).toArray }
/-- The operations under other numbers; u waits for z besides. -/
def ordOf (ops : Array Oper) (σ : Nat → Nat) (u z : Nat) : Array Oper :=
  ((List.range ops.size).map fun i => withAfter (ops.getD (σ i) default) ((edgesOn (ops.getD (σ i) default)).map σ ++ if Nat.beq (σ i) u then [σ z] else [])).toArray
def allSimple (ops : Array Oper) : Bool := ops.toList.all fun o => simpleOp o.op && o.guard.isNone
def swapN (x y i : Nat) : Nat := if Nat.beq i x then y else if Nat.beq i y then x else i

theorem swapN_inv (x y i : Nat) : swapN x y (swapN x y i) = i := by
  have hb : ∀ a b : Nat, (Nat.beq a b = true) = (a = b) := fun a b => Nat.beq_eq
  unfold swapN
  simp only [hb]
  by_cases h1 : i = x
  · subst h1
    rw [if_pos rfl]
    by_cases h2 : y = i
    · rw [if_pos h2]; exact h2
    · rw [if_neg h2, if_pos rfl]
  · rw [if_neg h1]
    by_cases h2 : i = y
    · rw [if_pos h2, if_pos rfl]; exact h2.symm
    · rw [if_neg h2, if_neg h1, if_neg h2]

theorem ordOf_emb {ops : Array Oper} {σ : Nat → Nat} {u z : Nat} (hs : allSimple ops = true) (inv : ∀ i, σ (σ i) = i) (lt : ∀ i, i < ops.size → σ i < ops.size) : Emb ops (ordOf ops σ u z) σ u z where
  size := by simp [ordOf]
  inv := inv
  lt := lt
  get := fun i o ho => by
    have hlt : i < ops.size := (Array.getElem?_eq_some_iff.1 ho).1
    have hsim := List.all_eq_true.1 hs o (by rw [Array.mem_toList_iff]; exact Array.mem_of_getElem? ho)
    rw [Bool.and_eq_true] at hsim
    have hget : ops.getD (σ (σ i)) default = o := by rw [inv, Array.getD_eq_getD_getElem?, ho]; rfl
    have hb : ∀ j, Region.binds .any (⟨j, .data⟩ : Edge) = true := fun j => rfl
    refine ⟨by simpa using hsim.2, hsim.1, (((edgesOn o).map σ ++ if Nat.beq i u then [σ z] else []).map fun j => (⟨j, .data⟩ : Edge)).toArray, ?_, ?_, ?_, ?_⟩
    · unfold ordOf
      rw [List.getElem?_toArray, List.getElem?_map, List.getElem?_range (lt i hlt)]
      have hget2 : ops.getD i default = o := by rw [← inv i]; exact hget
      simp only [Option.map_some, inv, hget2]
      rfl
    · intro e he _
      simp only [List.mem_toArray, List.mem_map, List.mem_append] at he
      obtain ⟨j, hj, rfl⟩ := he
      rcases hj with ⟨k, hk, rfl⟩ | hj
      · unfold edgesOn at hk
        obtain ⟨e0, h0, rfl⟩ := List.mem_map.1 hk
        rw [List.mem_filter] at h0
        exact .inl ⟨e0, by simpa using h0.1, h0.2, rfl⟩
      · by_cases hu : Nat.beq i u = true
        · rw [if_pos hu] at hj
          exact .inr ⟨Nat.eq_of_beq_eq_true hu, List.mem_singleton.1 hj⟩
        · rw [if_neg hu] at hj; cases hj
    · intro e0 h0 hbe
      refine ⟨⟨σ e0.on, .data⟩, ?_, rfl, rfl⟩
      simp only [List.mem_toArray, List.mem_map, List.mem_append]
      refine ⟨σ e0.on, .inl ⟨e0.on, ?_, rfl⟩, rfl⟩
      unfold edgesOn
      exact List.mem_map.2 ⟨e0, List.mem_filter.2 ⟨by simpa using h0, hbe⟩, rfl⟩
    · intro hu
      refine ⟨⟨σ z, .data⟩, ?_, rfl, rfl⟩
      simp only [List.mem_toArray, List.mem_map, List.mem_append]
      refine ⟨σ z, .inr ?_, rfl⟩
      rw [if_pos (by rw [hu]; exact Nat.beq_refl u)]
      exact List.mem_singleton.2 rfl

/-- All orders of a region's operations. -/
def RunsAny (P : Program) (k : Nat) (ops : Array Oper) (af : AF) (Q : AExit → AF → Prop) : Prop :=
  ∀ (F : Nat → Prop) (w0 : World) (μ : Mp) (a : Act) (w : World), AR F w0 μ af a w → wpAny P .any ops (RunPost F w0 k μ af.h a.defers Q) ops.size (Array.replicate ops.size false) a { w with drawn := w.drawn + 1 }

theorem rel_replicate {σ : Nat → Nat} {n : Nat} (inv : ∀ i, σ (σ i) = i) (lt : ∀ i, i < n → σ i < n) : Rel σ (Array.replicate n false) (Array.replicate n false) := by
  intro j d
  simp only [Array.getD_eq_getD_getElem?, Array.getElem?_replicate]
  by_cases h : j < n
  · rw [if_pos h, if_pos (lt j h)]
  · have : ¬ σ j < n := fun h2 => h (by have := lt _ h2; rw [inv] at this; exact this)
    rw [if_neg h, if_neg this]

theorem Runs.twin (hm : P.follows .mixedOrders = true) {k id x y : Nat} {ops : Array Oper} {af : AF} {Q : AExit → AF → Prop} (hs : (allSimple ops && (Nat.blt x ops.size && (Nat.blt y ops.size && !Nat.beq x y))) = true)
    (hA : RunsAny P k (ordOf ops (fun i => i) y x) af Q) (hB : RunsAny P k (ordOf ops (swapN x y) x y) af Q) : Runs P k (.region id ops true) af Q := by
  simp only [Bool.and_eq_true, Bool.not_eq_true'] at hs
  obtain ⟨h1, h2, h3, h4⟩ := hs
  have hx := blt_lt h2
  have hy := blt_lt h3
  have hxy : x ≠ y := fun e => by rw [e, Nat.beq_refl] at h4; cases h4
  have swl : ∀ i, i < ops.size → swapN x y i < ops.size := by
    intro i hi
    unfold swapN
    split
    · exact hy
    · split
      · exact hx
      · exact hi
  have A : Emb ops (ordOf ops (fun i => i) y x) (fun i => i) y x := ordOf_emb h1 (fun _ => rfl) (fun _ h => h)
  have B : Emb ops (ordOf ops (swapN x y) x y) (swapN x y) x y := ordOf_emb h1 (swapN_inv x y) swl
  have no : ∀ i, ¬ Lst (Array.replicate ops.size false) i := fun i => by
    unfold Lst
    simp only [Array.getD_eq_getD_getElem?, Array.getElem?_replicate]
    split <;> simp
  intro F w0 μ a w R
  have rA := hA F w0 μ a w R
  have rB := hB F w0 μ a w R
  rw [A.size] at rA
  rw [B.size] at rB
  exact wp_region_any hm (Go.R.twin hx hy hxy A B ops.size _ _ _ a _ (rel_replicate (fun _ => rfl) (fun _ h => h)) (rel_replicate (swapN_inv x y) swl) (by simp) (by simp) (by simp) (no x) (no y) rA rB)

section
variable {F : Nat → Prop} {w0 : World} {call : CallF} {ops : Array Oper} {af af' : AF} {hs : List AF}
theorem plan_any (hc : CallOk P call) {μ : Mp} {a : Act} {w : World} {Q : Exit → Act → World → Prop}
    (p : Plan P call ops af af' hs) (R : AR F w0 μ af a w) (K : ∀ a' w', Onward F w0 μ af.h a.defers af' a' w' → Q .normal a' w') :
    wpAny P .any ops Q ops.size (Array.replicate ops.size false) a { w with drawn := w.drawn + 1 } := by
  refine any_ok hc p K ops.size _ _ _ ?_ ?_
  · unfold unl
    refine Nat.le_trans (List.countP_le_length) (by simp)
  · have no : ∀ i, ¬ Lst (Array.replicate ops.size false) i := fun i => by
      unfold Lst
      simp only [Array.getD_eq_getD_getElem?, Array.getElem?_replicate]
      split <;> simp
    obtain ⟨s, q1, q2, q3, q4⟩ := next_stage ops ops.size 0 (by omega)
    refine ⟨by simp, fun i o hi => absurd hi (no i), ⟨s, μ, af.h, ⟨q2, q3, fun q o h1 h2 => ?_⟩, ?_, R.heap.drawn _, Ext.refl μ _, fun t ht u hu => ?_, fun t _ u hu => R.tm t trivial u hu⟩, R.sz, rfl⟩
    · constructor
      · intro h; have := q4 q o (Nat.zero_le _) h h1; rw [h2] at this; cases this
      · intro h; exact absurd h (no q)
    · have := p.lights 0 s (by omega) fun q o a b c => q4 q o a (by omega) c
      rw [Nat.zero_add] at this
      rw [this, p.tr.first]; rfl
    · rcases ht with ht | ht
      · rw [p.tr.keep t (.inr (by rw [R.sz]; exact ht))] at hu; exact R.tm t trivial u hu
      · rw [p.tr.keep t (.inl fun j q hq hd => no j (ht j q (by simpa using hq) hd))] at hu; exact R.tm t trivial u hu
end

theorem RunsAny.rg {call : CallF} (hc : CallOk P call) {k : Nat} {ops : Array Oper} {af : AF} {Q : AExit → AF → Prop} (ov : List Via) (pairs : List (Nat × Nat)) (hk : Nat.ble k af.h.next = true)
    (hg : (statOk ops (masks ops.toList []) && (pairsIn ops.toList.length pairs && apart (foes ov))) = true) (hp : dynPairs P ops (masks ops.toList []) = pairs)
    (hs : (endV P call (.region 0 ops true) ov af).isSome = true) (ob : OblV P call (.region 0 ops true) af ov ov) (dy : DynL P call (.region 0 ops true) ov af pairs) (q : Q .normal (aftV P call (.region 0 ops true) ov af)) : RunsAny P k ops af Q := by
  simp only [Bool.and_eq_true] at hg
  obtain ⟨g2, g3, g4⟩ := hg
  have hle := Nat.le_of_ble_eq_true hk
  have hend : endV P call (.region 0 ops true) ov af = some (aftV P call (.region 0 ops true) ov af) := by
    unfold aftV
    cases h : endV P call (.region 0 ops true) ov af with
    | none => rw [h] at hs; cases hs
    | some b => rfl
  have hL : (opsL P (anyOf (told P call (.region 0 ops true) af ov ov) call) ops ops.toList af).map (·.1) = some (aftV P call (.region 0 ops true) ov af) := by
    have := opsV_opsL g4 ob ops.toList.length (aftV P call (.region 0 ops true) ov af)
    have e : (regOps (.region 0 ops true)).toList.take ops.toList.length = ops.toList := List.take_length
    rw [e] at this
    exact this hend
  have hcall := anyOf_ok hc (told_says ob)
  have pre : ∀ i, opsV P call ops ov (foes ov) 0 (ops.toList.take i) af = some (preV P call (.region 0 ops true) ov af i) := by
    intro i
    have h1 : opsV P call ops ov (foes ov) 0 ops.toList af = some (aftV P call (.region 0 ops true) ov af) := hend
    rw [← List.take_append_drop i ops.toList, opsV_app] at h1
    show _ = some ((opsV P call ops ov (foes ov) 0 (ops.toList.take i) af).getD af)
    cases h2 : opsV P call ops ov (foes ov) 0 (ops.toList.take i) af with
    | none => rw [h2] at h1; cases h1
    | some b => rfl
  intro F w0 μ a w R
  cases ho : opsL P (anyOf (told P call (.region 0 ops true) af ov ov) call) ops ops.toList af with
  | none => rw [ho] at hL; cases hL
  | some r =>
    obtain ⟨b, hs'⟩ := r
    have hb : b = aftV P call (.region 0 ops true) ov af := by
      rw [ho] at hL
      exact Option.some.inj hL
    subst hb
    have st : ∀ i, i ≤ ops.toList.length → hs'[i]? = some (preV P call (.region 0 ops true) ov af i) := by
      intro i hi
      obtain ⟨ai, q1, q2⟩ := opsL_states ops.toList af _ hs' ho i hi
      have q4 : (opsL P (anyOf (told P call (.region 0 ops true) af ov ov) call) ops (ops.toList.take i) af).map (·.1) = some (preV P call (.region 0 ops true) ov af i) := opsV_opsL g4 ob i _ (pre i)
      rw [q2] at q4
      rw [q1]
      exact q4
    have dg : ∀ x ∈ dynPairs P ops (masks ops.toList []), DynGood P ops hs' x := by
      intro x hx
      have hx' : x ∈ pairs := by rw [← hp]; exact hx
      obtain ⟨l1, l2⟩ := pairsIn_at g3 x hx'
      obtain ⟨v, h2, e1, e2⟩ := dynL_at dy x hx'
      have hop : ops[x.1]? = some (opAt (.region 0 ops true) x.1) := by
        show ops[x.1]? = some (ops.getD x.1 default)
        rw [Array.getD_eq_getD_getElem?]
        have : x.1 < ops.size := by simpa using l1
        rw [Array.getElem?_eq_getElem this]
        rfl
      exact ⟨_, _, _, _, hop, st x.2 l2, st x.1 (by omega), st (x.1 + 1) (by omega), .inr ⟨v, h2, e1, e2⟩⟩
    refine plan_any hcall (hs := hs') ⟨traced _ _ _ _ ho, g2, dg⟩ R fun a' w' ⟨μ', r1, r2, r3⟩ => ?_
    exact ⟨.normal, _, q, trivial, r3, μ', r1, .of_ext r2 hle⟩

theorem Runs.tw (hm : P.follows .mixedOrders = true) {k x y : Nat} {c : Code} {af : AF} {Q : AExit → AF → Prop} (hd : isDrawn c = true) (hs : (allSimple (regOps c) && (Nat.blt x (regOps c).size && (Nat.blt y (regOps c).size && !Nat.beq x y))) = true)
    (hA : RunsAny P k (ordOf (regOps c) (fun i => i) y x) af Q) (hB : RunsAny P k (ordOf (regOps c) (swapN x y) x y) af Q) : Runs P k c af Q := by
  cases c with
  | region id ops dr =>
    cases dr with
    | true => exact Runs.twin hm hs hA hB
    | false => cases hd
  | _ => cases hd
end
end Go.R

