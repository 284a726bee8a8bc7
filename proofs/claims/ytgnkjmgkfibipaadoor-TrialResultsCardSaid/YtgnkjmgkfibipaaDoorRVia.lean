/- Regions some of whose steps are told, not evaluated: unknown rows, calls by contracts; rules that read the code's shape. -/
import Derived.Test.YtgnkjmgkfibipaaDoorRRen
namespace Go.R
set_option linter.unusedVariables false
set_option linter.unusedSimpArgs false
open Go Go.RowKit
noncomputable section
variable {P : Program}

/-- A contract from one heap. -/
def Says (P : Program) (h : AH) (f : FuncId) (args : List Value) (v : Value) (h1 : AH) : Prop :=
  ∀ (F : Nat → Prop) (w0 : World) (μ : Mp) (w : World) (args' : Array Value), HR F w0 μ h w → LR μ args args'.toList →
    Goes P f args' w fun v' w' => ∃ μ', VR μ' v v' ∧ HR F w0 μ' h1 w' ∧ Ext μ μ' h h1

/-- A step that is told: its number, its value, the heap behind it where it is another one, and for a call whom and with what. -/
structure Via where
  no : Nat
  v : Value
  h : Option AH
  who : Option (FuncId × List Value)

def viaV (i : Nat) (v : Value) : Via := ⟨i, v, none, none⟩
def viaC (i : Nat) (f : FuncId) (args : List Value) (v : Value) : Via := ⟨i, v, none, some (f, args)⟩
def viaH (i : Nat) (f : FuncId) (args : List Value) (v : Value) (h : AH) : Via := ⟨i, v, some h, some (f, args)⟩

def hOr (h : AH) : Option AH → AH
  | some h' => h'
  | none => h

def viaAt : List Via → Nat → Option Via
  | [], _ => none
  | e :: l, i => match Nat.beq e.no i with
    | true => some e
    | false => viaAt l i

def foes : List Via → List FuncId
  | [] => []
  | e :: l => match e.who with
    | some (f, _) => f :: foes l
    | none => foes l

def notIn (f : FuncId) : List FuncId → Bool
  | [] => true
  | g :: l => !Nat.beq f g && notIn f l
def apart : List FuncId → Bool
  | [] => true
  | g :: l => notIn g l && apart l

/-- No call of one whose call is told. -/
def clear (fs : List FuncId) (ρ : Operand → Option Value) (o : Op) : Bool :=
  match callOp? o with
  | some c => match callee? ρ c with
    | some (f, _) => notIn f fs
    | none => false
  | none => true

def opsV (P : Program) (call : CallF) (ops : Array Oper) (ov : List Via) (fs : List FuncId) : Nat → List Oper → AF → Option AF
  | _, [], a => some a
  | i, o :: l, a => match wantedA ops a.tm o with
    | some true => match viaAt ov i with
      | some e => opsV P call ops ov fs (i + 1) l (a.put o.dst e.v (hOr a.h e.h))
      | none => match clear fs (evalA a.tm) o.op with
        | true => match stepA P call (evalA a.tm) o.op a.h with
          | some (v, h) => opsV P call ops ov fs (i + 1) l (a.put o.dst v h)
          | none => none
        | false => none
    | some false => opsV P call ops ov fs (i + 1) l (a.put o.dst undef a.h)
    | none => none

def endV (P : Program) (call : CallF) (c : Code) (ov : List Via) (af : AF) : Option AF := opsV P call (regOps c) ov (foes ov) 0 (regOps c).toList af
def aftV (P : Program) (call : CallF) (c : Code) (ov : List Via) (af : AF) : AF := (endV P call c ov af).getD af
def preV (P : Program) (call : CallF) (c : Code) (ov : List Via) (af : AF) (i : Nat) : AF := (opsV P call (regOps c) ov (foes ov) 0 ((regOps c).toList.take i) af).getD af

/-- What is to be shown of a told step. -/
def Shown (P : Program) (a : AF) (o : Oper) (e : Via) : Prop :=
  match e.who with
  | none => callOp? o.op = none ∧ opA P (evalA a.tm) o.op a.h = some (e.v, hOr a.h e.h)
  | some (f, args) => (∃ c, callOp? o.op = some c ∧ callee? (evalA a.tm) c = some (f, args)) ∧ Says P a.h f args e.v (hOr a.h e.h)

def OblV (P : Program) (call : CallF) (c : Code) (af : AF) (ov : List Via) : List Via → Prop
  | [] => True
  | e :: l => Shown P (preV P call c ov af e.no) (opAt c e.no) e ∧ OblV P call c af ov l

theorem oblN {call : CallF} {c : Code} {af : AF} {ov : List Via} : OblV P call c af ov [] := trivial
theorem oblC {call : CallF} {c : Code} {af : AF} {ov l : List Via} {e : Via} (h : Shown P (preV P call c ov af e.no) (opAt c e.no) e) (t : OblV P call c af ov l) : OblV P call c af ov (e :: l) := ⟨h, t⟩

theorem viaAt_mem : ∀ {l : List Via} {i : Nat} {e : Via}, viaAt l i = some e → e ∈ l ∧ e.no = i
  | [], i, e, h => by cases h
  | x :: l, i, e, h => by
    unfold viaAt at h
    cases hb : Nat.beq x.no i with
    | true =>
      rw [hb] at h
      cases h
      exact ⟨List.mem_cons_self, Nat.eq_of_beq_eq_true hb⟩
    | false =>
      rw [hb] at h
      obtain ⟨h1, h2⟩ := viaAt_mem h
      exact ⟨List.mem_cons_of_mem _ h1, h2⟩

theorem oblV_at {call : CallF} {c : Code} {af : AF} {ov : List Via} : ∀ {l : List Via}, OblV P call c af ov l → ∀ e ∈ l, Shown P (preV P call c ov af e.no) (opAt c e.no) e
  | [], _, e, he => by cases he
  | x :: l, h, e, he => by
    rcases List.mem_cons.1 he with rfl | he
    · exact h.1
    · exact oblV_at h.2 e he

theorem opsV_app {call : CallF} {ops : Array Oper} {ov : List Via} {fs : List FuncId} : ∀ (l1 l2 : List Oper) (i : Nat) (a : AF),
    opsV P call ops ov fs i (l1 ++ l2) a = (opsV P call ops ov fs i l1 a).bind (opsV P call ops ov fs (i + l1.length) l2)
  | [], l2, i, a => rfl
  | o :: l, l2, i, a => by
    have e : ∀ b, opsV P call ops ov fs (i + 1) (l ++ l2) b = (opsV P call ops ov fs (i + 1) l b).bind (opsV P call ops ov fs (i + (o :: l).length) l2) := fun b => by
      rw [opsV_app l l2 (i + 1) b, List.length_cons, show i + 1 + l.length = i + (l.length + 1) by omega]
    simp only [List.cons_append, opsV]
    split
    · split
      · exact e _
      · split
        · split
          · exact e _
          · rfl
        · rfl
    · exact e _
    · rfl

/-- The told calls ahead of the others. -/
def anyOf : List (FuncId × List Value × AH × Value × AH) → CallF → CallF
  | [], base => base
  | (f0, args0, h0, v0, h1) :: S, base => callAt f0 args0 h0 v0 h1 (anyOf S base)

def told (P : Program) (call : CallF) (c : Code) (af : AF) (ov : List Via) : List Via → List (FuncId × List Value × AH × Value × AH)
  | [] => []
  | e :: l => match e.who with
    | some (f, args) => (f, args, (preV P call c ov af e.no).h, e.v, hOr (preV P call c ov af e.no).h e.h) :: told P call c af ov l
    | none => told P call c af ov l

theorem notIn_mem : ∀ {l : List FuncId} {f : FuncId}, notIn f l = true → f ∉ l
  | [], f, _, h => by cases h
  | g :: l, f, h, hm => by
    simp only [notIn, Bool.and_eq_true, Bool.not_eq_true'] at h
    rcases List.mem_cons.1 hm with rfl | hm
    · rw [Nat.beq_refl] at h; cases h.1
    · exact notIn_mem h.2 hm

theorem told_ids {call : CallF} {c : Code} {af : AF} {ov : List Via} : ∀ l : List Via, (told P call c af ov l).map (·.1) = foes l
  | [] => rfl
  | e :: l => by
    unfold told foes
    split
    · rename_i f args hw
      simp only [hw, List.map_cons, told_ids l]
    · rename_i hw
      simp only [hw, told_ids l]

theorem anyOf_other : ∀ {S : List (FuncId × List Value × AH × Value × AH)} {base : CallF} {f : FuncId} {args : List Value} {h : AH}, f ∉ S.map (·.1) → anyOf S base f args h = base f args h
  | [], _, _, _, _, _ => rfl
  | (f0, args0, h0, v0, h1) :: S, base, f, args, h, hn => by
    simp only [List.map_cons, List.mem_cons, not_or] at hn
    show callAt f0 args0 h0 v0 h1 (anyOf S base) f args h = _
    unfold callAt
    rw [if_neg (fun q => hn.1 q.1)]
    exact anyOf_other hn.2

theorem anyOf_at : ∀ {S : List (FuncId × List Value × AH × Value × AH)} {base : CallF}, apart (S.map (·.1)) = true → ∀ p ∈ S, anyOf S base p.1 p.2.1 p.2.2.1 = some (p.2.2.2.1, p.2.2.2.2)
  | [], _, _, p, hp => by cases hp
  | (f0, args0, h0, v0, h1) :: S, base, ha, p, hp => by
    simp only [List.map_cons, apart, Bool.and_eq_true] at ha
    show callAt f0 args0 h0 v0 h1 (anyOf S base) p.1 p.2.1 p.2.2.1 = _
    rcases List.mem_cons.1 hp with rfl | hp
    · simp only [callAt, and_self, if_true]
    · unfold callAt
      have hne : p.1 ≠ f0 := fun e => notIn_mem ha.1 (e ▸ List.mem_map_of_mem (f := (·.1)) hp)
      rw [if_neg (fun q => hne q.1)]
      exact anyOf_at ha.2 p hp

theorem anyOf_ok : ∀ {S : List (FuncId × List Value × AH × Value × AH)} {base : CallF}, CallOk P base → (∀ p ∈ S, Says P p.2.2.1 p.1 p.2.1 p.2.2.2.1 p.2.2.2.2) → CallOk P (anyOf S base)
  | [], _, hb, _ => hb
  | (f0, args0, h0, v0, h1) :: S, base, hb, hs => callAt_ok (anyOf_ok hb fun p hp => hs p (List.mem_cons_of_mem _ hp)) (hs _ List.mem_cons_self)

theorem told_says {call : CallF} {c : Code} {af : AF} {ov : List Via} : ∀ {l : List Via}, OblV P call c af ov l → ∀ p ∈ told P call c af ov l, Says P p.2.2.1 p.1 p.2.1 p.2.2.2.1 p.2.2.2.2
  | [], _, p, hp => by cases hp
  | e :: l, h, p, hp => by
    obtain ⟨h1, h2⟩ := h
    unfold told at hp
    unfold Shown at h1
    split at hp
    · rename_i f args hw
      rw [hw] at h1
      rcases List.mem_cons.1 hp with rfl | hp
      · exact h1.2
      · exact told_says h2 p hp
    · exact told_says h2 p hp

theorem told_mem {call : CallF} {c : Code} {af : AF} {ov : List Via} {f : FuncId} {args : List Value} : ∀ {l : List Via} {e : Via}, e ∈ l → e.who = some (f, args) → (f, args, (preV P call c ov af e.no).h, e.v, hOr (preV P call c ov af e.no).h e.h) ∈ told P call c af ov l
  | x :: l, e, he, hw => by
    unfold told
    rcases List.mem_cons.1 he with rfl | he
    · rw [hw]; exact List.mem_cons_self
    · split
      · exact List.mem_cons_of_mem _ (told_mem he hw)
      · exact told_mem he hw

theorem opsV_opsL {call : CallF} {c : Code} {af : AF} {ov : List Via} (ha : apart (foes ov) = true) (ob : OblV P call c af ov ov) : ∀ (m : Nat) (b : AF), opsV P call (regOps c) ov (foes ov) 0 ((regOps c).toList.take m) af = some b →
    (opsL P (anyOf (told P call c af ov ov) call) (regOps c) ((regOps c).toList.take m) af).map (·.1) = some b
  | 0, b, h => by simpa [opsV, opsL] using h
  | m + 1, b, h => by
    by_cases hm : m < (regOps c).toList.length
    · have et : (regOps c).toList.take (m + 1) = (regOps c).toList.take m ++ [(regOps c).toList[m]] := by rw [List.take_succ_eq_append_getElem hm]
      rw [et] at h ⊢
      rw [opsV_app, Nat.zero_add, List.length_take, Nat.min_eq_left (Nat.le_of_lt hm)] at h
      cases hb : opsV P call (regOps c) ov (foes ov) 0 ((regOps c).toList.take m) af with
      | none => rw [hb] at h; cases h
      | some b0 =>
        rw [hb] at h
        simp only [Option.bind_some] at h
        refine opsL_app _ _ af b0 b (opsV_opsL ha ob m b0 hb) ?_
        have hpre : preV P call c ov af m = b0 := by unfold preV; rw [hb]; rfl
        have hop : opAt c m = (regOps c).toList[m] := by
          unfold opAt
          rw [Array.getD_eq_getD_getElem?, ← Array.getElem?_toList, List.getElem?_eq_getElem hm]
          rfl
        generalize ho : (regOps c).toList[m] = o at h hop ⊢
        simp only [opsV] at h
        simp only [opsL]
        cases hw : wantedA (regOps c) b0.tm o with
        | none => rw [hw] at h; cases h
        | some w =>
          rw [hw] at h
          cases w with
          | false =>
            simp only [Option.some.injEq] at h
            simp only [Option.map_some, h]
          | true =>
            simp only at h ⊢
            have fin : ∀ v h', stepA P (anyOf (told P call c af ov ov) call) (evalA b0.tm) o.op b0.h = some (v, h') → b0.put o.dst v h' = b →
                Option.map (·.1) (match stepA P (anyOf (told P call c af ov ov) call) (evalA b0.tm) o.op b0.h with
                  | some (v, h) => some (b0.put o.dst v h, [b0, b0.put o.dst v h])
                  | none => none) = some b := by
              intro v h' e1 e2
              rw [e1]
              simp only [Option.map_some, e2]
            cases hv : viaAt ov m with
            | some e =>
              rw [hv] at h
              simp only [Option.some.injEq] at h
              obtain ⟨hmem, hno⟩ := viaAt_mem hv
              have hs := oblV_at ob e hmem
              rw [hno, hpre, hop] at hs
              refine fin e.v (hOr b0.h e.h) ?_ h
              unfold Shown at hs
              cases hwho : e.who with
              | none =>
                rw [hwho] at hs
                unfold stepA
                rw [hs.1]
                exact hs.2
              | some p =>
                obtain ⟨f, args⟩ := p
                rw [hwho] at hs
                obtain ⟨⟨cc, q1, q2⟩, _⟩ := hs
                have hmt := told_mem (P := P) (call := call) (c := c) (af := af) (ov := ov) hmem hwho
                rw [hno, hpre] at hmt
                have := anyOf_at (S := told P call c af ov ov) (base := call) (by rw [told_ids]; exact ha) _ hmt
                unfold stepA
                rw [q1]
                simp only [q2]
                exact this
            | none =>
              rw [hv] at h
              simp only at h
              cases hcl : clear (foes ov) (evalA b0.tm) o.op with
              | false => rw [hcl] at h; cases h
              | true =>
                rw [hcl] at h
                simp only at h
                cases hst : stepA P call (evalA b0.tm) o.op b0.h with
                | none => rw [hst] at h; cases h
                | some r =>
                  obtain ⟨v, h'⟩ := r
                  rw [hst] at h
                  simp only [Option.some.injEq] at h
                  refine fin v h' ?_ h
                  rw [← hst]
                  unfold stepA
                  unfold clear at hcl
                  cases hco : callOp? o.op with
                  | none => rfl
                  | some cc =>
                    rw [hco] at hcl
                    simp only at hcl ⊢
                    cases hce : callee? (evalA b0.tm) cc with
                    | none => rfl
                    | some q =>
                      obtain ⟨f, args⟩ := q
                      rw [hce] at hcl
                      simp only at hcl ⊢
                      exact anyOf_other (by rw [told_ids]; exact notIn_mem hcl)
    · have et : ∀ j, (regOps c).toList.length ≤ j → (regOps c).toList.take j = (regOps c).toList := fun j hj => List.take_of_length_le hj
      rw [et (m + 1) (by omega), ← et m (by omega)] at h ⊢
      exact opsV_opsL ha ob m b h

/-! ### Rules that read the code's shape -/
def regGood (P : Program) : Code → Bool
  | .region _ _ false => true
  | .region _ ops true => (dynPairs P ops (masks ops.toList [])).isEmpty && statOk ops (masks ops.toList [])
  | _ => false
def within : Code → Code
  | .block _ b => b
  | .loop b => b
  | c => c
def elseOf : Code → Code
  | .cond _ _ e => e
  | c => c
def isSeq : Code → Bool
  | .seq _ _ => true
  | _ => false
def isLoop : Code → Bool
  | .loop _ => true
  | _ => false
def blockNo : Code → Option Nat
  | .block i _ => some i
  | _ => none
def condVal (af : AF) : Code → Option Value
  | .cond x _ _ => evalA af.tm x
  | _ => none
/-- What ends at once. -/
def endNow : Code → Option AExit
  | .skip => some .normal
  | .exit i => some (.exit i)
  | .ret => some .ret
  | _ => none

theorem Runs.rg (hm : P.follows .mixedOrders = true) {call : CallF} (hc : CallOk P call) {k : Nat} {c : Code} {af : AF} {Q : AExit → AF → Prop} (ov : List Via) (hk : Nat.ble k af.h.next = true)
    (hg : (regGood P c && apart (foes ov)) = true) (hs : (endV P call c ov af).isSome = true) (ob : OblV P call c af ov ov) (q : Q .normal (aftV P call c ov af)) : Runs P k c af Q := by
  rw [Bool.and_eq_true] at hg
  have hle := Nat.le_of_ble_eq_true hk
  have hend : endV P call c ov af = some (aftV P call c ov af) := by
    unfold aftV
    cases h : endV P call c ov af with
    | none => rw [h] at hs; cases hs
    | some b => rfl
  have hL : (opsL P (anyOf (told P call c af ov ov) call) (regOps c) (regOps c).toList af).map (·.1) = some (aftV P call c ov af) := by
    have := opsV_opsL hg.2 ob (regOps c).toList.length (aftV P call c ov af)
    rw [List.take_length] at this
    exact this hend
  have hcall := anyOf_ok hc (told_says ob)
  cases c with
  | region id ops dr =>
    cases dr with
    | false => exact Runs.regionL hm hcall hle hL q
    | true =>
      have h1 := hg.1
      simp only [regGood, Bool.and_eq_true, List.isEmpty_iff] at h1
      exact Runs.regionD0 hm hcall hle hL h1.1 h1.2 q
  | _ => cases hg.1

theorem Runs.sq {k : Nat} {c : Code} {af : AF} {Q : AExit → AF → Prop} (hsq : isSeq c = true) (h : Runs P k (hd c) af (andThen (fun a => Runs P k (tl c) a Q) Q)) : Runs P k c af Q := by
  cases c with
  | seq a b => exact Runs.seq h
  | _ => cases hsq

/-- A part that is a region, and on. -/
theorem Runs.sqR (hm : P.follows .mixedOrders = true) {call : CallF} (hc : CallOk P call) {k : Nat} {c : Code} {af : AF} {Q : AExit → AF → Prop} (ov : List Via) (hk : Nat.ble k af.h.next = true)
    (hg : (isSeq c && (regGood P (hd c) && apart (foes ov))) = true) (hs : (endV P call (hd c) ov af).isSome = true) (ob : OblV P call (hd c) af ov ov) (q : Runs P k (tl c) (aftV P call (hd c) ov af) Q) : Runs P k c af Q := by
  rw [Bool.and_eq_true] at hg
  exact Runs.sq hg.1 (Runs.rg hm hc ov hk hg.2 hs ob q)

theorem Runs.bk {k id : Nat} {c : Code} {af : AF} {Q : AExit → AF → Prop} (hb : blockNo c = some id) (h : Runs P k (within c) af (caught id Q)) : Runs P k c af Q := by
  cases c with
  | block i b => cases hb; exact Runs.block h
  | _ => cases hb

theorem Runs.lp {k : Nat} {c : Code} {af : AF} {Q : AExit → AF → Prop} (hl : isLoop c = true) (h : Runs P k (within c) af (andThen (fun a => Runs P k c a Q) Q)) : Runs P k c af Q := by
  cases c with
  | loop b => exact Runs.loop h
  | _ => cases hl

theorem Runs.cd {k : Nat} {c : Code} {af : AF} {Q : AExit → AF → Prop} {b : Bool} (hx : condVal af c = some (.bool b)) (ht : b = true → Runs P k (thenOf c) af Q) (hf : b = false → Runs P k (elseOf c) af Q) : Runs P k c af Q := by
  cases c with
  | cond x t e => exact Runs.cond hx ht hf
  | _ => cases hx

theorem Runs.now {k : Nat} {c : Code} {af : AF} {Q : AExit → AF → Prop} {x : AExit} (he : endNow c = some x) (q : Q x af) : Runs P k c af Q := by
  cases c with
  | skip => cases he; exact Runs.skip q
  | exit i => cases he; exact Runs.exit q
  | ret => cases he; exact Runs.ret q
  | _ => cases he

/-! ### Told steps -/
/-- What an index reaches: object, offset, number of elements, index, size of one. -/
def idxIn (P : Program) (a : AF) (o : Oper) : Option (Nat × Nat × Nat × Nat × Nat) :=
  match o.op with
  | .indexAddr t x y => match evalA a.tm x, evalA a.tm y, P.underlying t with
    | some (.slice (some ⟨g, off, sp⟩) n _), some (.int _ (.ofNat i)), some (.slice e) => match P.info? e with
      | some info => some (g, off, n, i, info.size)
      | none => none
    | _, _, _ => none
  | _ => none

theorem shown_idx {a : AF} {o : Oper} {j g off n i sz : Nat} (h : idxIn P a o = some (g, off, n, i, sz)) (hlt : i < n) : Shown P a o (viaV j (.pointer (some ⟨g, off + i * sz, none⟩))) := by
  unfold idxIn at h
  split at h
  · rename_i t x y hop
    split at h
    · rename_i g' off' sp n' c' kd i' e hx hy ht
      split at h
      · rename_i info hi
        simp only [Option.some.injEq, Prod.mk.injEq] at h
        obtain ⟨rfl, rfl, rfl, rfl, rfl⟩ := h
        refine ⟨by rw [hop]; rfl, ?_⟩
        have := idx_step (P := P) (call := fun _ _ _ => none) (h := a.h) hx hy hlt ht hi
        rw [hop]
        simpa [stepA, callOp?, viaV, hOr] using this
      · cases h
    · cases h
  · cases h

/-- What a load reads: object, offset, number of cells, and whether these are one value. -/
def loadIn (P : Program) (a : AF) (o : Oper) : Option (Nat × Nat × Nat × Bool) :=
  match o.op with
  | .load t x => match evalA a.tm x, P.info? t, P.underlying t with
    | some (.pointer (some ⟨g, off, none⟩)), some info, some d => some (g, off, info.size, isAggD d)
    | _, _, _ => none
  | _ => none

theorem shown_agg {a : AF} {o : Oper} {j g off sz : Nat} {l : List Value} (h : loadIn P a o = some (g, off, sz, true)) (hr : rowAt? a.h g off sz = some l) : Shown P a o (viaV j (.agg l.toArray)) := by
  unfold loadIn at h
  split at h
  · rename_i t x hop
    split at h
    · rename_i g' off' info d hx hi ht
      simp only [Option.some.injEq, Prod.mk.injEq] at h
      obtain ⟨rfl, rfl, rfl, hd⟩ := h
      refine ⟨by rw [hop]; rfl, ?_⟩
      have := load_step (P := P) (call := fun _ _ _ => none) (h := a.h) hx hi ht hd hr
      rw [hop]
      simpa [stepA, callOp?, viaV, hOr] using this
    · cases h
  · cases h

theorem shown_cell {a : AF} {o : Oper} {j g off : Nat} {v : Value} (h : loadIn P a o = some (g, off, 1, false)) (hr : rowAt? a.h g off 1 = some [v]) : Shown P a o (viaV j v) := by
  unfold loadIn at h
  split at h
  · rename_i t x hop
    split at h
    · rename_i g' off' info d hx hi ht
      simp only [Option.some.injEq, Prod.mk.injEq] at h
      obtain ⟨rfl, rfl, _, hd⟩ := h
      refine ⟨by rw [hop]; rfl, ?_⟩
      rw [hop]
      show opA P (evalA a.tm) (.load t x) a.h = some (v, a.h)
      simp only [opA, hx, loadA, hi, ht, hd, Bool.false_eq_true, if_false, hr, Option.map_some]
    · cases h
  · cases h

/-- A call by its contract. -/
def callIn (a : AF) (o : Oper) : Option (FuncId × List Value) :=
  match callOp? o.op with
  | some c => callee? (evalA a.tm) c
  | none => none

theorem shown_call {a : AF} {o : Oper} {j : Nat} {f : FuncId} {args : List Value} {v : Value} (h : callIn a o = some (f, args)) (hs : Says P a.h f args v a.h) : Shown P a o (viaC j f args v) := by
  unfold callIn at h
  split at h
  · rename_i c hc
    exact ⟨⟨c, hc, h⟩, hs⟩
  · cases h

theorem shown_callH {a : AF} {o : Oper} {j : Nat} {f : FuncId} {args : List Value} {v : Value} {h1 : AH} (h : callIn a o = some (f, args)) (hs : Says P a.h f args v h1) : Shown P a o (viaH j f args v h1) := by
  unfold callIn at h
  split at h
  · rename_i c hc
    exact ⟨⟨c, hc, h⟩, hs⟩
  · cases h

/-- The same where the heap is known by an equation. -/
theorem shown_callE {a : AF} {o : Oper} {j : Nat} {f : FuncId} {args : List Value} {v : Value} {h0 : AH} (h : callIn a o = some (f, args)) (ha : a.h = h0) (hs : Says P h0 f args v h0) : Shown P a o (viaC j f args v) :=
  shown_call h (by rw [ha]; exact hs)
theorem shown_callHE {a : AF} {o : Oper} {j : Nat} {f : FuncId} {args : List Value} {v : Value} {h0 h1 : AH} (h : callIn a o = some (f, args)) (ha : a.h = h0) (hs : Says P h0 f args v h1) : Shown P a o (viaH j f args v h1) :=
  shown_callH h (by rw [ha]; exact hs)

/-- A step whose value is equal to another one. -/
theorem shown_eq {a : AF} {o : Oper} {j : Nat} {v w : Value} (hc : callOp? o.op = none) (h : opA P (evalA a.tm) o.op a.h = some (v, a.h)) (e : v = w) : Shown P a o (viaV j w) := by
  subst e
  exact ⟨hc, h⟩
end
end Go.R
