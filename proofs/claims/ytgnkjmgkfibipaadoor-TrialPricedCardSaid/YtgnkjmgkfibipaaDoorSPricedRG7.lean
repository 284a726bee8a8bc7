/- Code that calls functions of which only a contract over a hidden state is known: the rules. -/
import Derived.Test.YtgnkjmgkfibipaaDoorSPricedRG6
namespace Go.R
set_option linter.unusedVariables false
set_option linter.unusedSimpArgs false
open Go Go.RowKit
noncomputable section
variable {P : Program} {σ : Type}

/-- A hidden state: what stands in blocks of its own, reached from the first places. -/
structure Hid (σ : Type) where
  k : Nat
  holds : σ → Mp → World → (Nat → Prop) → Prop
  loc : ∀ {s : σ} {μ μ' : Mp} {w : World} {B : Nat → Prop}, (∀ i, i < k → μ' i = μ i) → holds s μ w B → holds s μ' w B
  frame : ∀ {s : σ} {μ : Mp} {w w' : World} {B : Nat → Prop}, holds s μ w B → w.heap.size ≤ w'.heap.size → (∀ b, B b → w'.heap[b]? = w.heap[b]?) → holds s μ w' B
  lt : ∀ {s : σ} {μ : Mp} {w : World} {B : Nat → Prop}, holds s μ w B → ∀ b, B b → b < w.heap.size

/-- The hidden state holds beside a heap. -/
def With (I : Hid σ) (F : Nat → Prop) (μ : Mp) (h : AH) (s : σ) (w : World) : Prop :=
  ∃ B, I.holds s μ w B ∧ (∀ b, B b → ¬ F b) ∧ ∀ i b z e, μ i = some (b, z, e) → (h.get i).wr = true → ¬ B b

theorem HR.both {F B : Nat → Prop} {w0 w : World} {μ : Mp} {h : AH} (H : HR F w0 μ h w) (hB : ∀ b, B b → b < w.heap.size) (ho : ∀ i b z e, μ i = some (b, z, e) → (h.get i).wr = true → ¬ B b) :
    HR (fun b => F b ∨ B b) w μ h w where
  dom := H.dom
  obj := H.obj
  own := fun i b z e hi hw hF => hF.elim (H.own i b z e hi hw) (ho i b z e hi hw)
  sep := H.sep
  par := H.par
  os := rfl
  tape := rfl
  output := rfl
  size := Nat.le_refl _
  fr := fun b hb => ⟨hb.elim (fun h => Nat.lt_of_lt_of_le (H.fr b h).1 H.size) (hB b), rfl⟩

theorem HR.back {F B : Nat → Prop} {w0 w w' : World} {μ μ' : Mp} {h h' : AH} (H : HR F w0 μ h w) (H' : HR (fun b => F b ∨ B b) w μ' h' w') : HR F w0 μ' h' w' where
  dom := H'.dom
  obj := H'.obj
  own := fun i b z e hi hw hF => H'.own i b z e hi hw (.inl hF)
  sep := H'.sep
  par := H'.par
  os := H'.os.trans H.os
  tape := H'.tape.trans H.tape
  output := H'.output.trans H.output
  size := Nat.le_trans H.size H'.size
  fr := fun b hb => ⟨(H.fr b hb).1, (H'.fr b (.inl hb)).2.trans (H.fr b hb).2⟩

theorem With.after {I : Hid σ} {F B : Nat → Prop} {w w' : World} {μ μ' : Mp} {h' : AH} {s : σ} (A : I.holds s μ w B) (hF : ∀ b, B b → ¬ F b) (H' : HR (fun b => F b ∨ B b) w μ' h' w') (hk : ∀ i, i < I.k → μ' i = μ i) : With I F μ' h' s w' :=
  ⟨B, I.frame (I.loc hk A) H'.size (fun b hb => (H'.fr b (.inr hb)).2), hF, fun i b z e hi hw hb => H'.own i b z e hi hw (.inr hb)⟩

def RunPostI (I : Hid σ) (F : Nat → Prop) (w0 : World) (k : Nat) (μ : Mp) (h : AH) (D : List Deferred) (Q : AExit → AF → σ → Prop) (e : Exit) (a' : Act) (w' : World) : Prop :=
  ∃ x af' s', Q x af' s' ∧ sameExit x e ∧ a'.defers = D ∧ ∃ μ', AR F w0 μ' af' a' w' ∧ With I F μ' af'.h s' w' ∧ Held k μ μ' h af'.h

def RunsI (P : Program) (I : Hid σ) (k : Nat) (c : Code) (af : AF) (s : σ) (Q : AExit → AF → σ → Prop) : Prop :=
  ∀ (F : Nat → Prop) (w0 : World) (μ : Mp) (a : Act) (w : World), AR F w0 μ af a w → With I F μ af.h s w → Wp P c (RunPostI I F w0 k μ af.h a.defers Q) a w

variable {I : Hid σ} {k : Nat} {af : AF} {s : σ}

/-- Code that does not call. -/
theorem RunsI.of {c : Code} {Q : AExit → AF → Prop} {Q' : AExit → AF → σ → Prop} (hk : I.k ≤ k) (h : Runs P k c af Q) (q : ∀ x af', Q x af' → Q' x af' s) : RunsI P I k c af s Q' :=
  fun F w0 μ a w R ⟨B, A, hF, ho⟩ =>
    Wp.mono (h _ w μ a w ⟨R.heap.both (I.lt A) ho, R.tm, R.sz⟩) fun e a' w' ⟨x, af', q1, sx, d, μ', r, kp⟩ =>
      ⟨x, af', s, q x af' q1, sx, d, μ', ⟨R.heap.back r.heap, r.tm, r.sz⟩, With.after A hF r.heap (fun i hi => (kp i (Nat.lt_of_lt_of_le hi hk)).1), kp⟩

theorem RunsI.mono {c : Code} {Q Q' : AExit → AF → σ → Prop} (h : RunsI P I k c af s Q) (m : ∀ x af' s', Q x af' s' → Q' x af' s') : RunsI P I k c af s Q' :=
  fun F w0 μ a w R W => Wp.mono (h F w0 μ a w R W) fun e a w ⟨x, af', s', q, r⟩ => ⟨x, af', s', m x af' s' q, r⟩

theorem RunsI.less {c : Code} {af1 : AF} {Q : AExit → AF → σ → Prop} (hk : I.k ≤ k) (L : Less k af1 af) (h : RunsI P I k c af1 s Q) : RunsI P I k c af s Q := by
  intro F w0 μ a w R W
  have cut : ∀ i, i < af1.h.next → μ.cut af1.h.next i = μ i := fun i hi => by unfold Mp.cut; rw [if_pos hi]
  have W1 : With I F (μ.cut af1.h.next) af1.h s w := by
    obtain ⟨B, A, hF, ho⟩ := W
    refine ⟨B, I.loc (fun i hi => cut i (Nat.lt_of_lt_of_le hi (Nat.le_trans hk L.low))) A, hF, fun i b z e hi hw => ?_⟩
    have hlt : i < af1.h.next := by
      unfold Mp.cut at hi
      split at hi
      · assumption
      · cases hi
    rw [cut i hlt] at hi
    rcases L.heap i hlt with ⟨h1, _⟩ | ⟨h1, _⟩
    · rw [h1] at hw; cases hw
    · rw [h1] at hw; exact ho i b z e hi hw
  refine Wp.mono (h F w0 _ a w (L.ar R) W1) fun e a' w' ⟨x, af', s', q, sx, d, μ', r, wi, kp⟩ => ⟨x, af', s', q, sx, d, μ', r, wi, fun i hi => ?_⟩
  have h1 := kp i hi
  have hlow : i < af1.h.next := Nat.lt_of_lt_of_le hi L.low
  refine ⟨h1.1.trans (cut i hlow), fun hn => (h1.2 ((cut i hlow).trans hn)).trans ?_⟩
  rcases L.heap i hlow with ⟨_, h2⟩ | ⟨h2, _⟩
  · omega
  · exact h2

def andThenI (Qn : AF → σ → Prop) (Q : AExit → AF → σ → Prop) : AExit → AF → σ → Prop
  | .normal, af, s => Qn af s
  | x, af, s => Q x af s

theorem RunPostI.trans {F : Nat → Prop} {w0 : World} {μ μ1 : Mp} {h h1 : AH} {D D1 : List Deferred} {Q : AExit → AF → σ → Prop} (K : Held k μ μ1 h h1) (hD : D1 = D) {e : Exit} {a : Act} {w : World}
    (p : RunPostI I F w0 k μ1 h1 D1 Q e a w) : RunPostI I F w0 k μ h D Q e a w := by
  obtain ⟨x, af', s', q, sx, d, μ', r, wi, kp⟩ := p
  exact ⟨x, af', s', q, sx, d.trans hD, μ', r, wi, K.trans kp⟩

theorem RunsI.seq {c1 c2 : Code} {Q : AExit → AF → σ → Prop} (h : RunsI P I k c1 af s (andThenI (fun af' s' => RunsI P I k c2 af' s' Q) Q)) : RunsI P I k (.seq c1 c2) af s Q := by
  intro F w0 μ a w R W
  refine wp_seq (wp_mono (Wp.wp (h F w0 μ a w R W)) fun e a' w' ⟨x, af', s', q, sx, d, μ', r, wi, kp⟩ => ?_)
  cases x with
  | normal =>
    cases e with
    | normal => exact wp_mono (Wp.wp (q F w0 μ' a' w' r wi)) fun e a'' w'' p => p.trans kp d
    | _ => exact sx.elim
  | exit id =>
    cases e with
    | exit id' => exact ⟨.exit id, af', s', q, sx, d, μ', r, wi, kp⟩
    | _ => exact sx.elim
  | ret =>
    cases e with
    | ret => exact ⟨.ret, af', s', q, sx, d, μ', r, wi, kp⟩
    | _ => exact sx.elim

theorem RunsI.cond {x : Operand} {t e : Code} {Q : AExit → AF → σ → Prop} {b : Bool} (hx : evalA af.tm x = some (.bool b))
    (ht : b = true → RunsI P I k t af s Q) (hf : b = false → RunsI P I k e af s Q) : RunsI P I k (.cond x t e) af s Q := by
  intro F w0 μ a w R W
  have hv := (evalA_ok R.tm (fun _ _ => trivial) hx).bool_inv
  cases b with
  | true => exact wp_cond_true hv (Wp.wp (ht rfl F w0 μ a w R W))
  | false => exact wp_cond_false hv (Wp.wp (hf rfl F w0 μ a w R W))

def caughtI (id : Nat) (Q : AExit → AF → σ → Prop) : AExit → AF → σ → Prop
  | .exit id', af, s => if id' = id then Q .normal af s else Q (.exit id') af s
  | x, af, s => Q x af s

theorem RunsI.block {id : Nat} {body : Code} {Q : AExit → AF → σ → Prop} (h : RunsI P I k body af s (caughtI id Q)) : RunsI P I k (.block id body) af s Q := by
  intro F w0 μ a w R W
  refine wp_block (wp_mono (Wp.wp (h F w0 μ a w R W)) fun e a' w' ⟨x, af', s', q, sx, d, μ', r, wi, kp⟩ => ?_)
  cases x with
  | normal =>
    cases e with
    | normal => exact ⟨.normal, af', s', q, trivial, d, μ', r, wi, kp⟩
    | _ => exact sx.elim
  | exit id1 =>
    cases e with
    | exit id' =>
      have e1 : id1 = id' := sx
      subst e1
      simp only [Exit.inBlock]
      simp only [caughtI] at q
      split
      · rename_i hid
        rw [if_pos hid] at q
        exact ⟨.normal, af', s', q, trivial, d, μ', r, wi, kp⟩
      · rename_i hid
        rw [if_neg hid] at q
        exact ⟨.exit id1, af', s', q, rfl, d, μ', r, wi, kp⟩
    | _ => exact sx.elim
  | ret =>
    cases e with
    | ret => exact ⟨.ret, af', s', q, trivial, d, μ', r, wi, kp⟩
    | _ => exact sx.elim

theorem RunsI.loop {body : Code} {Q : AExit → AF → σ → Prop} (h : RunsI P I k body af s (andThenI (fun af' s' => RunsI P I k (.loop body) af' s' Q) Q)) : RunsI P I k (.loop body) af s Q := by
  intro F w0 μ a w R W
  refine LoopWp.round (wp_mono (Wp.wp (h F w0 μ a w R W)) fun e a' w' ⟨x, af', s', q, sx, d, μ', r, wi, kp⟩ => ?_)
  cases x with
  | normal =>
    cases e with
    | normal =>
      intro b kk cs
      obtain ⟨e2, a2, w2, q1, q2⟩ := q F w0 μ' a' w' r wi b kk cs
      exact ⟨e2, a2, w2, q1.trans kp d, q2⟩
    | _ => exact sx.elim
  | exit id =>
    cases e with
    | exit id' => exact ⟨.exit id, af', s', q, sx, d, μ', r, wi, kp⟩
    | _ => exact sx.elim
  | ret =>
    cases e with
    | ret => exact ⟨.ret, af', s', q, trivial, d, μ', r, wi, kp⟩
    | _ => exact sx.elim

/-! ### By the code's shape -/
theorem RunsI.sq {c : Code} {Q : AExit → AF → σ → Prop} (hsq : isSeq c = true) (h : RunsI P I k (hd c) af s (andThenI (fun a s' => RunsI P I k (tl c) a s' Q) Q)) : RunsI P I k c af s Q := by
  cases c with
  | seq a b => exact RunsI.seq h
  | _ => cases hsq
theorem RunsI.bk {id : Nat} {c : Code} {Q : AExit → AF → σ → Prop} (hb : blockNo c = some id) (h : RunsI P I k (within c) af s (caughtI id Q)) : RunsI P I k c af s Q := by
  cases c with
  | block i b => cases hb; exact RunsI.block h
  | _ => cases hb
theorem RunsI.lp {c : Code} {Q : AExit → AF → σ → Prop} (hl : isLoop c = true) (h : RunsI P I k (within c) af s (andThenI (fun a s' => RunsI P I k c a s' Q) Q)) : RunsI P I k c af s Q := by
  cases c with
  | loop b => exact RunsI.loop h
  | _ => cases hl
theorem RunsI.cd {c : Code} {Q : AExit → AF → σ → Prop} {b : Bool} (hx : condVal af c = some (.bool b)) (ht : b = true → RunsI P I k (thenOf c) af s Q) (hf : b = false → RunsI P I k (elseOf c) af s Q) : RunsI P I k c af s Q := by
  cases c with
  | cond x t e => exact RunsI.cond hx ht hf
  | _ => cases hx
theorem RunsI.now {c : Code} {Q : AExit → AF → σ → Prop} {x : AExit} (hk : I.k ≤ k) (he : endNow c = some x) (q : Q x af s) : RunsI P I k c af s Q :=
  RunsI.of (Q := fun y a => y = x ∧ a = af) hk (Runs.now he ⟨rfl, rfl⟩) fun y a h => by rw [h.1, h.2]; exact q
theorem RunsI.rg (hm : P.follows .mixedOrders = true) {call : CallF} (hc : CallOk P call) {c : Code} {Q : AExit → AF → σ → Prop} (hI : I.k ≤ k) (ov : List Via) (hk : Nat.ble k af.h.next = true)
    (hg : (regGood P c && apart (foes ov)) = true) (hs : (endV P call c ov af).isSome = true) (ob : OblV P call c af ov ov) (q : Q .normal (aftV P call c ov af) s) : RunsI P I k c af s Q :=
  RunsI.of (Q := fun y a => y = .normal ∧ a = aftV P call c ov af) hI (Runs.rg hm hc ov hk hg hs ob ⟨rfl, rfl⟩) fun y a h => by rw [h.1, h.2]; exact q
theorem RunsI.sqR (hm : P.follows .mixedOrders = true) {call : CallF} (hc : CallOk P call) {c : Code} {Q : AExit → AF → σ → Prop} (hI : I.k ≤ k) (ov : List Via) (hk : Nat.ble k af.h.next = true)
    (hg : (isSeq c && (regGood P (hd c) && apart (foes ov))) = true) (hs : (endV P call (hd c) ov af).isSome = true) (ob : OblV P call (hd c) af ov ov) (q : RunsI P I k (tl c) (aftV P call (hd c) ov af) s Q) : RunsI P I k c af s Q := by
  rw [Bool.and_eq_true] at hg
  exact RunsI.sq hg.1 (RunsI.rg hm hc hI ov hk hg.2 hs ob q)
end
end Go.R

/- Regions whose last operation calls a function of which only a contract over the hidden state is known. -/
namespace Go.R
set_option linter.unusedVariables false
set_option linter.unusedSimpArgs false
open Go Go.RowKit
noncomputable section
variable {P : Program} {σ : Type}

/-! ### The last operation, left out -/
def nopOp (o : Oper) : Oper := { o with op := .move (.const (.bool true)), dst := none }
def lastOf (ops : Array Oper) : Oper := ops.getD (ops.size - 1) default
def nopped (ops : Array Oper) : Array Oper := ops.setIfInBounds (ops.size - 1) (nopOp (lastOf ops))
def nopC : Code → Code
  | .region id ops d => .region id (nopped ops) d
  | c => c
def lastOp (c : Code) : Oper := lastOf (regOps c)
def isDr : Code → Bool
  | .region _ _ d => d
  | _ => true
def lastOk : Code → Bool
  | .region _ ops d => Nat.blt 0 ops.size && ((ops.toList.all fun o => o.guard.isNone) && (!d || (List.range (ops.size - 1)).all fun j => has (masks (nopped ops).toList []) (ops.size - 1) j))
  | _ => false

theorem wp_exits {o : Oper} {a : Act} {w : World} {K K' : Act → World → Prop} {Q Q1 : Exit → Act → World → Prop} (h1 : ∀ c a w, Q1 (.panic c) a w → Q (.panic c) a w) (h2 : ∀ a w, Q1 .outgrown a w → Q .outgrown a w)
    (hK : ∀ a w, K a w → K' a w) (hh : o.wp P a w K Q1) : o.wp P a w K' Q := by
  unfold Oper.wp at *
  generalize (execOp a.eval o).run P w = r at *
  cases r with
  | ok n w' =>
    cases n with
    | value v => exact hK _ _ hh
    | skip => exact hK _ _ hh
    | defer d => exact hK _ _ hh
    | enter f args =>
      rw [Oper.upon_enter] at hh ⊢
      refine Calls.mono hh fun e w'' he => ?_
      cases e with
      | returned v => exact hK _ _ he
      | panicked c => exact h1 _ _ _ he
      | outgrown => obtain ⟨a, w, q⟩ := he; exact ⟨a, w, h2 _ _ q⟩
    | row r args =>
      rw [Oper.upon_row] at hh ⊢
      exact Rows.mono hh fun v w'' he => hK _ _ he
    | _ => exact hh.elim
  | halt x w' =>
    cases x with
    | panic v => rw [Oper.upon_panic] at hh ⊢; exact h1 _ _ _ hh
    | _ => exact hh.elim

section
variable {ops : Array Oper} {n : Nat} {o : Oper} {Q Q1 : Exit → Act → World → Prop}

theorem nop_other (hsz : ops.size = n + 1) {i : Nat} (hi : i ≠ n) : (nopped ops)[i]? = ops[i]? := by
  unfold nopped
  rw [hsz, Nat.add_sub_cancel, Array.getElem?_setIfInBounds_ne (Ne.symm hi)]

theorem nop_last (hsz : ops.size = n + 1) (hn : ops[n]? = some o) : (nopped ops)[n]? = some (nopOp o) := by
  unfold nopped lastOf
  rw [hsz, Nat.add_sub_cancel, Array.getElem?_setIfInBounds_self_of_lt (by omega), Array.getD_eq_getD_getElem?, hn]
  rfl

theorem wpOp_swap (hsz : ops.size = n + 1) (hgs : ∀ (i : Nat) o, ops[i]? = some o → o.guard = none) (h1 : ∀ c a w, Q1 (.panic c) a w → Q (.panic c) a w) (h2 : ∀ a w, Q1 .outgrown a w → Q .outgrown a w)
    {i : Nat} (hi : i ≠ n) {K K' : Act → World → Prop} {a : Act} {w : World} (hK : ∀ a w, K a w → K' a w) (hh : wpOp P (nopped ops) Q1 i K a w) : wpOp P ops Q i K' a w := by
  unfold wpOp at *
  rw [nop_other hsz hi] at hh
  cases ho : ops[i]? with
  | none => rw [ho] at hh; exact hK _ _ hh
  | some o' =>
    rw [ho] at hh
    have hg := hgs i o' ho
    have hw : ∀ y, Region.wanted o' y = true := fun y => by unfold Region.wanted; simp only [hg]
    simp only [hw, if_true] at hh ⊢
    rcases hh with hh | ⟨g1, a, w, g2⟩
    · exact .inl (wp_exits h1 h2 hK hh)
    · exact .inr ⟨g1, a, w, h2 _ _ g2⟩

theorem wpOp_nop (hsz : ops.size = n + 1) (hn : ops[n]? = some o) (hg : o.guard = none) {K : Act → World → Prop} {a : Act} {w : World} (hh : wpOp P (nopped ops) Q1 n K a w) : K a w := by
  unfold wpOp at hh
  rw [nop_last hsz hn] at hh
  have hw : Region.wanted (nopOp o) (yielded (nopped ops) a.tmps) = true := by unfold Region.wanted nopOp; simp only [hg]
  simp only [hw, if_true] at hh
  have ex : execOp a.eval (nopOp o) = pure (.value (a.eval (.const (.bool true)))) := rfl
  rcases hh with hh | ⟨hh, _⟩
  · unfold Oper.wp at hh
    rw [ex, Sem.run_pure, Oper.upon_value] at hh
    exact hh
  · have h1 := hh.1
    rw [ex] at h1
    exact absurd h1 (show noRoomEvent ∉ #[] by simp)

theorem wpOp_last (hn : ops[n]? = some o) (hg : o.guard = none) {K : Act → World → Prop} {a : Act} {w : World} (hh : o.wp P a w K Q) : wpOp P ops Q n K a w := by
  unfold wpOp
  rw [hn]
  have hw : Region.wanted o (yielded ops a.tmps) = true := by unfold Region.wanted; simp only [hg]
  simp only [hw, if_true]
  exact .inl hh

theorem ops_last (hsz : ops.size = n + 1) (hn : ops[n]? = some o) (hgs : ∀ (i : Nat) o, ops[i]? = some o → o.guard = none) (h1 : ∀ c a w, Q1 (.panic c) a w → Q (.panic c) a w) (h2 : ∀ a w, Q1 .outgrown a w → Q .outgrown a w)
    (hop : ∀ a w, Q1 .normal a w → o.wp P a w (Q .normal) Q) : ∀ (l : List Nat), (∀ i ∈ l, i ≠ n) → ∀ (a : Act) (w : World), wpOps P (nopped ops) Q1 (l ++ [n]) a w → wpOps P ops Q (l ++ [n]) a w
  | [], _, a, w, h => by
    rw [List.nil_append, wpOps_cons] at h ⊢
    exact wpOp_last hn (hgs n o hn) (hop a w (wpOp_nop hsz hn (hgs n o hn) h))
  | i :: l, hl, a, w, h => by
    rw [List.cons_append, wpOps_cons] at h ⊢
    exact wpOp_swap hsz hgs h1 h2 (hl i List.mem_cons_self) (fun a w => ops_last hsz hn hgs h1 h2 hop l (fun j hj => hl j (List.mem_cons_of_mem _ hj)) a w) h

theorem nop_ready (hsz : ops.size = n + 1) (hn : ops[n]? = some o) {L : Array Bool} {i : Nat} : i ∈ Region.ready .any (nopped ops) L ↔ i ∈ Region.ready .any ops L := by
  rw [mem_ready, mem_ready]
  by_cases h : i = n
  · subst h
    rw [nop_last hsz hn, hn]
    constructor
    · rintro ⟨a, o', e, b⟩; cases e; exact ⟨a, o, rfl, b⟩
    · rintro ⟨a, o', e, b⟩; cases e; exact ⟨a, nopOp o, rfl, b⟩
  · rw [nop_other hsz h]

theorem all_listed (hback : ∀ (i : Nat) o, ops[i]? = some o → ∀ e ∈ o.after, Region.binds .any e = true → e.on < i) {L : Array Bool} (hL : L.size = ops.size) (hr : Region.ready .any ops L = []) :
    ∀ m i, i < m → i < ops.size → Lst L i := by
  intro m
  induction m with
  | zero => intro i h; omega
  | succ m ih =>
    intro i hin hi
    cases hl : L.getD i true with
    | true => unfold Lst; rw [← getD_lst (by rw [hL]; exact hi)]; exact hl
    | false =>
      have ho : ops[i]? = some ops[i] := Array.getElem?_eq_getElem hi
      have : i ∈ Region.ready .any ops L := mem_ready.2 ⟨hl, _, ho, fun e he hb => by
        have := hback i _ ho e he hb
        exact ih e.on (by omega) (by omega)⟩
      rw [hr] at this
      cases this

theorem any_last (hsz : ops.size = n + 1) (hn : ops[n]? = some o) (hgs : ∀ (i : Nat) o, ops[i]? = some o → o.guard = none) (h1 : ∀ c a w, Q1 (.panic c) a w → Q (.panic c) a w) (h2 : ∀ a w, Q1 .outgrown a w → Q .outgrown a w)
    (hback : ∀ (i : Nat) o, (nopped ops)[i]? = some o → ∀ e ∈ o.after, Region.binds .any e = true → e.on < i) (hall : ∀ j, j < n → has (masks (nopped ops).toList []) n j = true)
    (hop : ∀ a w, Q1 .normal a w → o.wp P a w (Q .normal) Q) : ∀ (m : Nat) (L : Array Bool) (a : Act) (w : World), L.size = n + 1 →
      (∀ (i : Nat) o, Lst L i → (nopped ops)[i]? = some o → ∀ e ∈ o.after, Region.binds .any e = true → Lst L e.on) → ¬ Lst L n → wpAny P .any (nopped ops) Q1 m L a w → wpAny P .any ops Q m L a w := by
  have hsz' : (nopped ops).size = n + 1 := by unfold nopped; simp [hsz]
  have never : ∀ (L : Array Bool), L.size = n + 1 → ¬ Lst L n → Region.ready .any (nopped ops) L = [] → False := fun L hs hl hr =>
    hl (all_listed hback (by rw [hs, hsz']) hr (n + 1) n (Nat.lt_succ_self _) (by omega))
  have rd : ∀ (L : Array Bool), Region.ready .any ops L = [] → Region.ready .any (nopped ops) L = [] := fun L hr => by
    apply List.eq_nil_iff_forall_not_mem.2
    intro i hi
    have := (nop_ready hsz hn).1 hi
    rw [hr] at this
    cases this
  intro m
  induction m with
  | zero => intro L a w hs hdn hl h; exact absurd h.1 (never L hs hl)
  | succ m ih =>
    intro L a w hs hdn hl h
    refine ⟨fun hr => (never L hs hl (rd L hr)).elim, fun i hi => ?_⟩
    have hi' := (nop_ready hsz hn).2 hi
    have hw := h.2 i hi'
    obtain ⟨h0, oi, ho, hedge⟩ := mem_ready.1 hi'
    have hlt : i < n + 1 := by rw [← hsz']; exact (Array.getElem?_eq_some_iff.1 ho).1
    have hset : ∀ j, Lst (L.setIfInBounds i true) j ↔ (j = i ∨ Lst L j) := fun j => Lst.set (by rw [hs]; exact hlt)
    have hdn' : ∀ (j : Nat) oj, Lst (L.setIfInBounds i true) j → (nopped ops)[j]? = some oj → ∀ e ∈ oj.after, Region.binds .any e = true → Lst (L.setIfInBounds i true) e.on := by
      intro j oj hj hoj e he hb
      rw [hset] at hj ⊢
      rcases hj with rfl | hj
      · rw [ho] at hoj; cases hoj; exact .inr (hedge e he hb)
      · exact .inr (hdn j oj hj hoj e he hb)
    by_cases e : i = n
    · subst e
      have hk := wpOp_nop hsz hn (hgs i o hn) hw
      have all : ∀ j, j < i + 1 → Lst (L.setIfInBounds i true) j := fun j hj => by
        rw [hset]
        by_cases e : j = i
        · exact .inl e
        · exact .inr (has_listed hback hdn (i + 1) i oi (Nat.lt_succ_self _) ho hedge j (hall j (by omega)))
      have hnil : ∀ ops' : Array Oper, ops'.size = i + 1 → Region.ready .any ops' (L.setIfInBounds i true) = [] := fun ops' hs' => by
        apply List.eq_nil_iff_forall_not_mem.2
        intro j hj
        obtain ⟨g0, oj, goj, _⟩ := mem_ready.1 hj
        have hj' : j < i + 1 := by rw [← hs']; exact (Array.getElem?_eq_some_iff.1 goj).1
        have := all j hj'
        unfold Lst at this
        rw [← getD_lst (by simp [hs]; omega), g0] at this
        cases this
      have hq : Q1 .normal a w := by
        cases m with
        | zero => exact hk.2
        | succ m => exact hk.1 (hnil _ hsz')
      refine wpOp_last hn (hgs i o hn) (wp_exits (fun _ _ _ h => h) (fun _ _ h => h) (fun a' w' hq' => ?_) (hop a w hq))
      cases m with
      | zero => exact ⟨hnil _ hsz, hq'⟩
      | succ m => exact ⟨fun _ => hq', fun j hj => by rw [hnil _ hsz] at hj; cases hj⟩
    · refine wpOp_swap hsz hgs h1 h2 e (fun a' w' hk => ih _ a' w' (by simp [hs]) hdn' ?_ hk) hw
      rw [hset]
      rintro (q | q)
      · exact e q.symm
      · exact hl q
end

/-! ### The rule -/
/-- A call that is told by a contract over the hidden state. -/
def SaysI (P : Program) (I : Hid σ) (h : AH) (s : σ) (f : FuncId) (args : List Value) (v : Value) (h1 : AH) (s1 : σ) : Prop :=
  ∀ (F : Nat → Prop) (w0 : World) (μ : Mp) (w : World) (args' : Array Value), HR F w0 μ h w → With I F μ h s w → LR μ args args'.toList →
    Goes P f args' w fun v' w' => ∃ μ', VR μ' v v' ∧ HR F w0 μ' h1 w' ∧ With I F μ' h1 s1 w' ∧ Ext μ μ' h h1

theorem goes_wp {o : Oper} {c : Call} {a : Act} {w : World} {μ : Mp} {ρ : Operand → Option Value} {f : FuncId} {args : List Value} (hcall : callOp? o.op = some c) (hq : callee? ρ c = some (f, args))
    (hr : ∀ x v, ρ x = some v → VR μ v (a.eval x)) {R : Value → World → Prop} (G : ∀ args' : Array Value, LR μ args args'.toList → Goes P f args' w R) {next : Act → World → Prop} {Q : Exit → Act → World → Prop}
    (K : ∀ v' w', R v' w' → next (a.put o.dst v') w') : o.wp P a w next Q := by
  have ho := callOp_spec hcall
  unfold callee? at hq
  split at hq
  · rename_i fv hfv
    split at hq
    · rename_i f0 first captured args0 hf0 ha0
      cases hq
      obtain ⟨f', c', e1, l1, l2⟩ := (hr _ _ hf0).func_inv
      have l3 : LR μ args0 (c.args.map a.eval).toList := by rw [Array.toList_map]; exact mapM_rel hr _ _ ha0
      have G' := G ((f' ++ c.args.map a.eval) ++ c') (by simp only [Array.toList_append]; exact (l1.append l3).append l2)
      have ex : execOp a.eval o = callFunc f ((f' ++ c.args.map a.eval) ++ c') := by
        simp only [execOp, ho, resolve, hfv, e1, Deferred.ofValue, pure_bind, invoke]
      unfold Oper.wp
      rw [ex]
      rcases G' with ⟨g1, g2⟩ | ⟨v', w', g1, q⟩
      · rw [g1, Oper.upon_enter]
        refine Calls.mono g2 fun e' w' hh => ?_
        obtain ⟨v', rfl, q⟩ := hh
        exact K _ _ q
      · rw [g1]
        exact K _ _ q
    · cases hq
  · cases hq

theorem plan_anyI (hm : P.follows .mixedOrders = true) {call : CallF} (hc : CallOk P call) {F : Nat → Prop} {w0 : World} {ops : Array Oper} {af af' : AF} {hs : List AF} {μ : Mp} {a : Act} {w : World} {Q : Exit → Act → World → Prop}
    (p : Plan P call ops af af' hs) (R : AR F w0 μ af a w) (K : ∀ a' w', Onward F w0 μ af.h a.defers af' a' w' → Q .normal a' w') :
    wpAny P .any ops Q ops.size (Array.replicate ops.size false) a { w with drawn := w.drawn + 1 } := by
  refine any_ok hc p K ops.size _ _ _ ?_ ?_
  · unfold unl
    refine Nat.le_trans (List.countP_le_length) (by simp)
  · have no : ∀ i, ¬ Lst (Array.replicate ops.size false) i := fun i => by
      unfold Lst
      simp only [Array.getD_eq_getD_getElem?, Array.getElem?_replicate]
      split <;> simp
    obtain ⟨s, q1, q2, q3, q4⟩ := next_stage ops ops.size 0 (by omega)
    refine ⟨by simp, fun i o hi => absurd hi (no i), ⟨s, μ, af.h, ⟨q2, q3, fun q o h1 h2 => ?_⟩, ?_, R.heap.drawn _, Ext.refl μ _, fun t ht u hu => ?_, fun t _ u hu => R.tm t trivial u hu⟩, R.sz, rfl⟩
    · constructor
      · intro h; have := q4 q o (Nat.zero_le _) h h1; rw [h2] at this; cases this
      · intro h; exact absurd h (no q)
    · have := p.lights 0 s (by omega) fun q o a b c => q4 q o a (by omega) c
      rw [Nat.zero_add] at this
      rw [this, p.tr.first]; rfl
    · rcases ht with ht | ht
      · rw [p.tr.keep t (.inr (by rw [R.sz]; exact ht))] at hu; exact R.tm t trivial u hu
      · rw [p.tr.keep t (.inl fun j q hq hd => no j (ht j q (by simpa using hq) hd))] at hu; exact R.tm t trivial u hu

theorem RunsI.cb (hm : P.follows .mixedOrders = true) {call : CallF} (hc : CallOk P call) {I : Hid σ} {k : Nat} {c : Code} {af : AF} {s s1 : σ} {Q : AExit → AF → σ → Prop} (hI : I.k ≤ k) (ov : List Via) (pairs : List (Nat × Nat)) (hk : Nat.ble k af.h.next = true)
    (hg : (lastOk c && ((!isDr c || statOk (regOps (nopC c)) (masks (regOps (nopC c)).toList [])) && (pairsIn (regOps (nopC c)).toList.length pairs && apart (foes ov)))) = true)
    (hp : isDr c = false ∨ (dynPairs P (regOps (nopC c)) (masks (regOps (nopC c)).toList []) = pairs ∧ DynL P call (nopC c) ov af pairs))
    (hs : (endV P call (nopC c) ov af).isSome = true) (ob : OblV P call (nopC c) af ov ov) {f : FuncId} {args : List Value} {v : Value} {h1 : AH}
    (hcl : callIn (aftV P call (nopC c) ov af) (lastOp c) = some (f, args)) (hsay : SaysI P I (aftV P call (nopC c) ov af).h s f args v h1 s1)
    (q : Q .normal ((aftV P call (nopC c) ov af).put (lastOp c).dst v h1) s1) : RunsI P I k c af s Q := by
  simp only [Bool.and_eq_true] at hg
  obtain ⟨hl, g2, g3, g4⟩ := hg
  have hle := Nat.le_of_ble_eq_true hk
  have hend : endV P call (nopC c) ov af = some (aftV P call (nopC c) ov af) := by
    unfold aftV
    cases h : endV P call (nopC c) ov af with
    | none => rw [h] at hs; cases hs
    | some b => rfl
  have hL : (opsL P (anyOf (told P call (nopC c) af ov ov) call) (regOps (nopC c)) (regOps (nopC c)).toList af).map (·.1) = some (aftV P call (nopC c) ov af) := by
    have := opsV_opsL g4 ob (regOps (nopC c)).toList.length (aftV P call (nopC c) ov af)
    rw [List.take_length] at this
    exact this hend
  have hcall := anyOf_ok hc (told_says ob)
  have pre : ∀ i, opsV P call (regOps (nopC c)) ov (foes ov) 0 ((regOps (nopC c)).toList.take i) af = some (preV P call (nopC c) ov af i) := by
    intro i
    have h1 := hend
    unfold endV at h1
    rw [← List.take_append_drop i (regOps (nopC c)).toList, opsV_app] at h1
    unfold preV
    cases h2 : opsV P call (regOps (nopC c)) ov (foes ov) 0 ((regOps (nopC c)).toList.take i) af with
    | none => rw [h2] at h1; cases h1
    | some b => rfl
  intro F w0 μ a w R ⟨B, A, hF, ho⟩
  have R1 : AR (fun b => F b ∨ B b) w μ af a w := ⟨R.heap.both (I.lt A) ho, R.tm, R.sz⟩
  -- the call, from where the rest has come to
  have hop : ∀ a' w', Onward (fun b => F b ∨ B b) w μ af.h a.defers (aftV P call (nopC c) ov af) a' w' → (lastOp c).wp P a' w' (RunPostI I F w0 k μ af.h a.defers Q .normal) (RunPostI I F w0 k μ af.h a.defers Q) := by
    rintro a' w' ⟨μ', r1, r2, r3⟩
    have kp : Held k μ μ' af.h (aftV P call (nopC c) ov af).h := .of_ext r2 hle
    unfold callIn at hcl
    split at hcl
    · rename_i cl hcl0
      refine goes_wp hcl0 hcl (fun x v hv => evalA_ok r1.tm (fun _ _ => trivial) hv) (fun args' hl' => hsay F w0 μ' w' args' (R.heap.back r1.heap) (With.after A hF r1.heap (fun i hi => (kp i (Nat.lt_of_lt_of_le hi hI)).1)) hl') ?_
      rintro v' w'' ⟨μ2, g1, g2, g3, g4⟩
      have R2 : AR F w0 μ' (aftV P call (nopC c) ov af) a' w' := ⟨R.heap.back r1.heap, r1.tm, r1.sz⟩
      have R3 := R2.put g4 g1 g2 (lastOp c).dst
      refine ⟨.normal, _, s1, q, trivial, by rw [Act.put_def]; exact r3, μ2, R3, by rw [AF.put_h]; exact g3, ?_⟩
      rw [AF.put_h]
      exact kp.trans (.of_ext g4 (Nat.le_trans hle r2.next))
    · cases hcl
  cases c with
  | region id ops d =>
    simp only [lastOk, Bool.and_eq_true, Nat.blt_eq] at hl
    obtain ⟨hpos, hgd, hall⟩ := hl
    obtain ⟨n, hn⟩ : ∃ n, ops.size = n + 1 := ⟨ops.size - 1, by omega⟩
    have hgs : ∀ (i : Nat) o, ops[i]? = some o → o.guard = none := fun i o hio => by
      have := List.all_eq_true.1 hgd o (List.mem_of_getElem? (by rw [Array.getElem?_toList]; exact hio))
      simpa using this
    have hlast : ops[n]? = some (lastOf ops) := by
      unfold lastOf
      rw [hn, Nat.add_sub_cancel, Array.getD_eq_getD_getElem?, Array.getElem?_eq_getElem (by omega)]
      rfl
    let Q1 : Exit → Act → World → Prop := fun e a' w' => match e with
      | .normal => Onward (fun b => F b ∨ B b) w μ af.h a.defers (aftV P call (nopC (.region id ops d)) ov af) a' w'
      | e => RunPostI I F w0 k μ af.h a.defers Q e a' w'
    have hop' : ∀ a' w', Q1 .normal a' w' → (lastOf ops).wp P a' w' (RunPostI I F w0 k μ af.h a.defers Q .normal) (RunPostI I F w0 k μ af.h a.defers Q) := fun a' w' h => hop a' w' h
    have hsz' : (nopped ops).size = n + 1 := by unfold nopped; simp [hn]
    cases ho2 : opsL P (anyOf (told P call (nopC (.region id ops d)) af ov ov) call) (nopped ops) (nopped ops).toList af with
    | none =>
      have hL' : (opsL P (anyOf (told P call (nopC (.region id ops d)) af ov ov) call) (nopped ops) (nopped ops).toList af).map (·.1) = some (aftV P call (nopC (.region id ops d)) ov af) := hL
      rw [ho2] at hL'; cases hL'
    | some r =>
      obtain ⟨a2, hss⟩ := r
      have ha2 : a2 = aftV P call (nopC (.region id ops d)) ov af := by
        have hL' : (opsL P (anyOf (told P call (nopC (.region id ops d)) af ov ov) call) (nopped ops) (nopped ops).toList af).map (·.1) = some (aftV P call (nopC (.region id ops d)) ov af) := hL
        rw [ho2] at hL'
        exact Option.some.inj hL'
      cases d with
      | false =>
        refine wp_region ?_
        have := ops_ok hcall (ops := nopped ops) (Q := Q1) (nopped ops).toList 0 af a2 hss μ a w (fun i => by simp) ho2 R1 (fun a' w' h => by rw [ha2] at h; exact h)
        rw [Array.length_toList, ← List.range_eq_range', hsz', List.range_succ] at this
        rw [hn, List.range_succ]
        exact ops_last (Q1 := Q1) (Q := RunPostI I F w0 k μ af.h a.defers Q) hn hlast hgs (fun _ _ _ h => h) (fun _ _ h => h) hop' _ (fun i hi => by have := List.mem_range.1 hi; omega) a w this
      | true =>
        obtain ⟨hp, dy⟩ := hp.resolve_left (fun h => by cases h)
        have st : ∀ i, i ≤ (nopped ops).toList.length → hss[i]? = some (preV P call (nopC (.region id ops true)) ov af i) := by
          intro i hi
          obtain ⟨ai, q1, q2⟩ := opsL_states (nopped ops).toList af _ hss ho2 i hi
          have q3 := opsV_opsL g4 ob i _ (pre i)
          have q4 : (opsL P (anyOf (told P call (nopC (.region id ops true)) af ov ov) call) (nopped ops) ((nopped ops).toList.take i) af).map (·.1) = some (preV P call (nopC (.region id ops true)) ov af i) := q3
          rw [q2] at q4
          rw [q1]
          exact q4
        have dg : ∀ x ∈ dynPairs P (nopped ops) (masks (nopped ops).toList []), DynGood P (nopped ops) hss x := by
          intro x hx
          have hx' : x ∈ pairs := by rw [← hp]; exact hx
          obtain ⟨l1, l2⟩ := pairsIn_at g3 x hx'
          have l1' : x.1 < (nopped ops).toList.length := l1
          have l2' : x.2 ≤ (nopped ops).toList.length := l2
          obtain ⟨v, h2, e1, e2⟩ := dynL_at dy x hx'
          have hopx : (nopped ops)[x.1]? = some (opAt (nopC (.region id ops true)) x.1) := by
            unfold opAt
            show (nopped ops)[x.1]? = some ((nopped ops).getD x.1 default)
            rw [Array.getD_eq_getD_getElem?]
            have : x.1 < (nopped ops).size := by simpa using l1'
            rw [Array.getElem?_eq_getElem this]
            rfl
          exact ⟨_, _, _, _, hopx, st x.2 l2', st x.1 (by omega), st (x.1 + 1) (by omega), .inr ⟨v, h2, e1, e2⟩⟩
        have pl : Plan P (anyOf (told P call (nopC (.region id ops true)) af ov ov) call) (nopped ops) af a2 hss := ⟨traced _ _ _ _ ho2, g2, dg⟩
        refine wp_region_any hm ?_
        have no : ∀ i, ¬ Lst (Array.replicate (n + 1) false) i := fun i => by
          unfold Lst
          simp only [Array.getD_eq_getD_getElem?, Array.getElem?_replicate]
          split <;> simp
        have := plan_anyI hm hcall (Q := Q1) pl R1 (fun a' w' h => by rw [ha2] at h; exact h)
        rw [hsz'] at this
        rw [hn]
        refine any_last (Q1 := Q1) (Q := RunPostI I F w0 k μ af.h a.defers Q) hn hlast hgs (fun _ _ _ h => h) (fun _ _ h => h) pl.back (fun j hj => ?_) hop' (n + 1) _ a _ (by simp) (fun i o hi => absurd hi (no i)) (no n) this
        rcases Bool.or_eq_true _ _ ▸ hall with h | h
        · cases h
        · have := List.all_eq_true.1 h j (List.mem_range.2 (by omega))
          rw [hn, Nat.add_sub_cancel] at this
          exact this
  | _ => cases hl
end
end Go.R

/- Contracts over hidden states: made from a body's walk, told in greater heaps, and hiding one's own heap from a callee. -/
namespace Go.R
set_option linter.unusedVariables false
set_option linter.unusedSimpArgs false
open Go Go.RowKit
noncomputable section
variable {P : Program} {σ : Type}

/-! ### From a walk -/
theorem callsI_of {I : Hid σ} {k : Nat} {s : σ} {f : FuncId} {fn : Func} {c : Code} (hf : P.funcs[f]? = some fn) (hb : fn.body = some c) (hr0 : fn.results.toList = []) {args : List Value} {h : AH} {Q : AH → σ → Prop}
    (hr : RunsI P I k c (entry fn args h) s fun x af' s' => (x = .normal ∨ x = .ret) ∧ Q af'.h s')
    {F : Nat → Prop} {w0 : World} {μ : Mp} {w : World} {args' : Array Value} (H : HR F w0 μ h w) (W : With I F μ h s w) (hl : LR μ args args'.toList) :
    Calls P f args' w fun e w' => e = .returned (.tuple #[]) ∧ ∃ h' s', Q h' s' ∧ ∃ μ', HR F w0 μ' h' w' ∧ With I F μ' h' s' w' ∧ Held k μ μ' h h' := by
  have hlen : args.length = args'.size := by have := hl.1; simpa using this
  have A : AR F w0 μ (entry fn args h) { tmps := args' ++ Array.replicate (fn.ntmps - args'.size) undef, defers := [] } w := by
    refine ⟨H, fun t _ u hu => ?_, by simp [entry, hlen]⟩
    simp only [entry, initTm_get, Nat.zero_le, Nat.zero_add, true_and, Nat.sub_zero] at hu
    simp only [Array.getD_eq_getD_getElem?]
    by_cases ht : t < args.length
    · rw [if_pos ht] at hu
      rw [Array.getElem?_append_left (by omega)]
      obtain ⟨v', q1, q2⟩ := hl.at_ hu
      rw [← Array.getElem?_toList, q1]
      exact q2
    · rw [if_neg ht] at hu
      cases hu
  refine calls_of_wp hf hb (wp_mono (Wp.wp (hr F w0 μ _ w A W)) fun e a' w' ⟨x, af', s', ⟨hx, q2⟩, sx, d, μ', r, wi, kp⟩ => ?_)
  have hrun : (results fn a'.tmps).run P w' = .ok (.tuple #[]) w' := by
    rw [results_eq, Array.mapM_eq_mapM_toList, hr0]
    simp
  have fin : a'.defers = [] ∧ ∃ v', (results fn a'.tmps).run P w' = .ok v' w' ∧ (Ending.returned v' = .returned (.tuple #[]) ∧ ∃ h' s', Q h' s' ∧ ∃ μ', HR F w0 μ' h' w' ∧ With I F μ' h' s' w' ∧ Held k μ μ' h h') :=
    ⟨d, _, hrun, rfl, af'.h, s', q2, μ', r.heap, wi, kp⟩
  rcases hx with rfl | rfl
  · cases e with
    | normal => exact fin
    | _ => exact sx.elim
  · cases e with
    | ret => exact fin
    | _ => exact sx.elim

/-- The end of a body that answers nothing: the first objects as they are to be, the rest forgotten. -/
def EndI (h h1 : AH) (s1 : σ) (x : AExit) (af' : AF) (s' : σ) : Prop :=
  (x = .normal ∨ x = .ret) ∧ (s' = s1 ∧ h.next ≤ af'.h.next ∧ ∀ i, i < h.next → h1.get i = .dead ∨ (h1.get i = af'.h.get i ∧ CloO h.next (af'.h.get i)))

theorem saysI_of (hn : NoNum P) {I : Hid σ} {s s1 : σ} {f : FuncId} {fn : Func} {c : Code} (hf : P.funcs[f]? = some fn) (hb : fn.body = some c) (hr0 : fn.results.toList = []) {args : List Value} {h h1 : AH} (hI : I.k ≤ h.next) (h1n : h1.next = h.next)
    (kill : ∀ i, i < h.next → h1.get i = .dead → h.get i = .dead ∨ ∃ (q : Nat) (u : Value), args[q]? = some u ∧ Born i u)
    (hr : RunsI P I h.next c (entry fn args h) s (EndI h h1 s1)) : SaysI P I h s f args (.tuple #[]) h1 s1 := by
  intro F w0 μ w args' H W hl
  refine .inl ⟨enters hn hf hb args' w, Calls.mono (callsI_of (Q := fun h' s' => s' = s1 ∧ h.next ≤ h'.next ∧ ∀ i, i < h.next → h1.get i = .dead ∨ (h1.get i = h'.get i ∧ CloO h.next (h'.get i))) hf hb hr0 hr H W hl) ?_⟩
  rintro e w' ⟨rfl, h', s', ⟨rfl, hle, hend⟩, μ', H', W', K⟩
  refine ⟨_, rfl, μ, VR.undef, ?_, ?_, ?_⟩
  · have eqμ : ∀ i, i < h.next → μ' i = μ i := fun i hi => (K i hi).1
    have subμ : Sub (μ'.cut h.next) μ := fun i p hi => by
      obtain ⟨hlt, hm⟩ := cut_some hi
      rw [← eqμ i hlt]; exact hm
    refine ⟨fun i p hi => by rw [h1n]; exact H.dom i p hi, fun i b z e hi => ?_, fun i b z e hi hw => ?_, fun i j b zi ei zj ej hne hi hj => ?_, fun i c l p ty hi hg j hj => ?_, H'.os, H'.tape, H'.output, H'.size, H'.fr⟩
    · have hlt := H.dom i _ hi
      rcases hend i hlt with q | ⟨q1, q2⟩
      · rw [q]; trivial
      · rw [q1]; exact ((H'.obj i b z e ((eqμ i hlt).trans hi)).cut q2).mono subμ
    · have hlt := H.dom i _ hi
      rcases hend i hlt with q | ⟨q1, q2⟩
      · rw [q] at hw; cases hw
      · rw [q1] at hw; exact H'.own i b z e ((eqμ i hlt).trans hi) hw
    · have hlt := H.dom i _ hi
      have hlt' := H.dom j _ hj
      rcases hend i hlt with q | ⟨q1, q2⟩
      · rw [q]; exact .inl (by unfold share; trivial)
      · rcases hend j hlt' with q' | ⟨q1', _⟩
        · rw [q']; exact .inr (.inl (by unfold share; trivial))
        · rw [q1, q1']; exact H'.sep i j b zi ei zj ej hne ((eqμ i hlt).trans hi) ((eqμ j hlt').trans hj)
    · have hlt : i < h.next := by
        cases hm : μ i with
        | none => exact absurd hm hi
        | some p => exact H.dom i p hm
      rcases hend i hlt with q | ⟨q1, q2⟩
      · rw [q] at hg; cases hg
      · rw [q1] at hg
        rw [hg] at q2
        have hjk := q2.2 j hj
        rw [← eqμ j hjk]
        exact H'.par i c l p ty (by rw [eqμ i hlt]; exact hi) hg j hj
  · obtain ⟨B, A, hF, ho⟩ := W'
    refine ⟨B, I.loc (fun i hi => ((K i (Nat.lt_of_lt_of_le hi hI)).1).symm) A, hF, fun i b z e hi hw => ?_⟩
    have hlt := H.dom i _ hi
    rcases hend i hlt with q | ⟨q1, q2⟩
    · rw [q] at hw; cases hw
    · rw [q1] at hw; exact ho i b z e ((K i hlt).1.trans hi) hw
  · refine ⟨Sub.refl μ, Nat.le_of_eq h1n.symm, fun i hi hm => ⟨hm, ?_⟩⟩
    rcases hend i hi with q | ⟨q1, _⟩
    · rcases kill i hi q with g | ⟨j, u, g1, g2⟩
      · rw [q, g]
      · obtain ⟨v', _, g4⟩ := hl.at_ g1
        exact absurd hm (g2 μ v' g4)
    · rw [q1]; exact (K i hi).2 hm

/-! ### Heaps without shares -/
def tidyOb : AObj → Bool
  | .cells _ true [] _ => true
  | .dead => true
  | _ => false
def tidy (h : AH) : Bool := (List.range h.next).all fun i => tidyOb (h.get i)

theorem tidy_at {h : AH} (t : tidy h = true) {i : Nat} (hi : i < h.next) : h.get i = .dead ∨ ∃ c ty, h.get i = .cells c true [] ty := by
  have := List.all_eq_true.1 t i (List.mem_range.2 hi)
  unfold tidyOb at this
  split at this
  · rename_i c ty e; exact .inr ⟨c, ty, e⟩
  · rename_i e; exact .inl e
  · cases this

theorem no_share {x y : AObj} {i zi j zj : Nat} {c c' : List Value} {t t' : Option TypeId} (hx : x = .cells c true [] t) (hy : y = .cells c' true [] t') : ¬ okShare x i zi y j zj := by
  subst hx; subst hy
  rintro (h | h | h)
  · exact h
  · exact h
  · cases h.1

theorem tidy_apart {F : Nat → Prop} {w0 w : World} {μ : Mp} {h : AH} (H : HR F w0 μ h w) (t : tidy h = true) {i j b zi ei zj ej : Nat} (hi : μ i = some (b, zi, ei)) (hj : μ j = some (b, zj, ej)) (di : h.get i ≠ .dead) (dj : h.get j ≠ .dead) : i = j := by
  by_cases e : i = j
  · exact e
  · have s := H.sep i j b zi ei zj ej e hi hj
    rcases tidy_at t (H.dom i _ hi) with g | ⟨c, ty, g⟩
    · exact absurd g di
    · rcases tidy_at t (H.dom j _ hj) with g' | ⟨c', ty', g'⟩
      · exact absurd g' dj
      · exact absurd s (no_share g g')

theorem tidy_wr {h : AH} (t : tidy h = true) {i : Nat} (hi : i < h.next) (d : h.get i ≠ .dead) : (h.get i).wr = true := by
  rcases tidy_at t hi with g | ⟨c, ty, g⟩
  · exact absurd g d
  · rw [g]; rfl

/-! ### A list of numbers as an argument -/
def planV (q : Nat) (l : List Nat) : Value := match l with
  | [] => .slice none 0 0
  | _ => .slice (some ⟨q, 0, some 1⟩) l.length l.length
def planO (ty : Option TypeId) (l : List Nat) : AObj := match l with
  | [] => .dead
  | _ => .cells (l.map (fun x => .int .i64 (.ofNat x))) true [] ty

def roots : List AObj := List.replicate 16 .dead
theorem roots_at {i : Nat} (hi : i < 16) (l : List AObj) : (hp (roots ++ l)).get i = .dead := by
  refine hp_get _ _ _ ?_
  unfold roots
  rw [List.getElem?_append_left (by rw [List.length_replicate]; exact hi), List.getElem?_replicate, if_pos hi]
theorem roots_next (o : AObj) : (hp (roots ++ [o])).next = 17 := hp_next _
theorem roots_last (o : AObj) : (hp (roots ++ [o])).get 16 = o := hp_get _ _ _ rfl

/-- What a callback does to the hidden state, its captured pointers at the first places. -/
def capsAt (ps : List Nat) : List Value := ps.map fun p => .pointer (some ⟨p, 0, none⟩)
def CB (P : Program) (I : Hid σ) (ty : Option TypeId) (f : FuncId) (m : Nat) (ok : List Nat → Nat → Nat → Prop) (step : σ → List Nat → Nat → Nat → σ) : Prop :=
  ∀ (s : σ) (l : List Nat) (t d : Nat), ok l t d →
    SaysI P I (hp (roots ++ [planO ty l])) s f (planV 16 l :: .int .i64 (.ofNat t) :: .int .i64 (.ofNat d) :: capsAt (List.range m)) (.tuple #[]) (hp (roots ++ [.dead])) (step s l t d)

theorem planO_cases (ty : Option TypeId) (q : Nat) (l : List Nat) : (planO ty l = .dead ∧ planV q l = .slice none 0 0) ∨ (planO ty l = .cells (l.map (fun x => .int .i64 (.ofNat x))) true [] ty ∧ planV q l = .slice (some ⟨q, 0, some 1⟩) l.length l.length) := by
  cases l with
  | nil => exact .inl ⟨rfl, rfl⟩
  | cons x l => exact .inr ⟨rfl, rfl⟩

theorem vr_caps {μ : Mp} {ps : List Nat} {l : List Value} (h : LR μ (capsAt ps) l) {μ' : Mp} {qs : List Nat} (hq : qs.length = ps.length) (e : ∀ (j p q : Nat), ps[j]? = some p → qs[j]? = some q → μ' q = μ p) : LR μ' (capsAt qs) l := by
  refine ⟨by rw [← h.1]; simp [capsAt, hq], fun k v v' hv hv' => ?_⟩
  unfold capsAt at hv h
  rw [List.getElem?_map, Option.map_eq_some_iff] at hv
  obtain ⟨q, hq1, rfl⟩ := hv
  have hk : k < ps.length := by rw [← hq]; exact (List.getElem?_eq_some_iff.1 hq1).1
  have := h.2 k (.pointer (some ⟨ps[k], 0, none⟩)) v' (by rw [List.getElem?_map, List.getElem?_eq_getElem hk]; rfl) hv'
  obtain ⟨b, z, ee, g1, rfl⟩ := this.ptr_inv
  exact .ptr (by rw [e k ps[k] q (List.getElem?_eq_getElem hk) hq1]; exact g1)

/-- The callback, called from a heap of one's own in which the list stands at some place. -/
theorem cb_told {I : Hid σ} (hI : I.k ≤ 16) {ty : Option TypeId} {f : FuncId} {m : Nat} {ok : List Nat → Nat → Nat → Prop} {step : σ → List Nat → Nat → Nat → σ} (C : CB P I ty f m ok step) (hm : m ≤ 16) (s : σ) (l : List Nat) (t d : Nat) (hok : ok l t d)
    {h h1 : AH} {q : Nat} {tp : Option TypeId} (g0 : ∀ i, i < 16 → h.get i = .dead) (hlow : 16 ≤ h.next) (td : tidy h = true) (hq : planO tp l = .dead ∨ (16 ≤ q ∧ q < h.next ∧ h.get q = planO tp l)) (htp : ty = none ∨ ty = tp)
    (e1 : h1 = match l with | [] => h | _ => h.put q .dead) :
    SaysI P I h s f (planV q l :: .int .i64 (.ofNat t) :: .int .i64 (.ofNat d) :: capsAt (List.range m)) (.tuple #[]) h1 (step s l t d) := by
  intro F w0 μ w args' H ⟨B, A, hF, ho⟩ hl
  obtain ⟨l0, hl0⟩ : ∃ l0, args'.toList = l0 := ⟨_, rfl⟩
  rw [hl0] at hl
  match l0, hl with
  | y0 :: ys, hl =>
  -- the small map
  obtain ⟨pl, hpl⟩ : ∃ pl : Option (Nat × Nat × Nat), pl = match l with | [] => none | _ => μ q := ⟨_, rfl⟩
  let μ1 : Mp := fun j => if j < 16 then μ j else if j = 16 then pl else none
  have m1 : ∀ {j}, j < 16 → μ1 j = μ j := fun hj => if_pos hj
  have m16 : μ1 16 = pl := rfl
  have mhi : ∀ {j}, 16 < j → μ1 j = none := fun {j} hj => by
    show (if j < 16 then _ else if j = 16 then _ else none) = none
    rw [if_neg (by omega), if_neg (by omega)]
  let F1 : Nat → Prop := fun x => F x ∨ ∃ i z e, (l = [] ∨ i ≠ q) ∧ μ i = some (x, z, e) ∧ h.get i ≠ .dead
  -- the row
  have row : l = [] ∨ (l ≠ [] ∧ 16 ≤ q ∧ h.get q = .cells (l.map (fun x => .int .i64 (.ofNat x))) true [] tp ∧ ∃ b z e, μ q = some (b, z, e) ∧ pl = some (b, z, e)) := by
    cases l with
    | nil => exact .inl rfl
    | cons x l =>
      rcases hq with hq | ⟨q1, q2, q3⟩
      · cases hq
      · obtain ⟨b, z, e, c', hm', _⟩ := (show VR μ (.slice (some ⟨q, 0, some 1⟩) (x :: l).length (x :: l).length) y0 from hl.head).sliceU_inv
        exact .inr ⟨by simp, q1, q3, b, z, e, hm', hpl.trans hm'⟩
  have ints : ∀ v ∈ l.map (fun x => Value.int .i64 (.ofNat x)), plainV v = true := fun v hv => by
    obtain ⟨x, _, rfl⟩ := List.mem_map.1 hv; rfl
  have H1 : HR F1 w μ1 (hp (roots ++ [planO ty l])) w := by
    refine ⟨fun i p hi => ?_, fun i b z e hi => ?_, fun i b z e hi hw => ?_, fun i j b zi ei zj ej hne hi hj => ?_, fun i c lv p ty' hi hg j hj => ?_, rfl, rfl, rfl, Nat.le_refl _, fun b hb => ?_⟩
    · rw [roots_next]
      by_cases h16 : 16 < i
      · rw [mhi h16] at hi; cases hi
      · omega
    · by_cases h16 : i < 16
      · rw [roots_at h16]; trivial
      · have : i = 16 := by
          by_cases h17 : 16 < i
          · rw [mhi h17] at hi; cases hi
          · omega
        subst this
        rw [roots_last]
        rcases row with rfl | ⟨hne, h16q, hgq, b', z', e', r1, r2⟩
        · rw [m16, hpl] at hi; cases hi
        · rw [m16, r2] at hi
          cases hi
          have hob := H.obj q b z e r1
          rw [hgq] at hob
          rcases planO_cases ty 16 l with ⟨g, _⟩ | ⟨g, _⟩
          · rw [g]; trivial
          · rw [g]
            obtain ⟨cs, el, fr, h1', h2', h3', h4', h5', h6'⟩ := hob
            refine ⟨cs, el, fr, h1', h2', h3', fun k v hk => ?_, h5', fun t ht => ?_⟩
            · obtain ⟨v', g1, g2⟩ := h4' k v hk
              have hp := ints v (List.mem_of_getElem? hk)
              exact ⟨v', g1, by rw [plain_same g2 hp]; exact .plain hp⟩
            · rcases htp with rfl | rfl
              · cases ht
              · exact h6' t ht
    · by_cases h16 : i < 16
      · rw [roots_at h16] at hw; cases hw
      · have : i = 16 := by
          by_cases h17 : 16 < i
          · rw [mhi h17] at hi; cases hi
          · omega
        subst this
        rcases row with rfl | ⟨hne, h16q, hgq, b', z', e', r1, r2⟩
        · rw [m16, hpl] at hi; cases hi
        · rw [m16, r2] at hi
          cases hi
          rintro (q1 | ⟨j, zj, ej, q1, q2, q3⟩)
          · exact H.own q b z e r1 (by rw [hgq]; rfl) q1
          · have := tidy_apart H td q2 r1 q3 (by rw [hgq]; intro h; cases h)
            rcases q1 with q1 | q1
            · exact hne q1
            · exact q1 this
    · have : i < 16 ∨ j < 16 := by
        by_cases h1 : i < 16
        · exact .inl h1
        · by_cases h2 : j < 16
          · exact .inr h2
          · exfalso
            have e1 : i = 16 := by
              by_cases h17 : 16 < i
              · rw [mhi h17] at hi; cases hi
              · omega
            have e2 : j = 16 := by
              by_cases h17 : 16 < j
              · rw [mhi h17] at hj; cases hj
              · omega
            omega
      rcases this with h | h
      · rw [roots_at h]; exact .inl (by unfold share; trivial)
      · rw [roots_at h]; exact .inr (.inl (by unfold share; trivial))
    · by_cases h16 : i < 16
      · rw [roots_at h16] at hg; cases hg
      · have : i = 16 := by
          by_cases h17 : 16 < i
          · exact absurd (mhi h17) hi
          · omega
        subst this
        rw [roots_last] at hg
        rcases planO_cases ty 16 l with ⟨g, _⟩ | ⟨g, _⟩
        · rw [g] at hg; cases hg
        · rw [g] at hg; cases hg; cases hj
    · rcases hb with hb | ⟨i, z, e, _, q2, q3⟩
      · exact ⟨Nat.lt_of_lt_of_le (H.fr b hb).1 H.size, rfl⟩
      · exact ⟨H.inb q2 q3, rfl⟩
  have W1 : With I F1 μ1 (hp (roots ++ [planO ty l])) s w := by
    refine ⟨B, I.loc (fun i hi => m1 (Nat.lt_of_lt_of_le hi hI)) A, fun b hb hf => ?_, fun i b z e hi hw => ?_⟩
    · rcases hf with hf | ⟨i, z, e, _, q2, q3⟩
      · exact hF b hb hf
      · exact ho i b z e q2 (tidy_wr td (H.dom i _ q2) q3) hb
    · by_cases h16 : i < 16
      · rw [roots_at h16] at hw; cases hw
      · have : i = 16 := by
          by_cases h17 : 16 < i
          · rw [mhi h17] at hi; cases hi
          · omega
        subst this
        rcases row with rfl | ⟨hne, h16q, hgq, b', z', e', r1, r2⟩
        · rw [m16, hpl] at hi; cases hi
        · rw [m16, r2] at hi
          cases hi
          exact ho q b z e r1 (by rw [hgq]; rfl)
  have hl1 : LR μ1 (planV 16 l :: .int .i64 (.ofNat t) :: .int .i64 (.ofNat d) :: capsAt (List.range m)) args'.toList := by
    rw [hl0]
    refine LR.cons ?_ ?_
    · have hh := hl.head
      rcases row with rfl | ⟨hne, h16q, hgq, b', z', e', r1, r2⟩
      · obtain ⟨_, _, rfl⟩ := (show VR μ (.slice none 0 0) y0 from hh).sliceN_inv
        exact .plain rfl
      · rcases planO_cases ty q l with ⟨_, g⟩ | ⟨_, g⟩
        · cases l with
          | nil => exact absurd rfl hne
          | cons x l => cases g
        · rw [g] at hh
          rcases planO_cases ty 16 l with ⟨_, g'⟩ | ⟨_, g'⟩
          · cases l with
            | nil => exact absurd rfl hne
            | cons x l => cases g'
          · rw [g']
            obtain ⟨b, z, e, c', hm', p1, p2, p3, rfl⟩ := hh.sliceU_inv
            rw [r1] at hm'
            cases hm'
            exact .sliceU (by rw [m16]; exact r2) p1 p2 p3
    · match ys, hl with
      | [], hl => exact absurd hl.1 (by simp)
      | [y1], hl => exact absurd hl.1 (by simp)
      | y1 :: y2 :: ys, hl =>
        refine LR.cons ?_ (LR.cons ?_ (vr_caps hl.tail.tail.tail rfl fun j p q hp hq => ?_))
        · rw [hl.tail.head.int_inv]; exact .plain rfl
        · rw [hl.tail.tail.head.int_inv]; exact .plain rfl
        · rw [hp] at hq; cases hq
          have := List.mem_range.1 (List.mem_of_getElem? hp)
          exact m1 (by omega)
  refine (C s l t d hok F1 w μ1 w args' H1 W1 hl1).mono fun v' w' ⟨μ', hv, H', ⟨B', A', hF', ho'⟩, E⟩ => ?_
  have eqμ : ∀ i, i < 16 → μ' i = μ i := fun i hi => by
    cases hm' : μ1 i with
    | none => exact ((E.unborn i (by rw [roots_next]; omega) hm').1).trans (hm'.symm.trans (m1 hi))
    | some p => exact (E.sub i p hm').trans (hm'.symm.trans (m1 hi))
  have keepB : ∀ b, F1 b → w'.heap[b]? = w.heap[b]? := fun b hb => (H'.fr b hb).2
  have gone : ∀ i, h1.get i = .dead ∨ ((l = [] ∨ i ≠ q) ∧ h1.get i = h.get i) := fun i => by
    rw [e1]
    cases l with
    | nil => exact .inr ⟨.inl rfl, rfl⟩
    | cons x l =>
      show (h.put q .dead).get i = _ ∨ _ ∧ (h.put q .dead).get i = _
      rw [AH.get_put]
      by_cases e : i = q
      · rw [if_pos e]; exact .inl rfl
      · rw [if_neg e]; exact .inr ⟨.inr e, rfl⟩
  have n1 : h1.next = h.next := by rw [e1]; cases l <;> rfl
  refine ⟨μ, flat_any hv rfl, ⟨fun i p hi => by rw [n1]; exact H.dom i p hi, fun i b z e hi => ?_, fun i b z e hi hw => ?_, fun i j b zi ei zj ej hne hi hj => ?_, fun i c lv p ty' hi hg j hj => ?_,
    H'.os.trans H.os, H'.tape.trans H.tape, H'.output.trans H.output, Nat.le_trans H.size H'.size, fun b hb => ⟨(H.fr b hb).1, (keepB b (.inl hb)).trans (H.fr b hb).2⟩⟩,
    ⟨B', I.loc (fun i hi => (eqμ i (Nat.lt_of_lt_of_le hi hI)).symm) A', fun b hb hf => hF' b hb (.inl hf), fun i b z e hi hw hb => ?_⟩, ⟨Sub.refl μ, Nat.le_of_eq n1.symm, fun i hi hm' => ⟨hm', ?_⟩⟩⟩
  · rcases gone i with g | ⟨g1, g2⟩
    · rw [g]; trivial
    · rw [g2]
      by_cases hd : h.get i = .dead
      · rw [hd]; trivial
      · exact (H.obj i b z e hi).world (keepB b (.inr ⟨i, z, e, g1, hi, hd⟩))
  · rcases gone i with g | ⟨g1, g2⟩
    · rw [g] at hw; cases hw
    · rw [g2] at hw; exact H.own i b z e hi hw
  · rcases gone i with g | ⟨g1, g2⟩
    · rw [g]; exact .inl (by unfold share; trivial)
    · rcases gone j with g' | ⟨g1', g2'⟩
      · rw [g']; exact .inr (.inl (by unfold share; trivial))
      · rw [g2, g2']; exact H.sep i j b zi ei zj ej hne hi hj
  · rcases gone i with g | ⟨g1, g2⟩
    · rw [g] at hg; cases hg
    · rw [g2] at hg; exact H.par i c lv p ty' hi hg j hj
  · rcases gone i with g | ⟨g1, g2⟩
    · rw [g] at hw; cases hw
    · rw [g2] at hw
      refine hF' b hb (.inr ⟨i, z, e, g1, hi, fun hd => ?_⟩)
      rw [hd] at hw; cases hw
  · rcases gone i with g | ⟨g1, g2⟩
    · rw [e1] at g ⊢
      cases l with
      | nil => rfl
      | cons x l =>
        show (h.put q .dead).get i = h.get i
        rw [AH.get_put]
        by_cases e : i = q
        · rcases row with r | ⟨_, _, _, b, z, ee, r1, _⟩
          · cases r
          · rw [← e, hm'] at r1; cases r1
        · rw [if_neg e]
    · exact g2
end
end Go.R

/- One's own heap, hidden from a callee: its contract over the greater hidden state. -/
namespace Go.R
set_option linter.unusedVariables false
set_option linter.unusedSimpArgs false
open Go Go.RowKit
noncomputable section
variable {P : Program} {σ : Type}

def Own (μ : Mp) (h : AH) (b : Nat) : Prop := ∃ i z e, μ i = some (b, z, e) ∧ h.get i ≠ .dead

theorem OR.inb {μ : Mp} {o : AObj} {b z e : Nat} {w : World} (h : OR μ o b z e w) (hd : o ≠ .dead) : b < w.heap.size := by
  cases o with
  | cells c live par ty => obtain ⟨cs, el, fr, h1, _⟩ := h; exact (Array.getElem?_eq_some_iff.1 h1).1
  | map es => obtain ⟨_, ms, cl, h1, _⟩ := h; exact (Array.getElem?_eq_some_iff.1 h1).1
  | str s pos => exact (Array.getElem?_eq_some_iff.1 h.2).1
  | ghost tag => obtain ⟨_, _, _, ms, cl, h1, _⟩ := h; exact (Array.getElem?_eq_some_iff.1 h1).1
  | dead => exact absurd rfl hd

/-- The hidden state with one's own heap; its first places are the given ones. -/
def Hid.hide (I : Hid σ) (μ : Mp) (h : AH) (ps : List Nat) : Hid σ where
  k := 16
  holds := fun s μ' w B' => (∀ j, j < 16 → μ' j = (ps[j]?).bind μ) ∧ (∃ B, I.holds s μ w B ∧ (∀ b, B' b ↔ (B b ∨ Own μ h b)) ∧ ∀ b, B b → ¬ Own μ h b) ∧ ∀ i b z e, μ i = some (b, z, e) → OR μ (h.get i) b z e w
  loc := fun hl ⟨a, b, c⟩ => ⟨fun j hj => (hl j hj).trans (a j hj), b, c⟩
  frame := fun ⟨a, ⟨B, b1, b2, b3⟩, c⟩ hsz hw => ⟨a, ⟨B, I.frame b1 hsz (fun b hb => hw b ((b2 b).2 (.inl hb))), b2, b3⟩, fun i b z e hi => by
    by_cases hd : h.get i = .dead
    · rw [hd]; trivial
    · exact (c i b z e hi).world (hw b ((b2 b).2 (.inr ⟨i, z, e, hi, hd⟩)))⟩
  lt := fun ⟨a, ⟨B, b1, b2, b3⟩, c⟩ b hb => by
    rcases (b2 b).1 hb with h1 | ⟨i, z, e, hi, hd⟩
    · exact I.lt b1 b h1
    · exact (c i b z e hi).inb hd

theorem hide_call {I : Hid σ} {h : AH} (td : tidy h = true) {ps : List Nat} (hps : ps.length ≤ 16) {s s1 : σ} {f : FuncId} {pre : List Value} {fid : FuncId} (pp : ∀ v ∈ pre, plainV v = true)
    (C : ∀ (F : Nat → Prop) (w0 : World) (μ : Mp) (w : World), HR F w0 μ h w →
      SaysI P (I.hide μ h ps) (hp roots) s f (pre ++ [.func (.func fid) #[] (capsAt (List.range ps.length)).toArray]) (.tuple #[]) (hp roots) s1) :
    SaysI P I h s f (pre ++ [.func (.func fid) #[] (capsAt ps).toArray]) (.tuple #[]) h s1 := by
  intro F w0 μ w args' H ⟨B, A, hF, ho⟩ hl
  have rd : ∀ {i}, i < 16 → (hp roots).get i = .dead := fun {i} hi => by have := roots_at hi []; rwa [List.append_nil] at this
  have rn : (hp roots).next = 16 := hp_next _
  let μ1 : Mp := fun j => if j < 16 then (ps[j]?).bind μ else none
  have low : ∀ {j p}, μ1 j = some p → j < 16 := fun {j p} hj => by
    by_cases h1 : j < 16
    · exact h1
    · have : μ1 j = none := if_neg h1
      rw [this] at hj; cases hj
  have own_wr : ∀ {b}, Own μ h b → ∃ i z e, μ i = some (b, z, e) ∧ (h.get i).wr = true := fun ⟨i, z, e, hi, hd⟩ => ⟨i, z, e, hi, tidy_wr td (H.dom i _ hi) hd⟩
  have H1 : HR F w0 μ1 (hp roots) w := by
    refine ⟨fun i p hi => by rw [rn]; exact low hi, fun i b z e hi => by rw [rd (low hi)]; trivial, fun i b z e hi hw => (by rw [rd (low hi)] at hw; cases hw), fun i j b zi ei zj ej hne hi hj => by rw [rd (low hi)]; exact .inl (by unfold share; trivial),
      fun i c l p ty hi hg j hj => ?_, H.os, H.tape, H.output, H.size, H.fr⟩
    cases hm : μ1 i with
    | none => exact absurd hm hi
    | some p' => rw [rd (low hm)] at hg; cases hg
  have W1 : With (I.hide μ h ps) F μ1 (hp roots) s w :=
    ⟨fun b => B b ∨ Own μ h b, ⟨fun j hj => if_pos hj, ⟨B, A, fun b => Iff.rfl, fun b hb ho' => by obtain ⟨i, z, e, hi, hw⟩ := own_wr ho'; exact ho i b z e hi hw hb⟩, H.obj⟩,
      fun b hb hf => by
        rcases hb with hb | hb
        · exact hF b hb hf
        · obtain ⟨i, z, e, hi, hw⟩ := own_wr hb; exact H.own i b z e hi hw hf,
      fun i b z e hi hw => by rw [rd (low hi)] at hw; cases hw⟩
  have hl1 : LR μ1 (pre ++ [.func (.func fid) #[] (capsAt (List.range ps.length)).toArray]) args'.toList := by
    obtain ⟨pre', s', post', e, l1, l2, l3⟩ := lr_split hl
    rw [e]
    refine lr_join (plain_mono pp l1) ?_ (plain_mono (fun v hv => by cases hv) l3)
    obtain ⟨f', c', rfl, q1, q2⟩ := l2.func_inv
    refine VR.func_of (plain_mono (fun v hv => by cases hv) q1) ?_
    exact vr_caps (ps := ps) (qs := List.range ps.length) (by simpa using q2) (by simp) fun j p q hp hq => by
      have hlt := (List.getElem?_eq_some_iff.1 hp).1
      rw [List.getElem?_range hlt] at hq
      cases hq
      show (if j < 16 then (ps[j]?).bind μ else none) = μ p
      rw [if_pos (by omega), hp]
      rfl
  refine (C F w0 μ w H F w0 μ1 w args' H1 W1 hl1).mono fun v' w' ⟨μ', hv, H', ⟨B'', ⟨_, ⟨B2, A2, iff, disj⟩, objs⟩, hF'', _⟩, E⟩ => ?_
  exact ⟨μ, flat_any hv rfl, ⟨H.dom, objs, H.own, H.sep, H.par, H'.os, H'.tape, H'.output, H'.size, H'.fr⟩,
    ⟨B2, A2, fun b hb => hF'' b ((iff b).2 (.inl hb)), fun i b z e hi hw hb => disj b hb ⟨i, z, e, hi, fun hd => by rw [hd] at hw; cases hw⟩⟩, Ext.refl μ h⟩

theorem hp_lt {os : List AObj} {i : Nat} (hi : i < os.length) (l : List AObj) : (hp (os ++ l)).get i = (hp os).get i := by
  have h1 : os[i]? = some os[i] := List.getElem?_eq_getElem hi
  rw [hp_get os i _ h1, hp_get (os ++ l) i os[i] (by rw [List.getElem?_append_left hi]; exact h1)]
theorem hp_last (os : List AObj) (o : AObj) : (hp (os ++ [o])).get os.length = o := hp_get _ _ _ (by simp)

theorem hide_cb {I : Hid σ} (hI : I.k ≤ 16) {os : List AObj} (td : tidy (hp os) = true) (hlow : 16 ≤ os.length) (clo : ∀ o ∈ os, CloO os.length o) {ps : List Nat} (hps : ps.length ≤ 16) (hpl : ∀ p ∈ ps, p < os.length)
    {F0 : Nat → Prop} {w0 w1 : World} {μ : Mp} (H : HR F0 w0 μ (hp os) w1) {ty : Option TypeId} {fid : FuncId} {ok : List Nat → Nat → Nat → Prop} {step : σ → List Nat → Nat → Nat → σ}
    (L : ∀ (s : σ) (l : List Nat) (t d : Nat), ok l t d → SaysI P I (hp (os ++ [planO ty l])) s fid (planV os.length l :: .int .i64 (.ofNat t) :: .int .i64 (.ofNat d) :: capsAt ps) (.tuple #[]) (hp (os ++ [.dead])) (step s l t d)) :
    CB P (I.hide μ (hp os) ps) ty fid ps.length ok step := by
  intro s l t d hok F w0' μ1 w args' H1 ⟨B', ⟨hroot, ⟨B, A, iff, disj⟩, objs⟩, hF, hwr⟩ hl
  have nx : ∀ o, (hp (os ++ [o])).next = os.length + 1 := fun o => by rw [hp_next]; simp
  have hn : (hp os).next = os.length := hp_next os
  obtain ⟨l0, hl0⟩ : ∃ l0, args'.toList = l0 := ⟨_, rfl⟩
  rw [hl0] at hl
  match l0, hl with
  | y0 :: ys, hl =>
  obtain ⟨pl, hpl'⟩ : ∃ pl : Option (Nat × Nat × Nat), pl = match l with | [] => none | _ => μ1 16 := ⟨_, rfl⟩
  let μ2 : Mp := fun j => if j < os.length then μ j else if j = os.length then pl else none
  have m2 : ∀ {j}, j < os.length → μ2 j = μ j := fun hj => if_pos hj
  have mL : μ2 os.length = pl := by show (if _ then _ else if _ then _ else _) = _; rw [if_neg (Nat.lt_irrefl _), if_pos rfl]
  have mhi : ∀ {j}, os.length < j → μ2 j = none := fun {j} hj => by
    show (if j < os.length then _ else if j = os.length then _ else none) = none
    rw [if_neg (by omega), if_neg (by omega)]
  have msub : Sub (μ.cut os.length) μ2 := fun i p hi => by
    obtain ⟨h1, h2⟩ := cut_some hi
    rw [m2 h1]; exact h2
  have mdom : ∀ i p, μ i = some p → i < os.length := fun i p hi => by have := H.dom i p hi; rw [hn] at this; exact this
  have msub' : Sub μ μ2 := fun i p hi => by rw [m2 (mdom i p hi)]; exact hi
  have ints : ∀ v ∈ l.map (fun x => Value.int .i64 (.ofNat x)), plainV v = true := fun v hv => by
    obtain ⟨x, _, rfl⟩ := List.mem_map.1 hv; rfl
  -- the row, where there is one
  have row : (l = [] ∧ pl = none ∧ planO ty l = .dead) ∨ (l ≠ [] ∧ planO ty l = .cells (l.map (fun x => .int .i64 (.ofNat x))) true [] ty ∧ ∃ b z e, μ1 16 = some (b, z, e) ∧ pl = some (b, z, e)) := by
    cases l with
    | nil => exact .inl ⟨rfl, hpl', rfl⟩
    | cons x l =>
      obtain ⟨b, z, e, c', hm', _⟩ := (show VR μ1 (.slice (some ⟨16, 0, some 1⟩) (x :: l).length (x :: l).length) y0 from hl.head).sliceU_inv
      exact .inr ⟨by simp, rfl, b, z, e, hm', hpl'.trans hm'⟩
  have own_i : ∀ {i b z e}, μ i = some (b, z, e) → (hp os).get i ≠ .dead → B' b := fun hi hd => (iff _).2 (.inr ⟨_, _, _, hi, hd⟩)
  have row_own : ∀ {b z e}, μ1 16 = some (b, z, e) → planO ty l = .cells (l.map (fun x => .int .i64 (.ofNat x))) true [] ty → ¬ F b ∧ ¬ B' b := fun {b z e} h1 h2 =>
    ⟨H1.own 16 b z e h1 (by rw [roots_last, h2]; rfl), hwr 16 b z e h1 (by rw [roots_last, h2]; rfl)⟩
  have which : ∀ {i p}, μ2 i = some p → (i < os.length ∧ μ i = some p) ∨ (i = os.length ∧ pl = some p) := fun {i p} hi => by
    by_cases h1 : i < os.length
    · exact .inl ⟨h1, by rw [m2 h1] at hi; exact hi⟩
    · by_cases h2 : i = os.length
      · subst h2; rw [mL] at hi; exact .inr ⟨rfl, hi⟩
      · rw [mhi (by omega)] at hi; cases hi
  have H2 : HR F w0' μ2 (hp (os ++ [planO ty l])) w := by
    refine ⟨fun i p hi => ?_, fun i b z e hi => ?_, fun i b z e hi hw => ?_, fun i j b zi ei zj ej hne hi hj => ?_, fun i c lv p ty' hi hg j hj => ?_, H1.os, H1.tape, H1.output, H1.size, H1.fr⟩
    · rw [nx]
      rcases which hi with ⟨h, _⟩ | ⟨h, _⟩ <;> omega
    · rcases which hi with ⟨h, hm⟩ | ⟨rfl, hm⟩
      · rw [hp_lt h]; exact (objs i b z e hm).mono msub'
      · rw [hp_last]
        rcases row with ⟨_, r, _⟩ | ⟨hne, ro, b', z', e', r1, r2⟩
        · rw [r] at hm; cases hm
        · rw [r2] at hm
          cases hm
          have hob := H1.obj 16 b z e r1
          rw [roots_last, ro] at hob
          rw [ro]
          obtain ⟨cs, el, fr, h1, h2, h3, h4, h5⟩ := hob
          refine ⟨cs, el, fr, h1, h2, h3, fun k v hk => ?_, h5⟩
          obtain ⟨v', g1, g2⟩ := h4 k v hk
          have hp := ints v (List.mem_of_getElem? hk)
          exact ⟨v', g1, by rw [plain_same g2 hp]; exact .plain hp⟩
    · rcases which hi with ⟨h, hm⟩ | ⟨rfl, hm⟩
      · rw [hp_lt h] at hw
        exact fun hf => hF b (own_i hm (fun hd => by rw [hd] at hw; cases hw)) hf
      · rcases row with ⟨_, r, _⟩ | ⟨hne, ro, b', z', e', r1, r2⟩
        · rw [r] at hm; cases hm
        · rw [r2] at hm
          cases hm
          exact (row_own r1 ro).1
    · rcases which hi with ⟨h, hm⟩ | ⟨rfl, hm⟩
      · rcases which hj with ⟨h', hm'⟩ | ⟨rfl, hm'⟩
        · rw [hp_lt h, hp_lt h']; exact H.sep i j b zi ei zj ej hne hm hm'
        · by_cases hd : (hp os).get i = .dead
          · rw [hp_lt h, hd]; exact .inl (by unfold share; trivial)
          · rcases row with ⟨_, r, _⟩ | ⟨hne, ro, b', z', e', r1, r2⟩
            · rw [r] at hm'; cases hm'
            · rw [r2] at hm'
              cases hm'
              exact absurd (own_i hm hd) (row_own r1 ro).2
      · rcases which hj with ⟨h', hm'⟩ | ⟨rfl, hm'⟩
        · by_cases hd : (hp os).get j = .dead
          · rw [hp_lt h', hd]; exact .inr (.inl (by unfold share; trivial))
          · rcases row with ⟨_, r, _⟩ | ⟨hne, ro, b', z', e', r1, r2⟩
            · rw [r] at hm; cases hm
            · rw [r2] at hm
              cases hm
              exact absurd (own_i hm' hd) (row_own r1 ro).2
        · exact absurd rfl hne
    · cases hm2 : μ2 i with
      | none => exact absurd hm2 hi
      | some p' =>
        rcases which hm2 with ⟨h, hm⟩ | ⟨rfl, hm⟩
        · rw [hp_lt h] at hg
          have := H.par i c lv p ty' (by rw [hm]; intro h; cases h) hg j hj
          cases hmj : μ j with
          | none => exact absurd hmj this
          | some pj => rw [msub' j pj hmj]; intro h; cases h
        · rw [hp_last] at hg
          rcases row with ⟨_, _, r⟩ | ⟨hne, ro, _⟩
          · rw [r] at hg; cases hg
          · rw [ro] at hg; cases hg; cases hj
  have W2 : With I F μ2 (hp (os ++ [planO ty l])) s w := by
    refine ⟨B, I.loc (fun i hi => m2 (by omega)) A, fun b hb => hF b ((iff b).2 (.inl hb)), fun i b z e hi hw hb => ?_⟩
    rcases which hi with ⟨h, hm⟩ | ⟨rfl, hm⟩
    · rw [hp_lt h] at hw
      exact disj b hb ⟨i, z, e, hm, fun hd => by rw [hd] at hw; cases hw⟩
    · rcases row with ⟨_, r, _⟩ | ⟨hne, ro, b', z', e', r1, r2⟩
      · rw [r] at hm; cases hm
      · rw [r2] at hm
        cases hm
        exact (row_own r1 ro).2 ((iff b).2 (.inl hb))
  have hl2 : LR μ2 (planV os.length l :: .int .i64 (.ofNat t) :: .int .i64 (.ofNat d) :: capsAt ps) args'.toList := by
    rw [hl0]
    refine LR.cons ?_ ?_
    · have hh := hl.head
      rcases row with ⟨rfl, _, _⟩ | ⟨hne, ro, b', z', e', r1, r2⟩
      · obtain ⟨_, _, rfl⟩ := (show VR μ1 (.slice none 0 0) y0 from hh).sliceN_inv
        exact .plain rfl
      · rcases planO_cases ty 16 l with ⟨g, _⟩ | ⟨_, g⟩
        · rw [ro] at g; cases g
        · rcases planO_cases ty os.length l with ⟨g', _⟩ | ⟨_, g'⟩
          · rw [ro] at g'; cases g'
          · rw [g] at hh
            rw [g']
            obtain ⟨b, z, e, c', hm', p1, p2, p3, rfl⟩ := hh.sliceU_inv
            rw [r1] at hm'
            cases hm'
            exact .sliceU (by rw [mL]; exact r2) p1 p2 p3
    · match ys, hl with
      | [], hl => exact absurd hl.1 (by simp)
      | [y1], hl => exact absurd hl.1 (by simp)
      | y1 :: y2 :: ys, hl =>
        refine LR.cons ?_ (LR.cons ?_ (vr_caps hl.tail.tail.tail (by simp) fun j p q hp hq => ?_))
        · rw [hl.tail.head.int_inv]; exact .plain rfl
        · rw [hl.tail.tail.head.int_inv]; exact .plain rfl
        · have hlt := (List.getElem?_eq_some_iff.1 hq).1
          rw [List.getElem?_range hlt] at hp
          cases hp
          rw [m2 (hpl q (List.mem_of_getElem? hq)), hroot j (by omega), hq]
          rfl
  refine (L s l t d hok F w0' μ2 w args' H2 W2 hl2).mono fun v' w' ⟨μ', hv, H', ⟨B2, A2, hF2, ho2⟩, E⟩ => ?_
  have eqμ : ∀ i, i < os.length → μ' i = μ i := fun i hi => by
    cases hm' : μ2 i with
    | none => exact ((E.unborn i (by rw [nx]; omega) hm').1).trans (hm'.symm.trans (m2 hi))
    | some p => exact (E.sub i p hm').trans (hm'.symm.trans (m2 hi))
  have subμ : Sub (μ'.cut os.length) μ := fun i p hi => by
    obtain ⟨h1, h2⟩ := cut_some hi
    rw [← eqμ i h1]; exact h2
  have objs' : ∀ i b z e, μ i = some (b, z, e) → OR μ ((hp os).get i) b z e w' := fun i b z e hi => by
    have hlt := mdom i _ hi
    have h1 := H'.obj i b z e ((eqμ i hlt).trans hi)
    rw [hp_lt hlt] at h1
    have hc : CloO os.length ((hp os).get i) := by
      rw [hp_get os i _ (List.getElem?_eq_getElem hlt)]
      exact clo _ (List.getElem_mem hlt)
    exact (h1.cut hc).mono subμ
  have own' : ∀ {b}, Own μ (hp os) b → ¬ F b ∧ ¬ B2 b := fun {b} ⟨i, z, e, hi, hd⟩ => by
    have hlt := mdom i _ hi
    have hw : ((hp (os ++ [.dead])).get i).wr = true := by rw [hp_lt hlt]; exact tidy_wr td (by rw [hn]; exact hlt) hd
    exact ⟨H'.own i b z e ((eqμ i hlt).trans hi) hw, ho2 i b z e ((eqμ i hlt).trans hi) hw⟩
  refine ⟨μ1, flat_any hv rfl, ⟨fun i p hi => ?_, fun i b z e hi => ?_, fun i b z e hi hw => ?_, fun i j b zi ei zj ej hne hi hj => ?_, fun i c lv p ty' hi hg j hj => ?_, H'.os, H'.tape, H'.output, H'.size, H'.fr⟩,
    ⟨fun b => B2 b ∨ Own μ (hp os) b, ⟨hroot, ⟨B2, I.loc (fun i hi => (eqμ i (by omega)).symm) A2, fun b => Iff.rfl, fun b hb ho => (own' ho).2 hb⟩, objs'⟩, fun b hb => ?_, fun i b z e hi hw => ?_⟩, ⟨Sub.refl μ1, ?_, fun i hi hm' => ⟨hm', ?_⟩⟩⟩
  · have := H1.dom i p hi; rw [roots_next] at this ⊢; exact this
  · rw [show (hp (roots ++ [.dead])).get i = .dead from ?_]
    · trivial
    · have := H1.dom i _ hi
      rw [roots_next] at this
      by_cases h16 : i < 16
      · exact roots_at h16 _
      · have : i = 16 := by omega
        subst this; exact roots_last _
  · have := H1.dom i _ hi
    rw [roots_next] at this
    by_cases h16 : i < 16
    · rw [roots_at h16] at hw; cases hw
    · have : i = 16 := by omega
      subst this; rw [roots_last] at hw; cases hw
  · have := H1.dom i _ hi
    rw [roots_next] at this
    by_cases h16 : i < 16
    · rw [roots_at h16]; exact .inl (by unfold share; trivial)
    · have : i = 16 := by omega
      subst this; rw [roots_last]; exact .inl (by unfold share; trivial)
  · cases hm1 : μ1 i with
    | none => exact absurd hm1 hi
    | some p' =>
      have := H1.dom i _ hm1
      rw [roots_next] at this
      by_cases h16 : i < 16
      · rw [roots_at h16] at hg; cases hg
      · have : i = 16 := by omega
        subst this; rw [roots_last] at hg; cases hg
  · rcases hb with hb | hb
    · exact hF2 b hb
    · exact (own' hb).1
  · have := H1.dom i _ hi
    rw [roots_next] at this
    by_cases h16 : i < 16
    · rw [roots_at h16] at hw; cases hw
    · have : i = 16 := by omega
      subst this; rw [roots_last] at hw; cases hw
  · rw [roots_next, roots_next]; exact Nat.le_refl _
  · rw [roots_next] at hi
    by_cases h16 : i < 16
    · rw [roots_at h16, roots_at h16]
    · have : i = 16 := by omega
      subst this
      rcases row with ⟨_, _, r⟩ | ⟨_, _, b, z, e, r1, _⟩
      · rw [r]
      · rw [hm'] at r1; cases r1
end
end Go.R

/- A last row that has grown, under its old number again. -/
namespace Go.R
set_option linter.unusedVariables false
set_option linter.unusedSimpArgs false
open Go Go.RowKit
noncomputable section
variable {P : Program}

theorem Clo.mono {k n : Nat} {v : Value} (h : Clo k v) (hk : k ≤ n) : Clo n v := fun μ v' hv =>
  (h μ v' hv).mono fun i p hi => by
    obtain ⟨h1, h2⟩ := cut_some hi
    rw [cut_lt (by omega)]; exact h2

theorem tidyOb_cases {o : AObj} (h : tidyOb o = true) : o = .dead ∨ ∃ c ty, o = .cells c true [] ty := by
  unfold tidyOb at h
  split at h
  · rename_i c ty; exact .inr ⟨c, ty, rfl⟩
  · exact .inl rfl
  · cases h

theorem Runs.regrow {k n m : Nat} {c : Code} {af : AF} {Q : AExit → AF → Prop} {l : List (Nat × Value)} {sz : Nat} {os : List AObj} {cells : List Value} {ty : Option TypeId} {par : List Nat} (hn : os.length = n) (hk : k ≤ n) (hsz : af.sz = sz)
    (same : (List.range n).map af.h.get = os) (td : (os.all tidyOb) = true) (clo : ∀ o ∈ os, CloO n o) (hm : n ≤ m) (hrow : af.h.get m = .cells cells true par ty) (hpar : (par.all fun j => Nat.ble n j && !Nat.beq j m) = true) (hpl : ∀ v ∈ cells, plainV v = true)
    (tm : ∀ p ∈ l, (af.tm.get p.1 = some p.2 ∧ Clo n p.2) ∨ (∃ x, p.2 = .slice (some ⟨n, 0, some 1⟩) x x ∧ af.tm.get p.1 = some (.slice (some ⟨m, 0, some 1⟩) x x)) ∨ (p.2 = .pointer (some ⟨n, 0, none⟩) ∧ af.tm.get p.1 = some (.pointer (some ⟨m, 0, none⟩))))
    (h : Runs P k c (sth l sz (os ++ [.cells cells true [] ty])) Q) : Runs P k c af Q := by
  have lo : (os ++ [AObj.cells cells true [] ty]).length = n + 1 := by simp [hn]
  have get : ∀ j o, j < n → os[j]? = some o → af.h.get j = o := fun j o hj ho => by
    have := congrArg (fun l : List AObj => l[j]?) same
    simp only [List.getElem?_map, List.getElem?_range hj, Option.map_some, ho, Option.some.injEq] at this
    exact this
  let ρ : Nat → Nat := fun j => if j < n then j else m
  have rl : ∀ {j}, j < n → ρ j = j := fun hj => if_pos hj
  have rn : ρ n = m := if_neg (Nat.lt_irrefl n)
  have at_ : ∀ j o, (os ++ [AObj.cells cells true [] ty])[j]? = some o → (j < n ∧ os[j]? = some o) ∨ (j = n ∧ o = .cells cells true [] ty) := fun j o ho => by
    by_cases hj : j < n
    · rw [List.getElem?_append_left (by omega)] at ho; exact .inl ⟨hj, ho⟩
    · have hlt := (List.getElem?_eq_some_iff.1 ho).1
      rw [lo] at hlt
      have : j = n := by omega
      subst this
      rw [List.getElem?_append_right (by omega), hn, Nat.sub_self] at ho
      cases ho
      exact .inr ⟨rfl, rfl⟩
  refine Runs.renumT (sz := sz) (l := l) (os := os ++ [.cells cells true [] ty]) ρ hsz (by rw [lo]; omega) (fun j hj => ⟨rl (by omega), .inl fun o ho => ?_⟩) (fun i j hi hj e => ?_) (fun p hp => ?_) (fun j o ho => ?_) (fun i j hi hj hne c lv p ty' hg => ?_) h
  · rcases at_ j o ho with ⟨h1, h2⟩ | ⟨h1, _⟩
    · exact get j o h1 h2
    · omega
  · rw [lo] at hi hj
    by_cases h1 : i < n
    · by_cases h2 : j < n
      · rwa [rl h1, rl h2] at e
      · have : j = n := by omega
        subst this
        rw [rl h1, rn] at e
        omega
    · have : i = n := by omega
      subst this
      by_cases h2 : j < i
      · rw [rn, rl h2] at e; omega
      · omega
  · rcases tm p hp with ⟨h1, h2⟩ | ⟨x, h1, h2⟩ | ⟨h1, h2⟩
    · exact ⟨_, h1, Ren.clo (k := n) (by rw [lo]; omega) (fun j hj => rl hj) h2⟩
    · rw [h1]
      exact ⟨_, h2, Ren.sliceU (by rw [lo]; omega) rn⟩
    · rw [h1]
      exact ⟨_, h2, Ren.ptr (by rw [lo]; omega) rn⟩
  · rcases at_ j o ho with ⟨h1, h2⟩ | ⟨rfl, rfl⟩
    · rw [rl h1, get j o h1 h2]
      rcases tidyOb_cases (List.all_eq_true.1 td o (List.mem_of_getElem? h2)) with rfl | ⟨c, t, rfl⟩
      · trivial
      · exact RenO.clo (k := n) (by rw [lo]; omega) (fun j hj => rl hj) (clo _ (List.mem_of_getElem? h2)).1
    · rw [rn, hrow]
      exact RenO.row rfl hpl (fun _ => rfl) (.inr rfl)
  · rw [lo] at hi hj
    by_cases h1 : i < n
    · rw [rl h1, get i os[i] h1 (List.getElem?_eq_getElem (by omega))] at hg
      rcases tidyOb_cases (List.all_eq_true.1 td _ (List.getElem_mem (by omega : i < os.length))) with e | ⟨c', t', e⟩
      · rw [e] at hg; cases hg
      · rw [e] at hg; cases hg; intro h; cases h
    · have : i = n := by omega
      subst this
      rw [rn, hrow] at hg
      cases hg
      intro hmem
      have := List.all_eq_true.1 hpar _ hmem
      rw [Bool.and_eq_true, Bool.not_eq_true'] at this
      have h2 : j < i := by omega
      rw [rl h2] at this
      have := Nat.le_of_ble_eq_true this.1
      omega

theorem CloO.mono {k n : Nat} {o : AObj} (h : CloO k o) (hk : k ≤ n) : CloO n o := by
  cases o with
  | cells c l p ty => exact ⟨fun v hv => (h.1 v hv).mono hk, fun j hj => Nat.lt_of_lt_of_le (h.2 j hj) hk⟩
  | map es => exact fun e he => (h e he).mono hk
  | str s q => trivial
  | ghost t => exact fun es hs e he => (h es hs e he).mono hk
  | dead => trivial

theorem tidy_hp {os : List AObj} (h : (os.all tidyOb) = true) : tidy (hp os) = true := by
  unfold tidy
  rw [hp_next]
  refine List.all_eq_true.2 fun i hi => ?_
  have hlt := List.mem_range.1 hi
  rw [hp_get os i _ (List.getElem?_eq_getElem hlt)]
  exact List.all_eq_true.1 h _ (List.getElem_mem hlt)

theorem hp_at {os : List AObj} {i : Nat} (hi : i < os.length) : (hp os).get i = os[i] := hp_get os i _ (List.getElem?_eq_getElem hi)

theorem Born.planV {q : Nat} {l : List Nat} (h : l ≠ []) : Born q (planV q l) := fun μ x hx => by
  cases l with
  | nil => exact absurd rfl h
  | cons y l =>
    obtain ⟨b, z, e, c', hm, _⟩ := (show VR μ (.slice (some ⟨q, 0, some 1⟩) (y :: l).length (y :: l).length) x from hx).sliceU_inv
    rw [hm]; intro h; cases h

/-- A body whose first argument is a list that the caller gives away. -/
theorem saysI_row {σ : Type} (hn : NoNum P) {I : Hid σ} (hI : I.k ≤ 16) {s s1 : σ} {f : FuncId} {fn : Func} {c : Code} (hf : P.funcs[f]? = some fn) (hb : fn.body = some c) (hr0 : fn.results.toList = []) {os : List AObj} {n : Nat} (hos : os.length = n) (hlow : 16 ≤ n) {l : List Nat} {ty : Option TypeId} {rest : List Value}
    (clo : ∀ o ∈ os, CloO (n + 1) o)
    (hr : RunsI P I (n + 1) c (entry fn (planV n l :: rest) (hp (os ++ [planO ty l]))) s fun x af' s' => (x = .normal ∨ x = .ret) ∧ s' = s1 ∧ Nat.ble (n + 1) af'.h.next = true ∧ (List.range n).map af'.h.get = os) :
    SaysI P I (hp (os ++ [planO ty l])) s f (planV n l :: rest) (.tuple #[]) (hp (os ++ [.dead])) s1 := by
  subst hos
  have nx : ∀ o, (hp (os ++ [o])).next = os.length + 1 := fun o => by rw [hp_next]; simp
  refine saysI_of hn hf hb hr0 (by rw [nx]; omega) ((nx _).trans (nx _).symm) (fun i hi hd => ?_) ?_
  · rw [nx] at hi
    by_cases h1 : i < os.length
    · rw [hp_lt h1] at hd ⊢; exact .inl hd
    · have : i = os.length := by omega
      subst this
      cases l with
      | nil => exact .inl (hp_last os _)
      | cons y l => exact .inr ⟨0, _, rfl, Born.planV (by simp)⟩
  · rw [nx]
    refine hr.mono fun x af' s' ⟨h1, h2, h3, h4⟩ => ⟨h1, h2, by rw [nx]; exact Nat.le_of_ble_eq_true h3, fun i hi => ?_⟩
    rw [nx] at hi
    by_cases hlt : i < os.length
    · have hg : af'.h.get i = os[i] := by
        have := congrArg (fun l : List AObj => l[i]?) h4
        simp only [List.getElem?_map, List.getElem?_range hlt, Option.map_some, List.getElem?_eq_getElem hlt, Option.some.injEq] at this
        exact this
      refine .inr ⟨by rw [hp_lt hlt, hp_at hlt, hg], ?_⟩
      rw [hg, nx]
      exact clo _ (List.getElem_mem hlt)
    · have : i = os.length := by omega
      subst this
      exact .inl (hp_last os _)

theorem RunsI.cbE {σ : Type} (hm : P.follows .mixedOrders = true) {call : CallF} (hc : CallOk P call) {I : Hid σ} {k : Nat} {c : Code} {af : AF} {s s1 : σ} {Q : AExit → AF → σ → Prop} (hI : I.k ≤ k) (ov : List Via) (pairs : List (Nat × Nat)) (hk : Nat.ble k af.h.next = true)
    (hg : (lastOk c && ((!isDr c || statOk (regOps (nopC c)) (masks (regOps (nopC c)).toList [])) && (pairsIn (regOps (nopC c)).toList.length pairs && apart (foes ov)))) = true)
    (hp : isDr c = false ∨ (dynPairs P (regOps (nopC c)) (masks (regOps (nopC c)).toList []) = pairs ∧ DynL P call (nopC c) ov af pairs))
    (hs : (endV P call (nopC c) ov af).isSome = true) (ob : OblV P call (nopC c) af ov ov) {f : FuncId} {args : List Value} {v : Value} {h0 h1 : AH}
    (hcl : callIn (aftV P call (nopC c) ov af) (lastOp c) = some (f, args)) (ha : (aftV P call (nopC c) ov af).h = h0) (hsay : SaysI P I h0 s f args v h1 s1)
    (q : Q .normal ((aftV P call (nopC c) ov af).put (lastOp c).dst v h1) s1) : RunsI P I k c af s Q :=
  RunsI.cb hm hc hI ov pairs hk hg hp hs ob hcl (by rw [ha]; exact hsay) q
end
end Go.R

/- The hidden state that is a heap of one's own: what a callback does to it, and what has become of it behind the call. -/
namespace Go.R
set_option linter.unusedVariables false
set_option linter.unusedSimpArgs false
open Go Go.RowKit
noncomputable section
variable {P : Program} {σ : Type}

/-- A heap under other numbers. -/
theorem HR.renum {F : Nat → Prop} {w0 w : World} {μ : Mp} {h : AH} {os : List AObj} (H : HR F w0 μ h w) (ρ : Nat → Nat) (inj : ∀ i j, i < os.length → j < os.length → ρ i = ρ j → i = j)
    (ob : ∀ (j : Nat) o, os[j]? = some o → RenO ρ os.length (h.get (ρ j)) o)
    (np : ∀ i j, i < os.length → j < os.length → i ≠ j → ∀ c lv p ty, h.get (ρ i) = .cells c lv p ty → ρ j ∉ p) : HR F w0 (μ.by ρ os.length) (hp os) w := by
  have hget : ∀ i, i < os.length → ∃ o, os[i]? = some o ∧ (hp os).get i = o := fun i hi => ⟨os[i], List.getElem?_eq_getElem hi, hp_get os i _ (List.getElem?_eq_getElem hi)⟩
  have cutS : ∀ {i p}, μ.by ρ os.length i = some p → i < os.length ∧ μ (ρ i) = some p := by
    intro i p hi
    unfold Mp.by at hi
    split at hi
    · rename_i hlt; exact ⟨hlt, hi⟩
    · cases hi
  refine ⟨fun i p hi => by rw [hp_next]; exact (cutS hi).1, fun i b z e hi => ?_, fun i b z e hi hw => ?_, fun i j b zi ei zj ej hne hi hj => ?_, fun i c l p ty hi hg j hj => ?_,
    H.os, H.tape, H.output, H.size, H.fr⟩
  · obtain ⟨hlt, hm⟩ := cutS hi
    obtain ⟨o, ho, hg⟩ := hget i hlt
    rw [hg]
    have hr := ob i o ho
    have hob := H.obj (ρ i) b z e hm
    cases hx : h.get (ρ i) with
    | cells c live par ty =>
      rw [hx] at hr hob
      cases o with
      | cells c' live' par' ty' =>
        obtain ⟨e1, e2, e3, e4, e5⟩ := hr
        obtain ⟨cs, el, fr, h1, h2, h3, h4, h5, h6⟩ := hob
        refine ⟨cs, el, fr, h1, by omega, h3, fun q v hq => ?_, fun hl => h5 (e3 hl), fun t ht => ?_⟩
        · have hlt' : q < c.length := by rw [e1]; exact (List.getElem?_eq_some_iff.1 hq).1
          obtain ⟨v', g1, g2⟩ := h4 q c[q] (List.getElem?_eq_getElem hlt')
          exact ⟨v', g1, e2 q _ _ (List.getElem?_eq_getElem hlt') hq μ v' g2⟩
        · rcases e5 with e5 | e5
          · rw [e5] at ht; cases ht
          · exact h6 t (e5 ▸ ht)
      | dead => trivial
      | map es => exact hr.elim
      | str s p => exact hr.elim
      | ghost t => exact hr.elim
    | map es => rw [hx] at hr; cases o <;> first | trivial | exact hr.elim
    | str s p => rw [hx] at hr; cases o <;> first | trivial | exact hr.elim
    | ghost t => rw [hx] at hr; cases o <;> first | trivial | exact hr.elim
    | dead => rw [hx] at hr; cases o <;> first | trivial | exact hr.elim
  · obtain ⟨hlt, hm⟩ := cutS hi
    obtain ⟨o, ho, hg⟩ := hget i hlt
    rw [hg] at hw
    exact H.own (ρ i) b z e hm ((ob i o ho).wr hw)
  · obtain ⟨hlt, hm⟩ := cutS hi
    obtain ⟨hlt', hm'⟩ := cutS hj
    obtain ⟨x, hx, hgx⟩ := hget i hlt
    obtain ⟨y, hy, hgy⟩ := hget j hlt'
    rw [hgx, hgy]
    have rx := ob i x hx
    have ry := ob j y hy
    have hne' : ρ i ≠ ρ j := fun e => hne (inj i j hlt hlt' e)
    have dead_of : ∀ {o o' : AObj}, RenO ρ os.length o o' → o = .dead → o' = .dead := by
      intro o o' hr he; subst he; cases o' <;> first | rfl | exact hr.elim
    rcases H.sep (ρ i) (ρ j) b zi ei zj ej hne' hm hm' with s | s | s
    · cases hxx : h.get (ρ i) with
      | dead => rw [dead_of rx hxx]; exact .inl (by unfold share; trivial)
      | cells c lv p ty =>
        rw [hxx] at s
        cases hyy : h.get (ρ j) with
        | cells c' lv' p' ty' =>
          rw [hyy] at s
          cases lv <;> cases lv' <;> simp only [share] at s
          exact absurd s.1 (np i j hlt hlt' hne _ _ _ _ hxx)
        | dead => rw [dead_of ry hyy]; exact .inr (.inl (by unfold share; trivial))
        | map es => rw [hyy] at s; cases lv <;> exact s.elim
        | str _ _ => rw [hyy] at s; cases lv <;> exact s.elim
        | ghost _ => rw [hyy] at s; cases lv <;> exact s.elim
      | map es => rw [hxx] at s; exact s.elim
      | str _ _ => rw [hxx] at s; exact s.elim
      | ghost _ => rw [hxx] at s; exact s.elim
    · cases hyy : h.get (ρ j) with
      | dead => rw [dead_of ry hyy]; exact .inr (.inl (by unfold share; trivial))
      | cells c lv p ty =>
        rw [hyy] at s
        cases hxx : h.get (ρ i) with
        | cells c' lv' p' ty' =>
          rw [hxx] at s
          cases lv <;> cases lv' <;> simp only [share] at s
          exact absurd s.1 (np j i hlt' hlt (Ne.symm hne) _ _ _ _ hyy)
        | dead => rw [dead_of rx hxx]; exact .inl (by unfold share; trivial)
        | map es => rw [hxx] at s; cases lv <;> exact s.elim
        | str _ _ => rw [hxx] at s; cases lv <;> exact s.elim
        | ghost _ => rw [hxx] at s; cases lv <;> exact s.elim
      | map es => rw [hyy] at s; exact s.elim
      | str _ _ => rw [hyy] at s; exact s.elim
      | ghost _ => rw [hyy] at s; exact s.elim
    · refine .inr (.inr ⟨?_, ?_⟩)
      · cases hq : x.wr with
        | false => rfl
        | true => rw [rx.wr hq] at s; cases s.1
      · cases hq : y.wr with
        | false => rfl
        | true => rw [ry.wr hq] at s; cases s.2
  · have hi' : i < os.length := by
      unfold Mp.by at hi
      split at hi
      · rename_i hlt; exact hlt
      · exact absurd rfl hi
    obtain ⟨o, ho, hg'⟩ := hget i hi'
    rw [hg'] at hg
    have hr := ob i o ho
    rw [hg] at hr
    cases hx : h.get (ρ i) <;> rw [hx] at hr <;> first | exact hr.elim | skip
    rw [hr.2.2.2.1] at hj
    cases hj

theorem HR.alone {F : Nat → Prop} {w0 w : World} {μ : Mp} {h : AH} (H : HR F w0 μ h w) : HR (fun _ => False) w μ h w :=
  ⟨H.dom, H.obj, fun _ _ _ _ _ _ h => h, H.sep, H.par, rfl, rfl, rfl, Nat.le_refl _, fun _ h => h.elim⟩

/-- A heap that is these objects, under whatever numbers behind the first ones. -/
def StIs (m : Nat) (os : List AObj) (h : AH) : Prop :=
  ∃ ρ : Nat → Nat, (∀ j, j < m → ρ j = j) ∧ (∀ i j, i < os.length → j < os.length → ρ i = ρ j → i = j) ∧ (∀ (j : Nat) o, os[j]? = some o → RenO ρ os.length (h.get (ρ j)) o) ∧
    ∀ i j, i < os.length → j < os.length → i ≠ j → ∀ c lv p ty, h.get (ρ i) = .cells c lv p ty → ρ j ∉ p

/-- The hidden state that is a heap: its first objects lie where they lay, and are what the places give. -/
def Hid.base (S : σ → List AObj) (P0 : σ → Prop) (μ0 : Mp) (m : Nat) (ps : List Nat) : Hid σ where
  k := 16
  holds := fun s μ' w B => (∀ j, j < 16 → μ' j = (ps[j]?).bind μ0) ∧ P0 s ∧ ∃ μ : Mp, (∀ i, i < m → μ i = μ0 i) ∧ HR (fun _ => False) w μ (hp (S s)) w ∧ ∀ b, B b ↔ Own μ (hp (S s)) b
  loc := fun hl ⟨a, b⟩ => ⟨fun j hj => (hl j hj).trans (a j hj), b⟩
  frame := fun {s _ _ _ _} ⟨a, p, μ, h1, h2, h3⟩ hsz hw => ⟨a, p, μ, h1, ⟨h2.dom, fun i b z e hi => by
    by_cases hd : (hp (S s)).get i = .dead
    · rw [hd]; trivial
    · exact (h2.obj i b z e hi).world (hw b ((h3 b).2 ⟨i, z, e, hi, hd⟩)), h2.own, h2.sep, h2.par, rfl, rfl, rfl, Nat.le_refl _, fun _ h => h.elim⟩, h3⟩
  lt := fun ⟨a, p, μ, h1, h2, h3⟩ b hb => by
    obtain ⟨i, z, e, hi, hd⟩ := (h3 b).1 hb
    exact (h2.obj i b z e hi).inb hd

theorem base_cb {S : σ → List AObj} {P0 : σ → Prop} {m M : Nat} (hS : ∀ s, (S s).length = M) (hmM : m ≤ M) (tdS : ∀ s, ((S s).all tidyOb) = true) {ps : List Nat} (hps : ps.length ≤ 16) (hpl : ∀ p ∈ ps, p < m)
    {μ0 : Mp} {ty : Option TypeId} {fid : FuncId} {ok : List Nat → Nat → Nat → Prop} {step : σ → List Nat → Nat → Nat → σ}
    (L : ∀ (s : σ) (l : List Nat) (t d : Nat), P0 s → ok l t d → P0 (step s l t d) ∧
      Local P m fid (planV M l :: .int .i64 (.ofNat t) :: .int .i64 (.ofNat d) :: capsAt ps) (hp (S s ++ [planO ty l])) (fun v h' => v = .tuple #[] ∧ StIs m (S (step s l t d)) h')) :
    CB P (Hid.base S P0 μ0 m ps) ty fid ps.length ok step := by
  intro s l t d hok F w0' μ1 w args' H1 ⟨B, ⟨hroot, hP, μ, hμ, HS, iff⟩, hF, hwr⟩ hl
  obtain ⟨hP', L⟩ := L s l t d hP hok
  have nx : ∀ o, (hp (S s ++ [o])).next = M + 1 := fun o => by rw [hp_next]; simp [hS]
  have hn : (hp (S s)).next = M := by rw [hp_next, hS]
  have hlt' : ∀ {i : Nat} (l : List AObj), i < M → (hp (S s ++ l)).get i = (hp (S s)).get i := fun {i} l hi => hp_lt (by rw [hS]; exact hi) l
  have hlast : ∀ o, (hp (S s ++ [o])).get M = o := fun o => by have := hp_last (S s) o; rw [hS] at this; exact this
  have td : tidy (hp (S s)) = true := tidy_hp (tdS s)
  obtain ⟨l0, hl0⟩ : ∃ l0, args'.toList = l0 := ⟨_, rfl⟩
  rw [hl0] at hl
  match l0, hl with
  | y0 :: ys, hl =>
  obtain ⟨pl, hpl'⟩ : ∃ pl : Option (Nat × Nat × Nat), pl = match l with | [] => none | _ => μ1 16 := ⟨_, rfl⟩
  let μ2 : Mp := fun j => if j < M then μ j else if j = M then pl else none
  have m2 : ∀ {j}, j < M → μ2 j = μ j := fun hj => if_pos hj
  have mL : μ2 M = pl := by show (if _ then _ else if _ then _ else _) = _; rw [if_neg (Nat.lt_irrefl _), if_pos rfl]
  have mhi : ∀ {j}, M < j → μ2 j = none := fun {j} hj => by
    show (if j < M then _ else if j = M then _ else none) = none
    rw [if_neg (by omega), if_neg (by omega)]
  have mdom : ∀ i p, μ i = some p → i < M := fun i p hi => by have := HS.dom i p hi; rw [hn] at this; exact this
  have msub' : Sub μ μ2 := fun i p hi => by rw [m2 (mdom i p hi)]; exact hi
  have ints : ∀ v ∈ l.map (fun x => Value.int .i64 (.ofNat x)), plainV v = true := fun v hv => by
    obtain ⟨x, _, rfl⟩ := List.mem_map.1 hv; rfl
  have row : (l = [] ∧ pl = none ∧ planO ty l = .dead) ∨ (l ≠ [] ∧ planO ty l = .cells (l.map (fun x => Value.int .i64 (.ofNat x))) true [] ty ∧ ∃ b z e, μ1 16 = some (b, z, e) ∧ pl = some (b, z, e)) := by
    cases l with
    | nil => exact .inl ⟨rfl, hpl', rfl⟩
    | cons x l =>
      obtain ⟨b, z, e, c', hm', _⟩ := (show VR μ1 (.slice (some ⟨16, 0, some 1⟩) (x :: l).length (x :: l).length) y0 from hl.head).sliceU_inv
      exact .inr ⟨by simp, rfl, b, z, e, hm', hpl'.trans hm'⟩
  have own_i : ∀ {i b z e}, μ i = some (b, z, e) → (hp (S s)).get i ≠ .dead → B b := fun hi hd => (iff _).2 ⟨_, _, _, hi, hd⟩
  have row_own : ∀ {b z e}, μ1 16 = some (b, z, e) → planO ty l = .cells (l.map (fun x => Value.int .i64 (.ofNat x))) true [] ty → ¬ F b ∧ ¬ B b := fun {b z e} h1 h2 =>
    ⟨H1.own 16 b z e h1 (by rw [roots_last, h2]; rfl), hwr 16 b z e h1 (by rw [roots_last, h2]; rfl)⟩
  have which : ∀ {i p}, μ2 i = some p → (i < M ∧ μ i = some p) ∨ (i = M ∧ pl = some p) := fun {i p} hi => by
    by_cases h1 : i < M
    · exact .inl ⟨h1, by rw [m2 h1] at hi; exact hi⟩
    · by_cases h2 : i = M
      · subst h2; rw [mL] at hi; exact .inr ⟨rfl, hi⟩
      · rw [mhi (by omega)] at hi; cases hi
  have H2 : HR F w0' μ2 (hp (S s ++ [planO ty l])) w := by
    refine ⟨fun i p hi => ?_, fun i b z e hi => ?_, fun i b z e hi hw => ?_, fun i j b zi ei zj ej hne hi hj => ?_, fun i c lv p ty' hi hg j hj => ?_, H1.os, H1.tape, H1.output, H1.size, H1.fr⟩
    · rw [nx]
      rcases which hi with ⟨h, _⟩ | ⟨h, _⟩ <;> omega
    · rcases which hi with ⟨h, hm⟩ | ⟨rfl, hm⟩
      · rw [hlt' _ h]; exact (HS.obj i b z e hm).mono msub'
      · rw [hlast]
        rcases row with ⟨_, r, _⟩ | ⟨hne, ro, b', z', e', r1, r2⟩
        · rw [r] at hm; cases hm
        · rw [r2] at hm
          cases hm
          have hob := H1.obj 16 b z e r1
          rw [roots_last, ro] at hob
          rw [ro]
          obtain ⟨cs, el, fr, h1, h2, h3, h4, h5⟩ := hob
          refine ⟨cs, el, fr, h1, h2, h3, fun k v hk => ?_, h5⟩
          obtain ⟨v', g1, g2⟩ := h4 k v hk
          have hp := ints v (List.mem_of_getElem? hk)
          exact ⟨v', g1, by rw [plain_same g2 hp]; exact .plain hp⟩
    · rcases which hi with ⟨h, hm⟩ | ⟨rfl, hm⟩
      · rw [hlt' _ h] at hw
        exact fun hf => hF b (own_i hm (fun hd => by rw [hd] at hw; cases hw)) hf
      · rcases row with ⟨_, r, _⟩ | ⟨hne, ro, b', z', e', r1, r2⟩
        · rw [r] at hm; cases hm
        · rw [r2] at hm
          cases hm
          exact (row_own r1 ro).1
    · rcases which hi with ⟨h, hm⟩ | ⟨rfl, hm⟩
      · rcases which hj with ⟨h', hm'⟩ | ⟨rfl, hm'⟩
        · rw [hlt' _ h, hlt' _ h']; exact HS.sep i j b zi ei zj ej hne hm hm'
        · by_cases hd : (hp (S s)).get i = .dead
          · rw [hlt' _ h, hd]; exact .inl (by unfold share; trivial)
          · rcases row with ⟨_, r, _⟩ | ⟨hne, ro, b', z', e', r1, r2⟩
            · rw [r] at hm'; cases hm'
            · rw [r2] at hm'
              cases hm'
              exact absurd (own_i hm hd) (row_own r1 ro).2
      · rcases which hj with ⟨h', hm'⟩ | ⟨rfl, hm'⟩
        · by_cases hd : (hp (S s)).get j = .dead
          · rw [hlt' _ h', hd]; exact .inr (.inl (by unfold share; trivial))
          · rcases row with ⟨_, r, _⟩ | ⟨hne, ro, b', z', e', r1, r2⟩
            · rw [r] at hm; cases hm
            · rw [r2] at hm
              cases hm
              exact absurd (own_i hm' hd) (row_own r1 ro).2
        · exact absurd rfl hne
    · cases hm2 : μ2 i with
      | none => exact absurd hm2 hi
      | some p' =>
        rcases which hm2 with ⟨h, hm⟩ | ⟨rfl, hm⟩
        · rw [hlt' _ h] at hg
          have := HS.par i c lv p ty' (by rw [hm]; intro h; cases h) hg j hj
          cases hmj : μ j with
          | none => exact absurd hmj this
          | some pj => rw [msub' j pj hmj]; intro h; cases h
        · rw [hlast] at hg
          rcases row with ⟨_, _, r⟩ | ⟨hne, ro, _⟩
          · rw [r] at hg; cases hg
          · rw [ro] at hg; cases hg; cases hj
  have hl2 : LR μ2 (planV M l :: .int .i64 (.ofNat t) :: .int .i64 (.ofNat d) :: capsAt ps) args'.toList := by
    rw [hl0]
    refine LR.cons ?_ ?_
    · have hh := hl.head
      rcases row with ⟨rfl, _, _⟩ | ⟨hne, ro, b', z', e', r1, r2⟩
      · obtain ⟨_, _, rfl⟩ := (show VR μ1 (.slice none 0 0) y0 from hh).sliceN_inv
        exact .plain rfl
      · rcases planO_cases ty 16 l with ⟨g, _⟩ | ⟨_, g⟩
        · rw [ro] at g; cases g
        · rcases planO_cases ty M l with ⟨g', _⟩ | ⟨_, g'⟩
          · rw [ro] at g'; cases g'
          · rw [g] at hh
            rw [g']
            obtain ⟨b, z, e, c', hm', p1, p2, p3, rfl⟩ := hh.sliceU_inv
            rw [r1] at hm'
            cases hm'
            exact .sliceU (by rw [mL]; exact r2) p1 p2 p3
    · match ys, hl with
      | [], hl => exact absurd hl.1 (by simp)
      | [y1], hl => exact absurd hl.1 (by simp)
      | y1 :: y2 :: ys, hl =>
        refine LR.cons ?_ (LR.cons ?_ (vr_caps hl.tail.tail.tail (by simp) fun j p q hp hq => ?_))
        · rw [hl.tail.head.int_inv]; exact .plain rfl
        · rw [hl.tail.tail.head.int_inv]; exact .plain rfl
        · have hlt := (List.getElem?_eq_some_iff.1 hq).1
          rw [List.getElem?_range hlt] at hp
          cases hp
          have hqm := hpl q (List.mem_of_getElem? hq)
          rw [m2 (by omega), hroot j (by omega), hq, hμ q hqm]
          rfl
  refine (L F w0' μ2 w args' H2 hl2).mono fun v' w' ⟨v, h', ⟨ev, ρ, r1, r2, r3, r4⟩, μ', hv, H', K⟩ => ?_
  subst ev
  have HN := H'.renum ρ r2 r3 r4
  rw [hS] at HN
  have td' : tidy (hp (S (step s l t d))) = true := tidy_hp (tdS _)
  have dead17 : ∀ {i}, i < 17 → (hp (roots ++ [.dead])).get i = .dead := fun {i} hi => by
    by_cases h16 : i < 16
    · exact roots_at h16 _
    · have : i = 16 := by omega
      subst this; exact roots_last _
  have d17 : ∀ {i p}, μ1 i = some p → i < 17 := fun {i p} hi => by have := H1.dom i p hi; rw [roots_next] at this; exact this
  refine ⟨μ1, flat_any hv rfl, ⟨fun i p hi => by rw [roots_next]; exact d17 hi, fun i b z e hi => by rw [dead17 (d17 hi)]; trivial, fun i b z e hi hw => (by rw [dead17 (d17 hi)] at hw; cases hw), fun i j b zi ei zj ej hne hi hj => by rw [dead17 (d17 hi)]; exact .inl (by unfold share; trivial),
      fun i c lv p ty' hi hg j hj => ?_, H'.os, H'.tape, H'.output, H'.size, H'.fr⟩,
    ⟨fun b => Own (μ'.by ρ M) (hp (S (step s l t d))) b, ⟨hroot, hP', μ'.by ρ M, fun i hi => ?_, HN.alone, fun b => Iff.rfl⟩, fun b hb => ?_, fun i b z e hi hw => (by rw [dead17 (d17 hi)] at hw; cases hw)⟩, ⟨Sub.refl μ1, by rw [roots_next, roots_next]; exact Nat.le_refl _, fun i hi hm' => ⟨hm', ?_⟩⟩⟩
  · cases hm1 : μ1 i with
    | none => exact absurd hm1 hi
    | some p' => rw [dead17 (d17 hm1)] at hg; cases hg
  · rw [by_lt (by omega), r1 i hi, (K i hi).1, m2 (by omega), hμ i hi]
  · obtain ⟨i, z, e, hi, hd⟩ := hb
    exact HN.own i b z e hi (tidy_wr td' (HN.dom i _ hi) hd)
  · rw [roots_next] at hi
    rw [dead17 hi]
    by_cases h16 : i < 16
    · rw [roots_at h16]
    · have : i = 16 := by omega
      subst this
      rcases row with ⟨_, _, r⟩ | ⟨_, _, b, z, e, r1, _⟩
      · rw [roots_last, r]
      · rw [hm'] at r1; cases r1

/-- The call from where the hidden state is the heap: all its first objects are captured. -/
theorem base_call {S : σ → List AObj} {P0 : σ → Prop} {m M : Nat} (hS : ∀ s, (S s).length = M) (hmM : m ≤ M) (tdS : ∀ s, ((S s).all tidyOb) = true) {ps : List Nat} (hps : ps.length ≤ 16) (hall : ∀ i, i < m → i ∈ ps) (hpl : ∀ p ∈ ps, p < m)
    {os : List AObj} (hos : os.length = m) {s s1 : σ} (h0 : ∀ i, i < M → (hp (S s)).get i = (hp os).get i) (hP : P0 s) {f : FuncId} {pre : List Value} {fid : FuncId} (pp : ∀ v ∈ pre, plainV v = true)
    (C : ∀ μ : Mp, SaysI P (Hid.base S P0 μ m ps) (hp roots) s f (pre ++ [.func (.func fid) #[] (capsAt (List.range ps.length)).toArray]) (.tuple #[]) (hp roots) s1) :
    Says P (hp os) f (pre ++ [.func (.func fid) #[] (capsAt ps).toArray]) (.tuple #[]) (hp (S s1)) := by
  intro F w0 μ w args' H hl
  have rd : ∀ {i}, i < 16 → (hp roots).get i = .dead := fun {i} hi => by have := roots_at hi []; rwa [List.append_nil] at this
  have rn : (hp roots).next = 16 := hp_next _
  have on : (hp os).next = m := by rw [hp_next, hos]
  have mdom : ∀ {i p}, μ i = some p → i < m := fun {i p} hi => by have := H.dom i p hi; rw [on] at this; exact this
  let μ1 : Mp := fun j => if j < 16 then (ps[j]?).bind μ else none
  have low : ∀ {j p}, μ1 j = some p → j < 16 := fun {j p} hj => by
    by_cases h1 : j < 16
    · exact h1
    · have : μ1 j = none := if_neg h1
      rw [this] at hj; cases hj
  have HS0 : HR F w0 μ (hp (S s)) w := by
    refine ⟨fun i p hi => by rw [hp_next, hS]; exact Nat.lt_of_lt_of_le (mdom hi) hmM, fun i b z e hi => ?_, fun i b z e hi hw => ?_, fun i j b zi ei zj ej hne hi hj => ?_, fun i c lv p ty' hi hg j hj => ?_, H.os, H.tape, H.output, H.size, H.fr⟩
    · rw [h0 i (Nat.lt_of_lt_of_le (mdom hi) hmM)]; exact H.obj i b z e hi
    · rw [h0 i (Nat.lt_of_lt_of_le (mdom hi) hmM)] at hw; exact H.own i b z e hi hw
    · rw [h0 i (Nat.lt_of_lt_of_le (mdom hi) hmM), h0 j (Nat.lt_of_lt_of_le (mdom hj) hmM)]; exact H.sep i j b zi ei zj ej hne hi hj
    · cases hm1 : μ i with
      | none => exact absurd hm1 hi
      | some p' => rw [h0 i (Nat.lt_of_lt_of_le (mdom hm1) hmM)] at hg; exact H.par i c lv p ty' hi hg j hj
  have H1 : HR F w0 μ1 (hp roots) w := by
    refine ⟨fun i p hi => by rw [rn]; exact low hi, fun i b z e hi => by rw [rd (low hi)]; trivial, fun i b z e hi hw => (by rw [rd (low hi)] at hw; cases hw), fun i j b zi ei zj ej hne hi hj => by rw [rd (low hi)]; exact .inl (by unfold share; trivial),
      fun i c l p ty hi hg j hj => ?_, H.os, H.tape, H.output, H.size, H.fr⟩
    cases hm : μ1 i with
    | none => exact absurd hm hi
    | some p' => rw [rd (low hm)] at hg; cases hg
  have W1 : With (Hid.base S P0 μ m ps) F μ1 (hp roots) s w :=
    ⟨fun b => Own μ (hp (S s)) b, ⟨fun j hj => if_pos hj, hP, μ, fun i hi => rfl, HS0.alone, fun b => Iff.rfl⟩,
      fun b ⟨i, z, e, hi, hd⟩ => HS0.own i b z e hi (tidy_wr (tidy_hp (tdS s)) (HS0.dom i _ hi) hd),
      fun i b z e hi hw => (by rw [rd (low hi)] at hw; cases hw)⟩
  have hl1 : LR μ1 (pre ++ [.func (.func fid) #[] (capsAt (List.range ps.length)).toArray]) args'.toList := by
    obtain ⟨pre', s', post', e, l1, l2, l3⟩ := lr_split hl
    rw [e]
    refine lr_join (plain_mono pp l1) ?_ (plain_mono (fun v hv => by cases hv) l3)
    obtain ⟨f', c', rfl, q1, q2⟩ := l2.func_inv
    refine VR.func_of (plain_mono (fun v hv => by cases hv) q1) ?_
    exact vr_caps (ps := ps) (qs := List.range ps.length) (by simpa using q2) (by simp) fun j p q hp hq => by
      have hlt := (List.getElem?_eq_some_iff.1 hp).1
      rw [List.getElem?_range hlt] at hq
      cases hq
      show (if j < 16 then (ps[j]?).bind μ else none) = μ p
      rw [if_pos (by omega), hp]
      rfl
  have bornAll : ∀ i, i < m → μ i ≠ none := fun i hi => by
    obtain ⟨q, hq⟩ := List.mem_iff_getElem?.1 (hall i hi)
    obtain ⟨pre', s', post', e, l1, l2, l3⟩ := lr_split hl
    obtain ⟨f', c', rfl, q1, q2⟩ := l2.func_inv
    have hb : Born i (.pointer (some ⟨i, 0, none⟩)) := Born.ptr i 0
    have hk : (capsAt ps)[q]? = some (.pointer (some ⟨i, 0, none⟩)) := by
      unfold capsAt
      rw [List.getElem?_map, hq]; rfl
    obtain ⟨v', _, hv'⟩ := (show LR μ (capsAt ps) c'.toList by simpa using q2).at_ hk
    exact hb μ v' hv'
  refine (C μ F w0 μ1 w args' H1 W1 hl1).mono fun v' w' ⟨μ', hv, H', ⟨B'', ⟨_, _, μ2, hμ2, HS2, iff⟩, hF'', _⟩, E⟩ => ?_
  refine ⟨μ2, flat_any hv rfl, ⟨HS2.dom, HS2.obj, fun i b z e hi hw hf => hF'' b ((iff b).2 ⟨i, z, e, hi, fun hd => by rw [hd] at hw; cases hw⟩) hf, HS2.sep, HS2.par, H'.os, H'.tape, H'.output, H'.size, H'.fr⟩,
    ⟨fun i p hi => by rw [hμ2 i (mdom hi)]; exact hi, by rw [on, hp_next, hS]; exact hmM, fun i hi hm' => absurd hm' (bornAll i (by rw [on] at hi; exact hi))⟩⟩
end
end Go.R
