/- Code that calls functions of which only a contract over a hidden state is known: the rules. -/
import Derived.Test.YtgnkjmgkfibipaaGreatDoorSSpelledRG6
namespace Go.R
set_option linter.unusedVariables false
set_option linter.unusedSimpArgs false
open Go Go.RowKit
noncomputable section
variable {P : Program} {σ : Type}

/-- A hidden state: what stands in blocks of its own, reached from the first places. -/
structure Hid (σ : Type) where
  k : Nat
  holds : σ → Mp → World → (Nat → Prop) → Prop
  loc : ∀ {s : σ} {μ μ' : Mp} {w : World} {B : Nat → Prop}, (∀ i, i < k → μ' i = μ i) → holds s μ w B → holds s μ' w B
  frame : ∀ {s : σ} {μ : Mp} {w w' : World} {B : Nat → Prop}, holds s μ w B → w.heap.size ≤ w'.heap.size → (∀ b, B b → w'.heap[b]? = w.heap[b]?) → holds s μ w' B
  lt : ∀ {s : σ} {μ : Mp} {w : World} {B : Nat → Prop}, holds s μ w B → ∀ b, B b → b < w.heap.size

/-- The hidden state holds beside a heap. -/
def With (I : Hid σ) (F : Nat → Prop) (μ : Mp) (h : AH) (s : σ) (w : World) : Prop :=
  ∃ B, I.holds s μ w B ∧ (∀ b, B b → ¬ F b) ∧ ∀ i b z e, μ i = some (b, z, e) → (h.get i).wr = true → ¬ B b

theorem HR.both {F B : Nat → Prop} {w0 w : World} {μ : Mp} {h : AH} (H : HR F w0 μ h w) (hB : ∀ b, B b → b < w.heap.size) (ho : ∀ i b z e, μ i = some (b, z, e) → (h.get i).wr = true → ¬ B b) :
    HR (fun b => F b ∨ B b) w μ h w where
  dom := H.dom
  obj := H.obj
  own := fun i b z e hi hw hF => hF.elim (H.own i b z e hi hw) (ho i b z e hi hw)
  sep := H.sep
  par := H.par
  os := rfl
  tape := rfl
  output := rfl
  size := Nat.le_refl _
  fr := fun b hb => ⟨hb.elim (fun h => Nat.lt_of_lt_of_le (H.fr b h).1 H.size) (hB b), rfl⟩

theorem HR.back {F B : Nat → Prop} {w0 w w' : World} {μ μ' : Mp} {h h' : AH} (H : HR F w0 μ h w) (H' : HR (fun b => F b ∨ B b) w μ' h' w') : HR F w0 μ' h' w' where
  dom := H'.dom
  obj := H'.obj
  own := fun i b z e hi hw hF => H'.own i b z e hi hw (.inl hF)
  sep := H'.sep
  par := H'.par
  os := H'.os.trans H.os
  tape := H'.tape.trans H.tape
  output := H'.output.trans H.output
  size := Nat.le_trans H.size H'.size
  fr := fun b hb => ⟨(H.fr b hb).1, (H'.fr b (.inl hb)).2.trans (H.fr b hb).2⟩

theorem With.after {I : Hid σ} {F B : Nat → Prop} {w w' : World} {μ μ' : Mp} {h' : AH} {s : σ} (A : I.holds s μ w B) (hF : ∀ b, B b → ¬ F b) (H' : HR (fun b => F b ∨ B b) w μ' h' w') (hk : ∀ i, i < I.k → μ' i = μ i) : With I F μ' h' s w' :=
  ⟨B, I.frame (I.loc hk A) H'.size (fun b hb => (H'.fr b (.inr hb)).2), hF, fun i b z e hi hw hb => H'.own i b z e hi hw (.inr hb)⟩

def RunPostI (I : Hid σ) (F : Nat → Prop) (w0 : World) (k : Nat) (μ : Mp) (h : AH) (D : List Deferred) (Q : AExit → AF → σ → Prop) (e : Exit) (a' : Act) (w' : World) : Prop :=
  ∃ x af' s', Q x af' s' ∧ sameExit x e ∧ a'.defers = D ∧ ∃ μ', AR F w0 μ' af' a' w' ∧ With I F μ' af'.h s' w' ∧ Held k μ μ' h af'.h

def RunsI (P : Program) (I : Hid σ) (k : Nat) (c : Code) (af : AF) (s : σ) (Q : AExit → AF → σ → Prop) : Prop :=
  ∀ (F : Nat → Prop) (w0 : World) (μ : Mp) (a : Act) (w : World), AR F w0 μ af a w → With I F μ af.h s w → Wp P c (RunPostI I F w0 k μ af.h a.defers Q) a w

variable {I : Hid σ} {k : Nat} {af : AF} {s : σ}

/-- Code that does not call. -/
theorem RunsI.of {c : Code} {Q : AExit → AF → Prop} {Q' : AExit → AF → σ → Prop} (hk : I.k ≤ k) (h : Runs P k c af Q) (q : ∀ x af', Q x af' → Q' x af' s) : RunsI P I k c af s Q' :=
  fun F w0 μ a w R ⟨B, A, hF, ho⟩ =>
    Wp.mono (h _ w μ a w ⟨R.heap.both (I.lt A) ho, R.tm, R.sz⟩) fun e a' w' ⟨x, af', q1, sx, d, μ', r, kp⟩ =>
      ⟨x, af', s, q x af' q1, sx, d, μ', ⟨R.heap.back r.heap, r.tm, r.sz⟩, With.after A hF r.heap (fun i hi => (kp i (Nat.lt_of_lt_of_le hi hk)).1), kp⟩

theorem RunsI.mono {c : Code} {Q Q' : AExit → AF → σ → Prop} (h : RunsI P I k c af s Q) (m : ∀ x af' s', Q x af' s' → Q' x af' s') : RunsI P I k c af s Q' :=
  fun F w0 μ a w R W => Wp.mono (h F w0 μ a w R W) fun e a w ⟨x, af', s', q, r⟩ => ⟨x, af', s', m x af' s' q, r⟩

theorem RunsI.less {c : Code} {af1 : AF} {Q : AExit → AF → σ → Prop} (hk : I.k ≤ k) (L : Less k af1 af) (h : RunsI P I k c af1 s Q) : RunsI P I k c af s Q := by
  intro F w0 μ a w R W
  have cut : ∀ i, i < af1.h.next → μ.cut af1.h.next i = μ i := fun i hi => by unfold Mp.cut; rw [if_pos hi]
  have W1 : With I F (μ.cut af1.h.next) af1.h s w := by
    obtain ⟨B, A, hF, ho⟩ := W
    refine ⟨B, I.loc (fun i hi => cut i (Nat.lt_of_lt_of_le hi (Nat.le_trans hk L.low))) A, hF, fun i b z e hi hw => ?_⟩
    have hlt : i < af1.h.next := by
      unfold Mp.cut at hi
      split at hi
      · assumption
      · cases hi
    rw [cut i hlt] at hi
    rcases L.heap i hlt with ⟨h1, _⟩ | ⟨h1, _⟩
    · rw [h1] at hw; cases hw
    · rw [h1] at hw; exact ho i b z e hi hw
  refine Wp.mono (h F w0 _ a w (L.ar R) W1) fun e a' w' ⟨x, af', s', q, sx, d, μ', r, wi, kp⟩ => ⟨x, af', s', q, sx, d, μ', r, wi, fun i hi => ?_⟩
  have h1 := kp i hi
  have hlow : i < af1.h.next := Nat.lt_of_lt_of_le hi L.low
  refine ⟨h1.1.trans (cut i hlow), fun hn => (h1.2 ((cut i hlow).trans hn)).trans ?_⟩
  rcases L.heap i hlow with ⟨_, h2⟩ | ⟨h2, _⟩
  · omega
  · exact h2

def andThenI (Qn : AF → σ → Prop) (Q : AExit → AF → σ → Prop) : AExit → AF → σ → Prop
  | .normal, af, s => Qn af s
  | x, af, s => Q x af s

theorem RunPostI.trans {F : Nat → Prop} {w0 : World} {μ μ1 : Mp} {h h1 : AH} {D D1 : List Deferred} {Q : AExit → AF → σ → Prop} (K : Held k μ μ1 h h1) (hD : D1 = D) {e : Exit} {a : Act} {w : World}
    (p : RunPostI I F w0 k μ1 h1 D1 Q e a w) : RunPostI I F w0 k μ h D Q e a w := by
  obtain ⟨x, af', s', q, sx, d, μ', r, wi, kp⟩ := p
  exact ⟨x, af', s', q, sx, d.trans hD, μ', r, wi, K.trans kp⟩

theorem RunsI.seq {c1 c2 : Code} {Q : AExit → AF → σ → Prop} (h : RunsI P I k c1 af s (andThenI (fun af' s' => RunsI P I k c2 af' s' Q) Q)) : RunsI P I k (.seq c1 c2) af s Q := by
  intro F w0 μ a w R W
  refine wp_seq (wp_mono (Wp.wp (h F w0 μ a w R W)) fun e a' w' ⟨x, af', s', q, sx, d, μ', r, wi, kp⟩ => ?_)
  cases x with
  | normal =>
    cases e with
    | normal => exact wp_mono (Wp.wp (q F w0 μ' a' w' r wi)) fun e a'' w'' p => p.trans kp d
    | _ => exact sx.elim
  | exit id =>
    cases e with
    | exit id' => exact ⟨.exit id, af', s', q, sx, d, μ', r, wi, kp⟩
    | _ => exact sx.elim
  | ret =>
    cases e with
    | ret => exact ⟨.ret, af', s', q, sx, d, μ', r, wi, kp⟩
    | _ => exact sx.elim

theorem RunsI.cond {x : Operand} {t e : Code} {Q : AExit → AF → σ → Prop} {b : Bool} (hx : evalA af.tm x = some (.bool b))
    (ht : b = true → RunsI P I k t af s Q) (hf : b = false → RunsI P I k e af s Q) : RunsI P I k (.cond x t e) af s Q := by
  intro F w0 μ a w R W
  have hv := (evalA_ok R.tm (fun _ _ => trivial) hx).bool_inv
  cases b with
  | true => exact wp_cond_true hv (Wp.wp (ht rfl F w0 μ a w R W))
  | false => exact wp_cond_false hv (Wp.wp (hf rfl F w0 μ a w R W))

def caughtI (id : Nat) (Q : AExit → AF → σ → Prop) : AExit → AF → σ → Prop
  | .exit id', af, s => if id' = id then Q .normal af s else Q (.exit id') af s
  | x, af, s => Q x af s

theorem RunsI.block {id : Nat} {body : Code} {Q : AExit → AF → σ → Prop} (h : RunsI P I k body af s (caughtI id Q)) : RunsI P I k (.block id body) af s Q := by
  intro F w0 μ a w R W
  refine wp_block (wp_mono (Wp.wp (h F w0 μ a w R W)) fun e a' w' ⟨x, af', s', q, sx, d, μ', r, wi, kp⟩ => ?_)
  cases x with
  | normal =>
    cases e with
    | normal => exact ⟨.normal, af', s', q, trivial, d, μ', r, wi, kp⟩
    | _ => exact sx.elim
  | exit id1 =>
    cases e with
    | exit id' =>
      have e1 : id1 = id' := sx
      subst e1
      simp only [Exit.inBlock]
      simp only [caughtI] at q
      split
      · rename_i hid
        rw [if_pos hid] at q
        exact ⟨.normal, af', s', q, trivial, d, μ', r, wi, kp⟩
      · rename_i hid
        rw [if_neg hid] at q
        exact ⟨.exit id1, af', s', q, rfl, d, μ', r, wi, kp⟩
    | _ => exact sx.elim
  | ret =>
    cases e with
    | ret => exact ⟨.ret, af', s', q, trivial, d, μ', r, wi, kp⟩
    | _ => exact sx.elim

theorem RunsI.loop {body : Code} {Q : AExit → AF → σ → Prop} (h : RunsI P I k body af s (andThenI (fun af' s' => RunsI P I k (.loop body) af' s' Q) Q)) : RunsI P I k (.loop body) af s Q := by
  intro F w0 μ a w R W
  refine LoopWp.round (wp_mono (Wp.wp (h F w0 μ a w R W)) fun e a' w' ⟨x, af', s', q, sx, d, μ', r, wi, kp⟩ => ?_)
  cases x with
  | normal =>
    cases e with
    | normal =>
      intro b kk cs
      obtain ⟨e2, a2, w2, q1, q2⟩ := q F w0 μ' a' w' r wi b kk cs
      exact ⟨e2, a2, w2, q1.trans kp d, q2⟩
    | _ => exact sx.elim
  | exit id =>
    cases e with
    | exit id' => exact ⟨.exit id, af', s', q, sx, d, μ', r, wi, kp⟩
    | _ => exact sx.elim
  | ret =>
    cases e with
    | ret => exact ⟨.ret, af', s', q, trivial, d, μ', r, wi, kp⟩
    | _ => exact sx.elim

/-! ### By the code's shape -/
theorem RunsI.sq {c : Code} {Q : AExit → AF → σ → Prop} (hsq : isSeq c = true) (h : RunsI P I k (hd c) af s (andThenI (fun a s' => RunsI P I k (tl c) a s' Q) Q)) : RunsI P I k c af s Q := by
  cases c with
  | seq a b => exact RunsI.seq h
  | _ => cases hsq
theorem RunsI.bk {id : Nat} {c : Code} {Q : AExit → AF → σ → Prop} (hb : blockNo c = some id) (h : RunsI P I k (within c) af s (caughtI id Q)) : RunsI P I k c af s Q := by
  cases c with
  | block i b => cases hb; exact RunsI.block h
  | _ => cases hb
theorem RunsI.lp {c : Code} {Q : AExit → AF → σ → Prop} (hl : isLoop c = true) (h : RunsI P I k (within c) af s (andThenI (fun a s' => RunsI P I k c a s' Q) Q)) : RunsI P I k c af s Q := by
  cases c with
  | loop b => exact RunsI.loop h
  | _ => cases hl
theorem RunsI.cd {c : Code} {Q : AExit → AF → σ → Prop} {b : Bool} (hx : condVal af c = some (.bool b)) (ht : b = true → RunsI P I k (thenOf c) af s Q) (hf : b = false → RunsI P I k (elseOf c) af s Q) : RunsI P I k c af s Q := by
  cases c with
  | cond x t e => exact RunsI.cond hx ht hf
  | _ => cases hx
theorem RunsI.now {c : Code} {Q : AExit → AF → σ → Prop} {x : AExit} (hk : I.k ≤ k) (he : endNow c = some x) (q : Q x af s) : RunsI P I k c af s Q :=
  RunsI.of (Q := fun y a => y = x ∧ a = af) hk (Runs.now he ⟨rfl, rfl⟩) fun y a h => by rw [h.1, h.2]; exact q
theorem RunsI.rg (hm : P.follows .mixedOrders = true) {call : CallF} (hc : CallOk P call) {c : Code} {Q : AExit → AF → σ → Prop} (hI : I.k ≤ k) (ov : List Via) (hk : Nat.ble k af.h.next = true)
    (hg : (regGood P c && apart (foes ov)) = true) (hs : (endV P call c ov af).isSome = true) (ob : OblV P call c af ov ov) (q : Q .normal (aftV P call c ov af) s) : RunsI P I k c af s Q :=
  RunsI.of (Q := fun y a => y = .normal ∧ a = aftV P call c ov af) hI (Runs.rg hm hc ov hk hg hs ob ⟨rfl, rfl⟩) fun y a h => by rw [h.1, h.2]; exact q
theorem RunsI.sqR (hm : P.follows .mixedOrders = true) {call : CallF} (hc : CallOk P call) {c : Code} {Q : AExit → AF → σ → Prop} (hI : I.k ≤ k) (ov : List Via) (hk : Nat.ble k af.h.next = true)
    (hg : (isSeq c && (regGood P (hd c) && apart (foes ov))) = true) (hs : (endV P call (hd c) ov af).isSome = true) (ob : OblV P call (hd c) af ov ov) (q : RunsI P I k (tl c) (aftV P call (hd c) ov af) s Q) : RunsI P I k c af s Q := by
  rw [Bool.and_eq_true] at hg
  exact RunsI.sq hg.1 (RunsI.rg hm hc hI ov hk hg.2 hs ob q)
end
end Go.R

/- Regions whose last operation calls a function of which only a contract over the hidden state is known. -/
namespace Go.R
set_option linter.unusedVariables false
set_option linter.unusedSimpArgs false
open Go Go.RowKit
noncomputable section
variable {P : Program} {σ : Type}

/-! ### The last operation, left out -/
section
variable {ops : Array Oper} {n : Nat} {o : Oper} {Q Q1 : Exit → Act → World → Prop}

end

/-! ### The rule -/
end
end Go.R

/- Contracts over hidden states: made from a body's walk, told in greater heaps, and hiding one's own heap from a callee. -/
namespace Go.R
set_option linter.unusedVariables false
set_option linter.unusedSimpArgs false
open Go Go.RowKit
noncomputable section
variable {P : Program} {σ : Type}

/-! ### From a walk -/
/-! ### Heaps without shares -/
/-! ### A list of numbers as an argument -/
def roots : List AObj := List.replicate 16 .dead
end
end Go.R

/- One's own heap, hidden from a callee: its contract over the greater hidden state. -/
namespace Go.R
set_option linter.unusedVariables false
set_option linter.unusedSimpArgs false
open Go Go.RowKit
noncomputable section
variable {P : Program} {σ : Type}

def Own (μ : Mp) (h : AH) (b : Nat) : Prop := ∃ i z e, μ i = some (b, z, e) ∧ h.get i ≠ .dead

theorem OR.inb {μ : Mp} {o : AObj} {b z e : Nat} {w : World} (h : OR μ o b z e w) (hd : o ≠ .dead) : b < w.heap.size := by
  cases o with
  | cells c live par ty => obtain ⟨cs, el, fr, h1, _⟩ := h; exact (Array.getElem?_eq_some_iff.1 h1).1
  | map es => obtain ⟨_, ms, cl, h1, _⟩ := h; exact (Array.getElem?_eq_some_iff.1 h1).1
  | str s pos => exact (Array.getElem?_eq_some_iff.1 h.2).1
  | ghost tag => obtain ⟨_, _, _, ms, cl, h1, _⟩ := h; exact (Array.getElem?_eq_some_iff.1 h1).1
  | dead => exact absurd rfl hd

end
end Go.R

/- A last row that has grown, under its old number again. -/
namespace Go.R
set_option linter.unusedVariables false
set_option linter.unusedSimpArgs false
open Go Go.RowKit
noncomputable section
variable {P : Program}

theorem Clo.mono {k n : Nat} {v : Value} (h : Clo k v) (hk : k ≤ n) : Clo n v := fun μ v' hv =>
  (h μ v' hv).mono fun i p hi => by
    obtain ⟨h1, h2⟩ := cut_some hi
    rw [cut_lt (by omega)]; exact h2

theorem CloO.mono {k n : Nat} {o : AObj} (h : CloO k o) (hk : k ≤ n) : CloO n o := by
  cases o with
  | cells c l p ty => exact ⟨fun v hv => (h.1 v hv).mono hk, fun j hj => Nat.lt_of_lt_of_le (h.2 j hj) hk⟩
  | map es => exact fun e he => (h e he).mono hk
  | str s q => trivial
  | ghost t => exact fun es hs e he => (h es hs e he).mono hk
  | dead => trivial

end
end Go.R

/- The hidden state that is a heap of one's own: what a callback does to it, and what has become of it behind the call. -/
namespace Go.R
set_option linter.unusedVariables false
set_option linter.unusedSimpArgs false
open Go Go.RowKit
noncomputable section
variable {P : Program} {σ : Type}

theorem HR.alone {F : Nat → Prop} {w0 w : World} {μ : Mp} {h : AH} (H : HR F w0 μ h w) : HR (fun _ => False) w μ h w :=
  ⟨H.dom, H.obj, fun _ _ _ _ _ _ h => h, H.sep, H.par, rfl, rfl, rfl, Nat.le_refl _, fun _ h => h.elim⟩

/-- The hidden state that is a heap: its first objects lie where they lay, and are what the places give. -/
def Hid.base (S : σ → List AObj) (P0 : σ → Prop) (μ0 : Mp) (m : Nat) (ps : List Nat) : Hid σ where
  k := 16
  holds := fun s μ' w B => (∀ j, j < 16 → μ' j = (ps[j]?).bind μ0) ∧ P0 s ∧ ∃ μ : Mp, (∀ i, i < m → μ i = μ0 i) ∧ HR (fun _ => False) w μ (hp (S s)) w ∧ ∀ b, B b ↔ Own μ (hp (S s)) b
  loc := fun hl ⟨a, b⟩ => ⟨fun j hj => (hl j hj).trans (a j hj), b⟩
  frame := fun {s _ _ _ _} ⟨a, p, μ, h1, h2, h3⟩ hsz hw => ⟨a, p, μ, h1, ⟨h2.dom, fun i b z e hi => by
    by_cases hd : (hp (S s)).get i = .dead
    · rw [hd]; trivial
    · exact (h2.obj i b z e hi).world (hw b ((h3 b).2 ⟨i, z, e, hi, hd⟩)), h2.own, h2.sep, h2.par, rfl, rfl, rfl, Nat.le_refl _, fun _ h => h.elim⟩, h3⟩
  lt := fun ⟨a, p, μ, h1, h2, h3⟩ b hb => by
    obtain ⟨i, z, e, hi, hd⟩ := (h3 b).1 hb
    exact (h2.obj i b z e hi).inb hd

end
end Go.R
