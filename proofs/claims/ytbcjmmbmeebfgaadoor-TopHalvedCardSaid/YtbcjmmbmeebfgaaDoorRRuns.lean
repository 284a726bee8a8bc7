/- Stretches of code between states of one's own choosing: rules over the machine. -/
import Derived.Test.YtbcjmmbmeebfgaaDoorRHook
namespace Go.R
set_option linter.unusedVariables false
set_option linter.unusedSimpArgs false
open Go Go.RowKit
noncomputable section

def sameExit : AExit → Exit → Prop
  | .normal, .normal => True
  | .exit i, .exit j => i = j
  | .ret, .ret => True
  | _, _ => False

/-- What stands below k is where it was; what is not yet born there has not changed. -/
def Held (k : Nat) (μ μ' : Mp) (h h' : AH) : Prop := ∀ i, i < k → μ' i = μ i ∧ (μ i = none → h'.get i = h.get i)

theorem Held.refl (k : Nat) (μ : Mp) (h : AH) : Held k μ μ h h := fun i _ => ⟨rfl, fun _ => rfl⟩
theorem Held.trans {k : Nat} {a b c : Mp} {x y z : AH} (h : Held k a b x y) (g : Held k b c y z) : Held k a c x z := fun i hi =>
  ⟨(g i hi).1.trans (h i hi).1, fun hn => ((g i hi).2 ((h i hi).1.trans hn)).trans ((h i hi).2 hn)⟩
theorem Held.of_ext {k : Nat} {μ μ' : Mp} {h h' : AH} (E : Ext μ μ' h h') (hk : k ≤ h.next) : Held k μ μ' h h' := by
  intro i hi
  cases hm : μ i with
  | some p => exact ⟨E.sub i p hm, fun e => by cases e⟩
  | none =>
    have := E.unborn i (by omega) hm
    exact ⟨this.1, fun _ => this.2⟩

/-! ### Values whose places all lie below k -/
def Mp.cut (k : Nat) (μ : Mp) : Mp := fun i => if i < k then μ i else none

theorem Mp.cut_sub (k : Nat) (μ : Mp) : Sub (μ.cut k) μ := fun i p h => by
  unfold Mp.cut at h
  split at h
  · exact h
  · cases h

def Clo (k : Nat) (v : Value) : Prop := ∀ (μ : Mp) (v' : Value), VR μ v v' → VR (μ.cut k) v v'

def cloB : Nat → Nat → Value → Bool
  | 0, _, _ => false
  | f + 1, k, v => plainV v || match v with
    | .pointer (some a) => Nat.blt a.block k
    | .slice (some a) _ _ => (match a.spot with | some 0 => true | _ => Nat.blt a.block k)
    | .map (some i) => Nat.blt i k
    | .func _ a b => a.toList.all (cloB f k) && b.toList.all (cloB f k)
    | .agg a => a.toList.all (cloB f k)
    | .tuple a => a.toList.all (cloB f k)
    | _ => false

theorem blt_lt {a b : Nat} (h : Nat.blt a b = true) : a < b := by simpa [Nat.blt_eq] using h

theorem clo_list {k : Nat} {l l' : List Value} {μ : Mp} (hl : ∀ v ∈ l, Clo k v) (h : LR μ l l') : LR (μ.cut k) l l' :=
  ⟨h.1, fun i v v' a b => hl v (List.mem_of_getElem? a) μ v' (h.2 i v v' a b)⟩

theorem clo_of : ∀ (f k : Nat) (v : Value), cloB f k v = true → Clo k v
  | 0, k, v, h => by cases h
  | f + 1, k, v, h => by
    intro μ v' hv
    unfold cloB at h
    rw [Bool.or_eq_true] at h
    rcases h with hp | h
    · rw [plain_same hv hp]; exact .plain hp
    have hlist : ∀ l : List Value, l.all (cloB f k) = true → ∀ v ∈ l, Clo k v := fun l hl v hv => clo_of f k v (List.all_eq_true.1 hl v hv)
    cases hv with
    | plain hp => exact .plain hp
    | ptr hi => exact .ptr (by unfold Mp.cut; rw [if_pos (blt_lt h)]; exact hi)
    | slice hi => exact .slice (by unfold Mp.cut; rw [if_pos (blt_lt h)]; exact hi)
    | sliceU hi a b c => exact .sliceU (by unfold Mp.cut; rw [if_pos (blt_lt h)]; exact hi) a b c
    | slice0 => exact .slice0
    | map hi => exact .map (by unfold Mp.cut; rw [if_pos (blt_lt h)]; exact hi)
    | func h1 h2 h3 h4 =>
      simp only [Bool.and_eq_true] at h
      exact VR.func_of (clo_list (hlist _ h.1) ⟨by simpa using h1, fun k v v' x y => h2 k v v' (by simpa using x) (by simpa using y)⟩)
        (clo_list (hlist _ h.2) ⟨by simpa using h3, fun k v v' x y => h4 k v v' (by simpa using x) (by simpa using y)⟩)
    | agg h1 h2 => exact VR.agg_of (clo_list (hlist _ h) ⟨by simpa using h1, fun k v v' x y => h2 k v v' (by simpa using x) (by simpa using y)⟩)
    | tuple h1 h2 => exact VR.tuple_of (clo_list (hlist _ h) ⟨by simpa using h1, fun k v v' x y => h2 k v v' (by simpa using x) (by simpa using y)⟩)
    | iface h1 => cases h

def CloO (k : Nat) : AObj → Prop
  | .cells c _ p _ => (∀ v ∈ c, Clo k v) ∧ ∀ j ∈ p, j < k
  | .map es => ∀ e ∈ es, Clo k e.2
  | .str _ _ => True
  | .ghost tag => ∀ es, Stands tag es → ∀ e ∈ es, Clo k e.2
  | .dead => True

theorem OR.cut {μ : Mp} {k : Nat} {ob : AObj} {b z e : Nat} {w : World} (hc : CloO k ob) (h : OR μ ob b z e w) : OR (μ.cut k) ob b z e w := by
  cases ob with
  | cells c live par ty =>
    obtain ⟨cs, el, fr, h1, h2, h3, h4, h5⟩ := h
    exact ⟨cs, el, fr, h1, h2, h3, fun i v hi => let ⟨v', a, b⟩ := h4 i v hi; ⟨v', a, hc.1 v (List.mem_of_getElem? hi) μ v' b⟩, h5⟩
  | map es =>
    obtain ⟨h0, ms, cl, h1, h2, h3⟩ := h
    exact ⟨h0, ms, cl, h1, ⟨h2.1, fun i x m a b => ⟨(h2.2 i x m a b).1, hc x (List.mem_of_getElem? a) μ _ (h2.2 i x m a b).2⟩⟩, h3⟩
  | str s pos => exact h
  | ghost tag =>
    obtain ⟨es, hv, h0, ms, cl, h1, h2, h3⟩ := h
    exact ⟨es, hv, h0, ms, cl, h1, ⟨h2.1, fun i x m a b => ⟨(h2.2 i x m a b).1, hc es hv x (List.mem_of_getElem? a) μ _ (h2.2 i x m a b).2⟩⟩, h3⟩
  | dead => trivial

/-- A state that says no more than another one. -/
structure Less (k : Nat) (af1 af : AF) : Prop where
  sz : af1.sz = af.sz
  low : k ≤ af1.h.next
  next : af1.h.next ≤ af.h.next
  tm : ∀ t v, af1.tm.get t = some v → af.tm.get t = some v ∧ Clo af1.h.next v
  heap : ∀ i, i < af1.h.next → (af1.h.get i = .dead ∧ k ≤ i) ∨ (af1.h.get i = af.h.get i ∧ CloO af1.h.next (af.h.get i))

section
variable {P : Program} {F : Nat → Prop} {w0 : World}

theorem Less.ar {k : Nat} {af1 af : AF} (L : Less k af1 af) {μ : Mp} {a : Act} {w : World} (R : AR F w0 μ af a w) : AR F w0 (μ.cut af1.h.next) af1 a w := by
  have cutS : ∀ {i p}, μ.cut af1.h.next i = some p → i < af1.h.next ∧ μ i = some p := by
    intro i p hi
    unfold Mp.cut at hi
    split at hi
    · rename_i hlt; exact ⟨hlt, hi⟩
    · cases hi
  refine ⟨⟨fun i p hi => (cutS hi).1, fun i b z e hi => ?_, fun i b z e hi hw => ?_, fun i j b zi ei zj ej hne hi hj => ?_, fun i c l p ty hi hg j hj => ?_, R.heap.os, R.heap.tape, R.heap.output, R.heap.size, R.heap.fr, R.heap.tab⟩, fun t ht v hv => ?_, L.sz.trans R.sz⟩
  · obtain ⟨hlt, hi⟩ := cutS hi
    rcases L.heap i hlt with ⟨h1, _⟩ | ⟨h1, h2⟩
    · rw [h1]; trivial
    · rw [h1]; exact (R.heap.obj i b z e hi).cut h2
  · obtain ⟨hlt, hi⟩ := cutS hi
    rcases L.heap i hlt with ⟨h1, _⟩ | ⟨h1, h2⟩
    · rw [h1] at hw; cases hw
    · rw [h1] at hw; exact R.heap.own i b z e hi hw
  · obtain ⟨hlt, hi⟩ := cutS hi
    obtain ⟨hlt', hj⟩ := cutS hj
    rcases L.heap i hlt with ⟨h1, _⟩ | ⟨h1, h2⟩
    · rw [h1]; exact .inl (by unfold share; trivial)
    · rcases L.heap j hlt' with ⟨h3, _⟩ | ⟨h3, h4⟩
      · rw [h3]; exact .inr (.inl (by unfold share; trivial))
      · rw [h1, h3]; exact R.heap.sep i j b zi ei zj ej hne hi hj
  · have hi' : i < af1.h.next ∧ μ i ≠ none := by
      unfold Mp.cut at hi
      split at hi
      · rename_i hlt; exact ⟨hlt, hi⟩
      · exact absurd rfl hi
    rcases L.heap i hi'.1 with ⟨h1, _⟩ | ⟨h1, h2⟩
    · rw [h1] at hg; cases hg
    · rw [h1] at hg
      rw [hg] at h2
      have hjk := h2.2 j hj
      unfold Mp.cut
      rw [if_pos hjk]
      exact R.heap.par i c l p ty hi'.2 hg j hj
  · obtain ⟨h1, h2⟩ := L.tm t v hv
    exact h2 μ _ (R.tm t trivial v h1)

theorem Wp.mono {c : Code} {Q Q' : Exit → Act → World → Prop} {a : Act} {w : World} (h : Wp P c Q a w) (m : ∀ e a w, Q e a w → Q' e a w) : Wp P c Q' a w := by
  cases c with
  | loop b => intro f k cs; obtain ⟨e, a2, w2, q1, q2⟩ := h f k cs; exact ⟨e, a2, w2, m _ _ _ q1, q2⟩
  | _ => exact wp_mono (Wp.wp h) m

def RunPost (F : Nat → Prop) (w0 : World) (k : Nat) (μ : Mp) (h : AH) (D : List Deferred) (Q : AExit → AF → Prop) (e : Exit) (a' : Act) (w' : World) : Prop :=
  ∃ x af', Q x af' ∧ sameExit x e ∧ a'.defers = D ∧ ∃ μ', AR F w0 μ' af' a' w' ∧ Held k μ μ' h af'.h

def Runs (P : Program) (k : Nat) (c : Code) (af : AF) (Q : AExit → AF → Prop) : Prop :=
  ∀ (F : Nat → Prop) (w0 : World) (μ : Mp) (a : Act) (w : World), AR F w0 μ af a w → Wp P c (RunPost F w0 k μ af.h a.defers Q) a w

theorem Runs.eval {call : CallF} (hm : P.follows .mixedOrders = true) (hc : CallOk P call) {n : Nat} {k : Nat} {c : Code} {af af' : AF} {x : AExit} {Q : AExit → AF → Prop}
    (hk : k ≤ af.h.next) (he : execA P call n c af = some (x, af')) (q : Q x af') : Runs P k c af Q := by
  intro F w0 μ a w R
  refine Wp.mono (exec_ok hm hc n c af af' x μ a w he R) fun e a' w' hp => ?_
  have go : Onward F w0 μ af.h a.defers af' a' w' → sameExit x e → RunPost F w0 k μ af.h a.defers Q e a' w' := fun ⟨μ', r1, r2, r3⟩ s => ⟨x, af', q, s, r3, μ', r1, .of_ext r2 hk⟩
  cases e with
  | normal => exact go hp.2 (by rw [hp.1]; trivial)
  | exit id => exact go hp.2 (by rw [hp.1]; rfl)
  | ret => exact go hp.2 (by rw [hp.1]; trivial)
  | goto l => exact hp.elim
  | panic ch => exact hp.elim
  | outgrown => exact hp.elim

theorem Runs.mono {k : Nat} {c : Code} {af : AF} {Q Q' : AExit → AF → Prop} (h : Runs P k c af Q) (m : ∀ x af', Q x af' → Q' x af') : Runs P k c af Q' :=
  fun F w0 μ a w R => Wp.mono (h F w0 μ a w R) fun e a' w' ⟨x, af', q, r⟩ => ⟨x, af', m x af' q, r⟩

theorem Runs.less {k : Nat} {c : Code} {af1 af : AF} {Q : AExit → AF → Prop} (L : Less k af1 af) (h : Runs P k c af1 Q) : Runs P k c af Q := by
  intro F w0 μ a w R
  refine Wp.mono (h F w0 _ a w (L.ar R)) fun e a' w' ⟨x, af', q, s, d, μ', r, kp⟩ => ⟨x, af', q, s, d, μ', r, fun i hi => ?_⟩
  have h1 := kp i hi
  have hlow : i < af1.h.next := Nat.lt_of_lt_of_le hi L.low
  have hcut : μ.cut af1.h.next i = μ i := by unfold Mp.cut; rw [if_pos hlow]
  refine ⟨h1.1.trans hcut, fun hn => (h1.2 (hcut.trans hn)).trans ?_⟩
  rcases L.heap i hlow with ⟨_, h2⟩ | ⟨h2, _⟩
  · omega
  · exact h2

def andThen (Qn : AF → Prop) (Q : AExit → AF → Prop) : AExit → AF → Prop
  | .normal, af => Qn af
  | x, af => Q x af

theorem RunPost.trans {k : Nat} {μ μ1 : Mp} {h h1 : AH} {D D1 : List Deferred} {Q : AExit → AF → Prop} (K : Held k μ μ1 h h1) (hD : D1 = D) {e : Exit} {a : Act} {w : World}
    (p : RunPost F w0 k μ1 h1 D1 Q e a w) : RunPost F w0 k μ h D Q e a w := by
  obtain ⟨x, af', q, s, d, μ', r, kp⟩ := p
  exact ⟨x, af', q, s, d.trans hD, μ', r, K.trans kp⟩

theorem Runs.seq {k : Nat} {c1 c2 : Code} {af : AF} {Q : AExit → AF → Prop} (h : Runs P k c1 af (andThen (fun af' => Runs P k c2 af' Q) Q)) : Runs P k (.seq c1 c2) af Q := by
  intro F w0 μ a w R
  refine wp_seq (wp_mono (Wp.wp (h F w0 μ a w R)) fun e a' w' ⟨x, af', q, s, d, μ', r, kp⟩ => ?_)
  cases x with
  | normal =>
    cases e with
    | normal => exact wp_mono (Wp.wp (q F w0 μ' a' w' r)) fun e a'' w'' p => p.trans kp d
    | _ => exact s.elim
  | exit id =>
    cases e with
    | exit id' => exact ⟨.exit id, af', q, s, d, μ', r, kp⟩
    | _ => exact s.elim
  | ret =>
    cases e with
    | ret => exact ⟨.ret, af', q, s, d, μ', r, kp⟩
    | _ => exact s.elim

theorem Runs.skip {k : Nat} {af : AF} {Q : AExit → AF → Prop} (q : Q .normal af) : Runs P k .skip af Q :=
  fun F w0 μ a w R => wp_skip ⟨.normal, af, q, trivial, rfl, μ, R, Held.refl k μ _⟩
theorem Runs.exit {k id : Nat} {af : AF} {Q : AExit → AF → Prop} (q : Q (.exit id) af) : Runs P k (.exit id) af Q :=
  fun F w0 μ a w R => wp_exit ⟨.exit id, af, q, rfl, rfl, μ, R, Held.refl k μ _⟩
theorem Runs.ret {k : Nat} {af : AF} {Q : AExit → AF → Prop} (q : Q .ret af) : Runs P k .ret af Q :=
  fun F w0 μ a w R => wp_ret ⟨.ret, af, q, trivial, rfl, μ, R, Held.refl k μ _⟩

theorem Runs.cond {k : Nat} {x : Operand} {t e : Code} {af : AF} {Q : AExit → AF → Prop} {b : Bool} (hx : evalA af.tm x = some (.bool b))
    (ht : b = true → Runs P k t af Q) (hf : b = false → Runs P k e af Q) : Runs P k (.cond x t e) af Q := by
  intro F w0 μ a w R
  have hv := (evalA_ok R.tm (fun _ _ => trivial) hx).bool_inv
  cases b with
  | true => exact wp_cond_true hv (Wp.wp (ht rfl F w0 μ a w R))
  | false => exact wp_cond_false hv (Wp.wp (hf rfl F w0 μ a w R))

def caught (id : Nat) (Q : AExit → AF → Prop) : AExit → AF → Prop
  | .exit id', af => if id' = id then Q .normal af else Q (.exit id') af
  | x, af => Q x af

theorem Runs.block {k id : Nat} {body : Code} {af : AF} {Q : AExit → AF → Prop} (h : Runs P k body af (caught id Q)) : Runs P k (.block id body) af Q := by
  intro F w0 μ a w R
  refine wp_block (wp_mono (Wp.wp (h F w0 μ a w R)) fun e a' w' ⟨x, af', q, s, d, μ', r, kp⟩ => ?_)
  cases x with
  | normal =>
    cases e with
    | normal => exact ⟨.normal, af', q, trivial, d, μ', r, kp⟩
    | _ => exact s.elim
  | exit id1 =>
    cases e with
    | exit id' =>
      have s' : id1 = id' := s
      subst s'
      simp only [Exit.inBlock]
      simp only [caught] at q
      split
      · rename_i hid
        rw [if_pos hid] at q
        exact ⟨.normal, af', q, trivial, d, μ', r, kp⟩
      · rename_i hid
        rw [if_neg hid] at q
        exact ⟨.exit id1, af', q, rfl, d, μ', r, kp⟩
    | _ => exact s.elim
  | ret =>
    cases e with
    | ret => exact ⟨.ret, af', q, trivial, d, μ', r, kp⟩
    | _ => exact s.elim

theorem Runs.scope {k : Nat} {body : Code} {af : AF} {Q : AExit → AF → Prop} (h : Runs P k body af Q) : Runs P k (.scope body) af Q := by
  intro F w0 μ a w R
  refine wp_scope_straight (wp_mono (Wp.wp (h F w0 μ a w R)) fun e a' w' hp => ?_)
  obtain ⟨x, af', q, s, r⟩ := hp
  cases e with
  | normal => exact ⟨x, af', q, s, r⟩
  | exit id => exact ⟨x, af', q, s, r⟩
  | ret => exact ⟨x, af', q, s, r⟩
  | _ => cases x <;> exact s.elim

theorem Runs.loop {k : Nat} {body : Code} {af : AF} {Q : AExit → AF → Prop} (h : Runs P k body af (andThen (fun af' => Runs P k (.loop body) af' Q) Q)) : Runs P k (.loop body) af Q := by
  intro F w0 μ a w R
  refine LoopWp.round (wp_mono (Wp.wp (h F w0 μ a w R)) fun e a' w' ⟨x, af', q, s, d, μ', r, kp⟩ => ?_)
  cases x with
  | normal =>
    cases e with
    | normal =>
      intro b kk cs
      obtain ⟨e2, a2, w2, q1, q2⟩ := q F w0 μ' a' w' r b kk cs
      exact ⟨e2, a2, w2, q1.trans kp d, q2⟩
    | _ => exact s.elim
  | exit id =>
    cases e with
    | exit id' => exact ⟨.exit id, af', q, s, d, μ', r, kp⟩
    | _ => exact s.elim
  | ret =>
    cases e with
    | ret => exact ⟨.ret, af', q, trivial, d, μ', r, kp⟩
    | _ => exact s.elim

/-! ### Calls -/
/-- What a call answers from a heap, and the heap behind it. -/
def Local (P : Program) (k : Nat) (f : FuncId) (args : List Value) (h : AH) (R : Value → AH → Prop) : Prop :=
  ∀ (F : Nat → Prop) (w0 : World) (μ : Mp) (w : World) (args' : Array Value), HR F w0 μ h w → LR μ args args'.toList →
    Goes P f args' w fun v' w' => ∃ v h', R v h' ∧ ∃ μ', VR μ' v v' ∧ HR F w0 μ' h' w' ∧ Held k μ μ' h h'

def entry (fn : Func) (args : List Value) (h : AH) : AF := { tm := initTm args 0 .nil, sz := args.length + (fn.ntmps - args.length), h := h }

def pack : List Value → Value
  | [v] => v
  | vs => .tuple vs.toArray

theorem calls_of {k : Nat} {f : FuncId} {fn : Func} {c : Code} (hf : P.funcs[f]? = some fn) (hb : fn.body = some c) {args : List Value} {h : AH} {R : Value → AH → Prop}
    (hr : Runs P k c (entry fn args h) fun x af' => (x = .normal ∨ x = .ret) ∧ ∃ vs, resultsA P af'.tm af'.h fn.results.toList = some vs ∧ R (pack vs) af'.h)
    {F : Nat → Prop} {w0 : World} {μ : Mp} {w : World} {args' : Array Value} (H : HR F w0 μ h w) (hl : LR μ args args'.toList) :
    Calls P f args' w fun e w' => ∃ v', e = .returned v' ∧ ∃ v h', R v h' ∧ ∃ μ', VR μ' v v' ∧ HR F w0 μ' h' w' ∧ Held k μ μ' h h' := by
  have hlen : args.length = args'.size := by have := hl.1; simpa using this
  have A : AR F w0 μ (entry fn args h) { tmps := args' ++ Array.replicate (fn.ntmps - args'.size) undef, defers := [] } w := by
    refine ⟨H, fun t _ u hu => ?_, by simp [entry, hlen]⟩
    simp only [entry, initTm_get, Nat.zero_le, Nat.zero_add, true_and, Nat.sub_zero] at hu
    simp only [Array.getD_eq_getD_getElem?]
    by_cases ht : t < args.length
    · rw [if_pos ht] at hu
      rw [Array.getElem?_append_left (by omega)]
      obtain ⟨v', q1, q2⟩ := hl.at_ hu
      rw [← Array.getElem?_toList, q1]
      exact q2
    · rw [if_neg ht] at hu
      cases hu
  refine calls_of_wp hf hb (wp_mono (Wp.wp (hr F w0 μ _ w A)) fun e a' w' ⟨x, af', ⟨hx, vs, q1, q2⟩, s, d, μ', r, kp⟩ => ?_)
  obtain ⟨vs', p1, p2⟩ := results_ok (P := P) r.heap r.tm _ _ q1
  have hrun : (results fn a'.tmps).run P w' = .ok (if h : vs'.toArray.size = 1 then vs'.toArray[0] else .tuple vs'.toArray) w' := by
    rw [results_eq, Array.mapM_eq_mapM_toList]
    simp only [bind_pure_comp, Sem.run_bind, Sem.run_map, p1, Result.andThen_ok, Sem.run_pure]
  have fin : a'.defers = [] ∧ ∃ v', (results fn a'.tmps).run P w' = .ok v' w' ∧ ∃ v'', Ending.returned v' = .returned v'' ∧ ∃ v h', R v h' ∧ ∃ μ', VR μ' v v'' ∧ HR F w0 μ' h' w' ∧ Held k μ μ' h h' := by
    refine ⟨d, _, hrun, _, rfl, pack vs, af'.h, q2, μ', ?_, r.heap, kp⟩
    match vs, p2 with
    | [x], p2 =>
      obtain ⟨y, e, hy⟩ := p2.one rfl
      subst e
      exact (by simpa [pack] using hy)
    | [], p2 =>
      have : vs' = [] := List.eq_nil_of_length_eq_zero p2.1.symm
      subst this
      exact VR.tuple_of p2
    | x :: y :: l, p2 =>
      have : vs'.toArray.size ≠ 1 := by have := p2.1; simp at this ⊢; omega
      rw [dif_neg this]
      exact VR.tuple_of (by simpa using p2)
  rcases hx with rfl | rfl
  · cases e with
    | normal => exact fin
    | _ => exact s.elim
  · cases e with
    | ret => exact fin
    | _ => exact s.elim

theorem local_of (hn : NoNum P) {k : Nat} {f : FuncId} {fn : Func} {c : Code} (hf : P.funcs[f]? = some fn) (hb : fn.body = some c) {args : List Value} {h : AH} {R : Value → AH → Prop}
    (hr : Runs P k c (entry fn args h) fun x af' => (x = .normal ∨ x = .ret) ∧ ∃ vs, resultsA P af'.tm af'.h fn.results.toList = some vs ∧ R (pack vs) af'.h) : Local P k f args h R :=
  fun F w0 μ w args' H hl => .inl ⟨enters hn hf hb args' w, calls_of hf hb hr H hl⟩

end
end
end Go.R
