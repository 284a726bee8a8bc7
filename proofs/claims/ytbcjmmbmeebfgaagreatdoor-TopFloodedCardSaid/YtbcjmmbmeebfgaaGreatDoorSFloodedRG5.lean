/- Closed calls as contracts: what the machine says once at the empty heap, it may say everywhere. -/
import Derived.Test.YtbcjmmbmeebfgaaGreatDoorSFloodedRG4
namespace Go.R
set_option linter.unusedVariables false
set_option linter.unusedSimpArgs false
open Go Go.RowKit
noncomputable section

theorem HR.keep {F : Nat → Prop} {w0 : World} {μ : Mp} {h : AH} {w w' : World} (H : HR F w0 μ h w) (B : Below w.heap.size w w') : HR F w0 μ h w' where
  dom := H.dom
  obj := fun i b z e hi => by
    cases hd : h.get i with
    | dead => trivial
    | _ =>
      rw [← hd]
      exact (H.obj i b z e hi).world (B.block b (H.inb hi (by rw [hd]; intro e; cases e)))
  own := H.own
  sep := H.sep
  par := H.par
  os := B.os.trans H.os
  tape := B.tape.trans H.tape
  output := B.output.trans H.output
  size := Nat.le_trans H.size B.size
  fr := fun b hb => ⟨(H.fr b hb).1, (B.block b (Nat.lt_of_lt_of_le (H.fr b hb).1 H.size)).trans (H.fr b hb).2⟩
  tab := H.tab

theorem plain_same {μ : Mp} {v x : Value} (h : VR μ v x) (hp : plainV v = true) : x = v := by
  cases h with
  | plain _ => rfl
  | _ => simp [plainV] at hp

theorem plains_same {μ : Mp} : ∀ {l k : List Value}, LR μ l k → (∀ v ∈ l, plainV v = true) → k = l
  | [], [], _, _ => rfl
  | a :: l, b :: k, h, hp => by
    rw [plain_same h.head (hp a (by simp)), plains_same h.tail fun v hv => hp v (by simp [hv])]
  | [], _ :: _, h, _ => absurd h.1 (by simp)
  | _ :: _, [], h, _ => absurd h.1 (by simp)

/-- Values that hold no place. -/
def flatV : Value → Bool
  | .tuple vs => vs.toList.all plainV
  | v => plainV v

theorem flat_any {μ μ' : Mp} {v x : Value} (h : VR μ v x) (hp : flatV v = true) : VR μ' v x := by
  cases v with
  | tuple vs =>
    obtain ⟨vs', rfl, hl⟩ := h.tuple_inv
    have hq : ∀ y ∈ vs.toList, plainV y = true := by
      intro y hy
      simp only [flatV] at hp
      exact List.all_eq_true.1 hp y hy
    have := plains_same hl hq
    refine VR.tuple_of ?_
    rw [this]
    exact LR.of_plain hq
  | _ =>
    rw [plain_same h hp]
    exact .plain hp

/-- What a call answers. -/
def says (r : Out) (v : Value) : Bool :=
  match r with
  | some (u, _) => veq 10 u v
  | none => false

/-- One closed call, told everywhere. -/
def closedH (f : FuncId) (args : List Value) (v : Value) : Hook := fun g as h =>
  if Nat.beq g f then (if veqL (veq 10) as args then some (some (v, h)) else none) else none

theorem closed_ok {P : Program} {hk : Hook} (hm : P.follows .mixedOrders = true) (hn : NoNum P) (hh : HookOk P hk) {n : Nat} {f : FuncId} {fn : Func} (hf : P.funcs[f]? = some fn) (hb : fn.body.isSome = true)
    {args : List Value} {v : Value} (hp : (args.all plainV && flatV v) = true) (hno : (hk f args AH.empty).isNone = true)
    (he : says (callA P hk (n + 1) f args AH.empty) v = true) : HookOk P (closedH f args v) := by
  obtain ⟨c, hb⟩ := Option.isSome_iff_exists.1 hb
  simp only [Bool.and_eq_true, List.all_eq_true] at hp
  intro g as h u h' hr F w0 μ w args' H hl
  unfold closedH at hr
  by_cases h1 : Nat.beq g f = true
  · by_cases h2 : veqL (veq 10) as args = true
    · simp only [h1, h2, if_true, Option.some.injEq, Prod.mk.injEq] at hr
      obtain ⟨rfl, rfl⟩ := hr
      have := Nat.eq_of_beq_eq_true h1
      subst this
      have := veqL_sound (fun a b => veq_sound 10 a b) _ _ h2
      subst this
      have ha := plains_same hl hp.1
      cases hc : callA P hk (n + 1) g as AH.empty with
      | none => rw [hc] at he; cases he
      | some r =>
        obtain ⟨y, h1⟩ := r
        rw [hc] at he
        have := veq_sound _ _ _ he
        subst this
        refine .inl ⟨enters hn hf hb args' w, Calls.mono (walk_of hm hn hh hf hb (Option.isNone_iff_eq_none.1 hno) hc (HR.start w H.laidNow) (by rw [ha]; exact LR.of_plain hp.1)) fun e w' hq => ?_⟩
        obtain ⟨v', rfl, μ', q1, q2, _⟩ := hq
        exact ⟨v', rfl, μ, flat_any q1 hp.2, H.keep q2.below, Ext.refl μ _⟩
    · simp [h1, h2] at hr
  · simp [h1] at hr

/-- One contract, or else the other. -/
def orH (a b : Hook) : Hook := fun f args h =>
  match a f args h with
  | some r => some r
  | none => b f args h

theorem or_ok {P : Program} {a b : Hook} (ha : HookOk P a) (hb : HookOk P b) : HookOk P (orH a b) := by
  intro f args h v h' he
  simp only [orH] at he
  cases hq : a f args h with
  | some r => exact ha f args h v h' (by simp only [hq] at he ⊢; exact he)
  | none => exact hb f args h v h' (by simp only [hq] at he; exact he)

end
end Go.R

/- Stretches of code between states of one's own choosing: rules over the machine. -/
namespace Go.R
set_option linter.unusedVariables false
set_option linter.unusedSimpArgs false
open Go Go.RowKit
noncomputable section

def sameExit : AExit → Exit → Prop
  | .normal, .normal => True
  | .exit i, .exit j => i = j
  | .ret, .ret => True
  | _, _ => False

/-- What stands below k is where it was; what is not yet born there has not changed. -/
def Held (k : Nat) (μ μ' : Mp) (h h' : AH) : Prop := ∀ i, i < k → μ' i = μ i ∧ (μ i = none → h'.get i = h.get i)

theorem Held.refl (k : Nat) (μ : Mp) (h : AH) : Held k μ μ h h := fun i _ => ⟨rfl, fun _ => rfl⟩
theorem Held.trans {k : Nat} {a b c : Mp} {x y z : AH} (h : Held k a b x y) (g : Held k b c y z) : Held k a c x z := fun i hi =>
  ⟨(g i hi).1.trans (h i hi).1, fun hn => ((g i hi).2 ((h i hi).1.trans hn)).trans ((h i hi).2 hn)⟩
theorem Held.of_ext {k : Nat} {μ μ' : Mp} {h h' : AH} (E : Ext μ μ' h h') (hk : k ≤ h.next) : Held k μ μ' h h' := by
  intro i hi
  cases hm : μ i with
  | some p => exact ⟨E.sub i p hm, fun e => by cases e⟩
  | none =>
    have := E.unborn i (by omega) hm
    exact ⟨this.1, fun _ => this.2⟩

/-! ### Values whose places all lie below k -/
def Mp.cut (k : Nat) (μ : Mp) : Mp := fun i => if i < k then μ i else none

def Clo (k : Nat) (v : Value) : Prop := ∀ (μ : Mp) (v' : Value), VR μ v v' → VR (μ.cut k) v v'

def cloB : Nat → Nat → Value → Bool
  | 0, _, _ => false
  | f + 1, k, v => plainV v || match v with
    | .pointer (some a) => Nat.blt a.block k
    | .slice (some a) _ _ => (match a.spot with | some 0 => true | _ => Nat.blt a.block k)
    | .map (some i) => Nat.blt i k
    | .func _ a b => a.toList.all (cloB f k) && b.toList.all (cloB f k)
    | .agg a => a.toList.all (cloB f k)
    | .tuple a => a.toList.all (cloB f k)
    | _ => false

theorem blt_lt {a b : Nat} (h : Nat.blt a b = true) : a < b := by simpa [Nat.blt_eq] using h

theorem clo_list {k : Nat} {l l' : List Value} {μ : Mp} (hl : ∀ v ∈ l, Clo k v) (h : LR μ l l') : LR (μ.cut k) l l' :=
  ⟨h.1, fun i v v' a b => hl v (List.mem_of_getElem? a) μ v' (h.2 i v v' a b)⟩

theorem clo_of : ∀ (f k : Nat) (v : Value), cloB f k v = true → Clo k v
  | 0, k, v, h => by cases h
  | f + 1, k, v, h => by
    intro μ v' hv
    unfold cloB at h
    rw [Bool.or_eq_true] at h
    rcases h with hp | h
    · rw [plain_same hv hp]; exact .plain hp
    have hlist : ∀ l : List Value, l.all (cloB f k) = true → ∀ v ∈ l, Clo k v := fun l hl v hv => clo_of f k v (List.all_eq_true.1 hl v hv)
    cases hv with
    | plain hp => exact .plain hp
    | ptr hi => exact .ptr (by unfold Mp.cut; rw [if_pos (blt_lt h)]; exact hi)
    | slice hi => exact .slice (by unfold Mp.cut; rw [if_pos (blt_lt h)]; exact hi)
    | sliceU hi a b c => exact .sliceU (by unfold Mp.cut; rw [if_pos (blt_lt h)]; exact hi) a b c
    | slice0 => exact .slice0
    | map hi => exact .map (by unfold Mp.cut; rw [if_pos (blt_lt h)]; exact hi)
    | func h1 h2 h3 h4 =>
      simp only [Bool.and_eq_true] at h
      exact VR.func_of (clo_list (hlist _ h.1) ⟨by simpa using h1, fun k v v' x y => h2 k v v' (by simpa using x) (by simpa using y)⟩)
        (clo_list (hlist _ h.2) ⟨by simpa using h3, fun k v v' x y => h4 k v v' (by simpa using x) (by simpa using y)⟩)
    | agg h1 h2 => exact VR.agg_of (clo_list (hlist _ h) ⟨by simpa using h1, fun k v v' x y => h2 k v v' (by simpa using x) (by simpa using y)⟩)
    | tuple h1 h2 => exact VR.tuple_of (clo_list (hlist _ h) ⟨by simpa using h1, fun k v v' x y => h2 k v v' (by simpa using x) (by simpa using y)⟩)
    | iface h1 => cases h

def CloO (k : Nat) : AObj → Prop
  | .cells c _ p _ => (∀ v ∈ c, Clo k v) ∧ ∀ j ∈ p, j < k
  | .map es => ∀ e ∈ es, Clo k e.2
  | .str _ _ => True
  | .ghost tag => ∀ es, Stands tag es → ∀ e ∈ es, Clo k e.2
  | .dead => True

theorem OR.cut {μ : Mp} {k : Nat} {ob : AObj} {b z e : Nat} {w : World} (hc : CloO k ob) (h : OR μ ob b z e w) : OR (μ.cut k) ob b z e w := by
  cases ob with
  | cells c live par ty =>
    obtain ⟨cs, el, fr, h1, h2, h3, h4, h5⟩ := h
    exact ⟨cs, el, fr, h1, h2, h3, fun i v hi => let ⟨v', a, b⟩ := h4 i v hi; ⟨v', a, hc.1 v (List.mem_of_getElem? hi) μ v' b⟩, h5⟩
  | map es =>
    obtain ⟨h0, ms, cl, h1, h2, h3⟩ := h
    exact ⟨h0, ms, cl, h1, ⟨h2.1, fun i x m a b => ⟨(h2.2 i x m a b).1, hc x (List.mem_of_getElem? a) μ _ (h2.2 i x m a b).2⟩⟩, h3⟩
  | str s pos => exact h
  | ghost tag =>
    obtain ⟨es, hv, h0, ms, cl, h1, h2, h3⟩ := h
    exact ⟨es, hv, h0, ms, cl, h1, ⟨h2.1, fun i x m a b => ⟨(h2.2 i x m a b).1, hc es hv x (List.mem_of_getElem? a) μ _ (h2.2 i x m a b).2⟩⟩, h3⟩
  | dead => trivial

/-- A state that says no more than another one. -/
structure Less (k : Nat) (af1 af : AF) : Prop where
  sz : af1.sz = af.sz
  low : k ≤ af1.h.next
  next : af1.h.next ≤ af.h.next
  tm : ∀ t v, af1.tm.get t = some v → af.tm.get t = some v ∧ Clo af1.h.next v
  heap : ∀ i, i < af1.h.next → (af1.h.get i = .dead ∧ k ≤ i) ∨ (af1.h.get i = af.h.get i ∧ CloO af1.h.next (af.h.get i))

section
variable {P : Program} {F : Nat → Prop} {w0 : World}

theorem Less.ar {k : Nat} {af1 af : AF} (L : Less k af1 af) {μ : Mp} {a : Act} {w : World} (R : AR F w0 μ af a w) : AR F w0 (μ.cut af1.h.next) af1 a w := by
  have cutS : ∀ {i p}, μ.cut af1.h.next i = some p → i < af1.h.next ∧ μ i = some p := by
    intro i p hi
    unfold Mp.cut at hi
    split at hi
    · rename_i hlt; exact ⟨hlt, hi⟩
    · cases hi
  refine ⟨⟨fun i p hi => (cutS hi).1, fun i b z e hi => ?_, fun i b z e hi hw => ?_, fun i j b zi ei zj ej hne hi hj => ?_, fun i c l p ty hi hg j hj => ?_, R.heap.os, R.heap.tape, R.heap.output, R.heap.size, R.heap.fr, R.heap.tab⟩, fun t ht v hv => ?_, L.sz.trans R.sz⟩
  · obtain ⟨hlt, hi⟩ := cutS hi
    rcases L.heap i hlt with ⟨h1, _⟩ | ⟨h1, h2⟩
    · rw [h1]; trivial
    · rw [h1]; exact (R.heap.obj i b z e hi).cut h2
  · obtain ⟨hlt, hi⟩ := cutS hi
    rcases L.heap i hlt with ⟨h1, _⟩ | ⟨h1, h2⟩
    · rw [h1] at hw; cases hw
    · rw [h1] at hw; exact R.heap.own i b z e hi hw
  · obtain ⟨hlt, hi⟩ := cutS hi
    obtain ⟨hlt', hj⟩ := cutS hj
    rcases L.heap i hlt with ⟨h1, _⟩ | ⟨h1, h2⟩
    · rw [h1]; exact .inl (by unfold share; trivial)
    · rcases L.heap j hlt' with ⟨h3, _⟩ | ⟨h3, h4⟩
      · rw [h3]; exact .inr (.inl (by unfold share; trivial))
      · rw [h1, h3]; exact R.heap.sep i j b zi ei zj ej hne hi hj
  · have hi' : i < af1.h.next ∧ μ i ≠ none := by
      unfold Mp.cut at hi
      split at hi
      · rename_i hlt; exact ⟨hlt, hi⟩
      · exact absurd rfl hi
    rcases L.heap i hi'.1 with ⟨h1, _⟩ | ⟨h1, h2⟩
    · rw [h1] at hg; cases hg
    · rw [h1] at hg
      rw [hg] at h2
      have hjk := h2.2 j hj
      unfold Mp.cut
      rw [if_pos hjk]
      exact R.heap.par i c l p ty hi'.2 hg j hj
  · obtain ⟨h1, h2⟩ := L.tm t v hv
    exact h2 μ _ (R.tm t trivial v h1)

theorem Wp.mono {c : Code} {Q Q' : Exit → Act → World → Prop} {a : Act} {w : World} (h : Wp P c Q a w) (m : ∀ e a w, Q e a w → Q' e a w) : Wp P c Q' a w := by
  cases c with
  | loop b => intro f k cs; obtain ⟨e, a2, w2, q1, q2⟩ := h f k cs; exact ⟨e, a2, w2, m _ _ _ q1, q2⟩
  | _ => exact wp_mono (Wp.wp h) m

def RunPost (F : Nat → Prop) (w0 : World) (k : Nat) (μ : Mp) (h : AH) (D : List Deferred) (Q : AExit → AF → Prop) (e : Exit) (a' : Act) (w' : World) : Prop :=
  ∃ x af', Q x af' ∧ sameExit x e ∧ a'.defers = D ∧ ∃ μ', AR F w0 μ' af' a' w' ∧ Held k μ μ' h af'.h

def Runs (P : Program) (k : Nat) (c : Code) (af : AF) (Q : AExit → AF → Prop) : Prop :=
  ∀ (F : Nat → Prop) (w0 : World) (μ : Mp) (a : Act) (w : World), AR F w0 μ af a w → Wp P c (RunPost F w0 k μ af.h a.defers Q) a w

theorem Runs.eval {call : CallF} (hm : P.follows .mixedOrders = true) (hc : CallOk P call) {n : Nat} {k : Nat} {c : Code} {af af' : AF} {x : AExit} {Q : AExit → AF → Prop}
    (hk : k ≤ af.h.next) (he : execA P call n c af = some (x, af')) (q : Q x af') : Runs P k c af Q := by
  intro F w0 μ a w R
  refine Wp.mono (exec_ok hm hc n c af af' x μ a w he R) fun e a' w' hp => ?_
  have go : Onward F w0 μ af.h a.defers af' a' w' → sameExit x e → RunPost F w0 k μ af.h a.defers Q e a' w' := fun ⟨μ', r1, r2, r3⟩ s => ⟨x, af', q, s, r3, μ', r1, .of_ext r2 hk⟩
  cases e with
  | normal => exact go hp.2 (by rw [hp.1]; trivial)
  | exit id => exact go hp.2 (by rw [hp.1]; rfl)
  | ret => exact go hp.2 (by rw [hp.1]; trivial)
  | goto l => exact hp.elim
  | panic ch => exact hp.elim
  | outgrown => exact hp.elim

theorem Runs.mono {k : Nat} {c : Code} {af : AF} {Q Q' : AExit → AF → Prop} (h : Runs P k c af Q) (m : ∀ x af', Q x af' → Q' x af') : Runs P k c af Q' :=
  fun F w0 μ a w R => Wp.mono (h F w0 μ a w R) fun e a' w' ⟨x, af', q, r⟩ => ⟨x, af', m x af' q, r⟩

theorem Runs.less {k : Nat} {c : Code} {af1 af : AF} {Q : AExit → AF → Prop} (L : Less k af1 af) (h : Runs P k c af1 Q) : Runs P k c af Q := by
  intro F w0 μ a w R
  refine Wp.mono (h F w0 _ a w (L.ar R)) fun e a' w' ⟨x, af', q, s, d, μ', r, kp⟩ => ⟨x, af', q, s, d, μ', r, fun i hi => ?_⟩
  have h1 := kp i hi
  have hlow : i < af1.h.next := Nat.lt_of_lt_of_le hi L.low
  have hcut : μ.cut af1.h.next i = μ i := by unfold Mp.cut; rw [if_pos hlow]
  refine ⟨h1.1.trans hcut, fun hn => (h1.2 (hcut.trans hn)).trans ?_⟩
  rcases L.heap i hlow with ⟨_, h2⟩ | ⟨h2, _⟩
  · omega
  · exact h2

def andThen (Qn : AF → Prop) (Q : AExit → AF → Prop) : AExit → AF → Prop
  | .normal, af => Qn af
  | x, af => Q x af

theorem RunPost.trans {k : Nat} {μ μ1 : Mp} {h h1 : AH} {D D1 : List Deferred} {Q : AExit → AF → Prop} (K : Held k μ μ1 h h1) (hD : D1 = D) {e : Exit} {a : Act} {w : World}
    (p : RunPost F w0 k μ1 h1 D1 Q e a w) : RunPost F w0 k μ h D Q e a w := by
  obtain ⟨x, af', q, s, d, μ', r, kp⟩ := p
  exact ⟨x, af', q, s, d.trans hD, μ', r, K.trans kp⟩

theorem Runs.seq {k : Nat} {c1 c2 : Code} {af : AF} {Q : AExit → AF → Prop} (h : Runs P k c1 af (andThen (fun af' => Runs P k c2 af' Q) Q)) : Runs P k (.seq c1 c2) af Q := by
  intro F w0 μ a w R
  refine wp_seq (wp_mono (Wp.wp (h F w0 μ a w R)) fun e a' w' ⟨x, af', q, s, d, μ', r, kp⟩ => ?_)
  cases x with
  | normal =>
    cases e with
    | normal => exact wp_mono (Wp.wp (q F w0 μ' a' w' r)) fun e a'' w'' p => p.trans kp d
    | _ => exact s.elim
  | exit id =>
    cases e with
    | exit id' => exact ⟨.exit id, af', q, s, d, μ', r, kp⟩
    | _ => exact s.elim
  | ret =>
    cases e with
    | ret => exact ⟨.ret, af', q, s, d, μ', r, kp⟩
    | _ => exact s.elim

theorem Runs.skip {k : Nat} {af : AF} {Q : AExit → AF → Prop} (q : Q .normal af) : Runs P k .skip af Q :=
  fun F w0 μ a w R => wp_skip ⟨.normal, af, q, trivial, rfl, μ, R, Held.refl k μ _⟩
theorem Runs.exit {k id : Nat} {af : AF} {Q : AExit → AF → Prop} (q : Q (.exit id) af) : Runs P k (.exit id) af Q :=
  fun F w0 μ a w R => wp_exit ⟨.exit id, af, q, rfl, rfl, μ, R, Held.refl k μ _⟩
theorem Runs.ret {k : Nat} {af : AF} {Q : AExit → AF → Prop} (q : Q .ret af) : Runs P k .ret af Q :=
  fun F w0 μ a w R => wp_ret ⟨.ret, af, q, trivial, rfl, μ, R, Held.refl k μ _⟩

theorem Runs.cond {k : Nat} {x : Operand} {t e : Code} {af : AF} {Q : AExit → AF → Prop} {b : Bool} (hx : evalA af.tm x = some (.bool b))
    (ht : b = true → Runs P k t af Q) (hf : b = false → Runs P k e af Q) : Runs P k (.cond x t e) af Q := by
  intro F w0 μ a w R
  have hv := (evalA_ok R.tm (fun _ _ => trivial) hx).bool_inv
  cases b with
  | true => exact wp_cond_true hv (Wp.wp (ht rfl F w0 μ a w R))
  | false => exact wp_cond_false hv (Wp.wp (hf rfl F w0 μ a w R))

def caught (id : Nat) (Q : AExit → AF → Prop) : AExit → AF → Prop
  | .exit id', af => if id' = id then Q .normal af else Q (.exit id') af
  | x, af => Q x af

theorem Runs.block {k id : Nat} {body : Code} {af : AF} {Q : AExit → AF → Prop} (h : Runs P k body af (caught id Q)) : Runs P k (.block id body) af Q := by
  intro F w0 μ a w R
  refine wp_block (wp_mono (Wp.wp (h F w0 μ a w R)) fun e a' w' ⟨x, af', q, s, d, μ', r, kp⟩ => ?_)
  cases x with
  | normal =>
    cases e with
    | normal => exact ⟨.normal, af', q, trivial, d, μ', r, kp⟩
    | _ => exact s.elim
  | exit id1 =>
    cases e with
    | exit id' =>
      have s' : id1 = id' := s
      subst s'
      simp only [Exit.inBlock]
      simp only [caught] at q
      split
      · rename_i hid
        rw [if_pos hid] at q
        exact ⟨.normal, af', q, trivial, d, μ', r, kp⟩
      · rename_i hid
        rw [if_neg hid] at q
        exact ⟨.exit id1, af', q, rfl, d, μ', r, kp⟩
    | _ => exact s.elim
  | ret =>
    cases e with
    | ret => exact ⟨.ret, af', q, trivial, d, μ', r, kp⟩
    | _ => exact s.elim

theorem Runs.scope {k : Nat} {body : Code} {af : AF} {Q : AExit → AF → Prop} (h : Runs P k body af Q) : Runs P k (.scope body) af Q := by
  intro F w0 μ a w R
  refine wp_scope_straight (wp_mono (Wp.wp (h F w0 μ a w R)) fun e a' w' hp => ?_)
  obtain ⟨x, af', q, s, r⟩ := hp
  cases e with
  | normal => exact ⟨x, af', q, s, r⟩
  | exit id => exact ⟨x, af', q, s, r⟩
  | ret => exact ⟨x, af', q, s, r⟩
  | _ => cases x <;> exact s.elim

theorem Runs.loop {k : Nat} {body : Code} {af : AF} {Q : AExit → AF → Prop} (h : Runs P k body af (andThen (fun af' => Runs P k (.loop body) af' Q) Q)) : Runs P k (.loop body) af Q := by
  intro F w0 μ a w R
  refine LoopWp.round (wp_mono (Wp.wp (h F w0 μ a w R)) fun e a' w' ⟨x, af', q, s, d, μ', r, kp⟩ => ?_)
  cases x with
  | normal =>
    cases e with
    | normal =>
      intro b kk cs
      obtain ⟨e2, a2, w2, q1, q2⟩ := q F w0 μ' a' w' r b kk cs
      exact ⟨e2, a2, w2, q1.trans kp d, q2⟩
    | _ => exact s.elim
  | exit id =>
    cases e with
    | exit id' => exact ⟨.exit id, af', q, s, d, μ', r, kp⟩
    | _ => exact s.elim
  | ret =>
    cases e with
    | ret => exact ⟨.ret, af', q, trivial, d, μ', r, kp⟩
    | _ => exact s.elim

/-! ### Calls -/
/-- What a call answers from a heap, and the heap behind it. -/
def Local (P : Program) (k : Nat) (f : FuncId) (args : List Value) (h : AH) (R : Value → AH → Prop) : Prop :=
  ∀ (F : Nat → Prop) (w0 : World) (μ : Mp) (w : World) (args' : Array Value), HR F w0 μ h w → LR μ args args'.toList →
    Goes P f args' w fun v' w' => ∃ v h', R v h' ∧ ∃ μ', VR μ' v v' ∧ HR F w0 μ' h' w' ∧ Held k μ μ' h h'

def entry (fn : Func) (args : List Value) (h : AH) : AF := { tm := initTm args 0 .nil, sz := args.length + (fn.ntmps - args.length), h := h }

def pack : List Value → Value
  | [v] => v
  | vs => .tuple vs.toArray

theorem calls_of {k : Nat} {f : FuncId} {fn : Func} {c : Code} (hf : P.funcs[f]? = some fn) (hb : fn.body = some c) {args : List Value} {h : AH} {R : Value → AH → Prop}
    (hr : Runs P k c (entry fn args h) fun x af' => (x = .normal ∨ x = .ret) ∧ ∃ vs, resultsA P af'.tm af'.h fn.results.toList = some vs ∧ R (pack vs) af'.h)
    {F : Nat → Prop} {w0 : World} {μ : Mp} {w : World} {args' : Array Value} (H : HR F w0 μ h w) (hl : LR μ args args'.toList) :
    Calls P f args' w fun e w' => ∃ v', e = .returned v' ∧ ∃ v h', R v h' ∧ ∃ μ', VR μ' v v' ∧ HR F w0 μ' h' w' ∧ Held k μ μ' h h' := by
  have hlen : args.length = args'.size := by have := hl.1; simpa using this
  have A : AR F w0 μ (entry fn args h) { tmps := args' ++ Array.replicate (fn.ntmps - args'.size) undef, defers := [] } w := by
    refine ⟨H, fun t _ u hu => ?_, by simp [entry, hlen]⟩
    simp only [entry, initTm_get, Nat.zero_le, Nat.zero_add, true_and, Nat.sub_zero] at hu
    simp only [Array.getD_eq_getD_getElem?]
    by_cases ht : t < args.length
    · rw [if_pos ht] at hu
      rw [Array.getElem?_append_left (by omega)]
      obtain ⟨v', q1, q2⟩ := hl.at_ hu
      rw [← Array.getElem?_toList, q1]
      exact q2
    · rw [if_neg ht] at hu
      cases hu
  refine calls_of_wp hf hb (wp_mono (Wp.wp (hr F w0 μ _ w A)) fun e a' w' ⟨x, af', ⟨hx, vs, q1, q2⟩, s, d, μ', r, kp⟩ => ?_)
  obtain ⟨vs', p1, p2⟩ := results_ok (P := P) r.heap r.tm _ _ q1
  have hrun : (results fn a'.tmps).run P w' = .ok (if h : vs'.toArray.size = 1 then vs'.toArray[0] else .tuple vs'.toArray) w' := by
    rw [results_eq, Array.mapM_eq_mapM_toList]
    simp only [bind_pure_comp, Sem.run_bind, Sem.run_map, p1, Result.andThen_ok, Sem.run_pure]
  have fin : a'.defers = [] ∧ ∃ v', (results fn a'.tmps).run P w' = .ok v' w' ∧ ∃ v'', Ending.returned v' = .returned v'' ∧ ∃ v h', R v h' ∧ ∃ μ', VR μ' v v'' ∧ HR F w0 μ' h' w' ∧ Held k μ μ' h h' := by
    refine ⟨d, _, hrun, _, rfl, pack vs, af'.h, q2, μ', ?_, r.heap, kp⟩
    match vs, p2 with
    | [x], p2 =>
      obtain ⟨y, e, hy⟩ := p2.one rfl
      subst e
      exact (by simpa [pack] using hy)
    | [], p2 =>
      have : vs' = [] := List.eq_nil_of_length_eq_zero p2.1.symm
      subst this
      exact VR.tuple_of p2
    | x :: y :: l, p2 =>
      have : vs'.toArray.size ≠ 1 := by have := p2.1; simp at this ⊢; omega
      rw [dif_neg this]
      exact VR.tuple_of (by simpa using p2)
  rcases hx with rfl | rfl
  · cases e with
    | normal => exact fin
    | _ => exact s.elim
  · cases e with
    | ret => exact fin
    | _ => exact s.elim

theorem local_of (hn : NoNum P) {k : Nat} {f : FuncId} {fn : Func} {c : Code} (hf : P.funcs[f]? = some fn) (hb : fn.body = some c) {args : List Value} {h : AH} {R : Value → AH → Prop}
    (hr : Runs P k c (entry fn args h) fun x af' => (x = .normal ∨ x = .ret) ∧ ∃ vs, resultsA P af'.tm af'.h fn.results.toList = some vs ∧ R (pack vs) af'.h) : Local P k f args h R :=
  fun F w0 μ w args' H hl => .inl ⟨enters hn hf hb args' w, calls_of hf hb hr H hl⟩

end
end
end Go.R

/- A call that is known from a small heap, told from any heap that begins with it. -/
namespace Go.R
set_option linter.unusedVariables false
set_option linter.unusedSimpArgs false
open Go Go.RowKit

section
variable {P : Program}

/-- The blocks that a call must leave alone. -/
def Rest (F : Nat → Prop) (k : Nat) (μ : Mp) (h : AH) (b : Nat) : Prop := F b ∨ ∃ i z e, k ≤ i ∧ μ i = some (b, z, e) ∧ h.get i ≠ .dead

theorem cut_some {k i : Nat} {μ : Mp} {p : Nat × Nat × Nat} (h : μ.cut k i = some p) : i < k ∧ μ i = some p := by
  unfold Mp.cut at h
  split at h
  · rename_i hlt; exact ⟨hlt, h⟩
  · cases h

theorem cut_lt {k i : Nat} {μ : Mp} (h : i < k) : μ.cut k i = μ i := by unfold Mp.cut; rw [if_pos h]

theorem root_own {F : Nat → Prop} {w0 w : World} {μ : Mp} {h : AH} {k : Nat} (H : HR F w0 μ h w) (c1 : ∀ i, i < k → CloO k (h.get i)) {i b z e : Nat} (hi : i < k) (hm : μ i = some (b, z, e)) (hw : (h.get i).wr = true) :
    ¬ Rest F k μ h b := by
  rintro (hF | ⟨j, zj, ej, hj, hmj, hd⟩)
  · exact H.own i b z e hm hw hF
  · have hs := H.sep i j b z e zj ej (by omega) hm hmj
    have hc := c1 i hi
    rcases hs with s | s | s
    · cases hx : h.get i with
      | dead => rw [hx] at hw; cases hw
      | cells c l p ty =>
        rw [hx] at s hc
        cases hy : h.get j with
        | dead => exact hd hy
        | cells c' l' p' ty' =>
          rw [hy] at s
          cases l <;> cases l' <;> simp only [share] at s
          have := hc.2 j s.1
          omega
        | map es => rw [hy] at s; cases l <;> exact s.elim
        | str s' pos => rw [hy] at s; cases l <;> exact s.elim
        | ghost t => rw [hy] at s; cases l <;> exact s.elim
      | map es => rw [hx] at s; exact s.elim
      | str s' pos => rw [hx] at s; exact s.elim
      | ghost t => rw [hx] at s; exact s.elim
    · cases hy : h.get j with
      | dead => exact hd hy
      | cells c' l' p' ty' =>
        rw [hy] at s
        cases hx : h.get i with
        | dead => rw [hx] at hw; cases hw
        | cells c l p ty =>
          rw [hx] at s hw
          cases l <;> cases l' <;> first | exact s.elim | cases hw
        | map es => rw [hx] at s; cases l' <;> exact s.elim
        | str s' pos => rw [hx] at s; cases l' <;> exact s.elim
        | ghost t => rw [hx] at s; cases l' <;> exact s.elim
      | map es => rw [hy] at s; exact s.elim
      | str s' pos => rw [hy] at s; exact s.elim
      | ghost t => rw [hy] at s; exact s.elim
    · rw [s.1] at hw; cases hw

theorem HR.small {F : Nat → Prop} {w0 w : World} {μ : Mp} {h hc : AH} {k : Nat} (H : HR F w0 μ h w) (hn : hc.next = k) (same : ∀ i, i < k → hc.get i = h.get i) (c1 : ∀ i, i < k → CloO k (h.get i)) :
    HR (Rest F k μ h) w (μ.cut k) hc w where
  dom := fun i p hi => by rw [hn]; exact (cut_some hi).1
  obj := fun i b z e hi => by
    obtain ⟨hlt, hm⟩ := cut_some hi
    rw [same i hlt]
    exact (H.obj i b z e hm).cut (c1 i hlt)
  own := fun i b z e hi hw => by
    obtain ⟨hlt, hm⟩ := cut_some hi
    rw [same i hlt] at hw
    exact root_own H c1 hlt hm hw
  sep := fun i j b zi ei zj ej hne hi hj => by
    obtain ⟨hlt, hm⟩ := cut_some hi
    obtain ⟨hlt', hm'⟩ := cut_some hj
    rw [same i hlt, same j hlt']
    exact H.sep i j b zi ei zj ej hne hm hm'
  par := fun i c l p ty hi hg j hj => by
    by_cases hlt : i < k
    · rw [cut_lt hlt] at hi
      rw [same i hlt] at hg
      have := c1 i hlt
      rw [hg] at this
      have hjk := this.2 j hj
      rw [cut_lt hjk]
      exact H.par i c l p ty hi hg j hj
    · unfold Mp.cut at hi; rw [if_neg hlt] at hi; exact absurd rfl hi
  os := rfl
  tape := rfl
  output := rfl
  size := Nat.le_refl _
  fr := fun b hb => by
    rcases hb with hF | ⟨i, z, e, hk, hm, hd⟩
    · have := H.fr b hF
      exact ⟨Nat.lt_of_lt_of_le this.1 H.size, rfl⟩
    · exact ⟨H.inb hm hd, rfl⟩
  tab := H.laidIn fun b hb => .inl hb

theorem Local.framed {k : Nat} {f : FuncId} {args : List Value} {hc h h2 : AH} {R : Value → AH → Prop} {v : Value} (L : Local P k f args hc R)
    (hR : ∀ v' h', R v' h' → v' = v ∧ ∀ i, i < k → h'.get i = h2.get i) (hn : hc.next = k) (hle : k ≤ h.next) (same : ∀ i, i < k → hc.get i = h.get i)
    (ca : ∀ v ∈ args, Clo k v) (c1 : ∀ i, i < k → CloO k (h.get i)) (c2 : ∀ i, i < k → CloO k (h2.get i)) (cv : Clo k v)
    (chg : ∀ i, i < k → h2.get i = h.get i ∨ (h.get i).wr = true) (hn2 : h2.next = h.next) (rest : ∀ i, k ≤ i → h2.get i = h.get i)
    {F : Nat → Prop} {w0 : World} {μ : Mp} {w : World} {args' : Array Value} (H : HR F w0 μ h w) (hl : LR μ args args'.toList) :
    Goes P f args' w fun v' w' => ∃ μ', VR μ' v v' ∧ HR F w0 μ' h2 w' ∧ Ext μ μ' h h2 := by
  have S := H.small hn same c1
  refine (L _ w _ w args' S (clo_list ca hl)).mono fun v' w' ⟨u, h', r, μ', hv, H', K⟩ => ?_
  obtain ⟨rfl, hh⟩ := hR u h' r
  have eqμ : ∀ i, i < k → μ' i = μ i := fun i hi => (K i hi).1.trans (cut_lt hi)
  have subμ : Sub (μ'.cut k) μ := fun i p hi => by
    obtain ⟨hlt, hm⟩ := cut_some hi
    rw [← eqμ i hlt]; exact hm
  have keepB : ∀ b, Rest F k μ h b → w'.heap[b]? = w.heap[b]? := fun b hb => (H'.fr b hb).2
  have old : ∀ i b z e, k ≤ i → μ i = some (b, z, e) → h.get i ≠ .dead → Rest F k μ h b := fun i b z e hk hm hd => .inr ⟨i, z, e, hk, hm, hd⟩
  refine ⟨μ, (cv μ' v' hv).mono subμ, ⟨fun i p hi => ?_, fun i b z e hi => ?_, fun i b z e hi hw => ?_, fun i j b zi ei zj ej hne hi hj => ?_, fun i c l p ty hi hg j hj => ?_,
    H'.os.trans H.os, H'.tape.trans H.tape, H'.output.trans H.output, Nat.le_trans H.size H'.size, fun b hb => ?_, H.tab⟩, ⟨Sub.refl μ, Nat.le_of_eq hn2.symm, fun i hi hm => ⟨hm, ?_⟩⟩⟩
  · rw [hn2]; exact H.dom i p hi
  · by_cases hlt : i < k
    · have := H'.obj i b z e ((eqμ i hlt).trans hi)
      rw [hh i hlt] at this
      exact (this.cut (c2 i hlt)).mono subμ
    · rw [rest i (by omega)]
      by_cases hd : h.get i = .dead
      · rw [hd]; trivial
      · exact (H.obj i b z e hi).world (keepB b (old i b z e (by omega) hi hd))
  · by_cases hlt : i < k
    · rw [← hh i hlt] at hw
      exact fun hF => H'.own i b z e ((eqμ i hlt).trans hi) hw (.inl hF)
    · rw [rest i (by omega)] at hw
      exact H.own i b z e hi hw
  · -- two objects in one block
    have mixed : ∀ i j zi ei zj ej, i < k → k ≤ j → μ i = some (b, zi, ei) → μ j = some (b, zj, ej) → okShare (h2.get i) i zi (h2.get j) j zj := by
      intro i j zi ei zj ej hi hj hmi hmj
      rw [rest j hj]
      by_cases hd : h.get j = .dead
      · rw [hd]; exact .inr (.inl (by unfold share; trivial))
      · rcases chg i hi with hs | hw
        · rw [hs]; exact H.sep i j b zi ei zj ej (by omega) hmi hmj
        · exact absurd (old j b zj ej hj hmj hd) (root_own H c1 hi hmi hw)
    by_cases h1 : i < k
    · by_cases h3 : j < k
      · have := H'.sep i j b zi ei zj ej hne ((eqμ i h1).trans hi) ((eqμ j h3).trans hj)
        rw [hh i h1, hh j h3] at this
        exact this
      · exact mixed i j zi ei zj ej h1 (by omega) hi hj
    · by_cases h3 : j < k
      · rcases mixed j i zj ej zi ei h3 (by omega) hj hi with s | s | s
        · exact .inr (.inl s)
        · exact .inl s
        · exact .inr (.inr ⟨s.2, s.1⟩)
      · rw [rest i (by omega), rest j (by omega)]
        exact H.sep i j b zi ei zj ej hne hi hj
  · by_cases hlt : i < k
    · rw [← hh i hlt] at hg
      have hc2 := c2 i hlt
      rw [← hh i hlt, hg] at hc2
      have hjk := hc2.2 j hj
      have := H'.par i c l p ty (by rw [eqμ i hlt]; exact hi) hg j hj
      rw [eqμ j hjk] at this
      exact this
    · rw [rest i (by omega)] at hg
      exact H.par i c l p ty hi hg j hj
  · have h1 := H'.fr b (.inl hb)
    have h2 := H.fr b hb
    exact ⟨h2.1, h1.2.trans h2.2⟩
  · by_cases hlt : i < k
    · rw [← hh i hlt]
      have := (K i hlt).2 ((cut_lt hlt).trans hm)
      rw [this, same i hlt]
    · exact rest i (by omega)

/-- A call that is known from the empty heap. -/
theorem Local.closed {f : FuncId} {args : List Value} {v : Value} (L : Local P 0 f args AH.empty fun v' _ => v' = v) (ca : ∀ v ∈ args, plainV v = true) (cv : flatV v = true) (h : AH)
    {F : Nat → Prop} {w0 : World} {μ : Mp} {w : World} {args' : Array Value} (H : HR F w0 μ h w) (hl : LR μ args args'.toList) :
    Goes P f args' w fun v' w' => ∃ μ', VR μ' v v' ∧ HR F w0 μ' h w' ∧ Ext μ μ' h h :=
  L.framed (h2 := h) (fun v' h' r => ⟨r, fun i hi => by omega⟩) rfl (Nat.zero_le _) (fun i hi => by omega) (fun v hv μ v' h => by rw [plain_same h (ca v hv)]; exact .plain (ca v hv))
    (fun i hi => by omega) (fun i hi => by omega) (fun μ v' h => flat_any h cv) (fun i hi => by omega) rfl (fun _ _ => rfl) H hl

end
end Go.R

/- Contracts of numbers in ranges, from the machine's answers; and states of places alone. -/
namespace Go.R
set_option linter.unusedVariables false
set_option linter.unusedSimpArgs false
open Go Go.RowKit
noncomputable section

def hd : Code → Code
  | .seq a _ => a
  | c => c
def tl : Code → Code
  | .seq _ b => b
  | c => c
def bodyOf (fn : Func) : Code := match fn.body with
  | some c => c
  | none => .skip

section
variable {P : Program}

/-! ### States of places alone -/
def mkT : List (Nat × Value) → T Value → T Value
  | [], t => t
  | p :: l, t => mkT l (t.set p.1 p.2)

theorem mkT_get : ∀ (l : List (Nat × Value)) (t : T Value) (k : Nat) (v : Value), (mkT l t).get k = some v → (k, v) ∈ l ∨ t.get k = some v
  | [], t, k, v, h => .inr h
  | p :: l, t, k, v, h => by
    rcases mkT_get l _ k v h with h1 | h1
    · exact .inl (List.mem_cons_of_mem _ h1)
    · rw [T.get_set'] at h1
      split at h1
      · rename_i e
        subst e
        cases h1
        exact .inl (by simp)
      · exact .inr h1

def st (l : List (Nat × Value)) (sz : Nat) : AF := ⟨mkT l .nil, sz, AH.empty⟩

def okRun (P : Program) (fn : Func) (r : Option (AExit × AF)) (v : Value) : Bool :=
  match r with
  | some (.normal, af) | some (.ret, af) => match resultsA P af.tm af.h fn.results.toList with
    | some vs => veq 10 (pack vs) v
    | none => false
  | _ => false

def EndsAs (P : Program) (fn : Func) (R : Value → AH → Prop) (x : AExit) (af' : AF) : Prop :=
  (x = .normal ∨ x = .ret) ∧ ∃ vs, resultsA P af'.tm af'.h fn.results.toList = some vs ∧ R (pack vs) af'.h

theorem Runs.last {call : CallF} (hm : P.follows .mixedOrders = true) (hc : CallOk P call) {n k : Nat} {fn : Func} {c : Code} {af : AF} {v : Value} (hk : k ≤ af.h.next)
    (he : okRun P fn (execA P call n c af) v = true) : Runs P k c af (EndsAs P fn fun v' _ => v' = v) := by
  unfold okRun at he
  split at he
  · rename_i af' h1
    split at he
    · rename_i vs h2
      exact Runs.eval hm hc hk h1 ⟨.inl rfl, vs, h2, veq_sound _ _ _ he⟩
    · cases he
  · rename_i af' h1
    split at he
    · rename_i vs h2
      exact Runs.eval hm hc hk h1 ⟨.inr rfl, vs, h2, veq_sound _ _ _ he⟩
    · cases he
  · cases he

/-! ### Contracts by number -/
theorem local_call {call : CallF} (hc : CallOk P call) {k : Nat} {f : FuncId} {args : List Value} {h h' : AH} {v : Value} (hk : k ≤ h.next) (he : call f args h = some (v, h')) :
    Local P k f args h fun v' h'' => v' = v ∧ h'' = h' := fun F w0 μ w args' H hl =>
  (hc f args h v h' he F w0 μ w args' H hl).mono fun v' w' ⟨μ', q1, q2, q3⟩ => ⟨v, h', ⟨rfl, rfl⟩, μ', q1, q2, .of_ext q3 hk⟩

theorem local_says {call : CallF} (hc : CallOk P call) {f : FuncId} {args : List Value} {v : Value} (he : says (call f args AH.empty) v = true) : Local P 0 f args AH.empty fun v' _ => v' = v := by
  unfold says at he
  split at he
  · rename_i u h' h1
    have := veq_sound _ _ _ he
    subst this
    exact fun F w0 μ w args' H hl => (local_call hc (Nat.zero_le _) h1 F w0 μ w args' H hl).mono fun v' w' ⟨v, h'', ⟨e, _⟩, r⟩ => ⟨v, h'', e, r⟩
  · cases he

end
end
end Go.R

/- States with a heap of one's own choosing; maps that stand for any of their kind. -/
namespace Go.R
set_option linter.unusedVariables false
set_option linter.unusedSimpArgs false
open Go Go.RowKit
noncomputable section

/-! ### Small heaps -/
def mkHp : List AObj → AH → AH
  | [], h => h
  | o :: l, h => mkHp l (h.new o).2

theorem mkHp_next : ∀ (l : List AObj) (h : AH), (mkHp l h).next = h.next + l.length
  | [], h => rfl
  | o :: l, h => by rw [mkHp, mkHp_next l]; simp; omega

theorem mkHp_get : ∀ (l : List AObj) (h : AH) (i : Nat), (mkHp l h).get i = if i < h.next then h.get i else match l[i - h.next]? with
    | some o => o
    | none => h.get i
  | [], h, i => by simp [mkHp]
  | o :: l, h, i => by
    rw [mkHp, mkHp_get l]
    simp only [AH.next_new, AH.get_new]
    by_cases h1 : i < h.next
    · rw [if_pos (by omega), if_neg (by omega), if_pos h1]
    · by_cases h2 : i = h.next
      · subst h2; simp
      · rw [if_neg (by omega), if_neg h1]
        have : i - h.next = (i - (h.next + 1)) + 1 := by omega
        rw [this, List.getElem?_cons_succ]
        simp only [if_neg h2]

def hp (l : List AObj) : AH := mkHp l AH.empty
theorem hp_next (l : List AObj) : (hp l).next = l.length := by unfold hp; rw [mkHp_next]; show 0 + _ = _; omega
theorem hp_get (l : List AObj) (i : Nat) (o : AObj) (h : l[i]? = some o) : (hp l).get i = o := by
  unfold hp
  have hz : AH.empty.next = 0 := rfl
  rw [mkHp_get, hz, if_neg (Nat.not_lt_zero i), Nat.sub_zero, h]

def sth (l : List (Nat × Value)) (sz : Nat) (os : List AObj) : AF := ⟨mkT l .nil, sz, hp os⟩

theorem clo_plain {k : Nat} {v : Value} (h : plainV v = true) : Clo k v := fun μ v' hr => by rw [plain_same hr h]; exact .plain h

/-! ### Seen by the kernel -/
section
variable {P : Program} {call : CallF}

def behind : Nat → Code → Code
  | 0, c => c
  | m + 1, .seq _ y => behind m y
  | _ + 1, c => c

end
end
end Go.R

/- Maps that stand for any of their kind: opened, looked at, written, closed; and the contract of what remembers. -/
namespace Go.R
set_option linter.unusedVariables false
set_option linter.unusedSimpArgs false
open Go Go.RowKit
noncomputable section

section
variable {P : Program} {F : Nat → Prop} {w0 : World}

def mapLike : AObj → Bool
  | .map _ => true
  | .ghost _ => true
  | _ => false

theorem share_mapLike {x y : AObj} (hx : mapLike x = true) (hy : mapLike y = true) (z : AObj) (a b j : Nat) : (share x a z b j ↔ share y a z b j) ∧ (share z a x b j ↔ share z a y b j) := by
  cases x <;> cases hx <;> cases y <;> cases hy <;> cases z
  all_goals try simp [share]
  all_goals (rename_i l _ _; cases l <;> simp [share])

theorem HR.swap {μ : Mp} {h : AH} {w : World} (H : HR F w0 μ h w) {g b z e : Nat} (hg : μ g = some (b, z, e)) {x y : AObj} (hx : h.get g = x) (mx : mapLike x = true) (my : mapLike y = true) (ho : OR μ y b z e w) :
    HR F w0 μ (h.put g y) w := by
  have wrx : x.wr = true := by cases x <;> first | rfl | cases mx
  have wry : y.wr = true := by cases y <;> first | rfl | cases my
  refine ⟨fun i p hi => H.dom i p hi, fun i b' z' e' hi => ?_, fun i b' z' e' hi hw => ?_, fun i j b' zi ei zj ej hne hi hj => ?_, fun i c l p ty hi hgi j hj => ?_, H.os, H.tape, H.output, H.size, H.fr, H.tab⟩
  · rw [AH.get_put]
    split
    · rename_i e1; subst e1; rw [hg] at hi; cases hi; exact ho
    · exact H.obj i b' z' e' hi
  · rw [AH.get_put] at hw
    split at hw
    · rename_i e1; subst e1; exact H.own i b' z' e' hi (by rw [hx]; exact wrx)
    · exact H.own i b' z' e' hi hw
  · have hs := H.sep i j b' zi ei zj ej hne hi hj
    rw [AH.get_put, AH.get_put]
    by_cases h1 : i = g
    · subst h1
      rw [if_pos rfl, if_neg (Ne.symm hne)]
      rw [hx] at hs
      rcases hs with s | s | s
      · exact .inl ((share_mapLike mx my _ _ _ _).1.1 s)
      · exact .inr (.inl ((share_mapLike mx my _ _ _ _).2.1 s))
      · rw [wrx] at s; cases s.1
    · rw [if_neg h1]
      by_cases h2 : j = g
      · subst h2
        rw [if_pos rfl]
        rw [hx] at hs
        rcases hs with s | s | s
        · exact .inl ((share_mapLike mx my _ _ _ _).2.1 s)
        · exact .inr (.inl ((share_mapLike mx my _ _ _ _).1.1 s))
        · rw [wrx] at s; cases s.2
      · rw [if_neg h2]; exact hs
  · rw [AH.get_put] at hgi
    split at hgi
    · subst hgi; cases my
    · exact H.par i c l p ty hi hgi j hj

/-- A place that holds a map is reached from some temporary. -/
def reaches (af : AF) (t i g : Nat) : Prop := af.tm.get t = some (.pointer (some ⟨i, 0, none⟩)) ∧ ∃ l p ty, af.h.get i = .cells [.map (some g)] l p ty

theorem born_of {μ : Mp} {af : AF} {a : Act} {w : World} (R : AR F w0 μ af a w) {t i g : Nat} (h : reaches af t i g) : ∃ b e, μ g = some (b, 0, e) := by
  obtain ⟨h1, l, p, ty, h2⟩ := h
  obtain ⟨b, z, e, hm, _⟩ := (R.tm t trivial _ h1).ptr_inv
  have ho := R.heap.obj i b z e hm
  rw [h2] at ho
  obtain ⟨cs, el, fr, _, _, _, h4, _⟩ := ho
  obtain ⟨v', _, hv⟩ := h4 0 _ rfl
  obtain ⟨b, e, q, _⟩ := hv.map_inv
  exact ⟨b, e, q⟩

theorem Runs.swapped {k : Nat} {c : Code} {af : AF} {Q : AExit → AF → Prop} {t i g : Nat} (hr : reaches af t i g)
    (h : ∀ (F : Nat → Prop) (w0 : World) (μ : Mp) (a : Act) (w : World), AR F w0 μ af a w → ∀ b e, μ g = some (b, 0, e) →
      ∃ y, HR F w0 μ (af.h.put g y) w ∧ Runs P k c ⟨af.tm, af.sz, af.h.put g y⟩ Q) : Runs P k c af Q := by
  intro F w0 μ a w R
  obtain ⟨b, e, hb⟩ := born_of R hr
  obtain ⟨y, H, q⟩ := h F w0 μ a w R b e hb
  refine Wp.mono (q F w0 μ a w ⟨H, R.tm, R.sz⟩) fun x a' w' ⟨x', af', q1, q2, q3, μ', q4, q5⟩ => ⟨x', af', q1, q2, q3, μ', q4, fun j hj => ⟨(q5 j hj).1, fun hn => ?_⟩⟩
  rw [(q5 j hj).2 hn, AH.get_put]
  split
  · rename_i e1; subst e1; rw [hb] at hn; cases hn
  · rfl

theorem Runs.opened {k : Nat} {c : Code} {af : AF} {Q : AExit → AF → Prop} {t i g tag : Nat} (hr : reaches af t i g) (hg : af.h.get g = .ghost tag)
    (h : ∀ es, Stands tag es → Runs P k c ⟨af.tm, af.sz, af.h.put g (.map es)⟩ Q) : Runs P k c af Q := by
  refine Runs.swapped hr fun F w0 μ a w R b e hb => ?_
  have ho := R.heap.obj g b 0 e hb
  rw [hg] at ho
  obtain ⟨es, hs, h0, ms, cl, h1⟩ := ho
  exact ⟨.map es, R.heap.swap hb hg rfl rfl ⟨h0, ms, cl, h1⟩, h es hs⟩

theorem Runs.shut {k : Nat} {c : Code} {af : AF} {Q : AExit → AF → Prop} {t i g tag : Nat} {es : List (Value × Value)} (hr : reaches af t i g) (hg : af.h.get g = .map es) (hs : Stands tag es)
    (h : Runs P k c ⟨af.tm, af.sz, af.h.put g (.ghost tag)⟩ Q) : Runs P k c af Q := by
  refine Runs.swapped hr fun F w0 μ a w R b e hb => ?_
  have ho := R.heap.obj g b 0 e hb
  rw [hg] at ho
  obtain ⟨h0, ms, cl, h1⟩ := ho
  exact ⟨.ghost tag, R.heap.swap hb hg rfl rfl ⟨es, hs, h0, ms, cl, h1⟩, h⟩

/-! ### Operations one by one -/
theorem opsL_app {call : CallF} {ops : Array Oper} : ∀ (l1 l2 : List Oper) (a b c : AF), (opsL P call ops l1 a).map (·.1) = some b → (opsL P call ops l2 b).map (·.1) = some c → (opsL P call ops (l1 ++ l2) a).map (·.1) = some c
  | [], l2, a, b, c, h1, h2 => by
    simp only [opsL, Option.map_some, Option.some.injEq] at h1
    subst h1; exact h2
  | o :: l, l2, a, b, c, h1, h2 => by
    simp only [opsL, List.cons_append] at h1 ⊢
    split at h1
    · split at h1
      · rename_i v h hs
        cases hq : opsL P call ops l (a.put o.dst v h) with
        | none => rw [hq] at h1; cases h1
        | some r =>
          rw [hq] at h1
          have := opsL_app l l2 (a.put o.dst v h) b c (by rw [hq]; exact h1) h2
          cases hq2 : opsL P call ops (l ++ l2) (a.put o.dst v h) with
          | none => rw [hq2] at this; cases this
          | some r2 => rw [hq2] at this; simpa using this
      · cases h1
    · cases hq : opsL P call ops l (a.put o.dst undef a.h) with
      | none => rw [hq] at h1; cases h1
      | some r =>
        rw [hq] at h1
        have := opsL_app l l2 (a.put o.dst undef a.h) b c (by rw [hq]; exact h1) h2
        cases hq2 : opsL P call ops (l ++ l2) (a.put o.dst undef a.h) with
        | none => rw [hq2] at this; cases this
        | some r2 => rw [hq2] at this; simpa using this
    · cases h1

theorem Runs.regionL (hm : P.follows .mixedOrders = true) {call : CallF} (hc : CallOk P call) {k id : Nat} {ops : Array Oper} {af af' : AF} {Q : AExit → AF → Prop} (hk : k ≤ af.h.next)
    (h : (opsL P call ops ops.toList af).map (·.1) = some af') (q : Q .normal af') : Runs P k (.region id ops false) af Q := by
  cases ho : opsL P call ops ops.toList af with
  | none => rw [ho] at h; cases h
  | some r =>
    rw [ho] at h
    obtain ⟨b, hs⟩ := r
    cases h
    exact Runs.eval (n := 1) hm hc hk (by simp only [execA, regionA, ho]) q

/-! ### What remembers -/
def ptrV (i : Nat) : Value := .pointer (some ⟨i, 0, none⟩)

end
end
end Go.R
namespace Go.R
open Go Go.RowKit
noncomputable section
section
variable {P : Program}

def regOps : Code → Array Oper
  | .region _ ops _ => ops
  | _ => #[]
def opAt (c : Code) (i : Nat) : Oper := (regOps c).getD i default
def thenOf : Code → Code
  | .cond _ a _ => a
  | c => c

/-- A normal end behind the first parts, with what is seen there. -/
def ends (r : Option (AExit × AF)) (p : AF → Bool) : Bool :=
  match r with
  | some (.normal, af) => p af
  | _ => false

end
end
end Go.R

/- A closed call that answers with a new row of plain cells (and an error's number), told from any heap. -/
namespace Go.R
set_option linter.unusedVariables false
set_option linter.unusedSimpArgs false
open Go Go.RowKit
noncomputable section
variable {P : Program}

end
end Go.R
namespace Go.R
open Go Go.RowKit
end Go.R

/- Contracts of what calls itself with a smaller second number: stage by stage. -/
namespace Go.R
set_option linter.unusedVariables false
set_option linter.unusedSimpArgs false
open Go Go.RowKit
noncomputable section
variable {P : Program}

end
end Go.R

/- Stretches with unknown values: what is seen behind them, by equations. -/
namespace Go.R
set_option linter.unusedVariables false
set_option linter.unusedSimpArgs false
open Go Go.RowKit
noncomputable section
variable {P : Program}

/-- A region whose order is drawn, its values unknown. -/
theorem Runs.regionD (hm : P.follows .mixedOrders = true) {call : CallF} (hc : CallOk P call) {k id : Nat} {ops : Array Oper} {af af' : AF} {Q : AExit → AF → Prop} {vs : List Value} (hk : k ≤ af.h.next)
    (h : (opsL P call ops ops.toList af).map (fun p => (p.1, (dynPairs P ops (masks ops.toList [])).map (reval P ops p.2))) = some (af', vs.map fun v => some (some v, some v)))
    (st : statOk ops (masks ops.toList []) = true) (q : Q .normal af') : Runs P k (.region id ops true) af Q := by
  cases ho : opsL P call ops ops.toList af with
  | none => rw [ho] at h; cases h
  | some r =>
    obtain ⟨b, hs⟩ := r
    rw [ho] at h
    simp only [Option.map_some, Option.some.injEq, Prod.mk.injEq] at h
    obtain ⟨rfl, h2⟩ := h
    intro F w0 μ a w R
    refine plan_ok hm hc (hs := hs) ⟨traced _ _ _ _ ho, st, reval_good h2⟩ R fun a' w' ⟨μ', r1, r2, r3⟩ => ?_
    exact ⟨.normal, b, q, trivial, r3, μ', r1, .of_ext r2 hk⟩

/-- What is seen of an end: how, the listed places, the first objects. -/
def seen (ts : List Nat) (m : Nat) (r : Option (AExit × AF)) : Option (AExit × List (Option Value) × Nat × Bool × List AObj) :=
  match r with
  | some (x, af) => some (x, ts.map af.tm.get, af.sz, Nat.ble m af.h.next, (List.range m).map af.h.get)
  | none => none

/-! ### One call by its contract -/
open Classical in
/-- What one call answers from one heap; all others as before. -/
def callAt (f0 : FuncId) (args0 : List Value) (h0 : AH) (v0 : Value) (h1 : AH) (base : CallF) : CallF := fun f args h =>
  if f = f0 ∧ args = args0 ∧ h = h0 then some (v0, h1) else base f args h

theorem callAt_ok {f0 : FuncId} {args0 : List Value} {h0 h1 : AH} {v0 : Value} {base : CallF} (hb : CallOk P base)
    (C : ∀ (F : Nat → Prop) (w0 : World) (μ : Mp) (w : World) (args' : Array Value), HR F w0 μ h0 w → LR μ args0 args'.toList →
      Goes P f0 args' w fun v' w' => ∃ μ', VR μ' v0 v' ∧ HR F w0 μ' h1 w' ∧ Ext μ μ' h0 h1) : CallOk P (callAt f0 args0 h0 v0 h1 base) := by
  intro f args h v h' he
  unfold callAt at he
  split at he
  · rename_i hc
    obtain ⟨rfl, rfl, rfl⟩ := hc
    simp only [Option.some.injEq, Prod.mk.injEq] at he
    obtain ⟨rfl, rfl⟩ := he
    exact C
  · exact hb f args h v h' he

/-! ### States with unknown rows -/
theorem less_seenP {l : List (Nat × Value)} {sz : Nat} {os : List AObj} {af : AF} {k : Nat} (hl : ∀ p ∈ l, Clo os.length p.2) (ho : ∀ o ∈ os, CloO os.length o) (hk : k ≤ os.length) (h1 : (l.map (·.1)).map af.tm.get = l.map fun p => some p.2) (h2 : af.sz = sz)
    (h3 : Nat.ble os.length af.h.next = true) (h4 : (List.range os.length).map af.h.get = os) : Less k (sth l sz os) af := by
  rw [List.map_map, List.map_inj_left] at h1
  refine ⟨h2.symm, by rw [show (sth l sz os).h = hp os from rfl, hp_next]; exact hk, by rw [show (sth l sz os).h = hp os from rfl, hp_next]; exact Nat.le_of_ble_eq_true h3, fun t v hv => ?_, fun i hi => .inr ?_⟩
  · rw [show (sth l sz os).h = hp os from rfl, hp_next]
    rcases mkT_get l .nil t v hv with h | h
    · exact ⟨h1 (t, v) h, hl (t, v) h⟩
    · simp [T.gN] at h
  · rw [show (sth l sz os).h = hp os from rfl, hp_next] at hi ⊢
    have ho' : os[i]? = some os[i] := List.getElem?_eq_getElem hi
    have e : af.h.get i = os[i] := by
      have := congrArg (fun l : List AObj => l[i]?) h4
      simp only [List.getElem?_map, List.getElem?_range hi, Option.map_some, ho', Option.some.injEq] at this
      exact this
    rw [e, hp_get os i _ ho']
    exact ⟨rfl, ho _ (List.getElem_mem hi)⟩

theorem clo_all {k : Nat} {l : List (Nat × Value)} (h : (l.all fun p => cloB 10 k p.2) = true) : ∀ p ∈ l, Clo k p.2 := fun p hp => clo_of 10 k _ (List.all_eq_true.1 h p hp)

/-- A row that is only looked at, of plain values. -/
theorem cloO_plain {k : Nat} {c : List Value} (h : ∀ v ∈ c, plainV v = true) (l : Bool) (ty : Option TypeId) : CloO k (.cells c l [] ty) := ⟨fun v hv => clo_plain (h v hv), fun j hj => by cases hj⟩

theorem idx_step {call : CallF} {ρ : Operand → Option Value} {h : AH} {t e : TypeId} {x y : Operand} {g o n c i : Nat} {sp : Option Nat} {kd : IntKind} {info : TypeInfo}
    (hx : ρ x = some (.slice (some ⟨g, o, sp⟩) n c)) (hy : ρ y = some (.int kd (.ofNat i))) (hlt : i < n) (ht : P.underlying t = some (.slice e)) (hi : P.info? e = some info) :
    stepA P call ρ (.indexAddr t x y) h = some (.pointer (some ⟨g, o + i * info.size, none⟩), h) := by
  simp only [stepA, callOp?, opA, hx, hy, indexAddrA, ht, hi]
  rw [if_pos ⟨Int.natCast_nonneg i, by exact Int.ofNat_lt.2 hlt⟩]
  rfl

theorem load_step {call : CallF} {ρ : Operand → Option Value} {h : AH} {t : TypeId} {x : Operand} {g o : Nat} {info : TypeInfo} {d : TypeDesc} {l : List Value}
    (hx : ρ x = some (.pointer (some ⟨g, o, none⟩))) (hi : P.info? t = some info) (ht : P.underlying t = some d) (hd : isAggD d = true) (hl : rowAt? h g o info.size = some l) :
    stepA P call ρ (.load t x) h = some (.agg l.toArray, h) := by
  simp only [stepA, callOp?, opA, hx, loadA, hi, ht, hd, if_true, hl, Option.map_some]

theorem row_at {h : AH} {g o n : Nat} {c : List Value} {lv : Bool} {p : List Nat} {ty : Option TypeId} (hg : h.get g = .cells c lv p ty) (hle : o + n ≤ c.length) : rowAt? h g o n = some ((c.drop o).take n) := by
  unfold rowAt?; rw [hg]; simp only; rw [if_pos hle]

end
end Go.R
