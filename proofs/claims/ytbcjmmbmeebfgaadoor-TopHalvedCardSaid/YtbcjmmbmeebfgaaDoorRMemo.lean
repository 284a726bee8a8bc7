/- States with a heap of one's own choosing; maps that stand for any of their kind. -/
import Derived.Test.YtbcjmmbmeebfgaaDoorRGrid
namespace Go.R
set_option linter.unusedVariables false
set_option linter.unusedSimpArgs false
open Go Go.RowKit
noncomputable section

/-! ### Small heaps -/
def mkHp : List AObj → AH → AH
  | [], h => h
  | o :: l, h => mkHp l (h.new o).2

theorem mkHp_next : ∀ (l : List AObj) (h : AH), (mkHp l h).next = h.next + l.length
  | [], h => rfl
  | o :: l, h => by rw [mkHp, mkHp_next l]; simp; omega

theorem mkHp_get : ∀ (l : List AObj) (h : AH) (i : Nat), (mkHp l h).get i = if i < h.next then h.get i else match l[i - h.next]? with
    | some o => o
    | none => h.get i
  | [], h, i => by simp [mkHp]
  | o :: l, h, i => by
    rw [mkHp, mkHp_get l]
    simp only [AH.next_new, AH.get_new]
    by_cases h1 : i < h.next
    · rw [if_pos (by omega), if_neg (by omega), if_pos h1]
    · by_cases h2 : i = h.next
      · subst h2; simp
      · rw [if_neg (by omega), if_neg h1]
        have : i - h.next = (i - (h.next + 1)) + 1 := by omega
        rw [this, List.getElem?_cons_succ]
        simp only [if_neg h2]

def hp (l : List AObj) : AH := mkHp l AH.empty
theorem hp_next (l : List AObj) : (hp l).next = l.length := by unfold hp; rw [mkHp_next]; show 0 + _ = _; omega
theorem hp_get (l : List AObj) (i : Nat) (o : AObj) (h : l[i]? = some o) : (hp l).get i = o := by
  unfold hp
  have hz : AH.empty.next = 0 := rfl
  rw [mkHp_get, hz, if_neg (Nat.not_lt_zero i), Nat.sub_zero, h]

def sth (l : List (Nat × Value)) (sz : Nat) (os : List AObj) : AF := ⟨mkT l .nil, sz, hp os⟩

/-- All that the maps hold is plain. -/
def Tame : Prop := ∀ tag es, Stands tag es → ∀ e ∈ es, plainV e.2 = true

theorem clo_plain {k : Nat} {v : Value} (h : plainV v = true) : Clo k v := fun μ v' hr => by rw [plain_same hr h]; exact .plain h

def cloOB (k : Nat) : AObj → Bool
  | .cells c _ p _ => c.all (cloB 10 k) && p.all (Nat.blt · k)
  | .map es => es.isEmpty
  | .str _ _ => true
  | .ghost _ => true
  | .dead => true

theorem cloO_of (G : Tame) {k : Nat} {o : AObj} (h : cloOB k o = true) : CloO k o := by
  cases o with
  | cells c l p ty =>
    simp only [cloOB, Bool.and_eq_true, List.all_eq_true] at h
    exact ⟨fun v hv => clo_of 10 k v (h.1 v hv), fun j hj => blt_lt (h.2 j hj)⟩
  | map es =>
    have : es = [] := List.isEmpty_iff.1 h
    subst this
    exact fun e he => by cases he
  | str s p => trivial
  | ghost t => exact fun es hes e he => clo_plain (G t es hes e he)
  | dead => trivial

/-- Which states may be taken for others' stead. -/
def tight (l : List (Nat × Value)) (os : List AObj) : Bool := (l.all fun p => cloB 10 os.length p.2) && os.all (cloOB os.length)

theorem less_of (G : Tame) {l : List (Nat × Value)} {sz : Nat} {os : List AObj} {af : AF} {k : Nat} (ht : tight l os = true) (hk : k ≤ os.length) (h1 : ∀ p ∈ l, af.tm.get p.1 = some p.2) (h2 : sz = af.sz)
    (h3 : os.length ≤ af.h.next) (h4 : ∀ i o, os[i]? = some o → af.h.get i = o) : Less k (sth l sz os) af := by
  simp only [tight, Bool.and_eq_true, List.all_eq_true] at ht
  refine ⟨h2, by rw [show (sth l sz os).h = hp os from rfl, hp_next]; exact hk, by rw [show (sth l sz os).h = hp os from rfl, hp_next]; exact h3, fun t v hv => ?_, fun i hi => .inr ?_⟩
  · rw [show (sth l sz os).h = hp os from rfl, hp_next]
    rcases mkT_get l .nil t v hv with h | h
    · exact ⟨h1 (t, v) h, clo_of 10 _ v (ht.1 (t, v) h)⟩
    · simp [T.gN, T.gZ, T.gS] at h
  · rw [show (sth l sz os).h = hp os from rfl, hp_next] at hi ⊢
    have ho : os[i]? = some os[i] := List.getElem?_eq_getElem hi
    rw [h4 i _ ho, hp_get os i _ ho]
    exact ⟨rfl, cloO_of G (ht.2 _ (List.getElem_mem hi))⟩

/-! ### Seen by the kernel -/
def objEq : AObj → AObj → Bool
  | .cells c l p t, .cells c' l' p' t' => veqL (veq 20) c c' && (l == l' && (p == p' && t == t'))
  | .ghost a, .ghost b => Nat.beq a b
  | .map [], .map [] => true
  | .dead, .dead => true
  | _, _ => false

theorem objEq_sound {a b : AObj} (h : objEq a b = true) : a = b := by
  unfold objEq at h
  split at h
  · simp only [Bool.and_eq_true, beq_iff_eq] at h
    obtain ⟨h1, h2, h3, h4⟩ := h
    rw [veqL_sound (fun a b => veq_sound 20 a b) _ _ h1, h2, h3, h4]
  · rw [Nat.eq_of_beq_eq_true h]
  · rfl
  · rfl
  · cases h

def objsEq (h : AH) : Nat → List AObj → Bool
  | _, [] => true
  | i, o :: l => objEq (h.get i) o && objsEq h (i + 1) l

theorem objsEq_sound {h : AH} : ∀ (l : List AObj) (i : Nat), objsEq h i l = true → ∀ j o, l[j]? = some o → h.get (i + j) = o
  | [], i, _, j, o, hj => by simp at hj
  | x :: l, i, hq, j, o, hj => by
    simp only [objsEq, Bool.and_eq_true] at hq
    cases j with
    | zero => simp at hj; subst hj; exact objEq_sound hq.1
    | succ j =>
      rw [List.getElem?_cons_succ] at hj
      have := objsEq_sound l (i + 1) hq.2 j o hj
      rw [← this]; congr 1; omega

def tmsEq (tm : T Value) : List (Nat × Value) → Bool
  | [] => true
  | p :: l => (match tm.get p.1 with | some v => veq 20 v p.2 | none => false) && tmsEq tm l

theorem tmsEq_sound {tm : T Value} : ∀ {l : List (Nat × Value)}, tmsEq tm l = true → ∀ p ∈ l, tm.get p.1 = some p.2
  | [], _, p, hp => by cases hp
  | q :: l, h, p, hp => by
    simp only [tmsEq, Bool.and_eq_true] at h
    rcases List.mem_cons.1 hp with e | e
    · subst e
      cases hv : tm.get p.1 with
      | none => rw [hv] at h; cases h.1
      | some v => rw [hv] at h; rw [veq_sound _ _ _ h.1]
    · exact tmsEq_sound h.2 p e

/-- The state behind a normal end, as far as it is listed. -/
def sees (l : List (Nat × Value)) (sz : Nat) (os : List AObj) (af : AF) : Bool :=
  tmsEq af.tm l && (Nat.beq sz af.sz && (Nat.ble os.length af.h.next && (objsEq af.h 0 os && tight l os)))

theorem sees_less (G : Tame) {l : List (Nat × Value)} {sz : Nat} {os : List AObj} {af : AF} {k : Nat} (h : sees l sz os af = true) (hk : k ≤ os.length) : Less k (sth l sz os) af := by
  simp only [sees, Bool.and_eq_true] at h
  obtain ⟨h1, h2, h3, h4, h5⟩ := h
  exact less_of G h5 hk (tmsEq_sound h1) (Nat.eq_of_beq_eq_true h2) (Nat.le_of_ble_eq_true h3) fun i o ho => by
    have := objsEq_sound os 0 h4 i o ho
    rwa [Nat.zero_add] at this

section
variable {P : Program} {call : CallF}

/-- The first parts of a row of code, one after the other. -/
def execCh (P : Program) (call : CallF) (k n : Nat) : Nat → Code → AF → Option (AExit × AF)
  | 0, _, a => some (.normal, a)
  | m + 1, c, a => match c with
    | .seq x y => match execA P call n x a with
      | some (.normal, a') => if Nat.ble k a'.h.next then execCh P call k n m y a' else none
      | r => r
    | _ => none

def behind : Nat → Code → Code
  | 0, c => c
  | m + 1, .seq _ y => behind m y
  | _ + 1, c => c

theorem Runs.chain (hm : P.follows .mixedOrders = true) (hc : CallOk P call) {n k : Nat} {Q : AExit → AF → Prop} : ∀ (m : Nat) (c : Code) (af : AF) (x : AExit) (af' : AF), k ≤ af.h.next → execCh P call k n m c af = some (x, af') →
    (andThen (fun a => Runs P k (behind m c) a Q) Q) x af' → Runs P k c af Q
  | 0, c, af, x, af', hk, he, q => by
    simp only [execCh, Option.some.injEq, Prod.mk.injEq] at he
    obtain ⟨rfl, rfl⟩ := he
    exact q
  | m + 1, c, af, x, af', hk, he, q => by
    cases c with
    | seq a b =>
      simp only [execCh] at he
      split at he
      · rename_i a' h1
        by_cases hx : Nat.ble k a'.h.next = true
        · rw [if_pos hx] at he
          have hk' : k ≤ a'.h.next := Nat.le_of_ble_eq_true hx
          exact Runs.seq (Runs.eval hm hc hk h1 (Runs.chain hm hc m b a' x af' hk' he q))
        · rw [if_neg hx] at he; cases he
      · rename_i h1
        refine Runs.seq (Runs.eval hm hc hk he ?_)
        cases x with
        | normal => exact absurd he (h1 _)
        | exit id => exact q
        | ret => exact q
    | _ => simp [execCh] at he
end
end
end Go.R
