/- The abstract machine: a deterministic evaluator of the model's code over a heap of its own (places numbered from 0), its answers to be lifted to the model's calls. -/
import GoSem.Step
import Derived.Calls
import Derived.Deep.AppendSrc
import Derived.Laws.Tables
import GoSem.ClaimKeys
import GoSem.ClaimWide
import Derived.Below
import Derived.Laws.Cells
namespace Go.R
set_option linter.unusedVariables false
set_option linter.unusedSimpArgs false
open Go

/-! ### A map from numbers, as a tree -/
inductive T (α : Type) where
  | nil
  | node (l : T α) (v : Option α) (r : T α)

noncomputable section

def T.get {α : Type} (t : T α) : Nat → Option α :=
  T.rec (motive := fun _ => Nat → Option α) (fun _ => none)
    (fun _ v _ gl gr k => Nat.rec (motive := fun _ => Option α) v (fun j _ => Bool.rec (motive := fun _ => Option α) (gr (Nat.div j (nat_lit 2))) (gl (Nat.div j (nat_lit 2))) (Nat.beq (Nat.mod j (nat_lit 2)) (nat_lit 0))) k) t

def T.setF {α : Type} (f : Nat) : T α → Nat → α → T α :=
  Nat.rec (motive := fun _ => T α → Nat → α → T α) (fun t _ _ => t)
    (fun _ ih t k x => T.rec (motive := fun _ => T α)
      (Nat.rec (motive := fun _ => T α) (.node .nil (some x) .nil)
        (fun j _ => Bool.rec (motive := fun _ => T α) (.node .nil none (ih .nil (Nat.div j (nat_lit 2)) x)) (.node (ih .nil (Nat.div j (nat_lit 2)) x) none .nil) (Nat.beq (Nat.mod j (nat_lit 2)) (nat_lit 0))) k)
      (fun l v r _ _ => Nat.rec (motive := fun _ => T α) (.node l (some x) r)
        (fun j _ => Bool.rec (motive := fun _ => T α) (.node l v (ih r (Nat.div j (nat_lit 2)) x)) (.node (ih l (Nat.div j (nat_lit 2)) x) v r) (Nat.beq (Nat.mod j (nat_lit 2)) (nat_lit 0))) k) t) f

def T.set {α : Type} (t : T α) (k : Nat) (x : α) : T α := T.setF (Nat.succ k) t k x

section
variable {α : Type}
theorem bit_if {β : Sort _} (k : Nat) (a b : β) : (Bool.rec (motive := fun _ => β) b a (Nat.beq (Nat.mod k (nat_lit 2)) (nat_lit 0))) = if k % 2 = 0 then a else b := by
  by_cases h : k % 2 = 0
  · rw [if_pos h]
    have : Nat.beq (Nat.mod k 2) 0 = true := by show Nat.beq (k % 2) 0 = true; rw [h]; rfl
    exact this ▸ rfl
  · rw [if_neg h]
    have : Nat.beq (Nat.mod k 2) 0 = false := by
      show Nat.beq (k % 2) 0 = false
      cases hq : Nat.beq (k % 2) 0 with
      | false => rfl
      | true => exact absurd (Nat.eq_of_beq_eq_true hq) h
    exact this ▸ rfl
theorem T.gN (k : Nat) : (T.nil : T α).get k = none := rfl
theorem T.gZ (l : T α) (v : Option α) (r : T α) : (T.node l v r).get 0 = v := rfl
theorem T.gS (l : T α) (v : Option α) (r : T α) (k : Nat) : (T.node l v r).get (k + 1) = if k % 2 = 0 then l.get (k / 2) else r.get (k / 2) := bit_if k _ _
theorem T.sNZ (f : Nat) (x : α) : T.setF (f + 1) .nil 0 x = .node .nil (some x) .nil := rfl
theorem T.sZ (f : Nat) (l : T α) (v : Option α) (r : T α) (x : α) : T.setF (f + 1) (.node l v r) 0 x = .node l (some x) r := rfl
theorem T.sNS (f k : Nat) (x : α) : T.setF (f + 1) .nil (k + 1) x = if k % 2 = 0 then .node (T.setF f .nil (k / 2) x) none .nil else .node .nil none (T.setF f .nil (k / 2) x) := bit_if k _ _
theorem T.sS (f k : Nat) (l : T α) (v : Option α) (r : T α) (x : α) : T.setF (f + 1) (.node l v r) (k + 1) x = if k % 2 = 0 then .node (T.setF f l (k / 2) x) v r else .node l v (T.setF f r (k / 2) x) := bit_if k _ _
end

/-! ### The heap -/
inductive AObj where
  | cells (c : List Value) (live : Bool) (par : List Nat) (ty : Option TypeId)
  | map (es : List (Value × Value))
  | str (s : ByteArray) (pos : Nat)
  | ghost (tag : Nat)
  | dead

structure AH where
  t : T AObj
  next : Nat

def AH.get (h : AH) (i : Nat) : AObj := (h.t.get i).getD .dead
def AH.put (h : AH) (i : Nat) (o : AObj) : AH := { h with t := h.t.set i o }
def AH.new (h : AH) (o : AObj) : Nat × AH := (h.next, { t := h.t.set h.next o, next := h.next + 1 })

def AH.kill : AH → List Nat → AH
  | h, [] => h
  | h, i :: l => (h.put i .dead).kill l

/-! ### Reading and writing rows of cells -/
def splice (c : List Value) (o : Nat) (vs : List Value) : List Value := c.take o ++ vs ++ c.drop (o + vs.length)

def rowAt? (h : AH) (i o n : Nat) : Option (List Value) :=
  match h.get i with
  | .cells c _ _ _ => if o + n ≤ c.length then some ((c.drop o).take n) else none
  | _ => none

def putRow? (h : AH) (i o : Nat) (vs : List Value) : Option AH :=
  match h.get i with
  | .cells c true par ty => if o + vs.length ≤ c.length then some ((h.kill par).put i (.cells (splice c o vs) true [] ty)) else none
  | _ => none

def plainV : Value → Bool
  | .bool _ | .int _ _ | .string _ | .pointer none | .nilFunc | .nilIface | .map none => true
  | .slice none n c => n == 0 && c == 0
  | _ => false

/-- No tuple, no aggregate: what may stand in a cell. -/
def cellV : Value → Bool
  | .agg _ | .tuple _ => false
  | _ => true

abbrev Out := Option (Value × AH)

def isAggD : TypeDesc → Bool
  | .struct _ => true
  | .array _ _ => true
  | _ => false

def loadA (P : Program) (t : TypeId) (i o : Nat) (h : AH) : Option Value :=
  match P.info? t, P.underlying t with
  | some info, some d =>
    if isAggD d then (rowAt? h i o info.size).map fun l => .agg l.toArray
    else match rowAt? h i o 1 with
      | some [v] => some v
      | _ => none
  | _, _ => none

def storeA (P : Program) (t : TypeId) (i o : Nat) (v : Value) (h : AH) : Option AH :=
  match P.info? t with
  | none => none
  | some info => if v.cells.size = info.size && v.cells.toList.all cellV then putRow? h i o v.cells.toList else none

def newRowA (e : TypeId) (c : List Value) (h : AH) : Option (Value × AH) :=
  let r := h.new (.cells c true [] (some e))
  some (.pointer (some ⟨r.1, 0, none⟩), r.2)

/-! ### Operations -/
def evalA (tm : T Value) : Operand → Option Value
  | .tmp t => tm.get t
  | .const v => if plainV v then some v else none
  | .global _ => none
  | .func f => some (.func (.func f) #[] #[])

def bytesLt (a b : ByteArray) : Bool := Op.bytesLess a.toList b.toList

/-- Wrapping, quick where nothing wraps. -/
def wrapF (k : IntKind) (n : Int) : Int :=
  match k, n with
  | .i64, .ofNat m => cond (Nat.blt m 9223372036854775808) (.ofNat m) (k.wrap n)
  | _, _ => k.wrap n

theorem wrapF_eq (k : IntKind) (n : Int) : wrapF k n = k.wrap n := by
  unfold wrapF
  split
  · rename_i m
    cases h : Nat.blt m 9223372036854775808 with
    | false => rfl
    | true =>
      have hm : m < 9223372036854775808 := by simpa [Nat.blt_eq] using h
      show (m : Int) = IntKind.wrap .i64 (m : Int)
      simp only [IntKind.wrap, IntKind.signed, IntKind.bits]
      have e1 : ((m : Int) % 2 ^ 64) = m := by omega
      simp only [e1]
      rw [if_neg]
      simp
      omega
  · rfl

def eqF (a b : Int) : Bool :=
  match a, b with
  | .ofNat m, .ofNat n => Nat.beq m n
  | .negSucc m, .negSucc n => Nat.beq m n
  | _, _ => false
def ltF (a b : Int) : Bool :=
  match a, b with
  | .ofNat m, .ofNat n => Nat.blt m n
  | .negSucc m, .negSucc n => Nat.blt n m
  | .negSucc _, .ofNat _ => true
  | .ofNat _, .negSucc _ => false
def leF (a b : Int) : Bool :=
  match a, b with
  | .ofNat m, .ofNat n => Nat.ble m n
  | .negSucc m, .negSucc n => Nat.ble n m
  | .negSucc _, .ofNat _ => true
  | .ofNat _, .negSucc _ => false

theorem eqF_eq (a b : Int) : eqF a b = (a == b) := by
  have h : ∀ m n : Nat, Nat.beq m n = decide (m = n) := fun m n => by
    rw [Bool.eq_iff_iff, Nat.beq_eq, decide_eq_true_iff]
  rw [Bool.eq_iff_iff, beq_iff_eq]
  cases a <;> cases b <;> simp [eqF, h] <;> omega
theorem ltF_eq (a b : Int) : ltF a b = decide (a < b) := by
  rw [Bool.eq_iff_iff, decide_eq_true_iff]
  cases a <;> cases b <;> simp [ltF, Nat.blt_eq] <;> omega
theorem leF_eq (a b : Int) : leF a b = decide (a ≤ b) := by
  rw [Bool.eq_iff_iff, decide_eq_true_iff]
  cases a <;> cases b <;> simp [leF, Nat.ble_eq] <;> omega

def intBin (op : BinOp) (k : IntKind) (a b : Int) : Option Value :=
  match op with
  | .add => some (.int k (wrapF k (a + b)))
  | .sub => some (.int k (wrapF k (a - b)))
  | .mul => some (.int k (wrapF k (a * b)))
  | .quo => if b = 0 then none else some (.int k (wrapF k (a.tdiv b)))
  | .rem => if b = 0 then none else some (.int k (a.tmod b))
  | .and => some (.int k (wrapF k (BitVec.ofInt k.bits a &&& BitVec.ofInt k.bits b).toNat))
  | .or => some (.int k (wrapF k (BitVec.ofInt k.bits a ||| BitVec.ofInt k.bits b).toNat))
  | .xor => some (.int k (wrapF k (BitVec.ofInt k.bits a ^^^ BitVec.ofInt k.bits b).toNat))
  | .andNot => some (.int k (wrapF k (BitVec.ofInt k.bits a &&& ~~~(BitVec.ofInt k.bits b)).toNat))
  | .eql => some (.bool (eqF a b))
  | .neq => some (.bool (!(eqF a b)))
  | .lss => some (.bool (ltF a b))
  | .leq => some (.bool (leF a b))
  | .gtr => some (.bool (ltF b a))
  | .geq => some (.bool (leF b a))
  | _ => none

def shiftA (op : BinOp) (k : IntKind) (a b : Int) : Option Value :=
  if b < 0 then none else
  let n := min b.toNat k.bits
  match op with
  | .shl => some (.int k (k.wrap (a * 2 ^ n)))
  | .shr => some (.int k (a.fdiv (2 ^ n)))
  | _ => none

def strBin (op : BinOp) (x y : ByteArray) : Option Value :=
  match op with
  | .add => if ((x.size + y.size : Nat) : Int) > IntKind.i64.max then none else some (.string (x ++ y))
  | .eql => some (.bool (x.toList == y.toList))
  | .neq => some (.bool (!(x.toList == y.toList)))
  | .lss => some (.bool (bytesLt x y))
  | .leq => some (.bool (bytesLt x y || x.toList == y.toList))
  | .gtr => some (.bool (!(bytesLt x y || x.toList == y.toList)))
  | .geq => some (.bool (!(bytesLt x y)))
  | _ => none

/-- Equality of two values that hold no pointer but plain numbers, bools, strings. -/
def flatEq : Value → Value → Option Bool
  | .int k a, .int k' b => if k = k' then some (a == b) else none
  | .bool a, .bool b => some (a == b)
  | .string a, .string b => some (a == b)
  | _, _ => none

def listEq : List Value → List Value → Option Bool
  | [], [] => some true
  | x :: xs, y :: ys => match flatEq x y, listEq xs ys with
    | some a, some b => some (a && b)
    | _, _ => none
  | _, _ => none

def eqA (P : Program) (d : Option TypeDesc) (x y : Value) : Option Bool :=
  match d, x, y with
  | some (.pointer e), .pointer (some ⟨i, o, none⟩), .pointer (some ⟨j, q, none⟩) => if i = j && (P.info? e).isSome && P.cellsOf e ≠ 0 then some (o == q) else none
  | some .bool, .bool a, .bool b => some (a == b)
  | some (.slice _), .slice none _ _, .slice b _ _ => some b.isNone
  | some (.slice _), .slice (some _) _ _, .slice none _ _ => some false
  | some (.map _ _), .map none, .map b => some b.isNone
  | some (.map _ _), .map (some _), .map none => some false
  | some (.pointer _), .pointer none, .pointer b => some b.isNone
  | some (.pointer _), .pointer (some _), .pointer none => some false
  | some (.func _ _ _), .nilFunc, .nilFunc => some true
  | some (.func _ _ _), .nilFunc, .func _ _ _ => some false
  | some (.func _ _ _), .func _ _ _, .nilFunc => some false
  | _, _, _ => none

def litQ : Lit → Lit → Option Bool
  | .bool a, .bool b => some (a == b)
  | .int k a, .int k' b => some (decide (k = k') && eqF a b)
  | .string a, .string b => some (a == b)
  | .bool _, .int _ _ => some false
  | .int _ _, .bool _ => some false
  | .bool _, .string _ => some false
  | .string _, .bool _ => some false
  | .int _ _, .string _ => some false
  | .string _, .int _ _ => some false
  | _, _ => none
def litsQ : List Lit → List Lit → Option Bool
  | [], [] => some true
  | a :: l, b :: m => match litQ a b, litsQ l m with
    | some x, some y => some (x && y)
    | _, _ => none
  | [], _ :: _ => some false
  | _ :: _, [] => some false
theorem litQ_iff {a b : Lit} {r : Bool} (h : litQ a b = some r) : r = true ↔ a = b := by
  unfold litQ at h
  split at h <;> first | cases h | skip
  · simp
  · rename_i k a k' b
    rw [Bool.and_eq_true, decide_eq_true_iff, eqF_eq, beq_iff_eq]
    exact ⟨fun ⟨e1, e2⟩ => by rw [e1, e2], fun e => by cases e; exact ⟨rfl, rfl⟩⟩
  · simp
  all_goals (constructor <;> intro e <;> cases e)
theorem litsQ_iff : ∀ {l m : List Lit} {r : Bool}, litsQ l m = some r → (r = true ↔ l = m)
  | [], [], r, h => by cases h; simp
  | a :: l, b :: m, r, h => by
    rw [litsQ] at h
    split at h
    · rename_i x y hx hy
      cases h
      rw [Bool.and_eq_true, litQ_iff hx, litsQ_iff hy, List.cons.injEq]
    · cases h
  | [], _ :: _, r, h => by cases h; simp
  | _ :: _, [], r, h => by cases h; simp

/-- Equality of arrays and structs of numbers, bools and strings. -/
def aggEq (P : Program) (t : TypeId) (xs ys : Array Value) : Option Bool :=
  if xs.toList.all plainV && ys.toList.all plainV && !(P.eqGuardType P.depth t) && P.keyTypeAt 12 t && (Value.agg xs).formed P t && (Value.agg ys).formed P t then
    match P.keyLits 12 t xs.toList, P.keyLits 12 t ys.toList with
    | some a, some b => litsQ a b
    | _, _ => none
  else none

def binA (P : Program) (op : BinOp) (t : TypeId) (x y : Value) : Option Value :=
  match x, y with
  | .int k a, .int k' b =>
    match op with
    | .shl | .shr => shiftA op k a b
    | _ => if k = k' then intBin op k a b else none
  | .string a, .string b => strBin op a b
  | .agg xs, .agg ys =>
    match op with
    | .eql => (aggEq P t xs ys).map .bool
    | .neq => (aggEq P t xs ys).map fun b => .bool (!b)
    | _ => none
  | x, y =>
    match op with
    | .eql => (eqA P (P.underlying t) x y).map .bool
    | .neq => (eqA P (P.underlying t) x y).map fun b => .bool (!b)
    | _ => none

def unA (op : UnOp) (x : Value) : Option Value :=
  match op, x with
  | .neg, .int k n => some (.int k (k.wrap (0 - n)))
  | .xor, .int k n => intBin .xor k (if k.signed then -1 else k.max) n
  | .not, .bool b => some (.bool !b)
  | _, _ => none

def boundA (v : Option Value) (dflt cap : Nat) : Option Nat :=
  match v with
  | none => some dflt
  | some (.int _ i) => if 0 ≤ i ∧ i ≤ (cap : Int) then some i.toNat else none
  | _ => none

def boundsA (len cap : Nat) (lo hi mx : Option Value) : Option (Nat × Nat × Nat) :=
  match hi, mx with
  | none, some _ => none
  | _, _ => match boundA mx cap cap with
    | none => none
    | some m => match boundA hi len m with
      | none => none
      | some h => match boundA lo 0 h with
        | none => none
        | some l => if h ≤ m then some (l, h, m) else none

def cutAt (a : Addr) (size l h m : Nat) : Value :=
  .slice (some (if m = l then ⟨a.block, a.off, none⟩ else ⟨a.block, a.off + l * size, none⟩)) (h - l) (m - l)

/-- Slicing. A slice's address bears in 'spot' what is known of its capacity: none: it is just what stands there; some (s + 1): at least what stands there, cells of s + 1; some 0: a slice without elements, of whatever address and capacity. -/
def sliceA (P : Program) (t : TypeId) (x : Value) (lo hi mx : Option Value) : Option Value :=
  match P.underlying t, x with
  | some .string, .string s =>
    match mx with
    | some _ => none
    | none => match boundsA s.size s.size lo hi none with
      | some (l, h, _) => some (.string (s.extract l h))
      | none => none
  | some (.slice e), .slice none _ _ =>
    if (P.info? e).isSome then
      match boundsA 0 0 lo hi mx with
      | some (l, h, m) => some (.slice none (h - l) (m - l))
      | none => none
    else none
  | some (.slice e), .slice (some a) n c =>
    match P.info? e with
    | none => none
    | some info =>
      match a.spot with
      | none => match boundsA n c lo hi mx with
        | some (l, h, m) => some (cutAt a info.size l h m)
        | none => none
      | some 0 =>
        match mx with
        | some _ => none
        | none => match boundsA 0 0 lo hi none with
          | some _ => some (.slice (some ⟨a.block, a.off, some 0⟩) 0 0)
          | none => none
      | some (s + 1) =>
        if s + 1 ≠ info.size then none else
        match boundsA n c lo hi mx with
        | none => none
        | some (l, h, m) =>
          match mx with
          | some _ => some (cutAt a info.size l h m)
          | none =>
            if l < c then some (.slice (some ⟨a.block, a.off + l * info.size, some (s + 1)⟩) (h - l) (c - l))
            else some (.slice (some ⟨a.block, a.off, some 0⟩) 0 0)
  | some (.array n e), .pointer (some ⟨i, o, none⟩) =>
    match P.info? e with
    | none => none
    | some info => match boundsA n n lo hi mx with
      | some (l, h, m) => some (cutAt ⟨i, o, none⟩ info.size l h m)
      | none => none
  | _, _ => none

def indexAddrA (P : Program) (t : TypeId) (x ix : Value) : Option Value :=
  match ix with
  | .int _ i =>
    match P.underlying t, x with
    | some (.array n e), .pointer (some ⟨j, o, none⟩) =>
      match P.info? e with
      | none => none
      | some info => if 0 ≤ i ∧ i < (n : Int) then some (.pointer (some ⟨j, o + i.toNat * info.size, none⟩)) else none
    | some (.slice e), .slice (some a) n _ =>
      match P.info? e with
      | none => none
      | some info => if 0 ≤ i ∧ i < (n : Int) then some (.pointer (some ⟨a.block, a.off + i.toNat * info.size, none⟩)) else none
    | _, _ => none
  | _ => none

def partA (P : Program) (t : TypeId) (cs : Array Value) (off : Nat) : Option Value :=
  match P.info? t, P.underlying t with
  | some info, some d =>
    if isAggD d then some (.agg (cs.extract off (off + info.size)))
    else cs[off]?
  | _, _ => none

def indexA (P : Program) (t : TypeId) (x ix : Value) : Option Value :=
  match ix with
  | .int _ i =>
    match P.underlying t, x with
    | some (.array n e), .agg cs =>
      match P.info? e with
      | none => none
      | some info => if 0 ≤ i ∧ i < (n : Int) then partA P e cs (i.toNat * info.size) else none
    | some .string, .string s =>
      if 0 ≤ i then (match s[i.toNat]? with
        | some b => some (.int .u8 b.toNat)
        | none => none) else none
    | _, _ => none
  | _ => none

def fieldAddrA (P : Program) (s : TypeId) (x : Value) (f : Nat) : Option Value :=
  match P.underlying s, x with
  | some (.struct fs), .pointer (some ⟨j, o, none⟩) =>
    match fs[f]? with
    | none => none
    | some fd => match P.info? fd.type with
      | none => none
      | some info => if info.size = 0 then none else some (.pointer (some ⟨j, o + fd.offset, none⟩))
  | _, _ => none

def fieldA (P : Program) (s : TypeId) (x : Value) (f : Nat) : Option Value :=
  match P.underlying s, x with
  | some (.struct fs), .agg cs =>
    match fs[f]? with
    | none => none
    | some fd => partA P fd.type cs fd.offset
  | _, _ => none

def okZero : Value → Bool
  | .agg c => c.toList.all fun v => plainV v
  | v => plainV v

def zeroOf (info : TypeInfo) : Option Value :=
  match info.zero with
  | some z => if okZero z then some z else none
  | none => none

def zeroA (P : Program) (t : TypeId) : Option Value :=
  match P.info? t with
  | some info => zeroOf info
  | none => none

def buildA (P : Program) (t : TypeId) (parts : List (Nat × Value)) : Option Value :=
  match zeroA P t with
  | none => none
  | some _ => (P.built t parts).map .agg

def repeatL (z : List Value) : Nat → List Value
  | 0 => []
  | n + 1 => z ++ repeatL z n

def buildSliceA (P : Program) (t : TypeId) (len : Nat) (parts : List (Nat × Value)) (h : AH) : Out :=
  match P.underlying t with
  | some (.slice e) =>
    match P.info? e with
    | none => none
    | some info =>
      match zeroOf info with
      | none => none
      | some z =>
        if info.size ≠ z.cells.size || info.size = 0 || len * info.size > 2 ^ 24 then none else
        match Instr.fill (fun i => some (i * info.size, info.size)) (repeatL z.cells.toList len).toArray parts with
        | none => none
        | some cells =>
          let r := h.new (.cells cells.toList true [] (some e))
          some (.slice (some ⟨r.1, 0, none⟩) len len, r.2)
  | _ => none

def makeSliceA (P : Program) (t : TypeId) (len cap : Value) (h : AH) : Out :=
  match P.underlying t, len, cap with
  | some (.slice e), .int _ l, .int _ c =>
    match P.info? e with
    | none => none
    | some info =>
      match zeroOf info with
      | none => none
      | some z =>
        if info.size ≠ z.cells.size || info.size = 0 then none else
        if 0 ≤ l ∧ l ≤ c ∧ c ≤ 1000000 ∧ info.bytes ≤ 1000000 then
          let r := h.new (.cells (repeatL z.cells.toList c.toNat) true [] (some e))
          some (.slice (some ⟨r.1, 0, none⟩) l.toNat c.toNat, r.2)
        else none
  | _, _, _ => none

/-- A key: a number, a string, a bool, or an array or struct of such. -/
def keyEq (a b : Value) : Option Bool :=
  match a, b with
  | .agg x, .agg y => if x.size = y.size then listEq x.toList y.toList else none
  | a, b => flatEq a b

def lookA (k : Value) : List (Value × Value) → Option (Option Value)
  | [] => some none
  | e :: es => match keyEq k e.1 with
    | some true => some (some e.2)
    | some false => lookA k es
    | none => none

def updA (k v : Value) : List (Value × Value) → Option (List (Value × Value))
  | [] => some [(k, v)]
  | e :: es => match keyEq k e.1 with
    | some true => some ((k, v) :: es)
    | some false => (updA k v es).map (e :: ·)
    | none => none

def delA (k : Value) : List (Value × Value) → Option (List (Value × Value))
  | [] => some []
  | e :: es => match keyEq k e.1 with
    | some true => some es
    | some false => (delA k es).map (e :: ·)
    | none => none

def scalOf (d : Option TypeDesc) (v : Value) : Bool :=
  match d, v with
  | some (.int k), .int k' _ => decide (k = k')
  | some .string, .string _ => true
  | some .bool, .bool _ => true
  | _, _ => false

def arrKey (P : Program) (t : TypeId) (k : Value) : Bool :=
  match P.underlying t, k with
  | some (.array n e), .agg cs =>
    decide (cs.size = n) && (match P.info? e with
      | some i => decide (i.size = 1)
      | none => false) && cs.toList.all fun v => scalOf (P.underlying e) v
  | _, _ => false

/-- A key of its map's key type: a scalar, or an array of such. -/
def keyOk (P : Program) (t : TypeId) (k : Value) : Bool := scalOf (P.underlying t) k || arrKey P t k

def entriesA (h : AH) (m : Value) : Option (List (Value × Value)) :=
  match m with
  | .map none => some []
  | .map (some r) => match h.get r with
    | .map es => some es
    | _ => none
  | _ => none

def lookupA (P : Program) (t : TypeId) (m k : Value) (ok : Bool) (h : AH) : Option Value :=
  match P.underlying t with
  | some (.map kt et) =>
    if !keyOk P kt k then none else
    match zeroA P et, entriesA h m with
    | some z, some es => match lookA k es with
      | none => none
      | some none => some (if ok then .tuple #[z, .bool false] else z)
      | some (some v) => some (if ok then .tuple #[v, .bool true] else v)
    | _, _ => none
  | _ => none

def mapUpdateA (P : Program) (t : TypeId) (m k v : Value) (h : AH) : Option AH :=
  match P.underlying t, m with
  | some (.map kt _), .map (some r) =>
    if !keyOk P kt k then none else
    match h.get r with
    | .map es => (updA k v es).map fun es' => h.put r (.map es')
    | _ => none
  | _, _ => none

def deleteA (P : Program) (t : TypeId) (m k : Value) (h : AH) : Option AH :=
  match P.underlying t, m with
  | some (.map kt _), .map (some r) =>
    if !keyOk P kt k then none else
    match h.get r with
    | .map es => (delA k es).map fun es' => h.put r (.map es')
    | _ => none
  | _, _ => none

/-- What is appended: cells, and their number of elements. -/
def srcA (size : Nat) (x : Value) (h : AH) : Option (List Value × Nat) :=
  match x with
  | .slice none _ _ => some ([], 0)
  | .slice (some a) n _ => if n = 0 then some ([], 0) else (rowAt? h a.block a.off (n * size)).map (·, n)
  | .string s => if size = 1 then some (s.data.toList.map fun b => .int .u8 b.toNat, s.size) else none
  | _ => none

def zfit (info : TypeInfo) : Bool :=
  match zeroOf info with
  | some z => z.cells.size == info.size
  | none => false

/-- An append that makes a new row for certain. -/
def appendNew (e : TypeId) (size : Nat) (cells : List Value) (n : Nat) (h : AH) : Out :=
  some (.slice (some ⟨h.next, 0, some size⟩) n n, (h.new (.cells cells true [] (some e))).2)

/-- An append onto a slice whose capacity is not known: the row behind it may be the old one or a new one. -/
def appendU (e : TypeId) (size i o l n : Nat) (new : List Value) (h : AH) : Out :=
  match h.get i with
  | .cells cs true par ty =>
    if o + l * size = cs.length then
      some (.slice (some ⟨h.next, 0, some size⟩) (l + n) (l + n),
        ((h.put i (.cells cs false par ty)).new (.cells (cs.drop o ++ new) true (i :: par) (if ty = some e ∧ o = 0 then ty else none))).2)
    else if o + l * size < cs.length then
      some (.slice (some ⟨h.next, 0, some size⟩) (l + n) (l + n),
        (((h.kill par).put i (.cells (cs.take (o + l * size)) false [] ty)).new (.cells (((cs.drop o).take (l * size)) ++ new) true [i] (if ty = some e ∧ o = 0 then ty else none))).2)
    else none
  | _ => none

def srcKind : TypeDesc → Bool
  | .slice _ => true
  | .string => true
  | _ => false

def appendA (P : Program) (ts : Array TypeId) (s x : Value) (h : AH) : Out :=
  match ts[0]?, ts[1]? with
  | some st, some xt =>
    match P.underlying st, P.underlying xt with
    | some (.slice e), some xd =>
      match P.info? e with
      | none => none
      | some info =>
        if !srcKind xd then none else
        match srcA info.size x h with
        | none => none
        | some (new, n) =>
          if info.size = 0 || info.bytes > 1000000 || n > 1000000 || !zfit info || !(new.all cellV) then none else
          match s with
          | .slice none l c => if l ≠ 0 || c ≠ 0 then none else if n = 0 then some (.slice none 0 0, h) else appendNew e info.size new n h
          | .slice (some ⟨i, o, none⟩) l c =>
            if l > 1000000 || c < l then none else
            if n = 0 then some (.slice (some ⟨i, o, none⟩) l c, h) else
            if l + n ≤ c then (putRow? h i (o + l * info.size) new).map fun h' => (.slice (some ⟨i, o, none⟩) (l + n) c, h')
            else match rowAt? h i o (l * info.size) with
              | none => none
              | some old => appendNew e info.size (old ++ new) (l + n) h
          | .slice (some ⟨i, o, some 0⟩) _ _ => if n = 0 then some (.slice (some ⟨i, o, some 0⟩) 0 0, h) else none
          | .slice (some ⟨i, o, some (z + 1)⟩) l c =>
            if z + 1 ≠ info.size || l > 1000000 then none else
            if n = 0 then some (.slice (some ⟨i, o, some (z + 1)⟩) l c, h) else appendU e info.size i o l n new h
          | _ => none
    | _, _ => none
  | _, _ => none

def lenA (P : Program) (t : TypeId) (x : Value) (h : AH) : Option Value :=
  match P.underlying t, x with
  | some .string, .string s => some (.int .i64 s.size)
  | some (.array n _), _ => some (.int .i64 n)
  | some (.pointer a), _ => match P.underlying a with
    | some (.array n _) => some (.int .i64 n)
    | _ => none
  | some (.slice _), .slice _ n _ => some (.int .i64 n)
  | some (.map _ _), .map none => some (.int .i64 0)
  | some (.map _ _), .map (some r) => match h.get r with
    | .map es => some (.int .i64 es.length)
    | _ => none
  | _, _ => none

def capA (P : Program) (t : TypeId) (x : Value) : Option Value :=
  match P.underlying t, x with
  | some (.slice _), .slice none _ c => some (.int .i64 c)
  | some (.slice _), .slice (some a) _ c => match a.spot with
    | none => some (.int .i64 c)
    | _ => none
  | _, _ => none

def copyA (P : Program) (t : TypeId) (d x : Value) (h : AH) : Out :=
  match P.underlying t, d with
  | some (.slice e), .slice base dl _ =>
    match P.info? e with
    | none => none
    | some info =>
      match x with
      | .slice none _ _ => some (.int .i64 0, h)
      | .slice (some ⟨i, o, _⟩) n _ =>
        match base with
        | none => if dl = 0 then some (.int .i64 0, h) else none
        | some ⟨j, q, _⟩ =>
          if min n dl = 0 then some (.int .i64 0, h) else
          match rowAt? h i o (min n dl * info.size) with
          | some l => if l.all cellV then (putRow? h j q l).map fun h' => (.int .i64 (min n dl), h') else none
          | none => none
      | _ => none
  | _, _ => none

/-- clear of a slice: its elements become zero. -/
def clearA (P : Program) (t : TypeId) (x : Value) (h : AH) : Option AH :=
  match P.underlying t, x with
  | some (.slice _), .slice none _ _ => some h
  | some (.slice e), .slice (some a) n _ =>
    match P.info? e with
    | none => none
    | some info =>
      match zeroOf info with
      | none => none
      | some z => if n = 0 then some h else if z.cells.size = 0 then none else putRow? h a.block a.off (repeatL z.cells.toList n)
  | _, _ => none

/-- A slice as a pointer to an array. -/
def arrayAtA (P : Program) (t : TypeId) (x : Value) : Option Value :=
  match P.underlying t, x with
  | some (.array n _), .slice (some ⟨i, o, none⟩) len _ => if n = 0 || Nat.blt len n then none else some (.pointer (some ⟨i, o, none⟩))
  | some (.array n _), .slice (some ⟨i, o, some (_ + 1)⟩) len _ => if n = 0 || Nat.blt len n then none else some (.pointer (some ⟨i, o, none⟩))
  | _, _ => none

def foldMinMax (mx : Bool) : Value → List Value → Option Value
  | v, [] => some v
  | .int k x, .int _ y :: l => foldMinMax mx (.int k (if mx then (if y > x then y else x) else (if y < x then y else x))) l
  | _, _ => none

/-- unsafe.String of what a Builder holds. -/
def bytesOf : List Value → Option (List UInt8)
  | [] => some []
  | .int .u8 n :: l => (bytesOf l).map (n.toNat.toUInt8 :: ·)
  | _ => none

def unsafeStringA (P : Program) (pt : TypeId) (p n : Value) (h : AH) : Out :=
  match p, n with
  | .pointer none, .int _ n => if n = 0 then some (.string .empty, h) else none
  | .pointer (some ⟨i, o, none⟩), .int _ n =>
    if n = 0 then some (.string .empty, h) else
    if n < 0 ∨ n > 1000000 then none else
    match h.get i, P.underlying pt with
    | .cells c true par (some e), some (.pointer u) => if o + n.toNat ≤ c.length && u = e && (P.info? e).isSome && P.cellsOf e = 1 then
        (match bytesOf ((c.drop o).take n.toNat) with
        | some bs => some (.string ⟨bs.toArray⟩, (h.kill par).put i (.cells c false [] (some e)))
        | none => none) else none
    | _, _ => none
  | _, _ => none

def sliceDataA (x : Value) : Option Value :=
  match x with
  | .slice none _ _ => some (.pointer none)
  | .slice (some ⟨i, o, none⟩) _ c => if c ≠ 0 then some (.pointer (some ⟨i, o, none⟩)) else none
  | .slice (some ⟨i, o, some (_ + 1)⟩) _ c => if c ≠ 0 then some (.pointer (some ⟨i, o, none⟩)) else none
  | _ => none

def minMaxA (mx : Bool) (l : List Value) : Option Value :=
  match l with
  | .int k n :: l => foldMinMax mx (.int k n) l
  | _ => none

def builtinA (P : Program) (b : Builtin) (ts : List TypeId) (args : List Value) (h : AH) : Out :=
  match b, ts, args with
  | .append, [t, tx], [s, x] => appendA P #[t, tx] s x h
  | .len, [t], [x] => (lenA P t x h).map (·, h)
  | .cap, [t], [x] => (capA P t x).map (·, h)
  | .copy, [t, _], [d, x] => copyA P t d x h
  | .max, _, l => (minMaxA true l).map (·, h)
  | .min, _, l => (minMaxA false l).map (·, h)
  | .delete, [t, _], [m, k] => (deleteA P t m k h).map (.tuple #[], ·)
  | .clear, [t], [x] => (clearA P t x h).map (.tuple #[], ·)
  | .unsafeSliceData, _, [x] => (sliceDataA x).map (·, h)
  | .unsafeString, [t, _], [p, n] => unsafeStringA P t p n h
  | _, _, _ => none

def convertA (P : Program) (src dst : TypeId) (x : Value) (h : AH) : Option Value :=
  match P.underlying src, P.underlying dst, x with
  | some (.pointer t), some .unsafePointer, .pointer (some ⟨i, o, none⟩) =>
    match h.get i with
    | .cells c _ _ _ => if decide (o < c.length) && decide (P.cellsOf t ≠ 0) && (P.info? t).isSome then some (.pointer (some ⟨i, o, none⟩)) else none
    | _ => none
  | some .unsafePointer, some (.pointer u), .pointer (some ⟨i, o, none⟩) =>
    match h.get i with
    | .cells c _ _ (some e) => if decide (o = 0) && decide (u = e) && decide (P.cellsOf e ≠ 0) && decide (P.cellsOf e ≤ c.length) && (P.info? e).isSome then some (.pointer (some ⟨i, o, none⟩)) else none
    | _ => none
  | some _, some (.int k), .int _ n => some (.int k (k.wrap n))
  | some _, some .string, .string s => some (.string s)
  | _, _, _ => none

def rangeA (P : Program) (t : TypeId) (x : Value) (h : AH) : Out :=
  match P.underlying t, x with
  | some .string, .string s =>
    let r := h.new (.str s 0)
    some (.pointer (some ⟨r.1, 0, none⟩), r.2)
  | _, _ => none

def nextA (it : Value) (isString : Bool) (h : AH) : Out :=
  match it with
  | .pointer (some ⟨r, 0, none⟩) =>
    match h.get r, isString with
    | .str s pos, true =>
      if pos < s.size then
        let d := Utf8.decode s pos
        some (.tuple #[.bool true, .int .i64 pos, .int .i32 d.1], h.put r (.str s (pos + d.2)))
      else some (.tuple #[.bool false], h)
    | _, _ => none
  | _ => none

def optA (ρ : Operand → Option Value) : Option Operand → Option (Option Value)
  | none => some none
  | some x => match ρ x with
    | some v => some (some v)
    | none => none

def makeIfaceA (P : Program) (t : TypeId) (x : Value) : Option Value :=
  match P.underlying t with
  | some (.interface _) => none
  | some _ => some (.iface t x)
  | none => none

def assertA (P : Program) (asserted : TypeId) (ok : Bool) (x : Value) : Option Value :=
  match P.underlying asserted with
  | some (.interface _) => none
  | some _ => match x with
    | .iface t v => match Nat.beq t asserted with
      | true => some (match ok with | true => .tuple #[v, .bool true] | false => v)
      | false => match ok with
        | true => match zeroA P asserted with
          | some z => some (.tuple #[z, .bool false])
          | none => none
        | false => none
    | .nilIface => match ok with
      | true => match zeroA P asserted with
        | some z => some (.tuple #[z, .bool false])
        | none => none
      | false => none
    | _ => none
  | none => none

/-- An operation that is no call of a function with a body: its value and the heap behind it. -/
def opA (P : Program) (ρ : Operand → Option Value) (o : Op) (h : AH) : Out :=
  let u (r : Option AH) : Out := r.map (undef, ·)
  let v (r : Option Value) : Out := r.map (·, h)
  match o with
  | .move x | .assign x => v (ρ x)
  | .pick c a b => match ρ c, ρ a, ρ b with
    | some (.bool c), some a, some b => some (if c then a else b, h)
    | _, _, _ => none
  | .alloc e => match zeroA P e with
    | some z => newRowA e z.cells.toList h
    | none => none
  | .box e x => match ρ x with
    | some x => newRowA e x.cells.toList h
    | none => none
  | .build t parts => match parts.toList.mapM (fun p => (ρ p.2).map fun x => (p.1, x)) with
    | some ps => v (buildA P t ps)
    | none => none
  | .buildSlice t n parts => match parts.toList.mapM (fun p => (ρ p.2).map fun x => (p.1, x)) with
    | some ps => buildSliceA P t n ps h
    | none => none
  | .load t a => match ρ a with
    | some (.pointer (some ⟨i, o, none⟩)) => v (loadA P t i o h)
    | _ => none
  | .store t a x => match ρ a, ρ x with
    | some (.pointer (some ⟨i, o, none⟩)), some x => u (storeA P t i o x h)
    | _, _ => none
  | .nilCheck x => match ρ x with
    | some (.pointer (some a)) => v (some (.pointer (some a)))
    | some (.func (.func f) a b) => v (some (.func (.func f) a b))
    | _ => none
  | .binOp op t x y _ => match ρ x, ρ y with
    | some x, some y => v (binA P op t x y)
    | _, _ => none
  | .unOp op _ x => match ρ x with
    | some x => v (unA op x)
    | none => none
  | .convert src dst x => match ρ x with
    | some x => v (convertA P src dst x h)
    | none => none
  | .sliceToArrayPointer t x => match ρ x with
    | some x => v (arrayAtA P t x)
    | none => none
  | .makeFunc fn first captured => match first.toList.mapM ρ, captured.toList.mapM ρ with
    | some a, some b => v (some (.func fn a.toArray b.toArray))
    | _, _ => none
  | .makeMap _ none =>
    let r := h.new (.map [])
    some (.map (some r.1), r.2)
  | .makeSlice t l c => match ρ l, ρ c with
    | some l, some c => makeSliceA P t l c h
    | _, _ => none
  | .slice t x lo hi mx => match ρ x, optA ρ lo, optA ρ hi, optA ρ mx with
    | some x, some lo, some hi, some mx => v (sliceA P t x lo hi mx)
    | _, _, _, _ => none
  | .fieldAddr s x f => match ρ x with
    | some x => v (fieldAddrA P s x f)
    | none => none
  | .field s x f => match ρ x with
    | some x => v (fieldA P s x f)
    | none => none
  | .indexAddr t x i => match ρ x, ρ i with
    | some x, some i => v (indexAddrA P t x i)
    | _, _ => none
  | .index t x i => match ρ x, ρ i with
    | some x, some i => v (indexA P t x i)
    | _, _ => none
  | .lookup t m k ok => match ρ m, ρ k with
    | some m, some k => v (lookupA P t m k ok h)
    | _, _ => none
  | .mapUpdate t m k x | .insert t m k x => match ρ m, ρ k, ρ x with
    | some m, some k, some x => u (mapUpdateA P t m k x h)
    | _, _, _ => none
  | .range t x => match ρ x with
    | some x => rangeA P t x h
    | none => none
  | .next it s => match ρ it with
    | some it => nextA it s h
    | none => none
  | .extract t i => match ρ t with
    | some (.tuple vs) => v vs[i]?
    | _ => none
  | .makeInterface t x => match ρ x with
    | some x => v (makeIfaceA P t x)
    | none => none
  | .typeAssert x _ asserted ok => match ρ x with
    | some x => v (assertA P asserted ok x)
    | none => none
  | .call { callee := .builtin b, args, argTypes } => match args.toList.mapM ρ with
    | some l => builtinA P b argTypes.toList l h
    | none => none
  | _ => none

end
end Go.R

/- What is known of the maps that stand for any of their kind (none), and the laid table. -/
namespace Go.R
set_option linter.unusedVariables false
set_option linter.unusedSimpArgs false
open Go
def Stands (tag : Nat) (es : List (Value × Value)) : Prop := False
/-- The laid tables: the variable's number, and its bytes: math/bits.deBruijn64tab. -/
def tabs : List (Nat × List Nat) := [(1, [0, 1, 56, 2, 57, 49, 28, 3, 61, 58, 42, 50, 38, 29, 17, 4, 62, 47, 59, 36, 45, 43, 51, 22, 53, 39, 33, 30, 24, 18, 12, 5,
  63, 55, 48, 27, 60, 41, 37, 16, 46, 35, 44, 21, 52, 32, 23, 11, 54, 26, 40, 15, 34, 20, 31, 10, 25, 14, 19, 9, 13, 8, 7, 6])]
end Go.R

/- How the abstract machine's values and heap stand to the model's: the relation, and what single steps on memory do to it. -/
namespace Go.R
set_option linter.unusedVariables false
set_option linter.unusedSimpArgs false
open Go Go.RowKit

/-! ### The tree -/
theorem T.get_set {α : Type} : ∀ (f : Nat) (t : T α) (k : Nat) (x : α) (j : Nat), k < f → (T.setF f t k x).get j = if j = k then some x else t.get j := by
  intro f
  induction f with
  | zero => intro t k x j h; omega
  | succ f ih =>
    intro t k x j h
    cases k with
    | zero =>
      cases t with
      | nil => cases j with
        | zero => simp [T.sNZ, T.sZ, T.sNS, T.sS, T.gN, T.gZ, T.gS]
        | succ j => simp [T.sNZ, T.sZ, T.sNS, T.sS, T.gN, T.gZ, T.gS]
      | node l v r => cases j with
        | zero => simp [T.sNZ, T.sZ, T.sNS, T.sS, T.gN, T.gZ, T.gS]
        | succ j => simp [T.sNZ, T.sZ, T.sNS, T.sS, T.gN, T.gZ, T.gS]
    | succ k =>
      have hk : k / 2 < f := by omega
      cases t with
      | nil =>
        by_cases h2 : k % 2 = 0
        · cases j with
          | zero => simp [T.sNZ, T.sZ, T.sNS, T.sS, T.gN, T.gZ, T.gS, h2]
          | succ j =>
            by_cases hj : j % 2 = 0
            · simp only [T.sNZ, T.sZ, T.sNS, T.sS, h2, if_true, T.gN, T.gZ, T.gS, hj, ih .nil _ x _ hk]
              by_cases e : j = k
              · subst e; simp
              · rw [if_neg (by omega), if_neg (by omega)]
            · simp only [T.sNZ, T.sZ, T.sNS, T.sS, h2, if_true, T.gN, T.gZ, T.gS, hj, if_false]
              rw [if_neg (by omega)]
        · cases j with
          | zero => simp [T.sNZ, T.sZ, T.sNS, T.sS, T.gN, T.gZ, T.gS, h2]
          | succ j =>
            by_cases hj : j % 2 = 0
            · simp only [T.sNZ, T.sZ, T.sNS, T.sS, h2, if_false, T.gN, T.gZ, T.gS, hj, if_true]
              rw [if_neg (by omega)]
            · simp only [T.sNZ, T.sZ, T.sNS, T.sS, h2, if_false, T.gN, T.gZ, T.gS, hj, ih .nil _ x _ hk]
              by_cases e : j = k
              · subst e; simp
              · rw [if_neg (by omega), if_neg (by omega)]
      | node l v r =>
        by_cases h2 : k % 2 = 0
        · cases j with
          | zero => simp [T.sNZ, T.sZ, T.sNS, T.sS, T.gN, T.gZ, T.gS, h2]
          | succ j =>
            by_cases hj : j % 2 = 0
            · simp only [T.sNZ, T.sZ, T.sNS, T.sS, h2, if_true, T.gN, T.gZ, T.gS, hj, ih l _ x _ hk]
              by_cases e : j = k
              · subst e; simp
              · rw [if_neg (by omega), if_neg (by omega)]
            · simp only [T.sNZ, T.sZ, T.sNS, T.sS, h2, if_true, T.gN, T.gZ, T.gS, hj, if_false]
              rw [if_neg (by omega)]
        · cases j with
          | zero => simp [T.sNZ, T.sZ, T.sNS, T.sS, T.gN, T.gZ, T.gS, h2]
          | succ j =>
            by_cases hj : j % 2 = 0
            · simp only [T.sNZ, T.sZ, T.sNS, T.sS, h2, if_false, T.gN, T.gZ, T.gS, hj, if_true]
              rw [if_neg (by omega)]
            · simp only [T.sNZ, T.sZ, T.sNS, T.sS, h2, if_false, T.gN, T.gZ, T.gS, hj, ih r _ x _ hk]
              by_cases e : j = k
              · subst e; simp
              · rw [if_neg (by omega), if_neg (by omega)]

theorem T.get_set' {α : Type} (t : T α) (k : Nat) (x : α) (j : Nat) : (t.set k x).get j = if j = k then some x else t.get j :=
  T.get_set (k + 1) t k x j (by omega)

theorem AH.get_put (h : AH) (i : Nat) (o : AObj) (j : Nat) : (h.put i o).get j = if j = i then o else h.get j := by
  simp only [AH.get, AH.put, T.get_set']
  split <;> rfl
@[simp] theorem AH.next_put (h : AH) (i : Nat) (o : AObj) : (h.put i o).next = h.next := rfl
theorem AH.get_new (h : AH) (o : AObj) (j : Nat) : (h.new o).2.get j = if j = h.next then o else h.get j := by
  simp only [AH.get, AH.new, T.get_set']
  split <;> rfl
@[simp] theorem AH.next_new (h : AH) (o : AObj) : (h.new o).2.next = h.next + 1 := rfl
@[simp] theorem AH.fst_new (h : AH) (o : AObj) : (h.new o).1 = h.next := rfl
@[simp] theorem AH.next_kill (l : List Nat) : ∀ h : AH, (h.kill l).next = h.next := by
  induction l with
  | nil => intro h; rfl
  | cons i l ih => intro h; simp [AH.kill, ih]
theorem AH.get_kill (l : List Nat) : ∀ (h : AH) (j : Nat), (h.kill l).get j = if j ∈ l then .dead else h.get j := by
  induction l with
  | nil => intro h j; simp [AH.kill]
  | cons i l ih =>
    intro h j
    simp only [AH.kill, ih, AH.get_put, List.mem_cons]
    by_cases h1 : j ∈ l
    · simp [h1]
    · by_cases h2 : j = i
      · simp [h2]
      · simp [h1, h2]

/-! ### Values -/
abbrev Mp := Nat → Option (Nat × Nat × Nat)

/-- An abstract value and the model's, under a map of places. -/
inductive VR (μ : Mp) : Value → Value → Prop
  | plain {v : Value} : plainV v = true → VR μ v v
  | ptr {i o b z e : Nat} : μ i = some (b, z, e) → VR μ (.pointer (some ⟨i, o, none⟩)) (.pointer (some ⟨b, z + o, none⟩))
  | slice {i o n c b z e : Nat} : μ i = some (b, z, e) → VR μ (.slice (some ⟨i, o, none⟩) n c) (.slice (some ⟨b, z + o, none⟩) n c)
  | sliceU {i o n c c' s b z e : Nat} : μ i = some (b, z, e) → n ≤ c → c ≤ c' → z + o + c' * (s + 1) ≤ e →
      VR μ (.slice (some ⟨i, o, some (s + 1)⟩) n c) (.slice (some ⟨b, z + o, none⟩) n c')
  | slice0 {i o c' : Nat} {a : Addr} : VR μ (.slice (some ⟨i, o, some 0⟩) 0 0) (.slice (some a) 0 c')
  | map {i b e : Nat} : μ i = some (b, 0, e) → VR μ (.map (some i)) (.map (some b))
  | func {fn : Fn} {f f' c c' : Array Value} : f.size = f'.size → (∀ (k : Nat) (v v' : Value), f[k]? = some v → f'[k]? = some v' → VR μ v v') →
      c.size = c'.size → (∀ (k : Nat) (v v' : Value), c[k]? = some v → c'[k]? = some v' → VR μ v v') → VR μ (.func fn f c) (.func fn f' c')
  | agg {a a' : Array Value} : a.size = a'.size → (∀ (k : Nat) (v v' : Value), a[k]? = some v → a'[k]? = some v' → VR μ v v') → VR μ (.agg a) (.agg a')
  | tuple {a a' : Array Value} : a.size = a'.size → (∀ (k : Nat) (v v' : Value), a[k]? = some v → a'[k]? = some v' → VR μ v v') → VR μ (.tuple a) (.tuple a')
  | iface {t : TypeId} {v v' : Value} : VR μ v v' → VR μ (.iface t v) (.iface t v')

def Sub (μ μ' : Mp) : Prop := ∀ i p, μ i = some p → μ' i = some p
theorem Sub.refl (μ : Mp) : Sub μ μ := fun _ _ h => h
theorem Sub.trans {a b c : Mp} (h : Sub a b) (k : Sub b c) : Sub a c := fun i p hi => k i p (h i p hi)

theorem VR.mono {μ μ' : Mp} (hs : Sub μ μ') {v v' : Value} (h : VR μ v v') : VR μ' v v' := by
  induction h with
  | plain h => exact .plain h
  | ptr h => exact .ptr (hs _ _ h)
  | slice h => exact .slice (hs _ _ h)
  | sliceU h a b c => exact .sliceU (hs _ _ h) a b c
  | slice0 => exact .slice0
  | map h => exact .map (hs _ _ h)
  | func h1 _ h3 _ ih1 ih2 => exact .func h1 ih1 h3 ih2
  | agg h1 _ ih => exact .agg h1 ih
  | tuple h1 _ ih => exact .tuple h1 ih
  | iface _ ih => exact .iface ih

/-- Lists of values, place by place. -/
def LR (μ : Mp) (l l' : List Value) : Prop := l.length = l'.length ∧ ∀ (k : Nat) (v v' : Value), l[k]? = some v → l'[k]? = some v' → VR μ v v'

theorem LR.mono {μ μ' : Mp} (hs : Sub μ μ') {l l' : List Value} (h : LR μ l l') : LR μ' l l' := ⟨h.1, fun k v v' a b => (h.2 k v v' a b).mono hs⟩
theorem LR.nil {μ : Mp} : LR μ [] [] := ⟨rfl, fun k v v' h => by simp at h⟩
theorem LR.cons {μ : Mp} {v v' : Value} {l l' : List Value} (hv : VR μ v v') (h : LR μ l l') : LR μ (v :: l) (v' :: l') := by
  refine ⟨by simp [h.1], fun k x x' a b => ?_⟩
  cases k with
  | zero => simp at a b; subst a; subst b; exact hv
  | succ k => simp at a b; exact h.2 k x x' a b
theorem LR.head {μ : Mp} {v v' : Value} {l l' : List Value} (h : LR μ (v :: l) (v' :: l')) : VR μ v v' := h.2 0 v v' rfl rfl
theorem LR.tail {μ : Mp} {v v' : Value} {l l' : List Value} (h : LR μ (v :: l) (v' :: l')) : LR μ l l' :=
  ⟨by have := h.1; simpa using this, fun k x x' a b => h.2 (k + 1) x x' (by simpa using a) (by simpa using b)⟩
theorem LR.at_ {μ : Mp} {l l' : List Value} (h : LR μ l l') {k : Nat} {v : Value} (hk : l[k]? = some v) : ∃ v', l'[k]? = some v' ∧ VR μ v v' := by
  have hlt : k < l.length := by
    rcases Nat.lt_or_ge k l.length with a | a
    · exact a
    · simp [List.getElem?_eq_none a] at hk
  have hlt' : k < l'.length := h.1 ▸ hlt
  exact ⟨l'[k], List.getElem?_eq_getElem hlt', h.2 k v _ hk (List.getElem?_eq_getElem hlt')⟩
theorem LR.back {μ : Mp} {l l' : List Value} (h : LR μ l l') {k : Nat} {v' : Value} (hk : l'[k]? = some v') : ∃ v, l[k]? = some v ∧ VR μ v v' := by
  have hlt : k < l'.length := by
    rcases Nat.lt_or_ge k l'.length with a | a
    · exact a
    · simp [List.getElem?_eq_none a] at hk
  have hlt' : k < l.length := h.1 ▸ hlt
  exact ⟨l[k], List.getElem?_eq_getElem hlt', h.2 k _ v' (List.getElem?_eq_getElem hlt') hk⟩
theorem LR.append {μ : Mp} {a a' b b' : List Value} (h : LR μ a a') (k : LR μ b b') : LR μ (a ++ b) (a' ++ b') := by
  refine ⟨by simp [h.1, k.1], fun j v v' x y => ?_⟩
  by_cases hj : j < a.length
  · rw [List.getElem?_append_left hj] at x
    rw [List.getElem?_append_left (h.1 ▸ hj)] at y
    exact h.2 j v v' x y
  · rw [List.getElem?_append_right (by omega)] at x
    rw [List.getElem?_append_right (by have := h.1; omega)] at y
    rw [← h.1] at y
    exact k.2 _ v v' x y
theorem LR.take {μ : Mp} {a a' : List Value} (h : LR μ a a') (n : Nat) : LR μ (a.take n) (a'.take n) := by
  refine ⟨by simp [h.1], fun j v v' x y => ?_⟩
  by_cases hj : j < n
  · rw [List.getElem?_take_of_lt hj] at x y; exact h.2 j v v' x y
  · rw [List.getElem?_take_eq_none (by omega)] at x; cases x
theorem LR.drop {μ : Mp} {a a' : List Value} (h : LR μ a a') (n : Nat) : LR μ (a.drop n) (a'.drop n) := by
  refine ⟨by simp [h.1], fun j v v' x y => ?_⟩
  rw [List.getElem?_drop] at x y
  exact h.2 _ v v' x y
theorem LR.of_plain {μ : Mp} {l : List Value} (h : ∀ v ∈ l, plainV v = true) : LR μ l l := by
  refine ⟨rfl, fun k v v' a b => ?_⟩
  rw [a] at b; cases b
  exact .plain (h v (List.mem_of_getElem? a))
theorem VR.agg_of {μ : Mp} {a a' : Array Value} (h : LR μ a.toList a'.toList) : VR μ (.agg a) (.agg a') :=
  .agg (by simpa using h.1) fun k v v' x y => h.2 k v v' (by simpa using x) (by simpa using y)
theorem VR.tuple_of {μ : Mp} {a a' : Array Value} (h : LR μ a.toList a'.toList) : VR μ (.tuple a) (.tuple a') :=
  .tuple (by simpa using h.1) fun k v v' x y => h.2 k v v' (by simpa using x) (by simpa using y)
theorem VR.func_of {μ : Mp} {fn : Fn} {f f' c c' : Array Value} (h : LR μ f.toList f'.toList) (k : LR μ c.toList c'.toList) : VR μ (.func fn f c) (.func fn f' c') :=
  .func (by simpa using h.1) (fun k v v' x y => h.2 k v v' (by simpa using x) (by simpa using y)) (by simpa using k.1) (fun j v v' x y => k.2 j v v' (by simpa using x) (by simpa using y))

theorem VR.undef {μ : Mp} : VR μ Go.undef Go.undef := VR.tuple_of LR.nil

/-! Inversions -/
section
variable {μ : Mp} {x : Value}
theorem VR.bool_inv {b : Bool} (h : VR μ (.bool b) x) : x = .bool b := by cases h; rfl
theorem VR.int_inv {k : IntKind} {n : Int} (h : VR μ (.int k n) x) : x = .int k n := by cases h; rfl
theorem VR.string_inv {s : ByteArray} (h : VR μ (.string s) x) : x = .string s := by cases h; rfl
theorem VR.agg_inv {a : Array Value} (h : VR μ (.agg a) x) : ∃ a', x = .agg a' ∧ LR μ a.toList a'.toList := by
  cases h with
  | plain h => simp [plainV] at h
  | agg h1 h2 => exact ⟨_, rfl, by simpa using h1, fun k v v' x y => h2 k v v' (by simpa using x) (by simpa using y)⟩
theorem VR.tuple_inv {a : Array Value} (h : VR μ (.tuple a) x) : ∃ a', x = .tuple a' ∧ LR μ a.toList a'.toList := by
  cases h with
  | plain h => simp [plainV] at h
  | tuple h1 h2 => exact ⟨_, rfl, by simpa using h1, fun k v v' x y => h2 k v v' (by simpa using x) (by simpa using y)⟩
theorem VR.func_inv {fn : Fn} {f c : Array Value} (h : VR μ (.func fn f c) x) : ∃ f' c', x = .func fn f' c' ∧ LR μ f.toList f'.toList ∧ LR μ c.toList c'.toList := by
  cases h with
  | plain h => simp [plainV] at h
  | func h1 h2 h3 h4 => exact ⟨_, _, rfl, ⟨by simpa using h1, fun k v v' x y => h2 k v v' (by simpa using x) (by simpa using y)⟩, ⟨by simpa using h3, fun k v v' x y => h4 k v v' (by simpa using x) (by simpa using y)⟩⟩
theorem VR.ptr_inv {i o : Nat} (h : VR μ (.pointer (some ⟨i, o, none⟩)) x) : ∃ b z e, μ i = some (b, z, e) ∧ x = .pointer (some ⟨b, z + o, none⟩) := by
  cases h with
  | plain h => simp [plainV] at h
  | ptr h => exact ⟨_, _, _, h, rfl⟩
theorem VR.slice_inv {i o n c : Nat} (h : VR μ (.slice (some ⟨i, o, none⟩) n c) x) : ∃ b z e, μ i = some (b, z, e) ∧ x = .slice (some ⟨b, z + o, none⟩) n c := by
  cases h with
  | plain h => simp [plainV] at h
  | slice h => exact ⟨_, _, _, h, rfl⟩
theorem VR.sliceU_inv {i o n c s : Nat} (h : VR μ (.slice (some ⟨i, o, some (s + 1)⟩) n c) x) :
    ∃ b z e c', μ i = some (b, z, e) ∧ n ≤ c ∧ c ≤ c' ∧ z + o + c' * (s + 1) ≤ e ∧ x = .slice (some ⟨b, z + o, none⟩) n c' := by
  cases h with
  | plain h => simp [plainV] at h
  | sliceU h a b c => exact ⟨_, _, _, _, h, a, b, c, rfl⟩
theorem VR.slice0_inv {i o n c : Nat} (h : VR μ (.slice (some ⟨i, o, some 0⟩) n c) x) : n = 0 ∧ c = 0 ∧ ∃ a c', x = .slice (some a) 0 c' := by
  cases h with
  | plain h => simp [plainV] at h
  | slice0 => exact ⟨rfl, rfl, _, _, rfl⟩
theorem VR.sliceN_inv {n c : Nat} (h : VR μ (.slice none n c) x) : n = 0 ∧ c = 0 ∧ x = .slice none 0 0 := by
  cases h with
  | plain h => simp [plainV] at h; obtain ⟨rfl, rfl⟩ := h; exact ⟨rfl, rfl, rfl⟩
theorem VR.map_inv {i : Nat} (h : VR μ (.map (some i)) x) : ∃ b e, μ i = some (b, 0, e) ∧ x = .map (some b) := by
  cases h with
  | plain h => simp [plainV] at h
  | map h => exact ⟨_, _, h, rfl⟩
theorem VR.mapN_inv (h : VR μ (.map none) x) : x = .map none := by cases h; rfl
theorem VR.ptrN_inv (h : VR μ (.pointer none) x) : x = .pointer none := by cases h; rfl
theorem VR.nilFunc_inv (h : VR μ .nilFunc x) : x = .nilFunc := by cases h; rfl
theorem VR.iface_inv {t : TypeId} {v : Value} (h : VR μ (.iface t v) x) : ∃ v', x = .iface t v' ∧ VR μ v v' := by
  cases h with
  | plain h => simp [plainV] at h
  | iface h => exact ⟨_, rfl, h⟩
end

/-- A value and the model's have as many cells, related place by place. -/
theorem VR.cells {μ : Mp} {v v' : Value} (h : VR μ v v') : LR μ v.cells.toList v'.cells.toList := by
  have one : ∀ {a b : Value}, VR μ a b → LR μ [a] [b] := fun h => LR.cons h LR.nil
  cases h with
  | agg h1 h2 => exact ⟨by simpa [Value.cells] using h1, fun k v v' x y => h2 k v v' (by simpa [Value.cells] using x) (by simpa [Value.cells] using y)⟩
  | plain h => cases v <;> first | exact one (.plain h) | (simp [plainV] at h)
  | ptr h => exact one (.ptr h)
  | slice h => exact one (.slice h)
  | sliceU h a b c => exact one (.sliceU h a b c)
  | slice0 => exact one .slice0
  | map h => exact one (.map h)
  | func h1 h2 h3 h4 => exact one (.func h1 h2 h3 h4)
  | tuple h1 h2 => exact one (.tuple h1 h2)
  | iface h => exact one (.iface h)

theorem VR.cellV {μ : Mp} {v v' : Value} (h : VR μ v v') : cellV v' = cellV v := by cases h <;> rfl
theorem cellV_one (v : Value) : Value.oneCell' v = cellV v := by cases v <;> rfl

/-! ### Objects -/
def AObj.wr : AObj → Bool
  | .cells _ live _ _ => live
  | .map _ => true
  | .str _ _ => true
  | .ghost _ => true
  | .dead => false

/-- The entries of a map. -/
def ER (μ : Mp) (es : List (Value × Value)) (ms : List MapEntry) : Prop :=
  es.length = ms.length ∧ ∀ (k : Nat) (x : Value × Value) (m : MapEntry), es[k]? = some x → ms[k]? = some m → m.key = x.1 ∧ VR μ x.2 m.val

/-- Stamps: none twice, all below the clock. -/
def Stamps (ms : List MapEntry) (cl : Nat) : Prop := (∀ m ∈ ms, m.born < cl) ∧ (ms.map (·.born)).Nodup

theorem Stamps.push {ms : List MapEntry} {cl : Nat} (h : Stamps ms cl) (k v : Value) : Stamps (ms ++ [{ key := k, val := v, born := cl }]) (cl + 1) := by
  refine ⟨fun m hm => ?_, ?_⟩
  · rcases List.mem_append.1 hm with h1 | h1
    · exact Nat.lt_succ_of_lt (h.1 m h1)
    · rw [List.mem_singleton.1 h1]; exact Nat.lt_succ_self _
  · rw [List.map_append]
    refine List.nodup_append.2 ⟨h.2, by simp, fun a ha b hb => ?_⟩
    obtain ⟨m, hm, rfl⟩ := List.mem_map.1 ha
    have := h.1 m hm
    simp at hb
    omega

theorem Stamps.of_map {ms ms' : List MapEntry} {cl : Nat} (h : Stamps ms cl) (e : (ms'.map (·.born)).Sublist (ms.map (·.born))) : Stamps ms' cl := by
  refine ⟨fun m hm => ?_, h.2.sublist e⟩
  obtain ⟨m0, h0, e0⟩ := List.mem_map.1 (e.subset (List.mem_map.2 ⟨m, hm, rfl⟩))
  have := h.1 m0 h0
  omega

def OR (μ : Mp) (ob : AObj) (b z e : Nat) (w : World) : Prop :=
  match ob with
  | .cells c live _ ty => ∃ (cs : Array Value) (el : TypeId) (fr : Nat × Nat), w.heap[b]? = some (.cells cs el fr) ∧ z + c.length ≤ e ∧ e ≤ cs.size ∧
      (∀ (k : Nat) (v : Value), c[k]? = some v → ∃ v', cs[z + k]? = some v' ∧ VR μ v v') ∧ (live = true → ∀ k, z ≤ k → k < e → ¬ (fr.1 ≤ k ∧ k < fr.2)) ∧ (∀ t, ty = some t → el = t ∧ z = 0)
  | .map es => z = 0 ∧ ∃ (ms : Array MapEntry) (cl : Nat), w.heap[b]? = some (.map ms cl) ∧ ER μ es ms.toList ∧ Stamps ms.toList cl
  | .str s pos => z = 0 ∧ w.heap[b]? = some (.stringIter s pos)
  | .ghost tag => ∃ es, Stands tag es ∧ z = 0 ∧ ∃ (ms : Array MapEntry) (cl : Nat), w.heap[b]? = some (.map ms cl) ∧ ER μ es ms.toList ∧ Stamps ms.toList cl
  | .dead => True

theorem ER.mono {μ μ' : Mp} (hs : Sub μ μ') {es : List (Value × Value)} {ms : List MapEntry} (h : ER μ es ms) : ER μ' es ms :=
  ⟨h.1, fun k x m a b => ⟨(h.2 k x m a b).1, (h.2 k x m a b).2.mono hs⟩⟩

theorem OR.mono {μ μ' : Mp} (hs : Sub μ μ') {ob : AObj} {b z e : Nat} {w : World} (h : OR μ ob b z e w) : OR μ' ob b z e w := by
  cases ob with
  | cells c live par ty =>
    obtain ⟨cs, el, fr, h1, h2, h3, h4, h5⟩ := h
    exact ⟨cs, el, fr, h1, h2, h3, fun k v hk => let ⟨v', a, b⟩ := h4 k v hk; ⟨v', a, b.mono hs⟩, h5⟩
  | map es => obtain ⟨h0, ms, cl, h1, h2, h3⟩ := h; exact ⟨h0, ms, cl, h1, h2.mono hs, h3⟩
  | str s pos => exact h
  | ghost tag => obtain ⟨es, hv, h0, ms, cl, h1, h2, h3⟩ := h; exact ⟨es, hv, h0, ms, cl, h1, h2.mono hs, h3⟩
  | dead => trivial

theorem OR.world {μ : Mp} {ob : AObj} {b z e : Nat} {w w' : World} (hw : w'.heap[b]? = w.heap[b]?) (h : OR μ ob b z e w) : OR μ ob b z e w' := by
  cases ob with
  | cells c live par ty => obtain ⟨cs, el, fr, h1, h2⟩ := h; exact ⟨cs, el, fr, hw.trans h1, h2⟩
  | map es => obtain ⟨h0, ms, cl, h1, h2⟩ := h; exact ⟨h0, ms, cl, hw.trans h1, h2⟩
  | str s pos => exact ⟨h.1, hw.trans h.2⟩
  | ghost tag => obtain ⟨es, hv, h0, ms, cl, h1, h2⟩ := h; exact ⟨es, hv, h0, ms, cl, hw.trans h1, h2⟩
  | dead => trivial

/-- Two objects that may lie in one block: one is gone; nobody writes; or the one that is written grew out of the other. -/
def share (x : AObj) (zi : Nat) (y : AObj) (zj j : Nat) : Prop :=
  match x, y with
  | .dead, _ => True
  | .cells c true par _, .cells c' false _ _ => j ∈ par ∧ zj + c'.length ≤ zi + c.length
  | _, _ => False

def okShare (x : AObj) (i zi : Nat) (y : AObj) (j zj : Nat) : Prop :=
  share x zi y zj j ∨ share y zj x zi i ∨ (x.wr = false ∧ y.wr = false)

/-- The laid tables stand in their variables, and nobody writes there. -/
def Laid (F : Nat → Prop) (w : World) : Prop := ∀ g l, (g, l) ∈ tabs → F g ∧ ∀ j, j < l.length → w.cell? ⟨g, j, none⟩ = some (.int .u8 ((l.getD j 0 : Nat) : Int))

structure HR (F : Nat → Prop) (w0 : World) (μ : Mp) (h : AH) (w : World) : Prop where
  dom : ∀ i p, μ i = some p → i < h.next
  obj : ∀ i b z e, μ i = some (b, z, e) → OR μ (h.get i) b z e w
  own : ∀ i b z e, μ i = some (b, z, e) → (h.get i).wr = true → ¬ F b
  sep : ∀ i j b zi ei zj ej, i ≠ j → μ i = some (b, zi, ei) → μ j = some (b, zj, ej) → okShare (h.get i) i zi (h.get j) j zj
  par : ∀ i c l p ty, μ i ≠ none → h.get i = .cells c l p ty → ∀ j, j ∈ p → μ j ≠ none
  os : w.os = w0.os
  tape : w.tape = w0.tape
  output : w.output = w0.output
  size : w0.heap.size ≤ w.heap.size
  fr : ∀ b, F b → b < w0.heap.size ∧ w.heap[b]? = w0.heap[b]?
  tab : Laid F w0

theorem Laid.keep {F G : Nat → Prop} {w w' : World} (L : Laid F w) (hG : ∀ b, F b → G b) (hw : ∀ b, F b → w'.heap[b]? = w.heap[b]?) : Laid G w' := fun g l hm => by
  obtain ⟨h1, h2⟩ := L g l hm
  refine ⟨hG g h1, fun j hj => ?_⟩
  have := h2 j hj
  unfold World.cell? at this ⊢
  rw [hw g h1]
  exact this
theorem HR.laidIn {F : Nat → Prop} {w0 : World} {μ : Mp} {h : AH} {w : World} (H : HR F w0 μ h w) {G : Nat → Prop} (hG : ∀ b, F b → G b) : Laid G w :=
  H.tab.keep hG fun b hb => (H.fr b hb).2
theorem HR.laidNow {F : Nat → Prop} {w0 : World} {μ : Mp} {h : AH} {w : World} (H : HR F w0 μ h w) : Laid (fun b => b < w.heap.size) w :=
  H.laidIn fun b hb => Nat.lt_of_lt_of_le (H.fr b hb).1 H.size

/-- What a step does to the map and to what is not yet born. -/
structure Ext (μ μ' : Mp) (h h' : AH) : Prop where
  sub : Sub μ μ'
  next : h.next ≤ h'.next
  unborn : ∀ i, i < h.next → μ i = none → μ' i = none ∧ h'.get i = h.get i

theorem Ext.refl (μ : Mp) (h : AH) : Ext μ μ h h := ⟨Sub.refl μ, Nat.le_refl _, fun _ _ h => ⟨h, rfl⟩⟩
theorem Ext.trans {a b c : Mp} {x y z : AH} (h : Ext a b x y) (k : Ext b c y z) : Ext a c x z :=
  ⟨h.sub.trans k.sub, Nat.le_trans h.next k.next, fun i hi hn =>
    let ⟨h1, h2⟩ := h.unborn i hi hn
    let ⟨k1, k2⟩ := k.unborn i (Nat.lt_of_lt_of_le hi h.next) h1
    ⟨k1, k2.trans h2⟩⟩

theorem HR.congr {F : Nat → Prop} {w0 : World} {μ : Mp} {h : AH} {w w' : World} (H : HR F w0 μ h w) (hh : w'.heap = w.heap) (ho : w'.os = w.os) (ht : w'.tape = w.tape) (hp : w'.output = w.output) : HR F w0 μ h w' where
  dom := H.dom
  obj := fun i b z e hi => (H.obj i b z e hi).world (by rw [hh])
  own := H.own
  sep := H.sep
  par := H.par
  os := ho.trans H.os
  tape := ht.trans H.tape
  output := hp.trans H.output
  size := by rw [hh]; exact H.size
  fr := fun b hb => by rw [hh]; exact H.fr b hb
  tab := H.tab

/-- A mapped object that is not gone lies in a block of the world. -/
theorem HR.inb {F : Nat → Prop} {w0 : World} {μ : Mp} {h : AH} {w : World} (H : HR F w0 μ h w) {i b z e : Nat} (hi : μ i = some (b, z, e)) (hd : h.get i ≠ .dead) : b < w.heap.size := by
  have := H.obj i b z e hi
  rcases ho : h.get i with ⟨c, live, par, ty⟩ | es | ⟨s, pos⟩ | tag | _
  · rw [ho] at this; obtain ⟨cs, el, fr, h1, _⟩ := this; exact (Array.getElem?_eq_some_iff.1 h1).1
  · rw [ho] at this; obtain ⟨_, ms, cl, h1, _⟩ := this; exact (Array.getElem?_eq_some_iff.1 h1).1
  · rw [ho] at this; exact (Array.getElem?_eq_some_iff.1 this.2).1
  · rw [ho] at this; obtain ⟨_, _, _, ms, cl, h1, _⟩ := this; exact (Array.getElem?_eq_some_iff.1 h1).1
  · exact absurd ho hd

def Mp.add (μ : Mp) (i : Nat) (p : Nat × Nat × Nat) : Mp := fun j => if j = i then some p else μ j
theorem Mp.add_sub {μ : Mp} {i : Nat} {p : Nat × Nat × Nat} (h : μ i = none) : Sub μ (μ.add i p) := fun j q hj => by
  unfold Mp.add
  split
  · rename_i e; subst e; rw [h] at hj; cases hj
  · exact hj

theorem HR.none_next {F : Nat → Prop} {w0 : World} {μ : Mp} {h : AH} {w : World} (H : HR F w0 μ h w) {i : Nat} (hi : h.next ≤ i) : μ i = none := by
  cases hm : μ i with
  | none => rfl
  | some p => have := H.dom i p hm; omega

/-- A new block of the model for an object that is not born yet. -/
theorem HR.born {F : Nat → Prop} {w0 : World} {μ : Mp} {h : AH} {w : World} (H : HR F w0 μ h w) (i : Nat) (hi : i < h.next) (hn : μ i = none) (o : Obj) (e : Nat)
    (hpar : ∀ c l p ty, h.get i = .cells c l p ty → ∀ j, j ∈ p → (μ.add i (w.heap.size, 0, e)) j ≠ none)
    (ho : OR (μ.add i (w.heap.size, 0, e)) (h.get i) w.heap.size 0 e (w.alloc o)) : HR F w0 (μ.add i (w.heap.size, 0, e)) h (w.alloc o) where
  dom := fun j p hj => by
    unfold Mp.add at hj
    split at hj
    · rename_i e; subst e; exact hi
    · exact H.dom j p hj
  obj := fun j b z e' hj => by
    unfold Mp.add at hj
    split at hj
    · rename_i ej; subst ej; cases hj; exact ho
    · have := (H.obj j b z e' hj).mono (Mp.add_sub (p := (w.heap.size, 0, e)) hn)
      by_cases hd : h.get j = .dead
      · rw [hd]; trivial
      · exact this.world (Below.heap_alloc w o b (H.inb hj hd))
  own := fun j b z e' hj hw => by
    unfold Mp.add at hj
    split at hj
    · cases hj; intro hF; have := (H.fr _ hF).1; have := H.size; omega
    · exact H.own j b z e' hj hw
  sep := fun j k b zj ej zk ek hne hj hk => by
    unfold Mp.add at hj hk
    split at hj
    · rename_i e1; subst e1; cases hj
      split at hk
      · rename_i e2; exact absurd e2.symm hne
      · by_cases hd : h.get k = .dead
        · exact .inr (.inl (by rw [hd]; trivial))
        · have := H.inb hk hd; omega
    · split at hk
      · rename_i e2; subst e2; cases hk
        by_cases hd : h.get j = .dead
        · exact .inl (by rw [hd]; trivial)
        · have := H.inb hj hd; omega
      · exact H.sep j k b zj ej zk ek hne hj hk
  par := fun j c l p ty hj hg k hk => by
    by_cases e1 : j = i
    · subst e1; exact hpar c l p ty hg k hk
    · unfold Mp.add at hj ⊢
      rw [if_neg e1] at hj
      split
      · simp
      · exact H.par j c l p ty hj hg k hk
  os := H.os
  tape := H.tape
  output := H.output
  size := by have := H.size; simp; omega
  fr := fun b hb => ⟨(H.fr b hb).1, by rw [Below.heap_alloc w o b (by have := (H.fr b hb).1; have := H.size; omega)]; exact (H.fr b hb).2⟩
  tab := H.tab

/-- An object that is laid into the abstract heap and is not born yet. -/
theorem HR.laid {F : Nat → Prop} {w0 : World} {μ : Mp} {h : AH} {w : World} (H : HR F w0 μ h w) (o : AObj) : HR F w0 μ (h.new o).2 w where
  dom := fun j p hj => by have := H.dom j p hj; simp; omega
  obj := fun j b z e hj => by rw [AH.get_new, if_neg (by have := H.dom j _ hj; omega)]; exact H.obj j b z e hj
  own := fun j b z e hj => by rw [AH.get_new, if_neg (by have := H.dom j _ hj; omega)]; exact H.own j b z e hj
  sep := fun j k b zj ej zk ek hne hj hk => by
    rw [AH.get_new, AH.get_new, if_neg (by have := H.dom j _ hj; omega), if_neg (by have := H.dom k _ hk; omega)]; exact H.sep j k b zj ej zk ek hne hj hk
  par := fun j c l p ty hj hg => by
    rw [AH.get_new, if_neg (by cases hm : μ j with | none => exact absurd hm hj | some q => have := H.dom j q hm; omega)] at hg
    exact H.par j c l p ty hj hg
  os := H.os
  tape := H.tape
  output := H.output
  size := H.size
  fr := H.fr
  tab := H.tab

theorem Ext.laid (μ : Mp) (h : AH) (o : AObj) : Ext μ μ h (h.new o).2 :=
  ⟨Sub.refl μ, by simp, fun i hi hn => ⟨hn, by rw [AH.get_new, if_neg (by omega)]⟩⟩
theorem Ext.born {μ : Mp} {h h' : AH} {i : Nat} {p : Nat × Nat × Nat} (E : Ext μ μ h h') (hi : h.next ≤ i) (hn : μ i = none) : Ext μ (μ.add i p) h h' :=
  ⟨Mp.add_sub hn, E.next, fun j hj hm => ⟨by unfold Mp.add; rw [if_neg (by omega)]; exact hm, (E.unborn j hj hm).2⟩⟩

/-- Both at once: a new object, and its block. -/
theorem HR.new {F : Nat → Prop} {w0 : World} {μ : Mp} {h : AH} {w : World} (H : HR F w0 μ h w) (ob : AObj) (o : Obj) (e : Nat)
    (hpar : ∀ c l p ty, ob = .cells c l p ty → ∀ j, j ∈ p → μ j ≠ none)
    (ho : OR (μ.add h.next (w.heap.size, 0, e)) ob w.heap.size 0 e (w.alloc o)) :
    HR F w0 (μ.add h.next (w.heap.size, 0, e)) (h.new ob).2 (w.alloc o) ∧ Ext μ (μ.add h.next (w.heap.size, 0, e)) h (h.new ob).2 := by
  have hn := H.none_next (Nat.le_refl h.next)
  exact ⟨(H.laid ob).born h.next (by simp) hn o e (fun c l p ty hg j hj => by
    rw [AH.get_new, if_pos rfl] at hg
    have := hpar c l p ty hg j hj
    unfold Mp.add; split <;> simp_all) (by rw [AH.get_new, if_pos rfl]; exact ho), (Ext.laid μ h ob).born (Nat.le_refl _) hn⟩

/-- One block of the world is another one now; nothing else has turned. -/
structure Wrote (w w' : World) (b : Nat) (o : Obj) : Prop where
  os : w'.os = w.os
  tape : w'.tape = w.tape
  output : w'.output = w.output
  size : w'.heap.size = w.heap.size
  at_ : w'.heap[b]? = some o
  other : ∀ k, k ≠ b → w'.heap[k]? = w.heap[k]?

theorem kill_get_cases (h : AH) (l : List Nat) (i j : Nat) (o : AObj) :
    ((h.kill l).put i o).get j = if j = i then o else if j ∈ l then .dead else h.get j := by
  rw [AH.get_put, AH.get_kill]

/-- A write into an object that is written: those it grew out of are gone. -/
theorem HR.wrote {F : Nat → Prop} {w0 : World} {μ : Mp} {h : AH} {w w' : World} (H : HR F w0 μ h w) {i b z e : Nat} (hi : μ i = some (b, z, e)) {o : Obj} (W : Wrote w w' b o)
    (hw : (h.get i).wr = true) (par : List Nat) (hp : ∀ c live p ty, h.get i = .cells c live p ty → p = par)
    (ob : AObj) (hpo : ∀ c l p ty, ob = .cells c l p ty → ∀ j, j ∈ p → μ j ≠ none) (hob : OR μ ob b z e w') : HR F w0 μ ((h.kill par).put i ob) w' := by
  -- whoever shares the block is gone behind the step
  have gone : ∀ j zj ej, j ≠ i → μ j = some (b, zj, ej) → ((h.kill par).put i ob).get j = .dead := by
    intro j zj ej hne hj
    rw [kill_get_cases, if_neg hne]
    split
    · rfl
    · rename_i hmem
      rcases H.sep i j b z e zj ej (Ne.symm hne) hi hj with hs | hs | hs
      · rcases ho : h.get i with ⟨c, live, p, ty⟩ | es | ⟨s, pos⟩ | tag | _
        · rw [ho] at hs
          rcases hoj : h.get j with ⟨c', live', p', ty'⟩ | es' | ⟨s', pos'⟩ | tag' | _
          · rw [hoj] at hs
            cases live <;> cases live' <;> simp [share] at hs
            have := hp c true p ty ho
            subst this
            exact absurd hs.1 hmem
          · rw [hoj] at hs; cases live <;> simp [share] at hs
          · rw [hoj] at hs; cases live <;> simp [share] at hs
          · rw [hoj] at hs; cases live <;> simp [share] at hs
          · rfl
        · rw [ho] at hs; cases hoj : h.get j <;> rw [hoj] at hs <;> simp [share] at hs ⊢
        · rw [ho] at hs; cases hoj : h.get j <;> rw [hoj] at hs <;> simp [share] at hs ⊢
        · rw [ho] at hs; cases hoj : h.get j <;> rw [hoj] at hs <;> simp [share] at hs ⊢
        · rw [ho] at hw; simp [AObj.wr] at hw
      · rcases hoj : h.get j with ⟨c', live', p', ty'⟩ | es' | ⟨s', pos'⟩ | tag' | _
        · rw [hoj] at hs
          rcases ho : h.get i with ⟨c, live, p, ty⟩ | es | ⟨s, pos⟩ | tag | _
          · rw [ho] at hs hw; cases live <;> cases live' <;> simp [share, AObj.wr] at hs hw
          · rw [ho] at hs; cases live' <;> simp [share] at hs
          · rw [ho] at hs; cases live' <;> simp [share] at hs
          · rw [ho] at hs; cases live' <;> simp [share] at hs
          · rw [ho] at hw; simp [AObj.wr] at hw
        · rw [hoj] at hs; cases ho : h.get i <;> rw [ho] at hs <;> simp [share] at hs
        · rw [hoj] at hs; cases ho : h.get i <;> rw [ho] at hs <;> simp [share] at hs
        · rw [hoj] at hs; cases ho : h.get i <;> rw [ho] at hs <;> simp [share] at hs
        · rfl
      · rw [hs.1] at hw; cases hw
  have hFb : ¬ F b := H.own i b z e hi hw
  refine ⟨fun j p hj => ?_, fun j b' z' e' hj => ?_, fun j b' z' e' hj hjw => ?_, fun j k b' zj ej zk ek hne hj hk => ?_, fun j c l p ty hj hg k hk => ?_, W.os.trans H.os, W.tape.trans H.tape, W.output.trans H.output, ?_, fun c hc => ?_, H.tab⟩
  · simpa using H.dom j p hj
  · by_cases e1 : j = i
    · subst e1
      rw [hi] at hj; cases hj
      rw [kill_get_cases, if_pos rfl]; exact hob
    · by_cases e2 : b' = b
      · subst e2; rw [gone j z' e' e1 hj]; trivial
      · rw [kill_get_cases, if_neg e1]
        split
        · trivial
        · exact (H.obj j b' z' e' hj).world (W.other b' e2)
  · by_cases e1 : j = i
    · subst e1; rw [hi] at hj; cases hj; exact hFb
    · rw [kill_get_cases, if_neg e1] at hjw
      split at hjw
      · simp [AObj.wr] at hjw
      · exact H.own j b' z' e' hj hjw
  · by_cases e1 : j = i
    · subst e1
      rw [hi] at hj; cases hj
      exact .inr (.inl (by rw [gone k zk ek (Ne.symm hne) hk]; trivial))
    · by_cases e2 : k = i
      · subst e2
        rw [hi] at hk; cases hk
        exact .inl (by rw [gone j zj ej e1 hj]; trivial)
      · rw [kill_get_cases, kill_get_cases, if_neg e1, if_neg e2]
        by_cases m1 : j ∈ par
        · exact .inl (by rw [if_pos m1]; trivial)
        · by_cases m2 : k ∈ par
          · exact .inr (.inl (by rw [if_pos m2]; trivial))
          · rw [if_neg m1, if_neg m2]; exact H.sep j k b' zj ej zk ek hne hj hk
  · by_cases e1 : j = i
    · subst e1
      rw [kill_get_cases, if_pos rfl] at hg
      exact hpo c l p ty hg k hk
    · rw [kill_get_cases, if_neg e1] at hg
      split at hg
      · cases hg
      · exact H.par j c l p ty hj hg k hk
  · rw [W.size]; exact H.size
  · refine ⟨(H.fr c hc).1, ?_⟩
    rw [W.other c (fun e => hFb (e ▸ hc))]
    exact (H.fr c hc).2

theorem Ext.wrote {F : Nat → Prop} {w0 : World} {μ : Mp} {h : AH} {w : World} (H : HR F w0 μ h w) {i : Nat} {p : Nat × Nat × Nat} (hi : μ i = some p) (par : List Nat) (ob : AObj)
    (hpar : ∀ j, j ∈ par → μ j ≠ none) : Ext μ μ h ((h.kill par).put i ob) := by
  refine ⟨Sub.refl μ, by simp, fun j hj hn => ⟨hn, ?_⟩⟩
  rw [kill_get_cases, if_neg (fun e => by subst e; rw [hi] at hn; cases hn)]
  rw [if_neg (fun hm => hpar j hm hn)]

end Go.R
