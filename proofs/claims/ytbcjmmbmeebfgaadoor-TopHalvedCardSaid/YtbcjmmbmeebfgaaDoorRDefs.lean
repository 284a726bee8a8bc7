/- The abstract machine: a deterministic evaluator of the model's code over a heap of its own (places numbered from 0), its answers to be lifted to the model's calls. -/
import GoSem.Step
import Derived.Calls
import Derived.Deep.AppendSrc
import Derived.Laws.Tables
import GoSem.ClaimKeys
import GoSem.ClaimWide
namespace Go.R
set_option linter.unusedVariables false
set_option linter.unusedSimpArgs false
open Go

/-! ### A map from numbers, as a tree -/
inductive T (α : Type) where
  | nil
  | node (l : T α) (v : Option α) (r : T α)

noncomputable section

def T.get {α : Type} (t : T α) : Nat → Option α :=
  T.rec (motive := fun _ => Nat → Option α) (fun _ => none)
    (fun _ v _ gl gr k => Nat.rec (motive := fun _ => Option α) v (fun j _ => Bool.rec (motive := fun _ => Option α) (gr (Nat.div j (nat_lit 2))) (gl (Nat.div j (nat_lit 2))) (Nat.beq (Nat.mod j (nat_lit 2)) (nat_lit 0))) k) t

def T.setF {α : Type} (f : Nat) : T α → Nat → α → T α :=
  Nat.rec (motive := fun _ => T α → Nat → α → T α) (fun t _ _ => t)
    (fun _ ih t k x => T.rec (motive := fun _ => T α)
      (Nat.rec (motive := fun _ => T α) (.node .nil (some x) .nil)
        (fun j _ => Bool.rec (motive := fun _ => T α) (.node .nil none (ih .nil (Nat.div j (nat_lit 2)) x)) (.node (ih .nil (Nat.div j (nat_lit 2)) x) none .nil) (Nat.beq (Nat.mod j (nat_lit 2)) (nat_lit 0))) k)
      (fun l v r _ _ => Nat.rec (motive := fun _ => T α) (.node l (some x) r)
        (fun j _ => Bool.rec (motive := fun _ => T α) (.node l v (ih r (Nat.div j (nat_lit 2)) x)) (.node (ih l (Nat.div j (nat_lit 2)) x) v r) (Nat.beq (Nat.mod j (nat_lit 2)) (nat_lit 0))) k) t) f

def T.set {α : Type} (t : T α) (k : Nat) (x : α) : T α := T.setF (Nat.succ k) t k x

section
variable {α : Type}
theorem bit_if {β : Sort _} (k : Nat) (a b : β) : (Bool.rec (motive := fun _ => β) b a (Nat.beq (Nat.mod k (nat_lit 2)) (nat_lit 0))) = if k % 2 = 0 then a else b := by
  by_cases h : k % 2 = 0
  · rw [if_pos h]
    have : Nat.beq (Nat.mod k 2) 0 = true := by show Nat.beq (k % 2) 0 = true; rw [h]; rfl
    exact this ▸ rfl
  · rw [if_neg h]
    have : Nat.beq (Nat.mod k 2) 0 = false := by
      show Nat.beq (k % 2) 0 = false
      cases hq : Nat.beq (k % 2) 0 with
      | false => rfl
      | true => exact absurd (Nat.eq_of_beq_eq_true hq) h
    exact this ▸ rfl
theorem T.gN (k : Nat) : (T.nil : T α).get k = none := rfl
theorem T.gZ (l : T α) (v : Option α) (r : T α) : (T.node l v r).get 0 = v := rfl
theorem T.gS (l : T α) (v : Option α) (r : T α) (k : Nat) : (T.node l v r).get (k + 1) = if k % 2 = 0 then l.get (k / 2) else r.get (k / 2) := bit_if k _ _
theorem T.sNZ (f : Nat) (x : α) : T.setF (f + 1) .nil 0 x = .node .nil (some x) .nil := rfl
theorem T.sZ (f : Nat) (l : T α) (v : Option α) (r : T α) (x : α) : T.setF (f + 1) (.node l v r) 0 x = .node l (some x) r := rfl
theorem T.sNS (f k : Nat) (x : α) : T.setF (f + 1) .nil (k + 1) x = if k % 2 = 0 then .node (T.setF f .nil (k / 2) x) none .nil else .node .nil none (T.setF f .nil (k / 2) x) := bit_if k _ _
theorem T.sS (f k : Nat) (l : T α) (v : Option α) (r : T α) (x : α) : T.setF (f + 1) (.node l v r) (k + 1) x = if k % 2 = 0 then .node (T.setF f l (k / 2) x) v r else .node l v (T.setF f r (k / 2) x) := bit_if k _ _
end

/-! ### The heap -/
inductive AObj where
  | cells (c : List Value) (live : Bool) (par : List Nat) (ty : Option TypeId)
  | map (es : List (Value × Value))
  | str (s : ByteArray) (pos : Nat)
  | ghost (tag : Nat)
  | dead

structure AH where
  t : T AObj
  next : Nat

def AH.get (h : AH) (i : Nat) : AObj := (h.t.get i).getD .dead
def AH.put (h : AH) (i : Nat) (o : AObj) : AH := { h with t := h.t.set i o }
def AH.new (h : AH) (o : AObj) : Nat × AH := (h.next, { t := h.t.set h.next o, next := h.next + 1 })

def AH.kill : AH → List Nat → AH
  | h, [] => h
  | h, i :: l => (h.put i .dead).kill l

/-! ### Reading and writing rows of cells -/
def splice (c : List Value) (o : Nat) (vs : List Value) : List Value := c.take o ++ vs ++ c.drop (o + vs.length)

def rowAt? (h : AH) (i o n : Nat) : Option (List Value) :=
  match h.get i with
  | .cells c _ _ _ => if o + n ≤ c.length then some ((c.drop o).take n) else none
  | _ => none

def putRow? (h : AH) (i o : Nat) (vs : List Value) : Option AH :=
  match h.get i with
  | .cells c true par ty => if o + vs.length ≤ c.length then some ((h.kill par).put i (.cells (splice c o vs) true [] ty)) else none
  | _ => none

def plainV : Value → Bool
  | .bool _ | .int _ _ | .string _ | .pointer none | .nilFunc | .nilIface | .map none => true
  | .slice none n c => n == 0 && c == 0
  | _ => false

/-- No tuple, no aggregate: what may stand in a cell. -/
def cellV : Value → Bool
  | .agg _ | .tuple _ => false
  | _ => true

abbrev Out := Option (Value × AH)

def isAggD : TypeDesc → Bool
  | .struct _ => true
  | .array _ _ => true
  | _ => false

def loadA (P : Program) (t : TypeId) (i o : Nat) (h : AH) : Option Value :=
  match P.info? t, P.underlying t with
  | some info, some d =>
    if isAggD d then (rowAt? h i o info.size).map fun l => .agg l.toArray
    else match rowAt? h i o 1 with
      | some [v] => some v
      | _ => none
  | _, _ => none

def storeA (P : Program) (t : TypeId) (i o : Nat) (v : Value) (h : AH) : Option AH :=
  match P.info? t with
  | none => none
  | some info => if v.cells.size = info.size && v.cells.toList.all cellV then putRow? h i o v.cells.toList else none

def newRowA (e : TypeId) (c : List Value) (h : AH) : Option (Value × AH) :=
  let r := h.new (.cells c true [] (some e))
  some (.pointer (some ⟨r.1, 0, none⟩), r.2)

/-! ### Operations -/
def evalA (tm : T Value) : Operand → Option Value
  | .tmp t => tm.get t
  | .const v => if plainV v then some v else none
  | .global _ => none
  | .func f => some (.func (.func f) #[] #[])

def bytesLt (a b : ByteArray) : Bool := Op.bytesLess a.toList b.toList

/-- Wrapping, quick where nothing wraps. -/
def wrapF (k : IntKind) (n : Int) : Int :=
  match k, n with
  | .i64, .ofNat m => cond (Nat.blt m 9223372036854775808) (.ofNat m) (k.wrap n)
  | _, _ => k.wrap n

theorem wrapF_eq (k : IntKind) (n : Int) : wrapF k n = k.wrap n := by
  unfold wrapF
  split
  · rename_i m
    cases h : Nat.blt m 9223372036854775808 with
    | false => rfl
    | true =>
      have hm : m < 9223372036854775808 := by simpa [Nat.blt_eq] using h
      show (m : Int) = IntKind.wrap .i64 (m : Int)
      simp only [IntKind.wrap, IntKind.signed, IntKind.bits]
      have e1 : ((m : Int) % 2 ^ 64) = m := by omega
      simp only [e1]
      rw [if_neg]
      simp
      omega
  · rfl

def eqF (a b : Int) : Bool :=
  match a, b with
  | .ofNat m, .ofNat n => Nat.beq m n
  | .negSucc m, .negSucc n => Nat.beq m n
  | _, _ => false
def ltF (a b : Int) : Bool :=
  match a, b with
  | .ofNat m, .ofNat n => Nat.blt m n
  | .negSucc m, .negSucc n => Nat.blt n m
  | .negSucc _, .ofNat _ => true
  | .ofNat _, .negSucc _ => false
def leF (a b : Int) : Bool :=
  match a, b with
  | .ofNat m, .ofNat n => Nat.ble m n
  | .negSucc m, .negSucc n => Nat.ble n m
  | .negSucc _, .ofNat _ => true
  | .ofNat _, .negSucc _ => false

theorem eqF_eq (a b : Int) : eqF a b = (a == b) := by
  have h : ∀ m n : Nat, Nat.beq m n = decide (m = n) := fun m n => by
    rw [Bool.eq_iff_iff, Nat.beq_eq, decide_eq_true_iff]
  rw [Bool.eq_iff_iff, beq_iff_eq]
  cases a <;> cases b <;> simp [eqF, h] <;> omega
theorem ltF_eq (a b : Int) : ltF a b = decide (a < b) := by
  rw [Bool.eq_iff_iff, decide_eq_true_iff]
  cases a <;> cases b <;> simp [ltF, Nat.blt_eq] <;> omega
theorem leF_eq (a b : Int) : leF a b = decide (a ≤ b) := by
  rw [Bool.eq_iff_iff, decide_eq_true_iff]
  cases a <;> cases b <;> simp [leF, Nat.ble_eq] <;> omega

def intBin (op : BinOp) (k : IntKind) (a b : Int) : Option Value :=
  match op with
  | .add => some (.int k (wrapF k (a + b)))
  | .sub => some (.int k (wrapF k (a - b)))
  | .mul => some (.int k (wrapF k (a * b)))
  | .quo => if b = 0 then none else some (.int k (wrapF k (a.tdiv b)))
  | .rem => if b = 0 then none else some (.int k (a.tmod b))
  | .and => some (.int k (wrapF k (BitVec.ofInt k.bits a &&& BitVec.ofInt k.bits b).toNat))
  | .or => some (.int k (wrapF k (BitVec.ofInt k.bits a ||| BitVec.ofInt k.bits b).toNat))
  | .xor => some (.int k (wrapF k (BitVec.ofInt k.bits a ^^^ BitVec.ofInt k.bits b).toNat))
  | .andNot => some (.int k (wrapF k (BitVec.ofInt k.bits a &&& ~~~(BitVec.ofInt k.bits b)).toNat))
  | .eql => some (.bool (eqF a b))
  | .neq => some (.bool (!(eqF a b)))
  | .lss => some (.bool (ltF a b))
  | .leq => some (.bool (leF a b))
  | .gtr => some (.bool (ltF b a))
  | .geq => some (.bool (leF b a))
  | _ => none

def shiftA (op : BinOp) (k : IntKind) (a b : Int) : Option Value :=
  if b < 0 then none else
  let n := min b.toNat k.bits
  match op with
  | .shl => some (.int k (k.wrap (a * 2 ^ n)))
  | .shr => some (.int k (a.fdiv (2 ^ n)))
  | _ => none

def strBin (op : BinOp) (x y : ByteArray) : Option Value :=
  match op with
  | .add => if ((x.size + y.size : Nat) : Int) > IntKind.i64.max then none else some (.string (x ++ y))
  | .eql => some (.bool (x.toList == y.toList))
  | .neq => some (.bool (!(x.toList == y.toList)))
  | .lss => some (.bool (bytesLt x y))
  | .leq => some (.bool (bytesLt x y || x.toList == y.toList))
  | .gtr => some (.bool (!(bytesLt x y || x.toList == y.toList)))
  | .geq => some (.bool (!(bytesLt x y)))
  | _ => none

/-- Equality of two values that hold no pointer but plain numbers, bools, strings. -/
def flatEq : Value → Value → Option Bool
  | .int k a, .int k' b => if k = k' then some (a == b) else none
  | .bool a, .bool b => some (a == b)
  | .string a, .string b => some (a == b)
  | _, _ => none

def listEq : List Value → List Value → Option Bool
  | [], [] => some true
  | x :: xs, y :: ys => match flatEq x y, listEq xs ys with
    | some a, some b => some (a && b)
    | _, _ => none
  | _, _ => none

def eqA (P : Program) (d : Option TypeDesc) (x y : Value) : Option Bool :=
  match d, x, y with
  | some (.pointer e), .pointer (some ⟨i, o, none⟩), .pointer (some ⟨j, q, none⟩) => if i = j && (P.info? e).isSome && P.cellsOf e ≠ 0 then some (o == q) else none
  | some .bool, .bool a, .bool b => some (a == b)
  | some (.slice _), .slice none _ _, .slice b _ _ => some b.isNone
  | some (.slice _), .slice (some _) _ _, .slice none _ _ => some false
  | some (.map _ _), .map none, .map b => some b.isNone
  | some (.map _ _), .map (some _), .map none => some false
  | some (.pointer _), .pointer none, .pointer b => some b.isNone
  | some (.pointer _), .pointer (some _), .pointer none => some false
  | some (.func _ _ _), .nilFunc, .nilFunc => some true
  | some (.func _ _ _), .nilFunc, .func _ _ _ => some false
  | some (.func _ _ _), .func _ _ _, .nilFunc => some false
  | _, _, _ => none

def litQ : Lit → Lit → Option Bool
  | .bool a, .bool b => some (a == b)
  | .int k a, .int k' b => some (decide (k = k') && eqF a b)
  | .string a, .string b => some (a == b)
  | .bool _, .int _ _ => some false
  | .int _ _, .bool _ => some false
  | .bool _, .string _ => some false
  | .string _, .bool _ => some false
  | .int _ _, .string _ => some false
  | .string _, .int _ _ => some false
  | _, _ => none
def litsQ : List Lit → List Lit → Option Bool
  | [], [] => some true
  | a :: l, b :: m => match litQ a b, litsQ l m with
    | some x, some y => some (x && y)
    | _, _ => none
  | [], _ :: _ => some false
  | _ :: _, [] => some false
theorem litQ_iff {a b : Lit} {r : Bool} (h : litQ a b = some r) : r = true ↔ a = b := by
  unfold litQ at h
  split at h <;> first | cases h | skip
  · simp
  · rename_i k a k' b
    rw [Bool.and_eq_true, decide_eq_true_iff, eqF_eq, beq_iff_eq]
    exact ⟨fun ⟨e1, e2⟩ => by rw [e1, e2], fun e => by cases e; exact ⟨rfl, rfl⟩⟩
  · simp
  all_goals (constructor <;> intro e <;> cases e)
theorem litsQ_iff : ∀ {l m : List Lit} {r : Bool}, litsQ l m = some r → (r = true ↔ l = m)
  | [], [], r, h => by cases h; simp
  | a :: l, b :: m, r, h => by
    rw [litsQ] at h
    split at h
    · rename_i x y hx hy
      cases h
      rw [Bool.and_eq_true, litQ_iff hx, litsQ_iff hy, List.cons.injEq]
    · cases h
  | [], _ :: _, r, h => by cases h; simp
  | _ :: _, [], r, h => by cases h; simp

/-- Equality of arrays and structs of numbers, bools and strings. -/
def aggEq (P : Program) (t : TypeId) (xs ys : Array Value) : Option Bool :=
  if xs.toList.all plainV && ys.toList.all plainV && !(P.eqGuardType P.depth t) && P.keyTypeAt 12 t && (Value.agg xs).formed P t && (Value.agg ys).formed P t then
    match P.keyLits 12 t xs.toList, P.keyLits 12 t ys.toList with
    | some a, some b => litsQ a b
    | _, _ => none
  else none

def binA (P : Program) (op : BinOp) (t : TypeId) (x y : Value) : Option Value :=
  match x, y with
  | .int k a, .int k' b =>
    match op with
    | .shl | .shr => shiftA op k a b
    | _ => if k = k' then intBin op k a b else none
  | .string a, .string b => strBin op a b
  | .agg xs, .agg ys =>
    match op with
    | .eql => (aggEq P t xs ys).map .bool
    | .neq => (aggEq P t xs ys).map fun b => .bool (!b)
    | _ => none
  | x, y =>
    match op with
    | .eql => (eqA P (P.underlying t) x y).map .bool
    | .neq => (eqA P (P.underlying t) x y).map fun b => .bool (!b)
    | _ => none

def unA (op : UnOp) (x : Value) : Option Value :=
  match op, x with
  | .neg, .int k n => some (.int k (k.wrap (0 - n)))
  | .xor, .int k n => intBin .xor k (if k.signed then -1 else k.max) n
  | .not, .bool b => some (.bool !b)
  | _, _ => none

def boundA (v : Option Value) (dflt cap : Nat) : Option Nat :=
  match v with
  | none => some dflt
  | some (.int _ i) => if 0 ≤ i ∧ i ≤ (cap : Int) then some i.toNat else none
  | _ => none

def boundsA (len cap : Nat) (lo hi mx : Option Value) : Option (Nat × Nat × Nat) :=
  match hi, mx with
  | none, some _ => none
  | _, _ => match boundA mx cap cap with
    | none => none
    | some m => match boundA hi len m with
      | none => none
      | some h => match boundA lo 0 h with
        | none => none
        | some l => if h ≤ m then some (l, h, m) else none

def cutAt (a : Addr) (size l h m : Nat) : Value :=
  .slice (some (if m = l then ⟨a.block, a.off, none⟩ else ⟨a.block, a.off + l * size, none⟩)) (h - l) (m - l)

/-- Slicing. A slice's address bears in 'spot' what is known of its capacity: none: it is just what stands there; some (s + 1): at least what stands there, cells of s + 1; some 0: a slice without elements, of whatever address and capacity. -/
def sliceA (P : Program) (t : TypeId) (x : Value) (lo hi mx : Option Value) : Option Value :=
  match P.underlying t, x with
  | some .string, .string s =>
    match mx with
    | some _ => none
    | none => match boundsA s.size s.size lo hi none with
      | some (l, h, _) => some (.string (s.extract l h))
      | none => none
  | some (.slice e), .slice none _ _ =>
    if (P.info? e).isSome then
      match boundsA 0 0 lo hi mx with
      | some (l, h, m) => some (.slice none (h - l) (m - l))
      | none => none
    else none
  | some (.slice e), .slice (some a) n c =>
    match P.info? e with
    | none => none
    | some info =>
      match a.spot with
      | none => match boundsA n c lo hi mx with
        | some (l, h, m) => some (cutAt a info.size l h m)
        | none => none
      | some 0 =>
        match mx with
        | some _ => none
        | none => match boundsA 0 0 lo hi none with
          | some _ => some (.slice (some ⟨a.block, a.off, some 0⟩) 0 0)
          | none => none
      | some (s + 1) =>
        if s + 1 ≠ info.size then none else
        match boundsA n c lo hi mx with
        | none => none
        | some (l, h, m) =>
          match mx with
          | some _ => some (cutAt a info.size l h m)
          | none =>
            if l < c then some (.slice (some ⟨a.block, a.off + l * info.size, some (s + 1)⟩) (h - l) (c - l))
            else some (.slice (some ⟨a.block, a.off, some 0⟩) 0 0)
  | some (.array n e), .pointer (some ⟨i, o, none⟩) =>
    match P.info? e with
    | none => none
    | some info => match boundsA n n lo hi mx with
      | some (l, h, m) => some (cutAt ⟨i, o, none⟩ info.size l h m)
      | none => none
  | _, _ => none

def indexAddrA (P : Program) (t : TypeId) (x ix : Value) : Option Value :=
  match ix with
  | .int _ i =>
    match P.underlying t, x with
    | some (.array n e), .pointer (some ⟨j, o, none⟩) =>
      match P.info? e with
      | none => none
      | some info => if 0 ≤ i ∧ i < (n : Int) then some (.pointer (some ⟨j, o + i.toNat * info.size, none⟩)) else none
    | some (.slice e), .slice (some a) n _ =>
      match P.info? e with
      | none => none
      | some info => if 0 ≤ i ∧ i < (n : Int) then some (.pointer (some ⟨a.block, a.off + i.toNat * info.size, none⟩)) else none
    | _, _ => none
  | _ => none

def partA (P : Program) (t : TypeId) (cs : Array Value) (off : Nat) : Option Value :=
  match P.info? t, P.underlying t with
  | some info, some d =>
    if isAggD d then some (.agg (cs.extract off (off + info.size)))
    else cs[off]?
  | _, _ => none

def indexA (P : Program) (t : TypeId) (x ix : Value) : Option Value :=
  match ix with
  | .int _ i =>
    match P.underlying t, x with
    | some (.array n e), .agg cs =>
      match P.info? e with
      | none => none
      | some info => if 0 ≤ i ∧ i < (n : Int) then partA P e cs (i.toNat * info.size) else none
    | some .string, .string s =>
      if 0 ≤ i then (match s[i.toNat]? with
        | some b => some (.int .u8 b.toNat)
        | none => none) else none
    | _, _ => none
  | _ => none

def fieldAddrA (P : Program) (s : TypeId) (x : Value) (f : Nat) : Option Value :=
  match P.underlying s, x with
  | some (.struct fs), .pointer (some ⟨j, o, none⟩) =>
    match fs[f]? with
    | none => none
    | some fd => match P.info? fd.type with
      | none => none
      | some info => if info.size = 0 then none else some (.pointer (some ⟨j, o + fd.offset, none⟩))
  | _, _ => none

def fieldA (P : Program) (s : TypeId) (x : Value) (f : Nat) : Option Value :=
  match P.underlying s, x with
  | some (.struct fs), .agg cs =>
    match fs[f]? with
    | none => none
    | some fd => partA P fd.type cs fd.offset
  | _, _ => none

def okZero : Value → Bool
  | .agg c => c.toList.all fun v => plainV v
  | v => plainV v

def zeroOf (info : TypeInfo) : Option Value :=
  match info.zero with
  | some z => if okZero z then some z else none
  | none => none

def zeroA (P : Program) (t : TypeId) : Option Value :=
  match P.info? t with
  | some info => zeroOf info
  | none => none

def buildA (P : Program) (t : TypeId) (parts : List (Nat × Value)) : Option Value :=
  match zeroA P t with
  | none => none
  | some _ => (P.built t parts).map .agg

def repeatL (z : List Value) : Nat → List Value
  | 0 => []
  | n + 1 => z ++ repeatL z n

def buildSliceA (P : Program) (t : TypeId) (len : Nat) (parts : List (Nat × Value)) (h : AH) : Out :=
  match P.underlying t with
  | some (.slice e) =>
    match P.info? e with
    | none => none
    | some info =>
      match zeroOf info with
      | none => none
      | some z =>
        if info.size ≠ z.cells.size || info.size = 0 || len * info.size > 2 ^ 24 then none else
        match Instr.fill (fun i => some (i * info.size, info.size)) (repeatL z.cells.toList len).toArray parts with
        | none => none
        | some cells =>
          let r := h.new (.cells cells.toList true [] (some e))
          some (.slice (some ⟨r.1, 0, none⟩) len len, r.2)
  | _ => none

def makeSliceA (P : Program) (t : TypeId) (len cap : Value) (h : AH) : Out :=
  match P.underlying t, len, cap with
  | some (.slice e), .int _ l, .int _ c =>
    match P.info? e with
    | none => none
    | some info =>
      match zeroOf info with
      | none => none
      | some z =>
        if info.size ≠ z.cells.size || info.size = 0 then none else
        if 0 ≤ l ∧ l ≤ c ∧ c ≤ 1000000 ∧ info.bytes ≤ 1000000 then
          let r := h.new (.cells (repeatL z.cells.toList c.toNat) true [] (some e))
          some (.slice (some ⟨r.1, 0, none⟩) l.toNat c.toNat, r.2)
        else none
  | _, _, _ => none

/-- A key: a number, a string, a bool, or an array or struct of such. -/
def keyEq (a b : Value) : Option Bool :=
  match a, b with
  | .agg x, .agg y => if x.size = y.size then listEq x.toList y.toList else none
  | a, b => flatEq a b

def lookA (k : Value) : List (Value × Value) → Option (Option Value)
  | [] => some none
  | e :: es => match keyEq k e.1 with
    | some true => some (some e.2)
    | some false => lookA k es
    | none => none

def updA (k v : Value) : List (Value × Value) → Option (List (Value × Value))
  | [] => some [(k, v)]
  | e :: es => match keyEq k e.1 with
    | some true => some ((k, v) :: es)
    | some false => (updA k v es).map (e :: ·)
    | none => none

def delA (k : Value) : List (Value × Value) → Option (List (Value × Value))
  | [] => some []
  | e :: es => match keyEq k e.1 with
    | some true => some es
    | some false => (delA k es).map (e :: ·)
    | none => none

def scalOf (d : Option TypeDesc) (v : Value) : Bool :=
  match d, v with
  | some (.int k), .int k' _ => decide (k = k')
  | some .string, .string _ => true
  | some .bool, .bool _ => true
  | _, _ => false

def arrKey (P : Program) (t : TypeId) (k : Value) : Bool :=
  match P.underlying t, k with
  | some (.array n e), .agg cs =>
    decide (cs.size = n) && (match P.info? e with
      | some i => decide (i.size = 1)
      | none => false) && cs.toList.all fun v => scalOf (P.underlying e) v
  | _, _ => false

/-- A key of its map's key type: a scalar, or an array of such. -/
def keyOk (P : Program) (t : TypeId) (k : Value) : Bool := scalOf (P.underlying t) k || arrKey P t k

def entriesA (h : AH) (m : Value) : Option (List (Value × Value)) :=
  match m with
  | .map none => some []
  | .map (some r) => match h.get r with
    | .map es => some es
    | _ => none
  | _ => none

def lookupA (P : Program) (t : TypeId) (m k : Value) (ok : Bool) (h : AH) : Option Value :=
  match P.underlying t with
  | some (.map kt et) =>
    if !keyOk P kt k then none else
    match zeroA P et, entriesA h m with
    | some z, some es => match lookA k es with
      | none => none
      | some none => some (if ok then .tuple #[z, .bool false] else z)
      | some (some v) => some (if ok then .tuple #[v, .bool true] else v)
    | _, _ => none
  | _ => none

def mapUpdateA (P : Program) (t : TypeId) (m k v : Value) (h : AH) : Option AH :=
  match P.underlying t, m with
  | some (.map kt _), .map (some r) =>
    if !keyOk P kt k then none else
    match h.get r with
    | .map es => (updA k v es).map fun es' => h.put r (.map es')
    | _ => none
  | _, _ => none

def deleteA (P : Program) (t : TypeId) (m k : Value) (h : AH) : Option AH :=
  match P.underlying t, m with
  | some (.map kt _), .map (some r) =>
    if !keyOk P kt k then none else
    match h.get r with
    | .map es => (delA k es).map fun es' => h.put r (.map es')
    | _ => none
  | _, _ => none

/-- What is appended: cells, and their number of elements. -/
def srcA (size : Nat) (x : Value) (h : AH) : Option (List Value × Nat) :=
  match x with
  | .slice none _ _ => some ([], 0)
  | .slice (some a) n _ => if n = 0 then some ([], 0) else (rowAt? h a.block a.off (n * size)).map (·, n)
  | .string s => if size = 1 then some (s.data.toList.map fun b => .int .u8 b.toNat, s.size) else none
  | _ => none

def zfit (info : TypeInfo) : Bool :=
  match zeroOf info with
  | some z => z.cells.size == info.size
  | none => false

/-- An append that makes a new row for certain. -/
def appendNew (e : TypeId) (size : Nat) (cells : List Value) (n : Nat) (h : AH) : Out :=
  some (.slice (some ⟨h.next, 0, some size⟩) n n, (h.new (.cells cells true [] (some e))).2)

/-- An append onto a slice whose capacity is not known: the row behind it may be the old one or a new one. -/
def appendU (e : TypeId) (size i o l n : Nat) (new : List Value) (h : AH) : Out :=
  match h.get i with
  | .cells cs true par ty =>
    if o + l * size = cs.length then
      some (.slice (some ⟨h.next, 0, some size⟩) (l + n) (l + n),
        ((h.put i (.cells cs false par ty)).new (.cells (cs.drop o ++ new) true (i :: par) (if ty = some e ∧ o = 0 then ty else none))).2)
    else if o + l * size < cs.length then
      some (.slice (some ⟨h.next, 0, some size⟩) (l + n) (l + n),
        (((h.kill par).put i (.cells (cs.take (o + l * size)) false [] ty)).new (.cells (((cs.drop o).take (l * size)) ++ new) true [i] (if ty = some e ∧ o = 0 then ty else none))).2)
    else none
  | _ => none

def srcKind : TypeDesc → Bool
  | .slice _ => true
  | .string => true
  | _ => false

def appendA (P : Program) (ts : Array TypeId) (s x : Value) (h : AH) : Out :=
  match ts[0]?, ts[1]? with
  | some st, some xt =>
    match P.underlying st, P.underlying xt with
    | some (.slice e), some xd =>
      match P.info? e with
      | none => none
      | some info =>
        if !srcKind xd then none else
        match srcA info.size x h with
        | none => none
        | some (new, n) =>
          if info.size = 0 || info.bytes > 1000000 || n > 1000000 || !zfit info || !(new.all cellV) then none else
          match s with
          | .slice none l c => if l ≠ 0 || c ≠ 0 then none else if n = 0 then some (.slice none 0 0, h) else appendNew e info.size new n h
          | .slice (some ⟨i, o, none⟩) l c =>
            if l > 1000000 || c < l then none else
            if n = 0 then some (.slice (some ⟨i, o, none⟩) l c, h) else
            if l + n ≤ c then (putRow? h i (o + l * info.size) new).map fun h' => (.slice (some ⟨i, o, none⟩) (l + n) c, h')
            else match rowAt? h i o (l * info.size) with
              | none => none
              | some old => appendNew e info.size (old ++ new) (l + n) h
          | .slice (some ⟨i, o, some 0⟩) _ _ => if n = 0 then some (.slice (some ⟨i, o, some 0⟩) 0 0, h) else none
          | .slice (some ⟨i, o, some (z + 1)⟩) l c =>
            if z + 1 ≠ info.size || l > 1000000 then none else
            if n = 0 then some (.slice (some ⟨i, o, some (z + 1)⟩) l c, h) else appendU e info.size i o l n new h
          | _ => none
    | _, _ => none
  | _, _ => none

def lenA (P : Program) (t : TypeId) (x : Value) (h : AH) : Option Value :=
  match P.underlying t, x with
  | some .string, .string s => some (.int .i64 s.size)
  | some (.array n _), _ => some (.int .i64 n)
  | some (.pointer a), _ => match P.underlying a with
    | some (.array n _) => some (.int .i64 n)
    | _ => none
  | some (.slice _), .slice _ n _ => some (.int .i64 n)
  | some (.map _ _), .map none => some (.int .i64 0)
  | some (.map _ _), .map (some r) => match h.get r with
    | .map es => some (.int .i64 es.length)
    | _ => none
  | _, _ => none

def capA (P : Program) (t : TypeId) (x : Value) : Option Value :=
  match P.underlying t, x with
  | some (.slice _), .slice none _ c => some (.int .i64 c)
  | some (.slice _), .slice (some a) _ c => match a.spot with
    | none => some (.int .i64 c)
    | _ => none
  | _, _ => none

def copyA (P : Program) (t : TypeId) (d x : Value) (h : AH) : Out :=
  match P.underlying t, d with
  | some (.slice e), .slice base dl _ =>
    match P.info? e with
    | none => none
    | some info =>
      match x with
      | .slice none _ _ => some (.int .i64 0, h)
      | .slice (some ⟨i, o, _⟩) n _ =>
        match base with
        | none => if dl = 0 then some (.int .i64 0, h) else none
        | some ⟨j, q, _⟩ =>
          if min n dl = 0 then some (.int .i64 0, h) else
          match rowAt? h i o (min n dl * info.size) with
          | some l => if l.all cellV then (putRow? h j q l).map fun h' => (.int .i64 (min n dl), h') else none
          | none => none
      | _ => none
  | _, _ => none

/-- clear of a slice: its elements become zero. -/
def clearA (P : Program) (t : TypeId) (x : Value) (h : AH) : Option AH :=
  match P.underlying t, x with
  | some (.slice _), .slice none _ _ => some h
  | some (.slice e), .slice (some a) n _ =>
    match P.info? e with
    | none => none
    | some info =>
      match zeroOf info with
      | none => none
      | some z => if n = 0 then some h else if z.cells.size = 0 then none else putRow? h a.block a.off (repeatL z.cells.toList n)
  | _, _ => none

/-- A slice as a pointer to an array. -/
def arrayAtA (P : Program) (t : TypeId) (x : Value) : Option Value :=
  match P.underlying t, x with
  | some (.array n _), .slice (some ⟨i, o, none⟩) len _ => if n = 0 || Nat.blt len n then none else some (.pointer (some ⟨i, o, none⟩))
  | some (.array n _), .slice (some ⟨i, o, some (_ + 1)⟩) len _ => if n = 0 || Nat.blt len n then none else some (.pointer (some ⟨i, o, none⟩))
  | _, _ => none

def foldMinMax (mx : Bool) : Value → List Value → Option Value
  | v, [] => some v
  | .int k x, .int _ y :: l => foldMinMax mx (.int k (if mx then (if y > x then y else x) else (if y < x then y else x))) l
  | _, _ => none

/-- unsafe.String of what a Builder holds. -/
def bytesOf : List Value → Option (List UInt8)
  | [] => some []
  | .int .u8 n :: l => (bytesOf l).map (n.toNat.toUInt8 :: ·)
  | _ => none

def unsafeStringA (P : Program) (pt : TypeId) (p n : Value) (h : AH) : Out :=
  match p, n with
  | .pointer none, .int _ n => if n = 0 then some (.string .empty, h) else none
  | .pointer (some ⟨i, o, none⟩), .int _ n =>
    if n = 0 then some (.string .empty, h) else
    if n < 0 ∨ n > 1000000 then none else
    match h.get i, P.underlying pt with
    | .cells c true par (some e), some (.pointer u) => if o + n.toNat ≤ c.length && u = e && (P.info? e).isSome && P.cellsOf e = 1 then
        (match bytesOf ((c.drop o).take n.toNat) with
        | some bs => some (.string ⟨bs.toArray⟩, (h.kill par).put i (.cells c false [] (some e)))
        | none => none) else none
    | _, _ => none
  | _, _ => none

def sliceDataA (x : Value) : Option Value :=
  match x with
  | .slice none _ _ => some (.pointer none)
  | .slice (some ⟨i, o, none⟩) _ c => if c ≠ 0 then some (.pointer (some ⟨i, o, none⟩)) else none
  | .slice (some ⟨i, o, some (_ + 1)⟩) _ c => if c ≠ 0 then some (.pointer (some ⟨i, o, none⟩)) else none
  | _ => none

def minMaxA (mx : Bool) (l : List Value) : Option Value :=
  match l with
  | .int k n :: l => foldMinMax mx (.int k n) l
  | _ => none

def builtinA (P : Program) (b : Builtin) (ts : List TypeId) (args : List Value) (h : AH) : Out :=
  match b, ts, args with
  | .append, [t, tx], [s, x] => appendA P #[t, tx] s x h
  | .len, [t], [x] => (lenA P t x h).map (·, h)
  | .cap, [t], [x] => (capA P t x).map (·, h)
  | .copy, [t, _], [d, x] => copyA P t d x h
  | .max, _, l => (minMaxA true l).map (·, h)
  | .min, _, l => (minMaxA false l).map (·, h)
  | .delete, [t, _], [m, k] => (deleteA P t m k h).map (.tuple #[], ·)
  | .clear, [t], [x] => (clearA P t x h).map (.tuple #[], ·)
  | .unsafeSliceData, _, [x] => (sliceDataA x).map (·, h)
  | .unsafeString, [t, _], [p, n] => unsafeStringA P t p n h
  | _, _, _ => none

def convertA (P : Program) (src dst : TypeId) (x : Value) (h : AH) : Option Value :=
  match P.underlying src, P.underlying dst, x with
  | some (.pointer t), some .unsafePointer, .pointer (some ⟨i, o, none⟩) =>
    match h.get i with
    | .cells c _ _ _ => if decide (o < c.length) && decide (P.cellsOf t ≠ 0) && (P.info? t).isSome then some (.pointer (some ⟨i, o, none⟩)) else none
    | _ => none
  | some .unsafePointer, some (.pointer u), .pointer (some ⟨i, o, none⟩) =>
    match h.get i with
    | .cells c _ _ (some e) => if decide (o = 0) && decide (u = e) && decide (P.cellsOf e ≠ 0) && decide (P.cellsOf e ≤ c.length) && (P.info? e).isSome then some (.pointer (some ⟨i, o, none⟩)) else none
    | _ => none
  | some _, some (.int k), .int _ n => some (.int k (k.wrap n))
  | some _, some .string, .string s => some (.string s)
  | _, _, _ => none

def rangeA (P : Program) (t : TypeId) (x : Value) (h : AH) : Out :=
  match P.underlying t, x with
  | some .string, .string s =>
    let r := h.new (.str s 0)
    some (.pointer (some ⟨r.1, 0, none⟩), r.2)
  | _, _ => none

def nextA (it : Value) (isString : Bool) (h : AH) : Out :=
  match it with
  | .pointer (some ⟨r, 0, none⟩) =>
    match h.get r, isString with
    | .str s pos, true =>
      if pos < s.size then
        let d := Utf8.decode s pos
        some (.tuple #[.bool true, .int .i64 pos, .int .i32 d.1], h.put r (.str s (pos + d.2)))
      else some (.tuple #[.bool false], h)
    | _, _ => none
  | _ => none

def optA (ρ : Operand → Option Value) : Option Operand → Option (Option Value)
  | none => some none
  | some x => match ρ x with
    | some v => some (some v)
    | none => none

def makeIfaceA (P : Program) (t : TypeId) (x : Value) : Option Value :=
  match P.underlying t with
  | some (.interface _) => none
  | some _ => some (.iface t x)
  | none => none

def assertA (P : Program) (asserted : TypeId) (ok : Bool) (x : Value) : Option Value :=
  match P.underlying asserted with
  | some (.interface _) => none
  | some _ => match x with
    | .iface t v => match Nat.beq t asserted with
      | true => some (match ok with | true => .tuple #[v, .bool true] | false => v)
      | false => match ok with
        | true => match zeroA P asserted with
          | some z => some (.tuple #[z, .bool false])
          | none => none
        | false => none
    | .nilIface => match ok with
      | true => match zeroA P asserted with
        | some z => some (.tuple #[z, .bool false])
        | none => none
      | false => none
    | _ => none
  | none => none

/-- An operation that is no call of a function with a body: its value and the heap behind it. -/
def opA (P : Program) (ρ : Operand → Option Value) (o : Op) (h : AH) : Out :=
  let u (r : Option AH) : Out := r.map (undef, ·)
  let v (r : Option Value) : Out := r.map (·, h)
  match o with
  | .move x | .assign x => v (ρ x)
  | .pick c a b => match ρ c, ρ a, ρ b with
    | some (.bool c), some a, some b => some (if c then a else b, h)
    | _, _, _ => none
  | .alloc e => match zeroA P e with
    | some z => newRowA e z.cells.toList h
    | none => none
  | .box e x => match ρ x with
    | some x => newRowA e x.cells.toList h
    | none => none
  | .build t parts => match parts.toList.mapM (fun p => (ρ p.2).map fun x => (p.1, x)) with
    | some ps => v (buildA P t ps)
    | none => none
  | .buildSlice t n parts => match parts.toList.mapM (fun p => (ρ p.2).map fun x => (p.1, x)) with
    | some ps => buildSliceA P t n ps h
    | none => none
  | .load t a => match ρ a with
    | some (.pointer (some ⟨i, o, none⟩)) => v (loadA P t i o h)
    | _ => none
  | .store t a x => match ρ a, ρ x with
    | some (.pointer (some ⟨i, o, none⟩)), some x => u (storeA P t i o x h)
    | _, _ => none
  | .nilCheck x => match ρ x with
    | some (.pointer (some a)) => v (some (.pointer (some a)))
    | some (.func (.func f) a b) => v (some (.func (.func f) a b))
    | _ => none
  | .binOp op t x y _ => match ρ x, ρ y with
    | some x, some y => v (binA P op t x y)
    | _, _ => none
  | .unOp op _ x => match ρ x with
    | some x => v (unA op x)
    | none => none
  | .convert src dst x => match ρ x with
    | some x => v (convertA P src dst x h)
    | none => none
  | .sliceToArrayPointer t x => match ρ x with
    | some x => v (arrayAtA P t x)
    | none => none
  | .makeFunc fn first captured => match first.toList.mapM ρ, captured.toList.mapM ρ with
    | some a, some b => v (some (.func fn a.toArray b.toArray))
    | _, _ => none
  | .makeMap _ none =>
    let r := h.new (.map [])
    some (.map (some r.1), r.2)
  | .makeSlice t l c => match ρ l, ρ c with
    | some l, some c => makeSliceA P t l c h
    | _, _ => none
  | .slice t x lo hi mx => match ρ x, optA ρ lo, optA ρ hi, optA ρ mx with
    | some x, some lo, some hi, some mx => v (sliceA P t x lo hi mx)
    | _, _, _, _ => none
  | .fieldAddr s x f => match ρ x with
    | some x => v (fieldAddrA P s x f)
    | none => none
  | .field s x f => match ρ x with
    | some x => v (fieldA P s x f)
    | none => none
  | .indexAddr t x i => match ρ x, ρ i with
    | some x, some i => v (indexAddrA P t x i)
    | _, _ => none
  | .index t x i => match ρ x, ρ i with
    | some x, some i => v (indexA P t x i)
    | _, _ => none
  | .lookup t m k ok => match ρ m, ρ k with
    | some m, some k => v (lookupA P t m k ok h)
    | _, _ => none
  | .mapUpdate t m k x | .insert t m k x => match ρ m, ρ k, ρ x with
    | some m, some k, some x => u (mapUpdateA P t m k x h)
    | _, _, _ => none
  | .range t x => match ρ x with
    | some x => rangeA P t x h
    | none => none
  | .next it s => match ρ it with
    | some it => nextA it s h
    | none => none
  | .extract t i => match ρ t with
    | some (.tuple vs) => v vs[i]?
    | _ => none
  | .makeInterface t x => match ρ x with
    | some x => v (makeIfaceA P t x)
    | none => none
  | .typeAssert x _ asserted ok => match ρ x with
    | some x => v (assertA P asserted ok x)
    | none => none
  | .call { callee := .builtin b, args, argTypes } => match args.toList.mapM ρ with
    | some l => builtinA P b argTypes.toList l h
    | none => none
  | _ => none

end
end Go.R
