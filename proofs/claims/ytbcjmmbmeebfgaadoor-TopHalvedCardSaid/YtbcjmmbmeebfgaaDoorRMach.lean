/- The abstract machine's walk: operations, regions in any order, code and calls. -/
import Derived.Orders
import Derived.Test.YtbcjmmbmeebfgaaDoorRDefs
namespace Go.R
set_option linter.unusedVariables false
set_option linter.unusedSimpArgs false
open Go
noncomputable section

inductive AExit where
  | normal
  | exit (id : Nat)
  | ret

structure AF where
  tm : T Value
  sz : Nat
  h : AH

def AF.put (a : AF) (dst : Option Tmp) (v : Value) (h : AH) : AF :=
  match dst with
  | some d => Nat.rec (motive := fun _ => AF) { tm := a.tm, sz := 0, h := h }
      (fun s _ => { tm := Bool.rec (motive := fun _ => T Value) a.tm (a.tm.set d v) (Nat.blt d (Nat.succ s)), sz := Nat.succ s, h := h }) a.sz
  | none => { tm := a.tm, sz := a.sz, h := h }

theorem AF.put_def (a : AF) (dst : Option Tmp) (v : Value) (h : AH) : a.put dst v h = match dst with
    | some d => { tm := if Nat.blt d a.sz then a.tm.set d v else a.tm, sz := a.sz, h := h }
    | none => { tm := a.tm, sz := a.sz, h := h } := by
  cases dst with
  | none => rfl
  | some d =>
    obtain ⟨tm, sz, h0⟩ := a
    cases sz with
    | zero => rfl
    | succ s =>
      show AF.mk (Bool.rec (motive := fun _ => T Value) tm (tm.set d v) (Nat.blt d (Nat.succ s))) (Nat.succ s) h = AF.mk (if Nat.blt d (s + 1) = true then tm.set d v else tm) (s + 1) h
      cases Nat.blt d (s + 1) <;> rfl

/-- What a guard's operation has yielded, as far as it is known. -/
def yieldA (ops : Array Oper) (tm : T Value) (j : Nat) : Option (Option Bool) :=
  match (ops[j]?).bind (·.dst) with
  | some t => match tm.get t with
    | some (.bool b) => some (some b)
    | some _ => some none
    | none => none
  | none => some none

def wantedA (ops : Array Oper) (tm : T Value) (o : Oper) : Option Bool :=
  match o.guard with
  | none => some true
  | some (j, want) => (yieldA ops tm j).map (· == some want)

def resultsA (P : Program) (tm : T Value) (h : AH) : List ResultVar → Option (List Value)
  | [] => some []
  | .tmp t :: l => match tm.get t, resultsA P tm h l with
    | some v, some vs => some (v :: vs)
    | _, _ => none
  | .cell t ty :: l => match tm.get t, resultsA P tm h l with
    | some (.pointer (some ⟨i, o, none⟩)), some vs => (loadA P ty i o h).map (· :: vs)
    | _, _ => none

def initTm : List Value → Nat → T Value → T Value
  | [], _, t => t
  | v :: l, i, t => initTm l (i + 1) (t.set i v)

abbrev CallF := FuncId → List Value → AH → Out
abbrev Hook := FuncId → List Value → AH → Option Out

/-- The function that a method of a dynamic type is, where the receiver is the value itself. -/
def dispatchA (P : Program) (t : TypeId) (m : String) : Option FuncId :=
  match P.info? t, P.underlying t with
  | some _, some (.pointer _) => none
  | some info, some _ => match info.methods.find? (·.name == m) with
    | some row => match row.path.toList, row.func with
      | [], some (f, false) => some f
      | _, _ => none
    | none => none
  | _, _ => none

def callee? (P : Program) (ρ : Operand → Option Value) (c : Call) : Option (FuncId × List Value) :=
  match c.callee with
  | .value f => match ρ f, c.args.toList.mapM ρ with
    | some (.func (.func f) first captured), some args => some (f, first.toList ++ args ++ captured.toList)
    | _, _ => none
  | .invoke r m => match ρ r, c.args.toList.mapM ρ with
    | some (.iface t v), some args => match dispatchA P t m with
      | some f => some (f, v :: args)
      | none => none
    | _, _ => none
  | _ => none

def callOp? : Op → Option Call
  | .call c => match c.callee with
    | .builtin _ => none
    | _ => some c
  | _ => none

/-- One operation. -/
def stepA (P : Program) (call : CallF) (ρ : Operand → Option Value) (o : Op) (h : AH) : Out :=
  match callOp? o with
  | some c => match callee? P ρ c with
    | some (f, args) => call f args h
    | none => none
  | none => opA P ρ o h

/-- The operations of a region in their listed order; with what stood ahead of each, and the last. -/
def opsL (P : Program) (call : CallF) (ops : Array Oper) : List Oper → AF → Option (AF × List AF)
  | [], a => some (a, [a])
  | o :: l, a =>
    match wantedA ops a.tm o with
    | some true =>
      match stepA P call (evalA a.tm) o.op a.h with
      | some (v, h) => match opsL P call ops l (a.put o.dst v h) with
        | some (a', hs) => some (a', a :: hs)
        | none => none
      | none => none
    | some false => match opsL P call ops l (a.put o.dst undef a.h) with
      | some (a', hs) => some (a', a :: hs)
      | none => none
    | none => none

/-! ### A region whose order is drawn -/
def veqL (f : Value → Value → Bool) : List Value → List Value → Bool
  | [], [] => true
  | a :: l, b :: k => f a b && veqL f l k
  | _, _ => false

def aeq (a b : Addr) : Bool := a.block == b.block && (a.off == b.off && decide (a.spot = b.spot))

def veq : Nat → Value → Value → Bool
  | 0, _, _ => false
  | n + 1, a, b =>
    match a, b with
    | .bool a, .bool b => a == b
    | .int k a, .int k' b => decide (k = k') && decide (a = b)
    | .string a, .string b => decide (a = b)
    | .pointer none, .pointer none => true
    | .pointer (some a), .pointer (some b) => aeq a b
    | .slice none n c, .slice none n' c' => n == n' && c == c'
    | .slice (some a) n c, .slice (some b) n' c' => aeq a b && (n == n' && c == c')
    | .map a, .map b => decide (a = b)
    | .nilFunc, .nilFunc => true
    | .nilIface, .nilIface => true
    | .iface t v, .iface t' v' => t == t' && veq n v v'
    | .func (.func f) a b, .func (.func f') a' b' => f == f' && (veqL (veq n) a.toList a'.toList && veqL (veq n) b.toList b'.toList)
    | .agg a, .agg b => veqL (veq n) a.toList b.toList
    | .tuple a, .tuple b => veqL (veq n) a.toList b.toList
    | _, _ => false

def light (o : Op) : Bool :=
  match o with
  | .move _ | .assign _ | .pick .. | .build .. | .load .. | .nilCheck _ | .binOp .. | .unOp .. | .convert .. | .sliceToArrayPointer .. | .makeFunc .. | .slice .. | .fieldAddr .. | .field .. | .indexAddr .. | .index .. | .lookup .. | .extract .. => true
  | .call c => match c.callee with
    | .builtin .len | .builtin .cap | .builtin .max | .builtin .min => true
    | _ => false
  | _ => false

/-- What looks at no heap. -/
def pureOp (P : Program) (o : Op) : Bool :=
  match o with
  | .move _ | .assign _ | .pick .. | .build .. | .nilCheck _ | .binOp .. | .unOp .. | .sliceToArrayPointer .. | .makeFunc .. | .slice .. | .fieldAddr .. | .field .. | .indexAddr .. | .index .. | .extract .. => true
  | .convert src _ _ => match P.underlying src with
    | some (.int _) => true
    | some .string => true
    | _ => false
  | .call c => match c.callee with
    | .builtin .max | .builtin .min => true
    | _ => false
  | _ => false

def maskOf (ms : List Nat) : List Edge → Nat
  | [] => 0
  | e :: l => if Region.binds .any e then (1 <<< e.on) ||| (ms.getD e.on 0 ||| maskOf ms l) else maskOf ms l

def masks : List Oper → List Nat → List Nat
  | [], ms => ms
  | o :: l, ms => masks l (ms ++ [maskOf ms o.after.toList])

def has (ms : List Nat) (i j : Nat) : Bool := (ms.getD i 0).testBit j

/-- What the region's text must hold: edges lead back; each place is written once, and read behind its writing; what acts stands in one line. -/
def statOp (ops : Array Oper) (ms : List Nat) (i : Nat) (o : Oper) : Bool :=
  o.after.toList.all (fun e => !Region.binds .any e || Nat.blt e.on i) &&
  (let lk := o.looksAt ops
   (List.range ops.size).all fun j => match ops[j]? with
    | none => true
    | some p =>
      (match p.dst with
       | some d => !lk.contains d || (j == i || (has ms i j || has ms j i))
       | none => true) &&
      (j == i || (match p.dst with | some d => o.dst != some d | none => true)) &&
      (light o.op || light p.op || !Nat.blt j i || has ms i j))

def statOk (ops : Array Oper) (ms : List Nat) : Bool :=
  (List.range ops.size).all fun i => match ops[i]? with
    | none => true
    | some o => statOp ops ms i o

def stages (ops : Array Oper) : List Nat :=
  (List.range ops.size).filter (fun i => match ops[i]? with | some o => !light o.op | none => false)

/-- Nothing that acts may come between an operation and its place at a stage. -/
def statPair (ops : Array Oper) (ms : List Nat) (i p : Nat) : Bool :=
  (Nat.ble i p && (stages ops).all (fun q => Nat.blt q i || Nat.ble p q)) || (has ms i p || (stages ops).any (fun q => Nat.blt q p && has ms q i))

/-- The operations that look at the heap, with the stages at which they may come to stand. -/
def dynPairs (P : Program) (ops : Array Oper) (ms : List Nat) : List (Nat × Nat) :=
  (List.range ops.size).flatMap fun i => match ops[i]? with
    | some o => if light o.op && !pureOp P o.op then ((stages ops ++ [ops.size]).filter fun p => !statPair ops ms i p).map fun p => (i, p) else []
    | none => []

def dynOk (P : Program) (ops : Array Oper) (ms : List Nat) (hs : List AF) : Bool :=
  (dynPairs P ops ms).all fun q => match ops[q.1]?, hs[q.2]?, hs[q.1]?, hs[q.1 + 1]? with
    | some o, some ap, some ai, some an => wantedA ops ai.tm o == some false || (match opA P (evalA ai.tm) o.op ap.h with
      | some (v, _) => match o.dst with
        | some d => match an.tm.get d with
          | some v' => veq 20 v v'
          | none => false
        | none => true
      | none => false)
    | _, _, _, _ => false

def drawA (P : Program) (call : CallF) (ops : Array Oper) (a : AF) : Option AF :=
  match opsL P call ops ops.toList a with
  | some (a', hs) =>
    if statOk ops (masks ops.toList []) then
      if dynOk P ops (masks ops.toList []) hs then some a' else none
    else none
  | none => none

/-! One new variable that no edge binds: it may be born at any time. -/
def flL (d : Tmp) : Nat → List Oper → List Oper
  | _, [] => []
  | 0, o :: l => { o with op := .move (.tmp d) } :: l
  | k + 1, o :: l => o :: flL d k l

def flFind : List Oper → Nat → Option (Nat × Tmp × TypeId)
  | [], _ => none
  | o :: l, k => match o.op, o.guard, o.dst with
    | .alloc e, none, some d => if o.after.toList.all (fun x => !Region.binds .any x) then some (k, d, e) else flFind l (k + 1)
    | _, _, _ => flFind l (k + 1)

def floatA (P : Program) (call : CallF) (ops : Array Oper) (a : AF) : Option AF :=
  match flFind ops.toList 0 with
  | some (k, d, e) => match zeroA P e with
    | some z => match Nat.blt d a.sz with
      | true => drawA P call (flL d k ops.toList).toArray { tm := a.tm.set d (.pointer (some ⟨a.h.next, 0, none⟩)), sz := a.sz, h := (a.h.new (.cells z.cells.toList true [] (some e))).2 }
      | false => none
    | none => none
  | none => none

def regionA (P : Program) (call : CallF) (ops : Array Oper) (draw : Bool) (a : AF) : Option AF :=
  match draw with
  | true => match drawA P call ops a with
    | some a' => some a'
    | none => floatA P call ops a
  | false => match opsL P call ops ops.toList a with
    | some (a', _) => some a'
    | none => none

/-! ### A loop over a map whose rounds only look -/
def T.del {α : Type} : T α → Nat → T α
  | .nil, _ => .nil
  | .node l v r, k => match k with
    | 0 => .node l none r
    | k + 1 => if k % 2 = 0 then .node (l.del (k / 2)) v r else .node l v (r.del (k / 2))

def delL (tm : T Value) : List Tmp → T Value
  | [] => tm
  | t :: l => (delL tm l).del t

def dstsL (ops : List Oper) : List Tmp := ops.filterMap (·.dst)

def dstsC : Code → List Tmp
  | .region _ ops _ => dstsL ops.toList
  | .seq a b => dstsC a ++ dstsC b
  | .cond _ a b => dstsC a ++ dstsC b
  | .block _ a => dstsC a
  | .scope a => dstsC a
  | _ => []

def litL (W : List Tmp) (ops : List Oper) : Bool :=
  ops.all fun o => light o.op && (match o.dst with | some d => W.contains d | none => true)

def litC (W : List Tmp) : Code → Bool
  | .skip | .label _ | .exit _ | .ret => true
  | .region _ ops draw => !draw && litL W ops.toList
  | .seq a b => litC W a && litC W b
  | .cond _ a b => litC W a && litC W b
  | .block _ a => litC W a
  | .scope a => litC W a
  | _ => false

structure Head where
  b1 : Nat
  x : Tmp
  t : Tmp
  it : Tmp
  ops2 : Array Oper
  rest : Code

def headForm : Code → Option Head
  | .block b1 (.loop (.seq (.region _ ops2 false) (.seq (.cond (.tmp t) .skip (.exit b2)) rest))) =>
    match ops2.toList with
    | [o1, o2] =>
      match o1.dst, o1.op, o1.guard, o2.dst, o2.op, o2.guard with
      | some x, .next (.tmp it) false, none, some t2, .extract (.tmp x2) 0, none =>
        if decide (t2 = t) && (decide (x2 = x) && (decide (b2 = b1) && decide (x ≠ t))) then some ⟨b1, x, t, it, ops2, rest⟩ else none
      | _, _, _, _, _, _ => none
    | _ => none
  | _ => none

structure Ent where
  b2 : Nat
  e : Tmp
  ops3 : Array Oper
  l : List Oper
  more : Code

def entryForm (it : Tmp) : Code → Option Ent
  | .block b2 (.seq (.region _ ops3 false) more) =>
    match ops3.toList with
    | o :: l =>
      match o.dst, o.op, o.guard with
      | some e, .entry (.tmp it2), none => if it2 = it then some ⟨b2, e, ops3, l, more⟩ else none
      | _, _, _ => none
    | [] => none
  | _ => none

def catchA (b : Nat) : AExit → AExit
  | .exit id => if id = b then .normal else .exit id
  | x => x

def restA (P : Program) (call : CallF) (ex : Code → AF → Option (AExit × AF)) (it : Tmp) (k v : Value) (rest : Code) (af : AF) : Option (AExit × AF) :=
  match entryForm it rest with
  | some E =>
    match opsL P call E.ops3 E.l (af.put (some E.e) (.tuple #[k, v]) af.h) with
    | some (a1, _) => match ex E.more a1 with
      | some (x, a') => some (catchA E.b2 x, a')
      | none => none
    | none => none
  | none => ex rest af

def litR (W : List Tmp) (it : Tmp) (rest : Code) : Bool :=
  match entryForm it rest with
  | some E => W.contains E.e && (litL W E.l && litC W E.more)
  | none => litC W rest

def aexEq : AExit → AExit → Bool
  | .normal, .normal => true
  | .exit i, .exit j => i == j
  | .ret, .ret => true
  | _, _ => false

def isOut : AExit × AF → Bool
  | (.normal, _) => false
  | _ => true

def agree (f0 : AF) (outs : List (AExit × AF)) (tm : T Value) : List Tmp → T Value
  | [] => tm
  | t :: l => match f0.tm.get t with
    | some v => if outs.all (fun p => match p.2.tm.get t with | some u => veq 20 u v | none => false) then (agree f0 outs tm l).set t v else agree f0 outs tm l
    | none => agree f0 outs tm l

def joinA (b1 : Nat) (tm : T Value) (sz : Nat) (h : AH) (W : List Tmp) (outs : List (AExit × AF)) : Option (AExit × AF) :=
  match outs.filter isOut with
  | [] => some (.normal, { tm := tm, sz := sz, h := h })
  | (x0, f0) :: l =>
    if l.all (fun p => aexEq p.1 x0) then some (catchA b1 x0, { tm := agree f0 ((x0, f0) :: l) tm W, sz := sz, h := h })
    else none

def roundA (P : Program) (call : CallF) (ex : Code → AF → Option (AExit × AF)) (H : Head) (tm : T Value) (sz : Nat) (hd : AH) (p : Value × Value) : Option (AExit × AF) :=
  restA P call ex H.it p.1 p.2 H.rest (((AF.mk tm sz hd).put (some H.x) (.tuple #[.bool true, p.1, p.2]) hd).put (some H.t) (.bool true) hd)

def mapLoopA (P : Program) (call : CallF) (ex : Code → AF → Option (AExit × AF)) (H : Head) (ops : Array Oper) (af : AF) : Option (AExit × AF) :=
  match ops.toList.getLast? with
  | some o =>
    match o.dst, o.op, o.guard with
    | some it2, .range ty x, none =>
      match P.underlying ty, opsL P call ops ops.toList.dropLast af with
      | some (.map _ _), some (a1, _) =>
        match evalA a1.tm x with
        | some (.map (some m)) =>
          match a1.h.get m with
          | .map es =>
            let W := H.x :: H.t :: dstsC H.rest
            if decide (it2 = H.it) && es.all (fun p => plainV p.1) && (!W.contains H.it && (Nat.blt H.it a1.sz && (Nat.blt H.x a1.sz && (Nat.blt H.t a1.sz && litR W H.it H.rest)))) then
              let r := a1.h.new .dead
              let tm := delL (a1.tm.set H.it (.pointer (some ⟨r.1, 0, none⟩))) W
              match es.mapM (roundA P call ex H tm a1.sz (r.2.put m .dead)) with
              | some outs => joinA H.b1 tm a1.sz r.2 W outs
              | none => none
            else none
          | _ => none
        | _ => none
      | _, _ => none
    | _, _, _ => none
  | none => none

def eachForm : Code → Code → Option (Array Oper × Head)
  | .region _ ops false, y => match headForm y with
    | some H => some (ops, H)
    | none => none
  | _, _ => none

def execA (P : Program) (call : CallF) : Nat → Code → AF → Option (AExit × AF)
  | 0, _, _ => none
  | n + 1, c, a =>
    match c with
    | .skip => some (.normal, a)
    | .label _ => some (.normal, a)
    | .region _ ops draw => match regionA P call ops draw a with
      | some a' => some (.normal, a')
      | none => none
    | .seq x y => match eachForm x y with
      | some (ops, H) => mapLoopA P call (execA P call n) H ops a
      | none => match execA P call n x a with
        | some (.normal, a') => execA P call n y a'
        | r => r
    | .cond x t e => match evalA a.tm x with
      | some (.bool true) => execA P call n t a
      | some (.bool false) => execA P call n e a
      | _ => none
    | .block id body => match execA P call n body a with
      | some (.exit id', a') => if id' = id then some (.normal, a') else some (.exit id', a')
      | r => r
    | .loop body => match execA P call n body a with
      | some (.normal, a') => execA P call n (.loop body) a'
      | r => r
    | .exit id => some (.exit id, a)
    | .scope body => execA P call n body a
    | .ret => some (.ret, a)
    | _ => none

/-- A function's body, entered with the values of its first places. -/
def bodyA (P : Program) (call : CallF) (n : Nat) (fn : Func) (c : Code) (args : List Value) (h : AH) : Out :=
  match execA P call n c { tm := initTm args 0 .nil, sz := args.length + (fn.ntmps - args.length), h := h } with
  | some (.normal, a) | some (.ret, a) =>
    match resultsA P a.tm a.h fn.results.toList with
    | some [v] => some (v, a.h)
    | some vs => some (.tuple vs.toArray, a.h)
    | none => none
  | _ => none

def callA (P : Program) (hk : Hook) : Nat → CallF
  | 0, _, _, _ => none
  | n + 1, f, args, h =>
    match hk f args h with
    | some r => r
    | none =>
      match P.funcs[f]? with
      | none => none
      | some fn => match fn.body with
        | none => none
        | some c => bodyA P (callA P hk n) n fn c args h

end
end Go.R
