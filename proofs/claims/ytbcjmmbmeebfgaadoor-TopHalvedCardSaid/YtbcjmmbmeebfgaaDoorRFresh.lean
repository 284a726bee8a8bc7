/- A closed call that answers with a new row of plain cells (and an error's number), told from any heap. -/
import Derived.Test.YtbcjmmbmeebfgaaDoorRMemo2
namespace Go.R
set_option linter.unusedVariables false
set_option linter.unusedSimpArgs false
open Go Go.RowKit
noncomputable section
variable {P : Program}

/-- A new row: alone, or with a plain value behind it. -/
def rowV (i n : Nat) (e : Option Value) : Value :=
  match e with
  | none => .slice (some ⟨i, 0, some 1⟩) n n
  | some e => .tuple #[.slice (some ⟨i, 0, some 1⟩) n n, e]
def rowK (i n : Nat) (e : Option Value) : Value :=
  match e with
  | none => .slice (some ⟨i, 0, none⟩) n n
  | some e => .tuple #[.slice (some ⟨i, 0, none⟩) n n, e]

theorem fresh_core {cells : List Value} {ty : Option TypeId} {n : Nat} (cc : ∀ v ∈ cells, plainV v = true) {h : AH} {F : Nat → Prop} {w0 : World} {μ μ1 : Mp} {w w' : World} (H : HR F w0 μ h w)
    {h' : AH} {i : Nat} {par : List Nat} (hi : h'.get i = .cells cells true par ty) (H' : HR (Rest F 0 μ h) w μ1 h' w') {b z ee c' : Nat} (hm : μ1 i = some (b, z, ee)) (q1 : n ≤ n) (q2 : n ≤ c') (q3 : z + 0 + c' * (0 + 1) ≤ ee) :
    ∃ μ', VR μ' (.slice (some ⟨h.next, 0, some 1⟩) n n) (.slice (some ⟨b, z + 0, none⟩) n c') ∧ HR F w0 μ' (h.new (.cells cells true [] ty)).2 w' ∧ Ext μ μ' h (h.new (.cells cells true [] ty)).2 := by
  have hob := H'.obj i b z ee hm
  rw [hi] at hob
  have hfree : ¬ Rest F 0 μ h b := H'.own i b z ee hm (by rw [hi]; rfl)
  have keepB : ∀ b, Rest F 0 μ h b → w'.heap[b]? = w.heap[b]? := fun b hb => (H'.fr b hb).2
  have old : ∀ j b z e, μ j = some (b, z, e) → h.get j ≠ .dead → Rest F 0 μ h b := fun j b z e hm hd => .inr ⟨j, z, e, Nat.zero_le _, hm, hd⟩
  have hnone : μ h.next = none := H.none_next (Nat.le_refl _)
  have hsub : Sub μ (μ.add h.next (b, z, ee)) := Mp.add_sub hnone
  have get_old : ∀ j, j ≠ h.next → (h.new (.cells cells true [] ty)).2.get j = h.get j := fun j hj => by rw [AH.get_new, if_neg hj]
  have get_new' : (h.new (.cells cells true [] ty)).2.get h.next = .cells cells true [] ty := by rw [AH.get_new, if_pos rfl]
  have add_inv : ∀ {j p}, μ.add h.next (b, z, ee) j = some p → (j = h.next ∧ p = (b, z, ee)) ∨ (j ≠ h.next ∧ μ j = some p) := by
    intro j p hj
    unfold Mp.add at hj
    split at hj
    · rename_i e1; cases hj; exact .inl ⟨e1, rfl⟩
    · rename_i e1; exact .inr ⟨e1, hj⟩
  have hob' : OR (μ.add h.next (b, z, ee)) (.cells cells true [] ty) b z ee w' := by
    obtain ⟨cs, el, fr, h1, h2, h3, h4, h5⟩ := hob
    refine ⟨cs, el, fr, h1, h2, h3, fun k v hk => ?_, h5⟩
    obtain ⟨v', g1, g2⟩ := h4 k v hk
    have hp := cc v (List.mem_of_getElem? hk)
    exact ⟨v', g1, by rw [plain_same g2 hp]; exact .plain hp⟩
  have newold : ∀ j zj ej, j ≠ h.next → μ j = some (b, zj, ej) → h.get j = .dead := by
    intro j zj ej hne hj
    by_cases hd : h.get j = .dead
    · exact hd
    · exact absurd (old j b zj ej hj hd) hfree
  refine ⟨μ.add h.next (b, z, ee), ?_, ⟨fun j p hj => ?_, fun j b' z' e' hj => ?_, fun j b' z' e' hj hw => ?_, fun j k b' zj ej zk ek hne hj hk => ?_, fun j c l p ty' hj hg k hk => ?_,
    H'.os.trans H.os, H'.tape.trans H.tape, H'.output.trans H.output, Nat.le_trans H.size H'.size, fun b' hb => ?_, H.tab⟩, ⟨hsub, by simp, fun j hj hm' => ?_⟩⟩
  · have := VR.sliceU (μ := μ.add h.next (b, z, ee)) (i := h.next) (o := 0) (n := n) (c := n) (c' := c') (s := 0) (b := b) (z := z) (e := ee) (by simp [Mp.add]) q1 q2 q3
    exact this
  · rcases add_inv hj with ⟨rfl, _⟩ | ⟨_, hj⟩
    · simp
    · have := H.dom j p hj; simp; omega
  · rcases add_inv hj with ⟨rfl, e1⟩ | ⟨hne, hj⟩
    · cases e1; rw [get_new']; exact hob'
    · rw [get_old j hne]
      by_cases hd : h.get j = .dead
      · rw [hd]; trivial
      · exact ((H.obj j b' z' e' hj).mono hsub).world (keepB b' (old j b' z' e' hj hd))
  · rcases add_inv hj with ⟨rfl, e1⟩ | ⟨hne, hj⟩
    · cases e1; exact fun hF => hfree (.inl hF)
    · rw [get_old j hne] at hw; exact H.own j b' z' e' hj hw
  · rcases add_inv hj with ⟨rfl, e1⟩ | ⟨hne1, hj⟩
    · cases e1
      rcases add_inv hk with ⟨rfl, _⟩ | ⟨hne2, hk⟩
      · exact absurd rfl hne
      · rw [get_old k hne2, newold k zk ek hne2 hk]; exact .inr (.inl (by unfold share; trivial))
    · rcases add_inv hk with ⟨rfl, e1⟩ | ⟨hne2, hk⟩
      · cases e1
        rw [get_old j hne1, newold j zj ej hne1 hj]; exact .inl (by unfold share; trivial)
      · rw [get_old j hne1, get_old k hne2]; exact H.sep j k b' zj ej zk ek hne hj hk
  · by_cases e1 : j = h.next
    · subst e1; rw [get_new'] at hg; cases hg; cases hk
    · rw [get_old j e1] at hg
      have hj' : μ j ≠ none := by
        unfold Mp.add at hj; rw [if_neg e1] at hj; exact hj
      have := H.par j c l p ty' hj' hg k hk
      intro hn
      unfold Mp.add at hn
      split at hn
      · cases hn
      · exact this hn
  · have h1 := H'.fr b' (.inl hb)
    have h2 := H.fr b' hb
    exact ⟨h2.1, h1.2.trans h2.2⟩
  · have hne : j ≠ h.next := by omega
    refine ⟨by unfold Mp.add; rw [if_neg hne]; exact hm', get_old j hne⟩

theorem fresh_ok {f : FuncId} {args : List Value} {cells : List Value} {ty : Option TypeId} {e : Option Value}
    (L : Local P 0 f args AH.empty fun v' h' => ∃ i par, (v' = rowV i cells.length e ∨ v' = rowK i cells.length e) ∧ h'.get i = .cells cells true par ty) (ca : ∀ v ∈ args, plainV v = true) (cc : ∀ v ∈ cells, plainV v = true) (ce : ∀ v, e = some v → plainV v = true) (h : AH)
    {F : Nat → Prop} {w0 : World} {μ : Mp} {w : World} {args' : Array Value} (H : HR F w0 μ h w) (hl : LR μ args args'.toList) :
    Goes P f args' w fun v' w' => ∃ μ', VR μ' (rowV h.next cells.length e) v' ∧ HR F w0 μ' (h.new (.cells cells true [] ty)).2 w' ∧ Ext μ μ' h (h.new (.cells cells true [] ty)).2 := by
  have S : HR (Rest F 0 μ h) w (μ.cut 0) AH.empty w := H.small rfl (fun i hi => absurd hi (Nat.not_lt_zero i)) (fun i hi => absurd hi (Nat.not_lt_zero i))
  have ha : LR (μ.cut 0) args args'.toList := clo_list (fun v hv => clo_plain (ca v hv)) hl
  refine (L _ w _ w args' S ha).mono fun v' w' ⟨u, h', ⟨i, par, eu, hi⟩, μ1, hv, H', _⟩ => ?_
  have slice : ∀ {x y : Value}, (x = .slice (some ⟨i, 0, some 1⟩) cells.length cells.length ∨ x = .slice (some ⟨i, 0, none⟩) cells.length cells.length) → VR μ1 x y →
      ∃ μ', VR μ' (.slice (some ⟨h.next, 0, some 1⟩) cells.length cells.length) y ∧ HR F w0 μ' (h.new (.cells cells true [] ty)).2 w' ∧ Ext μ μ' h (h.new (.cells cells true [] ty)).2 := by
    intro x y hx hxy
    rcases hx with rfl | rfl
    · obtain ⟨b, z, ee, c', hm, q1, q2, q3, rfl⟩ := hxy.sliceU_inv
      exact fresh_core cc H hi H' hm q1 q2 q3
    · obtain ⟨b, z, ee, hm, rfl⟩ := hxy.slice_inv
      have hob := H'.obj i b z ee hm
      rw [hi] at hob
      obtain ⟨cs, el, fr, _, h2, _⟩ := hob
      exact fresh_core cc H hi H' hm (Nat.le_refl _) (Nat.le_refl _) (by omega)
  cases e with
  | none =>
    exact slice eu hv
  | some e =>
    have eu' : ∃ x, u = .tuple #[x, e] ∧ (x = .slice (some ⟨i, 0, some 1⟩) cells.length cells.length ∨ x = .slice (some ⟨i, 0, none⟩) cells.length cells.length) := by
      rcases eu with eu | eu
      · exact ⟨_, eu, .inl rfl⟩
      · exact ⟨_, eu, .inr rfl⟩
    obtain ⟨s, rfl, hs⟩ := eu'
    obtain ⟨vs', rfl, hvs⟩ := hv.tuple_inv
    obtain ⟨x, y, ex, hx, hy⟩ := hvs.two rfl
    have evs : vs' = #[x, y] := arr_eq (by simpa using ex)
    subst evs
    have hpe := ce e rfl
    have eqy := plain_same hy hpe
    subst eqy
    obtain ⟨μ', r1, r2, r3⟩ := slice hs hx
    exact ⟨μ', VR.tuple_of (LR.cons r1 (LR.cons (.plain hpe) LR.nil)), r2, r3⟩

def freshH (f : FuncId) (ty : Option TypeId) (g : List Value → Option (List Value × Option Value)) : Hook := fun f' args h =>
  if Nat.beq f' f then (match g args with
    | some (cells, e) => some (some (rowV h.next cells.length e, (h.new (.cells cells true [] ty)).2))
    | none => none) else none

def rowIs (i n c : Nat) (sp : Option Nat) (cells : List Value) : Bool := Nat.beq n cells.length && (Nat.beq c cells.length && (match sp with
  | none => true
  | some s => Nat.beq s 1))

def rowObj (ty : Option TypeId) (h' : AH) (i : Nat) (cells : List Value) : Bool :=
  match h'.get i with
  | .cells c' true _ ty' => veqL (veq 5) c' cells && decide (ty' = ty)
  | _ => false

def saysFresh (ty : Option TypeId) (r : Out) (cells : List Value) (e : Option Value) : Bool :=
  match r, e with
  | some (.tuple vs, h'), some e => match vs.toList with
    | [.slice (some ⟨i, 0, sp⟩) n c, e'] => rowIs i n c sp cells && (veq 5 e' e && rowObj ty h' i cells)
    | _ => false
  | some (.slice (some ⟨i, 0, sp⟩) n c, h'), none => rowIs i n c sp cells && rowObj ty h' i cells
  | _, _ => false

theorem rowIs_sound {i n c : Nat} {sp : Option Nat} {cells : List Value} (h : rowIs i n c sp cells = true) :
    Value.slice (some ⟨i, 0, sp⟩) n c = .slice (some ⟨i, 0, some 1⟩) cells.length cells.length ∨ Value.slice (some ⟨i, 0, sp⟩) n c = .slice (some ⟨i, 0, none⟩) cells.length cells.length := by
  simp only [rowIs, Bool.and_eq_true] at h
  obtain ⟨h1, h2, h3⟩ := h
  rw [Nat.eq_of_beq_eq_true h1, Nat.eq_of_beq_eq_true h2]
  cases sp with
  | none => exact .inr rfl
  | some s => rw [Nat.eq_of_beq_eq_true h3]; exact .inl rfl

theorem rowObj_sound {ty : Option TypeId} {h' : AH} {i : Nat} {cells : List Value} (h : rowObj ty h' i cells = true) : ∃ par, h'.get i = .cells cells true par ty := by
  unfold rowObj at h
  split at h
  · rename_i c' par ty' hg
    simp only [Bool.and_eq_true, decide_eq_true_eq] at h
    obtain ⟨h5, rfl⟩ := h
    rw [← veqL_sound (fun a b => veq_sound 5 a b) _ _ h5]
    exact ⟨par, hg⟩
  · cases h

theorem saysFresh_local {call : CallF} (hc : CallOk P call) {f : FuncId} {args cells : List Value} {ty : Option TypeId} {e : Option Value} (h : saysFresh ty (call f args AH.empty) cells e = true) :
    Local P 0 f args AH.empty fun v' h' => ∃ i par, (v' = rowV i cells.length e ∨ v' = rowK i cells.length e) ∧ h'.get i = .cells cells true par ty := by
  have fin : ∀ (v : Value) (h1 : AH), call f args AH.empty = some (v, h1) → (∃ i par, (v = rowV i cells.length e ∨ v = rowK i cells.length e) ∧ h1.get i = .cells cells true par ty) →
      Local P 0 f args AH.empty fun v' h' => ∃ i par, (v' = rowV i cells.length e ∨ v' = rowK i cells.length e) ∧ h'.get i = .cells cells true par ty := by
    intro v h1 hcall q
    exact fun F w0 μ w args' H hl => (local_call hc (Nat.zero_le _) hcall F w0 μ w args' H hl).mono fun v' w' ⟨v, h'', ⟨ev, eh⟩, r⟩ => ⟨v, h'', by rw [ev, eh]; exact q, r⟩
  unfold saysFresh at h
  split at h
  · rename_i vs h' e hcall
    split at h
    · rename_i i sp n c e' hvs
      simp only [Bool.and_eq_true] at h
      obtain ⟨h1, h3, h4⟩ := h
      obtain ⟨par, hg⟩ := rowObj_sound h4
      have e3 := veq_sound _ _ _ h3
      subst e3
      refine fin _ _ hcall ⟨i, par, ?_, hg⟩
      have ev : vs = #[.slice (some ⟨i, 0, sp⟩) n c, e'] := arr_eq (by simpa using hvs)
      subst ev
      rcases rowIs_sound h1 with q | q
      · exact .inl (by rw [q]; rfl)
      · exact .inr (by rw [q]; rfl)
    · cases h
  · rename_i i sp n c h' hcall
    simp only [Bool.and_eq_true] at h
    obtain ⟨par, hg⟩ := rowObj_sound h.2
    refine fin _ _ hcall ⟨i, par, ?_, hg⟩
    rcases rowIs_sound h.1 with q | q
    · exact .inl q
    · exact .inr q
  · cases h

theorem freshH_ok {f : FuncId} {ty : Option TypeId} {g : List Value → Option (List Value × Option Value)}
    (L : ∀ args cells e, g args = some (cells, e) → (∀ a ∈ args, plainV a = true) ∧ (cells.all plainV && (match e with | some v => plainV v | none => true)) = true ∧ Local P 0 f args AH.empty fun v' h' => ∃ i par, (v' = rowV i cells.length e ∨ v' = rowK i cells.length e) ∧ h'.get i = .cells cells true par ty) :
    HookOk P (freshH f ty g) := by
  intro f' args h v h' he F w0 μ w args' H hl
  unfold freshH at he
  by_cases h1 : Nat.beq f' f = true
  · simp only [h1, if_true] at he
    cases hg : g args with
    | none => rw [hg] at he; cases he
    | some p =>
      obtain ⟨cells, e⟩ := p
      rw [hg] at he
      simp only [Option.some.injEq, Prod.mk.injEq] at he
      obtain ⟨rfl, rfl⟩ := he
      have := Nat.eq_of_beq_eq_true h1
      subst this
      obtain ⟨q1, q2, q3⟩ := L args cells e hg
      simp only [Bool.and_eq_true, List.all_eq_true] at q2
      exact fresh_ok q3 q1 q2.1 (fun v hv => by subst hv; exact q2.2) h H hl
  · simp [h1] at he

def fgrid2 (A B : Nat) (val : Nat → Nat → Option (List Value × Option Value)) : List Value → Option (List Value × Option Value) := fun args =>
  match args with
  | [.int .i64 (.ofNat a), .int .i64 (.ofNat b)] => if Nat.blt a A then (if Nat.blt b B then val a b else none) else none
  | _ => none

def frow2 (ty : Option TypeId) (call : CallF) (f : FuncId) (B : Nat) (val : Nat → Nat → Option (List Value × Option Value)) (a : Nat) : Bool :=
  (List.range B).all fun b => match val a b with
    | some (cells, e) => cells.all plainV && (match e with | some v => plainV v | none => true) && saysFresh ty (call f [.int .i64 (.ofNat a), .int .i64 (.ofNat b)] AH.empty) cells e
    | none => true

theorem fgrid2_ok {call : CallF} (hc : CallOk P call) {f : FuncId} {ty : Option TypeId} {A B : Nat} {val : Nat → Nat → Option (List Value × Option Value)} (h : ∀ a, a < A → frow2 ty call f B val a = true) : HookOk P (freshH f ty (fgrid2 A B val)) := by
  refine freshH_ok fun args cells e hg => ?_
  unfold fgrid2 at hg
  split at hg
  · rename_i a b
    by_cases ha : Nat.blt a A = true
    · by_cases hb : Nat.blt b B = true
      · simp only [ha, hb, if_true] at hg
        have h1 := h a (blt_lt ha)
        simp only [frow2, List.all_eq_true, List.mem_range] at h1
        have h2 := h1 b (blt_lt hb)
        simp only [hg] at h2
        rw [Bool.and_eq_true] at h2
        exact ⟨by simp [plainV], h2.1, saysFresh_local hc h2.2⟩
      · simp [ha, hb] at hg
    · simp [ha] at hg
  · cases hg


def fgrid3 (A B C : Nat) (val : Nat → Nat → Nat → Option (List Value × Option Value)) : List Value → Option (List Value × Option Value) := fun args =>
  match args with
  | [.int .i64 (.ofNat a), .int .i64 (.ofNat b), .int .i64 (.ofNat c)] => if Nat.blt a A then (if Nat.blt b B then (if Nat.blt c C then val a b c else none) else none) else none
  | _ => none

def frow3 (ty : Option TypeId) (call : CallF) (f : FuncId) (B C : Nat) (val : Nat → Nat → Nat → Option (List Value × Option Value)) (a : Nat) : Bool :=
  (List.range B).all fun b => (List.range C).all fun c => match val a b c with
    | some (cells, e) => cells.all plainV && (match e with | some v => plainV v | none => true) && saysFresh ty (call f [.int .i64 (.ofNat a), .int .i64 (.ofNat b), .int .i64 (.ofNat c)] AH.empty) cells e
    | none => true

theorem fgrid3_ok {call : CallF} (hc : CallOk P call) {f : FuncId} {ty : Option TypeId} {A B C : Nat} {val : Nat → Nat → Nat → Option (List Value × Option Value)} (h : ∀ a, a < A → frow3 ty call f B C val a = true) : HookOk P (freshH f ty (fgrid3 A B C val)) := by
  refine freshH_ok fun args cells e hg => ?_
  unfold fgrid3 at hg
  split at hg
  · rename_i a b c
    by_cases ha : Nat.blt a A = true
    · by_cases hb : Nat.blt b B = true
      · by_cases hcc : Nat.blt c C = true
        · simp only [ha, hb, hcc, if_true] at hg
          have h1 := h a (blt_lt ha)
          simp only [frow3, List.all_eq_true, List.mem_range] at h1
          have h2 := h1 b (blt_lt hb) c (blt_lt hcc)
          simp only [hg] at h2
          rw [Bool.and_eq_true] at h2
          exact ⟨by simp [plainV], h2.1, saysFresh_local hc h2.2⟩
        · simp [ha, hb, hcc] at hg
      · simp [ha, hb] at hg
    · simp [ha] at hg
  · cases hg

end
end Go.R
namespace Go.R
open Go Go.RowKit
/-- A law's walk: plain arguments, nothing kept. -/
theorem walk_true {P : Program} {f : FuncId} {fn : Func} {c : Code} (hf : P.funcs[f]? = some fn) (hb : fn.body = some c) {args : List Value} (hp : (args.all plainV) = true)
    (hr : Runs P 0 c (entry fn args AH.empty) (EndsAs P fn fun v' _ => v' = .bool true)) (w : World) (hlaid : Laid (fun b => b < w.heap.size) w) :
    Calls P f args.toArray w fun e w' => e = .returned (.bool true) ∧ Below w.heap.size w w' := by
  have hl : LR (fun _ => none) args args.toArray.toList := LR.of_plain fun v hv => List.all_eq_true.1 hp v hv
  refine (calls_of (args := args) (R := fun v' _ => v' = .bool true) hf hb hr (HR.start w hlaid) hl).mono fun e w' hh => ?_
  obtain ⟨v', rfl, v, h', rfl, μ', q1, q2, _⟩ := hh
  rw [q1.bool_inv]
  exact ⟨rfl, q2.below⟩
end Go.R
