/- How the abstract machine's values and heap stand to the model's: the relation, and what single steps on memory do to it. -/
import Derived.Below
import Derived.Laws.Cells
import Derived.Test.YtbcjmmbmeebfgaaDoorRDefs
import Derived.Test.YtbcjmmbmeebfgaaDoorRTags
namespace Go.R
set_option linter.unusedVariables false
set_option linter.unusedSimpArgs false
open Go Go.RowKit

/-! ### The tree -/
theorem T.get_set {α : Type} : ∀ (f : Nat) (t : T α) (k : Nat) (x : α) (j : Nat), k < f → (T.setF f t k x).get j = if j = k then some x else t.get j := by
  intro f
  induction f with
  | zero => intro t k x j h; omega
  | succ f ih =>
    intro t k x j h
    cases k with
    | zero =>
      cases t with
      | nil => cases j with
        | zero => simp [T.sNZ, T.sZ, T.sNS, T.sS, T.gN, T.gZ, T.gS]
        | succ j => simp [T.sNZ, T.sZ, T.sNS, T.sS, T.gN, T.gZ, T.gS]
      | node l v r => cases j with
        | zero => simp [T.sNZ, T.sZ, T.sNS, T.sS, T.gN, T.gZ, T.gS]
        | succ j => simp [T.sNZ, T.sZ, T.sNS, T.sS, T.gN, T.gZ, T.gS]
    | succ k =>
      have hk : k / 2 < f := by omega
      cases t with
      | nil =>
        by_cases h2 : k % 2 = 0
        · cases j with
          | zero => simp [T.sNZ, T.sZ, T.sNS, T.sS, T.gN, T.gZ, T.gS, h2]
          | succ j =>
            by_cases hj : j % 2 = 0
            · simp only [T.sNZ, T.sZ, T.sNS, T.sS, h2, if_true, T.gN, T.gZ, T.gS, hj, ih .nil _ x _ hk]
              by_cases e : j = k
              · subst e; simp
              · rw [if_neg (by omega), if_neg (by omega)]
            · simp only [T.sNZ, T.sZ, T.sNS, T.sS, h2, if_true, T.gN, T.gZ, T.gS, hj, if_false]
              rw [if_neg (by omega)]
        · cases j with
          | zero => simp [T.sNZ, T.sZ, T.sNS, T.sS, T.gN, T.gZ, T.gS, h2]
          | succ j =>
            by_cases hj : j % 2 = 0
            · simp only [T.sNZ, T.sZ, T.sNS, T.sS, h2, if_false, T.gN, T.gZ, T.gS, hj, if_true]
              rw [if_neg (by omega)]
            · simp only [T.sNZ, T.sZ, T.sNS, T.sS, h2, if_false, T.gN, T.gZ, T.gS, hj, ih .nil _ x _ hk]
              by_cases e : j = k
              · subst e; simp
              · rw [if_neg (by omega), if_neg (by omega)]
      | node l v r =>
        by_cases h2 : k % 2 = 0
        · cases j with
          | zero => simp [T.sNZ, T.sZ, T.sNS, T.sS, T.gN, T.gZ, T.gS, h2]
          | succ j =>
            by_cases hj : j % 2 = 0
            · simp only [T.sNZ, T.sZ, T.sNS, T.sS, h2, if_true, T.gN, T.gZ, T.gS, hj, ih l _ x _ hk]
              by_cases e : j = k
              · subst e; simp
              · rw [if_neg (by omega), if_neg (by omega)]
            · simp only [T.sNZ, T.sZ, T.sNS, T.sS, h2, if_true, T.gN, T.gZ, T.gS, hj, if_false]
              rw [if_neg (by omega)]
        · cases j with
          | zero => simp [T.sNZ, T.sZ, T.sNS, T.sS, T.gN, T.gZ, T.gS, h2]
          | succ j =>
            by_cases hj : j % 2 = 0
            · simp only [T.sNZ, T.sZ, T.sNS, T.sS, h2, if_false, T.gN, T.gZ, T.gS, hj, if_true]
              rw [if_neg (by omega)]
            · simp only [T.sNZ, T.sZ, T.sNS, T.sS, h2, if_false, T.gN, T.gZ, T.gS, hj, ih r _ x _ hk]
              by_cases e : j = k
              · subst e; simp
              · rw [if_neg (by omega), if_neg (by omega)]

theorem T.get_set' {α : Type} (t : T α) (k : Nat) (x : α) (j : Nat) : (t.set k x).get j = if j = k then some x else t.get j :=
  T.get_set (k + 1) t k x j (by omega)

theorem AH.get_put (h : AH) (i : Nat) (o : AObj) (j : Nat) : (h.put i o).get j = if j = i then o else h.get j := by
  simp only [AH.get, AH.put, T.get_set']
  split <;> rfl
@[simp] theorem AH.next_put (h : AH) (i : Nat) (o : AObj) : (h.put i o).next = h.next := rfl
theorem AH.get_new (h : AH) (o : AObj) (j : Nat) : (h.new o).2.get j = if j = h.next then o else h.get j := by
  simp only [AH.get, AH.new, T.get_set']
  split <;> rfl
@[simp] theorem AH.next_new (h : AH) (o : AObj) : (h.new o).2.next = h.next + 1 := rfl
@[simp] theorem AH.fst_new (h : AH) (o : AObj) : (h.new o).1 = h.next := rfl
@[simp] theorem AH.next_kill (l : List Nat) : ∀ h : AH, (h.kill l).next = h.next := by
  induction l with
  | nil => intro h; rfl
  | cons i l ih => intro h; simp [AH.kill, ih]
theorem AH.get_kill (l : List Nat) : ∀ (h : AH) (j : Nat), (h.kill l).get j = if j ∈ l then .dead else h.get j := by
  induction l with
  | nil => intro h j; simp [AH.kill]
  | cons i l ih =>
    intro h j
    simp only [AH.kill, ih, AH.get_put, List.mem_cons]
    by_cases h1 : j ∈ l
    · simp [h1]
    · by_cases h2 : j = i
      · simp [h2]
      · simp [h1, h2]

/-! ### Values -/
abbrev Mp := Nat → Option (Nat × Nat × Nat)

/-- An abstract value and the model's, under a map of places. -/
inductive VR (μ : Mp) : Value → Value → Prop
  | plain {v : Value} : plainV v = true → VR μ v v
  | ptr {i o b z e : Nat} : μ i = some (b, z, e) → VR μ (.pointer (some ⟨i, o, none⟩)) (.pointer (some ⟨b, z + o, none⟩))
  | slice {i o n c b z e : Nat} : μ i = some (b, z, e) → VR μ (.slice (some ⟨i, o, none⟩) n c) (.slice (some ⟨b, z + o, none⟩) n c)
  | sliceU {i o n c c' s b z e : Nat} : μ i = some (b, z, e) → n ≤ c → c ≤ c' → z + o + c' * (s + 1) ≤ e →
      VR μ (.slice (some ⟨i, o, some (s + 1)⟩) n c) (.slice (some ⟨b, z + o, none⟩) n c')
  | slice0 {i o c' : Nat} {a : Addr} : VR μ (.slice (some ⟨i, o, some 0⟩) 0 0) (.slice (some a) 0 c')
  | map {i b e : Nat} : μ i = some (b, 0, e) → VR μ (.map (some i)) (.map (some b))
  | func {fn : Fn} {f f' c c' : Array Value} : f.size = f'.size → (∀ (k : Nat) (v v' : Value), f[k]? = some v → f'[k]? = some v' → VR μ v v') →
      c.size = c'.size → (∀ (k : Nat) (v v' : Value), c[k]? = some v → c'[k]? = some v' → VR μ v v') → VR μ (.func fn f c) (.func fn f' c')
  | agg {a a' : Array Value} : a.size = a'.size → (∀ (k : Nat) (v v' : Value), a[k]? = some v → a'[k]? = some v' → VR μ v v') → VR μ (.agg a) (.agg a')
  | tuple {a a' : Array Value} : a.size = a'.size → (∀ (k : Nat) (v v' : Value), a[k]? = some v → a'[k]? = some v' → VR μ v v') → VR μ (.tuple a) (.tuple a')
  | iface {t : TypeId} {v v' : Value} : VR μ v v' → VR μ (.iface t v) (.iface t v')

def Sub (μ μ' : Mp) : Prop := ∀ i p, μ i = some p → μ' i = some p
theorem Sub.refl (μ : Mp) : Sub μ μ := fun _ _ h => h
theorem Sub.trans {a b c : Mp} (h : Sub a b) (k : Sub b c) : Sub a c := fun i p hi => k i p (h i p hi)

theorem VR.mono {μ μ' : Mp} (hs : Sub μ μ') {v v' : Value} (h : VR μ v v') : VR μ' v v' := by
  induction h with
  | plain h => exact .plain h
  | ptr h => exact .ptr (hs _ _ h)
  | slice h => exact .slice (hs _ _ h)
  | sliceU h a b c => exact .sliceU (hs _ _ h) a b c
  | slice0 => exact .slice0
  | map h => exact .map (hs _ _ h)
  | func h1 _ h3 _ ih1 ih2 => exact .func h1 ih1 h3 ih2
  | agg h1 _ ih => exact .agg h1 ih
  | tuple h1 _ ih => exact .tuple h1 ih
  | iface _ ih => exact .iface ih

/-- Lists of values, place by place. -/
def LR (μ : Mp) (l l' : List Value) : Prop := l.length = l'.length ∧ ∀ (k : Nat) (v v' : Value), l[k]? = some v → l'[k]? = some v' → VR μ v v'

theorem LR.mono {μ μ' : Mp} (hs : Sub μ μ') {l l' : List Value} (h : LR μ l l') : LR μ' l l' := ⟨h.1, fun k v v' a b => (h.2 k v v' a b).mono hs⟩
theorem LR.nil {μ : Mp} : LR μ [] [] := ⟨rfl, fun k v v' h => by simp at h⟩
theorem LR.cons {μ : Mp} {v v' : Value} {l l' : List Value} (hv : VR μ v v') (h : LR μ l l') : LR μ (v :: l) (v' :: l') := by
  refine ⟨by simp [h.1], fun k x x' a b => ?_⟩
  cases k with
  | zero => simp at a b; subst a; subst b; exact hv
  | succ k => simp at a b; exact h.2 k x x' a b
theorem LR.head {μ : Mp} {v v' : Value} {l l' : List Value} (h : LR μ (v :: l) (v' :: l')) : VR μ v v' := h.2 0 v v' rfl rfl
theorem LR.tail {μ : Mp} {v v' : Value} {l l' : List Value} (h : LR μ (v :: l) (v' :: l')) : LR μ l l' :=
  ⟨by have := h.1; simpa using this, fun k x x' a b => h.2 (k + 1) x x' (by simpa using a) (by simpa using b)⟩
theorem LR.at_ {μ : Mp} {l l' : List Value} (h : LR μ l l') {k : Nat} {v : Value} (hk : l[k]? = some v) : ∃ v', l'[k]? = some v' ∧ VR μ v v' := by
  have hlt : k < l.length := by
    rcases Nat.lt_or_ge k l.length with a | a
    · exact a
    · simp [List.getElem?_eq_none a] at hk
  have hlt' : k < l'.length := h.1 ▸ hlt
  exact ⟨l'[k], List.getElem?_eq_getElem hlt', h.2 k v _ hk (List.getElem?_eq_getElem hlt')⟩
theorem LR.back {μ : Mp} {l l' : List Value} (h : LR μ l l') {k : Nat} {v' : Value} (hk : l'[k]? = some v') : ∃ v, l[k]? = some v ∧ VR μ v v' := by
  have hlt : k < l'.length := by
    rcases Nat.lt_or_ge k l'.length with a | a
    · exact a
    · simp [List.getElem?_eq_none a] at hk
  have hlt' : k < l.length := h.1 ▸ hlt
  exact ⟨l[k], List.getElem?_eq_getElem hlt', h.2 k _ v' (List.getElem?_eq_getElem hlt') hk⟩
theorem LR.append {μ : Mp} {a a' b b' : List Value} (h : LR μ a a') (k : LR μ b b') : LR μ (a ++ b) (a' ++ b') := by
  refine ⟨by simp [h.1, k.1], fun j v v' x y => ?_⟩
  by_cases hj : j < a.length
  · rw [List.getElem?_append_left hj] at x
    rw [List.getElem?_append_left (h.1 ▸ hj)] at y
    exact h.2 j v v' x y
  · rw [List.getElem?_append_right (by omega)] at x
    rw [List.getElem?_append_right (by have := h.1; omega)] at y
    rw [← h.1] at y
    exact k.2 _ v v' x y
theorem LR.take {μ : Mp} {a a' : List Value} (h : LR μ a a') (n : Nat) : LR μ (a.take n) (a'.take n) := by
  refine ⟨by simp [h.1], fun j v v' x y => ?_⟩
  by_cases hj : j < n
  · rw [List.getElem?_take_of_lt hj] at x y; exact h.2 j v v' x y
  · rw [List.getElem?_take_eq_none (by omega)] at x; cases x
theorem LR.drop {μ : Mp} {a a' : List Value} (h : LR μ a a') (n : Nat) : LR μ (a.drop n) (a'.drop n) := by
  refine ⟨by simp [h.1], fun j v v' x y => ?_⟩
  rw [List.getElem?_drop] at x y
  exact h.2 _ v v' x y
theorem LR.of_plain {μ : Mp} {l : List Value} (h : ∀ v ∈ l, plainV v = true) : LR μ l l := by
  refine ⟨rfl, fun k v v' a b => ?_⟩
  rw [a] at b; cases b
  exact .plain (h v (List.mem_of_getElem? a))
theorem VR.agg_of {μ : Mp} {a a' : Array Value} (h : LR μ a.toList a'.toList) : VR μ (.agg a) (.agg a') :=
  .agg (by simpa using h.1) fun k v v' x y => h.2 k v v' (by simpa using x) (by simpa using y)
theorem VR.tuple_of {μ : Mp} {a a' : Array Value} (h : LR μ a.toList a'.toList) : VR μ (.tuple a) (.tuple a') :=
  .tuple (by simpa using h.1) fun k v v' x y => h.2 k v v' (by simpa using x) (by simpa using y)
theorem VR.func_of {μ : Mp} {fn : Fn} {f f' c c' : Array Value} (h : LR μ f.toList f'.toList) (k : LR μ c.toList c'.toList) : VR μ (.func fn f c) (.func fn f' c') :=
  .func (by simpa using h.1) (fun k v v' x y => h.2 k v v' (by simpa using x) (by simpa using y)) (by simpa using k.1) (fun j v v' x y => k.2 j v v' (by simpa using x) (by simpa using y))

theorem VR.undef {μ : Mp} : VR μ Go.undef Go.undef := VR.tuple_of LR.nil

/-! Inversions -/
section
variable {μ : Mp} {x : Value}
theorem VR.bool_inv {b : Bool} (h : VR μ (.bool b) x) : x = .bool b := by cases h; rfl
theorem VR.int_inv {k : IntKind} {n : Int} (h : VR μ (.int k n) x) : x = .int k n := by cases h; rfl
theorem VR.string_inv {s : ByteArray} (h : VR μ (.string s) x) : x = .string s := by cases h; rfl
theorem VR.agg_inv {a : Array Value} (h : VR μ (.agg a) x) : ∃ a', x = .agg a' ∧ LR μ a.toList a'.toList := by
  cases h with
  | plain h => simp [plainV] at h
  | agg h1 h2 => exact ⟨_, rfl, by simpa using h1, fun k v v' x y => h2 k v v' (by simpa using x) (by simpa using y)⟩
theorem VR.tuple_inv {a : Array Value} (h : VR μ (.tuple a) x) : ∃ a', x = .tuple a' ∧ LR μ a.toList a'.toList := by
  cases h with
  | plain h => simp [plainV] at h
  | tuple h1 h2 => exact ⟨_, rfl, by simpa using h1, fun k v v' x y => h2 k v v' (by simpa using x) (by simpa using y)⟩
theorem VR.func_inv {fn : Fn} {f c : Array Value} (h : VR μ (.func fn f c) x) : ∃ f' c', x = .func fn f' c' ∧ LR μ f.toList f'.toList ∧ LR μ c.toList c'.toList := by
  cases h with
  | plain h => simp [plainV] at h
  | func h1 h2 h3 h4 => exact ⟨_, _, rfl, ⟨by simpa using h1, fun k v v' x y => h2 k v v' (by simpa using x) (by simpa using y)⟩, ⟨by simpa using h3, fun k v v' x y => h4 k v v' (by simpa using x) (by simpa using y)⟩⟩
theorem VR.ptr_inv {i o : Nat} (h : VR μ (.pointer (some ⟨i, o, none⟩)) x) : ∃ b z e, μ i = some (b, z, e) ∧ x = .pointer (some ⟨b, z + o, none⟩) := by
  cases h with
  | plain h => simp [plainV] at h
  | ptr h => exact ⟨_, _, _, h, rfl⟩
theorem VR.slice_inv {i o n c : Nat} (h : VR μ (.slice (some ⟨i, o, none⟩) n c) x) : ∃ b z e, μ i = some (b, z, e) ∧ x = .slice (some ⟨b, z + o, none⟩) n c := by
  cases h with
  | plain h => simp [plainV] at h
  | slice h => exact ⟨_, _, _, h, rfl⟩
theorem VR.sliceU_inv {i o n c s : Nat} (h : VR μ (.slice (some ⟨i, o, some (s + 1)⟩) n c) x) :
    ∃ b z e c', μ i = some (b, z, e) ∧ n ≤ c ∧ c ≤ c' ∧ z + o + c' * (s + 1) ≤ e ∧ x = .slice (some ⟨b, z + o, none⟩) n c' := by
  cases h with
  | plain h => simp [plainV] at h
  | sliceU h a b c => exact ⟨_, _, _, _, h, a, b, c, rfl⟩
theorem VR.slice0_inv {i o n c : Nat} (h : VR μ (.slice (some ⟨i, o, some 0⟩) n c) x) : n = 0 ∧ c = 0 ∧ ∃ a c', x = .slice (some a) 0 c' := by
  cases h with
  | plain h => simp [plainV] at h
  | slice0 => exact ⟨rfl, rfl, _, _, rfl⟩
theorem VR.sliceN_inv {n c : Nat} (h : VR μ (.slice none n c) x) : n = 0 ∧ c = 0 ∧ x = .slice none 0 0 := by
  cases h with
  | plain h => simp [plainV] at h; obtain ⟨rfl, rfl⟩ := h; exact ⟨rfl, rfl, rfl⟩
theorem VR.map_inv {i : Nat} (h : VR μ (.map (some i)) x) : ∃ b e, μ i = some (b, 0, e) ∧ x = .map (some b) := by
  cases h with
  | plain h => simp [plainV] at h
  | map h => exact ⟨_, _, h, rfl⟩
theorem VR.mapN_inv (h : VR μ (.map none) x) : x = .map none := by cases h; rfl
theorem VR.ptrN_inv (h : VR μ (.pointer none) x) : x = .pointer none := by cases h; rfl
theorem VR.nilFunc_inv (h : VR μ .nilFunc x) : x = .nilFunc := by cases h; rfl
theorem VR.iface_inv {t : TypeId} {v : Value} (h : VR μ (.iface t v) x) : ∃ v', x = .iface t v' ∧ VR μ v v' := by
  cases h with
  | plain h => simp [plainV] at h
  | iface h => exact ⟨_, rfl, h⟩
end

/-- A value and the model's have as many cells, related place by place. -/
theorem VR.cells {μ : Mp} {v v' : Value} (h : VR μ v v') : LR μ v.cells.toList v'.cells.toList := by
  have one : ∀ {a b : Value}, VR μ a b → LR μ [a] [b] := fun h => LR.cons h LR.nil
  cases h with
  | agg h1 h2 => exact ⟨by simpa [Value.cells] using h1, fun k v v' x y => h2 k v v' (by simpa [Value.cells] using x) (by simpa [Value.cells] using y)⟩
  | plain h => cases v <;> first | exact one (.plain h) | (simp [plainV] at h)
  | ptr h => exact one (.ptr h)
  | slice h => exact one (.slice h)
  | sliceU h a b c => exact one (.sliceU h a b c)
  | slice0 => exact one .slice0
  | map h => exact one (.map h)
  | func h1 h2 h3 h4 => exact one (.func h1 h2 h3 h4)
  | tuple h1 h2 => exact one (.tuple h1 h2)
  | iface h => exact one (.iface h)

theorem VR.cellV {μ : Mp} {v v' : Value} (h : VR μ v v') : cellV v' = cellV v := by cases h <;> rfl
theorem cellV_one (v : Value) : Value.oneCell' v = cellV v := by cases v <;> rfl

/-! ### Objects -/
def AObj.wr : AObj → Bool
  | .cells _ live _ _ => live
  | .map _ => true
  | .str _ _ => true
  | .ghost _ => true
  | .dead => false

/-- The entries of a map. -/
def ER (μ : Mp) (es : List (Value × Value)) (ms : List MapEntry) : Prop :=
  es.length = ms.length ∧ ∀ (k : Nat) (x : Value × Value) (m : MapEntry), es[k]? = some x → ms[k]? = some m → m.key = x.1 ∧ VR μ x.2 m.val

/-- Stamps: none twice, all below the clock. -/
def Stamps (ms : List MapEntry) (cl : Nat) : Prop := (∀ m ∈ ms, m.born < cl) ∧ (ms.map (·.born)).Nodup

theorem Stamps.push {ms : List MapEntry} {cl : Nat} (h : Stamps ms cl) (k v : Value) : Stamps (ms ++ [{ key := k, val := v, born := cl }]) (cl + 1) := by
  refine ⟨fun m hm => ?_, ?_⟩
  · rcases List.mem_append.1 hm with h1 | h1
    · exact Nat.lt_succ_of_lt (h.1 m h1)
    · rw [List.mem_singleton.1 h1]; exact Nat.lt_succ_self _
  · rw [List.map_append]
    refine List.nodup_append.2 ⟨h.2, by simp, fun a ha b hb => ?_⟩
    obtain ⟨m, hm, rfl⟩ := List.mem_map.1 ha
    have := h.1 m hm
    simp at hb
    omega

theorem Stamps.of_map {ms ms' : List MapEntry} {cl : Nat} (h : Stamps ms cl) (e : (ms'.map (·.born)).Sublist (ms.map (·.born))) : Stamps ms' cl := by
  refine ⟨fun m hm => ?_, h.2.sublist e⟩
  obtain ⟨m0, h0, e0⟩ := List.mem_map.1 (e.subset (List.mem_map.2 ⟨m, hm, rfl⟩))
  have := h.1 m0 h0
  omega

def OR (μ : Mp) (ob : AObj) (b z e : Nat) (w : World) : Prop :=
  match ob with
  | .cells c live _ ty => ∃ (cs : Array Value) (el : TypeId) (fr : Nat × Nat), w.heap[b]? = some (.cells cs el fr) ∧ z + c.length ≤ e ∧ e ≤ cs.size ∧
      (∀ (k : Nat) (v : Value), c[k]? = some v → ∃ v', cs[z + k]? = some v' ∧ VR μ v v') ∧ (live = true → ∀ k, z ≤ k → k < e → ¬ (fr.1 ≤ k ∧ k < fr.2)) ∧ (∀ t, ty = some t → el = t ∧ z = 0)
  | .map es => z = 0 ∧ ∃ (ms : Array MapEntry) (cl : Nat), w.heap[b]? = some (.map ms cl) ∧ ER μ es ms.toList ∧ Stamps ms.toList cl
  | .str s pos => z = 0 ∧ w.heap[b]? = some (.stringIter s pos)
  | .ghost tag => ∃ es, Stands tag es ∧ z = 0 ∧ ∃ (ms : Array MapEntry) (cl : Nat), w.heap[b]? = some (.map ms cl) ∧ ER μ es ms.toList ∧ Stamps ms.toList cl
  | .dead => True

theorem ER.mono {μ μ' : Mp} (hs : Sub μ μ') {es : List (Value × Value)} {ms : List MapEntry} (h : ER μ es ms) : ER μ' es ms :=
  ⟨h.1, fun k x m a b => ⟨(h.2 k x m a b).1, (h.2 k x m a b).2.mono hs⟩⟩

theorem OR.mono {μ μ' : Mp} (hs : Sub μ μ') {ob : AObj} {b z e : Nat} {w : World} (h : OR μ ob b z e w) : OR μ' ob b z e w := by
  cases ob with
  | cells c live par ty =>
    obtain ⟨cs, el, fr, h1, h2, h3, h4, h5⟩ := h
    exact ⟨cs, el, fr, h1, h2, h3, fun k v hk => let ⟨v', a, b⟩ := h4 k v hk; ⟨v', a, b.mono hs⟩, h5⟩
  | map es => obtain ⟨h0, ms, cl, h1, h2, h3⟩ := h; exact ⟨h0, ms, cl, h1, h2.mono hs, h3⟩
  | str s pos => exact h
  | ghost tag => obtain ⟨es, hv, h0, ms, cl, h1, h2, h3⟩ := h; exact ⟨es, hv, h0, ms, cl, h1, h2.mono hs, h3⟩
  | dead => trivial

theorem OR.world {μ : Mp} {ob : AObj} {b z e : Nat} {w w' : World} (hw : w'.heap[b]? = w.heap[b]?) (h : OR μ ob b z e w) : OR μ ob b z e w' := by
  cases ob with
  | cells c live par ty => obtain ⟨cs, el, fr, h1, h2⟩ := h; exact ⟨cs, el, fr, hw.trans h1, h2⟩
  | map es => obtain ⟨h0, ms, cl, h1, h2⟩ := h; exact ⟨h0, ms, cl, hw.trans h1, h2⟩
  | str s pos => exact ⟨h.1, hw.trans h.2⟩
  | ghost tag => obtain ⟨es, hv, h0, ms, cl, h1, h2⟩ := h; exact ⟨es, hv, h0, ms, cl, hw.trans h1, h2⟩
  | dead => trivial

/-- Two objects that may lie in one block: one is gone; nobody writes; or the one that is written grew out of the other. -/
def share (x : AObj) (zi : Nat) (y : AObj) (zj j : Nat) : Prop :=
  match x, y with
  | .dead, _ => True
  | .cells c true par _, .cells c' false _ _ => j ∈ par ∧ zj + c'.length ≤ zi + c.length
  | _, _ => False

def okShare (x : AObj) (i zi : Nat) (y : AObj) (j zj : Nat) : Prop :=
  share x zi y zj j ∨ share y zj x zi i ∨ (x.wr = false ∧ y.wr = false)

/-- The laid tables stand in their variables, and nobody writes there. -/
def Laid (F : Nat → Prop) (w : World) : Prop := ∀ g l, (g, l) ∈ tabs → F g ∧ ∀ j, j < l.length → w.cell? ⟨g, j, none⟩ = some (.int .u8 ((l.getD j 0 : Nat) : Int))

structure HR (F : Nat → Prop) (w0 : World) (μ : Mp) (h : AH) (w : World) : Prop where
  dom : ∀ i p, μ i = some p → i < h.next
  obj : ∀ i b z e, μ i = some (b, z, e) → OR μ (h.get i) b z e w
  own : ∀ i b z e, μ i = some (b, z, e) → (h.get i).wr = true → ¬ F b
  sep : ∀ i j b zi ei zj ej, i ≠ j → μ i = some (b, zi, ei) → μ j = some (b, zj, ej) → okShare (h.get i) i zi (h.get j) j zj
  par : ∀ i c l p ty, μ i ≠ none → h.get i = .cells c l p ty → ∀ j, j ∈ p → μ j ≠ none
  os : w.os = w0.os
  tape : w.tape = w0.tape
  output : w.output = w0.output
  size : w0.heap.size ≤ w.heap.size
  fr : ∀ b, F b → b < w0.heap.size ∧ w.heap[b]? = w0.heap[b]?
  tab : Laid F w0

theorem Laid.keep {F G : Nat → Prop} {w w' : World} (L : Laid F w) (hG : ∀ b, F b → G b) (hw : ∀ b, F b → w'.heap[b]? = w.heap[b]?) : Laid G w' := fun g l hm => by
  obtain ⟨h1, h2⟩ := L g l hm
  refine ⟨hG g h1, fun j hj => ?_⟩
  have := h2 j hj
  unfold World.cell? at this ⊢
  rw [hw g h1]
  exact this
theorem HR.laidIn {F : Nat → Prop} {w0 : World} {μ : Mp} {h : AH} {w : World} (H : HR F w0 μ h w) {G : Nat → Prop} (hG : ∀ b, F b → G b) : Laid G w :=
  H.tab.keep hG fun b hb => (H.fr b hb).2
theorem HR.laidNow {F : Nat → Prop} {w0 : World} {μ : Mp} {h : AH} {w : World} (H : HR F w0 μ h w) : Laid (fun b => b < w.heap.size) w :=
  H.laidIn fun b hb => Nat.lt_of_lt_of_le (H.fr b hb).1 H.size

/-- What a step does to the map and to what is not yet born. -/
structure Ext (μ μ' : Mp) (h h' : AH) : Prop where
  sub : Sub μ μ'
  next : h.next ≤ h'.next
  unborn : ∀ i, i < h.next → μ i = none → μ' i = none ∧ h'.get i = h.get i

theorem Ext.refl (μ : Mp) (h : AH) : Ext μ μ h h := ⟨Sub.refl μ, Nat.le_refl _, fun _ _ h => ⟨h, rfl⟩⟩
theorem Ext.trans {a b c : Mp} {x y z : AH} (h : Ext a b x y) (k : Ext b c y z) : Ext a c x z :=
  ⟨h.sub.trans k.sub, Nat.le_trans h.next k.next, fun i hi hn =>
    let ⟨h1, h2⟩ := h.unborn i hi hn
    let ⟨k1, k2⟩ := k.unborn i (Nat.lt_of_lt_of_le hi h.next) h1
    ⟨k1, k2.trans h2⟩⟩

theorem HR.congr {F : Nat → Prop} {w0 : World} {μ : Mp} {h : AH} {w w' : World} (H : HR F w0 μ h w) (hh : w'.heap = w.heap) (ho : w'.os = w.os) (ht : w'.tape = w.tape) (hp : w'.output = w.output) : HR F w0 μ h w' where
  dom := H.dom
  obj := fun i b z e hi => (H.obj i b z e hi).world (by rw [hh])
  own := H.own
  sep := H.sep
  par := H.par
  os := ho.trans H.os
  tape := ht.trans H.tape
  output := hp.trans H.output
  size := by rw [hh]; exact H.size
  fr := fun b hb => by rw [hh]; exact H.fr b hb
  tab := H.tab

/-- A mapped object that is not gone lies in a block of the world. -/
theorem HR.inb {F : Nat → Prop} {w0 : World} {μ : Mp} {h : AH} {w : World} (H : HR F w0 μ h w) {i b z e : Nat} (hi : μ i = some (b, z, e)) (hd : h.get i ≠ .dead) : b < w.heap.size := by
  have := H.obj i b z e hi
  rcases ho : h.get i with ⟨c, live, par, ty⟩ | es | ⟨s, pos⟩ | tag | _
  · rw [ho] at this; obtain ⟨cs, el, fr, h1, _⟩ := this; exact (Array.getElem?_eq_some_iff.1 h1).1
  · rw [ho] at this; obtain ⟨_, ms, cl, h1, _⟩ := this; exact (Array.getElem?_eq_some_iff.1 h1).1
  · rw [ho] at this; exact (Array.getElem?_eq_some_iff.1 this.2).1
  · rw [ho] at this; obtain ⟨_, _, _, ms, cl, h1, _⟩ := this; exact (Array.getElem?_eq_some_iff.1 h1).1
  · exact absurd ho hd

def Mp.add (μ : Mp) (i : Nat) (p : Nat × Nat × Nat) : Mp := fun j => if j = i then some p else μ j
theorem Mp.add_sub {μ : Mp} {i : Nat} {p : Nat × Nat × Nat} (h : μ i = none) : Sub μ (μ.add i p) := fun j q hj => by
  unfold Mp.add
  split
  · rename_i e; subst e; rw [h] at hj; cases hj
  · exact hj

theorem HR.none_next {F : Nat → Prop} {w0 : World} {μ : Mp} {h : AH} {w : World} (H : HR F w0 μ h w) {i : Nat} (hi : h.next ≤ i) : μ i = none := by
  cases hm : μ i with
  | none => rfl
  | some p => have := H.dom i p hm; omega

/-- A new block of the model for an object that is not born yet. -/
theorem HR.born {F : Nat → Prop} {w0 : World} {μ : Mp} {h : AH} {w : World} (H : HR F w0 μ h w) (i : Nat) (hi : i < h.next) (hn : μ i = none) (o : Obj) (e : Nat)
    (hpar : ∀ c l p ty, h.get i = .cells c l p ty → ∀ j, j ∈ p → (μ.add i (w.heap.size, 0, e)) j ≠ none)
    (ho : OR (μ.add i (w.heap.size, 0, e)) (h.get i) w.heap.size 0 e (w.alloc o)) : HR F w0 (μ.add i (w.heap.size, 0, e)) h (w.alloc o) where
  dom := fun j p hj => by
    unfold Mp.add at hj
    split at hj
    · rename_i e; subst e; exact hi
    · exact H.dom j p hj
  obj := fun j b z e' hj => by
    unfold Mp.add at hj
    split at hj
    · rename_i ej; subst ej; cases hj; exact ho
    · have := (H.obj j b z e' hj).mono (Mp.add_sub (p := (w.heap.size, 0, e)) hn)
      by_cases hd : h.get j = .dead
      · rw [hd]; trivial
      · exact this.world (Below.heap_alloc w o b (H.inb hj hd))
  own := fun j b z e' hj hw => by
    unfold Mp.add at hj
    split at hj
    · cases hj; intro hF; have := (H.fr _ hF).1; have := H.size; omega
    · exact H.own j b z e' hj hw
  sep := fun j k b zj ej zk ek hne hj hk => by
    unfold Mp.add at hj hk
    split at hj
    · rename_i e1; subst e1; cases hj
      split at hk
      · rename_i e2; exact absurd e2.symm hne
      · by_cases hd : h.get k = .dead
        · exact .inr (.inl (by rw [hd]; trivial))
        · have := H.inb hk hd; omega
    · split at hk
      · rename_i e2; subst e2; cases hk
        by_cases hd : h.get j = .dead
        · exact .inl (by rw [hd]; trivial)
        · have := H.inb hj hd; omega
      · exact H.sep j k b zj ej zk ek hne hj hk
  par := fun j c l p ty hj hg k hk => by
    by_cases e1 : j = i
    · subst e1; exact hpar c l p ty hg k hk
    · unfold Mp.add at hj ⊢
      rw [if_neg e1] at hj
      split
      · simp
      · exact H.par j c l p ty hj hg k hk
  os := H.os
  tape := H.tape
  output := H.output
  size := by have := H.size; simp; omega
  fr := fun b hb => ⟨(H.fr b hb).1, by rw [Below.heap_alloc w o b (by have := (H.fr b hb).1; have := H.size; omega)]; exact (H.fr b hb).2⟩
  tab := H.tab

/-- An object that is laid into the abstract heap and is not born yet. -/
theorem HR.laid {F : Nat → Prop} {w0 : World} {μ : Mp} {h : AH} {w : World} (H : HR F w0 μ h w) (o : AObj) : HR F w0 μ (h.new o).2 w where
  dom := fun j p hj => by have := H.dom j p hj; simp; omega
  obj := fun j b z e hj => by rw [AH.get_new, if_neg (by have := H.dom j _ hj; omega)]; exact H.obj j b z e hj
  own := fun j b z e hj => by rw [AH.get_new, if_neg (by have := H.dom j _ hj; omega)]; exact H.own j b z e hj
  sep := fun j k b zj ej zk ek hne hj hk => by
    rw [AH.get_new, AH.get_new, if_neg (by have := H.dom j _ hj; omega), if_neg (by have := H.dom k _ hk; omega)]; exact H.sep j k b zj ej zk ek hne hj hk
  par := fun j c l p ty hj hg => by
    rw [AH.get_new, if_neg (by cases hm : μ j with | none => exact absurd hm hj | some q => have := H.dom j q hm; omega)] at hg
    exact H.par j c l p ty hj hg
  os := H.os
  tape := H.tape
  output := H.output
  size := H.size
  fr := H.fr
  tab := H.tab

theorem Ext.laid (μ : Mp) (h : AH) (o : AObj) : Ext μ μ h (h.new o).2 :=
  ⟨Sub.refl μ, by simp, fun i hi hn => ⟨hn, by rw [AH.get_new, if_neg (by omega)]⟩⟩
theorem Ext.born {μ : Mp} {h h' : AH} {i : Nat} {p : Nat × Nat × Nat} (E : Ext μ μ h h') (hi : h.next ≤ i) (hn : μ i = none) : Ext μ (μ.add i p) h h' :=
  ⟨Mp.add_sub hn, E.next, fun j hj hm => ⟨by unfold Mp.add; rw [if_neg (by omega)]; exact hm, (E.unborn j hj hm).2⟩⟩

/-- Both at once: a new object, and its block. -/
theorem HR.new {F : Nat → Prop} {w0 : World} {μ : Mp} {h : AH} {w : World} (H : HR F w0 μ h w) (ob : AObj) (o : Obj) (e : Nat)
    (hpar : ∀ c l p ty, ob = .cells c l p ty → ∀ j, j ∈ p → μ j ≠ none)
    (ho : OR (μ.add h.next (w.heap.size, 0, e)) ob w.heap.size 0 e (w.alloc o)) :
    HR F w0 (μ.add h.next (w.heap.size, 0, e)) (h.new ob).2 (w.alloc o) ∧ Ext μ (μ.add h.next (w.heap.size, 0, e)) h (h.new ob).2 := by
  have hn := H.none_next (Nat.le_refl h.next)
  exact ⟨(H.laid ob).born h.next (by simp) hn o e (fun c l p ty hg j hj => by
    rw [AH.get_new, if_pos rfl] at hg
    have := hpar c l p ty hg j hj
    unfold Mp.add; split <;> simp_all) (by rw [AH.get_new, if_pos rfl]; exact ho), (Ext.laid μ h ob).born (Nat.le_refl _) hn⟩

/-- One block of the world is another one now; nothing else has turned. -/
structure Wrote (w w' : World) (b : Nat) (o : Obj) : Prop where
  os : w'.os = w.os
  tape : w'.tape = w.tape
  output : w'.output = w.output
  size : w'.heap.size = w.heap.size
  at_ : w'.heap[b]? = some o
  other : ∀ k, k ≠ b → w'.heap[k]? = w.heap[k]?

theorem kill_get_cases (h : AH) (l : List Nat) (i j : Nat) (o : AObj) :
    ((h.kill l).put i o).get j = if j = i then o else if j ∈ l then .dead else h.get j := by
  rw [AH.get_put, AH.get_kill]

/-- A write into an object that is written: those it grew out of are gone. -/
theorem HR.wrote {F : Nat → Prop} {w0 : World} {μ : Mp} {h : AH} {w w' : World} (H : HR F w0 μ h w) {i b z e : Nat} (hi : μ i = some (b, z, e)) {o : Obj} (W : Wrote w w' b o)
    (hw : (h.get i).wr = true) (par : List Nat) (hp : ∀ c live p ty, h.get i = .cells c live p ty → p = par)
    (ob : AObj) (hpo : ∀ c l p ty, ob = .cells c l p ty → ∀ j, j ∈ p → μ j ≠ none) (hob : OR μ ob b z e w') : HR F w0 μ ((h.kill par).put i ob) w' := by
  -- whoever shares the block is gone behind the step
  have gone : ∀ j zj ej, j ≠ i → μ j = some (b, zj, ej) → ((h.kill par).put i ob).get j = .dead := by
    intro j zj ej hne hj
    rw [kill_get_cases, if_neg hne]
    split
    · rfl
    · rename_i hmem
      rcases H.sep i j b z e zj ej (Ne.symm hne) hi hj with hs | hs | hs
      · rcases ho : h.get i with ⟨c, live, p, ty⟩ | es | ⟨s, pos⟩ | tag | _
        · rw [ho] at hs
          rcases hoj : h.get j with ⟨c', live', p', ty'⟩ | es' | ⟨s', pos'⟩ | tag' | _
          · rw [hoj] at hs
            cases live <;> cases live' <;> simp [share] at hs
            have := hp c true p ty ho
            subst this
            exact absurd hs.1 hmem
          · rw [hoj] at hs; cases live <;> simp [share] at hs
          · rw [hoj] at hs; cases live <;> simp [share] at hs
          · rw [hoj] at hs; cases live <;> simp [share] at hs
          · rfl
        · rw [ho] at hs; cases hoj : h.get j <;> rw [hoj] at hs <;> simp [share] at hs ⊢
        · rw [ho] at hs; cases hoj : h.get j <;> rw [hoj] at hs <;> simp [share] at hs ⊢
        · rw [ho] at hs; cases hoj : h.get j <;> rw [hoj] at hs <;> simp [share] at hs ⊢
        · rw [ho] at hw; simp [AObj.wr] at hw
      · rcases hoj : h.get j with ⟨c', live', p', ty'⟩ | es' | ⟨s', pos'⟩ | tag' | _
        · rw [hoj] at hs
          rcases ho : h.get i with ⟨c, live, p, ty⟩ | es | ⟨s, pos⟩ | tag | _
          · rw [ho] at hs hw; cases live <;> cases live' <;> simp [share, AObj.wr] at hs hw
          · rw [ho] at hs; cases live' <;> simp [share] at hs
          · rw [ho] at hs; cases live' <;> simp [share] at hs
          · rw [ho] at hs; cases live' <;> simp [share] at hs
          · rw [ho] at hw; simp [AObj.wr] at hw
        · rw [hoj] at hs; cases ho : h.get i <;> rw [ho] at hs <;> simp [share] at hs
        · rw [hoj] at hs; cases ho : h.get i <;> rw [ho] at hs <;> simp [share] at hs
        · rw [hoj] at hs; cases ho : h.get i <;> rw [ho] at hs <;> simp [share] at hs
        · rfl
      · rw [hs.1] at hw; cases hw
  have hFb : ¬ F b := H.own i b z e hi hw
  refine ⟨fun j p hj => ?_, fun j b' z' e' hj => ?_, fun j b' z' e' hj hjw => ?_, fun j k b' zj ej zk ek hne hj hk => ?_, fun j c l p ty hj hg k hk => ?_, W.os.trans H.os, W.tape.trans H.tape, W.output.trans H.output, ?_, fun c hc => ?_, H.tab⟩
  · simpa using H.dom j p hj
  · by_cases e1 : j = i
    · subst e1
      rw [hi] at hj; cases hj
      rw [kill_get_cases, if_pos rfl]; exact hob
    · by_cases e2 : b' = b
      · subst e2; rw [gone j z' e' e1 hj]; trivial
      · rw [kill_get_cases, if_neg e1]
        split
        · trivial
        · exact (H.obj j b' z' e' hj).world (W.other b' e2)
  · by_cases e1 : j = i
    · subst e1; rw [hi] at hj; cases hj; exact hFb
    · rw [kill_get_cases, if_neg e1] at hjw
      split at hjw
      · simp [AObj.wr] at hjw
      · exact H.own j b' z' e' hj hjw
  · by_cases e1 : j = i
    · subst e1
      rw [hi] at hj; cases hj
      exact .inr (.inl (by rw [gone k zk ek (Ne.symm hne) hk]; trivial))
    · by_cases e2 : k = i
      · subst e2
        rw [hi] at hk; cases hk
        exact .inl (by rw [gone j zj ej e1 hj]; trivial)
      · rw [kill_get_cases, kill_get_cases, if_neg e1, if_neg e2]
        by_cases m1 : j ∈ par
        · exact .inl (by rw [if_pos m1]; trivial)
        · by_cases m2 : k ∈ par
          · exact .inr (.inl (by rw [if_pos m2]; trivial))
          · rw [if_neg m1, if_neg m2]; exact H.sep j k b' zj ej zk ek hne hj hk
  · by_cases e1 : j = i
    · subst e1
      rw [kill_get_cases, if_pos rfl] at hg
      exact hpo c l p ty hg k hk
    · rw [kill_get_cases, if_neg e1] at hg
      split at hg
      · cases hg
      · exact H.par j c l p ty hj hg k hk
  · rw [W.size]; exact H.size
  · refine ⟨(H.fr c hc).1, ?_⟩
    rw [W.other c (fun e => hFb (e ▸ hc))]
    exact (H.fr c hc).2

theorem Ext.wrote {F : Nat → Prop} {w0 : World} {μ : Mp} {h : AH} {w : World} (H : HR F w0 μ h w) {i : Nat} {p : Nat × Nat × Nat} (hi : μ i = some p) (par : List Nat) (ob : AObj)
    (hpar : ∀ j, j ∈ par → μ j ≠ none) : Ext μ μ h ((h.kill par).put i ob) := by
  refine ⟨Sub.refl μ, by simp, fun j hj hn => ⟨hn, ?_⟩⟩
  rw [kill_get_cases, if_neg (fun e => by subst e; rw [hi] at hn; cases hn)]
  rw [if_neg (fun hm => hpar j hm hn)]

end Go.R
