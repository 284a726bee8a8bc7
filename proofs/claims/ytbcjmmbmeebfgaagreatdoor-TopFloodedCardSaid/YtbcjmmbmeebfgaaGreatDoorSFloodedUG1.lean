/- Rows of numbers and what is said of them; contracts over roots that are only looked at. -/
import Derived.Test.YtbcjmmbmeebfgaaGreatDoorSFloodedUG0
import Derived.Test.YtbcjmmbmeebfgaaGreatDoorSFloodedRG5
import Derived.Test.YtbcjmmbmeebfgaaGreatDoorSFloodedRG6
import Derived.Test.YtbcjmmbmeebfgaaGreatDoorSFloodedRChg
import Derived.Test.YtbcjmmbmeebfgaaGreatDoorSFloodedRTellC
import Derived.Test.YtbcjmmbmeebfgaaGreatDoorSFloodedRAgg
namespace Go.Proofs.YtbcjmmbmeebfgaaGreatDoor
set_option linter.unusedVariables false
set_option linter.unusedSimpArgs false
open Go Go.R
set_option maxRecDepth 1000000
noncomputable section
noncomputable def kU : CallF := callA Tryz.prog hk3 1000
theorem hkU : CallOk Tryz.prog kU := call_ok mixed noNum hk3_ok 1000
noncomputable def i64 (n : Nat) : Value := .int .i64 (.ofNat n)
noncomputable def u64 (n : Nat) : Value := .int .u64 (.ofNat n)
noncomputable def iZ (n : Int) : Value := .int .i64 n

theorem lt_self (i : Nat) : ltF (.ofNat i) (.ofNat i) = false := by
  show Nat.blt i i = false
  cases h : Nat.blt i i with
  | false => rfl
  | true => exact absurd (blt_lt h) (Nat.lt_irrefl i)
theorem lt_of {i n : Nat} (h : i < n) : ltF (.ofNat i) (.ofNat n) = true := by show Nat.blt i n = true; rw [Nat.blt_eq]; exact h
theorem wrap_succ {i : Nat} (h : i < 4611686018427387904) : wrapF .i64 (Int.add (.ofNat i) (.ofNat 1)) = .ofNat (i + 1) := by
  show cond (Nat.blt (i + 1) 9223372036854775808) (Int.ofNat (i + 1)) _ = _
  have : Nat.blt (i + 1) 9223372036854775808 = true := by rw [Nat.blt_eq]; omega
  rw [this]; rfl
theorem wrap_ofNat {k : Nat} (h : k < 9223372036854775808) : wrapF .i64 (.ofNat k) = .ofNat k := by
  show cond (Nat.blt k 9223372036854775808) (Int.ofNat k) _ = _
  have : Nat.blt k 9223372036854775808 = true := by rw [Nat.blt_eq]; exact h
  rw [this]; rfl

/-! ### Rows -/
noncomputable def valsZ (n : Nat) (g : Nat → Value) : List Value := (List.range n).map g
theorem valsZ_len (n : Nat) (g : Nat → Value) : (valsZ n g).length = n := by simp [valsZ]
theorem valsZ_plain {n : Nat} {g : Nat → Value} (h : ∀ i, i < n → plainV (g i) = true) : ∀ x ∈ valsZ n g, plainV x = true := fun x hx => by
  obtain ⟨i, hi, rfl⟩ := List.mem_map.1 hx
  exact h i (List.mem_range.1 hi)
theorem valsZ_succ (n : Nat) (g : Nat → Value) : valsZ n g ++ [g n] = valsZ (n + 1) g := by
  unfold valsZ; rw [List.range_succ, List.map_append]; rfl
theorem valsZ_get (n : Nat) (g : Nat → Value) {i : Nat} (h : i < n) : (valsZ n g)[i]? = some (g i) := by simp [valsZ, h]
theorem valsZ_at {h : AH} {q n i : Nat} {g : Nat → Value} {lv : Bool} {par : List Nat} {ty : Option TypeId} (hg : h.get q = .cells (valsZ n g) lv par ty) (hlt : i < n) : rowAt? h q (0 + i * 1) 1 = some [g i] := by
  rw [row_at hg (by rw [valsZ_len]; omega), Nat.zero_add, Nat.mul_one]
  rw [List.take_one, List.head?_drop, valsZ_get n g hlt]
  rfl
theorem cloO_vals {k n : Nat} {g : Nat → Value} (h : ∀ i, i < n → plainV (g i) = true) (lv : Bool) (ty : Option TypeId) : CloO k (.cells (valsZ n g) lv [] ty) := cloO_plain (valsZ_plain h) _ _
theorem obs_vals {ρ : Nat → Nat} {m n : Nat} {g : Nat → Value} {lv lv' : Bool} {p : List Nat} {ty ty' : Option TypeId} {x : AObj} {c : List Value} (e : x = .cells c lv p ty) (ec : c = valsZ n g) (h : ∀ i, i < n → plainV (g i) = true) (hl : lv' = true → lv = true) (ht : ty' = none ∨ ty' = ty) :
    RenO ρ m x (.cells (valsZ n g) lv' [] ty') := RenO.row (c := valsZ n g) (lv := lv) (p := p) (ty := ty) (ec ▸ e) (valsZ_plain h) hl ht

/-- Structs of three cells, one behind another. -/
noncomputable def tripZ (n : Nat) (a b c : Nat → Value) : List Value := (List.range n).flatMap fun i => [a i, b i, c i]
theorem tripZ_len (n : Nat) (a b c : Nat → Value) : (tripZ n a b c).length = n * 3 := by
  unfold tripZ
  induction n with
  | zero => rfl
  | succ n ih => rw [List.range_succ, List.flatMap_append, List.length_append, ih]; simp; omega
theorem tripZ_succ (n : Nat) (a b c : Nat → Value) : tripZ n a b c ++ [a n, b n, c n] = tripZ (n + 1) a b c := by
  unfold tripZ; rw [List.range_succ, List.flatMap_append]; simp
theorem tripZ_plain {n : Nat} {a b c : Nat → Value} (h : ∀ i, i < n → plainV (a i) = true ∧ plainV (b i) = true ∧ plainV (c i) = true) : ∀ x ∈ tripZ n a b c, plainV x = true := fun x hx => by
  obtain ⟨i, hi, hx⟩ := List.mem_flatMap.1 hx
  obtain ⟨h1, h2, h3⟩ := h i (List.mem_range.1 hi)
  simp only [List.mem_cons, List.mem_nil_iff, or_false] at hx
  rcases hx with rfl | rfl | rfl
  · exact h1
  · exact h2
  · exact h3
theorem tripZ_drop (n : Nat) (a b c : Nat → Value) : ∀ i, i < n → ((tripZ n a b c).drop (i * 3)).take 3 = [a i, b i, c i] := by
  induction n with
  | zero => intro i h; omega
  | succ n ih =>
    intro i h
    rw [← tripZ_succ]
    rcases Nat.lt_or_ge i n with hi | hi
    · rw [List.drop_append_of_le_length (by rw [tripZ_len]; omega), List.take_append_of_le_length (by rw [List.length_drop, tripZ_len]; omega)]
      exact ih i hi
    · have e : i = n := by omega
      subst e
      have hd : (tripZ i a b c).drop (i * 3) = [] := List.drop_eq_nil_of_le (by rw [tripZ_len]; exact Nat.le_refl _)
      rw [List.drop_append, hd, tripZ_len]
      simp
theorem tripZ_at {h : AH} {q n i : Nat} {a b c : Nat → Value} {lv : Bool} {par : List Nat} {ty : Option TypeId} (hg : h.get q = .cells (tripZ n a b c) lv par ty) (hlt : i < n) : rowAt? h q (0 + i * 3) 3 = some [a i, b i, c i] := by
  rw [row_at hg (by rw [tripZ_len]; omega), Nat.zero_add, tripZ_drop n a b c i hlt]

/-! ### Roots that stay -/
noncomputable def Holds (os : List AObj) (v : Value) (v' : Value) (h' : AH) : Prop := v' = v ∧ ∀ (j : Nat) x, os[j]? = some x → h'.get j = x
theorem keepOf {os : List AObj} {h : AH} (e : h = hp os) : ∀ (j : Nat) x, os[j]? = some x → h.get j = x := fun j x hx => by rw [e]; exact hp_get os j x hx
theorem says_of {os : List AObj} {fid : FuncId} {args : List Value} {v : Value} (L : Local Tryz.prog os.length fid args (hp os) (Holds os v)) (ca : ∀ x ∈ args, Clo os.length x) (co : ∀ x ∈ os, CloO os.length x) (cv : Clo os.length v) :
    Says Tryz.prog (hp os) fid args v (hp os) := by
  intro F w0 μ w args' H hl
  have at_ : ∀ i, i < os.length → (hp os).get i = os[i]?.getD .dead ∧ CloO os.length ((hp os).get i) := fun i hi => by
    have ho : os[i]? = some os[i] := List.getElem?_eq_getElem hi
    rw [hp_get os i _ ho, ho]
    exact ⟨rfl, co _ (List.getElem_mem hi)⟩
  refine L.framed (h2 := hp os) (v := v) (fun v' h' r => ⟨r.1, fun i hi => ?_⟩) (hp_next os) (by rw [hp_next]; exact Nat.le_refl _) (fun _ _ => rfl) ca (fun i hi => (at_ i hi).2) (fun i hi => (at_ i hi).2) cv (fun _ _ => .inl rfl) rfl (fun _ _ => rfl) H hl
  have ho : os[i]? = some os[i] := List.getElem?_eq_getElem hi
  rw [r.2 i _ ho, hp_get os i _ ho]
theorem says_here {fid : FuncId} {args : List Value} {v : Value} (L : Local Tryz.prog 0 fid args AH.empty (fun v' _ => v' = v)) (ha : ∀ x ∈ args, plainV x = true) (fv : flatV v = true) (h : AH) : Says Tryz.prog h fid args v h :=
  fun F w0 μ w args' H hl => L.closed ha fv h H hl

/-! ### append -/
theorem push_gen {st e : TypeId} (e1 : Tryz.prog.underlying st = some (.slice e)) {z : Nat} (hi : ∃ info, Tryz.prog.info? e = some info ∧ info.size = z + 1 ∧ (decide (info.bytes > 1000000) || !zfit info) = false)
    {h : AH} {i j m : Nat} {c x : List Value} {par : List Nat} (hx : x.all cellV = true) (hxl : x.length = z + 1) (hm : c.length = m * (z + 1)) (hlen : m < 1000000) (h1 : h.get i = .cells c true par (some e)) (h2 : h.get j = .cells x true [] (some e)) :
    appendA Tryz.prog #[st, st] (.slice (some ⟨i, 0, some (z + 1)⟩) m m) (.slice (some ⟨j, 0, none⟩) 1 1) h = some (.slice (some ⟨h.next, 0, some (z + 1)⟩) (m + 1) (m + 1), ((h.put i (.cells c false par (some e))).new (.cells (c ++ x) true (i :: par) (some e))).2) := by
  obtain ⟨info, e2, e3, e4⟩ := hi
  rw [Bool.or_eq_false_iff] at e4
  have e5 : srcA (z + 1) (.slice (some ⟨j, 0, none⟩) 1 1) h = some (x, 1) := by
    unfold srcA
    simp only [show ¬ (1 = 0) by decide, if_false]
    show (rowAt? h j 0 (1 * (z + 1))).map (·, 1) = _
    unfold rowAt?
    rw [h2]
    show (if 0 + 1 * (z + 1) ≤ x.length then some ((x.drop 0).take (1 * (z + 1))) else none).map (·, 1) = _
    rw [if_pos (by omega), List.drop_zero, List.take_of_length_le (by omega)]
    rfl
  have e6 : (decide (m > 1000000)) = false := by simp; omega
  have e7 : appendU e (z + 1) i 0 m 1 x h = some (.slice (some ⟨h.next, 0, some (z + 1)⟩) (m + 1) (m + 1), ((h.put i (.cells c false par (some e))).new (.cells (c ++ x) true (i :: par) (some e))).2) := by
    unfold appendU
    rw [h1]
    show (if 0 + m * (z + 1) = c.length then _ else _) = _
    rw [if_pos (by omega)]
    have : (if (some e = some e ∧ (0 : Nat) = 0) then some e else none) = some e := if_pos ⟨rfl, rfl⟩
    rw [this, List.drop_zero]
  unfold appendA
  simp only [List.getElem?_toArray, List.getElem?_cons_zero, List.getElem?_cons_succ, e1, e2, srcKind, Bool.not_true, Bool.false_eq_true, if_false, e3, e5]
  simp only [hx, e4.1, e4.2, e6, Bool.not_true, Bool.or_false, Bool.false_or, Bool.or_self, decide_false, show ((z + 1 : Nat) = 0) = False by simp, show (1 : Nat) > 1000000 ↔ False by simp, if_false, decide_true, ne_eq, not_true_eq_false, Bool.false_eq_true, show ¬ (1 = 0) by decide, e7]

/-! ### What is seen, object by object -/
/-- The first object is what it was; the others are behind k = 1. -/
theorem fix1 {af : AF} {a : AObj} {l : List AObj} (h0 : af.h.get 0 = a) : FixOk 1 af 0 (a :: l) := by
  have go : ∀ (l : List AObj) (j : Nat), 1 ≤ j → FixOk 1 af j l := by
    intro l
    induction l with
    | nil => intro j _; trivial
    | cons o l ih => intro j hj; exact ⟨fun h => absurd (blt_lt h) (by omega), ih (j + 1) (by omega)⟩
  exact ⟨fun _ => .inl h0, go l 1 (Nat.le_refl 1)⟩
theorem fix0 {af : AF} {l : List AObj} : FixOk 0 af 0 l := by
  have go : ∀ (l : List AObj) (j : Nat), FixOk 0 af j l := by
    intro l
    induction l with
    | nil => intro j; trivial
    | cons o l ih => intro j; exact ⟨fun h => absurd (blt_lt h) (by omega), ih (j + 1)⟩
  exact go l 0

/-- The objects as they stand, and what is kept of each. -/
noncomputable def RenL (ρ : Nat → Nat) (m : Nat) : List AObj → List AObj → Prop
  | [], [] => True
  | x :: l, o :: k => RenO ρ m x o ∧ RenL ρ m l k
  | _, _ => False
theorem obsL {ρ : Nat → Nat} {m : Nat} {h : AH} {os : List AObj} (os0 : List AObj) (e : (List.range os.length).map (fun j => h.get (ρ j)) = os0) (r : RenL ρ m os0 os) : ObsOk ρ m h 0 os := by
  have go : ∀ (l k : List AObj) (j : Nat), (∀ (i : Nat) x, l[i]? = some x → h.get (ρ (j + i)) = x) → RenL ρ m l k → ObsOk ρ m h j k := by
    intro l
    induction l with
    | nil => intro k j _ hr; cases k with | nil => trivial | cons _ _ => exact hr.elim
    | cons x l ih =>
      intro k j hx hr
      cases k with
      | nil => exact hr.elim
      | cons o k =>
        refine ⟨?_, ih k (j + 1) (fun i y hy => ?_) hr.2⟩
        · have := hx 0 x rfl
          rw [Nat.add_zero] at this
          rw [this]; exact hr.1
        · have := hx (i + 1) y (by simpa using hy)
          rw [← this]; congr 2; omega
  refine go os0 os 0 (fun i x hx => ?_) r
  rw [← e] at hx
  have hlt : i < os.length := by have := (List.getElem?_eq_some_iff.1 hx).1; simpa using this
  rw [List.getElem?_map, List.getElem?_range hlt] at hx
  rw [Nat.zero_add]
  exact Option.some.inj hx
end
end Go.Proofs.YtbcjmmbmeebfgaaGreatDoor

/- The bits of a number, in order; numbers of 64 bits under and, minus one. -/
namespace Go.Proofs.YtbcjmmbmeebfgaaGreatDoor
set_option linter.unusedVariables false
set_option linter.unusedSimpArgs false
open Go Go.R
noncomputable section

noncomputable def bitsN (s : Nat) : List Nat := (List.range 64).filter fun i => s.testBit i

theorem tz_bit {s : Nat} (h0 : s ≠ 0) (h : s < 18446744073709551616) : tz s < 64 ∧ ∃ m, s = 2 ^ tz s * (2 * m + 1) := by
  rw [tz_eq]
  unfold Lib.ctz
  rw [if_neg h0]
  obtain ⟨m, h1, h2⟩ := Lib.ctzFrom_spec 64 s (Nat.pos_of_ne_zero h0) h
  exact ⟨h2, m, h1⟩

theorem odd_bit (k m i : Nat) : (2 ^ k * (2 * m + 1)).testBit i = (decide (k ≤ i) && (2 * m + 1).testBit (i - k)) := by
  rw [Nat.mul_comm, Nat.testBit_mul_two_pow]
theorem and_bit (k m i : Nat) : (2 ^ k * (2 * m + 1) &&& (2 ^ k * (2 * m + 1) - 1)).testBit i = ((2 ^ k * (2 * m + 1)).testBit i && !(decide (i = k))) := by
  have e : 2 ^ k * (2 * m + 1) - 1 = 2 ^ k * (2 * m) + (2 ^ k - 1) := by
    have : 0 < 2 ^ k := Nat.two_pow_pos k
    rw [Nat.mul_add]; omega
  rw [Nat.testBit_and, e, odd_bit]
  have hlt : 2 ^ k - 1 < 2 ^ k := by have := Nat.two_pow_pos k; omega
  rw [Nat.testBit_two_pow_mul_add _ hlt]
  by_cases h1 : i < k
  · rw [if_pos h1]
    have : ¬ k ≤ i := by omega
    simp [this]
  · rw [if_neg h1]
    have h2 : k ≤ i := by omega
    simp only [h2, decide_true, Bool.true_and]
    by_cases h3 : i = k
    · subst h3
      simp
    · obtain ⟨j, hj⟩ : ∃ j, i - k = j + 1 := ⟨i - k - 1, by omega⟩
      rw [hj, Nat.testBit_succ, Nat.testBit_succ]
      have d1 : (2 * m + 1) / 2 = m := by omega
      have d2 : (2 * m) / 2 = m := by omega
      rw [d1, d2]
      simp [h3]

theorem filter_first (p q : Nat → Bool) (k : Nat) (hk : p k = true) (hlow : ∀ i, i < k → p i = false) (hq : ∀ i, q i = (p i && !(decide (i = k)))) : ∀ n, k < n → (List.range n).filter p = k :: (List.range n).filter q := by
  intro n
  induction n with
  | zero => intro h; omega
  | succ n ih =>
    intro h
    rw [List.range_succ, List.filter_append, List.filter_append]
    rcases Nat.lt_or_ge k n with h1 | h1
    · rw [ih h1]
      have : p n = q n := by rw [hq]; simp; intro; omega
      simp only [List.filter_cons, List.filter_nil, this, List.cons_append]
    · have e : k = n := by omega
      subst e
      have e1 : (List.range k).filter p = [] := List.filter_eq_nil_iff.2 fun i hi => by rw [hlow i (List.mem_range.1 hi)]; simp
      have e2 : (List.range k).filter q = [] := List.filter_eq_nil_iff.2 fun i hi => by rw [hq, hlow i (List.mem_range.1 hi)]; simp
      rw [e1, e2]
      simp [hk, hq]

theorem bits_step {s : Nat} (h0 : s ≠ 0) (h : s < 18446744073709551616) : bitsN s = tz s :: bitsN (s &&& (s - 1)) := by
  obtain ⟨h1, m, hm⟩ := tz_bit h0 h
  unfold bitsN
  generalize tz s = k at h1 hm
  subst hm
  refine filter_first _ _ k ?_ (fun i hi => ?_) (fun i => and_bit k m i) 64 h1
  · rw [odd_bit]; simp
  · rw [odd_bit]
    have : ¬ k ≤ i := by omega
    simp [this]
theorem bits_zero : bitsN 0 = [] := by unfold bitsN; simp
theorem and_less {s : Nat} (h0 : s ≠ 0) : (s &&& (s - 1)) < s := Nat.lt_of_le_of_lt Nat.and_le_right (by omega)
theorem mem_bits {s i : Nat} : i ∈ bitsN s ↔ i < 64 ∧ s.testBit i = true := by unfold bitsN; rw [List.mem_filter, List.mem_range]
theorem bits_len (s : Nat) : (bitsN s).length ≤ 64 := by unfold bitsN; exact Nat.le_trans (List.length_filter_le _ _) (by simp)
theorem bits_full {m : Nat} (hm : m < 64) : bitsN (2 ^ m - 1) = List.range m := by
  unfold bitsN
  have : ∀ n, m ≤ n → (List.range n).filter (fun i => (2 ^ m - 1).testBit i) = List.range m := by
    intro n
    induction n with
    | zero => intro h; have : m = 0 := by omega
              subst this; rfl
    | succ n ih =>
      intro h
      rw [List.range_succ, List.filter_append]
      rcases Nat.lt_or_ge n m with h1 | h1
      · have e : m = n + 1 := by omega
        subst e
        have e1 : (List.range n).filter (fun i => (2 ^ (n + 1) - 1).testBit i) = List.range n := List.filter_eq_self.2 fun i hi => by
          rw [Nat.testBit_two_pow_sub_one]; simpa using Nat.lt_succ_of_lt (List.mem_range.1 hi)
        rw [e1, List.range_succ]
        simp [Nat.testBit_two_pow_sub_one]
      · rw [ih h1]
        have : (2 ^ m - 1).testBit n = false := by rw [Nat.testBit_two_pow_sub_one]; simp; exact h1
        rw [List.filter_cons, this]
        simp
  exact this 64 (by omega)

/-! ### Numbers of 64 bits -/
theorem wrap64 {n : Nat} (h : n < 18446744073709551616) : IntKind.u64.wrap (n : Int) = n := by
  simp only [IntKind.wrap, IntKind.signed, IntKind.bits]
  simp
  omega
theorem wrapF64 {n : Nat} (h : n < 18446744073709551616) : wrapF .u64 (.ofNat n) = .ofNat n := by rw [wrapF_eq]; exact wrap64 h
theorem bv64 {n : Nat} (h : n < 18446744073709551616) : (BitVec.ofInt 64 (.ofNat n)).toNat = n := by
  show (BitVec.ofInt 64 (n : Int)).toNat = n
  rw [BitVec.ofInt_natCast, BitVec.toNat_ofNat]
  exact Nat.mod_eq_of_lt h
theorem and64 {a b : Nat} (ha : a < 18446744073709551616) (hb : b < 18446744073709551616) : intBin .and .u64 (.ofNat a) (.ofNat b) = some (u64 (a &&& b)) := by
  show some (Value.int .u64 (wrapF .u64 (((BitVec.ofInt 64 (.ofNat a) &&& BitVec.ofInt 64 (.ofNat b)).toNat : Nat) : Int))) = _
  rw [BitVec.toNat_and, bv64 ha, bv64 hb]
  rw [show (((a &&& b : Nat) : Int)) = Int.ofNat (a &&& b) from rfl, wrapF64 (Nat.lt_of_le_of_lt Nat.and_le_left ha)]
  rfl
theorem or64 {a b : Nat} (ha : a < 18446744073709551616) (hb : b < 18446744073709551616) : intBin .or .u64 (.ofNat a) (.ofNat b) = some (u64 (a ||| b)) := by
  show some (Value.int .u64 (wrapF .u64 (((BitVec.ofInt 64 (.ofNat a) ||| BitVec.ofInt 64 (.ofNat b)).toNat : Nat) : Int))) = _
  rw [BitVec.toNat_or, bv64 ha, bv64 hb]
  rw [show (((a ||| b : Nat) : Int)) = Int.ofNat (a ||| b) from rfl, wrapF64 (Nat.or_lt_two_pow (n := 64) ha hb)]
  rfl
theorem pred64 {s : Nat} (h0 : s ≠ 0) (h : s < 18446744073709551616) : intBin .sub .u64 (.ofNat s) (.ofNat 1) = some (u64 (s - 1)) := by
  show some (Value.int .u64 (wrapF .u64 (Int.ofNat s - Int.ofNat 1))) = _
  have e : Int.ofNat s - Int.ofNat 1 = Int.ofNat (s - 1) := by
    show (s : Int) - (1 : Int) = ((s - 1 : Nat) : Int)
    omega
  rw [e, wrapF64 (by omega)]
  rfl
theorem bit64 {i : Nat} (h : i < 64) : shiftA .shl .u64 1 (.ofNat i) = some (u64 (2 ^ i)) := by
  unfold shiftA
  rw [if_neg (by show ¬ ((i : Int) < 0); omega)]
  show some (Value.int .u64 (IntKind.u64.wrap (1 * 2 ^ min (Int.ofNat i).toNat 64))) = _
  have e : min (Int.ofNat i).toNat 64 = i := by show min i 64 = i; omega
  rw [e, Int.one_mul]
  have : ((2 : Int) ^ i) = ((2 ^ i : Nat) : Int) := by simp
  rw [this, wrap64 (Nat.pow_lt_pow_right (by decide) h)]
  rfl
theorem eqF_nat (a b : Nat) : eqF (.ofNat a) (.ofNat b) = Nat.beq a b := rfl
end
end Go.Proofs.YtbcjmmbmeebfgaaGreatDoor

/- list: the bits of a set, as a contract. -/
namespace Go.Proofs.YtbcjmmbmeebfgaaGreatDoor
set_option linter.unusedVariables false
set_option linter.unusedSimpArgs false
open Go Go.R
set_option maxRecDepth 1000000
noncomputable section

theorem tz_says {s : Nat} (hs : s < 18446744073709551616) (h : AH) : Says Tryz.prog h 52 [u64 s] (i64 (tz s)) h := fun F w0 μ w args' H hl =>
  tz_hook 52 [u64 s] h (i64 (tz s)) h (by
    have : Nat.blt s 18446744073709551616 = true := by rw [Nat.blt_eq]; exact hs
    show (match tzH 52 52 [u64 s] h with | some r => r | none => none) = some (i64 (tz s), h)
    have e : tzH 52 52 [u64 s] h = (match Nat.blt s 18446744073709551616 with | true => some (some (Value.int .i64 (.ofNat (tz s)), h)) | false => none) := rfl
    rw [e, this]
    rfl) F w0 μ w args' H hl

/-! ### Rows that are lists of numbers -/
noncomputable def natsC (l : List Nat) : List Value := l.map i64
noncomputable def rowN (l : List Nat) : AObj := .cells (natsC l) true [] (some 3)
noncomputable def slR (i n : Nat) : Value := .slice (some ⟨i, 0, some 1⟩) n n
theorem natsC_len (l : List Nat) : (natsC l).length = l.length := List.length_map _
theorem natsC_plain (l : List Nat) : ∀ x ∈ natsC l, plainV x = true := fun x hx => by
  obtain ⟨i, _, rfl⟩ := List.mem_map.1 hx; rfl
theorem natsC_app (a b : List Nat) : natsC a ++ natsC b = natsC (a ++ b) := by simp [natsC]
theorem natsC_at {h : AH} {q i : Nat} {l : List Nat} {lv : Bool} {par : List Nat} {ty : Option TypeId} (hg : h.get q = .cells (natsC l) lv par ty) {x : Nat} (hx : l[i]? = some x) : rowAt? h q (0 + i * 1) 1 = some [i64 x] := by
  have hlt : i < l.length := (List.getElem?_eq_some_iff.1 hx).1
  rw [row_at hg (by rw [natsC_len]; omega), Nat.zero_add, Nat.mul_one]
  rw [List.take_one, List.head?_drop]
  unfold natsC
  rw [List.getElem?_map, hx]
  rfl
theorem obs_rowN {ρ : Nat → Nat} {m : Nat} {l : List Nat} {p : List Nat} {x : AObj} {c : List Value} (e : x = .cells c true p (some 3)) (ec : c = natsC l) : RenO ρ m x (rowN l) := RenO.row (c := natsC l) (lv := true) (p := p) (ty := some 3) (ec ▸ e) (natsC_plain l) (fun h => h) (.inr rfl)
theorem rowN_clo {k : Nat} {l : List Nat} : CloO k (rowN l) := cloO_plain (natsC_plain l) _ _
theorem int_info : ∃ info, Tryz.prog.info? 3 = some info ∧ info.size = 0 + 1 ∧ (decide (info.bytes > 1000000) || !zfit info) = false := ⟨(Tryz.prog.info? 3).get!, by kernel_rfl, by kernel_rfl, by kernel_rfl⟩

/-! ### list -/
noncomputable def c36 : Code := bodyOf Tryz.f36
noncomputable def lp36 : Code := within (hd (behind 2 c36))
noncomputable def S36 (s m : Nat) : List (Nat × Value) := [(0, u64 s), (3, slR 0 m)]

theorem neq_zero {s : Nat} (h : s ≠ 0) : (!(eqF (.ofNat s) (.ofNat 0))) = true := by
  rw [eqF_nat]
  cases hq : Nat.beq s 0 with
  | false => rfl
  | true => exact absurd (Nat.eq_of_beq_eq_true hq) h

theorem list_loop : ∀ (n s : Nat) (pre : List Nat), s ≤ n → s < 18446744073709551616 → pre.length + (bitsN s).length < 1000 → Runs Tryz.prog 0 lp36 (sth (S36 s pre.length) 16 [rowN pre]) fun e af => e = .exit 0 ∧ Less 0 (sth [(3, slR 0 (pre ++ bitsN s).length)] 16 [rowN (pre ++ bitsN s)]) af := by
  intro n
  induction n with
  | zero =>
    intro s pre hsn hs hl
    have : s = 0 := by omega
    subst this
    refine Runs.lp (by kernel_rfl) (Runs.sq (by kernel_rfl) (Runs.sqR mixed hkU [] (by kernel_rfl) (by kernel_rfl) (by kernel_rfl) oblN ?_))
    refine Runs.cd (b := false) (by kernel_rfl) (fun ht => by cases ht) (fun _ => Runs.now (x := .exit 0) (by kernel_rfl) ⟨rfl, ?_⟩)
    rw [bits_zero, List.append_nil]
    exact less_seenP (clo_all (k := 1) (by kernel_rfl)) (fun x hx => by rw [List.mem_singleton.1 hx]; exact rowN_clo) (Nat.zero_le 1) (by kernel_rfl) (by kernel_rfl) (by kernel_rfl) (by kernel_rfl)
  | succ n ih =>
    intro s pre hsn hs hl
    by_cases h0 : s = 0
    · exact ih s pre (by omega) hs hl
    have hst := bits_step h0 hs
    have hlen : pre.length < 1000 := by omega
    refine Runs.lp (by kernel_rfl) (Runs.sq (by kernel_rfl) (Runs.sqR mixed hkU [viaV 1 (.bool true)] (by kernel_rfl) (by kernel_rfl) (by kernel_rfl) (oblC (shown_eq (v := .bool (!(eqF (.ofNat s) (.ofNat 0)))) (by kernel_rfl) (by kernel_rfl) (by rw [neq_zero h0])) oblN) ?_))
    refine Runs.cd (b := true) (by kernel_rfl) (fun _ => Runs.now (x := .normal) (by kernel_rfl) ?_) (fun hf => by cases hf)
    show Runs Tryz.prog 0 _ _ _
    refine Runs.sq (by kernel_rfl) (Runs.bk (id := 1) (by kernel_rfl) ?_)
    let H0 : AH := hp [rowN pre]
    let H1 : AH := (H0.new (.cells [i64 (tz s)] true [] (some 3))).2
    have hap := push_gen (st := 37) (e := 3) (z := 0) (by kernel_rfl) int_info (h := H1) (i := 0) (j := 1) (x := [i64 (tz s)]) (c := natsC pre) (m := pre.length) (par := []) rfl rfl (by rw [natsC_len]; omega) (by omega) (by kernel_rfl) (by kernel_rfl)
    refine Runs.rg mixed hkU [viaC 2 52 [u64 s] (i64 (tz s)), ⟨4, slR 2 (pre.length + 1), some ((H1.put 0 (.cells (natsC pre) false [] (some 3))).new (.cells (natsC pre ++ [i64 (tz s)]) true [0] (some 3))).2, none⟩] (by kernel_rfl) (by kernel_rfl) (by kernel_rfl)
      (oblC (shown_call (by kernel_rfl) (tz_says hs _)) (oblC ⟨by kernel_rfl, (show _ = appendA Tryz.prog #[37, 37] (.slice (some ⟨0, 0, some 1⟩) pre.length pre.length) (.slice (some ⟨1, 0, none⟩) 1 1) H1 by kernel_rfl).trans hap⟩ oblN)) ?_
    show Runs Tryz.prog 0 _ _ _
    refine Runs.rg mixed hkU [viaV 2 (u64 (s - 1)), viaV 3 (u64 (s &&& (s - 1)))] (by kernel_rfl) (by kernel_rfl) (by kernel_rfl)
      (oblC ⟨by kernel_rfl, (show _ = (intBin .sub .u64 (.ofNat s) (.ofNat 1)).map (·, _) by kernel_rfl).trans (by rw [pred64 h0 hs]; rfl)⟩ (oblC ⟨by kernel_rfl, (show _ = (intBin .and .u64 (.ofNat s) (.ofNat (s - 1))).map (·, _) by kernel_rfl).trans (by rw [and64 hs (by omega)]; rfl)⟩ oblN)) ?_
    show Runs Tryz.prog 0 lp36 _ _
    have el : (pre ++ [tz s]).length = pre.length + 1 := by simp
    refine Runs.renumK (sz := 16) (l := S36 (s &&& (s - 1)) (pre ++ [tz s]).length) (os := [rowN (pre ++ [tz s])]) (fun j => match j with | 0 => 2 | j => j) (fun j => match j with | 2 => 0 | j => j) (by kernel_rfl) (Nat.zero_le 1) (by kernel_rfl) ⟨fun h => (by cases h), trivial⟩ (by kernel_rfl) (by kernel_rfl) (by rw [el]; exact Eq.trans (Eq.refl _) (by kernel_rfl)) (by kernel_rfl)
      ⟨obs_rowN (p := [0]) (c := natsC pre ++ [i64 (tz s)]) (by kernel_rfl) (natsC_app pre [tz s]), trivial⟩ ?_
    have hlt := and_less h0
    have := ih (s &&& (s - 1)) (pre ++ [tz s]) (by omega) (by omega) (by rw [el]; rw [hst] at hl; simp at hl; omega)
    rw [List.append_assoc, List.singleton_append, ← hst] at this
    exact this

theorem list_local0 : Local Tryz.prog 0 36 [u64 0] AH.empty fun v' _ => v' = .slice none 0 0 := by
  refine local_of noNum Tryz.func36 (show Tryz.f36.body = some c36 by kernel_rfl) ?_
  exact Runs.last mixed hkU (n := 20) (Nat.zero_le _) (by kernel_rfl)

theorem list_local {s : Nat} (h0 : s ≠ 0) (hs : s < 18446744073709551616) : Local Tryz.prog 0 36 [u64 s] AH.empty (rowIsC (fun s => s) 0 (bitsN s).length (natsC (bitsN s)) (some 3)) := by
  refine local_of noNum Tryz.func36 (show Tryz.f36.body = some c36 by kernel_rfl) ?_
  refine Runs.sqR mixed hkU [] (by kernel_rfl) (by kernel_rfl) (by kernel_rfl) oblN ?_
  refine Runs.sqR mixed hkU [] (by kernel_rfl) (by kernel_rfl) (by kernel_rfl) oblN ?_
  refine Runs.sq (by kernel_rfl) (Runs.bk (id := 0) (by kernel_rfl) ?_)
  have hst := bits_step h0 hs
  refine Runs.lp (by kernel_rfl) (Runs.sq (by kernel_rfl) (Runs.sqR mixed hkU [viaV 1 (.bool true)] (by kernel_rfl) (by kernel_rfl) (by kernel_rfl) (oblC (shown_eq (v := .bool (!(eqF (.ofNat s) (.ofNat 0)))) (by kernel_rfl) (by kernel_rfl) (by rw [neq_zero h0])) oblN) ?_))
  refine Runs.cd (b := true) (by kernel_rfl) (fun _ => Runs.now (x := .normal) (by kernel_rfl) ?_) (fun hf => by cases hf)
  show Runs Tryz.prog 0 _ _ _
  refine Runs.sq (by kernel_rfl) (Runs.bk (id := 1) (by kernel_rfl) ?_)
  refine Runs.rg mixed hkU [viaC 2 52 [u64 s] (i64 (tz s))] (by kernel_rfl) (by kernel_rfl) (by kernel_rfl) (oblC (shown_call (by kernel_rfl) (tz_says hs _)) oblN) ?_
  show Runs Tryz.prog 0 _ _ _
  refine Runs.rg mixed hkU [viaV 2 (u64 (s - 1)), viaV 3 (u64 (s &&& (s - 1)))] (by kernel_rfl) (by kernel_rfl) (by kernel_rfl)
    (oblC ⟨by kernel_rfl, (show _ = (intBin .sub .u64 (.ofNat s) (.ofNat 1)).map (·, _) by kernel_rfl).trans (by rw [pred64 h0 hs]; rfl)⟩ (oblC ⟨by kernel_rfl, (show _ = (intBin .and .u64 (.ofNat s) (.ofNat (s - 1))).map (·, _) by kernel_rfl).trans (by rw [and64 hs (by omega)]; rfl)⟩ oblN)) ?_
  show Runs Tryz.prog 0 lp36 _ _
  refine Runs.renumK (sz := 16) (l := S36 (s &&& (s - 1)) 1) (os := [rowN [tz s]]) (fun j => match j with | 0 => 1 | j => j) (fun j => match j with | 1 => 0 | j => j) (by kernel_rfl) (Nat.zero_le 1) (by kernel_rfl) ⟨fun h => (by cases h), trivial⟩ (by kernel_rfl) (by kernel_rfl) (by kernel_rfl) (by kernel_rfl)
    ⟨obs_rowN (p := []) (c := [i64 (tz s)]) (by kernel_rfl) rfl, trivial⟩ ?_
  have hlt := and_less h0
  have hb := bits_len s
  rw [hst] at hb
  simp at hb
  refine (list_loop (s &&& (s - 1)) (s &&& (s - 1)) [tz s] (Nat.le_refl _) (by omega) (by simp; omega)).mono fun e af hx => ?_
  obtain ⟨rfl, less⟩ := hx
  rw [List.singleton_append, ← hst] at less
  show Runs Tryz.prog 0 _ af _
  refine Runs.less less ?_
  refine Runs.sqR mixed hkU [] (by kernel_rfl) (by kernel_rfl) (by kernel_rfl) oblN ?_
  exact Runs.now (x := .ret) (by kernel_rfl) ⟨.inr rfl, [slR 0 (bitsN s).length], by kernel_rfl, 0, [], .inl rfl, by kernel_rfl⟩

theorem list_none (h : AH) : Says Tryz.prog h 36 [u64 0] (.slice none 0 0) h := says_here list_local0 (fun x hx => by rw [List.mem_singleton.1 hx]; rfl) rfl h
theorem c0_ok {l : List Value} (hl : ∀ v ∈ l, plainV v = true) : ArgC 0 (fun _ => l) := fun μ ss l' _ h => ⟨[], by cases ss with | nil => exact LR.nil | cons _ _ => simp at *, fun μ1 _ _ => plain_mono hl h⟩
theorem list_says {s : Nat} (h0 : s ≠ 0) (hs : s < 18446744073709551616) (h : AH) : Says Tryz.prog h 36 [u64 s] (slR h.next (bitsN s).length) (h.new (rowN (bitsN s))).2 :=
  tellN (m := 0) (z := 0) (C := fun _ => [u64 s]) (D := fun s => s) (vs := []) (ss := []) (c0_ok (fun x hx => by rw [List.mem_singleton.1 hx]; rfl)) resId rfl (fun caps _ => list_local h0 hs) (by rw [natsC_len]; omega) (natsC_plain _) trivial
end
end Go.Proofs.YtbcjmmbmeebfgaaGreatDoor
