/- Words: the reference's checked as a contract. -/
import Derived.Test.YtgnkjmgkfibipaaGreatDoorSSpelledKW2
import Derived.Test.YtgnkjmgkfibipaaGreatDoorSSpelledRG9
namespace Go.Proofs.YtgnkjmgkfibipaaGreatDoor
set_option linter.unusedVariables false
set_option linter.unusedSimpArgs false
open Go Go.R
set_option maxRecDepth 1000000
noncomputable section
section
variable {n cap : Nat} {g : Nat → ByteArray}
end
end
end Go.Proofs.YtgnkjmgkfibipaaGreatDoor

/- Words: the plain law of words that pass the check: those that begin alike stand side by side, first those that go on with b, then those with s. -/
namespace Go.Proofs.YtgnkjmgkfibipaaGreatDoor
set_option linter.unusedVariables false
set_option linter.unusedSimpArgs false
open Go Go.R
noncomputable section

structure WordsOk (n : Nat) (g : Nat → ByteArray) : Prop where
  lo : 1 ≤ n
  hi : n ≤ 13
  sz : ∀ i, i < n → (g i).size ≤ 12
  bs : ∀ i, i < n → allBS (g i) = true
  lt : ∀ i j, i < j → j < n → Op.bytesLess (bl (g i)) (bl (g j)) = true
  pf : ∀ i k, i < n → k < n → k ≠ i → ¬ bl (g k) <+: bl (g i)
  full : ∀ a, a < n → ∀ j, j < (g a).size → Cont n g ((bl (g a)).take j ++ [98]) ∧ Cont n g ((bl (g a)).take j ++ [115])

theorem wordsOk_of {n : Nat} {g : Nat → ByteArray} (h : readN n g = 0) : WordsOk n g := by
  have hF : errF n g = 0 := by
    unfold readN at h
    by_cases he : errF n g ≠ 0
    · rw [if_pos he] at h; exact absurd h he
    · exact Decidable.not_not.1 he
  have hO : openM (mapTo g n) = false := by
    unfold readN at h
    rw [if_neg (by rw [hF]; simp)] at h
    cases ho : openM (mapTo g n) with
    | false => rfl
    | true => rw [ho, if_pos rfl] at h; cases h
  obtain ⟨h1, h13, hA, hB, hC⟩ := errF_zero hF
  refine ⟨h1, h13, fun i hi => (hA i hi).1, fun i hi => (hA i hi).2, fun i j hij hj => sorted_at hB hij hj, fun i k hi hk hne hp => ?_, fun a ha j hj => ?_⟩
  · obtain ⟨j, hj, hp'⟩ := (clash_iff hB).1 ⟨i, hi, k, hk, hne, pref_iff.2 hp⟩
    rw [hC j hj] at hp'
    cases hp'
  · by_cases hc : Cont n g ((bl (g a)).take j ++ [98]) ∧ Cont n g ((bl (g a)).take j ++ [115])
    · exact hc
    · rw [(open_iff fun i hi => (hA i hi).2).2 ⟨a, ha, j, hj, hc⟩] at hO
      cases hO

section
variable {n : Nat} {g : Nat → ByteArray}
/-- The words that begin with p are those from low to high. -/
structure InR (n : Nat) (g : Nat → ByteArray) (p : List UInt8) (low high : Nat) : Prop where
  le : low ≤ high
  hi : high < n
  iff : ∀ i, i < n → (p <+: bl (g i) ↔ low ≤ i ∧ i ≤ high)
theorem inR_all (W : WordsOk n g) : InR n g [] 0 (n - 1) :=
  ⟨Nat.zero_le _, by have := W.lo; omega, fun i hi => ⟨fun _ => ⟨Nat.zero_le _, by omega⟩, fun _ => List.nil_prefix⟩⟩

def letW (g : Nat → ByteArray) (at_ i : Nat) : UInt8 := (bl (g i)).getD at_ 0
theorem two_pref {p l : List UInt8} {a b : UInt8} (h1 : p ++ [a] <+: l) (h2 : p ++ [b] <+: l) : a = b := by
  obtain ⟨t, ht⟩ := h1
  obtain ⟨u, hu⟩ := h2
  rw [← ht, List.append_assoc, List.append_assoc] at hu
  have := List.append_cancel_left hu
  simp at this
  exact this.1.symm
theorem pref_app {p l : List UInt8} {a : UInt8} (h : p ++ [a] <+: l) : p <+: l := (List.prefix_append p [a]).trans h
theorem pref_let {p : List UInt8} {i : Nat} (h : p <+: bl (g i)) (hl : p.length < (g i).size) : p ++ [letW g p.length i] <+: bl (g i) := by
  have hl' : p.length < (bl (g i)).length := hl
  have e := List.prefix_iff_eq_take.1 h
  unfold letW
  have h2 := take_push hl'
  rw [← e] at h2
  rw [h2]
  exact List.take_prefix _ _
theorem let_of {p : List UInt8} {i : Nat} {c : UInt8} (h : p ++ [c] <+: bl (g i)) : p.length < (g i).size ∧ letW g p.length i = c := by
  have hl : p.length < (g i).size := by
    have := h.length_le
    rw [List.length_append, List.length_cons, List.length_nil, bl_len] at this
    omega
  exact ⟨hl, two_pref (pref_let (pref_app h) hl) h⟩
theorem let_bs (W : WordsOk n g) {i : Nat} (hi : i < n) {k : Nat} (hk : k < (g i).size) : letW g k i = 98 ∨ letW g k i = 115 := by
  have hl : k < (bl (g i)).length := hk
  have := List.all_eq_true.1 (W.bs i hi) _ (List.getElem_mem hl)
  unfold letW
  rw [List.getD_eq_getElem?_getD, List.getElem?_eq_getElem hl]
  exact bs_cases this
theorem full_at (W : WordsOk n g) {p : List UInt8} {i : Nat} (hi : i < n) (h : p <+: bl (g i)) (hl : p.length < (g i).size) : Cont n g (p ++ [98]) ∧ Cont n g (p ++ [115]) := by
  have := W.full i hi p.length hl
  rwa [← List.prefix_iff_eq_take.1 h] at this

/-- More: each goes on. -/
theorem inR_long (W : WordsOk n g) {p : List UInt8} {low high : Nat} (R : InR n g p low high) (h : low < high) {i : Nat} (h1 : low ≤ i) (h2 : i ≤ high) : p.length < (g i).size := by
  have hin : i < n := by have := R.hi; omega
  have hp := (R.iff i hin).2 ⟨h1, h2⟩
  by_cases hl : p.length < (g i).size
  · exact hl
  · exfalso
    have e := hp.eq_of_length_le (by rw [bl_len]; omega)
    have key : ∀ j, low ≤ j → j ≤ high → j ≠ i → False := fun j a b c => W.pf j i (by have := R.hi; omega) hin (fun e => c e.symm) (by rw [← e]; exact (R.iff j (by have := R.hi; omega)).2 ⟨a, b⟩)
    by_cases hi : i = low
    · exact key high R.le (Nat.le_refl _) (by omega)
    · exact key low (Nat.le_refl _) R.le (fun e => hi e.symm)
theorem less_push {p : List UInt8} : ∀ {x y : List UInt8}, Op.bytesLess (p ++ x) (p ++ y) = true → Op.bytesLess x y = true := by
  induction p with
  | nil => exact fun h => h
  | cons a p ih =>
    intro x y h
    rw [List.cons_append, List.cons_append, less_cons] at h
    rcases h with h | ⟨_, h⟩
    · omega
    · exact ih h
/-- Behind one that goes on with s all go on with s. -/
theorem let_mono (W : WordsOk n g) {p : List UInt8} {low high : Nat} (R : InR n g p low high) (h : low < high) {i j : Nat} (h1 : low ≤ i) (hij : i < j) (h2 : j ≤ high) (hs : letW g p.length i = 115) : letW g p.length j = 115 := by
  have hjn : j < n := by have := R.hi; omega
  have hin : i < n := by omega
  have li := inR_long W R h h1 (by omega)
  have lj := inR_long W R h (by omega) h2
  rcases let_bs W hjn lj with e | e
  · exfalso
    obtain ⟨t, ht⟩ := pref_let ((R.iff i hin).2 ⟨h1, by omega⟩) li
    obtain ⟨u, hu⟩ := pref_let ((R.iff j hjn).2 ⟨by omega, h2⟩) lj
    have hl := W.lt i j hij hjn
    rw [← ht, ← hu, hs, e, List.append_assoc, List.append_assoc] at hl
    have := less_push hl
    rw [List.cons_append, List.cons_append, less_cons] at this
    rcases this with q | ⟨q, _⟩
    · exact absurd q (by decide)
    · exact absurd q (by decide)
  · exact e

/-- The first word from low on that does not go on with b. -/
def splitW (g : Nat → ByteArray) (at_ : Nat) : Nat → Nat → Nat
  | 0, i => i
  | d + 1, i => if letW g at_ i = 98 then splitW g at_ d (i + 1) else i
theorem split_spec (g : Nat → ByteArray) (at_ : Nat) : ∀ d i, (∃ m, i ≤ m ∧ m < i + d ∧ letW g at_ m ≠ 98) → i ≤ splitW g at_ d i ∧ splitW g at_ d i < i + d ∧ letW g at_ (splitW g at_ d i) ≠ 98 ∧ ∀ j, i ≤ j → j < splitW g at_ d i → letW g at_ j = 98
  | 0, i, ⟨m, h1, h2, _⟩ => by omega
  | d + 1, i, ⟨m, h1, h2, h3⟩ => by
    rw [splitW]
    by_cases hc : letW g at_ i = 98
    · rw [if_pos hc]
      have hm : m ≠ i := fun e => h3 (e ▸ hc)
      obtain ⟨a, b, c, e⟩ := split_spec g at_ d (i + 1) ⟨m, by omega, by omega, h3⟩
      refine ⟨by omega, by omega, c, fun j j1 j2 => ?_⟩
      by_cases hj : j = i
      · rw [hj]; exact hc
      · exact e j (by omega) j2
    · rw [if_neg hc]
      exact ⟨Nat.le_refl _, by omega, hc, fun j j1 j2 => by omega⟩

theorem inR_split (W : WordsOk n g) {p : List UInt8} {low high : Nat} (R : InR n g p low high) (h : low < high) {l : Nat} (hl : l = splitW g p.length (high + 1 - low) low) :
    low < l ∧ l ≤ high ∧ InR n g (p ++ [98]) low (l - 1) ∧ InR n g (p ++ [115]) l high ∧ (∀ i, low ≤ i → i < l → letW g p.length i = 98) ∧ ∀ i, l ≤ i → i ≤ high → letW g p.length i = 115 := by
  have hlow : low < n := by have := R.hi; omega
  obtain ⟨⟨b, hb, h1⟩, ⟨s, hs, h2⟩⟩ := full_at W hlow ((R.iff low hlow).2 ⟨Nat.le_refl _, R.le⟩) (inR_long W R h (Nat.le_refl _) R.le)
  have rb := (R.iff b hb).1 (pref_app h1)
  have rs := (R.iff s hs).1 (pref_app h2)
  have lb := (let_of h1).2
  have ls := (let_of h2).2
  obtain ⟨a1, a2, a3, a4⟩ := split_spec g p.length (high + 1 - low) low ⟨s, rs.1, by omega, by rw [ls]; decide⟩
  rw [← hl] at a1 a2 a3 a4
  have lS : letW g p.length l = 115 := (let_bs W (by have := R.hi; omega) (inR_long W R h a1 (by omega))).resolve_left a3
  have all : ∀ i, l ≤ i → i ≤ high → letW g p.length i = 115 := fun i i1 i2 => by
    by_cases e : i = l
    · rw [e]; exact lS
    · exact let_mono W R h a1 (by omega) i2 lS
  have hbl : b < l := by
    rcases Nat.lt_or_ge b l with q | q
    · exact q
    · have := all b q rb.2
      rw [lb] at this
      exact absurd this (by decide)
  have goes : ∀ i, i < n → ∀ c, (p ++ [c] <+: bl (g i) ↔ (low ≤ i ∧ i ≤ high) ∧ letW g p.length i = c) := fun i hi c =>
    ⟨fun q => ⟨(R.iff i hi).1 (pref_app q), (let_of q).2⟩, fun ⟨q, e⟩ => e ▸ pref_let ((R.iff i hi).2 q) (inR_long W R h q.1 q.2)⟩
  refine ⟨by omega, by omega, ⟨by omega, by have := R.hi; omega, fun i hi => ?_⟩, ⟨by omega, R.hi, fun i hi => ?_⟩, a4, all⟩
  · rw [goes i hi]
    constructor
    · rintro ⟨q, e⟩
      refine ⟨q.1, ?_⟩
      rcases Nat.lt_or_ge i l with r | r
      · omega
      · rw [all i r q.2] at e
        exact absurd e (by decide)
    · exact fun q => ⟨⟨q.1, by omega⟩, a4 i q.1 (by omega)⟩
  · rw [goes i hi]
    constructor
    · rintro ⟨q, e⟩
      refine ⟨?_, q.2⟩
      rcases Nat.lt_or_ge i l with r | r
      · rw [a4 i q.1 r] at e
        exact absurd e (by decide)
      · exact r
    · exact fun q => ⟨⟨by omega, q.2⟩, all i q.1 q.2⟩

/-- The plan of the words from low to high. -/
def planW (g : Nat → ByteArray) : Nat → Nat → Nat → Nat → List Nat
  | 0, _, _, _ => []
  | f + 1, low, high, at_ => if low = high then [] else splitW g at_ (high + 1 - low) low :: (planW g f low (splitW g at_ (high + 1 - low) low - 1) (at_ + 1) ++ planW g f (splitW g at_ (high + 1 - low) low) high (at_ + 1))
end
end
end Go.Proofs.YtgnkjmgkfibipaaGreatDoor

/- Words: the reference's plan is the plan of the words. -/
namespace Go.Proofs.YtgnkjmgkfibipaaGreatDoor
set_option linter.unusedVariables false
set_option linter.unusedSimpArgs false
open Go Go.R
set_option maxRecDepth 1000000
noncomputable section
section
variable {n : Nat} {g : Nat → ByteArray}
theorem push_size (p : ByteArray) (c : UInt8) : (p ++ ⟨#[c]⟩).size = p.size + 1 := by rw [← bl_len, bl_push, List.length_append, bl_len]; rfl
theorem planW_one (f low at_ : Nat) : planW g (f + 1) low low at_ = [] := by rw [planW, if_pos rfl]
theorem planW_len (W : WordsOk n g) : ∀ (f : Nat) (p : ByteArray) (low high : Nat), InR n g (bl p) low high → high - low < f → (planW g f low high p.size).length = high - low
  | 0, p, low, high, R, h => by omega
  | f + 1, p, low, high, R, h => by
    rw [planW]
    by_cases e : low = high
    · rw [if_pos e, e, Nat.sub_self]; rfl
    · rw [if_neg e]
      have hlt : low < high := by have := R.le; omega
      obtain ⟨h1, h2, RA, RB, _⟩ := inR_split W R hlt (l := splitW g p.size (high + 1 - low) low) rfl
      rw [← bl_push] at RA RB
      have lA := planW_len W f _ _ _ RA (by omega)
      have lB := planW_len W f _ _ _ RB (by omega)
      rw [push_size] at lA lB
      rw [List.length_cons, List.length_append, lA, lB]
      omega
theorem obs_viewS {ρ : Nat → Nat} {m : Nat} {x : AObj} (e : x = viewS n g) : RenO ρ m x (viewS n g) := RenO.row (c := strsV n g) (lv := false) (p := []) (ty := none) e (strsV_plain n g) (fun h => h) (.inl rfl)
theorem obs_rowL {ρ : Nat → Nat} {m : Nat} {l : List Nat} {p : List Nat} {x : AObj} {c : List Value} (e : x = .cells c true p (some 3)) (ec : c = litI l) : RenO ρ m x (rowL l) := RenO.row (c := litI l) (lv := true) (p := p) (ty := some 3) (ec ▸ e) (litI_plain l) (fun h => h) (.inr rfl)
end
end
end Go.Proofs.YtgnkjmgkfibipaaGreatDoor
