/- TrialSpelled: what the law wants of the words, by its loops. -/
import Derived.Test.YtgnkjmgkfibipaaGreatDoorSSpelledKZA
namespace Go.Proofs.YtgnkjmgkfibipaaGreatDoor
set_option linter.unusedVariables false
set_option linter.unusedSimpArgs false
open Go Go.R
set_option maxRecDepth 1000000
noncomputable section

def EndsS : AExit → AF → Prop := EndsAs Tryz.prog Tryz.f4 fun v' _ => v' = .bool true
/-- Two words in a row are not in order. -/
def disO (g : Nat → ByteArray) : Nat → Bool
  | 0 => false
  | j + 1 => disO g j || !(bytesLt (g j) (g (j + 1)))
/-- Word i begins with another word. -/
def clI (g : Nat → ByteArray) (i : Nat) : Nat → Bool
  | 0 => false
  | k + 1 => clI g i k || (!(eqF (.ofNat i) (.ofNat k)) && prefB (g i) (g k))
def clO (g : Nat → ByteArray) (K : Nat) : Nat → Bool
  | 0 => false
  | i + 1 => clO g K i || clI g i K
def pw (s : Nat) : Nat := 8 / 2 ^ min s 64
def sumG (g : Nat → ByteArray) : Nat → Nat
  | 0 => 0
  | i + 1 => sumG g i + pw (g i).size
theorem pw_le (s : Nat) : pw s ≤ 8 := Nat.div_le_self _ _
theorem sumG_le (g : Nat → ByteArray) : ∀ i, sumG g i ≤ 8 * i
  | 0 => Nat.le_refl _
  | i + 1 => by
    have := sumG_le g i
    have := pw_le (g i).size
    rw [sumG]
    omega
theorem shr_i64 (k : Nat) : shiftA .shr .i64 (.ofNat 8) (.ofNat k) = some (.int .i64 (.ofNat (pw k))) := by
  unfold shiftA
  rw [if_neg (show ¬ (Int.ofNat k : Int) < 0 from Int.not_lt.2 (Int.natCast_nonneg k))]
  show some (Value.int .i64 (Int.fdiv ((8 : Nat) : Int) ((2 : Int) ^ min k 64))) = _
  have e : ((2 : Int) ^ min k 64) = ((2 ^ min k 64 : Nat) : Int) := by simp
  rw [e, Int.fdiv_eq_ediv_of_nonneg _ (Int.natCast_nonneg _)]
  rfl
def wantV (b c : Bool) : Nat := cond b 7 (cond c 13 0)

noncomputable def NIL : Value := .slice none 0 0
noncomputable def Sb (K e : Nat) : List (Nat × Value) := [(7, bldV 0 K), (11, NIL), (12, i64 e)]
noncomputable def S13 (K e v : Nat) : List (Nat × Value) := [(7, bldV 0 K), (11, NIL), (12, i64 e), (13, i64 v)]
noncomputable def Sor (K e v i : Nat) : List (Nat × Value) := [(7, bldV 0 K), (11, NIL), (12, i64 e), (13, i64 v), (14, i64 i)]
noncomputable def Sco (K e v i : Nat) : List (Nat × Value) := [(7, bldV 0 K), (11, NIL), (12, i64 e), (13, i64 v), (93, bldV 0 K), (94, i64 K), (95, i64 i)]
noncomputable def Sci (K e v i : Nat) (w : ByteArray) (k : Nat) : List (Nat × Value) := [(7, bldV 0 K), (11, NIL), (12, i64 e), (13, i64 v), (93, bldV 0 K), (94, i64 K), (95, i64 i), (15, i64 i), (16, .string w), (100, bldV 0 K), (101, i64 K), (102, i64 k)]
noncomputable def Ssu (K e v s i : Nat) : List (Nat × Value) := [(7, bldV 0 K), (11, NIL), (12, i64 e), (13, i64 v), (19, i64 s), (121, bldV 0 K), (122, i64 K), (123, i64 i)]
noncomputable def lpOr : Code := within (tl (hd (behind 7 q4)))
noncomputable def lpCo : Code := within (tl (hd (behind 8 q4)))
noncomputable def lpCi : Code := within (tl (tl (within (hd (tl (tl (within lpCo)))))))
noncomputable def lpSu : Code := within (tl (hd (behind 10 q4)))
theorem rs0_clo {m : Nat} {g : Nat → ByteArray} : ∀ x ∈ [rowS m g], CloO 1 x := rs_clo

section
variable {K e : Nat} {g : Nat → ByteArray}
theorem ord_loop (hK : K ≤ 6) : ∀ d j, j + 1 + d = K →
    Runs Tryz.prog 0 lpOr (sth (Sor K e (wantV (disO g j) false) (j + 1)) 177 [rowS K g]) fun x af => x = .exit 4 ∧ Less 0 (sth (S13 K e (wantV (disO g (K - 1)) false)) 177 [rowS K g]) af
  | 0, j, h => by
    have e1 : j + 1 = K := by omega
    have e2 : K - 1 = j := by omega
    rw [e2, ← e1]
    generalize wantV (disO g j) false = v
    refine Runs.lp (by kernel_rfl) (Runs.sq (by kernel_rfl) (Runs.sqR mixed hk38 [] (by kernel_rfl) (by kernel_rfl) (by kernel_rfl) oblN ?_))
    refine Runs.cd (b := ltF (.ofNat (j + 1)) (.ofNat (j + 1))) (by kernel_rfl) (fun ht => by rw [lt_self] at ht; cases ht) (fun _ => Runs.now (x := .exit 4) (by kernel_rfl) ⟨rfl, ?_⟩)
    exact less_seenP (clo_all (k := 1) (by kernel_rfl)) rs0_clo (Nat.zero_le _) (by kernel_rfl) (by kernel_rfl) (by kernel_rfl) (by kernel_rfl)
  | d + 1, j, h => by
    have hlt : j + 1 < K := by omega
    have hj : j < K := by omega
    have e1 : wrapF .i64 (Int.add (.ofNat (j + 1)) (.ofNat 1)) = .ofNat (j + 1 + 1) := wrap_addN (by omega)
    have es : wrapF .i64 (Int.sub (.ofNat (j + 1)) (.ofNat 1)) = .ofNat j := wrap_pred (by omega)
    have ih := ord_loop hK d (j + 1) (by omega)
    rw [disO] at ih
    refine Runs.lp (by kernel_rfl) (Runs.sq (by kernel_rfl) (Runs.sqR mixed hk38 [] (by kernel_rfl) (by kernel_rfl) (by kernel_rfl) oblN ?_))
    refine Runs.cd (b := ltF (.ofNat (j + 1)) (.ofNat K)) (by kernel_rfl) (fun _ => Runs.now (x := .normal) (by kernel_rfl) ?_) (fun hf => by rw [lt_of hlt] at hf; cases hf)
    show Runs Tryz.prog 0 _ _ _
    have fin : ∀ v af, Less 0 (sth (Sor K e v (j + 1)) 177 [rowS K g]) af → Runs Tryz.prog 0 lpOr (sth (Sor K e v (j + 1 + 1)) 177 [rowS K g]) (fun x af => x = .exit 4 ∧ Less 0 (sth (S13 K e (wantV (disO g (K - 1)) false)) 177 [rowS K g]) af) →
        Runs Tryz.prog 0 (tl (tl (within lpOr))) af (andThen (fun a1 => Runs Tryz.prog 0 lpOr a1 fun x af => x = .exit 4 ∧ Less 0 (sth (S13 K e (wantV (disO g (K - 1)) false)) 177 [rowS K g]) af) fun x af => x = .exit 4 ∧ Less 0 (sth (S13 K e (wantV (disO g (K - 1)) false)) 177 [rowS K g]) af) := by
      intro v af less hr
      refine Runs.less less ?_
      refine Runs.rg mixed hk38 [viaV 1 (i64 (j + 1 + 1))] (by kernel_rfl) (by kernel_rfl) (by kernel_rfl) (oblC (shown_eq (v := .int .i64 (wrapF .i64 (Int.add (.ofNat (j + 1)) (.ofNat 1)))) (by kernel_rfl) (by kernel_rfl) (by rw [e1]; rfl)) oblN) ?_
      show Runs Tryz.prog 0 lpOr _ _
      exact Runs.less (less_seenP (clo_all (k := 1) (by kernel_rfl)) rs0_clo (Nat.zero_le _) (by kernel_rfl) (by kernel_rfl) (by kernel_rfl) (by kernel_rfl)) hr
    cases hb : disO g j with
    | true =>
      rw [hb, Bool.true_or] at ih
      refine Runs.sq (by kernel_rfl) (Runs.bk (id := 5) (by kernel_rfl) ?_)
      refine Runs.sqR mixed hk38 [] (by kernel_rfl) (by kernel_rfl) (by kernel_rfl) oblN ?_
      refine Runs.cd (b := false) (by kernel_rfl) (fun ht => by cases ht) (fun _ => Runs.now (x := .normal) (by kernel_rfl) ?_)
      exact fin (wantV true false) _ (less_seenP (clo_all (k := 1) (by kernel_rfl)) rs0_clo (Nat.zero_le _) (by kernel_rfl) (by kernel_rfl) (by kernel_rfl) (by kernel_rfl)) ih
    | false =>
      rw [hb, Bool.false_or] at ih
      refine Runs.sq (by kernel_rfl) (Runs.bk (id := 5) (by kernel_rfl) ?_)
      refine Runs.sqR mixed hk38 [viaV 5 (i64 j), viaV 6 (.pointer (some ⟨0, 0 + j * 1, none⟩)), viaV 7 (.string (g j)), viaV 10 (.pointer (some ⟨0, 0 + (j + 1) * 1, none⟩)), viaV 11 (.string (g (j + 1)))] (by kernel_rfl) (by kernel_rfl) (by kernel_rfl)
        (oblC (shown_eq (v := .int .i64 (wrapF .i64 (Int.sub (.ofNat (j + 1)) (.ofNat 1)))) (by kernel_rfl) (by kernel_rfl) (by rw [es]; rfl))
        (oblC (shown_idx (n := K) (i := j) (by kernel_rfl) hj) (oblC (shown_cell (by kernel_rfl) (strV_at (g := 0) (k := K) (i := j) (f := g) (lv := true) (par := []) (ty := some 9) (by kernel_rfl) hj))
        (oblC (shown_idx (n := K) (i := j + 1) (by kernel_rfl) hlt) (oblC (shown_cell (by kernel_rfl) (strV_at (g := 0) (k := K) (i := j + 1) (f := g) (lv := true) (par := []) (ty := some 9) (by kernel_rfl) hlt)) oblN))))) ?_
      refine Runs.cd (b := !(bytesLt (g j) (g (j + 1)))) (by kernel_rfl) (fun ht => ?_) (fun ht => Runs.now (x := .normal) (by kernel_rfl) ?_)
      · rw [ht] at ih
        refine Runs.rg mixed hk38 [] (by kernel_rfl) (by kernel_rfl) (by kernel_rfl) oblN ?_
        exact fin (wantV true false) _ (less_seenP (clo_all (k := 1) (by kernel_rfl)) rs0_clo (Nat.zero_le _) (by kernel_rfl) (by kernel_rfl) (by kernel_rfl) (by kernel_rfl)) ih
      · rw [ht] at ih
        exact fin (wantV false false) _ (less_seenP (clo_all (k := 1) (by kernel_rfl)) rs0_clo (Nat.zero_le _) (by kernel_rfl) (by kernel_rfl) (by kernel_rfl) (by kernel_rfl)) ih
theorem cli_loop (hK : K ≤ 6) (b c : Bool) (i : Nat) (hi : i < K) : ∀ d k, k + d = K →
    Runs Tryz.prog 0 lpCi (sth (Sci K e (wantV b (c || clI g i k)) i (g i) k) 177 [rowS K g]) fun x af => x = .exit 8 ∧ Less 0 (sth (Sco K e (wantV b (c || clI g i K)) i) 177 [rowS K g]) af
  | 0, k, h => by
    have e1 : k = K := by omega
    subst e1
    generalize wantV b (c || clI g i k) = v
    refine Runs.lp (by kernel_rfl) (Runs.sqR mixed hk38 [] (by kernel_rfl) (by kernel_rfl) (by kernel_rfl) oblN (Runs.sq (by kernel_rfl) ?_))
    refine Runs.cd (b := ltF (.ofNat k) (.ofNat k)) (by kernel_rfl) (fun ht => by rw [lt_self] at ht; cases ht) (fun _ => Runs.now (x := .exit 8) (by kernel_rfl) ⟨rfl, ?_⟩)
    exact less_seenP (clo_all (k := 1) (by kernel_rfl)) rs0_clo (Nat.zero_le _) (by kernel_rfl) (by kernel_rfl) (by kernel_rfl) (by kernel_rfl)
  | d + 1, k, h => by
    have hlt : k < K := by omega
    have e1 : wrapF .i64 (Int.add (.ofNat k) (.ofNat 1)) = .ofNat (k + 1) := wrap_addN (by omega)
    have ih := cli_loop hK b c i hi d (k + 1) (by omega)
    have ec : (c || clI g i (k + 1)) = ((c || clI g i k) || (!(eqF (.ofNat i) (.ofNat k)) && prefB (g i) (g k))) := by rw [clI, Bool.or_assoc]
    rw [ec] at ih
    generalize (c || clI g i k) = v at *
    generalize clI g i K = cK at *
    refine Runs.lp (by kernel_rfl) (Runs.sqR mixed hk38 [] (by kernel_rfl) (by kernel_rfl) (by kernel_rfl) oblN (Runs.sq (by kernel_rfl) ?_))
    refine Runs.cd (b := ltF (.ofNat k) (.ofNat K)) (by kernel_rfl) (fun _ => Runs.now (x := .normal) (by kernel_rfl) ?_) (fun hf => by rw [lt_of hlt] at hf; cases hf)
    show Runs Tryz.prog 0 _ _ _
    refine Runs.sq (by kernel_rfl) (Runs.bk (id := 9) (by kernel_rfl) ?_)
    refine Runs.sqR mixed hk38 [viaV 1 (.pointer (some ⟨0, 0 + k * 1, none⟩)), viaV 2 (.string (g k))] (by kernel_rfl) (by kernel_rfl) (by kernel_rfl)
      (oblC (shown_idx (n := K) (i := k) (by kernel_rfl) hlt) (oblC (shown_cell (by kernel_rfl) (strV_at (g := 0) (k := K) (i := k) (f := g) (lv := true) (par := []) (ty := some 9) (by kernel_rfl) hlt)) oblN)) ?_
    have fin : ∀ v2 af, Less 0 (sth (Sci K e v2 i (g i) k) 177 [rowS K g]) af → Runs Tryz.prog 0 lpCi (sth (Sci K e v2 i (g i) (k + 1)) 177 [rowS K g]) (fun x af => x = .exit 8 ∧ Less 0 (sth (Sco K e (wantV b (c || cK)) i) 177 [rowS K g]) af) →
        Runs Tryz.prog 0 (tl (tl (tl (within lpCi)))) af (andThen (fun a1 => Runs Tryz.prog 0 lpCi a1 fun x af => x = .exit 8 ∧ Less 0 (sth (Sco K e (wantV b (c || cK)) i) 177 [rowS K g]) af) fun x af => x = .exit 8 ∧ Less 0 (sth (Sco K e (wantV b (c || cK)) i) 177 [rowS K g]) af) := by
      intro v2 af less hr
      refine Runs.less less ?_
      refine Runs.rg mixed hk38 [viaV 0 (i64 (k + 1))] (by kernel_rfl) (by kernel_rfl) (by kernel_rfl) (oblC (shown_eq (v := .int .i64 (wrapF .i64 (Int.add (.ofNat k) (.ofNat 1)))) (by kernel_rfl) (by kernel_rfl) (by rw [e1]; rfl)) oblN) ?_
      show Runs Tryz.prog 0 lpCi _ _
      exact Runs.less (less_seenP (clo_all (k := 1) (by kernel_rfl)) rs0_clo (Nat.zero_le _) (by kernel_rfl) (by kernel_rfl) (by kernel_rfl) (by kernel_rfl)) hr
    cases b with
    | true =>
      refine Runs.sqR mixed hk38 [] (by kernel_rfl) (by kernel_rfl) (by kernel_rfl) oblN ?_
      refine Runs.cd (b := false) (by kernel_rfl) (fun ht => by cases ht) (fun _ => Runs.now (x := .normal) (by kernel_rfl) ?_)
      exact fin (wantV true v) _ (less_seenP (clo_all (k := 1) (by kernel_rfl)) rs0_clo (Nat.zero_le _) (by kernel_rfl) (by kernel_rfl) (by kernel_rfl) (by kernel_rfl)) ih
    | false =>
      cases v with
      | true =>
        rw [Bool.true_or] at ih
        refine Runs.sqR mixed hk38 [] (by kernel_rfl) (by kernel_rfl) (by kernel_rfl) oblN ?_
        refine Runs.cd (b := false) (by kernel_rfl) (fun ht => by cases ht) (fun _ => Runs.now (x := .normal) (by kernel_rfl) ?_)
        exact fin (wantV false true) _ (less_seenP (clo_all (k := 1) (by kernel_rfl)) rs0_clo (Nat.zero_le _) (by kernel_rfl) (by kernel_rfl) (by kernel_rfl) (by kernel_rfl)) ih
      | false =>
        rw [Bool.false_or] at ih
        cases hn : eqF (.ofNat i) (.ofNat k) with
        | true =>
          rw [hn, Bool.not_true, Bool.false_and] at ih
          refine Runs.sqR mixed hk38 [viaV 5 (.bool false)] (by kernel_rfl) (by kernel_rfl) (by kernel_rfl) (oblC (shown_eq (v := .bool (!(eqF (.ofNat i) (.ofNat k)))) (by kernel_rfl) (by kernel_rfl) (by rw [hn]; rfl)) oblN) ?_
          refine Runs.cd (b := false) (by kernel_rfl) (fun ht => by cases ht) (fun _ => Runs.now (x := .normal) (by kernel_rfl) ?_)
          exact fin (wantV false false) _ (less_seenP (clo_all (k := 1) (by kernel_rfl)) rs0_clo (Nat.zero_le _) (by kernel_rfl) (by kernel_rfl) (by kernel_rfl) (by kernel_rfl)) ih
        | false =>
          rw [hn, Bool.not_false, Bool.true_and] at ih
          have hp := prefix_says (g i) (g k) (hp [rowS K g])
          refine Runs.sqR mixed hk38 [viaV 5 (.bool true), viaC 10 25 [.string (g i), .string (g k)] (.bool (prefB (g i) (g k)))] (by kernel_rfl) (by kernel_rfl) (by kernel_rfl)
            (oblC (shown_eq (v := .bool (!(eqF (.ofNat i) (.ofNat k)))) (by kernel_rfl) (by kernel_rfl) (by rw [hn]; rfl)) (oblC (shown_callE (h0 := Go.R.hp [rowS K g]) (by kernel_rfl) (by kernel_rfl) hp) oblN)) ?_
          refine Runs.cd (b := prefB (g i) (g k)) (by kernel_rfl) (fun ht => ?_) (fun ht => Runs.now (x := .normal) (by kernel_rfl) ?_)
          · rw [ht] at ih
            refine Runs.rg mixed hk38 [] (by kernel_rfl) (by kernel_rfl) (by kernel_rfl) oblN ?_
            exact fin (wantV false true) _ (less_seenP (clo_all (k := 1) (by kernel_rfl)) rs0_clo (Nat.zero_le _) (by kernel_rfl) (by kernel_rfl) (by kernel_rfl) (by kernel_rfl)) ih
          · rw [ht] at ih
            exact fin (wantV false false) _ (less_seenP (clo_all (k := 1) (by kernel_rfl)) rs0_clo (Nat.zero_le _) (by kernel_rfl) (by kernel_rfl) (by kernel_rfl) (by kernel_rfl)) ih
end
end
end Go.Proofs.YtgnkjmgkfibipaaGreatDoor

/- TrialSpelled: the law where Plan returns an error. -/
namespace Go.Proofs.YtgnkjmgkfibipaaGreatDoor
set_option linter.unusedVariables false
set_option linter.unusedSimpArgs false
open Go Go.R
set_option maxRecDepth 1000000
noncomputable section
section
variable {K e : Nat} {g : Nat → ByteArray}
theorem clo_loop (hK : K ≤ 6) (b : Bool) : ∀ d i, i + d = K →
    Runs Tryz.prog 0 lpCo (sth (Sco K e (wantV b (clO g K i)) i) 177 [rowS K g]) fun x af => x = .exit 6 ∧ Less 0 (sth (S13 K e (wantV b (clO g K K))) 177 [rowS K g]) af
  | 0, i, h => by
    have e1 : i = K := by omega
    subst e1
    generalize wantV b (clO g i i) = v
    refine Runs.lp (by kernel_rfl) (Runs.sqR mixed hk38 [] (by kernel_rfl) (by kernel_rfl) (by kernel_rfl) oblN (Runs.sq (by kernel_rfl) ?_))
    refine Runs.cd (b := ltF (.ofNat i) (.ofNat i)) (by kernel_rfl) (fun ht => by rw [lt_self] at ht; cases ht) (fun _ => Runs.now (x := .exit 6) (by kernel_rfl) ⟨rfl, ?_⟩)
    exact less_seenP (clo_all (k := 1) (by kernel_rfl)) rs0_clo (Nat.zero_le _) (by kernel_rfl) (by kernel_rfl) (by kernel_rfl) (by kernel_rfl)
  | d + 1, i, h => by
    have hlt : i < K := by omega
    have e1 : wrapF .i64 (Int.add (.ofNat i) (.ofNat 1)) = .ofNat (i + 1) := wrap_addN (by omega)
    have ih := clo_loop hK b d (i + 1) (by omega)
    have hin := cli_loop (K := K) (e := e) (g := g) hK b (clO g K i) i hlt K 0 (by omega)
    rw [show (clO g K i || clI g i 0) = clO g K i by rw [clI, Bool.or_false]] at hin
    rw [clO] at ih
    generalize wantV b (clO g K i) = v at *
    generalize wantV b (clO g K i || clI g i K) = v2 at *
    refine Runs.lp (by kernel_rfl) (Runs.sqR mixed hk38 [] (by kernel_rfl) (by kernel_rfl) (by kernel_rfl) oblN (Runs.sq (by kernel_rfl) ?_))
    refine Runs.cd (b := ltF (.ofNat i) (.ofNat K)) (by kernel_rfl) (fun _ => Runs.now (x := .normal) (by kernel_rfl) ?_) (fun hf => by rw [lt_of hlt] at hf; cases hf)
    show Runs Tryz.prog 0 _ _ _
    refine Runs.sq (by kernel_rfl) (Runs.bk (id := 7) (by kernel_rfl) ?_)
    refine Runs.sqR mixed hk38 [viaV 1 (.pointer (some ⟨0, 0 + i * 1, none⟩)), viaV 2 (.string (g i))] (by kernel_rfl) (by kernel_rfl) (by kernel_rfl)
      (oblC (shown_idx (n := K) (i := i) (by kernel_rfl) hlt) (oblC (shown_cell (by kernel_rfl) (strV_at (g := 0) (k := K) (i := i) (f := g) (lv := true) (par := []) (ty := some 9) (by kernel_rfl) hlt)) oblN)) ?_
    refine Runs.sqR mixed hk38 [] (by kernel_rfl) (by kernel_rfl) (by kernel_rfl) oblN (Runs.bk (id := 8) (by kernel_rfl) ?_)
    refine Runs.less (af1 := sth (Sci K e v i (g i) 0) 177 [rowS K g]) (less_seenP (clo_all (k := 1) (by kernel_rfl)) rs0_clo (Nat.zero_le _) (by kernel_rfl) (by kernel_rfl) (by kernel_rfl) (by kernel_rfl)) ?_
    show Runs Tryz.prog 0 lpCi _ _
    refine hin.mono fun x af hx => ?_
    obtain ⟨rfl, less⟩ := hx
    show Runs Tryz.prog 0 _ af _
    refine Runs.less less ?_
    refine Runs.rg mixed hk38 [viaV 0 (i64 (i + 1))] (by kernel_rfl) (by kernel_rfl) (by kernel_rfl) (oblC (shown_eq (v := .int .i64 (wrapF .i64 (Int.add (.ofNat i) (.ofNat 1)))) (by kernel_rfl) (by kernel_rfl) (by rw [e1]; rfl)) oblN) ?_
    show Runs Tryz.prog 0 lpCo _ _
    exact Runs.less (less_seenP (clo_all (k := 1) (by kernel_rfl)) rs0_clo (Nat.zero_le _) (by kernel_rfl) (by kernel_rfl) (by kernel_rfl) (by kernel_rfl)) ih
theorem sum_loopS (hK : K ≤ 6) (v : Nat) : ∀ d i, i + d = K →
    Runs Tryz.prog 0 lpSu (sth (Ssu K e v (sumG g i) i) 177 [rowS K g]) fun x af => x = .exit 10 ∧ Less 0 (sth [(11, NIL), (12, i64 e), (13, i64 v), (19, i64 (sumG g K))] 177 [rowS K g]) af
  | 0, i, h => by
    have e1 : i = K := by omega
    subst e1
    generalize sumG g i = s
    refine Runs.lp (by kernel_rfl) (Runs.sqR mixed hk38 [] (by kernel_rfl) (by kernel_rfl) (by kernel_rfl) oblN (Runs.sq (by kernel_rfl) ?_))
    refine Runs.cd (b := ltF (.ofNat i) (.ofNat i)) (by kernel_rfl) (fun ht => by rw [lt_self] at ht; cases ht) (fun _ => Runs.now (x := .exit 10) (by kernel_rfl) ⟨rfl, ?_⟩)
    exact less_seenP (clo_all (k := 1) (by kernel_rfl)) rs0_clo (Nat.zero_le _) (by kernel_rfl) (by kernel_rfl) (by kernel_rfl) (by kernel_rfl)
  | d + 1, i, h => by
    have hlt : i < K := by omega
    have e1 : wrapF .i64 (Int.add (.ofNat i) (.ofNat 1)) = .ofNat (i + 1) := wrap_addN (by omega)
    have hs := sumG_le g i
    have hpw := pw_le (g i).size
    have hsh := shr_i64 (g i).size
    have ih := sum_loopS hK v d (i + 1) (by omega)
    rw [sumG] at ih
    have e2 : wrapF .i64 (Int.add (.ofNat (sumG g i)) (.ofNat (pw (g i).size))) = .ofNat (sumG g i + pw (g i).size) := wrap_addN (by omega)
    generalize pw (g i).size = q at *
    generalize sumG g i = s at *
    refine Runs.lp (by kernel_rfl) (Runs.sqR mixed hk38 [] (by kernel_rfl) (by kernel_rfl) (by kernel_rfl) oblN (Runs.sq (by kernel_rfl) ?_))
    refine Runs.cd (b := ltF (.ofNat i) (.ofNat K)) (by kernel_rfl) (fun _ => Runs.now (x := .normal) (by kernel_rfl) ?_) (fun hf => by rw [lt_of hlt] at hf; cases hf)
    show Runs Tryz.prog 0 _ _ _
    refine Runs.sq (by kernel_rfl) (Runs.bk (id := 11) (by kernel_rfl) ?_)
    refine Runs.sqR mixed hk38 [viaV 0 (.pointer (some ⟨0, 0 + i * 1, none⟩)), viaV 1 (.string (g i))] (by kernel_rfl) (by kernel_rfl) (by kernel_rfl)
      (oblC (shown_idx (n := K) (i := i) (by kernel_rfl) hlt) (oblC (shown_cell (by kernel_rfl) (strV_at (g := 0) (k := K) (i := i) (f := g) (lv := true) (par := []) (ty := some 9) (by kernel_rfl) hlt)) oblN)) ?_
    refine Runs.rg mixed hk38 [viaV 3 (i64 q), viaV 4 (i64 (s + q))] (by kernel_rfl) (by kernel_rfl) (by kernel_rfl)
      (oblC ⟨by kernel_rfl, (show _ = (shiftA .shr .i64 (.ofNat 8) (.ofNat (g i).size)).map (·, hp [rowS K g]) by kernel_rfl).trans (by rw [hsh]; rfl)⟩
      (oblC (shown_eq (v := .int .i64 (wrapF .i64 (Int.add (.ofNat s) (.ofNat q)))) (by kernel_rfl) (by kernel_rfl) (by rw [e2]; rfl)) oblN)) ?_
    show Runs Tryz.prog 0 _ _ _
    refine Runs.rg mixed hk38 [viaV 0 (i64 (i + 1))] (by kernel_rfl) (by kernel_rfl) (by kernel_rfl) (oblC (shown_eq (v := .int .i64 (wrapF .i64 (Int.add (.ofNat i) (.ofNat 1)))) (by kernel_rfl) (by kernel_rfl) (by rw [e1]; rfl)) oblN) ?_
    show Runs Tryz.prog 0 lpSu _ _
    exact Runs.less (less_seenP (clo_all (k := 1) (by kernel_rfl)) rs0_clo (Nat.zero_le _) (by kernel_rfl) (by kernel_rfl) (by kernel_rfl) (by kernel_rfl)) ih

noncomputable def endB (v : Nat) : Bool := okRun Tryz.prog Tryz.f4 (execA Tryz.prog (callA Tryz.prog works 1000) 1000 (behind 12 q4) (sth [(11, NIL), (12, i64 v), (13, i64 v)] 177 [])) (.bool true)
theorem end7 : endB 7 = true := by kernel_rfl
theorem end13 : endB 13 = true := by kernel_rfl
theorem end21 : endB 21 = true := by kernel_rfl
/-- What the law wants in the end. -/
def wantE (b c : Bool) (s : Nat) : Nat := cond b 7 (cond c 13 (cond (ltF (.ofNat s) 8) 21 0))
theorem end_at {v : Nat} {os : List AObj} {af : AF} (hv : endB v = true) (less : Less 0 (sth [(11, NIL), (12, i64 v), (13, i64 v)] 177 []) af) : Runs Tryz.prog 0 (behind 12 q4) af EndsS :=
  Runs.less less (Runs.last mixed (call_ok mixed noNum works_ok 1000) (Nat.zero_le _) hv)
theorem bad_runs (hK : K ≤ 6) (h1 : 1 ≤ K) (he : e = wantE (disO g (K - 1)) (clO g K K) (sumG g K)) (hne : e ≠ 0) :
    Runs Tryz.prog 0 (behind 5 q4) (sth (Sb K e) 177 [rowS K g]) EndsS := by
  have ho := ord_loop (K := K) (e := e) (g := g) hK (K - 1) 0 (by omega)
  have hc := clo_loop (K := K) (e := e) (g := g) hK (disO g (K - 1)) K 0 (by omega)
  have hsu := sum_loopS (K := K) (e := e) (g := g) hK (wantV (disO g (K - 1)) (clO g K K)) K 0 (by omega)
  have e0 : clO g K 0 = false := rfl
  rw [e0] at hc
  have es : sumG g 0 = 0 := rfl
  rw [es] at hsu
  have ed : disO g 0 = false := rfl
  rw [ed] at ho
  generalize disO g (K - 1) = b at *
  generalize clO g K K = c at *
  generalize sumG g K = s at *
  have hb0 : ¬ (K = 0) := by omega
  have ne0 : eqF (.ofNat K) 0 = false := by
    cases K with
    | zero => omega
    | succ k => rfl
  refine Runs.sqR mixed hk38 [] (by kernel_rfl) (by kernel_rfl) (by kernel_rfl) oblN ?_
  refine Runs.sq (by kernel_rfl) (Runs.sqR mixed hk38 [] (by kernel_rfl) (by kernel_rfl) (by kernel_rfl) oblN ?_)
  refine Runs.cd (b := eqF (.ofNat K) 0) (by kernel_rfl) (fun ht => by rw [ne0] at ht; cases ht) (fun _ => Runs.now (x := .normal) (by kernel_rfl) ?_)
  show Runs Tryz.prog 0 _ _ _
  refine Runs.sq (by kernel_rfl) (Runs.sqR mixed hk38 [] (by kernel_rfl) (by kernel_rfl) (by kernel_rfl) oblN (Runs.bk (id := 4) (by kernel_rfl) ?_))
  refine Runs.less (af1 := sth (Sor K e (wantV false false) (0 + 1)) 177 [rowS K g]) (less_seenP (clo_all (k := 1) (by kernel_rfl)) rs0_clo (Nat.zero_le _) (by kernel_rfl) (by kernel_rfl) (by kernel_rfl) (by kernel_rfl)) ?_
  show Runs Tryz.prog 0 lpOr _ _
  refine ho.mono fun x af hx => ?_
  obtain ⟨rfl, less⟩ := hx
  show Runs Tryz.prog 0 _ af _
  refine Runs.less less ?_
  refine Runs.sq (by kernel_rfl) (Runs.sqR mixed hk38 [] (by kernel_rfl) (by kernel_rfl) (by kernel_rfl) oblN (Runs.bk (id := 6) (by kernel_rfl) ?_))
  refine Runs.less (af1 := sth (Sco K e (wantV b false) 0) 177 [rowS K g]) (less_seenP (clo_all (k := 1) (by kernel_rfl)) rs0_clo (Nat.zero_le _) (by kernel_rfl) (by kernel_rfl) (by kernel_rfl) (by kernel_rfl)) ?_
  show Runs Tryz.prog 0 lpCo _ _
  refine hc.mono fun x af hx => ?_
  obtain ⟨rfl, less⟩ := hx
  show Runs Tryz.prog 0 _ af _
  refine Runs.less less ?_
  refine Runs.sqR mixed hk38 [] (by kernel_rfl) (by kernel_rfl) (by kernel_rfl) oblN ?_
  refine Runs.sq (by kernel_rfl) (Runs.sqR mixed hk38 [] (by kernel_rfl) (by kernel_rfl) (by kernel_rfl) oblN (Runs.bk (id := 10) (by kernel_rfl) ?_))
  refine Runs.less (af1 := sth (Ssu K e (wantV b c) 0 0) 177 [rowS K g]) (less_seenP (clo_all (k := 1) (by kernel_rfl)) rs0_clo (Nat.zero_le _) (by kernel_rfl) (by kernel_rfl) (by kernel_rfl) (by kernel_rfl)) ?_
  show Runs Tryz.prog 0 lpSu _ _
  refine hsu.mono fun x af hx => ?_
  obtain ⟨rfl, less⟩ := hx
  show Runs Tryz.prog 0 (behind 11 q4) af _
  refine Runs.less less ?_
  cases b with
  | true =>
    have e7 : e = 7 := he
    subst e7
    refine Runs.sq (by kernel_rfl) (Runs.sqR mixed hk38 [] (by kernel_rfl) (by kernel_rfl) (by kernel_rfl) oblN ?_)
    refine Runs.cd (b := false) (by kernel_rfl) (fun ht => by cases ht) (fun _ => Runs.now (x := .normal) (by kernel_rfl) ?_)
    show Runs Tryz.prog 0 (behind 12 q4) _ _
    exact end_at (os := []) end7 (less_seenP (clo_all (k := 0) (by kernel_rfl)) (fun o ho => by cases ho) (Nat.zero_le _) (by kernel_rfl) (by kernel_rfl) (by kernel_rfl) (by kernel_rfl))
  | false =>
    cases c with
    | true =>
      have e7 : e = 13 := he
      subst e7
      refine Runs.sq (by kernel_rfl) (Runs.sqR mixed hk38 [] (by kernel_rfl) (by kernel_rfl) (by kernel_rfl) oblN ?_)
      refine Runs.cd (b := false) (by kernel_rfl) (fun ht => by cases ht) (fun _ => Runs.now (x := .normal) (by kernel_rfl) ?_)
      show Runs Tryz.prog 0 (behind 12 q4) _ _
      exact end_at (os := []) end13 (less_seenP (clo_all (k := 0) (by kernel_rfl)) (fun o ho => by cases ho) (Nat.zero_le _) (by kernel_rfl) (by kernel_rfl) (by kernel_rfl) (by kernel_rfl))
    | false =>
      refine Runs.sq (by kernel_rfl) (Runs.sqR mixed hk38 [] (by kernel_rfl) (by kernel_rfl) (by kernel_rfl) oblN ?_)
      refine Runs.cd (b := ltF (.ofNat s) 8) (by kernel_rfl) (fun ht => ?_) (fun ht => ?_)
      · have e7 : e = 21 := by rw [he]; show cond (ltF (.ofNat s) 8) 21 0 = 21; rw [ht]; rfl
        subst e7
        refine Runs.rg mixed hk38 [] (by kernel_rfl) (by kernel_rfl) (by kernel_rfl) oblN ?_
        show Runs Tryz.prog 0 (behind 12 q4) _ _
        exact end_at (os := []) end21 (less_seenP (clo_all (k := 0) (by kernel_rfl)) (fun o ho => by cases ho) (Nat.zero_le _) (by kernel_rfl) (by kernel_rfl) (by kernel_rfl) (by kernel_rfl))
      · exact absurd (by rw [he]; show cond (ltF (.ofNat s) 8) 21 0 = 0; rw [ht]; rfl) hne
end
end
end Go.Proofs.YtgnkjmgkfibipaaGreatDoor
