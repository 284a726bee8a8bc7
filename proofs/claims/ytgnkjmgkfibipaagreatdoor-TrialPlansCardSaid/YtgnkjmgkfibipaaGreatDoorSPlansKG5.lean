/- A byte behind a builder's bytes. -/
import Derived.Test.YtgnkjmgkfibipaaGreatDoorSPlansKG4
import Derived.Test.YtgnkjmgkfibipaaGreatDoorSPlansRG6
namespace Go.Proofs.YtgnkjmgkfibipaaGreatDoor
set_option linter.unusedVariables false
set_option linter.unusedSimpArgs false
open Go Go.R
set_option maxRecDepth 1000000
noncomputable section

noncomputable def ptrC (i : Nat) : Value := .pointer (some ⟨i, 0, none⟩)
noncomputable def litB (bs : List Int) : List Value := bs.map fun x => .int .u8 x
noncomputable def rowB (bs : List Int) : AObj := .cells (litB bs) true [] (some 5)
theorem litB_len (bs : List Int) : (litB bs).length = bs.length := List.length_map _
theorem litB_plain (bs : List Int) : ∀ x ∈ litB bs, plainV x = true := fun x hx => by
  obtain ⟨i, _, rfl⟩ := List.mem_map.1 hx; rfl
theorem litB_app (a b : List Int) : litB a ++ litB b = litB (a ++ b) := by simp [litB]
noncomputable def bldV (i m : Nat) : Value := .slice (some ⟨i, 0, some 1⟩) m m
noncomputable def OsN (n : Nat) (f : Nat → Int) : List AObj := [viewZ n f, .cells [.pointer none, .slice none 0 0] true [] (some 90)]
noncomputable def OsB (n : Nat) (f : Nat → Int) (bs : List Int) : List AObj := [viewZ n f, .cells [ptrC 1, bldV 2 bs.length] true [] (some 90), rowB bs]

theorem byte_info : ∃ info, Tryz.prog.info? 5 = some info ∧ info.size = 1 ∧ (decide (info.bytes > 1000000) || !zfit info) = false := ⟨(Tryz.prog.info? 5).get!, by kernel_rfl, by kernel_rfl, by kernel_rfl⟩

theorem push_byte {h : AH} {bs : List Int} {x : Int} (hlen : bs.length < 1000000) (h1 : h.get 2 = rowB bs) (h2 : h.get 3 = .cells [.int .u8 x] true [] (some 5)) :
    appendA Tryz.prog #[88, 88] (bldV 2 bs.length) (.slice (some ⟨3, 0, none⟩) 1 1) h = some (bldV h.next (bs.length + 1), ((h.put 2 (.cells (litB bs) false [] (some 5))).new (.cells (litB (bs ++ [x])) true [2] (some 5))).2) := by
  have e1 : Tryz.prog.underlying 88 = some (.slice 5) := by kernel_rfl
  obtain ⟨info, e2, e3, e4⟩ := byte_info
  rw [Bool.or_eq_false_iff] at e4
  have e5 : srcA 1 (.slice (some ⟨3, 0, none⟩) 1 1) h = some ([.int .u8 x], 1) := by
    unfold srcA
    simp only [show ¬ (1 = 0) by decide, if_false]
    show (rowAt? h 3 0 1).map (·, 1) = _
    unfold rowAt?
    rw [h2]; rfl
  have e6 : (decide (bs.length > 1000000)) = false := by simp; omega
  have e7 : appendU 5 1 2 0 bs.length 1 [.int .u8 x] h = some (.slice (some ⟨h.next, 0, some 1⟩) (bs.length + 1) (bs.length + 1), ((h.put 2 (.cells (litB bs) false [] (some 5))).new (.cells (litB (bs ++ [x])) true [2] (some 5))).2) := by
    unfold appendU
    rw [h1]
    show (if 0 + bs.length * 1 = (litB bs).length then _ else _) = _
    rw [if_pos (by rw [litB_len]; omega), ← litB_app]
    rfl
  unfold bldV appendA
  simp only [List.getElem?_toArray, List.getElem?_cons_zero, List.getElem?_cons_succ, e1, e2, srcKind, Bool.not_true, Bool.false_eq_true, if_false, e3, e5]
  have e8 : ([Value.int .u8 x].all cellV) = true := by rfl
  simp only [e8, e4.1, e4.2, e6, Bool.not_true, Bool.or_false, Bool.false_or, Bool.or_self, decide_false, show (1 = 0) = False by simp, show (1 : Nat) > 1000000 ↔ False by simp, if_false, decide_true, ne_eq, not_true_eq_false, Bool.false_eq_true, show (0 + 1 = 1) by rfl, e7]

/-! ### WriteByte -/
noncomputable def c122 : Code := bodyOf Tryz.f71
theorem wb_n (n : Nat) (f : Nat → Int) (c : Int) : Local Tryz.prog 2 71 [ptrC 1, .int .u8 c] (hp (OsN n f)) (IsSlotP 2 1 1 [ptrC 1] (litB [c]) (some 5) (some 90) .nilIface (hp (OsN n f))) := by
  refine local_of noNum Tryz.func71 (show Tryz.f71.body = some c122 by kernel_rfl) ?_
  refine Runs.sqR mixed hk38 [] (by kernel_rfl) (by kernel_rfl) (by kernel_rfl) oblN ?_
  refine Runs.sqR mixed hk38 [] (by kernel_rfl) (by kernel_rfl) (by kernel_rfl) oblN ?_
  refine Runs.sqR mixed hk38 [] (by kernel_rfl) (by kernel_rfl) (by kernel_rfl) oblN ?_
  refine Runs.sqR mixed hk38 [] (by kernel_rfl) (by kernel_rfl) (by kernel_rfl) oblN ?_
  refine Runs.now (x := .ret) (by kernel_rfl) ⟨.inr rfl, [.nilIface], by kernel_rfl, rfl, 3, [], by decide, fun j hj h => (by cases h), by kernel_rfl, by kernel_rfl, fun j hj hne => ?_⟩
  have : j = 0 := by omega
  subst this
  exact Eq.trans (Eq.refl _) (by kernel_rfl)

theorem wb_l (n : Nat) (f : Nat → Int) (c : Int) (bs : List Int) (hlen : bs.length < 1000000) : Local Tryz.prog 2 71 [ptrC 1, .int .u8 c] (hp (OsB n f bs)) (IsSlotP 2 1 (bs.length + 1) [ptrC 1] (litB (bs ++ [c])) (some 5) (some 90) .nilIface (hp (OsB n f bs))) := by
  refine local_of noNum Tryz.func71 (show Tryz.f71.body = some c122 by kernel_rfl) ?_
  refine Runs.sqR mixed hk38 [] (by kernel_rfl) (by kernel_rfl) (by kernel_rfl) oblN ?_
  refine Runs.sqR mixed hk38 [] (by kernel_rfl) (by kernel_rfl) (by kernel_rfl) oblN ?_
  let H3 : AH := ((hp (OsB n f bs)).new (.cells [.int .u8 c] true [] (some 5))).2
  have hap := push_byte (h := H3) (bs := bs) (x := c) hlen (by kernel_rfl) (by kernel_rfl)
  refine Runs.sqR mixed hk38 [⟨7, bldV 4 (bs.length + 1), some ((H3.put 2 (.cells (litB bs) false [] (some 5))).new (.cells (litB (bs ++ [c])) true [2] (some 5))).2, none⟩] (by kernel_rfl) (by kernel_rfl) (by kernel_rfl)
    (oblC ⟨by kernel_rfl, (show _ = appendA Tryz.prog #[88, 88] (bldV 2 bs.length) (.slice (some ⟨3, 0, none⟩) 1 1) H3 by kernel_rfl).trans hap⟩ oblN) ?_
  refine Runs.sqR mixed hk38 [] (by kernel_rfl) (by kernel_rfl) (by kernel_rfl) oblN ?_
  refine Runs.now (x := .ret) (by kernel_rfl) ⟨.inr rfl, [.nilIface], by kernel_rfl, rfl, 4, [2], by decide, fun j hj h => (by rw [List.mem_singleton] at h; omega), by kernel_rfl, by kernel_rfl, fun j hj hne => ?_⟩
  have : j = 0 := by omega
  subst this
  exact Eq.trans (Eq.refl _) (by kernel_rfl)

/-! ### Told -/
/-- The heap behind a byte more. -/
noncomputable def HB1 (n : Nat) (f : Nat → Int) (bs bs' : List Int) : AH := ((((hp (OsB n f bs)).put 1 (.cells [ptrC 1, bldV 3 bs'.length] true [] (some 90))).put 2 .dead).new (rowB bs')).2
theorem ptr1_clo : ∀ u ∈ [ptrC 1], Clo 2 u := fun u hu => by rw [List.mem_singleton.1 hu]; exact clo_of 10 2 _ (by kernel_rfl)
theorem ptr_at1 {args : List Value} {q : Nat} (h : args[q]? = some (ptrC 1)) : ∃ (q : Nat) (u : Value), args[q]? = some u ∧ Born 1 u := ⟨q, _, h, Born.ptr 1 0⟩

theorem view_root {n k : Nat} {f : Nat → Int} {h : AH} (e : h.get 0 = viewZ n f) : ∃ c lv t, h.get 0 = .cells c lv [] t ∧ ∀ v ∈ c, Clo k v := ⟨intsZ n f, false, none, e, fun v hv => clo_plain (intsZ_plain n f v hv)⟩

theorem says_n {n : Nat} {f : Nat → Int} {fid : FuncId} {args : List Value} {v : Value} {c : Int} (L : Local Tryz.prog 2 fid args (hp (OsN n f)) (IsSlotP 2 1 1 [ptrC 1] (litB [c]) (some 5) (some 90) v (hp (OsN n f)))) (fv : flatV v = true) {q : Nat} (hq : args[q]? = some (ptrC 1)) :
    Says Tryz.prog (hp (OsN n f)) fid args v (hp (OsB n f [c])) := by
  refine slot_saysP (h := hp (OsN n f)) (h1 := hp (OsB n f [c])) (slot := 1) (k := 2) (n := 1) (pre := [ptrC 1]) (cells := litB [c]) (ty := some 5) (tc := some 90) L fv ptr1_clo (by decide) (show 2 ≤ 2 by decide) (fun i hi hne => ?_) (ptr_at1 hq) (fun i hi1 hi2 => ?_)
    (by kernel_rfl) (fun i hi hne => ?_) (by kernel_rfl) (fun i hi1 hi2 => ?_) (by kernel_rfl) (litB_plain [c])
  · have : i = 0 := by omega
    subst this
    exact view_root (n := n) (f := f) (by kernel_rfl)
  · have hi2' : i < 2 := hi2
    omega
  · have : i = 0 := by omega
    subst this
    exact Eq.trans (Eq.refl _) (by kernel_rfl)
  · have hi2' : i < 2 := hi2
    omega

theorem says_l {n : Nat} {f : Nat → Int} {fid : FuncId} {args : List Value} {v : Value} {bs bs' : List Int} (L : Local Tryz.prog 2 fid args (hp (OsB n f bs)) (IsSlotP 2 1 bs'.length [ptrC 1] (litB bs') (some 5) (some 90) v (hp (OsB n f bs)))) (fv : flatV v = true) {q : Nat} (hq : args[q]? = some (ptrC 1)) :
    Says Tryz.prog (hp (OsB n f bs)) fid args v (HB1 n f bs bs') := by
  refine slot_saysP (h := hp (OsB n f bs)) (h1 := HB1 n f bs bs') (slot := 1) (k := 2) (n := bs'.length) (pre := [ptrC 1]) (cells := litB bs') (ty := some 5) (tc := some 90) L fv ptr1_clo (by decide) (show 2 ≤ 3 by decide) (fun i hi hne => ?_) (ptr_at1 hq) (fun i hi1 hi2 => ?_)
    (by kernel_rfl) (fun i hi hne => ?_) (by kernel_rfl) (fun i hi1 hi2 => ?_) (by kernel_rfl) (litB_plain bs')
  · have : i = 0 := by omega
    subst this
    exact view_root (n := n) (f := f) (by kernel_rfl)
  · have hi2' : i < 3 := hi2
    have : i = 2 := by omega
    subst this
    exact ⟨[ptrC 1], bs.length, by kernel_rfl⟩
  · have : i = 0 := by omega
    subst this
    exact Eq.trans (Eq.refl _) (by kernel_rfl)
  · have hi2' : i < 3 := hi2
    have : i = 2 := by omega
    subst this
    exact Eq.trans (Eq.refl _) (by kernel_rfl)

/-! ### word$1 -/
noncomputable def c121 : Code := bodyOf Tryz.f70
noncomputable def byteW (b : Bool) : Int := if b then 98 else 115
theorem put_n (n : Nat) (f : Nat → Int) (x : Int) (b : Bool) : Says Tryz.prog (hp (OsN n f)) 70 [.int .i64 x, .bool b, ptrC 1] (.tuple #[]) (hp (OsB n f [byteW b])) := by
  refine says_n (q := 2) ?_ rfl rfl
  have hS : ∀ c, Says Tryz.prog (hp (OsN n f)) 71 [ptrC 1, .int .u8 c] .nilIface (hp (OsB n f [c])) := fun c => says_n (q := 0) (wb_n n f c) rfl rfl
  have fin : ∀ {af : AF}, af.h = hp (OsB n f [byteW b]) → EndsAs Tryz.prog Tryz.f70 (IsSlotP 2 1 1 [ptrC 1] (litB [byteW b]) (some 5) (some 90) (.tuple #[]) (hp (OsN n f))) .normal af := by
    intro af e
    refine ⟨.inl rfl, [], rfl, rfl, 2, [], by decide, fun j hj h => (by cases h), by rw [e]; kernel_rfl, by rw [e]; kernel_rfl, fun j hj hne => ?_⟩
    have : j = 0 := by omega
    subst this
    rw [e]
    exact Eq.trans (Eq.refl _) (by kernel_rfl)
  refine local_of noNum Tryz.func70 (show Tryz.f70.body = some c121 by kernel_rfl) ?_
  refine Runs.sqR mixed hk38 [] (by kernel_rfl) (by kernel_rfl) (by kernel_rfl) oblN ?_
  refine Runs.cd (b := b) (by kernel_rfl) (fun hb => ?_) (fun hb => ?_)
  · subst hb
    exact Runs.rg mixed hk38 [viaH 0 71 [ptrC 1, .int .u8 98] .nilIface (hp (OsB n f [98]))] (by kernel_rfl) (by kernel_rfl) (by kernel_rfl) (oblC (shown_callHE (by kernel_rfl) (by kernel_rfl) (hS 98)) oblN) (fin (by kernel_rfl))
  · subst hb
    exact Runs.rg mixed hk38 [viaH 0 71 [ptrC 1, .int .u8 115] .nilIface (hp (OsB n f [115]))] (by kernel_rfl) (by kernel_rfl) (by kernel_rfl) (oblC (shown_callHE (by kernel_rfl) (by kernel_rfl) (hS 115)) oblN) (fin (by kernel_rfl))

theorem put_l (n : Nat) (f : Nat → Int) (bs : List Int) (hlen : bs.length < 1000000) (x : Int) (b : Bool) : Says Tryz.prog (hp (OsB n f bs)) 70 [.int .i64 x, .bool b, ptrC 1] (.tuple #[]) (HB1 n f bs (bs ++ [byteW b])) := by
  refine says_l (q := 2) ?_ rfl rfl
  have hS : ∀ c, Says Tryz.prog (hp (OsB n f bs)) 71 [ptrC 1, .int .u8 c] .nilIface (HB1 n f bs (bs ++ [c])) := fun c => says_l (bs' := bs ++ [c]) (q := 0) (by have := wb_l n f c bs hlen; rw [show bs.length + 1 = (bs ++ [c]).length by simp] at this; exact this) rfl rfl
  have fin : ∀ {af : AF}, af.h = HB1 n f bs (bs ++ [byteW b]) → EndsAs Tryz.prog Tryz.f70 (IsSlotP 2 1 (bs ++ [byteW b]).length [ptrC 1] (litB (bs ++ [byteW b])) (some 5) (some 90) (.tuple #[]) (hp (OsB n f bs))) .normal af := by
    intro af e
    refine ⟨.inl rfl, [], rfl, rfl, 3, [], by decide, fun j hj h => (by cases h), by rw [e]; kernel_rfl, by rw [e]; kernel_rfl, fun j hj hne => ?_⟩
    have : j = 0 := by omega
    subst this
    rw [e]
    exact Eq.trans (Eq.refl _) (by kernel_rfl)
  refine local_of noNum Tryz.func70 (show Tryz.f70.body = some c121 by kernel_rfl) ?_
  refine Runs.sqR mixed hk38 [] (by kernel_rfl) (by kernel_rfl) (by kernel_rfl) oblN ?_
  refine Runs.cd (b := b) (by kernel_rfl) (fun hb => ?_) (fun hb => ?_)
  · subst hb
    exact Runs.rg mixed hk38 [viaH 0 71 [ptrC 1, .int .u8 98] .nilIface (HB1 n f bs (bs ++ [98]))] (by kernel_rfl) (by kernel_rfl) (by kernel_rfl) (oblC (shown_callHE (by kernel_rfl) (by kernel_rfl) (hS 98)) oblN) (fin (by kernel_rfl))
  · subst hb
    exact Runs.rg mixed hk38 [viaH 0 71 [ptrC 1, .int .u8 115] .nilIface (HB1 n f bs (bs ++ [115]))] (by kernel_rfl) (by kernel_rfl) (by kernel_rfl) (oblC (shown_callHE (by kernel_rfl) (by kernel_rfl) (hS 115)) oblN) (fin (by kernel_rfl))
end
end Go.Proofs.YtgnkjmgkfibipaaGreatDoor

/- follow, with word's function. -/
namespace Go.Proofs.YtgnkjmgkfibipaaGreatDoor
set_option linter.unusedVariables false
set_option linter.unusedSimpArgs false
open Go Go.R
set_option maxRecDepth 1000000
noncomputable section

noncomputable def c97 : Code := bodyOf Tryz.f40
noncomputable def lp97 : Code := within (behind 2 c97)
noncomputable def folF (f : Nat → Int) (hd : Int) : Nat → Nat → Int → Int → List Int
  | 0, _, _, _ => []
  | d + 1, i, lo, hi => if leF (f i) lo || ltF hi (f i) then folF f hd d (i + 1) lo hi else f i :: (if ltF hd (f i) then folF f hd d (i + 1) lo (f i - 1) else folF f hd d (i + 1) (f i) hi)
theorem folF_skip {f : Nat → Int} {hd lo hi : Int} {d i : Nat} (h : (leF (f i) lo || ltF hi (f i)) = true) : folF f hd (d + 1) i lo hi = folF f hd d (i + 1) lo hi := by rw [folF, if_pos h]
theorem folF_blunt {f : Nat → Int} {hd lo hi : Int} {d i : Nat} (h : (leF (f i) lo || ltF hi (f i)) = false) (hb : ltF hd (f i) = true) : folF f hd (d + 1) i lo hi = f i :: folF f hd d (i + 1) lo (f i - 1) := by rw [folF, if_neg (by rw [h]; decide), if_pos hb]
theorem folF_sharp {f : Nat → Int} {hd lo hi : Int} {d i : Nat} (h : (leF (f i) lo || ltF hi (f i)) = false) (hb : ltF hd (f i) = false) : folF f hd (d + 1) i lo hi = f i :: folF f hd d (i + 1) (f i) hi := by rw [folF, if_neg (by rw [h]; decide), if_neg (by rw [hb]; decide)]
theorem folF_len (f : Nat → Int) (hd : Int) : ∀ d i lo hi, (folF f hd d i lo hi).length ≤ d
  | 0, i, lo, hi => Nat.le_refl 0
  | d + 1, i, lo, hi => by
    cases h : leF (f i) lo || ltF hi (f i) with
    | true => rw [folF_skip h]; have := folF_len f hd d (i + 1) lo hi; omega
    | false =>
      cases hb : ltF hd (f i) with
      | true => rw [folF_blunt h hb, List.length_cons]; have := folF_len f hd d (i + 1) lo (f i - 1); omega
      | false => rw [folF_sharp h hb, List.length_cons]; have := folF_len f hd d (i + 1) (f i) hi; omega
noncomputable def Sf (fn n cap : Nat) (hd : Int) (i : Nat) (lo hi : Int) : List (Nat × Value) := [(0, slV n cap), (1, .int .i64 hd), (2, .func (.func fn) #[] #[ptrC 1]), (13, slV n cap), (14, i64 n), (15, i64 i), (6, .int .i64 lo), (7, .int .i64 hi)]
theorem fol_sub {x : Int} {n : Nat} (h1 : 0 ≤ x) (h2 : x ≤ n) (hn : n < 1000000) : wrapF .i64 (Int.sub x 1) = x - 1 := by
  obtain ⟨k, rfl⟩ : ∃ k : Nat, x = .ofNat k := ⟨x.toNat, (Int.toNat_of_nonneg h1).symm⟩
  have hk : k ≤ n := Int.ofNat_le.1 h2
  cases k with
  | zero => rfl
  | succ k =>
    have := f_sub (a := k + 1) (b := 1) (by omega) (by omega)
    rw [show Int.sub (Int.ofNat (k + 1)) 1 = Int.sub (.ofNat (k + 1)) (.ofNat 1) from rfl, this]
    show ((k + 1 - 1 : Nat) : Int) = ((k + 1 : Nat) : Int) - 1
    omega

/-- Between the trial and what is known after it. -/
noncomputable def Sm (fn n cap : Nat) (hd : Int) (i : Nat) (lo hi x : Int) (bl : Bool) : List (Nat × Value) := Sf fn n cap hd i lo hi ++ [(9, .int .i64 x), (10, .bool bl)]

theorem wn_clo {n : Nat} {f : Nat → Int} : ∀ x ∈ OsN n f, CloO 2 x := fun x hx => by
  simp only [OsN, List.mem_cons, List.mem_nil_iff, or_false] at hx
  rcases hx with rfl | rfl
  · exact cloO_plain (intsZ_plain n f) _ _
  · exact ⟨fun v hv => clo_of 10 2 v (List.all_eq_true.1 (show ([.pointer none, .slice none 0 0] : List Value).all (cloB 10 2) = true by kernel_rfl) v hv), fun j hj => by cases hj⟩
theorem wb_clo {n : Nat} {f : Nat → Int} {bs : List Int} : ∀ x ∈ OsB n f bs, CloO 3 x := fun x hx => by
  simp only [OsB, List.mem_cons, List.mem_nil_iff, or_false] at hx
  rcases hx with rfl | rfl | rfl
  · exact cloO_plain (intsZ_plain n f) _ _
  · exact ⟨fun v hv => clo_of 10 3 v (List.all_eq_true.1 (show [ptrC 1, bldV 2 bs.length].all (cloB 10 3) = true by kernel_rfl) v hv), fun j hj => by cases hj⟩
  · exact cloO_plain (litB_plain bs) _ _


theorem folWN_round (n cap : Nat) (f : Nat → Int) (hd : Int) (hn : n < 1000000) (i : Nat) (lo hi : Int) (hlt : i < n) (h1 : 0 ≤ lo) (h2 : hi ≤ n) {Q : AExit → AF → Prop}
    (skip : (leF (f i) lo || ltF hi (f i)) = true → Runs Tryz.prog 2 lp97 (sth (Sf 70 n cap hd (i + 1) lo hi) 39 (OsN n f)) Q)
    (blunt : ∀ bl, bl = true → (leF (f i) lo || ltF hi (f i)) = false → ltF hd (f i) = true → 0 ≤ f i → f i ≤ n → Runs Tryz.prog 2 lp97 (sth (Sf 70 n cap hd (i + 1) lo (f i - 1)) 39 (OsB n f ([byteW bl]))) Q)
    (sharp : ∀ bl, bl = false → (leF (f i) lo || ltF hi (f i)) = false → ltF hd (f i) = false → 0 ≤ f i → f i ≤ n → Runs Tryz.prog 2 lp97 (sth (Sf 70 n cap hd (i + 1) (f i) hi) 39 (OsB n f ([byteW bl]))) Q) :
    Runs Tryz.prog 2 lp97 (sth (Sf 70 n cap hd i lo hi) 39 (OsN n f)) Q := by
  refine Runs.lp (by kernel_rfl) (Runs.sqR mixed hk38 [] (by kernel_rfl) (by kernel_rfl) (by kernel_rfl) oblN (Runs.sq (by kernel_rfl) ?_))
  refine Runs.cd (b := ltF (.ofNat i) (.ofNat n)) (by kernel_rfl) (fun _ => Runs.now (x := .normal) (by kernel_rfl) ?_) (fun hf => by rw [lt_of hlt] at hf; cases hf)
  show Runs Tryz.prog 2 _ _ _
  refine Runs.sq (by kernel_rfl) (Runs.bk (id := 1) (by kernel_rfl) ?_)
  refine Runs.sqR mixed hk38 [viaV 0 (.pointer (some ⟨0, 0 + i * 1, none⟩)), viaV 1 (.int .i64 (f i))] (by kernel_rfl) (by kernel_rfl) (by kernel_rfl)
    (oblC (shown_idx (n := n) (by kernel_rfl) hlt) (oblC (shown_cell (by kernel_rfl) (intZ_at (g := 0) (n := n) (f := f) (lv := false) (par := []) (ty := none) (by kernel_rfl) hlt)) oblN)) ?_
  have ew : ∀ (a b : Int), Sf 70 n cap hd (i + 1) a b = [(0, slV n cap), (1, .int .i64 hd), (2, .func (.func 70) #[] #[ptrC 1]), (13, slV n cap), (14, i64 n), (15, .int .i64 (wrapF .i64 (Int.add (.ofNat i) (.ofNat 1)))), (6, .int .i64 a), (7, .int .i64 b)] := fun a b => by rw [wrap_succ (by omega : i < 4611686018427387904)]; rfl
  refine Runs.sq (by kernel_rfl) ?_
  cases hlo : leF (f i) lo with
  | true =>
    refine Runs.sqR mixed hk38 [viaV 2 (.bool true)] (by kernel_rfl) (by kernel_rfl) (by kernel_rfl) (oblC (shown_eq (v := .bool (leF (f i) lo)) (by kernel_rfl) (by kernel_rfl) (by rw [hlo])) oblN) ?_
    refine Runs.cd (b := true) (by kernel_rfl) (fun _ => Runs.now (x := .exit 1) (by kernel_rfl) ?_) (fun h => by cases h)
    show Runs Tryz.prog 2 _ _ _
    refine Runs.rg mixed hk38 [] (by kernel_rfl) (by kernel_rfl) (by kernel_rfl) oblN ?_
    show Runs Tryz.prog 2 lp97 _ _
    refine Runs.less (af1 := sth (Sf 70 n cap hd (i + 1) lo hi) 39 (OsN n f)) (less_seenP (clo_all (k := 2) (by kernel_rfl)) wn_clo (show 2 ≤ 2 by decide) (by rw [ew]; exact Eq.trans (Eq.refl _) (by kernel_rfl)) (by kernel_rfl) (by kernel_rfl) (by kernel_rfl)) (skip (by rw [hlo]; rfl))
  | false =>
    refine Runs.sqR mixed hk38 [viaV 2 (.bool false)] (by kernel_rfl) (by kernel_rfl) (by kernel_rfl) (oblC (shown_eq (v := .bool (leF (f i) lo)) (by kernel_rfl) (by kernel_rfl) (by rw [hlo])) oblN) ?_
    refine Runs.cd (b := ltF hi (f i)) (by kernel_rfl) (fun ht => Runs.now (x := .exit 1) (by kernel_rfl) ?_) (fun hf => Runs.now (x := .normal) (by kernel_rfl) ?_)
    · show Runs Tryz.prog 2 _ _ _
      refine Runs.rg mixed hk38 [] (by kernel_rfl) (by kernel_rfl) (by kernel_rfl) oblN ?_
      show Runs Tryz.prog 2 lp97 _ _
      refine Runs.less (af1 := sth (Sf 70 n cap hd (i + 1) lo hi) 39 (OsN n f)) (less_seenP (clo_all (k := 2) (by kernel_rfl)) wn_clo (show 2 ≤ 2 by decide) (by rw [ew]; exact Eq.trans (Eq.refl _) (by kernel_rfl)) (by kernel_rfl) (by kernel_rfl) (by kernel_rfl)) (skip (by rw [hlo, ht]; rfl))
    · have b0 : 0 ≤ f i := by rw [leF_eq, decide_eq_false_iff_not] at hlo; omega
      have bn : f i ≤ n := by have := ltF_not.1 hf; omega
      have hno : (leF (f i) lo || ltF hi (f i)) = false := by rw [hlo, hf]; rfl
      show Runs Tryz.prog 2 _ _ _
      refine Runs.sqR mixed hk38 [] (by kernel_rfl) (by kernel_rfl) (by kernel_rfl) oblN ?_
      obtain ⟨bl, hbl⟩ : ∃ bl, bl = ltF hd (f i) := ⟨_, rfl⟩
      refine Runs.less (af1 := sth (Sm 70 n cap hd i lo hi (f i) bl) 39 (OsN n f)) (less_seenP (clo_all (k := 2) (by kernel_rfl)) wn_clo (show 2 ≤ 2 by decide) (by rw [hbl]; exact Eq.trans (Eq.refl _) (by kernel_rfl)) (by kernel_rfl) (by kernel_rfl) (by kernel_rfl)) ?_
      have hS := put_n n f (f i) bl
      refine Runs.sqR mixed hk38 [viaH 3 70 [.int .i64 (f i), .bool bl, ptrC 1] (.tuple #[]) (hp (OsB n f ([byteW bl])))] (by kernel_rfl) (by kernel_rfl) (by kernel_rfl) (oblC (shown_callHE (by kernel_rfl) (by kernel_rfl) hS) oblN) ?_
      refine Runs.less (af1 := sth (Sm 70 n cap hd i lo hi (f i) bl) 39 (OsB n f ([byteW bl]))) (less_seenP (clo_all (k := 3) (by kernel_rfl)) wb_clo (show 2 ≤ 3 by decide) (by kernel_rfl) (by kernel_rfl) (by kernel_rfl) (by kernel_rfl)) ?_
      refine Runs.sqR mixed hk38 [] (by kernel_rfl) (by kernel_rfl) (by kernel_rfl) oblN ?_
      refine Runs.cd (b := bl) (by kernel_rfl) (fun ht => ?_) (fun ht => ?_)
      · have hnext := blunt bl ht hno (hbl ▸ ht) b0 bn
        refine Runs.rg mixed hk38 [viaV 1 (.int .i64 (f i - 1))] (by kernel_rfl) (by kernel_rfl) (by kernel_rfl) (oblC (shown_eq (v := .int .i64 (wrapF .i64 (Int.sub (f i) 1))) (by kernel_rfl) (by kernel_rfl) (by rw [fol_sub b0 bn hn])) oblN) ?_
        show Runs Tryz.prog 2 _ _ _
        refine Runs.rg mixed hk38 [] (by kernel_rfl) (by kernel_rfl) (by kernel_rfl) oblN ?_
        show Runs Tryz.prog 2 lp97 _ _
        exact Runs.less (af1 := sth (Sf 70 n cap hd (i + 1) lo (f i - 1)) 39 (OsB n f ([byteW bl]))) (less_seenP (clo_all (k := 3) (by kernel_rfl)) wb_clo (show 2 ≤ 3 by decide) (by rw [ew]; exact Eq.trans (Eq.refl _) (by kernel_rfl)) (by kernel_rfl) (by kernel_rfl) (by kernel_rfl)) hnext
      · have hnext := sharp bl ht hno (hbl ▸ ht) b0 bn
        refine Runs.rg mixed hk38 [] (by kernel_rfl) (by kernel_rfl) (by kernel_rfl) oblN ?_
        show Runs Tryz.prog 2 _ _ _
        refine Runs.rg mixed hk38 [] (by kernel_rfl) (by kernel_rfl) (by kernel_rfl) oblN ?_
        show Runs Tryz.prog 2 lp97 _ _
        exact Runs.less (af1 := sth (Sf 70 n cap hd (i + 1) (f i) hi) 39 (OsB n f ([byteW bl]))) (less_seenP (clo_all (k := 3) (by kernel_rfl)) wb_clo (show 2 ≤ 3 by decide) (by rw [ew]; exact Eq.trans (Eq.refl _) (by kernel_rfl)) (by kernel_rfl) (by kernel_rfl) (by kernel_rfl)) hnext


theorem folWB_round (n cap : Nat) (f : Nat → Int) (hd : Int) (hn : n < 1000000) (i : Nat) (lo hi : Int) (bs : List Int) (hl : bs.length < 1000000) (hlt : i < n) (h1 : 0 ≤ lo) (h2 : hi ≤ n) {Q : AExit → AF → Prop}
    (skip : (leF (f i) lo || ltF hi (f i)) = true → Runs Tryz.prog 2 lp97 (sth (Sf 70 n cap hd (i + 1) lo hi) 39 (OsB n f (bs))) Q)
    (blunt : ∀ bl, bl = true → (leF (f i) lo || ltF hi (f i)) = false → ltF hd (f i) = true → 0 ≤ f i → f i ≤ n → Runs Tryz.prog 2 lp97 (sth (Sf 70 n cap hd (i + 1) lo (f i - 1)) 39 (OsB n f (bs ++ [byteW bl]))) Q)
    (sharp : ∀ bl, bl = false → (leF (f i) lo || ltF hi (f i)) = false → ltF hd (f i) = false → 0 ≤ f i → f i ≤ n → Runs Tryz.prog 2 lp97 (sth (Sf 70 n cap hd (i + 1) (f i) hi) 39 (OsB n f (bs ++ [byteW bl]))) Q) :
    Runs Tryz.prog 2 lp97 (sth (Sf 70 n cap hd i lo hi) 39 (OsB n f (bs))) Q := by
  refine Runs.lp (by kernel_rfl) (Runs.sqR mixed hk38 [] (by kernel_rfl) (by kernel_rfl) (by kernel_rfl) oblN (Runs.sq (by kernel_rfl) ?_))
  refine Runs.cd (b := ltF (.ofNat i) (.ofNat n)) (by kernel_rfl) (fun _ => Runs.now (x := .normal) (by kernel_rfl) ?_) (fun hf => by rw [lt_of hlt] at hf; cases hf)
  show Runs Tryz.prog 2 _ _ _
  refine Runs.sq (by kernel_rfl) (Runs.bk (id := 1) (by kernel_rfl) ?_)
  refine Runs.sqR mixed hk38 [viaV 0 (.pointer (some ⟨0, 0 + i * 1, none⟩)), viaV 1 (.int .i64 (f i))] (by kernel_rfl) (by kernel_rfl) (by kernel_rfl)
    (oblC (shown_idx (n := n) (by kernel_rfl) hlt) (oblC (shown_cell (by kernel_rfl) (intZ_at (g := 0) (n := n) (f := f) (lv := false) (par := []) (ty := none) (by kernel_rfl) hlt)) oblN)) ?_
  have ew : ∀ (a b : Int), Sf 70 n cap hd (i + 1) a b = [(0, slV n cap), (1, .int .i64 hd), (2, .func (.func 70) #[] #[ptrC 1]), (13, slV n cap), (14, i64 n), (15, .int .i64 (wrapF .i64 (Int.add (.ofNat i) (.ofNat 1)))), (6, .int .i64 a), (7, .int .i64 b)] := fun a b => by rw [wrap_succ (by omega : i < 4611686018427387904)]; rfl
  refine Runs.sq (by kernel_rfl) ?_
  cases hlo : leF (f i) lo with
  | true =>
    refine Runs.sqR mixed hk38 [viaV 2 (.bool true)] (by kernel_rfl) (by kernel_rfl) (by kernel_rfl) (oblC (shown_eq (v := .bool (leF (f i) lo)) (by kernel_rfl) (by kernel_rfl) (by rw [hlo])) oblN) ?_
    refine Runs.cd (b := true) (by kernel_rfl) (fun _ => Runs.now (x := .exit 1) (by kernel_rfl) ?_) (fun h => by cases h)
    show Runs Tryz.prog 2 _ _ _
    refine Runs.rg mixed hk38 [] (by kernel_rfl) (by kernel_rfl) (by kernel_rfl) oblN ?_
    show Runs Tryz.prog 2 lp97 _ _
    refine Runs.less (af1 := sth (Sf 70 n cap hd (i + 1) lo hi) 39 (OsB n f (bs))) (less_seenP (clo_all (k := 3) (by kernel_rfl)) wb_clo (show 2 ≤ 3 by decide) (by rw [ew]; exact Eq.trans (Eq.refl _) (by kernel_rfl)) (by kernel_rfl) (by kernel_rfl) (by kernel_rfl)) (skip (by rw [hlo]; rfl))
  | false =>
    refine Runs.sqR mixed hk38 [viaV 2 (.bool false)] (by kernel_rfl) (by kernel_rfl) (by kernel_rfl) (oblC (shown_eq (v := .bool (leF (f i) lo)) (by kernel_rfl) (by kernel_rfl) (by rw [hlo])) oblN) ?_
    refine Runs.cd (b := ltF hi (f i)) (by kernel_rfl) (fun ht => Runs.now (x := .exit 1) (by kernel_rfl) ?_) (fun hf => Runs.now (x := .normal) (by kernel_rfl) ?_)
    · show Runs Tryz.prog 2 _ _ _
      refine Runs.rg mixed hk38 [] (by kernel_rfl) (by kernel_rfl) (by kernel_rfl) oblN ?_
      show Runs Tryz.prog 2 lp97 _ _
      refine Runs.less (af1 := sth (Sf 70 n cap hd (i + 1) lo hi) 39 (OsB n f (bs))) (less_seenP (clo_all (k := 3) (by kernel_rfl)) wb_clo (show 2 ≤ 3 by decide) (by rw [ew]; exact Eq.trans (Eq.refl _) (by kernel_rfl)) (by kernel_rfl) (by kernel_rfl) (by kernel_rfl)) (skip (by rw [hlo, ht]; rfl))
    · have b0 : 0 ≤ f i := by rw [leF_eq, decide_eq_false_iff_not] at hlo; omega
      have bn : f i ≤ n := by have := ltF_not.1 hf; omega
      have hno : (leF (f i) lo || ltF hi (f i)) = false := by rw [hlo, hf]; rfl
      show Runs Tryz.prog 2 _ _ _
      refine Runs.sqR mixed hk38 [] (by kernel_rfl) (by kernel_rfl) (by kernel_rfl) oblN ?_
      obtain ⟨bl, hbl⟩ : ∃ bl, bl = ltF hd (f i) := ⟨_, rfl⟩
      refine Runs.less (af1 := sth (Sm 70 n cap hd i lo hi (f i) bl) 39 (OsB n f (bs))) (less_seenP (clo_all (k := 3) (by kernel_rfl)) wb_clo (show 2 ≤ 3 by decide) (by rw [hbl]; exact Eq.trans (Eq.refl _) (by kernel_rfl)) (by kernel_rfl) (by kernel_rfl) (by kernel_rfl)) ?_
      have hS := put_l n f bs (by omega) (f i) bl
      refine Runs.sqR mixed hk38 [viaH 3 70 [.int .i64 (f i), .bool bl, ptrC 1] (.tuple #[]) (HB1 n f bs (bs ++ [byteW bl]))] (by kernel_rfl) (by kernel_rfl) (by kernel_rfl) (oblC (shown_callHE (by kernel_rfl) (by kernel_rfl) hS) oblN) ?_
      refine Runs.renumK (sz := 39) (l := Sm 70 n cap hd i lo hi (f i) bl) (os := OsB n f (bs ++ [byteW bl])) (fun j => match j with | 2 => 3 | j => j) (fun j => match j with | 3 => 2 | j => j) (by kernel_rfl) (show 2 ≤ 3 by decide) (by kernel_rfl)
        ⟨fun _ => .inl (Eq.trans (Eq.refl _) (by kernel_rfl)), fun _ => .inr ⟨2, _, by kernel_rfl, Born.func (fn := .func 70) (a := #[]) (b := #[ptrC 1]) (q := 0) rfl (Born.ptr 1 0)⟩, fun h => (by cases h), trivial⟩ (by kernel_rfl) (by kernel_rfl) (by kernel_rfl) (by kernel_rfl)
        ⟨obs_view (by kernel_rfl), RenO.of (σ := fun j => match j with | 3 => 2 | j => j) (by kernel_rfl) (by kernel_rfl), RenO.row (c := litB (bs ++ [byteW bl])) (lv := true) (p := []) (ty := some 5) (by kernel_rfl) (litB_plain _) (fun h => h) (.inr rfl), trivial⟩ ?_
      refine Runs.sqR mixed hk38 [] (by kernel_rfl) (by kernel_rfl) (by kernel_rfl) oblN ?_
      refine Runs.cd (b := bl) (by kernel_rfl) (fun ht => ?_) (fun ht => ?_)
      · have hnext := blunt bl ht hno (hbl ▸ ht) b0 bn
        refine Runs.rg mixed hk38 [viaV 1 (.int .i64 (f i - 1))] (by kernel_rfl) (by kernel_rfl) (by kernel_rfl) (oblC (shown_eq (v := .int .i64 (wrapF .i64 (Int.sub (f i) 1))) (by kernel_rfl) (by kernel_rfl) (by rw [fol_sub b0 bn hn])) oblN) ?_
        show Runs Tryz.prog 2 _ _ _
        refine Runs.rg mixed hk38 [] (by kernel_rfl) (by kernel_rfl) (by kernel_rfl) oblN ?_
        show Runs Tryz.prog 2 lp97 _ _
        exact Runs.less (af1 := sth (Sf 70 n cap hd (i + 1) lo (f i - 1)) 39 (OsB n f (bs ++ [byteW bl]))) (less_seenP (clo_all (k := 3) (by kernel_rfl)) wb_clo (show 2 ≤ 3 by decide) (by rw [ew]; exact Eq.trans (Eq.refl _) (by kernel_rfl)) (by kernel_rfl) (by kernel_rfl) (by kernel_rfl)) hnext
      · have hnext := sharp bl ht hno (hbl ▸ ht) b0 bn
        refine Runs.rg mixed hk38 [] (by kernel_rfl) (by kernel_rfl) (by kernel_rfl) oblN ?_
        show Runs Tryz.prog 2 _ _ _
        refine Runs.rg mixed hk38 [] (by kernel_rfl) (by kernel_rfl) (by kernel_rfl) oblN ?_
        show Runs Tryz.prog 2 lp97 _ _
        exact Runs.less (af1 := sth (Sf 70 n cap hd (i + 1) (f i) hi) 39 (OsB n f (bs ++ [byteW bl]))) (less_seenP (clo_all (k := 3) (by kernel_rfl)) wb_clo (show 2 ≤ 3 by decide) (by rw [ew]; exact Eq.trans (Eq.refl _) (by kernel_rfl)) (by kernel_rfl) (by kernel_rfl) (by kernel_rfl)) hnext


theorem folWB (n cap : Nat) (f : Nat → Int) (hd : Int) (hn : n < 100000) : ∀ d i (lo hi : Int) (bs : List Int), i + d = n → 0 ≤ lo → hi ≤ n → bs.length ≤ i →
    Runs Tryz.prog 2 lp97 (sth (Sf 70 n cap hd i lo hi) 39 (OsB n f (bs))) fun e af => e = .exit 0 ∧ Less 2 (sth [] 39 (OsB n f (bs ++ ((folF f hd d i lo hi).map fun x => byteW (ltF hd x))))) af
  | 0, i, lo, hi, bs, h, h1, h2, hl => by
    have e : i = n := by omega
    subst e
    refine Runs.lp (by kernel_rfl) (Runs.sqR mixed hk38 [] (by kernel_rfl) (by kernel_rfl) (by kernel_rfl) oblN (Runs.sq (by kernel_rfl) ?_))
    refine Runs.cd (b := ltF (.ofNat i) (.ofNat i)) (by kernel_rfl) (fun ht => by rw [lt_self] at ht; cases ht) (fun _ => Runs.now (x := .exit 0) (by kernel_rfl) ⟨rfl, ?_⟩)
    rw [show bs ++ ((folF f hd 0 i lo hi).map fun x => byteW (ltF hd x)) = bs from List.append_nil bs]
    exact less_seenP (fun p hp => by cases hp) wb_clo (show 2 ≤ 3 by decide) (by kernel_rfl) (by kernel_rfl) (by kernel_rfl) (by kernel_rfl)
  | d + 1, i, lo, hi, bs, h, h1, h2, hl => by
    refine folWB_round n cap f hd (by omega) i lo hi bs (by omega) (by omega) h1 h2 (fun hs => ?_) (fun bl hbl hs hb b0 bn => ?_) (fun bl hbl hs hb b0 bn => ?_)
    · rw [folF_skip hs]
      exact folWB n cap f hd hn d (i + 1) lo hi bs (by omega) h1 h2 (by omega)
    · rw [folF_blunt hs hb]
      have := folWB n cap f hd hn d (i + 1) lo (f i - 1) (bs ++ [byteW bl]) (by omega) h1 (by omega) (by simp; omega)
      rw [List.append_assoc] at this
      rw [show bs ++ ((f i :: folF f hd d (i + 1) lo (f i - 1)).map fun x => byteW (ltF hd x)) = bs ++ ([byteW bl] ++ ((folF f hd d (i + 1) lo (f i - 1)).map fun x => byteW (ltF hd x))) by rw [List.map_cons, hb, hbl]; rfl]
      exact this
    · rw [folF_sharp hs hb]
      have := folWB n cap f hd hn d (i + 1) (f i) hi (bs ++ [byteW bl]) (by omega) b0 h2 (by simp; omega)
      rw [List.append_assoc] at this
      rw [show bs ++ ((f i :: folF f hd d (i + 1) (f i) hi).map fun x => byteW (ltF hd x)) = bs ++ ([byteW bl] ++ ((folF f hd d (i + 1) (f i) hi).map fun x => byteW (ltF hd x))) by rw [List.map_cons, hb, hbl]; rfl]
      exact this

abbrev EndW (n : Nat) (f : Nat → Int) (l : List Int) (e : AExit) (af : AF) : Prop := e = .exit 0 ∧ ((l = [] ∧ Less 2 (sth [] 39 (OsN n f)) af) ∨ (l ≠ [] ∧ Less 2 (sth [] 39 (OsB n f (l))) af))

theorem folWN (n cap : Nat) (f : Nat → Int) (hd : Int) (hn : n < 100000) : ∀ d i (lo hi : Int), i + d = n → 0 ≤ lo → hi ≤ n →
    Runs Tryz.prog 2 lp97 (sth (Sf 70 n cap hd i lo hi) 39 (OsN n f)) (EndW n f ((folF f hd d i lo hi).map fun x => byteW (ltF hd x)))
  | 0, i, lo, hi, h, h1, h2 => by
    have e : i = n := by omega
    subst e
    refine Runs.lp (by kernel_rfl) (Runs.sqR mixed hk38 [] (by kernel_rfl) (by kernel_rfl) (by kernel_rfl) oblN (Runs.sq (by kernel_rfl) ?_))
    refine Runs.cd (b := ltF (.ofNat i) (.ofNat i)) (by kernel_rfl) (fun ht => by rw [lt_self] at ht; cases ht) (fun _ => Runs.now (x := .exit 0) (by kernel_rfl) ⟨rfl, .inl ⟨rfl, ?_⟩⟩)
    exact less_seenP (fun p hp => by cases hp) wn_clo (show 2 ≤ 2 by decide) (by kernel_rfl) (by kernel_rfl) (by kernel_rfl) (by kernel_rfl)
  | d + 1, i, lo, hi, h, h1, h2 => by
    refine folWN_round n cap f hd (by omega) i lo hi (by omega) h1 h2 (fun hs => ?_) (fun bl hbl hs hb b0 bn => ?_) (fun bl hbl hs hb b0 bn => ?_)
    · rw [folF_skip hs]
      exact folWN n cap f hd hn d (i + 1) lo hi (by omega) h1 h2
    · rw [folF_blunt hs hb]
      have := folWB n cap f hd hn d (i + 1) lo (f i - 1) [byteW bl] (by omega) h1 (by omega) (by simp)
      rw [show ((f i :: folF f hd d (i + 1) lo (f i - 1)).map fun x => byteW (ltF hd x)) = ([byteW bl] ++ ((folF f hd d (i + 1) lo (f i - 1)).map fun x => byteW (ltF hd x))) by rw [List.map_cons, hb, hbl]; rfl]
      exact this.mono fun e af hx => ⟨hx.1, .inr ⟨by simp, hx.2⟩⟩
    · rw [folF_sharp hs hb]
      have := folWB n cap f hd hn d (i + 1) (f i) hi [byteW bl] (by omega) b0 h2 (by simp)
      rw [show ((f i :: folF f hd d (i + 1) (f i) hi).map fun x => byteW (ltF hd x)) = ([byteW bl] ++ ((folF f hd d (i + 1) (f i) hi).map fun x => byteW (ltF hd x))) by rw [List.map_cons, hb, hbl]; rfl]
      exact this.mono fun e af hx => ⟨hx.1, .inr ⟨by simp, hx.2⟩⟩

end
end Go.Proofs.YtgnkjmgkfibipaaGreatDoor

/- word, as a contract. -/
namespace Go.Proofs.YtgnkjmgkfibipaaGreatDoor
set_option linter.unusedVariables false
set_option linter.unusedSimpArgs false
open Go Go.R
set_option maxRecDepth 1000000
noncomputable section

/-- A held object of a lesser state stands in the greater one. -/
theorem less_get {k i : Nat} {l : List (Nat × Value)} {sz : Nat} {os : List AObj} {af : AF} {o : AObj} (less : Less k (sth l sz os) af) (ho : os[i]? = some o) (hd : o ≠ .dead) : af.h.get i = o := by
  have hlt : i < os.length := (List.getElem?_eq_some_iff.1 ho).1
  have e : (sth l sz os).h.get i = o := hp_get os i o ho
  rcases less.heap i (by rw [show (sth l sz os).h = hp os from rfl, hp_next]; exact hlt) with ⟨h, _⟩ | ⟨h, _⟩
  · rw [e] at h; exact absurd h hd
  · rw [← h]; exact e

/-- From nothing to some bytes. -/
theorem says_nl {n : Nat} {f : Nat → Int} {fid : FuncId} {args : List Value} {v : Value} {bs' : List Int} (L : Local Tryz.prog 2 fid args (hp (OsN n f)) (IsSlotP 2 1 bs'.length [ptrC 1] (litB bs') (some 5) (some 90) v (hp (OsN n f)))) (fv : flatV v = true)
    (hp1 : ∃ (q : Nat) (u : Value), args[q]? = some u ∧ Born 1 u) :
    Says Tryz.prog (hp (OsN n f)) fid args v (hp (OsB n f bs')) := by
  refine slot_saysP (h := hp (OsN n f)) (h1 := hp (OsB n f bs')) (slot := 1) (k := 2) (n := bs'.length) (pre := [ptrC 1]) (cells := litB bs') (ty := some 5) (tc := some 90) L fv ptr1_clo (by decide) (show 2 ≤ 2 by decide) (fun i hi hne => ?_) hp1 (fun i hi1 hi2 => ?_)
    (by kernel_rfl) (fun i hi hne => ?_) (by kernel_rfl) (fun i hi1 hi2 => ?_) (by kernel_rfl) (litB_plain bs')
  · have : i = 0 := by omega
    subst this
    exact view_root (n := n) (f := f) (by kernel_rfl)
  · have hi2' : i < 2 := hi2
    omega
  · have : i = 0 := by omega
    subst this
    exact Eq.trans (Eq.refl _) (by kernel_rfl)
  · have hi2' : i < 2 := hi2
    omega

/-! ### follow, told -/
noncomputable def wordF (f : Nat → Int) (n : Nat) (hd : Int) : List Int := (folF f hd n 0 0 (.ofNat n)).map fun x => byteW (ltF hd x)
noncomputable def cloF (fn : Nat) : Value := .func (.func fn) #[] #[ptrC 1]
noncomputable def argF (fn n cap : Nat) (hd : Int) : List Value := [slV n cap, .int .i64 hd, cloF fn]
theorem wordF_len (f : Nat → Int) (n : Nat) (hd : Int) : (wordF f n hd).length ≤ n := by unfold wordF; rw [List.length_map]; exact folF_len f hd n 0 0 _

theorem follow_runs (n cap : Nat) (f : Nat → Int) (hd : Int) (hn : n < 100000) : Runs Tryz.prog 2 c97 (entry Tryz.f40 (argF 70 n cap hd) (hp (OsN n f))) fun x af => x = .normal ∧
    ((wordF f n hd = [] ∧ Less 2 (sth [] 39 (OsN n f)) af) ∨ (wordF f n hd ≠ [] ∧ Less 2 (sth [] 39 (OsB n f (wordF f n hd))) af)) := by
  refine Runs.sqR mixed hk38 [] (by kernel_rfl) (by kernel_rfl) (by kernel_rfl) oblN ?_
  refine Runs.sqR mixed hk38 [] (by kernel_rfl) (by kernel_rfl) (by kernel_rfl) oblN (Runs.bk (id := 0) (by kernel_rfl) ?_)
  refine Runs.less (af1 := sth (Sf 70 n cap hd 0 0 (.ofNat n)) 39 (OsN n f)) (less_seenP (clo_all (k := 2) (by kernel_rfl)) wn_clo (show 2 ≤ 2 by decide) (by kernel_rfl) (by kernel_rfl) (by kernel_rfl) (by kernel_rfl)) ?_
  refine (folWN n cap f hd hn n 0 0 (.ofNat n) (by omega) (Int.le_refl 0) (Int.le_refl _)).mono fun e af hx => ?_
  obtain ⟨rfl, hx⟩ := hx
  exact ⟨rfl, hx⟩

theorem argF_born (fn n cap : Nat) (hd : Int) : ∃ (q : Nat) (u : Value), (argF fn n cap hd)[q]? = some u ∧ Born 1 u := ⟨2, _, rfl, Born.func (fn := .func fn) (a := #[]) (b := #[ptrC 1]) (q := 0) rfl (Born.ptr 1 0)⟩

theorem follow_says (n cap : Nat) (f : Nat → Int) (hd : Int) (hn : n < 100000) (hw : wordF f n hd ≠ []) : Says Tryz.prog (hp (OsN n f)) 40 (argF 70 n cap hd) (.tuple #[]) (hp (OsB n f (wordF f n hd))) := by
  refine says_nl ?_ rfl (argF_born 70 n cap hd)
  refine local_of noNum Tryz.func40 (show Tryz.f40.body = some c97 by kernel_rfl) ?_
  refine (follow_runs n cap f hd hn).mono fun x af hx => ?_
  obtain ⟨rfl, ⟨h, _⟩ | ⟨_, less⟩⟩ := hx
  · exact absurd h hw
  refine ⟨.inl rfl, [], rfl, rfl, 2, [], Nat.le_refl 2, fun j _ h => (by cases h), less_get less (i := 1) rfl (by intro e; cases e), less_get less (i := 2) rfl (by intro e; cases e), fun j hj hne => ?_⟩
  have : j = 0 := by omega
  subst this
  rw [less_get less (i := 0) (o := viewZ n f) rfl (by intro e; cases e)]
  exact Eq.trans (Eq.refl _) (by kernel_rfl)

theorem follow_none (n cap : Nat) (f : Nat → Int) (hd : Int) (hn : n < 100000) (hw : wordF f n hd = []) : Says Tryz.prog (hp (OsN n f)) 40 (argF 70 n cap hd) (.tuple #[]) (hp (OsN n f)) := by
  refine says_of (os := OsN n f) ?_ (fun x hx => ?_) wn_clo (clo_of 10 _ _ (by kernel_rfl))
  · show Local Tryz.prog 2 40 _ _ _
    refine local_of noNum Tryz.func40 (show Tryz.f40.body = some c97 by kernel_rfl) ?_
    refine (follow_runs n cap f hd hn).mono fun x af hx => ?_
    obtain ⟨rfl, ⟨_, less⟩ | ⟨h, _⟩⟩ := hx
    · refine ⟨.inl rfl, [], rfl, rfl, fun j z hz => less_get less hz fun e => ?_⟩
      subst e
      match j, hz with
      | 0, hz => cases hz
      | 1, hz => cases hz
      | j + 2, hz => simp [OsN] at hz
    · exact absurd hw h
  · show Clo 2 x
    simp only [argF, List.mem_cons, List.mem_nil_iff, or_false] at hx
    rcases hx with rfl | rfl | rfl <;> exact clo_of 10 2 _ (by kernel_rfl)

theorem dyn_at {call : CallF} {c : Code} {ov : List Via} {af : AF} {i p d : Nat} {v : Value} {h2 : AH} (h : opA Tryz.prog (evalA (preV Tryz.prog call c ov af i).tm) (opAt c i).op (preV Tryz.prog call c ov af p).h = some (v, h2))
    (hd : (opAt c i).dst = some d) (hv : (preV Tryz.prog call c ov af (i + 1)).tm.get d = some v) : DynAt Tryz.prog call c ov af (i, p) :=
  ⟨v, h2, h, fun d' hd' => by rw [hd] at hd'; cases hd'; exact hv⟩

/-! ### String -/
noncomputable def c123 : Code := bodyOf Tryz.f72
noncomputable def strB (bs : List Int) : ByteArray := ⟨(bs.map fun x => x.toNat.toUInt8).toArray⟩
theorem bytes_lit : ∀ bs : List Int, bytesOf (litB bs) = some (bs.map fun x => x.toNat.toUInt8)
  | [] => rfl
  | x :: bs => by
    show (bytesOf (litB bs)).map (x.toNat.toUInt8 :: ·) = _
    rw [bytes_lit bs]; rfl

theorem string_none (n : Nat) (f : Nat → Int) : Says Tryz.prog (hp (OsN n f)) 72 [ptrC 1] (.string (strB [])) (hp (OsN n f)) := by
  refine says_of (os := OsN n f) ?_ (fun x hx => ?_) wn_clo (clo_plain rfl)
  · show Local Tryz.prog 2 72 _ _ _
    refine local_of noNum Tryz.func72 (show Tryz.f72.body = some c123 by kernel_rfl) ?_
    refine Runs.sqR mixed hk38 [] (by kernel_rfl) (by kernel_rfl) (by kernel_rfl) oblN ?_
    refine Runs.sq (by kernel_rfl) (Runs.rgD mixed hk38 [] [(8, 4), (9, 4)] (by kernel_rfl) (by kernel_rfl) (by kernel_rfl) (by kernel_rfl) oblN
      (dynC (dyn_at (d := 11) (v := .slice none 0 0) (h2 := hp (OsN n f)) (by kernel_rfl) (by kernel_rfl) (by kernel_rfl)) (dynC (dyn_at (d := 12) (v := i64 0) (h2 := hp (OsN n f)) (by kernel_rfl) (by kernel_rfl) (by kernel_rfl)) dynN)) ?_)
    exact Runs.now (x := .ret) (by kernel_rfl) ⟨.inr rfl, [.string (strB [])], by kernel_rfl, rfl, keepOf (by kernel_rfl)⟩
  · rw [List.mem_singleton.1 hx]; exact clo_of 10 _ _ (by kernel_rfl)

noncomputable def HS (n : Nat) (f : Nat → Int) (bs : List Int) : AH := (hp (OsB n f bs)).put 2 (.cells (litB bs) false [] (some 5))
theorem string_own {n : Nat} {f : Nat → Int} {bs : List Int} (hb : bs ≠ []) (hl : bs.length < 1000000) : unsafeStringA Tryz.prog 116 (.pointer (some ⟨2, 0, none⟩)) (i64 bs.length) (hp (OsB n f bs)) = some (.string (strB bs), HS n f bs) := by
  have hpos : bs.length ≠ 0 := fun e => hb (List.eq_nil_of_length_eq_zero e)
  have e1 : Tryz.prog.underlying 116 = some (.pointer 5) := by kernel_rfl
  have e2 : (Tryz.prog.info? 5).isSome = true := by kernel_rfl
  have e3 : Tryz.prog.cellsOf 5 = 1 := by kernel_rfl
  have g : (hp (OsB n f bs)).get 2 = rowB bs := hp_get _ 2 _ rfl
  unfold unsafeStringA
  show (if (Int.ofNat bs.length) = 0 then _ else if Int.ofNat bs.length < 0 ∨ Int.ofNat bs.length > 1000000 then _ else _) = _
  have hne : ¬ (Int.ofNat bs.length) = 0 := fun e => hpos (Int.ofNat.inj e)
  rw [if_neg hne, if_neg (by
    rintro (q | q)
    · exact absurd q (Int.not_lt.2 (Int.natCast_nonneg _))
    · have : (bs.length : Int) > 1000000 := q
      omega), g]
  simp only [rowB, e1, e2, e3]
  have e4 : ((Nat.ble (0 + (Int.ofNat bs.length).toNat) (litB bs).length)) = true := Nat.ble_eq_true_of_le (by rw [litB_len]; show 0 + bs.length ≤ bs.length; omega)
  have e5 : (decide (0 + (Int.ofNat bs.length).toNat ≤ (litB bs).length)) = true := decide_eq_true (Nat.le_of_ble_eq_true e4)
  simp only [e5, decide_true, Bool.and_self, if_true]
  have e6 : ((litB bs).drop 0).take (Int.ofNat bs.length).toNat = litB bs := by rw [List.drop_zero]; exact List.take_of_length_le (by rw [litB_len]; exact Nat.le_refl _)
  rw [e6, bytes_lit]
  rfl

theorem data_own {bs : List Int} (hb : bs ≠ []) : sliceDataA (bldV 2 bs.length) = some (.pointer (some ⟨2, 0, none⟩)) := by
  have hpos : bs.length ≠ 0 := fun e => hb (List.eq_nil_of_length_eq_zero e)
  unfold bldV sliceDataA
  simp only [ne_eq, hpos, not_false_eq_true, if_true]

theorem string_says (n : Nat) (f : Nat → Int) (bs : List Int) (hb : bs ≠ []) (hl : bs.length < 1000000) : Says Tryz.prog (hp (OsB n f bs)) 72 [ptrC 1] (.string (strB bs)) (HS n f bs) := by
  have L : Local Tryz.prog 3 72 [ptrC 1] (hp (OsB n f bs)) fun v' h' => v' = .string (strB bs) ∧ ∀ i, i < 3 → h'.get i = (HS n f bs).get i := by
    refine local_of noNum Tryz.func72 (show Tryz.f72.body = some c123 by kernel_rfl) ?_
    refine Runs.sqR mixed hk38 [] (by kernel_rfl) (by kernel_rfl) (by kernel_rfl) oblN ?_
    refine Runs.sq (by kernel_rfl) (Runs.rgD mixed hk38 [viaV 4 (.pointer (some ⟨2, 0, none⟩)), ⟨10, .string (strB bs), some (HS n f bs), none⟩] [(8, 4), (9, 4)] (by kernel_rfl) (by kernel_rfl) (by kernel_rfl) (by kernel_rfl)
      (oblC ⟨by kernel_rfl, (show _ = (sliceDataA (bldV 2 bs.length)).map (·, hp (OsB n f bs)) by kernel_rfl).trans (by rw [data_own hb]; rfl)⟩
      (oblC ⟨by kernel_rfl, (show _ = unsafeStringA Tryz.prog 116 (.pointer (some ⟨2, 0, none⟩)) (i64 bs.length) (hp (OsB n f bs)) by kernel_rfl).trans (string_own hb hl)⟩ oblN))
      (dynC (dyn_at (d := 11) (v := bldV 2 bs.length) (h2 := hp (OsB n f bs)) (by kernel_rfl) (by kernel_rfl) (by kernel_rfl)) (dynC (dyn_at (d := 12) (v := i64 bs.length) (h2 := hp (OsB n f bs)) (by kernel_rfl) (by kernel_rfl) (by kernel_rfl)) dynN)) ?_)
    refine Runs.now (x := .ret) (by kernel_rfl) ⟨.inr rfl, [.string (strB bs)], by kernel_rfl, rfl, fun i hi => ?_⟩
    match i, hi with
    | 0, _ => exact Eq.trans (Eq.refl _) (by kernel_rfl)
    | 1, _ => exact Eq.trans (Eq.refl _) (by kernel_rfl)
    | 2, _ => exact Eq.trans (Eq.refl _) (by kernel_rfl)
    | i + 3, h => omega
  have objs : ∀ i, i < 3 → CloO 3 ((hp (OsB n f bs)).get i) := fun i hi => by
    have hlt : i < (OsB n f bs).length := hi
    rw [hp_get _ i _ (List.getElem?_eq_getElem hlt)]
    exact wb_clo _ (List.getElem_mem hlt)
  refine fun F w0 μ w args' H hl => L.framed (h := hp (OsB n f bs)) (h2 := HS n f bs) (fun v' h' r => r) rfl (Nat.le_refl _) (fun _ _ => rfl) (fun x hx => by rw [List.mem_singleton.1 hx]; exact clo_of 10 _ _ (by kernel_rfl)) objs (fun i hi => ?_) (clo_plain rfl) (fun i hi => ?_) rfl (fun i hi => ?_) H hl
  · match i, hi with
    | 0, hi => exact objs 0 hi
    | 1, hi => exact objs 1 hi
    | 2, hi =>
      show CloO 3 ((HS n f bs).get 2)
      rw [show (HS n f bs).get 2 = .cells (litB bs) false [] (some 5) by kernel_rfl]
      exact cloO_plain (litB_plain bs) _ _
    | i + 3, h => omega
  · match i, hi with
    | 0, _ => exact .inl (Eq.trans (Eq.refl _) (by kernel_rfl))
    | 1, _ => exact .inl (Eq.trans (Eq.refl _) (by kernel_rfl))
    | 2, _ => exact .inr (by rw [show (hp (OsB n f bs)).get 2 = rowB bs from hp_get _ 2 _ rfl]; rfl)
    | i + 3, h => omega
  · show ((hp (OsB n f bs)).put 2 _).get i = _
    rw [AH.get_put, if_neg (by omega)]

/-! ### word -/
noncomputable def c100 : Code := bodyOf Tryz.f44
theorem word_local (n cap : Nat) (f : Nat → Int) (hd : Int) (hn : n < 100000) : Local Tryz.prog 1 44 [slV n cap, .int .i64 hd] (hp [viewZ n f]) (Holds [viewZ n f] (.string (strB (wordF f n hd)))) := by
  have hlen := wordF_len f n hd
  refine local_of noNum Tryz.func44 (show Tryz.f44.body = some c100 by kernel_rfl) ?_
  refine Runs.sqR mixed hk38 [] (by kernel_rfl) (by kernel_rfl) (by kernel_rfl) oblN ?_
  refine Runs.sqR mixed hk38 [] (by kernel_rfl) (by kernel_rfl) (by kernel_rfl) oblN ?_
  refine Runs.less (af1 := sth [(0, slV n cap), (1, .int .i64 hd), (5, ptrC 1)] 11 (OsN n f)) (less_seenP (clo_all (k := 2) (by kernel_rfl)) wn_clo (show 1 ≤ 2 by decide) (by kernel_rfl) (by kernel_rfl) (by kernel_rfl) (by kernel_rfl)) ?_
  by_cases hw : wordF f n hd = []
  · rw [hw]
    refine Runs.sqR mixed hk38 [viaC 3 40 (argF 70 n cap hd) (.tuple #[])] (by kernel_rfl) (by kernel_rfl) (by kernel_rfl) (oblC (shown_callE (by kernel_rfl) (by kernel_rfl) (follow_none n cap f hd hn hw)) oblN) ?_
    refine Runs.sqR mixed hk38 [viaC 0 72 [ptrC 1] (.string (strB []))] (by kernel_rfl) (by kernel_rfl) (by kernel_rfl) (oblC (shown_callE (by kernel_rfl) (by kernel_rfl) (string_none n f)) oblN) ?_
    refine Runs.now (x := .ret) (by kernel_rfl) ⟨.inr rfl, [.string (strB [])], by kernel_rfl, rfl, fun j z hz => ?_⟩
    match j, hz with
    | 0, hz => cases hz; exact Eq.trans (Eq.refl _) (by kernel_rfl)
    | j + 1, hz => simp at hz
  · generalize hg : wordF f n hd = bs at *
    have hS := follow_says n cap f hd hn (by rw [hg]; exact hw)
    rw [hg] at hS
    refine Runs.sqR mixed hk38 [viaH 3 40 (argF 70 n cap hd) (.tuple #[]) (hp (OsB n f bs))] (by kernel_rfl) (by kernel_rfl) (by kernel_rfl) (oblC (shown_callHE (by kernel_rfl) (by kernel_rfl) hS) oblN) ?_
    refine Runs.sqR mixed hk38 [viaH 0 72 [ptrC 1] (.string (strB bs)) (HS n f bs)] (by kernel_rfl) (by kernel_rfl) (by kernel_rfl) (oblC (shown_callHE (by kernel_rfl) (by kernel_rfl) (string_says n f bs hw (by omega))) oblN) ?_
    refine Runs.now (x := .ret) (by kernel_rfl) ⟨.inr rfl, [.string (strB bs)], by kernel_rfl, rfl, fun j z hz => ?_⟩
    match j, hz with
    | 0, hz => cases hz; exact Eq.trans (Eq.refl _) (by kernel_rfl)
    | j + 1, hz => simp at hz
end
end Go.Proofs.YtgnkjmgkfibipaaGreatDoor

/- Run's function: a level more. -/
namespace Go.Proofs.YtgnkjmgkfibipaaGreatDoor
set_option linter.unusedVariables false
set_option linter.unusedSimpArgs false
open Go Go.R
set_option maxRecDepth 1000000
noncomputable section

/-- One element behind a full row of elements of one cell. -/
theorem push_gen {st e : TypeId} (e1 : Tryz.prog.underlying st = some (.slice e)) (hi : ∃ info, Tryz.prog.info? e = some info ∧ info.size = 1 ∧ (decide (info.bytes > 1000000) || !zfit info) = false)
    {h : AH} {i j m : Nat} {c : List Value} {x : Value} {par : List Nat} (hx : cellV x = true) (hm : c.length = m) (hlen : m < 1000000) (h1 : h.get i = .cells c true par (some e)) (h2 : h.get j = .cells [x] true [] (some e)) :
    appendA Tryz.prog #[st, st] (.slice (some ⟨i, 0, some 1⟩) m m) (.slice (some ⟨j, 0, none⟩) 1 1) h = some (.slice (some ⟨h.next, 0, some 1⟩) (m + 1) (m + 1), ((h.put i (.cells c false par (some e))).new (.cells (c ++ [x]) true (i :: par) (some e))).2) := by
  subst hm
  obtain ⟨info, e2, e3, e4⟩ := hi
  rw [Bool.or_eq_false_iff] at e4
  have e5 : srcA 1 (.slice (some ⟨j, 0, none⟩) 1 1) h = some ([x], 1) := by
    unfold srcA
    simp only [show ¬ (1 = 0) by decide, if_false]
    show (rowAt? h j 0 1).map (·, 1) = _
    unfold rowAt?
    rw [h2]; rfl
  have e6 : (decide (c.length > 1000000)) = false := by simp; omega
  have e7 : appendU e 1 i 0 c.length 1 [x] h = some (.slice (some ⟨h.next, 0, some 1⟩) (c.length + 1) (c.length + 1), ((h.put i (.cells c false par (some e))).new (.cells (c ++ [x]) true (i :: par) (some e))).2) := by
    unfold appendU
    rw [h1]
    show (if 0 + c.length * 1 = c.length then _ else _) = _
    rw [if_pos (by omega)]
    have : (if (some e = some e ∧ (0 : Nat) = 0) then some e else none) = some e := if_pos ⟨rfl, rfl⟩
    rw [this, List.drop_zero]
  unfold appendA
  simp only [List.getElem?_toArray, List.getElem?_cons_zero, List.getElem?_cons_succ, e1, e2, srcKind, Bool.not_true, Bool.false_eq_true, if_false, e3, e5]
  have e8 : ([x].all cellV) = true := by simp [hx]
  simp only [e8, e4.1, e4.2, e6, Bool.not_true, Bool.or_false, Bool.false_or, Bool.or_self, decide_false, show (1 = 0) = False by simp, show (1 : Nat) > 1000000 ↔ False by simp, if_false, decide_true, ne_eq, not_true_eq_false, Bool.false_eq_true, show (0 + 1 = 1) by rfl, e7]

noncomputable def OrN (n : Nat) (f : Nat → Int) : List AObj := [viewZ n f, .cells [.slice none 0 0] true [] (some 22)]
noncomputable def OrB (n : Nat) (f : Nat → Int) (bs : List Int) : List AObj := [viewZ n f, .cells [bldV 2 bs.length] true [] (some 22), rowT bs]
noncomputable def HR1 (n : Nat) (f : Nat → Int) (bs bs' : List Int) : AH := ((((hp (OrB n f bs)).put 1 (.cells [bldV 3 bs'.length] true [] (some 22))).put 2 .dead).new (rowT bs')).2

theorem says_rn {n : Nat} {f : Nat → Int} {fid : FuncId} {args : List Value} {v : Value} {bs' : List Int} (L : Local Tryz.prog 2 fid args (hp (OrN n f)) (IsSlotP 2 1 bs'.length [] (litZ bs') (some 3) (some 22) v (hp (OrN n f)))) (fv : flatV v = true)
    (hp1 : ∃ (q : Nat) (u : Value), args[q]? = some u ∧ Born 1 u) : Says Tryz.prog (hp (OrN n f)) fid args v (hp (OrB n f bs')) := by
  refine slot_saysP (h := hp (OrN n f)) (h1 := hp (OrB n f bs')) (slot := 1) (k := 2) (n := bs'.length) (pre := []) (cells := litZ bs') (ty := some 3) (tc := some 22) L fv (fun u hu => by cases hu) (by decide) (show 2 ≤ 2 by decide) (fun i hi hne => ?_) hp1 (fun i hi1 hi2 => ?_)
    (by kernel_rfl) (fun i hi hne => ?_) (by kernel_rfl) (fun i hi1 hi2 => ?_) (by kernel_rfl) (litZ_plain bs')
  · have : i = 0 := by omega
    subst this
    exact view_root (n := n) (f := f) (by kernel_rfl)
  · have hi2' : i < 2 := hi2
    omega
  · have : i = 0 := by omega
    subst this
    exact Eq.trans (Eq.refl _) (by kernel_rfl)
  · have hi2' : i < 2 := hi2
    omega

theorem says_rb {n : Nat} {f : Nat → Int} {fid : FuncId} {args : List Value} {v : Value} {bs bs' : List Int} (L : Local Tryz.prog 2 fid args (hp (OrB n f bs)) (IsSlotP 2 1 bs'.length [] (litZ bs') (some 3) (some 22) v (hp (OrB n f bs)))) (fv : flatV v = true)
    (hp1 : ∃ (q : Nat) (u : Value), args[q]? = some u ∧ Born 1 u) : Says Tryz.prog (hp (OrB n f bs)) fid args v (HR1 n f bs bs') := by
  refine slot_saysP (h := hp (OrB n f bs)) (h1 := HR1 n f bs bs') (slot := 1) (k := 2) (n := bs'.length) (pre := []) (cells := litZ bs') (ty := some 3) (tc := some 22) L fv (fun u hu => by cases hu) (by decide) (show 2 ≤ 3 by decide) (fun i hi hne => ?_) hp1 (fun i hi1 hi2 => ?_)
    (by kernel_rfl) (fun i hi hne => ?_) (by kernel_rfl) (fun i hi1 hi2 => ?_) (by kernel_rfl) (litZ_plain bs')
  · have : i = 0 := by omega
    subst this
    exact view_root (n := n) (f := f) (by kernel_rfl)
  · have hi2' : i < 3 := hi2
    have : i = 2 := by omega
    subst this
    exact ⟨[], bs.length, by kernel_rfl⟩
  · have : i = 0 := by omega
    subst this
    exact Eq.trans (Eq.refl _) (by kernel_rfl)
  · have hi2' : i < 3 := hi2
    have : i = 2 := by omega
    subst this
    exact Eq.trans (Eq.refl _) (by kernel_rfl)

noncomputable def c98 : Code := bodyOf Tryz.f41
theorem out_n (n : Nat) (f : Nat → Int) (x : Int) (b : Bool) : Says Tryz.prog (hp (OrN n f)) 41 [.int .i64 x, .bool b, ptrC 1] (.tuple #[]) (hp (OrB n f [x])) := by
  refine says_rn (bs' := [x]) ?_ rfl ⟨2, _, rfl, Born.ptr 1 0⟩
  refine local_of noNum Tryz.func41 (show Tryz.f41.body = some c98 by kernel_rfl) ?_
  refine Runs.rg mixed hk38 [] (by kernel_rfl) (by kernel_rfl) (by kernel_rfl) oblN ?_
  refine ⟨.inl rfl, [], by kernel_rfl, rfl, 3, [], by decide, fun j hj h => (by cases h), by kernel_rfl, by kernel_rfl, fun j hj hne => ?_⟩
  have : j = 0 := by omega
  subst this
  exact Eq.trans (Eq.refl _) (by kernel_rfl)

theorem out_l (n : Nat) (f : Nat → Int) (bs : List Int) (hlen : bs.length < 1000000) (x : Int) (b : Bool) : Says Tryz.prog (hp (OrB n f bs)) 41 [.int .i64 x, .bool b, ptrC 1] (.tuple #[]) (HR1 n f bs (bs ++ [x])) := by
  refine says_rb (bs' := bs ++ [x]) ?_ rfl ⟨2, _, rfl, Born.ptr 1 0⟩
  refine local_of noNum Tryz.func41 (show Tryz.f41.body = some c98 by kernel_rfl) ?_
  let H3 : AH := ((hp (OrB n f bs)).new (.cells [.int .i64 x] true [] (some 3))).2
  have hap := push_gen (st := 22) (e := 3) (by kernel_rfl) int_info (h := H3) (i := 2) (j := 3) (x := .int .i64 x) (par := []) rfl (litZ_len bs) hlen (by kernel_rfl) (by kernel_rfl)
  refine Runs.rg mixed hk38 [⟨3, .slice (some ⟨4, 0, some 1⟩) (bs.length + 1) (bs.length + 1), some ((H3.put 2 (.cells (litZ bs) false [] (some 3))).new (.cells (litZ bs ++ [Value.int .i64 x]) true [2] (some 3))).2, none⟩] (by kernel_rfl) (by kernel_rfl) (by kernel_rfl)
    (oblC ⟨by kernel_rfl, (show _ = appendA Tryz.prog #[22, 22] (.slice (some ⟨2, 0, some 1⟩) bs.length bs.length) (.slice (some ⟨3, 0, none⟩) 1 1) H3 by kernel_rfl).trans hap⟩ oblN) ?_
  have el : (bs ++ [x]).length = bs.length + 1 := by simp
  rw [el, show litZ (bs ++ [x]) = litZ bs ++ [Value.int .i64 x] from (litZ_app bs [x]).symm]
  refine ⟨.inl rfl, [], by kernel_rfl, rfl, 4, [2], by decide, fun j hj h => (by rw [List.mem_singleton] at h; omega), by kernel_rfl, by kernel_rfl, fun j hj hne => ?_⟩
  have : j = 0 := by omega
  subst this
  exact Eq.trans (Eq.refl _) (by kernel_rfl)
end
end Go.Proofs.YtgnkjmgkfibipaaGreatDoor

/- follow, with Run's function. -/
namespace Go.Proofs.YtgnkjmgkfibipaaGreatDoor
set_option linter.unusedVariables false
set_option linter.unusedSimpArgs false
open Go Go.R
set_option maxRecDepth 1000000
noncomputable section


theorem rn_clo {n : Nat} {f : Nat → Int} : ∀ x ∈ OrN n f, CloO 2 x := fun x hx => by
  simp only [OrN, List.mem_cons, List.mem_nil_iff, or_false] at hx
  rcases hx with rfl | rfl
  · exact cloO_plain (intsZ_plain n f) _ _
  · exact ⟨fun v hv => clo_of 10 2 v (List.all_eq_true.1 (show ([.slice none 0 0] : List Value).all (cloB 10 2) = true by kernel_rfl) v hv), fun j hj => by cases hj⟩
theorem rb_clo {n : Nat} {f : Nat → Int} {bs : List Int} : ∀ x ∈ OrB n f bs, CloO 3 x := fun x hx => by
  simp only [OrB, List.mem_cons, List.mem_nil_iff, or_false] at hx
  rcases hx with rfl | rfl | rfl
  · exact cloO_plain (intsZ_plain n f) _ _
  · exact ⟨fun v hv => clo_of 10 3 v (List.all_eq_true.1 (show [bldV 2 bs.length].all (cloB 10 3) = true by kernel_rfl) v hv), fun j hj => by cases hj⟩
  · exact cloO_plain (litZ_plain bs) _ _


theorem folRN_round (n cap : Nat) (f : Nat → Int) (hd : Int) (hn : n < 1000000) (i : Nat) (lo hi : Int) (hlt : i < n) (h1 : 0 ≤ lo) (h2 : hi ≤ n) {Q : AExit → AF → Prop}
    (skip : (leF (f i) lo || ltF hi (f i)) = true → Runs Tryz.prog 2 lp97 (sth (Sf 41 n cap hd (i + 1) lo hi) 39 (OrN n f)) Q)
    (blunt : ∀ bl, bl = true → (leF (f i) lo || ltF hi (f i)) = false → ltF hd (f i) = true → 0 ≤ f i → f i ≤ n → Runs Tryz.prog 2 lp97 (sth (Sf 41 n cap hd (i + 1) lo (f i - 1)) 39 (OrB n f ([f i]))) Q)
    (sharp : ∀ bl, bl = false → (leF (f i) lo || ltF hi (f i)) = false → ltF hd (f i) = false → 0 ≤ f i → f i ≤ n → Runs Tryz.prog 2 lp97 (sth (Sf 41 n cap hd (i + 1) (f i) hi) 39 (OrB n f ([f i]))) Q) :
    Runs Tryz.prog 2 lp97 (sth (Sf 41 n cap hd i lo hi) 39 (OrN n f)) Q := by
  refine Runs.lp (by kernel_rfl) (Runs.sqR mixed hk38 [] (by kernel_rfl) (by kernel_rfl) (by kernel_rfl) oblN (Runs.sq (by kernel_rfl) ?_))
  refine Runs.cd (b := ltF (.ofNat i) (.ofNat n)) (by kernel_rfl) (fun _ => Runs.now (x := .normal) (by kernel_rfl) ?_) (fun hf => by rw [lt_of hlt] at hf; cases hf)
  show Runs Tryz.prog 2 _ _ _
  refine Runs.sq (by kernel_rfl) (Runs.bk (id := 1) (by kernel_rfl) ?_)
  refine Runs.sqR mixed hk38 [viaV 0 (.pointer (some ⟨0, 0 + i * 1, none⟩)), viaV 1 (.int .i64 (f i))] (by kernel_rfl) (by kernel_rfl) (by kernel_rfl)
    (oblC (shown_idx (n := n) (by kernel_rfl) hlt) (oblC (shown_cell (by kernel_rfl) (intZ_at (g := 0) (n := n) (f := f) (lv := false) (par := []) (ty := none) (by kernel_rfl) hlt)) oblN)) ?_
  have ew : ∀ (a b : Int), Sf 41 n cap hd (i + 1) a b = [(0, slV n cap), (1, .int .i64 hd), (2, .func (.func 41) #[] #[ptrC 1]), (13, slV n cap), (14, i64 n), (15, .int .i64 (wrapF .i64 (Int.add (.ofNat i) (.ofNat 1)))), (6, .int .i64 a), (7, .int .i64 b)] := fun a b => by rw [wrap_succ (by omega : i < 4611686018427387904)]; rfl
  refine Runs.sq (by kernel_rfl) ?_
  cases hlo : leF (f i) lo with
  | true =>
    refine Runs.sqR mixed hk38 [viaV 2 (.bool true)] (by kernel_rfl) (by kernel_rfl) (by kernel_rfl) (oblC (shown_eq (v := .bool (leF (f i) lo)) (by kernel_rfl) (by kernel_rfl) (by rw [hlo])) oblN) ?_
    refine Runs.cd (b := true) (by kernel_rfl) (fun _ => Runs.now (x := .exit 1) (by kernel_rfl) ?_) (fun h => by cases h)
    show Runs Tryz.prog 2 _ _ _
    refine Runs.rg mixed hk38 [] (by kernel_rfl) (by kernel_rfl) (by kernel_rfl) oblN ?_
    show Runs Tryz.prog 2 lp97 _ _
    refine Runs.less (af1 := sth (Sf 41 n cap hd (i + 1) lo hi) 39 (OrN n f)) (less_seenP (clo_all (k := 2) (by kernel_rfl)) rn_clo (show 2 ≤ 2 by decide) (by rw [ew]; exact Eq.trans (Eq.refl _) (by kernel_rfl)) (by kernel_rfl) (by kernel_rfl) (by kernel_rfl)) (skip (by rw [hlo]; rfl))
  | false =>
    refine Runs.sqR mixed hk38 [viaV 2 (.bool false)] (by kernel_rfl) (by kernel_rfl) (by kernel_rfl) (oblC (shown_eq (v := .bool (leF (f i) lo)) (by kernel_rfl) (by kernel_rfl) (by rw [hlo])) oblN) ?_
    refine Runs.cd (b := ltF hi (f i)) (by kernel_rfl) (fun ht => Runs.now (x := .exit 1) (by kernel_rfl) ?_) (fun hf => Runs.now (x := .normal) (by kernel_rfl) ?_)
    · show Runs Tryz.prog 2 _ _ _
      refine Runs.rg mixed hk38 [] (by kernel_rfl) (by kernel_rfl) (by kernel_rfl) oblN ?_
      show Runs Tryz.prog 2 lp97 _ _
      refine Runs.less (af1 := sth (Sf 41 n cap hd (i + 1) lo hi) 39 (OrN n f)) (less_seenP (clo_all (k := 2) (by kernel_rfl)) rn_clo (show 2 ≤ 2 by decide) (by rw [ew]; exact Eq.trans (Eq.refl _) (by kernel_rfl)) (by kernel_rfl) (by kernel_rfl) (by kernel_rfl)) (skip (by rw [hlo, ht]; rfl))
    · have b0 : 0 ≤ f i := by rw [leF_eq, decide_eq_false_iff_not] at hlo; omega
      have bn : f i ≤ n := by have := ltF_not.1 hf; omega
      have hno : (leF (f i) lo || ltF hi (f i)) = false := by rw [hlo, hf]; rfl
      show Runs Tryz.prog 2 _ _ _
      refine Runs.sqR mixed hk38 [] (by kernel_rfl) (by kernel_rfl) (by kernel_rfl) oblN ?_
      obtain ⟨bl, hbl⟩ : ∃ bl, bl = ltF hd (f i) := ⟨_, rfl⟩
      refine Runs.less (af1 := sth (Sm 41 n cap hd i lo hi (f i) bl) 39 (OrN n f)) (less_seenP (clo_all (k := 2) (by kernel_rfl)) rn_clo (show 2 ≤ 2 by decide) (by rw [hbl]; exact Eq.trans (Eq.refl _) (by kernel_rfl)) (by kernel_rfl) (by kernel_rfl) (by kernel_rfl)) ?_
      have hS := out_n n f (f i) bl
      refine Runs.sqR mixed hk38 [viaH 3 41 [.int .i64 (f i), .bool bl, ptrC 1] (.tuple #[]) (hp (OrB n f ([f i])))] (by kernel_rfl) (by kernel_rfl) (by kernel_rfl) (oblC (shown_callHE (by kernel_rfl) (by kernel_rfl) hS) oblN) ?_
      refine Runs.less (af1 := sth (Sm 41 n cap hd i lo hi (f i) bl) 39 (OrB n f ([f i]))) (less_seenP (clo_all (k := 3) (by kernel_rfl)) rb_clo (show 2 ≤ 3 by decide) (by kernel_rfl) (by kernel_rfl) (by kernel_rfl) (by kernel_rfl)) ?_
      refine Runs.sqR mixed hk38 [] (by kernel_rfl) (by kernel_rfl) (by kernel_rfl) oblN ?_
      refine Runs.cd (b := bl) (by kernel_rfl) (fun ht => ?_) (fun ht => ?_)
      · have hnext := blunt bl ht hno (hbl ▸ ht) b0 bn
        refine Runs.rg mixed hk38 [viaV 1 (.int .i64 (f i - 1))] (by kernel_rfl) (by kernel_rfl) (by kernel_rfl) (oblC (shown_eq (v := .int .i64 (wrapF .i64 (Int.sub (f i) 1))) (by kernel_rfl) (by kernel_rfl) (by rw [fol_sub b0 bn hn])) oblN) ?_
        show Runs Tryz.prog 2 _ _ _
        refine Runs.rg mixed hk38 [] (by kernel_rfl) (by kernel_rfl) (by kernel_rfl) oblN ?_
        show Runs Tryz.prog 2 lp97 _ _
        exact Runs.less (af1 := sth (Sf 41 n cap hd (i + 1) lo (f i - 1)) 39 (OrB n f ([f i]))) (less_seenP (clo_all (k := 3) (by kernel_rfl)) rb_clo (show 2 ≤ 3 by decide) (by rw [ew]; exact Eq.trans (Eq.refl _) (by kernel_rfl)) (by kernel_rfl) (by kernel_rfl) (by kernel_rfl)) hnext
      · have hnext := sharp bl ht hno (hbl ▸ ht) b0 bn
        refine Runs.rg mixed hk38 [] (by kernel_rfl) (by kernel_rfl) (by kernel_rfl) oblN ?_
        show Runs Tryz.prog 2 _ _ _
        refine Runs.rg mixed hk38 [] (by kernel_rfl) (by kernel_rfl) (by kernel_rfl) oblN ?_
        show Runs Tryz.prog 2 lp97 _ _
        exact Runs.less (af1 := sth (Sf 41 n cap hd (i + 1) (f i) hi) 39 (OrB n f ([f i]))) (less_seenP (clo_all (k := 3) (by kernel_rfl)) rb_clo (show 2 ≤ 3 by decide) (by rw [ew]; exact Eq.trans (Eq.refl _) (by kernel_rfl)) (by kernel_rfl) (by kernel_rfl) (by kernel_rfl)) hnext


theorem folRB_round (n cap : Nat) (f : Nat → Int) (hd : Int) (hn : n < 1000000) (i : Nat) (lo hi : Int) (bs : List Int) (hl : bs.length < 1000000) (hlt : i < n) (h1 : 0 ≤ lo) (h2 : hi ≤ n) {Q : AExit → AF → Prop}
    (skip : (leF (f i) lo || ltF hi (f i)) = true → Runs Tryz.prog 2 lp97 (sth (Sf 41 n cap hd (i + 1) lo hi) 39 (OrB n f (bs))) Q)
    (blunt : ∀ bl, bl = true → (leF (f i) lo || ltF hi (f i)) = false → ltF hd (f i) = true → 0 ≤ f i → f i ≤ n → Runs Tryz.prog 2 lp97 (sth (Sf 41 n cap hd (i + 1) lo (f i - 1)) 39 (OrB n f (bs ++ [f i]))) Q)
    (sharp : ∀ bl, bl = false → (leF (f i) lo || ltF hi (f i)) = false → ltF hd (f i) = false → 0 ≤ f i → f i ≤ n → Runs Tryz.prog 2 lp97 (sth (Sf 41 n cap hd (i + 1) (f i) hi) 39 (OrB n f (bs ++ [f i]))) Q) :
    Runs Tryz.prog 2 lp97 (sth (Sf 41 n cap hd i lo hi) 39 (OrB n f (bs))) Q := by
  refine Runs.lp (by kernel_rfl) (Runs.sqR mixed hk38 [] (by kernel_rfl) (by kernel_rfl) (by kernel_rfl) oblN (Runs.sq (by kernel_rfl) ?_))
  refine Runs.cd (b := ltF (.ofNat i) (.ofNat n)) (by kernel_rfl) (fun _ => Runs.now (x := .normal) (by kernel_rfl) ?_) (fun hf => by rw [lt_of hlt] at hf; cases hf)
  show Runs Tryz.prog 2 _ _ _
  refine Runs.sq (by kernel_rfl) (Runs.bk (id := 1) (by kernel_rfl) ?_)
  refine Runs.sqR mixed hk38 [viaV 0 (.pointer (some ⟨0, 0 + i * 1, none⟩)), viaV 1 (.int .i64 (f i))] (by kernel_rfl) (by kernel_rfl) (by kernel_rfl)
    (oblC (shown_idx (n := n) (by kernel_rfl) hlt) (oblC (shown_cell (by kernel_rfl) (intZ_at (g := 0) (n := n) (f := f) (lv := false) (par := []) (ty := none) (by kernel_rfl) hlt)) oblN)) ?_
  have ew : ∀ (a b : Int), Sf 41 n cap hd (i + 1) a b = [(0, slV n cap), (1, .int .i64 hd), (2, .func (.func 41) #[] #[ptrC 1]), (13, slV n cap), (14, i64 n), (15, .int .i64 (wrapF .i64 (Int.add (.ofNat i) (.ofNat 1)))), (6, .int .i64 a), (7, .int .i64 b)] := fun a b => by rw [wrap_succ (by omega : i < 4611686018427387904)]; rfl
  refine Runs.sq (by kernel_rfl) ?_
  cases hlo : leF (f i) lo with
  | true =>
    refine Runs.sqR mixed hk38 [viaV 2 (.bool true)] (by kernel_rfl) (by kernel_rfl) (by kernel_rfl) (oblC (shown_eq (v := .bool (leF (f i) lo)) (by kernel_rfl) (by kernel_rfl) (by rw [hlo])) oblN) ?_
    refine Runs.cd (b := true) (by kernel_rfl) (fun _ => Runs.now (x := .exit 1) (by kernel_rfl) ?_) (fun h => by cases h)
    show Runs Tryz.prog 2 _ _ _
    refine Runs.rg mixed hk38 [] (by kernel_rfl) (by kernel_rfl) (by kernel_rfl) oblN ?_
    show Runs Tryz.prog 2 lp97 _ _
    refine Runs.less (af1 := sth (Sf 41 n cap hd (i + 1) lo hi) 39 (OrB n f (bs))) (less_seenP (clo_all (k := 3) (by kernel_rfl)) rb_clo (show 2 ≤ 3 by decide) (by rw [ew]; exact Eq.trans (Eq.refl _) (by kernel_rfl)) (by kernel_rfl) (by kernel_rfl) (by kernel_rfl)) (skip (by rw [hlo]; rfl))
  | false =>
    refine Runs.sqR mixed hk38 [viaV 2 (.bool false)] (by kernel_rfl) (by kernel_rfl) (by kernel_rfl) (oblC (shown_eq (v := .bool (leF (f i) lo)) (by kernel_rfl) (by kernel_rfl) (by rw [hlo])) oblN) ?_
    refine Runs.cd (b := ltF hi (f i)) (by kernel_rfl) (fun ht => Runs.now (x := .exit 1) (by kernel_rfl) ?_) (fun hf => Runs.now (x := .normal) (by kernel_rfl) ?_)
    · show Runs Tryz.prog 2 _ _ _
      refine Runs.rg mixed hk38 [] (by kernel_rfl) (by kernel_rfl) (by kernel_rfl) oblN ?_
      show Runs Tryz.prog 2 lp97 _ _
      refine Runs.less (af1 := sth (Sf 41 n cap hd (i + 1) lo hi) 39 (OrB n f (bs))) (less_seenP (clo_all (k := 3) (by kernel_rfl)) rb_clo (show 2 ≤ 3 by decide) (by rw [ew]; exact Eq.trans (Eq.refl _) (by kernel_rfl)) (by kernel_rfl) (by kernel_rfl) (by kernel_rfl)) (skip (by rw [hlo, ht]; rfl))
    · have b0 : 0 ≤ f i := by rw [leF_eq, decide_eq_false_iff_not] at hlo; omega
      have bn : f i ≤ n := by have := ltF_not.1 hf; omega
      have hno : (leF (f i) lo || ltF hi (f i)) = false := by rw [hlo, hf]; rfl
      show Runs Tryz.prog 2 _ _ _
      refine Runs.sqR mixed hk38 [] (by kernel_rfl) (by kernel_rfl) (by kernel_rfl) oblN ?_
      obtain ⟨bl, hbl⟩ : ∃ bl, bl = ltF hd (f i) := ⟨_, rfl⟩
      refine Runs.less (af1 := sth (Sm 41 n cap hd i lo hi (f i) bl) 39 (OrB n f (bs))) (less_seenP (clo_all (k := 3) (by kernel_rfl)) rb_clo (show 2 ≤ 3 by decide) (by rw [hbl]; exact Eq.trans (Eq.refl _) (by kernel_rfl)) (by kernel_rfl) (by kernel_rfl) (by kernel_rfl)) ?_
      have hS := out_l n f bs (by omega) (f i) bl
      refine Runs.sqR mixed hk38 [viaH 3 41 [.int .i64 (f i), .bool bl, ptrC 1] (.tuple #[]) (HR1 n f bs (bs ++ [f i]))] (by kernel_rfl) (by kernel_rfl) (by kernel_rfl) (oblC (shown_callHE (by kernel_rfl) (by kernel_rfl) hS) oblN) ?_
      refine Runs.renumK (sz := 39) (l := Sm 41 n cap hd i lo hi (f i) bl) (os := OrB n f (bs ++ [f i])) (fun j => match j with | 2 => 3 | j => j) (fun j => match j with | 3 => 2 | j => j) (by kernel_rfl) (show 2 ≤ 3 by decide) (by kernel_rfl)
        ⟨fun _ => .inl (Eq.trans (Eq.refl _) (by kernel_rfl)), fun _ => .inr ⟨2, _, by kernel_rfl, Born.func (fn := .func 41) (a := #[]) (b := #[ptrC 1]) (q := 0) rfl (Born.ptr 1 0)⟩, fun h => (by cases h), trivial⟩ (by kernel_rfl) (by kernel_rfl) (by kernel_rfl) (by kernel_rfl)
        ⟨obs_view (by kernel_rfl), RenO.of (σ := fun j => match j with | 3 => 2 | j => j) (by kernel_rfl) (by kernel_rfl), obs_rowT (p := []) (by kernel_rfl), trivial⟩ ?_
      refine Runs.sqR mixed hk38 [] (by kernel_rfl) (by kernel_rfl) (by kernel_rfl) oblN ?_
      refine Runs.cd (b := bl) (by kernel_rfl) (fun ht => ?_) (fun ht => ?_)
      · have hnext := blunt bl ht hno (hbl ▸ ht) b0 bn
        refine Runs.rg mixed hk38 [viaV 1 (.int .i64 (f i - 1))] (by kernel_rfl) (by kernel_rfl) (by kernel_rfl) (oblC (shown_eq (v := .int .i64 (wrapF .i64 (Int.sub (f i) 1))) (by kernel_rfl) (by kernel_rfl) (by rw [fol_sub b0 bn hn])) oblN) ?_
        show Runs Tryz.prog 2 _ _ _
        refine Runs.rg mixed hk38 [] (by kernel_rfl) (by kernel_rfl) (by kernel_rfl) oblN ?_
        show Runs Tryz.prog 2 lp97 _ _
        exact Runs.less (af1 := sth (Sf 41 n cap hd (i + 1) lo (f i - 1)) 39 (OrB n f (bs ++ [f i]))) (less_seenP (clo_all (k := 3) (by kernel_rfl)) rb_clo (show 2 ≤ 3 by decide) (by rw [ew]; exact Eq.trans (Eq.refl _) (by kernel_rfl)) (by kernel_rfl) (by kernel_rfl) (by kernel_rfl)) hnext
      · have hnext := sharp bl ht hno (hbl ▸ ht) b0 bn
        refine Runs.rg mixed hk38 [] (by kernel_rfl) (by kernel_rfl) (by kernel_rfl) oblN ?_
        show Runs Tryz.prog 2 _ _ _
        refine Runs.rg mixed hk38 [] (by kernel_rfl) (by kernel_rfl) (by kernel_rfl) oblN ?_
        show Runs Tryz.prog 2 lp97 _ _
        exact Runs.less (af1 := sth (Sf 41 n cap hd (i + 1) (f i) hi) 39 (OrB n f (bs ++ [f i]))) (less_seenP (clo_all (k := 3) (by kernel_rfl)) rb_clo (show 2 ≤ 3 by decide) (by rw [ew]; exact Eq.trans (Eq.refl _) (by kernel_rfl)) (by kernel_rfl) (by kernel_rfl) (by kernel_rfl)) hnext


theorem folRB (n cap : Nat) (f : Nat → Int) (hd : Int) (hn : n < 100000) : ∀ d i (lo hi : Int) (bs : List Int), i + d = n → 0 ≤ lo → hi ≤ n → bs.length ≤ i →
    Runs Tryz.prog 2 lp97 (sth (Sf 41 n cap hd i lo hi) 39 (OrB n f (bs))) fun e af => e = .exit 0 ∧ Less 2 (sth [] 39 (OrB n f (bs ++ (folF f hd d i lo hi)))) af
  | 0, i, lo, hi, bs, h, h1, h2, hl => by
    have e : i = n := by omega
    subst e
    refine Runs.lp (by kernel_rfl) (Runs.sqR mixed hk38 [] (by kernel_rfl) (by kernel_rfl) (by kernel_rfl) oblN (Runs.sq (by kernel_rfl) ?_))
    refine Runs.cd (b := ltF (.ofNat i) (.ofNat i)) (by kernel_rfl) (fun ht => by rw [lt_self] at ht; cases ht) (fun _ => Runs.now (x := .exit 0) (by kernel_rfl) ⟨rfl, ?_⟩)
    rw [show bs ++ (folF f hd 0 i lo hi) = bs from List.append_nil bs]
    exact less_seenP (fun p hp => by cases hp) rb_clo (show 2 ≤ 3 by decide) (by kernel_rfl) (by kernel_rfl) (by kernel_rfl) (by kernel_rfl)
  | d + 1, i, lo, hi, bs, h, h1, h2, hl => by
    refine folRB_round n cap f hd (by omega) i lo hi bs (by omega) (by omega) h1 h2 (fun hs => ?_) (fun bl hbl hs hb b0 bn => ?_) (fun bl hbl hs hb b0 bn => ?_)
    · rw [folF_skip hs]
      exact folRB n cap f hd hn d (i + 1) lo hi bs (by omega) h1 h2 (by omega)
    · rw [folF_blunt hs hb]
      have := folRB n cap f hd hn d (i + 1) lo (f i - 1) (bs ++ [f i]) (by omega) h1 (by omega) (by simp; omega)
      rw [List.append_assoc] at this
      rw [show bs ++ (f i :: folF f hd d (i + 1) lo (f i - 1)) = bs ++ ([f i] ++ (folF f hd d (i + 1) lo (f i - 1))) by rfl]
      exact this
    · rw [folF_sharp hs hb]
      have := folRB n cap f hd hn d (i + 1) (f i) hi (bs ++ [f i]) (by omega) b0 h2 (by simp; omega)
      rw [List.append_assoc] at this
      rw [show bs ++ (f i :: folF f hd d (i + 1) (f i) hi) = bs ++ ([f i] ++ (folF f hd d (i + 1) (f i) hi)) by rfl]
      exact this

abbrev EndR (n : Nat) (f : Nat → Int) (l : List Int) (e : AExit) (af : AF) : Prop := e = .exit 0 ∧ ((l = [] ∧ Less 2 (sth [] 39 (OrN n f)) af) ∨ (l ≠ [] ∧ Less 2 (sth [] 39 (OrB n f (l))) af))

theorem folRN (n cap : Nat) (f : Nat → Int) (hd : Int) (hn : n < 100000) : ∀ d i (lo hi : Int), i + d = n → 0 ≤ lo → hi ≤ n →
    Runs Tryz.prog 2 lp97 (sth (Sf 41 n cap hd i lo hi) 39 (OrN n f)) (EndR n f (folF f hd d i lo hi))
  | 0, i, lo, hi, h, h1, h2 => by
    have e : i = n := by omega
    subst e
    refine Runs.lp (by kernel_rfl) (Runs.sqR mixed hk38 [] (by kernel_rfl) (by kernel_rfl) (by kernel_rfl) oblN (Runs.sq (by kernel_rfl) ?_))
    refine Runs.cd (b := ltF (.ofNat i) (.ofNat i)) (by kernel_rfl) (fun ht => by rw [lt_self] at ht; cases ht) (fun _ => Runs.now (x := .exit 0) (by kernel_rfl) ⟨rfl, .inl ⟨rfl, ?_⟩⟩)
    exact less_seenP (fun p hp => by cases hp) rn_clo (show 2 ≤ 2 by decide) (by kernel_rfl) (by kernel_rfl) (by kernel_rfl) (by kernel_rfl)
  | d + 1, i, lo, hi, h, h1, h2 => by
    refine folRN_round n cap f hd (by omega) i lo hi (by omega) h1 h2 (fun hs => ?_) (fun bl hbl hs hb b0 bn => ?_) (fun bl hbl hs hb b0 bn => ?_)
    · rw [folF_skip hs]
      exact folRN n cap f hd hn d (i + 1) lo hi (by omega) h1 h2
    · rw [folF_blunt hs hb]
      have := folRB n cap f hd hn d (i + 1) lo (f i - 1) [f i] (by omega) h1 (by omega) (by simp)
      rw [show (f i :: folF f hd d (i + 1) lo (f i - 1)) = ([f i] ++ (folF f hd d (i + 1) lo (f i - 1))) by rfl]
      exact this.mono fun e af hx => ⟨hx.1, .inr ⟨by simp, hx.2⟩⟩
    · rw [folF_sharp hs hb]
      have := folRB n cap f hd hn d (i + 1) (f i) hi [f i] (by omega) b0 h2 (by simp)
      rw [show (f i :: folF f hd d (i + 1) (f i) hi) = ([f i] ++ (folF f hd d (i + 1) (f i) hi)) by rfl]
      exact this.mono fun e af hx => ⟨hx.1, .inr ⟨by simp, hx.2⟩⟩

end
end Go.Proofs.YtgnkjmgkfibipaaGreatDoor

/- words, Words, Run, as contracts. -/
namespace Go.Proofs.YtgnkjmgkfibipaaGreatDoor
set_option linter.unusedVariables false
set_option linter.unusedSimpArgs false
open Go Go.R
set_option maxRecDepth 1000000
noncomputable section

/-- A call that keeps what it is given, told where these objects stand. -/
theorem held_says {os : List AObj} {fid : FuncId} {args : List Value} {v : Value} (L : Local Tryz.prog os.length fid args (hp os) (Holds os v)) (ca : ∀ x ∈ args, Clo os.length x) (co : ∀ x ∈ os, CloO os.length x) (cv : Clo os.length v)
    {h : AH} (hle : os.length ≤ h.next) (same : ∀ i, i < os.length → (hp os).get i = h.get i) : Says Tryz.prog h fid args v h := by
  have at_ : ∀ i, i < os.length → ∃ o, os[i]? = some o ∧ (hp os).get i = o ∧ CloO os.length o := fun i hi => ⟨os[i], List.getElem?_eq_getElem hi, hp_get os i _ (List.getElem?_eq_getElem hi), co _ (List.getElem_mem hi)⟩
  have hc : ∀ i, i < os.length → CloO os.length (h.get i) := fun i hi => by
    obtain ⟨o, h1, h2, h3⟩ := at_ i hi
    rw [← same i hi, h2]; exact h3
  exact fun F w0 μ w args' H hl => L.framed (h := h) (h2 := h) (fun v' h' r => ⟨r.1, fun i hi => by
    obtain ⟨o, h1, h2, _⟩ := at_ i hi
    rw [r.2 i o h1, ← same i hi, h2]⟩) (hp_next os) hle same ca hc hc cv (fun _ _ => .inl rfl) rfl (fun _ _ => rfl) H hl

theorem word_says (n cap : Nat) (f : Nat → Int) (hd : Int) (hn : n < 100000) {h : AH} (hle : 1 ≤ h.next) (h0 : h.get 0 = viewZ n f) : Says Tryz.prog h 44 [slV n cap, .int .i64 hd] (.string (strB (wordF f n hd))) h :=
  held_says (os := [viewZ n f]) (word_local n cap f hd hn) slx_clo viewZ_clo (clo_plain rfl) hle fun i hi => by
    have : i = 0 := Nat.lt_one_iff.1 hi
    subst this
    rw [h0]
    exact Eq.trans (Eq.refl _) (by kernel_rfl)

/-! ### words -/
noncomputable def strsV (m : Nat) (g : Nat → ByteArray) : List Value := (List.range m).map fun i => .string (g i)
noncomputable def rowS (m : Nat) (g : Nat → ByteArray) : AObj := .cells (strsV m g) true [] (some 9)
theorem strsV_len (m : Nat) (g : Nat → ByteArray) : (strsV m g).length = m := by simp [strsV]
theorem strsV_plain (m : Nat) (g : Nat → ByteArray) : ∀ x ∈ strsV m g, plainV x = true := fun x hx => by
  obtain ⟨i, _, rfl⟩ := List.mem_map.1 hx; rfl
theorem strsV_succ (m : Nat) (g : Nat → ByteArray) : strsV m g ++ [.string (g m)] = strsV (m + 1) g := by
  unfold strsV; rw [List.range_succ, List.map_append]; rfl
noncomputable def wordS (f : Nat → Int) (n h : Nat) : ByteArray := strB (wordF f n (.ofNat h))

noncomputable def c95 : Code := bodyOf Tryz.f46
noncomputable def lp95 : Code := within (tl (hd (behind 2 c95)))
noncomputable def S95 (n cap m : Nat) : List (Nat × Value) := [(0, slV n cap), (3, bldV 1 m), (7, i64 (n + 1)), (8, i64 m)]
theorem ws_clo {n m : Nat} {f : Nat → Int} {g : Nat → ByteArray} : ∀ x ∈ [viewZ n f, rowS m g], CloO 2 x := fun x hx => by
  simp only [List.mem_cons, List.mem_nil_iff, or_false] at hx
  rcases hx with rfl | rfl
  · exact cloO_plain (intsZ_plain n f) _ _
  · exact cloO_plain (strsV_plain m g) _ _
theorem str_info : ∃ info, Tryz.prog.info? 9 = some info ∧ info.size = 1 ∧ (decide (info.bytes > 1000000) || !zfit info) = false := ⟨(Tryz.prog.info? 9).get!, by kernel_rfl, by kernel_rfl, by kernel_rfl⟩
theorem obs_rowS {ρ : Nat → Nat} {m : Nat} {k : Nat} {g : Nat → ByteArray} {p : List Nat} {x : AObj} {c : List Value} (e : x = .cells c true p (some 9)) (ec : c = strsV k g) : RenO ρ m x (rowS k g) := RenO.row (c := strsV k g) (lv := true) (p := p) (ty := some 9) (ec ▸ e) (strsV_plain k g) (fun h => h) (.inr rfl)

theorem words_loop (n cap : Nat) (f : Nat → Int) (hn : n < 100000) : ∀ d m, m + d = n + 1 →
    Runs Tryz.prog 1 lp95 (sth (S95 n cap m) 19 [viewZ n f, rowS m (wordS f n)]) fun e af => e = .exit 0 ∧ Less 1 (sth [(3, bldV 1 (n + 1))] 19 [viewZ n f, rowS (n + 1) (wordS f n)]) af := by
  intro d
  induction d with
  | zero =>
    intro m hm
    have e : m = n + 1 := by omega
    subst e
    refine Runs.lp (by kernel_rfl) (Runs.sqR mixed hk38 [viaV 0 (.bool false)] (by kernel_rfl) (by kernel_rfl) (by kernel_rfl) (oblC (shown_eq (v := .bool (ltF (.ofNat (n + 1)) (.ofNat (n + 1)))) (by kernel_rfl) (by kernel_rfl) (by rw [lt_self])) oblN) (Runs.sq (by kernel_rfl) ?_))
    refine Runs.cd (b := false) (by kernel_rfl) (fun ht => by cases ht) (fun _ => Runs.now (x := .exit 0) (by kernel_rfl) ⟨rfl, ?_⟩)
    exact less_seenP (clo_all (k := 2) (by kernel_rfl)) ws_clo (show 1 ≤ 2 by decide) (by kernel_rfl) (by kernel_rfl) (by kernel_rfl) (by kernel_rfl)
  | succ d ih =>
    intro m hm
    have hlt : m < n + 1 := by omega
    refine Runs.lp (by kernel_rfl) (Runs.sqR mixed hk38 [viaV 0 (.bool true)] (by kernel_rfl) (by kernel_rfl) (by kernel_rfl) (oblC (shown_eq (v := .bool (ltF (.ofNat m) (.ofNat (n + 1)))) (by kernel_rfl) (by kernel_rfl) (by rw [lt_of hlt])) oblN) (Runs.sq (by kernel_rfl) ?_))
    refine Runs.cd (b := true) (by kernel_rfl) (fun _ => Runs.now (x := .normal) (by kernel_rfl) ?_) (fun hf => by cases hf)
    show Runs Tryz.prog 1 _ _ _
    refine Runs.sq (by kernel_rfl) (Runs.bk (id := 1) (by kernel_rfl) ?_)
    refine Runs.sqR mixed hk38 [] (by kernel_rfl) (by kernel_rfl) (by kernel_rfl) oblN ?_
    let H0 : AH := hp [viewZ n f, rowS m (wordS f n)]
    let H2 : AH := (H0.new (.cells [.string (wordS f n m)] true [] (some 9))).2
    have hap := push_gen (st := 30) (e := 9) (by kernel_rfl) str_info (h := H2) (i := 1) (j := 2) (x := .string (wordS f n m)) (par := []) rfl (strsV_len m (wordS f n)) (by omega) (by kernel_rfl) (by kernel_rfl)
    refine Runs.rg mixed hk38 [viaC 3 44 [slV n cap, i64 m] (.string (wordS f n m)), ⟨5, bldV 3 (m + 1), some ((H2.put 1 (.cells (strsV m (wordS f n)) false [] (some 9))).new (.cells (strsV m (wordS f n) ++ [Value.string (wordS f n m)]) true [1] (some 9))).2, none⟩] (by kernel_rfl) (by kernel_rfl) (by kernel_rfl)
      (oblC (shown_callE (by kernel_rfl) (by kernel_rfl) (word_says n cap f (.ofNat m) hn (h := H0) (show 1 ≤ 2 by decide) (by kernel_rfl)))
      (oblC ⟨by kernel_rfl, (show _ = appendA Tryz.prog #[30, 30] (.slice (some ⟨1, 0, some 1⟩) m m) (.slice (some ⟨2, 0, none⟩) 1 1) H2 by kernel_rfl).trans hap⟩ oblN)) ?_
    show Runs Tryz.prog 1 _ _ _
    refine Runs.rg mixed hk38 [viaV 0 (i64 (m + 1))] (by kernel_rfl) (by kernel_rfl) (by kernel_rfl) (oblC (shown_eq (v := .int .i64 (wrapF .i64 (Int.add (.ofNat m) (.ofNat 1)))) (by kernel_rfl) (by kernel_rfl) (by rw [wrap_succ (by omega)]; rfl)) oblN) ?_
    show Runs Tryz.prog 1 lp95 _ _
    exact Runs.renumK (sz := 19) (l := S95 n cap (m + 1)) (os := [viewZ n f, rowS (m + 1) (wordS f n)]) (fun j => match j with | 1 => 3 | j => j) (fun j => match j with | 3 => 1 | j => j) (by kernel_rfl) (show 1 ≤ 2 by decide) (by kernel_rfl) ⟨fun _ => .inl (Eq.trans (Eq.refl _) (by kernel_rfl)), fun h => (by cases h), trivial⟩ (by kernel_rfl) (by kernel_rfl) (by kernel_rfl) (by kernel_rfl)
      ⟨obs_view (by kernel_rfl), obs_rowS (p := [1]) (c := strsV m (wordS f n) ++ [Value.string (wordS f n m)]) (by kernel_rfl) (strsV_succ m (wordS f n)), trivial⟩ (ih (m + 1) (by omega))

theorem words_local (n cap : Nat) (f : Nat → Int) (hn : n < 100000) : Local Tryz.prog 1 46 [slV n cap] (hp [viewZ n f]) (IsRow (n + 1) (strsV (n + 1) (wordS f n)) (some 9) none) := by
  refine local_of noNum Tryz.func46 (show Tryz.f46.body = some c95 by kernel_rfl) ?_
  refine Runs.sqR mixed hk38 [] (by kernel_rfl) (by kernel_rfl) (by kernel_rfl) oblN ?_
  refine Runs.sqR mixed hk38 [] (by kernel_rfl) (by kernel_rfl) (by kernel_rfl) oblN ?_
  refine Runs.sq (by kernel_rfl) (Runs.sqR mixed hk38 [viaV 2 (i64 (n + 1))] (by kernel_rfl) (by kernel_rfl) (by kernel_rfl) (oblC (shown_eq (v := .int .i64 (wrapF .i64 (Int.add (.ofNat n) (.ofNat 1)))) (by kernel_rfl) (by kernel_rfl) (by rw [wrap_succ (by omega)]; rfl)) oblN) (Runs.bk (id := 0) (by kernel_rfl) ?_))
  refine Runs.less (af1 := sth [(0, slV n cap), (3, .slice none 0 0), (7, i64 (n + 1)), (8, i64 0)] 19 [viewZ n f]) (less_seenP (clo_all (k := 1) (by kernel_rfl)) viewZ_clo (Nat.le_refl 1) (by kernel_rfl) (by kernel_rfl) (by kernel_rfl) (by kernel_rfl)) ?_
  refine Runs.lp (by kernel_rfl) (Runs.sqR mixed hk38 [viaV 0 (.bool true)] (by kernel_rfl) (by kernel_rfl) (by kernel_rfl) (oblC (shown_eq (v := .bool (ltF (.ofNat 0) (.ofNat (n + 1)))) (by kernel_rfl) (by kernel_rfl) (by rw [lt_of (by omega)])) oblN) (Runs.sq (by kernel_rfl) ?_))
  refine Runs.cd (b := true) (by kernel_rfl) (fun _ => Runs.now (x := .normal) (by kernel_rfl) ?_) (fun hf => by cases hf)
  show Runs Tryz.prog 1 _ _ _
  refine Runs.sq (by kernel_rfl) (Runs.bk (id := 1) (by kernel_rfl) ?_)
  refine Runs.sqR mixed hk38 [] (by kernel_rfl) (by kernel_rfl) (by kernel_rfl) oblN ?_
  refine Runs.rg mixed hk38 [viaC 3 44 [slV n cap, i64 0] (.string (wordS f n 0))] (by kernel_rfl) (by kernel_rfl) (by kernel_rfl)
    (oblC (shown_callE (by kernel_rfl) (by kernel_rfl) (word_says n cap f (.ofNat 0) hn (h := hp [viewZ n f]) (Nat.le_refl 1) (by kernel_rfl))) oblN) ?_
  show Runs Tryz.prog 1 _ _ _
  refine Runs.rg mixed hk38 [] (by kernel_rfl) (by kernel_rfl) (by kernel_rfl) oblN ?_
  show Runs Tryz.prog 1 lp95 _ _
  refine Runs.renumK (sz := 19) (l := S95 n cap 1) (os := [viewZ n f, rowS 1 (wordS f n)]) (fun j => match j with | 1 => 2 | j => j) (fun j => match j with | 2 => 1 | j => j) (by kernel_rfl) (show 1 ≤ 2 by decide) (by kernel_rfl) ⟨fun _ => .inl (Eq.trans (Eq.refl _) (by kernel_rfl)), fun h => (by cases h), trivial⟩ (by kernel_rfl) (by kernel_rfl) (by kernel_rfl) (by kernel_rfl)
    ⟨obs_view (by kernel_rfl), obs_rowS (p := []) (c := [Value.string (wordS f n 0)]) (by kernel_rfl) rfl, trivial⟩ ?_
  refine (words_loop n cap f hn n 1 (by omega)).mono fun e af hx => ?_
  obtain ⟨rfl, less⟩ := hx
  show Runs Tryz.prog 1 _ af _
  refine Runs.less less ?_
  refine Runs.sqR mixed hk38 [] (by kernel_rfl) (by kernel_rfl) (by kernel_rfl) oblN ?_
  exact Runs.now (x := .ret) (by kernel_rfl) ⟨.inr rfl, [bldV 1 (n + 1)], by kernel_rfl, 1, [], .inl rfl, by kernel_rfl⟩

/-! ### Words -/
noncomputable def c43 : Code := bodyOf Tryz.f11
theorem view_at {n cap : Nat} (hc : n ≤ cap) : SliceAt 0 0 n (slV n cap) := .inr ⟨cap, hc, rfl⟩
theorem words_says (n cap : Nat) (f : Nat → Int) (hc : n ≤ cap) (hn : n < 100000) : Says Tryz.prog (hp [viewZ n f]) 46 [slV n cap] (bldV 1 (n + 1)) ((hp [viewZ n f]).new (rowS (n + 1) (wordS f n))).2 :=
  tell_new (pre := []) (post := []) (i := 0) (o := 0) (c := intsZ n f) (cells := intsZ n f) (lv := false) (par := []) (ty := none) (fun cap' _ => words_local n cap' f hn) (strsV_len _ _) (strsV_plain _ _) (fun v h => by cases h) (hp_get _ 0 _ rfl) (fun k u h => by rw [Nat.zero_add]; exact h) (by rw [Nat.zero_add]; exact Nat.le_refl _) (intsZ_plain n f) (view_at hc) (fun v h => by cases h) (fun v h => by cases h)

theorem Words_bad (n cap : Nat) (f : Nat → Int) (hc : n ≤ cap) (hn : n < 100000) (hx : chkN f n ≠ 0) : Local Tryz.prog 1 11 [slV n cap] (hp [viewZ n f]) fun v' _ => v' = .tuple #[.slice none 0 0, .int .i64 (chkN f n)] := by
  refine local_of noNum Tryz.func11 (show Tryz.f11.body = some c43 by kernel_rfl) ?_
  refine Runs.sqR mixed hk38 [] (by kernel_rfl) (by kernel_rfl) (by kernel_rfl) oblN ?_
  have hne : (!(eqF (chkN f n) 0)) = true := by
    cases h : eqF (chkN f n) 0 with
    | false => rfl
    | true => rw [eqF_eq] at h; exact absurd (eq_of_beq h) hx
  refine Runs.sq (by kernel_rfl) (Runs.sqR mixed hk38 [viaC 1 19 [slV n cap] (.int .i64 (chkN f n))] (by kernel_rfl) (by kernel_rfl) (by kernel_rfl) (oblC (shown_callE (by kernel_rfl) (by kernel_rfl) (check_says n cap f hc (by omega))) oblN) ?_)
  refine Runs.sqR mixed hk38 [viaV 1 (.bool true)] (by kernel_rfl) (by kernel_rfl) (by kernel_rfl) (oblC (shown_eq (v := .bool (!(eqF (chkN f n) 0))) (by kernel_rfl) (by kernel_rfl) (by rw [hne])) oblN) ?_
  refine Runs.cd (b := true) (by kernel_rfl) (fun _ => ?_) (fun h => by cases h)
  exact Runs.sqR mixed hk38 [] (by kernel_rfl) (by kernel_rfl) (by kernel_rfl) oblN (Runs.now (x := .ret) (by kernel_rfl) ⟨.inr rfl, [.slice none 0 0, .int .i64 (chkN f n)], by kernel_rfl, rfl⟩)

theorem Words_good (n cap : Nat) (f : Nat → Int) (hc : n ≤ cap) (hn : n < 100000) (hx : chkN f n = 0) : Local Tryz.prog 1 11 [slV n cap] (hp [viewZ n f]) (IsRow (n + 1) (strsV (n + 1) (wordS f n)) (some 9) (some (i64 0))) := by
  refine local_of noNum Tryz.func11 (show Tryz.f11.body = some c43 by kernel_rfl) ?_
  refine Runs.sqR mixed hk38 [] (by kernel_rfl) (by kernel_rfl) (by kernel_rfl) oblN ?_
  have hS := check_says n cap f hc (by omega)
  rw [hx] at hS
  refine Runs.sq (by kernel_rfl) (Runs.sq (by kernel_rfl) (Runs.rg mixed hk38 [viaC 1 19 [slV n cap] (i64 0)] (by kernel_rfl) (by kernel_rfl) (by kernel_rfl) (oblC (shown_callE (by kernel_rfl) (by kernel_rfl) hS) oblN) ?_))
  show Runs Tryz.prog 1 _ _ _
  refine Runs.sqR mixed hk38 [] (by kernel_rfl) (by kernel_rfl) (by kernel_rfl) oblN ?_
  refine Runs.cd (b := false) (by kernel_rfl) (fun h => by cases h) (fun _ => Runs.now (x := .normal) (by kernel_rfl) ?_)
  show Runs Tryz.prog 1 _ _ _
  refine Runs.sqR mixed hk38 [viaH 1 46 [slV n cap] (bldV 1 (n + 1)) ((hp [viewZ n f]).new (rowS (n + 1) (wordS f n))).2] (by kernel_rfl) (by kernel_rfl) (by kernel_rfl) (oblC (shown_callHE (by kernel_rfl) (by kernel_rfl) (words_says n cap f hc hn)) oblN) ?_
  exact Runs.now (x := .ret) (by kernel_rfl) ⟨.inr rfl, [bldV 1 (n + 1), i64 0], by kernel_rfl, 1, [], .inl rfl, by kernel_rfl⟩
end
end Go.Proofs.YtgnkjmgkfibipaaGreatDoor

/- Run, as a contract. -/
namespace Go.Proofs.YtgnkjmgkfibipaaGreatDoor
set_option linter.unusedVariables false
set_option linter.unusedSimpArgs false
open Go Go.R
set_option maxRecDepth 1000000
noncomputable section

/-! ### asked -/
noncomputable def c96 : Code := bodyOf Tryz.f39
noncomputable def askZ (f : Nat → Int) (n : Nat) (hd : Int) : Int := if chkN f n = 0 then (if outZ hd 0 (.ofNat n) then 2 else 0) else chkN f n
theorem asked_says (n cap : Nat) (f : Nat → Int) (hd : Int) (hc : n ≤ cap) (hn : n < 100000) : Says Tryz.prog (hp [viewZ n f]) 39 [slV n cap, .int .i64 hd] (.int .i64 (askZ f n hd)) (hp [viewZ n f]) := by
  refine says_of (os := [viewZ n f]) ?_ slx_clo viewZ_clo (clo_plain rfl)
  refine local_of noNum Tryz.func39 (show Tryz.f39.body = some c96 by kernel_rfl) ?_
  refine Runs.sqR mixed hk38 [] (by kernel_rfl) (by kernel_rfl) (by kernel_rfl) oblN ?_
  have hS := check_says n cap f hc (by omega)
  by_cases hx : chkN f n = 0
  · have e : askZ f n hd = if outZ hd 0 (.ofNat n) then 2 else 0 := by unfold askZ; rw [if_pos hx]
    rw [e]
    rw [hx] at hS
    refine Runs.sqR mixed hk38 [viaC 1 19 [slV n cap] (i64 0)] (by kernel_rfl) (by kernel_rfl) (by kernel_rfl) (oblC (shown_callE (by kernel_rfl) (by kernel_rfl) hS) oblN) ?_
    refine Runs.sq (by kernel_rfl) (Runs.sqR mixed hk38 [viaC 6 51 [.int .i64 hd, i64 0, i64 n] (.bool (outZ hd 0 (.ofNat n)))] (by kernel_rfl) (by kernel_rfl) (by kernel_rfl) (oblC (shown_call (by kernel_rfl) (outZ_says hd 0 (.ofNat n) _)) oblN) ?_)
    refine Runs.cd (b := outZ hd 0 (.ofNat n)) (by kernel_rfl) (fun ho => ?_) (fun ho => Runs.now (x := .normal) (by kernel_rfl) ?_)
    · rw [if_pos ho]
      refine Runs.rg mixed hk38 [] (by kernel_rfl) (by kernel_rfl) (by kernel_rfl) oblN ?_
      show Runs Tryz.prog 1 _ _ _
      refine Runs.sqR mixed hk38 [] (by kernel_rfl) (by kernel_rfl) (by kernel_rfl) oblN ?_
      exact Runs.now (x := .ret) (by kernel_rfl) ⟨.inr rfl, [i64 2], by kernel_rfl, rfl, keepOf (by kernel_rfl)⟩
    · rw [if_neg (by rw [ho]; decide)]
      show Runs Tryz.prog 1 _ _ _
      refine Runs.sqR mixed hk38 [] (by kernel_rfl) (by kernel_rfl) (by kernel_rfl) oblN ?_
      exact Runs.now (x := .ret) (by kernel_rfl) ⟨.inr rfl, [i64 0], by kernel_rfl, rfl, keepOf (by kernel_rfl)⟩
  · have e : askZ f n hd = chkN f n := by unfold askZ; rw [if_neg hx]
    rw [e]
    have hne : eqF (chkN f n) 0 = false := by
      cases h : eqF (chkN f n) 0 with
      | false => rfl
      | true => rw [eqF_eq] at h; exact absurd (eq_of_beq h) hx
    refine Runs.sqR mixed hk38 [viaC 1 19 [slV n cap] (.int .i64 (chkN f n))] (by kernel_rfl) (by kernel_rfl) (by kernel_rfl) (oblC (shown_callE (by kernel_rfl) (by kernel_rfl) hS) oblN) ?_
    refine Runs.sq (by kernel_rfl) (Runs.sqR mixed hk38 [viaV 1 (.bool false)] (by kernel_rfl) (by kernel_rfl) (by kernel_rfl) (oblC (shown_eq (v := .bool (eqF (chkN f n) 0)) (by kernel_rfl) (by kernel_rfl) (by rw [hne])) oblN) ?_)
    refine Runs.cd (b := false) (by kernel_rfl) (fun h => by cases h) (fun _ => Runs.now (x := .normal) (by kernel_rfl) ?_)
    show Runs Tryz.prog 1 _ _ _
    refine Runs.sqR mixed hk38 [] (by kernel_rfl) (by kernel_rfl) (by kernel_rfl) oblN ?_
    exact Runs.now (x := .ret) (by kernel_rfl) ⟨.inr rfl, [.int .i64 (chkN f n)], by kernel_rfl, rfl, keepOf (by kernel_rfl)⟩

/-! ### follow, told -/
noncomputable def runF (f : Nat → Int) (n : Nat) (hd : Int) : List Int := folF f hd n 0 0 (.ofNat n)
theorem follow_runsR (n cap : Nat) (f : Nat → Int) (hd : Int) (hn : n < 100000) : Runs Tryz.prog 2 c97 (entry Tryz.f40 (argF 41 n cap hd) (hp (OrN n f))) fun x af => x = .normal ∧
    ((runF f n hd = [] ∧ Less 2 (sth [] 39 (OrN n f)) af) ∨ (runF f n hd ≠ [] ∧ Less 2 (sth [] 39 (OrB n f (runF f n hd))) af)) := by
  refine Runs.sqR mixed hk38 [] (by kernel_rfl) (by kernel_rfl) (by kernel_rfl) oblN ?_
  refine Runs.sqR mixed hk38 [] (by kernel_rfl) (by kernel_rfl) (by kernel_rfl) oblN (Runs.bk (id := 0) (by kernel_rfl) ?_)
  refine Runs.less (af1 := sth (Sf 41 n cap hd 0 0 (.ofNat n)) 39 (OrN n f)) (less_seenP (clo_all (k := 2) (by kernel_rfl)) rn_clo (show 2 ≤ 2 by decide) (by kernel_rfl) (by kernel_rfl) (by kernel_rfl) (by kernel_rfl)) ?_
  refine (folRN n cap f hd hn n 0 0 (.ofNat n) (by omega) (Int.le_refl 0) (Int.le_refl _)).mono fun e af hx => ?_
  obtain ⟨rfl, hx⟩ := hx
  exact ⟨rfl, hx⟩

theorem follow_saysR (n cap : Nat) (f : Nat → Int) (hd : Int) (hn : n < 100000) (hw : runF f n hd ≠ []) : Says Tryz.prog (hp (OrN n f)) 40 (argF 41 n cap hd) (.tuple #[]) (hp (OrB n f (runF f n hd))) := by
  refine says_rn ?_ rfl (argF_born 41 n cap hd)
  refine local_of noNum Tryz.func40 (show Tryz.f40.body = some c97 by kernel_rfl) ?_
  refine (follow_runsR n cap f hd hn).mono fun x af hx => ?_
  obtain ⟨rfl, ⟨h, _⟩ | ⟨_, less⟩⟩ := hx
  · exact absurd h hw
  refine ⟨.inl rfl, [], rfl, rfl, 2, [], Nat.le_refl 2, fun j _ h => (by cases h), less_get less (i := 1) rfl (by intro e; cases e), less_get less (i := 2) rfl (by intro e; cases e), fun j hj hne => ?_⟩
  have : j = 0 := by omega
  subst this
  rw [less_get less (i := 0) (o := viewZ n f) rfl (by intro e; cases e)]
  exact Eq.trans (Eq.refl _) (by kernel_rfl)

/-! ### Run -/
noncomputable def c44 : Code := bodyOf Tryz.f7
theorem Run_bad (n cap : Nat) (f : Nat → Int) (hd : Int) (hc : n ≤ cap) (hn : n < 100000) (hx : askZ f n hd ≠ 0) : Local Tryz.prog 1 7 [slV n cap, .int .i64 hd] (hp [viewZ n f]) fun v' _ => v' = .tuple #[.slice none 0 0, .int .i64 (askZ f n hd)] := by
  refine local_of noNum Tryz.func7 (show Tryz.f7.body = some c44 by kernel_rfl) ?_
  refine Runs.sqR mixed hk38 [] (by kernel_rfl) (by kernel_rfl) (by kernel_rfl) oblN ?_
  have hne : (!(eqF (askZ f n hd) 0)) = true := by
    cases h : eqF (askZ f n hd) 0 with
    | false => rfl
    | true => rw [eqF_eq] at h; exact absurd (eq_of_beq h) hx
  refine Runs.sq (by kernel_rfl) (Runs.sqR mixed hk38 [viaC 2 39 [slV n cap, .int .i64 hd] (.int .i64 (askZ f n hd))] (by kernel_rfl) (by kernel_rfl) (by kernel_rfl) (oblC (shown_callE (by kernel_rfl) (by kernel_rfl) (asked_says n cap f hd hc hn)) oblN) ?_)
  refine Runs.sqR mixed hk38 [viaV 1 (.bool true)] (by kernel_rfl) (by kernel_rfl) (by kernel_rfl) (oblC (shown_eq (v := .bool (!(eqF (askZ f n hd) 0))) (by kernel_rfl) (by kernel_rfl) (by rw [hne])) oblN) ?_
  refine Runs.cd (b := true) (by kernel_rfl) (fun _ => ?_) (fun h => by cases h)
  exact Runs.sqR mixed hk38 [] (by kernel_rfl) (by kernel_rfl) (by kernel_rfl) oblN (Runs.now (x := .ret) (by kernel_rfl) ⟨.inr rfl, [.slice none 0 0, .int .i64 (askZ f n hd)], by kernel_rfl, rfl⟩)

theorem Run_front (n cap : Nat) (f : Nat → Int) (hd : Int) (hc : n ≤ cap) (hn : n < 100000) (hx : askZ f n hd = 0) {R : Value → AH → Prop} (next : Runs Tryz.prog 1 (behind 3 c44) (sth [(0, slV n cap), (1, .int .i64 hd), (7, ptrC 1)] 19 (OrN n f)) (EndsAs Tryz.prog Tryz.f7 R)) :
    Local Tryz.prog 1 7 [slV n cap, .int .i64 hd] (hp [viewZ n f]) R := by
  refine local_of noNum Tryz.func7 (show Tryz.f7.body = some c44 by kernel_rfl) ?_
  refine Runs.sqR mixed hk38 [] (by kernel_rfl) (by kernel_rfl) (by kernel_rfl) oblN ?_
  have hS := asked_says n cap f hd hc hn
  rw [hx] at hS
  refine Runs.sq (by kernel_rfl) (Runs.sqR mixed hk38 [viaC 2 39 [slV n cap, .int .i64 hd] (i64 0)] (by kernel_rfl) (by kernel_rfl) (by kernel_rfl) (oblC (shown_callE (by kernel_rfl) (by kernel_rfl) hS) oblN) ?_)
  refine Runs.sqR mixed hk38 [] (by kernel_rfl) (by kernel_rfl) (by kernel_rfl) oblN ?_
  refine Runs.cd (b := false) (by kernel_rfl) (fun h => by cases h) (fun _ => Runs.now (x := .normal) (by kernel_rfl) ?_)
  show Runs Tryz.prog 1 _ _ _
  refine Runs.sqR mixed hk38 [] (by kernel_rfl) (by kernel_rfl) (by kernel_rfl) oblN ?_
  exact Runs.less (af1 := sth [(0, slV n cap), (1, .int .i64 hd), (7, ptrC 1)] 19 (OrN n f)) (less_seenP (clo_all (k := 2) (by kernel_rfl)) rn_clo (show 1 ≤ 2 by decide) (by kernel_rfl) (by kernel_rfl) (by kernel_rfl) (by kernel_rfl)) next

theorem Run_good (n cap : Nat) (f : Nat → Int) (hd : Int) (hc : n ≤ cap) (hn : n < 100000) (hx : askZ f n hd = 0) (hw : runF f n hd ≠ []) : Local Tryz.prog 1 7 [slV n cap, .int .i64 hd] (hp [viewZ n f]) (IsRow (runF f n hd).length (litZ (runF f n hd)) (some 3) (some (i64 0))) := by
  refine Run_front n cap f hd hc hn hx ?_
  refine Runs.sqR mixed hk38 [viaH 3 40 (argF 41 n cap hd) (.tuple #[]) (hp (OrB n f (runF f n hd)))] (by kernel_rfl) (by kernel_rfl) (by kernel_rfl) (oblC (shown_callHE (by kernel_rfl) (by kernel_rfl) (follow_saysR n cap f hd hn hw)) oblN) ?_
  refine Runs.sqR mixed hk38 [] (by kernel_rfl) (by kernel_rfl) (by kernel_rfl) oblN ?_
  exact Runs.now (x := .ret) (by kernel_rfl) ⟨.inr rfl, [bldV 2 (runF f n hd).length, i64 0], by kernel_rfl, 2, [], .inl rfl, by kernel_rfl⟩
end
end Go.Proofs.YtgnkjmgkfibipaaGreatDoor
