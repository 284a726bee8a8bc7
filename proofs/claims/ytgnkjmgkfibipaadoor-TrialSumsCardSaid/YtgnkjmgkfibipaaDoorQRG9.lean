/- A row that has grown behind a held cell, under its old number again. -/
import Derived.Test.YtgnkjmgkfibipaaDoorQRG7
namespace Go.R
set_option linter.unusedVariables false
set_option linter.unusedSimpArgs false
open Go Go.RowKit
noncomputable section
variable {P : Program}

theorem Runs.regrowS {k n m slot x : Nat} {c : Code} {af : AF} {Q : AExit → AF → Prop} {l : List (Nat × Value)} {sz : Nat} {os : List AObj} {cells : List Value} {ty tc : Option TypeId} {par : List Nat} (hn : os.length = n) (hk : k ≤ n) (hsz : af.sz = sz)
    (same : ∀ i o, i < n → i ≠ slot → os[i]? = some o → af.h.get i = o) (hs : slot < n) (hos : os[slot]? = some (.cells [.slice (some ⟨n, 0, some 1⟩) x x] true [] tc)) (hslot : af.h.get slot = .cells [.slice (some ⟨m, 0, some 1⟩) x x] true [] tc)
    (nopar : ∀ o ∈ os, parsOf o = []) (ismap : ∀ o ∈ os, ∃ c lv p t, o = .cells c lv p t) (clo : ∀ i o, i ≠ slot → os[i]? = some o → CloO n o) (hm : n ≤ m) (hrow : af.h.get m = .cells cells true par ty) (hpar : (par.all fun j => Nat.ble n j && !Nat.beq j m) = true) (hpl : ∀ v ∈ cells, plainV v = true)
    (tm : ∀ p ∈ l, af.tm.get p.1 = some p.2 ∧ Clo n p.2) (born : ∃ t v, af.tm.get t = some v ∧ Born slot v)
    (h : Runs P k c (sth l sz (os ++ [.cells cells true [] ty])) Q) : Runs P k c af Q := by
  have lo : (os ++ [AObj.cells cells true [] ty]).length = n + 1 := by simp [hn]
  let ρ : Nat → Nat := fun j => if j < n then j else m
  have rl : ∀ {j}, j < n → ρ j = j := fun hj => if_pos hj
  have rn : ρ n = m := if_neg (Nat.lt_irrefl n)
  have at_ : ∀ j o, (os ++ [AObj.cells cells true [] ty])[j]? = some o → (j < n ∧ os[j]? = some o) ∨ (j = n ∧ o = .cells cells true [] ty) := fun j o ho => by
    by_cases hj : j < n
    · rw [List.getElem?_append_left (by omega)] at ho; exact .inl ⟨hj, ho⟩
    · have hlt := (List.getElem?_eq_some_iff.1 ho).1
      rw [lo] at hlt
      have : j = n := by omega
      subst this
      rw [List.getElem?_append_right (by omega), hn, Nat.sub_self] at ho
      cases ho
      exact .inr ⟨rfl, rfl⟩
  refine Runs.renumT (sz := sz) (l := l) (os := os ++ [.cells cells true [] ty]) ρ hsz (by rw [lo]; omega) (fun j hj => ⟨rl (by omega), ?_⟩) (fun i j hi hj e => ?_) (fun p hp => ?_) (fun j o ho => ?_) (fun i j hi hj hne c lv p ty' hg => ?_) h
  · by_cases e : j = slot
    · subst e; exact .inr born
    · refine .inl fun o ho => ?_
      rcases at_ j o ho with ⟨h1, h2⟩ | ⟨h1, _⟩
      · exact same j o h1 e h2
      · omega
  · rw [lo] at hi hj
    by_cases h1 : i < n
    · by_cases h2 : j < n
      · rwa [rl h1, rl h2] at e
      · have : j = n := by omega
        subst this
        rw [rl h1, rn] at e
        omega
    · have : i = n := by omega
      subst this
      by_cases h2 : j < i
      · rw [rn, rl h2] at e; omega
      · omega
  · obtain ⟨h1, h2⟩ := tm p hp
    exact ⟨_, h1, Ren.clo (k := n) (by rw [lo]; omega) (fun j hj => rl hj) h2⟩
  · rcases at_ j o ho with ⟨h1, h2⟩ | ⟨rfl, rfl⟩
    · rw [rl h1]
      by_cases e : j = slot
      · subst e
        rw [hos] at h2
        cases h2
        rw [hslot]
        refine ⟨rfl, fun k u w hu hw => ?_, fun _ => rfl, rfl, .inr rfl⟩
        cases k with
        | zero => cases hu; cases hw; exact Ren.sliceU (by rw [lo]; omega) rn
        | succ k => cases hu
      · rw [same j o h1 e h2]
        obtain ⟨c, lv, p, t, rfl⟩ := ismap o (List.mem_of_getElem? h2)
        have hp : p = [] := nopar _ (List.mem_of_getElem? h2)
        subst hp
        have hc := clo j _ e h2
        exact ⟨rfl, fun k u w hu hw => by rw [hu] at hw; cases hw; exact Ren.clo (k := n) (by rw [lo]; omega) (fun j hj => rl hj) (hc.1 u (List.mem_of_getElem? hu)), fun h => h, rfl, .inr rfl⟩
    · rw [rn, hrow]
      exact RenO.row rfl hpl (fun _ => rfl) (.inr rfl)
  · rw [lo] at hi hj
    by_cases h1 : i < n
    · rw [rl h1] at hg
      by_cases e : i = slot
      · subst e; rw [hslot] at hg; cases hg; intro h; cases h
      · have ho : os[i]? = some os[i] := List.getElem?_eq_getElem (by omega)
        rw [same i os[i] h1 e ho] at hg
        have := nopar _ (List.mem_of_getElem? ho)
        rw [hg] at this
        have hp : p = [] := this
        rw [hp]; intro h; cases h
    · have : i = n := by omega
      subst this
      rw [rn, hrow] at hg
      cases hg
      intro hmem
      have := List.all_eq_true.1 hpar _ hmem
      rw [Bool.and_eq_true, Bool.not_eq_true'] at this
      have h2 : j < i := by omega
      rw [rl h2] at this
      have := Nat.le_of_ble_eq_true this.1
      omega
end
end Go.R

/- The call from where the hidden state is the heap, some of its first objects being left as they are. -/
namespace Go.R
set_option linter.unusedVariables false
set_option linter.unusedSimpArgs false
open Go Go.RowKit
noncomputable section
variable {P : Program} {σ : Type}

/-- The call from where the hidden state is the heap: each of its first objects is captured or stays. -/
theorem base_call2 {S : σ → List AObj} {P0 : σ → Prop} {m M : Nat} (hS : ∀ s, (S s).length = M) (hmM : m ≤ M) (tdS : ∀ s, ((S s).all tidyOb) = true) {ps : List Nat} (hps : ps.length ≤ 16)  (hpl : ∀ p ∈ ps, p < m)
    {os : List AObj} (hos : os.length = m) {s s1 : σ} (hall : ∀ i, i < m → i ∈ ps ∨ (hp (S s1)).get i = (hp os).get i) (h0 : ∀ i, i < M → (hp (S s)).get i = (hp os).get i) (hP : P0 s) {f : FuncId} {pre : List Value} {fid : FuncId} (pp : ∀ v ∈ pre, plainV v = true)
    (C : ∀ μ : Mp, SaysI P (Hid.base S P0 μ m ps) (hp roots) s f (pre ++ [.func (.func fid) #[] (capsAt (List.range ps.length)).toArray]) (.tuple #[]) (hp roots) s1) :
    Says P (hp os) f (pre ++ [.func (.func fid) #[] (capsAt ps).toArray]) (.tuple #[]) (hp (S s1)) := by
  intro F w0 μ w args' H hl
  have rd : ∀ {i}, i < 16 → (hp roots).get i = .dead := fun {i} hi => by have := roots_at hi []; rwa [List.append_nil] at this
  have rn : (hp roots).next = 16 := hp_next _
  have on : (hp os).next = m := by rw [hp_next, hos]
  have mdom : ∀ {i p}, μ i = some p → i < m := fun {i p} hi => by have := H.dom i p hi; rw [on] at this; exact this
  let μ1 : Mp := fun j => if j < 16 then (ps[j]?).bind μ else none
  have low : ∀ {j p}, μ1 j = some p → j < 16 := fun {j p} hj => by
    by_cases h1 : j < 16
    · exact h1
    · have : μ1 j = none := if_neg h1
      rw [this] at hj; cases hj
  have HS0 : HR F w0 μ (hp (S s)) w := by
    refine ⟨fun i p hi => by rw [hp_next, hS]; exact Nat.lt_of_lt_of_le (mdom hi) hmM, fun i b z e hi => ?_, fun i b z e hi hw => ?_, fun i j b zi ei zj ej hne hi hj => ?_, fun i c lv p ty' hi hg j hj => ?_, H.os, H.tape, H.output, H.size, H.fr⟩
    · rw [h0 i (Nat.lt_of_lt_of_le (mdom hi) hmM)]; exact H.obj i b z e hi
    · rw [h0 i (Nat.lt_of_lt_of_le (mdom hi) hmM)] at hw; exact H.own i b z e hi hw
    · rw [h0 i (Nat.lt_of_lt_of_le (mdom hi) hmM), h0 j (Nat.lt_of_lt_of_le (mdom hj) hmM)]; exact H.sep i j b zi ei zj ej hne hi hj
    · cases hm1 : μ i with
      | none => exact absurd hm1 hi
      | some p' => rw [h0 i (Nat.lt_of_lt_of_le (mdom hm1) hmM)] at hg; exact H.par i c lv p ty' hi hg j hj
  have H1 : HR F w0 μ1 (hp roots) w := by
    refine ⟨fun i p hi => by rw [rn]; exact low hi, fun i b z e hi => by rw [rd (low hi)]; trivial, fun i b z e hi hw => (by rw [rd (low hi)] at hw; cases hw), fun i j b zi ei zj ej hne hi hj => by rw [rd (low hi)]; exact .inl (by unfold share; trivial),
      fun i c l p ty hi hg j hj => ?_, H.os, H.tape, H.output, H.size, H.fr⟩
    cases hm : μ1 i with
    | none => exact absurd hm hi
    | some p' => rw [rd (low hm)] at hg; cases hg
  have W1 : With (Hid.base S P0 μ m ps) F μ1 (hp roots) s w :=
    ⟨fun b => Own μ (hp (S s)) b, ⟨fun j hj => if_pos hj, hP, μ, fun i hi => rfl, HS0.alone, fun b => Iff.rfl⟩,
      fun b ⟨i, z, e, hi, hd⟩ => HS0.own i b z e hi (tidy_wr (tidy_hp (tdS s)) (HS0.dom i _ hi) hd),
      fun i b z e hi hw => (by rw [rd (low hi)] at hw; cases hw)⟩
  have hl1 : LR μ1 (pre ++ [.func (.func fid) #[] (capsAt (List.range ps.length)).toArray]) args'.toList := by
    obtain ⟨pre', s', post', e, l1, l2, l3⟩ := lr_split hl
    rw [e]
    refine lr_join (plain_mono pp l1) ?_ (plain_mono (fun v hv => by cases hv) l3)
    obtain ⟨f', c', rfl, q1, q2⟩ := l2.func_inv
    refine VR.func_of (plain_mono (fun v hv => by cases hv) q1) ?_
    exact vr_caps (ps := ps) (qs := List.range ps.length) (by simpa using q2) (by simp) fun j p q hp hq => by
      have hlt := (List.getElem?_eq_some_iff.1 hp).1
      rw [List.getElem?_range hlt] at hq
      cases hq
      show (if j < 16 then (ps[j]?).bind μ else none) = μ p
      rw [if_pos (by omega), hp]
      rfl
  have bornAll : ∀ i, i ∈ ps → μ i ≠ none := fun i hi => by
    obtain ⟨q, hq⟩ := List.mem_iff_getElem?.1 hi
    obtain ⟨pre', s', post', e, l1, l2, l3⟩ := lr_split hl
    obtain ⟨f', c', rfl, q1, q2⟩ := l2.func_inv
    have hb : Born i (.pointer (some ⟨i, 0, none⟩)) := Born.ptr i 0
    have hk : (capsAt ps)[q]? = some (.pointer (some ⟨i, 0, none⟩)) := by
      unfold capsAt
      rw [List.getElem?_map, hq]; rfl
    obtain ⟨v', _, hv'⟩ := (show LR μ (capsAt ps) c'.toList by simpa using q2).at_ hk
    exact hb μ v' hv'
  refine (C μ F w0 μ1 w args' H1 W1 hl1).mono fun v' w' ⟨μ', hv, H', ⟨B'', ⟨_, _, μ2, hμ2, HS2, iff⟩, hF'', _⟩, E⟩ => ?_
  refine ⟨μ2, flat_any hv rfl, ⟨HS2.dom, HS2.obj, fun i b z e hi hw hf => hF'' b ((iff b).2 ⟨i, z, e, hi, fun hd => by rw [hd] at hw; cases hw⟩) hf, HS2.sep, HS2.par, H'.os, H'.tape, H'.output, H'.size, H'.fr⟩,
    ⟨fun i p hi => by rw [hμ2 i (mdom hi)]; exact hi, by rw [on, hp_next, hS]; exact hmM, fun i hi hm' => ?_⟩⟩
  rw [on] at hi
  rcases hall i hi with h | h
  · exact absurd hm' (bornAll i h)
  · exact ⟨(hμ2 i hi).trans hm', h⟩
end
end Go.R

/- Regions with told calls, some of one and the same function with other arguments. -/
namespace Go.R
set_option linter.unusedVariables false
set_option linter.unusedSimpArgs false
open Go Go.RowKit
noncomputable section
variable {P : Program}

/-- Whom the told steps call, and with what. -/
def whoL : List Via → List (FuncId × List Value)
  | [] => []
  | e :: l => match e.who with
    | some p => p :: whoL l
    | none => whoL l

theorem told_who {call : CallF} {c : Code} {af : AF} {ov : List Via} : ∀ l : List Via, (told P call c af ov l).map (fun p => (p.1, p.2.1)) = whoL l
  | [] => rfl
  | e :: l => by
    unfold told whoL
    split
    · rename_i f args hw
      simp only [hw, List.map_cons, told_who l]
    · rename_i hw
      simp only [hw, told_who l]

theorem anyOf_at2 : ∀ {S : List (FuncId × List Value × AH × Value × AH)} {base : CallF}, (S.map fun p => (p.1, p.2.1)).Pairwise (· ≠ ·) → ∀ p ∈ S, anyOf S base p.1 p.2.1 p.2.2.1 = some (p.2.2.2.1, p.2.2.2.2)
  | [], _, _, p, hp => by cases hp
  | (f0, args0, h0, v0, h1) :: S, base, ha, p, hp => by
    rw [List.map_cons, List.pairwise_cons] at ha
    show callAt f0 args0 h0 v0 h1 (anyOf S base) p.1 p.2.1 p.2.2.1 = _
    rcases List.mem_cons.1 hp with rfl | hp
    · simp only [callAt, and_self, if_true]
    · unfold callAt
      rw [if_neg (fun q => ha.1 (p.1, p.2.1) (List.mem_map_of_mem (f := fun p => (p.1, p.2.1)) hp) (by rw [q.1, q.2.1]))]
      exact anyOf_at2 ha.2 p hp

theorem opsV_opsL2 {call : CallF} {c : Code} {af : AF} {ov : List Via} (ha : (whoL ov).Pairwise (· ≠ ·)) (ob : OblV P call c af ov ov) : ∀ (m : Nat) (b : AF), opsV P call (regOps c) ov (foes ov) 0 ((regOps c).toList.take m) af = some b →
    (opsL P (anyOf (told P call c af ov ov) call) (regOps c) ((regOps c).toList.take m) af).map (·.1) = some b
  | 0, b, h => by simpa [opsV, opsL] using h
  | m + 1, b, h => by
    by_cases hm : m < (regOps c).toList.length
    · have et : (regOps c).toList.take (m + 1) = (regOps c).toList.take m ++ [(regOps c).toList[m]] := by rw [List.take_succ_eq_append_getElem hm]
      rw [et] at h ⊢
      rw [opsV_app, Nat.zero_add, List.length_take, Nat.min_eq_left (Nat.le_of_lt hm)] at h
      cases hb : opsV P call (regOps c) ov (foes ov) 0 ((regOps c).toList.take m) af with
      | none => rw [hb] at h; cases h
      | some b0 =>
        rw [hb] at h
        simp only [Option.bind_some] at h
        refine opsL_app _ _ af b0 b (opsV_opsL2 ha ob m b0 hb) ?_
        have hpre : preV P call c ov af m = b0 := by unfold preV; rw [hb]; rfl
        have hop : opAt c m = (regOps c).toList[m] := by
          unfold opAt
          rw [Array.getD_eq_getD_getElem?, ← Array.getElem?_toList, List.getElem?_eq_getElem hm]
          rfl
        generalize ho : (regOps c).toList[m] = o at h hop ⊢
        simp only [opsV] at h
        simp only [opsL]
        cases hw : wantedA (regOps c) b0.tm o with
        | none => rw [hw] at h; cases h
        | some w =>
          rw [hw] at h
          cases w with
          | false =>
            simp only [Option.some.injEq] at h
            simp only [Option.map_some, h]
          | true =>
            simp only at h ⊢
            have fin : ∀ v h', stepA P (anyOf (told P call c af ov ov) call) (evalA b0.tm) o.op b0.h = some (v, h') → b0.put o.dst v h' = b →
                Option.map (·.1) (match stepA P (anyOf (told P call c af ov ov) call) (evalA b0.tm) o.op b0.h with
                  | some (v, h) => some (b0.put o.dst v h, [b0, b0.put o.dst v h])
                  | none => none) = some b := by
              intro v h' e1 e2
              rw [e1]
              simp only [Option.map_some, e2]
            cases hv : viaAt ov m with
            | some e =>
              rw [hv] at h
              simp only [Option.some.injEq] at h
              obtain ⟨hmem, hno⟩ := viaAt_mem hv
              have hs := oblV_at ob e hmem
              rw [hno, hpre, hop] at hs
              refine fin e.v (hOr b0.h e.h) ?_ h
              unfold Shown at hs
              cases hwho : e.who with
              | none =>
                rw [hwho] at hs
                unfold stepA
                rw [hs.1]
                exact hs.2
              | some p =>
                obtain ⟨f, args⟩ := p
                rw [hwho] at hs
                obtain ⟨⟨cc, q1, q2⟩, _⟩ := hs
                have hmt := told_mem (P := P) (call := call) (c := c) (af := af) (ov := ov) hmem hwho
                rw [hno, hpre] at hmt
                have := anyOf_at2 (S := told P call c af ov ov) (base := call) (by rw [told_who]; exact ha) _ hmt
                unfold stepA
                rw [q1]
                simp only [q2]
                exact this
            | none =>
              rw [hv] at h
              simp only at h
              cases hcl : clear (foes ov) (evalA b0.tm) o.op with
              | false => rw [hcl] at h; cases h
              | true =>
                rw [hcl] at h
                simp only at h
                cases hst : stepA P call (evalA b0.tm) o.op b0.h with
                | none => rw [hst] at h; cases h
                | some r =>
                  obtain ⟨v, h'⟩ := r
                  rw [hst] at h
                  simp only [Option.some.injEq] at h
                  refine fin v h' ?_ h
                  rw [← hst]
                  unfold stepA
                  unfold clear at hcl
                  cases hco : callOp? o.op with
                  | none => rfl
                  | some cc =>
                    rw [hco] at hcl
                    simp only at hcl ⊢
                    cases hce : callee? (evalA b0.tm) cc with
                    | none => rfl
                    | some q =>
                      obtain ⟨f, args⟩ := q
                      rw [hce] at hcl
                      simp only at hcl ⊢
                      exact anyOf_other (by rw [told_ids]; exact notIn_mem hcl)
    · have et : ∀ j, (regOps c).toList.length ≤ j → (regOps c).toList.take j = (regOps c).toList := fun j hj => List.take_of_length_le hj
      rw [et (m + 1) (by omega), ← et m (by omega)] at h ⊢
      exact opsV_opsL2 ha ob m b h


theorem Runs.rg2 (hm : P.follows .mixedOrders = true) {call : CallF} (hc : CallOk P call) {k : Nat} {c : Code} {af : AF} {Q : AExit → AF → Prop} (ov : List Via) (hk : Nat.ble k af.h.next = true)
    (hg : regGood P c = true) (hw : (whoL ov).Pairwise (· ≠ ·)) (hs : (endV P call c ov af).isSome = true) (ob : OblV P call c af ov ov) (q : Q .normal (aftV P call c ov af)) : Runs P k c af Q := by
  have hle := Nat.le_of_ble_eq_true hk
  have hend : endV P call c ov af = some (aftV P call c ov af) := by
    unfold aftV
    cases h : endV P call c ov af with
    | none => rw [h] at hs; cases hs
    | some b => rfl
  have hL : (opsL P (anyOf (told P call c af ov ov) call) (regOps c) (regOps c).toList af).map (·.1) = some (aftV P call c ov af) := by
    have := opsV_opsL2 hw ob (regOps c).toList.length (aftV P call c ov af)
    rw [List.take_length] at this
    exact this hend
  have hcall := anyOf_ok hc (told_says ob)
  cases c with
  | region id ops dr =>
    cases dr with
    | false => exact Runs.regionL hm hcall hle hL q
    | true =>
      have h1 := hg
      simp only [regGood, Bool.and_eq_true, List.isEmpty_iff] at h1
      exact Runs.regionD0 hm hcall hle hL h1.1 h1.2 q
  | _ => cases hg


theorem Runs.sqR2 (hm : P.follows .mixedOrders = true) {call : CallF} (hc : CallOk P call) {k : Nat} {c : Code} {af : AF} {Q : AExit → AF → Prop} (ov : List Via) (hk : Nat.ble k af.h.next = true)
    (hg : (isSeq c && regGood P (hd c)) = true) (hw : (whoL ov).Pairwise (· ≠ ·)) (hs : (endV P call (hd c) ov af).isSome = true) (ob : OblV P call (hd c) af ov ov) (q : Runs P k (tl c) (aftV P call (hd c) ov af) Q) : Runs P k c af Q := by
  rw [Bool.and_eq_true] at hg
  exact Runs.sq hg.1 (Runs.rg2 hm hc ov hk hg.2 hw hs ob q)
end
end Go.R
