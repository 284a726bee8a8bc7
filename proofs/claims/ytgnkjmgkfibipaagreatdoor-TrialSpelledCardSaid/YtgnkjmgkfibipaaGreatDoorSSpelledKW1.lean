/- Words: cuts, letters, strings.HasPrefix, strings.Contains and strings.Trim with the letters b and s. -/
import Derived.Test.YtgnkjmgkfibipaaGreatDoorSSpelledKPrvA
namespace Go.Proofs.YtgnkjmgkfibipaaGreatDoor
set_option linter.unusedVariables false
set_option linter.unusedSimpArgs false
open Go Go.R
set_option maxRecDepth 1000000
noncomputable section

/-! ### Strings -/
def bl (w : ByteArray) : List UInt8 := w.data.toList
theorem bl_len (w : ByteArray) : (bl w).length = w.size := rfl
theorem bl_toList (w : ByteArray) : w.toList = bl w := ByteArray.toList_eq w
def byteN (w : ByteArray) (i : Nat) : Nat := ((bl w).getD i 0).toNat
theorem byteN_lt (w : ByteArray) (i : Nat) : byteN w i < 256 := UInt8.toNat_lt _
theorem str_at {w : ByteArray} {i : Nat} (h : i < w.size) : w[i]? = some ((bl w).getD i 0) := by
  have h' : i < w.data.toList.length := h
  have e : w[i]? = w.data[i]? := by rfl
  rw [e, ← Array.getElem?_toList, List.getElem?_eq_getElem h']
  unfold bl
  rw [List.getD_eq_getElem?_getD, List.getElem?_eq_getElem h']
  rfl
theorem und9 : Tryz.prog.underlying 9 = some .string := by kernel_rfl
theorem index_str {w : ByteArray} {i : Nat} (h : i < w.size) : indexA Tryz.prog 9 (.string w) (i64 i) = some (.int .u8 (.ofNat (byteN w i))) := by
  unfold indexA i64
  simp only [und9]
  rw [if_pos (show (0 : Int) ≤ Int.ofNat i from Int.natCast_nonneg i)]
  show (match w[i]? with | some b => some (Value.int .u8 b.toNat) | none => none) = _
  rw [str_at h]
  rfl
theorem bound_nat {k cap : Nat} (d : Nat) (h : k ≤ cap) : boundA (some (i64 k)) d cap = some k := by
  unfold boundA i64
  simp only
  rw [if_pos ⟨Int.natCast_nonneg k, Int.ofNat_le.2 h⟩]
  rfl
theorem cut_hi {w : ByteArray} {k : Nat} (h : k ≤ w.size) : sliceA Tryz.prog 9 (.string w) none (some (i64 k)) none = some (.string (w.extract 0 k)) := by
  unfold sliceA boundsA
  have e : boundA none w.size w.size = some w.size := rfl
  have e0 : boundA none 0 k = some 0 := rfl
  simp only [und9, e, e0, bound_nat _ h, if_pos h]
theorem cut_lo {w : ByteArray} {k : Nat} (h : k ≤ w.size) : sliceA Tryz.prog 9 (.string w) (some (i64 k)) none none = some (.string (w.extract k w.size)) := by
  unfold sliceA boundsA
  have e : boundA none w.size w.size = some w.size := rfl
  simp only [und9, e, bound_nat _ h, Nat.le_refl, if_true]
theorem cut_both {w : ByteArray} {i k : Nat} (h : i ≤ k) (h' : k ≤ w.size) : sliceA Tryz.prog 9 (.string w) (some (i64 i)) (some (i64 k)) none = some (.string (w.extract i k)) := by
  unfold sliceA boundsA
  have e : boundA none w.size w.size = some w.size := rfl
  simp only [und9, e, bound_nat _ h', bound_nat _ h, if_pos h']
theorem bl_cut (w : ByteArray) (i k : Nat) : bl (w.extract i k) = ((bl w).drop i).take (k - i) := by
  unfold bl
  rw [ByteArray.data_extract, Array.toList_extract]
theorem size_cut {w : ByteArray} {i k : Nat} (h : k ≤ w.size) : (w.extract i k).size = k - i := by
  rw [← bl_len, bl_cut, List.length_take, List.length_drop, bl_len]
  omega

/-! ### Told steps on strings -/
theorem shown_byte {a : AF} {o : Oper} {j i : Nat} {w : ByteArray} (hc : callOp? o.op = none) (h : opA Tryz.prog (evalA a.tm) o.op a.h = (indexA Tryz.prog 9 (.string w) (i64 i)).map (·, a.h)) (hi : i < w.size) :
    Shown Tryz.prog a o (viaV j (.int .u8 (.ofNat (byteN w i)))) := ⟨hc, h.trans (by rw [index_str hi]; rfl)⟩
theorem shown_cutHi {a : AF} {o : Oper} {j k : Nat} {w : ByteArray} (hc : callOp? o.op = none) (h : opA Tryz.prog (evalA a.tm) o.op a.h = (sliceA Tryz.prog 9 (.string w) none (some (i64 k)) none).map (·, a.h)) (hk : k ≤ w.size) :
    Shown Tryz.prog a o (viaV j (.string (w.extract 0 k))) := ⟨hc, h.trans (by rw [cut_hi hk]; rfl)⟩
theorem shown_cutLo {a : AF} {o : Oper} {j k : Nat} {w : ByteArray} (hc : callOp? o.op = none) (h : opA Tryz.prog (evalA a.tm) o.op a.h = (sliceA Tryz.prog 9 (.string w) (some (i64 k)) none none).map (·, a.h)) (hk : k ≤ w.size) :
    Shown Tryz.prog a o (viaV j (.string (w.extract k w.size))) := ⟨hc, h.trans (by rw [cut_lo hk]; rfl)⟩
/-! ### HasPrefix -/
def prefB (a b : ByteArray) : Bool := (bl b).isPrefixOf (bl a)
theorem pref_eq {a b : ByteArray} : (leF (.ofNat b.size) (.ofNat a.size) && ((a.extract 0 b.size).toList == b.toList)) = prefB a b := by
  rw [bl_toList, bl_toList, bl_cut, List.drop_zero, Nat.sub_zero, Bool.eq_iff_iff, Bool.and_eq_true, leF_eq, decide_eq_true_eq, beq_iff_eq]
  unfold prefB
  rw [List.isPrefixOf_iff_prefix, List.prefix_iff_eq_take, bl_len]
  constructor
  · exact fun h => h.2.symm
  · intro h
    refine ⟨?_, h.symm⟩
    have := congrArg List.length h
    rw [List.length_take, bl_len, bl_len] at this
    show ((b.size : Nat) : Int) ≤ ((a.size : Nat) : Int)
    omega
noncomputable def c49 : Code := bodyOf Tryz.f25
noncomputable def c101 : Code := bodyOf Tryz.f61
theorem strs_plain {a b : ByteArray} : ∀ v ∈ [Value.string a, .string b], plainV v = true := fun v hv => by
  rcases List.mem_cons.1 hv with rfl | hv
  · rfl
  · rw [List.mem_singleton.1 hv]; rfl
theorem begins_local (a b : ByteArray) : Local Tryz.prog 0 61 [.string a, .string b] AH.empty fun v' _ => v' = .bool (prefB a b) := by
  refine local_of noNum Tryz.func61 (show Tryz.f61.body = some c101 by kernel_rfl) ?_
  refine Runs.sqR mixed hk38 [] (by kernel_rfl) (by kernel_rfl) (by kernel_rfl) oblN ?_
  cases hle : leF (.ofNat b.size) (.ofNat a.size) with
  | false =>
    refine Runs.sqR mixed hk38 [viaV 4 (.bool false)] (by kernel_rfl) (by kernel_rfl) (by kernel_rfl) (oblC (shown_eq (v := .bool (leF (.ofNat b.size) (.ofNat a.size))) (by kernel_rfl) (by kernel_rfl) (by rw [hle])) oblN) ?_
    exact Runs.now (x := .ret) (by kernel_rfl) ⟨.inr rfl, [.bool false], by kernel_rfl, by rw [← pref_eq, hle]; rfl⟩
  | true =>
    have hs : b.size ≤ a.size := by
      rw [leF_eq, decide_eq_true_eq] at hle
      exact Int.ofNat_le.1 hle
    refine Runs.sqR mixed hk38 [viaV 4 (.bool true), viaV 9 (.string (a.extract 0 b.size)), viaV 11 (.bool (prefB a b))] (by kernel_rfl) (by kernel_rfl) (by kernel_rfl)
      (oblC (shown_eq (v := .bool (leF (.ofNat b.size) (.ofNat a.size))) (by kernel_rfl) (by kernel_rfl) (by rw [hle]))
      (oblC (shown_cutHi (w := a) (by kernel_rfl) (by kernel_rfl) hs)
      (oblC (shown_eq (v := .bool ((a.extract 0 b.size).toList == b.toList)) (by kernel_rfl) (by kernel_rfl) (by rw [← pref_eq, hle]; rfl)) oblN))) ?_
    exact Runs.now (x := .ret) (by kernel_rfl) ⟨.inr rfl, [.bool (prefB a b)], by kernel_rfl, rfl⟩
theorem prefix_local (a b : ByteArray) : Local Tryz.prog 0 25 [.string a, .string b] AH.empty fun v' _ => v' = .bool (prefB a b) := by
  refine local_of noNum Tryz.func25 (show Tryz.f25.body = some c49 by kernel_rfl) ?_
  refine Runs.sqR mixed hk38 [] (by kernel_rfl) (by kernel_rfl) (by kernel_rfl) oblN ?_
  have hS : Says Tryz.prog AH.empty 61 [.string a, .string b] (.bool (prefB a b)) AH.empty := fun F w0 μ w args' H hl => (begins_local a b).closed strs_plain rfl AH.empty H hl
  refine Runs.sqR mixed hk38 [viaC 2 61 [.string a, .string b] (.bool (prefB a b))] (by kernel_rfl) (by kernel_rfl) (by kernel_rfl) (oblC (shown_callE (by kernel_rfl) (by kernel_rfl) hS) oblN) ?_
  exact Runs.now (x := .ret) (by kernel_rfl) ⟨.inr rfl, [.bool (prefB a b)], by kernel_rfl, rfl⟩
theorem prefix_says (a b : ByteArray) (h : AH) : Says Tryz.prog h 25 [.string a, .string b] (.bool (prefB a b)) h := fun F w0 μ w args' H hl =>
  (prefix_local a b).closed strs_plain rfl h H hl
end
end Go.Proofs.YtgnkjmgkfibipaaGreatDoor

/- Words: strings.Trim with the letters b and s; strings.Contains of one letter. -/
namespace Go.Proofs.YtgnkjmgkfibipaaGreatDoor
set_option linter.unusedVariables false
set_option linter.unusedSimpArgs false
open Go Go.R
set_option maxRecDepth 1000000
noncomputable section

/-! ### The set of letters -/
def isBS (c : Nat) : Bool := Nat.beq c 98 || Nat.beq c 115
noncomputable def ascV : List Value := (List.range 256).map fun c => .bool (isBS c)
noncomputable def ascO : AObj := .cells ascV true [] (some 126)
theorem ascV_len : ascV.length = 256 := by unfold ascV; rw [List.length_map, List.length_range]
theorem ascV_plain : ∀ v ∈ ascV, plainV v = true := fun v hv => by
  obtain ⟨i, _, rfl⟩ := List.mem_map.1 hv; rfl
theorem asc_clo : ∀ o ∈ [ascO], CloO 1 o := fun o ho => by rw [List.mem_singleton.1 ho]; exact cloO_plain ascV_plain _ _
theorem asc_at {h : AH} {c : Nat} {lv : Bool} {par : List Nat} {ty : Option TypeId} (hg : h.get 0 = .cells ascV lv par ty) (hc : c < 256) : rowAt? h 0 (0 + c * 1) 1 = some [.bool (isBS c)] := by
  rw [row_at hg (by rw [ascV_len]; omega), Nat.zero_add, Nat.mul_one]
  have : ascV[c]? = some (.bool (isBS c)) := by
    unfold ascV
    rw [List.getElem?_map, List.getElem?_range hc]
    rfl
  rw [List.take_one, List.head?_drop, this]
  rfl
theorem asc_idx {c : Nat} (hc : c < 256) : indexAddrA Tryz.prog 126 (ptrC 0) (.int .u8 (.ofNat c)) = some (.pointer (some ⟨0, 0 + c * 1, none⟩)) := by
  have e1 : Tryz.prog.underlying 126 = some (.array 256 4) := by kernel_rfl
  obtain ⟨info, e2, e3⟩ : ∃ info, Tryz.prog.info? 4 = some info ∧ info.size = 1 := ⟨_, rfl, by kernel_rfl⟩
  unfold indexAddrA ptrC
  simp only [e1, e2, e3]
  rw [if_pos ⟨Int.natCast_nonneg c, Int.ofNat_lt.2 hc⟩]
  rfl
noncomputable def c142 : Code := bodyOf Tryz.f120
theorem asc_says {c : Nat} (hc : c < 256) : Says Tryz.prog (hp [ascO]) 120 [ptrC 0, .int .u8 (.ofNat c)] (.bool (isBS c)) (hp [ascO]) := by
  refine says_of (os := [ascO]) ?_ (fun x hx => ?_) asc_clo (clo_plain rfl)
  · refine local_of noNum Tryz.func120 (show Tryz.f120.body = some c142 by kernel_rfl) ?_
    refine Runs.sqR mixed hk38 [] (by kernel_rfl) (by kernel_rfl) (by kernel_rfl) oblN ?_
    refine Runs.sqR mixed hk38 [viaV 3 (.pointer (some ⟨0, 0 + c * 1, none⟩)), viaV 4 (.bool (isBS c))] (by kernel_rfl) (by kernel_rfl) (by kernel_rfl)
      (oblC ⟨by kernel_rfl, (show _ = (indexAddrA Tryz.prog 126 (ptrC 0) (.int .u8 (.ofNat c))).map (·, hp [ascO]) by kernel_rfl).trans (by rw [asc_idx hc]; rfl)⟩ (oblC (shown_cell (g := 0) (by kernel_rfl) (asc_at (lv := true) (par := []) (ty := some 126) (by kernel_rfl) hc)) oblN)) ?_
    exact Runs.now (x := .ret) (by kernel_rfl) ⟨.inr rfl, [.bool (isBS c)], by kernel_rfl, rfl, keepOf (by kernel_rfl)⟩
  · simp only [List.mem_cons, List.mem_nil_iff, or_false] at hx
    rcases hx with rfl | rfl
    · exact clo_of 10 1 _ (by kernel_rfl)
    · exact clo_plain rfl

/-! ### From the right, from the left -/
def trimR : Nat → ByteArray → ByteArray
  | 0, w => w
  | k + 1, w => if w.size = 0 then w else if isBS (byteN w (w.size - 1)) then trimR k (w.extract 0 (w.size - 1)) else w
def trimL : Nat → ByteArray → ByteArray
  | 0, w => w
  | k + 1, w => if w.size = 0 then w else if isBS (byteN w 0) then trimL k (w.extract 1 w.size) else w
noncomputable def c133 : Code := bodyOf Tryz.f109
noncomputable def c132 : Code := bodyOf Tryz.f108
noncomputable def lp133 : Code := within (hd (tl c133))
noncomputable def lp132 : Code := within (hd (tl c132))
noncomputable def S133 (w : ByteArray) : List (Nat × Value) := [(0, .string w), (1, ptrC 0)]
theorem S133_clo (w : ByteArray) : ∀ p ∈ S133 w, Clo 1 p.2 := fun p hp => by
  simp only [S133, List.mem_cons, List.mem_nil_iff, or_false] at hp
  rcases hp with rfl | rfl
  · exact clo_plain rfl
  · exact clo_of 10 1 _ (by kernel_rfl)
theorem strV_lt {w : ByteArray} (h : 0 < w.size) : ltF 0 (.ofNat w.size) = true := ltF_iff.2 (show (0 : Int) < ((w.size : Nat) : Int) by omega)
theorem strV_no {w : ByteArray} (h : w.size = 0) : ltF 0 (.ofNat w.size) = false := by rw [h]; rfl

theorem right_loop : ∀ (k : Nat) (w : ByteArray), w.size ≤ k → w.size < 1000000 → Runs Tryz.prog 1 lp133 (sth (S133 w) 22 [ascO]) fun x af => x = .exit 0 ∧ Less 1 (sth (S133 (trimR k w)) 22 [ascO]) af := by
  have stop : ∀ w : ByteArray, w.size = 0 → Runs Tryz.prog 1 lp133 (sth (S133 w) 22 [ascO]) fun x af => x = .exit 0 ∧ Less 1 (sth (S133 w) 22 [ascO]) af := fun w h0 => by
    refine Runs.lp (by kernel_rfl) (Runs.sq (by kernel_rfl) (Runs.sqR mixed hk38 [viaV 2 (.bool false)] (by kernel_rfl) (by kernel_rfl) (by kernel_rfl)
      (oblC (shown_eq (v := .bool (ltF 0 (.ofNat w.size))) (by kernel_rfl) (by kernel_rfl) (by rw [strV_no h0])) oblN) ?_))
    refine Runs.cd (b := false) (by kernel_rfl) (fun h => by cases h) (fun _ => Runs.now (x := .exit 0) (by kernel_rfl) ⟨rfl, ?_⟩)
    exact less_seenP (S133_clo w) asc_clo (Nat.le_refl 1) (by kernel_rfl) (by kernel_rfl) (by kernel_rfl) (by kernel_rfl)
  intro k
  induction k with
  | zero => exact fun w h _ => stop w (by omega)
  | succ k ih =>
    intro w hk hw
    rw [trimR]
    by_cases h0 : w.size = 0
    · rw [if_pos h0]; exact stop w h0
    · rw [if_neg h0]
      have hc := byteN_lt w (w.size - 1)
      have hpos : 0 < w.size := by omega
      refine Runs.lp (by kernel_rfl) (Runs.sq (by kernel_rfl) (Runs.sqR mixed hk38 [viaV 2 (.bool true)] (by kernel_rfl) (by kernel_rfl) (by kernel_rfl)
        (oblC (shown_eq (v := .bool (ltF 0 (.ofNat w.size))) (by kernel_rfl) (by kernel_rfl) (by rw [strV_lt hpos])) oblN) ?_))
      refine Runs.cd (b := true) (by kernel_rfl) (fun _ => Runs.now (x := .normal) (by kernel_rfl) ?_) (fun h => by cases h)
      show Runs Tryz.prog 1 _ _ _
      have m1 : Value.int .i64 (wrapF .i64 (Int.sub (.ofNat w.size) (.ofNat 1))) = i64 (w.size - 1) := by rw [f_sub (by omega) (by omega)]; rfl
      refine Runs.bk (id := 1) (by kernel_rfl) (Runs.sq (by kernel_rfl) ?_)
      refine Runs.sqR mixed hk38 [viaV 4 (i64 (w.size - 1)), viaV 5 (.int .u8 (.ofNat (byteN w (w.size - 1)))), viaC 6 120 [ptrC 0, .int .u8 (.ofNat (byteN w (w.size - 1)))] (.bool (isBS (byteN w (w.size - 1))))] (by kernel_rfl) (by kernel_rfl) (by kernel_rfl)
        (oblC (shown_eq (v := .int .i64 (wrapF .i64 (Int.sub (.ofNat w.size) (.ofNat 1)))) (by kernel_rfl) (by kernel_rfl) m1)
        (oblC (shown_byte (w := w) (by kernel_rfl) (by kernel_rfl) (by omega))
        (oblC (shown_callE (h0 := hp [ascO]) (by kernel_rfl) (by kernel_rfl) (asc_says hc)) oblN))) ?_
      cases hb : isBS (byteN w (w.size - 1)) with
      | false =>
        rw [if_neg (by simp)]
        refine Runs.cd (b := true) (by kernel_rfl) (fun _ => Runs.now (x := .exit 0) (by kernel_rfl) ⟨rfl, ?_⟩) (fun h => by cases h)
        exact less_seenP (S133_clo w) asc_clo (Nat.le_refl 1) (by kernel_rfl) (by kernel_rfl) (by kernel_rfl) (by kernel_rfl)
      | true =>
        rw [if_pos rfl]
        refine Runs.cd (b := false) (by kernel_rfl) (fun h => by cases h) (fun _ => Runs.now (x := .normal) (by kernel_rfl) ?_)
        show Runs Tryz.prog 1 _ _ _
        refine Runs.rg mixed hk38 [viaV 3 (i64 (w.size - 1)), viaV 4 (.string (w.extract 0 (w.size - 1)))] (by kernel_rfl) (by kernel_rfl) (by kernel_rfl)
          (oblC (shown_eq (v := .int .i64 (wrapF .i64 (Int.sub (.ofNat w.size) (.ofNat 1)))) (by kernel_rfl) (by kernel_rfl) m1)
          (oblC (shown_cutHi (w := w) (by kernel_rfl) (by kernel_rfl) (by omega)) oblN)) ?_
        show Runs Tryz.prog 1 lp133 _ _
        have hs : (w.extract 0 (w.size - 1)).size = w.size - 1 := size_cut (by omega)
        refine Runs.less (af1 := sth (S133 (w.extract 0 (w.size - 1))) 22 [ascO]) (less_seenP (S133_clo _) asc_clo (Nat.le_refl 1) (by kernel_rfl) (by kernel_rfl) (by kernel_rfl) (by kernel_rfl)) (ih _ (by omega) (by omega))

theorem right_says (w : ByteArray) (hw : w.size < 1000000) : Says Tryz.prog (hp [ascO]) 109 [.string w, ptrC 0] (.string (trimR w.size w)) (hp [ascO]) := by
  refine says_of (os := [ascO]) ?_ (fun x hx => ?_) asc_clo (clo_plain rfl)
  · refine local_of noNum Tryz.func109 (show Tryz.f109.body = some c133 by kernel_rfl) ?_
    refine Runs.sqR mixed hk38 [] (by kernel_rfl) (by kernel_rfl) (by kernel_rfl) oblN ?_
    refine Runs.sq (by kernel_rfl) (Runs.bk (id := 0) (by kernel_rfl) ?_)
    refine Runs.less (af1 := sth (S133 w) 22 [ascO]) (less_seenP (S133_clo w) asc_clo (Nat.le_refl 1) (by kernel_rfl) (by kernel_rfl) (by kernel_rfl) (by kernel_rfl)) ?_
    refine (right_loop w.size w (Nat.le_refl _) hw).mono fun x af hx => ?_
    obtain ⟨rfl, less⟩ := hx
    show Runs Tryz.prog 1 _ af _
    refine Runs.less less (Runs.sqR mixed hk38 [] (by kernel_rfl) (by kernel_rfl) (by kernel_rfl) oblN ?_)
    exact Runs.now (x := .ret) (by kernel_rfl) ⟨.inr rfl, [.string (trimR w.size w)], by kernel_rfl, rfl, keepOf (by kernel_rfl)⟩
  · simp only [List.mem_cons, List.mem_nil_iff, or_false] at hx
    rcases hx with rfl | rfl
    · exact clo_plain rfl
    · exact clo_of 10 1 _ (by kernel_rfl)

theorem left_loop : ∀ (k : Nat) (w : ByteArray), w.size ≤ k → w.size < 1000000 → Runs Tryz.prog 1 lp132 (sth (S133 w) 16 [ascO]) fun x af => x = .exit 0 ∧ Less 1 (sth (S133 (trimL k w)) 16 [ascO]) af := by
  have stop : ∀ w : ByteArray, w.size = 0 → Runs Tryz.prog 1 lp132 (sth (S133 w) 16 [ascO]) fun x af => x = .exit 0 ∧ Less 1 (sth (S133 w) 16 [ascO]) af := fun w h0 => by
    refine Runs.lp (by kernel_rfl) (Runs.sq (by kernel_rfl) (Runs.sqR mixed hk38 [viaV 2 (.bool false)] (by kernel_rfl) (by kernel_rfl) (by kernel_rfl)
      (oblC (shown_eq (v := .bool (ltF 0 (.ofNat w.size))) (by kernel_rfl) (by kernel_rfl) (by rw [strV_no h0])) oblN) ?_))
    refine Runs.cd (b := false) (by kernel_rfl) (fun h => by cases h) (fun _ => Runs.now (x := .exit 0) (by kernel_rfl) ⟨rfl, ?_⟩)
    exact less_seenP (S133_clo w) asc_clo (Nat.le_refl 1) (by kernel_rfl) (by kernel_rfl) (by kernel_rfl) (by kernel_rfl)
  intro k
  induction k with
  | zero => exact fun w h _ => stop w (by omega)
  | succ k ih =>
    intro w hk hw
    rw [trimL]
    by_cases h0 : w.size = 0
    · rw [if_pos h0]; exact stop w h0
    · rw [if_neg h0]
      have hc := byteN_lt w 0
      have hpos : 0 < w.size := by omega
      refine Runs.lp (by kernel_rfl) (Runs.sq (by kernel_rfl) (Runs.sqR mixed hk38 [viaV 2 (.bool true)] (by kernel_rfl) (by kernel_rfl) (by kernel_rfl)
        (oblC (shown_eq (v := .bool (ltF 0 (.ofNat w.size))) (by kernel_rfl) (by kernel_rfl) (by rw [strV_lt hpos])) oblN) ?_))
      refine Runs.cd (b := true) (by kernel_rfl) (fun _ => Runs.now (x := .normal) (by kernel_rfl) ?_) (fun h => by cases h)
      show Runs Tryz.prog 1 _ _ _
      refine Runs.bk (id := 1) (by kernel_rfl) (Runs.sq (by kernel_rfl) ?_)
      refine Runs.sqR mixed hk38 [viaV 2 (.int .u8 (.ofNat (byteN w 0))), viaC 3 120 [ptrC 0, .int .u8 (.ofNat (byteN w 0))] (.bool (isBS (byteN w 0)))] (by kernel_rfl) (by kernel_rfl) (by kernel_rfl)
        (oblC (shown_byte (w := w) (i := 0) (by kernel_rfl) (by kernel_rfl) hpos)
        (oblC (shown_callE (h0 := hp [ascO]) (by kernel_rfl) (by kernel_rfl) (asc_says hc)) oblN)) ?_
      cases hb : isBS (byteN w 0) with
      | false =>
        rw [if_neg (by simp)]
        refine Runs.cd (b := true) (by kernel_rfl) (fun _ => Runs.now (x := .exit 0) (by kernel_rfl) ⟨rfl, ?_⟩) (fun h => by cases h)
        exact less_seenP (S133_clo w) asc_clo (Nat.le_refl 1) (by kernel_rfl) (by kernel_rfl) (by kernel_rfl) (by kernel_rfl)
      | true =>
        rw [if_pos rfl]
        refine Runs.cd (b := false) (by kernel_rfl) (fun h => by cases h) (fun _ => Runs.now (x := .normal) (by kernel_rfl) ?_)
        show Runs Tryz.prog 1 _ _ _
        refine Runs.rg mixed hk38 [viaV 1 (.string (w.extract 1 w.size))] (by kernel_rfl) (by kernel_rfl) (by kernel_rfl)
          (oblC (shown_cutLo (w := w) (k := 1) (by kernel_rfl) (by kernel_rfl) hpos) oblN) ?_
        show Runs Tryz.prog 1 lp132 _ _
        have hs : (w.extract 1 w.size).size = w.size - 1 := size_cut (Nat.le_refl _)
        refine Runs.less (af1 := sth (S133 (w.extract 1 w.size)) 16 [ascO]) (less_seenP (S133_clo _) asc_clo (Nat.le_refl 1) (by kernel_rfl) (by kernel_rfl) (by kernel_rfl) (by kernel_rfl)) (ih _ (by omega) (by omega))

theorem left_says (w : ByteArray) (hw : w.size < 1000000) : Says Tryz.prog (hp [ascO]) 108 [.string w, ptrC 0] (.string (trimL w.size w)) (hp [ascO]) := by
  refine says_of (os := [ascO]) ?_ (fun x hx => ?_) asc_clo (clo_plain rfl)
  · refine local_of noNum Tryz.func108 (show Tryz.f108.body = some c132 by kernel_rfl) ?_
    refine Runs.sqR mixed hk38 [] (by kernel_rfl) (by kernel_rfl) (by kernel_rfl) oblN ?_
    refine Runs.sq (by kernel_rfl) (Runs.bk (id := 0) (by kernel_rfl) ?_)
    refine Runs.less (af1 := sth (S133 w) 16 [ascO]) (less_seenP (S133_clo w) asc_clo (Nat.le_refl 1) (by kernel_rfl) (by kernel_rfl) (by kernel_rfl) (by kernel_rfl)) ?_
    refine (left_loop w.size w (Nat.le_refl _) hw).mono fun x af hx => ?_
    obtain ⟨rfl, less⟩ := hx
    show Runs Tryz.prog 1 _ af _
    refine Runs.less less (Runs.sqR mixed hk38 [] (by kernel_rfl) (by kernel_rfl) (by kernel_rfl) oblN ?_)
    exact Runs.now (x := .ret) (by kernel_rfl) ⟨.inr rfl, [.string (trimL w.size w)], by kernel_rfl, rfl, keepOf (by kernel_rfl)⟩
  · simp only [List.mem_cons, List.mem_nil_iff, or_false] at hx
    rcases hx with rfl | rfl
    · exact clo_plain rfl
    · exact clo_of 10 1 _ (by kernel_rfl)

/-! ### What is left is empty just if all letters are these -/
def allBS (w : ByteArray) : Bool := (bl w).all fun c => isBS c.toNat
theorem trimR_size : ∀ (k : Nat) (w : ByteArray), (trimR k w).size ≤ w.size
  | 0, w => Nat.le_refl _
  | k + 1, w => by
    rw [trimR]
    split
    · exact Nat.le_refl _
    · split
      · have := trimR_size k (w.extract 0 (w.size - 1))
        rw [size_cut (by omega)] at this
        omega
      · exact Nat.le_refl _
theorem all_last {w : ByteArray} (h : w.size ≠ 0) : allBS w = (allBS (w.extract 0 (w.size - 1)) && isBS (byteN w (w.size - 1))) := by
  have hl : w.size - 1 < (bl w).length := by rw [bl_len]; omega
  have e : bl w = (bl w).take (w.size - 1) ++ [(bl w).getD (w.size - 1) 0] := by
    have h1 := List.take_append_drop (w.size - 1) (bl w)
    rw [List.drop_eq_getElem_cons hl, List.drop_of_length_le (by rw [bl_len]; omega)] at h1
    rw [List.getD_eq_getElem?_getD, List.getElem?_eq_getElem hl]
    exact h1.symm
  unfold allBS byteN
  rw [bl_cut, List.drop_zero, Nat.sub_zero]
  conv => lhs; rw [e]
  rw [List.all_append, List.all_cons, List.all_nil, Bool.and_true]
theorem all_first {w : ByteArray} (h : w.size ≠ 0) : allBS w = (isBS (byteN w 0) && allBS (w.extract 1 w.size)) := by
  unfold allBS byteN
  rw [bl_cut]
  have hl : 0 < (bl w).length := by rw [bl_len]; omega
  cases hb : bl w with
  | nil => rw [hb] at hl; cases hl
  | cons x l =>
    have : w.size = l.length + 1 := by rw [← bl_len, hb]; rfl
    rw [this, Nat.add_sub_cancel, List.drop_one, List.tail_cons, List.take_of_length_le (Nat.le_refl _), List.all_cons]
    rfl
theorem trimR_all : ∀ (k : Nat) (w : ByteArray), w.size ≤ k → ((trimR k w).size = 0 ↔ allBS w = true) ∧ ((trimR k w).size ≠ 0 → isBS (byteN (trimR k w) ((trimR k w).size - 1)) = false)
  | 0, w, h => by
    have : bl w = [] := List.eq_nil_of_length_eq_zero (by rw [bl_len]; omega)
    refine ⟨⟨fun _ => by unfold allBS; rw [this]; rfl, fun _ => by show w.size = 0; omega⟩, fun hn => absurd (show (trimR 0 w).size = 0 by show w.size = 0; omega) hn⟩
  | k + 1, w, h => by
    rw [trimR]
    by_cases h0 : w.size = 0
    · have : bl w = [] := List.eq_nil_of_length_eq_zero (by rw [bl_len]; omega)
      rw [if_pos h0]
      exact ⟨⟨fun _ => by unfold allBS; rw [this]; rfl, fun _ => h0⟩, fun hn => absurd h0 hn⟩
    · rw [if_neg h0, all_last h0]
      cases hb : isBS (byteN w (w.size - 1)) with
      | true =>
        rw [if_pos rfl, Bool.and_true]
        exact trimR_all k _ (by rw [size_cut (by omega)]; omega)
      | false =>
        rw [if_neg (by simp), Bool.and_false]
        exact ⟨⟨fun h => absurd h h0, fun h => by cases h⟩, fun _ => hb⟩
theorem trimL_all : ∀ (k : Nat) (w : ByteArray), w.size ≤ k → ((trimL k w).size = 0 ↔ allBS w = true)
  | 0, w, h => by
    have : bl w = [] := List.eq_nil_of_length_eq_zero (by rw [bl_len]; omega)
    exact ⟨fun _ => by unfold allBS; rw [this]; rfl, fun _ => by show w.size = 0; omega⟩
  | k + 1, w, h => by
    rw [trimL]
    by_cases h0 : w.size = 0
    · have : bl w = [] := List.eq_nil_of_length_eq_zero (by rw [bl_len]; omega)
      rw [if_pos h0]
      exact ⟨fun _ => by unfold allBS; rw [this]; rfl, fun _ => h0⟩
    · rw [if_neg h0, all_first h0]
      cases hb : isBS (byteN w 0) with
      | true =>
        rw [if_pos rfl, Bool.true_and]
        exact trimL_all k _ (by rw [size_cut (Nat.le_refl _)]; omega)
      | false =>
        rw [if_neg (by simp), Bool.false_and]
        exact ⟨fun h => absurd h h0, fun h => by cases h⟩
theorem all_none {w : ByteArray} (h : w.size ≠ 0) (hb : isBS (byteN w (w.size - 1)) = false) : allBS w = false := by rw [all_last h, hb, Bool.and_false]
def trimB (w : ByteArray) : ByteArray := if w.size = 0 then w else trimL (trimR w.size w).size (trimR w.size w)
theorem trimB_empty (w : ByteArray) : (trimB w).size = 0 ↔ allBS w = true := by
  unfold trimB
  by_cases h0 : w.size = 0
  · have : bl w = [] := List.eq_nil_of_length_eq_zero (by rw [bl_len]; omega)
    rw [if_pos h0]
    exact ⟨fun _ => by unfold allBS; rw [this]; rfl, fun _ => h0⟩
  · rw [if_neg h0, trimL_all _ _ (Nat.le_refl _)]
    obtain ⟨h1, h2⟩ := trimR_all w.size w (Nat.le_refl _)
    by_cases hz : (trimR w.size w).size = 0
    · have : bl (trimR w.size w) = [] := List.eq_nil_of_length_eq_zero (by rw [bl_len]; omega)
      rw [← h1]
      exact ⟨fun _ => hz, fun _ => by unfold allBS; rw [this]; rfl⟩
    · rw [all_none hz (h2 hz), ← h1]
      exact ⟨fun h => (by cases h), fun h => absurd h hz⟩
end
end Go.Proofs.YtgnkjmgkfibipaaGreatDoor

/- Words: strings.Trim with the letters b and s; strings.Contains of one letter. -/
namespace Go.Proofs.YtgnkjmgkfibipaaGreatDoor
set_option linter.unusedVariables false
set_option linter.unusedSimpArgs false
open Go Go.R
set_option maxRecDepth 1000000
noncomputable section

noncomputable def strBS : Value := .string ⟨#[98, 115]⟩
theorem obs_asc {ρ : Nat → Nat} {m : Nat} {x : AObj} (e : x = .cells ascV true [] (some 126)) : RenO ρ m x ascO := RenO.row (c := ascV) (lv := true) (p := []) (ty := some 126) e ascV_plain (fun h => h) (.inr rfl)
theorem fix_zero {af : AF} {o : AObj} : FixOk 0 af 0 [o] := ⟨fun h => (by cases h), trivial⟩
theorem obs_one {ρ : Nat → Nat} {m : Nat} {h : AH} {o : AObj} (e : RenO ρ m (h.get (ρ 0)) o) : ObsOk ρ m h 0 [o] := ⟨e, trivial⟩
noncomputable def c113 : Code := bodyOf Tryz.f90
theorem eq_none (w : ByteArray) : (w.toList == (⟨#[]⟩ : ByteArray).toList) = Nat.beq w.size 0 := by
  rw [bl_toList, bl_toList, Bool.eq_iff_iff, beq_iff_eq]
  constructor
  · intro h
    have : (bl w).length = 0 := by rw [h]; rfl
    rw [← bl_len, this]
    rfl
  · intro h
    exact List.eq_nil_of_length_eq_zero (Nat.eq_of_beq_eq_true h)
theorem trim_renum {w : ByteArray} {c : Code} {af : AF} {Q : AExit → AF → Prop} (hsz : af.sz = 43) (hn : npB af.h (fun _ => 1) 1 = true)
    (tt : ([((0 : Nat), Value.string w), (5, ptrC 0), (6, .bool true)].map fun p => (af.tm.get p.1).map (renV (fun _ => 0) 3)) = [((0 : Nat), Value.string w), (5, ptrC 0), (6, .bool true)].map fun p => some p.2)
    (to : ([((0 : Nat), Value.string w), (5, ptrC 0), (6, .bool true)].all fun p => match af.tm.get p.1 with | some v => okV (fun _ => 0) (fun _ => 1) 1 3 v | none => false) = true)
    (e : af.h.get 1 = .cells ascV true [] (some 126)) (h : Runs Tryz.prog 0 c (sth [(0, .string w), (5, ptrC 0), (6, .bool true)] 43 [ascO]) Q) : Runs Tryz.prog 0 c af Q :=
  Runs.renumK (sz := 43) (l := [(0, .string w), (5, ptrC 0), (6, .bool true)]) (os := [ascO]) (fun _ => 1) (fun _ => 0) hsz (Nat.zero_le _) (by kernel_rfl) fix_zero (by kernel_rfl) hn tt to (obs_one (obs_asc e)) h
theorem trim_local (w : ByteArray) (hw : w.size < 1000000) : Local Tryz.prog 0 90 [.string w, strBS] AH.empty fun v' _ => v' = .string (trimB w) := by
  refine local_of noNum Tryz.func90 (show Tryz.f90.body = some c113 by kernel_rfl) ?_
  have hs := trimR_size w.size w
  unfold trimB
  refine Runs.sqR mixed hk38 [] (by kernel_rfl) (by kernel_rfl) (by kernel_rfl) oblN ?_
  by_cases h0 : w.size = 0
  · rw [if_pos h0]
    have e : Value.bool (w.toList == (⟨#[]⟩ : ByteArray).toList) = .bool true := by rw [eq_none, h0]; rfl
    refine Runs.sq (by kernel_rfl) (Runs.sqR mixed hk38 [viaV 1 (.bool true)] (by kernel_rfl) (by kernel_rfl) (by kernel_rfl) (oblC (shown_eq (v := .bool (w.toList == (⟨#[]⟩ : ByteArray).toList)) (by kernel_rfl) (by kernel_rfl) e) oblN) ?_)
    refine Runs.cd (b := true) (by kernel_rfl) (fun _ => ?_) (fun h => by cases h)
    exact Runs.sqR mixed hk38 [] (by kernel_rfl) (by kernel_rfl) (by kernel_rfl) oblN (Runs.now (x := .ret) (by kernel_rfl) ⟨.inr rfl, [.string w], by kernel_rfl, rfl⟩)
  · rw [if_neg h0]
    have e : Value.bool (w.toList == (⟨#[]⟩ : ByteArray).toList) = .bool false := by
      rw [eq_none]
      cases hb : Nat.beq w.size 0 with
      | false => rfl
      | true => exact absurd (Nat.eq_of_beq_eq_true hb) h0
    refine Runs.sq (by kernel_rfl) (Runs.sqR mixed hk38 [viaV 1 (.bool false)] (by kernel_rfl) (by kernel_rfl) (by kernel_rfl) (oblC (shown_eq (v := .bool (w.toList == (⟨#[]⟩ : ByteArray).toList)) (by kernel_rfl) (by kernel_rfl) e) oblN) ?_)
    refine Runs.cd (b := false) (by kernel_rfl) (fun h => by cases h) (fun _ => Runs.now (x := .normal) (by kernel_rfl) ?_)
    show Runs Tryz.prog 0 (behind 2 c113) _ _
    refine Runs.sq (by kernel_rfl) (Runs.sqR mixed hk38 [] (by kernel_rfl) (by kernel_rfl) (by kernel_rfl) oblN ?_)
    refine Runs.cd (b := false) (by kernel_rfl) (fun h => by cases h) (fun _ => Runs.now (x := .normal) (by kernel_rfl) ?_)
    show Runs Tryz.prog 0 (behind 3 c113) _ _
    refine Runs.sq (by kernel_rfl) (Runs.sqR mixed hk38 [] (by kernel_rfl) (by kernel_rfl) (by kernel_rfl) oblN ?_)
    refine trim_renum (w := w) (by kernel_rfl) (by kernel_rfl) (by kernel_rfl) (by kernel_rfl) (by kernel_rfl) ?_
    refine Runs.sqR mixed hk38 [] (by kernel_rfl) (by kernel_rfl) (by kernel_rfl) oblN ?_
    refine Runs.cd (b := true) (by kernel_rfl) (fun _ => ?_) (fun h => by cases h)
    refine Runs.sqR mixed hk38 [viaC 1 109 [.string w, ptrC 0] (.string (trimR w.size w)), viaC 2 108 [.string (trimR w.size w), ptrC 0] (.string (trimL (trimR w.size w).size (trimR w.size w)))] (by kernel_rfl) (by kernel_rfl) (by kernel_rfl)
      (oblC (shown_callE (h0 := hp [ascO]) (by kernel_rfl) (by kernel_rfl) (right_says w hw)) (oblC (shown_callE (h0 := hp [ascO]) (by kernel_rfl) (by kernel_rfl) (left_says _ (by omega))) oblN)) ?_
    exact Runs.now (x := .ret) (by kernel_rfl) ⟨.inr rfl, [.string (trimL (trimR w.size w).size (trimR w.size w))], by kernel_rfl, rfl⟩
theorem trim_says (w : ByteArray) (hw : w.size < 1000000) (h : AH) : Says Tryz.prog h 90 [.string w, strBS] (.string (trimB w)) h := fun F w0 μ w' args' H hl =>
  (trim_local w hw).closed strs_plain rfl h H hl

/-! ### Contains -/
noncomputable def c124 : Code := bodyOf Tryz.f97
noncomputable def c104 : Code := bodyOf Tryz.f75
noncomputable def c114 : Code := bodyOf Tryz.f91
def idxN (w : ByteArray) (c : UInt8) : Int := idxB w.data.toList c.toNat.toUInt8.toNat 0
theorem idx_one (w : ByteArray) (c : UInt8) (h : bl w = [c]) : idxN w c = 0 := by
  unfold idxN
  rw [show w.data.toList = [c] from h, idxB, if_pos (by rw [Nat.beq_eq]; simp)]
  rfl
theorem idx_local (w : ByteArray) (c : UInt8) : Local Tryz.prog 0 97 [.string w, .string ⟨#[c]⟩] AH.empty fun v' _ => v' = .int .i64 (idxN w c) := by
  refine local_of noNum Tryz.func97 (show Tryz.f97.body = some c124 by kernel_rfl) ?_
  refine Runs.sqR mixed hk38 [] (by kernel_rfl) (by kernel_rfl) (by kernel_rfl) oblN ?_
  refine Runs.sqR mixed hk38 [] (by kernel_rfl) (by kernel_rfl) (by kernel_rfl) oblN ?_
  refine Runs.sq (by kernel_rfl) (Runs.bk (id := 0) (by kernel_rfl) ?_)
  cases he : ((⟨#[c]⟩ : ByteArray).toList == w.toList) with
  | true =>
    refine Runs.sqR mixed hk38 [viaV 5 (.bool true)] (by kernel_rfl) (by kernel_rfl) (by kernel_rfl) (oblC (shown_eq (v := .bool ((⟨#[c]⟩ : ByteArray).toList == w.toList)) (by kernel_rfl) (by kernel_rfl) (by rw [he])) oblN) ?_
    refine Runs.cd (b := true) (by kernel_rfl) (fun _ => ?_) (fun h => by cases h)
    have : bl w = [c] := by
      rw [bl_toList, bl_toList, beq_iff_eq] at he
      exact he.symm
    exact Runs.sqR mixed hk38 [] (by kernel_rfl) (by kernel_rfl) (by kernel_rfl) oblN (Runs.now (x := .ret) (by kernel_rfl) ⟨.inr rfl, [i64 0], by kernel_rfl, by rw [idx_one w c this]; rfl⟩)
  | false =>
    refine Runs.sqR mixed hk38 [viaV 5 (.bool false)] (by kernel_rfl) (by kernel_rfl) (by kernel_rfl) (oblC (shown_eq (v := .bool ((⟨#[c]⟩ : ByteArray).toList == w.toList)) (by kernel_rfl) (by kernel_rfl) (by rw [he])) oblN) ?_
    refine Runs.cd (b := false) (by kernel_rfl) (fun h => by cases h) (fun _ => ?_)
    refine Runs.sqR mixed hk38 [] (by kernel_rfl) (by kernel_rfl) (by kernel_rfl) oblN ?_
    refine Runs.cd (b := true) (by kernel_rfl) (fun _ => ?_) (fun h => by cases h)
    exact Runs.sqR mixed hk38 [] (by kernel_rfl) (by kernel_rfl) (by kernel_rfl) oblN (Runs.now (x := .ret) (by kernel_rfl) ⟨.inr rfl, [.int .i64 (idxN w c)], by kernel_rfl, rfl⟩)
theorem idx1_local (w : ByteArray) (c : UInt8) : Local Tryz.prog 0 75 [.string w, .string ⟨#[c]⟩] AH.empty fun v' _ => v' = .int .i64 (idxN w c) := by
  refine local_of noNum Tryz.func75 (show Tryz.f75.body = some c104 by kernel_rfl) ?_
  have hS : Says Tryz.prog AH.empty 97 [.string w, .string ⟨#[c]⟩] (.int .i64 (idxN w c)) AH.empty := fun F w0 μ w' args' H hl => (idx_local w c).closed strs_plain rfl AH.empty H hl
  refine Runs.sqR mixed hk38 [] (by kernel_rfl) (by kernel_rfl) (by kernel_rfl) oblN ?_
  refine Runs.sqR mixed hk38 [viaC 2 97 [.string w, .string ⟨#[c]⟩] (.int .i64 (idxN w c))] (by kernel_rfl) (by kernel_rfl) (by kernel_rfl) (oblC (shown_callE (by kernel_rfl) (by kernel_rfl) hS) oblN) ?_
  exact Runs.now (x := .ret) (by kernel_rfl) ⟨.inr rfl, [.int .i64 (idxN w c)], by kernel_rfl, rfl⟩
def hasOne (w : ByteArray) (c : UInt8) : Bool := leF 0 (idxN w c)
theorem has_local (w : ByteArray) (c : UInt8) : Local Tryz.prog 0 91 [.string w, .string ⟨#[c]⟩] AH.empty fun v' _ => v' = .bool (hasOne w c) := by
  refine local_of noNum Tryz.func91 (show Tryz.f91.body = some c114 by kernel_rfl) ?_
  have hS : Says Tryz.prog AH.empty 75 [.string w, .string ⟨#[c]⟩] (.int .i64 (idxN w c)) AH.empty := fun F w0 μ w' args' H hl => (idx1_local w c).closed strs_plain rfl AH.empty H hl
  refine Runs.sqR mixed hk38 [] (by kernel_rfl) (by kernel_rfl) (by kernel_rfl) oblN ?_
  refine Runs.sqR mixed hk38 [viaC 2 75 [.string w, .string ⟨#[c]⟩] (.int .i64 (idxN w c))] (by kernel_rfl) (by kernel_rfl) (by kernel_rfl) (oblC (shown_callE (by kernel_rfl) (by kernel_rfl) hS) oblN) ?_
  exact Runs.now (x := .ret) (by kernel_rfl) ⟨.inr rfl, [.bool (hasOne w c)], by kernel_rfl, rfl⟩
theorem has_says (w : ByteArray) (c : UInt8) (h : AH) : Says Tryz.prog h 91 [.string w, .string ⟨#[c]⟩] (.bool (hasOne w c)) h := fun F w0 μ w' args' H hl =>
  (has_local w c).closed strs_plain rfl h H hl
theorem idxB_ge : ∀ (l : List UInt8) (c : Nat) (i : Nat), leF 0 (idxB l c i) = l.any fun b => Nat.beq b.toNat c
  | [], c, i => rfl
  | b :: l, c, i => by
    rw [idxB, List.any_cons]
    cases hb : Nat.beq b.toNat c with
    | true =>
      rw [if_pos rfl, Bool.true_or, leF_eq, decide_eq_true_eq]
      exact Int.natCast_nonneg i
    | false =>
      rw [if_neg (by simp), Bool.false_or]
      exact idxB_ge l c (i + 1)
theorem hasOne_iff (w : ByteArray) (c : UInt8) : hasOne w c = true ↔ c ∈ bl w := by
  unfold hasOne idxN
  rw [show (idxB w.data.toList c.toNat.toUInt8.toNat 0) = idxB w.data.toList c.toNat.toUInt8.toNat ((0 : Nat) : Int).toNat from rfl, idxB_ge, List.any_eq_true]
  have e : c.toNat.toUInt8.toNat = c.toNat := by simp
  rw [e]
  constructor
  · rintro ⟨b, hb, h⟩
    have := UInt8.toNat_inj.1 (Nat.eq_of_beq_eq_true h)
    exact this ▸ hb
  · exact fun h => ⟨c, h, by rw [Nat.beq_eq]⟩
end
end Go.Proofs.YtgnkjmgkfibipaaGreatDoor

/- Words: trial.read: the first loops. -/
namespace Go.Proofs.YtgnkjmgkfibipaaGreatDoor
set_option linter.unusedVariables false
set_option linter.unusedSimpArgs false
open Go Go.R
set_option maxRecDepth 1000000
noncomputable section

noncomputable def viewS (n : Nat) (g : Nat → ByteArray) : AObj := .cells (strsV n g) false [] none
theorem viewS_clo {n : Nat} {g : Nat → ByteArray} : ∀ o ∈ [viewS n g], CloO 1 o := fun o ho => by rw [List.mem_singleton.1 ho]; exact cloO_plain (strsV_plain n g) _ _
theorem str0_at {h : AH} {o i k : Nat} {g : Nat → ByteArray} {lv : Bool} {par : List Nat} {ty : Option TypeId} (hg : h.get 0 = .cells (strsV k g) lv par ty) (hi : o + i < k) : rowAt? h 0 (o + i * 1) 1 = some [.string (g (o + i))] := by
  rw [row_at hg (by rw [strsV_len]; omega), Nat.mul_one]
  have : (strsV k g)[o + i]? = some (.string (g (o + i))) := by simp [strsV, hi]
  rw [List.take_one, List.head?_drop, this]
  rfl

/-- The first error from i on. -/
def scanE (p : Nat → Nat) : Nat → Nat → Nat
  | 0, _ => 0
  | d + 1, i => if p i = 0 then scanE p d (i + 1) else p i
def errA (g : Nat → ByteArray) (i : Nat) : Nat := if 12 < (g i).size then 19 else if allBS (g i) then 0 else 10
def errB (g : Nat → ByteArray) (i : Nat) : Nat := if bytesLt (g i) (g (i + 1)) then 0 else 7
def errC (g : Nat → ByteArray) (i : Nat) : Nat := if prefB (g (i + 1)) (g i) then 13 else 0

noncomputable def c70 : Code := bodyOf Tryz.f59
noncomputable def lp70a : Code := within (tl (hd (behind 2 c70)))
noncomputable def lp70b : Code := within (tl (hd (behind 3 c70)))
noncomputable def lp70c : Code := within (tl (hd (behind 4 c70)))
section
variable {n cap : Nat} {g : Nat → ByteArray}
def Gives (n : Nat) (g : Nat → ByteArray) (e : Nat) (af : AF) : Prop := ∃ vs, resultsA Tryz.prog af.tm af.h Tryz.f59.results.toList = some vs ∧ Holds [viewS n g] (i64 e) (pack vs) af.h
noncomputable def S70a (n cap i : Nat) : List (Nat × Value) := [(0, slV n cap), (2, i64 0), (23, slV n cap), (24, i64 n), (25, i64 i)]

theorem neq_none (w : ByteArray) : (!((trimB w).toList == (⟨#[]⟩ : ByteArray).toList)) = !(allBS w) := by
  rw [eq_none]
  congr 1
  rw [Bool.eq_iff_iff, Nat.beq_eq]
  exact trimB_empty w

theorem read_a (hn : n < 1000000) : ∀ d i, i + d = n → Runs Tryz.prog 1 lp70a (sth (S70a n cap i) 113 [viewS n g]) fun x af =>
    (x = .ret ∧ scanE (errA g) d i ≠ 0 ∧ Gives n g (scanE (errA g) d i) af) ∨ (x = .exit 1 ∧ scanE (errA g) d i = 0 ∧ Less 1 (sth [(0, slV n cap), (2, i64 0)] 113 [viewS n g]) af) := by
  intro d
  induction d with
  | zero =>
    intro i hi
    have e : i = n := by omega
    subst e
    refine Runs.lp (by kernel_rfl) (Runs.sqR mixed hk38 [] (by kernel_rfl) (by kernel_rfl) (by kernel_rfl) oblN ?_)
    refine Runs.sq (by kernel_rfl) (Runs.cd (b := ltF (.ofNat i) (.ofNat i)) (by kernel_rfl) (fun ht => by rw [lt_self] at ht; cases ht) (fun _ => Runs.now (x := .exit 1) (by kernel_rfl) (.inr ⟨rfl, rfl, ?_⟩)))
    exact less_seenP (clo_all (k := 1) (by kernel_rfl)) viewS_clo (Nat.le_refl 1) (by kernel_rfl) (by kernel_rfl) (by kernel_rfl) (by kernel_rfl)
  | succ d ih =>
    intro i hi
    have hlt : i < n := by omega
    refine Runs.lp (by kernel_rfl) (Runs.sqR mixed hk38 [] (by kernel_rfl) (by kernel_rfl) (by kernel_rfl) oblN ?_)
    refine Runs.sq (by kernel_rfl) (Runs.cd (b := ltF (.ofNat i) (.ofNat n)) (by kernel_rfl) (fun _ => Runs.now (x := .normal) (by kernel_rfl) ?_) (fun hf => by rw [lt_of hlt] at hf; cases hf))
    show Runs Tryz.prog 1 _ _ _
    have hcell := fun (h : AH) (hg : h.get 0 = viewS n g) => str0_at (o := 0) (i := i) (k := n) (g := g) (lv := false) (par := []) (ty := none) hg (by omega)
    rw [Nat.zero_add i] at hcell
    refine Runs.sq (by kernel_rfl) (Runs.bk (id := 2) (by kernel_rfl) (Runs.sqR mixed hk38 [viaV 0 (.pointer (some ⟨0, 0 + i * 1, none⟩)), viaV 1 (.string (g i))] (by kernel_rfl) (by kernel_rfl) (by kernel_rfl)
      (oblC (shown_idx (n := n) (by kernel_rfl) hlt) (oblC (shown_cell (g := 0) (off := 0 + i * 1) (by kernel_rfl) (hcell _ (by kernel_rfl))) oblN)) ?_))
    refine Runs.bk (id := 3) (by kernel_rfl) ?_
    have es : scanE (errA g) (d + 1) i = if errA g i = 0 then scanE (errA g) d (i + 1) else errA g i := rfl
    rw [es]
    cases hlong : ltF (.ofNat 12) (.ofNat (g i).size) with
    | true =>
      have hl : 12 < (g i).size := Int.ofNat_lt.1 (ltF_iff.1 hlong)
      have ee : errA g i = 19 := by unfold errA; rw [if_pos hl]
      rw [ee, if_neg (by decide)]
      refine Runs.sqR mixed hk38 [viaV 2 (.bool true)] (by kernel_rfl) (by kernel_rfl) (by kernel_rfl) (oblC (shown_eq (v := .bool (ltF (.ofNat 12) (.ofNat (g i).size))) (by kernel_rfl) (by kernel_rfl) (by rw [hlong])) oblN) ?_
      refine Runs.cd (b := true) (by kernel_rfl) (fun _ => ?_) (fun h => by cases h)
      exact Runs.sqR mixed hk38 [] (by kernel_rfl) (by kernel_rfl) (by kernel_rfl) oblN (Runs.now (x := .ret) (by kernel_rfl) (.inl ⟨rfl, by decide, [i64 19], by kernel_rfl, rfl, keepOf (by kernel_rfl)⟩))
    | false =>
      have hl : ¬ 12 < (g i).size := fun h => by rw [lt_of h] at hlong; cases hlong
      refine Runs.sqR mixed hk38 [viaV 2 (.bool false)] (by kernel_rfl) (by kernel_rfl) (by kernel_rfl) (oblC (shown_eq (v := .bool (ltF (.ofNat 12) (.ofNat (g i).size))) (by kernel_rfl) (by kernel_rfl) (by rw [hlong])) oblN) ?_
      refine Runs.cd (b := false) (by kernel_rfl) (fun h => by cases h) (fun _ => ?_)
      refine Runs.sqR mixed hk38 [viaC 1 90 [.string (g i), strBS] (.string (trimB (g i))), viaV 2 (.bool (!(allBS (g i))))] (by kernel_rfl) (by kernel_rfl) (by kernel_rfl)
        (oblC (shown_callE (h0 := hp [viewS n g]) (by kernel_rfl) (by kernel_rfl) (trim_says (g i) (by omega) _))
        (oblC (shown_eq (v := .bool (!((trimB (g i)).toList == (⟨#[]⟩ : ByteArray).toList))) (by kernel_rfl) (by kernel_rfl) (by rw [neq_none])) oblN)) ?_
      cases hall : allBS (g i) with
      | false =>
        have ee : errA g i = 10 := by unfold errA; rw [if_neg hl, hall]; rfl
        rw [ee, if_neg (by decide)]
        refine Runs.cd (b := true) (by kernel_rfl) (fun _ => ?_) (fun h => by cases h)
        exact Runs.sqR mixed hk38 [] (by kernel_rfl) (by kernel_rfl) (by kernel_rfl) oblN (Runs.now (x := .ret) (by kernel_rfl) (.inl ⟨rfl, by decide, [i64 10], by kernel_rfl, rfl, keepOf (by kernel_rfl)⟩))
      | true =>
        have ee : errA g i = 0 := by unfold errA; rw [if_neg hl, hall]; rfl
        rw [ee, if_pos rfl]
        refine Runs.cd (b := false) (by kernel_rfl) (fun h => by cases h) (fun _ => Runs.now (x := .normal) (by kernel_rfl) ?_)
        show Runs Tryz.prog 1 _ _ _
        refine Runs.rg mixed hk38 [] (by kernel_rfl) (by kernel_rfl) (by kernel_rfl) oblN ?_
        show Runs Tryz.prog 1 lp70a _ _
        have ew : S70a n cap (i + 1) = [(0, slV n cap), (2, i64 0), (23, slV n cap), (24, i64 n), (25, .int .i64 (wrapF .i64 (Int.add (.ofNat i) (.ofNat 1))))] := by rw [wrap_succ (by omega : i < 4611686018427387904)]; rfl
        refine Runs.less (af1 := sth (S70a n cap (i + 1)) 113 [viewS n g]) (less_seenP (clo_all (k := 1) (by kernel_rfl)) viewS_clo (Nat.le_refl 1) ?_ (by kernel_rfl) (by kernel_rfl) (by kernel_rfl)) (ih (i + 1) (by omega))
        rw [ew]
        exact Eq.trans (Eq.refl _) (by kernel_rfl)

noncomputable def S70b (o n cap i : Nat) : List (Nat × Value) := [(0, slV n cap), (2, i64 0), (39, .slice (some ⟨0, o, none⟩) (n - 1) (cap - 1)), (40, i64 (n - 1)), (41, i64 i)]
theorem read_b {o : Nat} (hn : n < 1000000) (ho : o = 1 ∨ n = 1) : ∀ d i, i + d = n - 1 → Runs Tryz.prog 1 lp70b (sth (S70b o n cap i) 113 [viewS n g]) fun x af =>
    (x = .ret ∧ scanE (errB g) d i ≠ 0 ∧ Gives n g (scanE (errB g) d i) af) ∨ (x = .exit 4 ∧ scanE (errB g) d i = 0 ∧ Less 1 (sth [(0, slV n cap), (2, i64 0)] 113 [viewS n g]) af) := by
  intro d
  induction d with
  | zero =>
    intro i hi
    have e : n - 1 = i := by omega
    unfold S70b
    rw [e]
    refine Runs.lp (by kernel_rfl) (Runs.sqR mixed hk38 [] (by kernel_rfl) (by kernel_rfl) (by kernel_rfl) oblN ?_)
    refine Runs.sq (by kernel_rfl) (Runs.cd (b := ltF (.ofNat i) (.ofNat i)) (by kernel_rfl) (fun ht => by rw [lt_self] at ht; cases ht) (fun _ => Runs.now (x := .exit 4) (by kernel_rfl) (.inr ⟨rfl, rfl, ?_⟩)))
    exact less_seenP (clo_all (k := 1) (by kernel_rfl)) viewS_clo (Nat.le_refl 1) (by kernel_rfl) (by kernel_rfl) (by kernel_rfl) (by kernel_rfl)
  | succ d ih =>
    intro i hi
    have hlt : i < n - 1 := by omega
    obtain rfl : o = 1 := by omega
    refine Runs.lp (by kernel_rfl) (Runs.sqR mixed hk38 [] (by kernel_rfl) (by kernel_rfl) (by kernel_rfl) oblN ?_)
    refine Runs.sq (by kernel_rfl) (Runs.cd (b := ltF (.ofNat i) (.ofNat (n - 1))) (by kernel_rfl) (fun _ => Runs.now (x := .normal) (by kernel_rfl) ?_) (fun hf => by rw [lt_of hlt] at hf; cases hf))
    show Runs Tryz.prog 1 _ _ _
    have hcell := fun (h : AH) (hg : h.get 0 = viewS n g) => str0_at (o := 0) (i := i) (k := n) (g := g) (lv := false) (par := []) (ty := none) hg (by omega)
    rw [Nat.zero_add i] at hcell
    have hcell1 := fun (h : AH) (hg : h.get 0 = viewS n g) => str0_at (o := 1) (i := i) (k := n) (g := g) (lv := false) (par := []) (ty := none) hg (by omega)
    rw [Nat.add_comm 1 i] at hcell1
    refine Runs.sq (by kernel_rfl) (Runs.bk (id := 5) (by kernel_rfl) (Runs.sqR mixed hk38 [viaV 1 (.pointer (some ⟨0, 1 + i * 1, none⟩)), viaV 2 (.string (g (i + 1)))] (by kernel_rfl) (by kernel_rfl) (by kernel_rfl)
      (oblC (shown_idx (n := n - 1) (by kernel_rfl) hlt) (oblC (shown_cell (g := 0) (off := 1 + i * 1) (by kernel_rfl) (hcell1 _ (by kernel_rfl))) oblN)) ?_))
    have es : scanE (errB g) (d + 1) i = if errB g i = 0 then scanE (errB g) d (i + 1) else errB g i := rfl
    rw [es]
    refine Runs.sqR mixed hk38 [viaV 2 (.pointer (some ⟨0, 0 + i * 1, none⟩)), viaV 3 (.string (g i)), viaV 5 (.bool (!(bytesLt (g i) (g (i + 1)))))] (by kernel_rfl) (by kernel_rfl) (by kernel_rfl)
      (oblC (shown_idx (n := n) (by kernel_rfl) (by omega)) (oblC (shown_cell (g := 0) (off := 0 + i * 1) (by kernel_rfl) (hcell _ (by kernel_rfl)))
      (oblC (shown_eq (v := .bool (!(bytesLt (g i) (g (i + 1))))) (by kernel_rfl) (by kernel_rfl) rfl) oblN))) ?_
    cases hb : bytesLt (g i) (g (i + 1)) with
    | false =>
      have ee : errB g i = 7 := by unfold errB; rw [hb]; rfl
      rw [ee, if_neg (by decide)]
      refine Runs.cd (b := true) (by kernel_rfl) (fun _ => ?_) (fun h => by cases h)
      exact Runs.sqR mixed hk38 [] (by kernel_rfl) (by kernel_rfl) (by kernel_rfl) oblN (Runs.now (x := .ret) (by kernel_rfl) (.inl ⟨rfl, by decide, [i64 7], by kernel_rfl, rfl, keepOf (by kernel_rfl)⟩))
    | true =>
      have ee : errB g i = 0 := by unfold errB; rw [hb]; rfl
      rw [ee, if_pos rfl]
      refine Runs.cd (b := false) (by kernel_rfl) (fun h => by cases h) (fun _ => Runs.now (x := .normal) (by kernel_rfl) ?_)
      show Runs Tryz.prog 1 _ _ _
      refine Runs.rg mixed hk38 [] (by kernel_rfl) (by kernel_rfl) (by kernel_rfl) oblN ?_
      show Runs Tryz.prog 1 lp70b _ _
      have ew : S70b 1 n cap (i + 1) = [(0, slV n cap), (2, i64 0), (39, .slice (some ⟨0, 1, none⟩) (n - 1) (cap - 1)), (40, i64 (n - 1)), (41, .int .i64 (wrapF .i64 (Int.add (.ofNat i) (.ofNat 1))))] := by rw [wrap_succ (by omega : i < 4611686018427387904)]; rfl
      refine Runs.less (af1 := sth (S70b 1 n cap (i + 1)) 113 [viewS n g]) (less_seenP (clo_all (k := 1) (by kernel_rfl)) viewS_clo (Nat.le_refl 1) ?_ (by kernel_rfl) (by kernel_rfl) (by kernel_rfl)) (ih (i + 1) (by omega))
      rw [ew]
      exact Eq.trans (Eq.refl _) (by kernel_rfl)

noncomputable def S70c (o n cap i : Nat) : List (Nat × Value) := [(0, slV n cap), (2, i64 0), (54, .slice (some ⟨0, o, none⟩) (n - 1) (cap - 1)), (55, i64 (n - 1)), (56, i64 i)]
theorem read_c {o : Nat} (hn : n < 1000000) (ho : o = 1 ∨ n = 1) : ∀ d i, i + d = n - 1 → Runs Tryz.prog 1 lp70c (sth (S70c o n cap i) 113 [viewS n g]) fun x af =>
    (x = .ret ∧ scanE (errC g) d i ≠ 0 ∧ Gives n g (scanE (errC g) d i) af) ∨ (x = .exit 6 ∧ scanE (errC g) d i = 0 ∧ Less 1 (sth [(0, slV n cap), (2, i64 0)] 113 [viewS n g]) af) := by
  intro d
  induction d with
  | zero =>
    intro i hi
    have e : n - 1 = i := by omega
    unfold S70c
    rw [e]
    refine Runs.lp (by kernel_rfl) (Runs.sqR mixed hk38 [] (by kernel_rfl) (by kernel_rfl) (by kernel_rfl) oblN ?_)
    refine Runs.sq (by kernel_rfl) (Runs.cd (b := ltF (.ofNat i) (.ofNat i)) (by kernel_rfl) (fun ht => by rw [lt_self] at ht; cases ht) (fun _ => Runs.now (x := .exit 6) (by kernel_rfl) (.inr ⟨rfl, rfl, ?_⟩)))
    exact less_seenP (clo_all (k := 1) (by kernel_rfl)) viewS_clo (Nat.le_refl 1) (by kernel_rfl) (by kernel_rfl) (by kernel_rfl) (by kernel_rfl)
  | succ d ih =>
    intro i hi
    have hlt : i < n - 1 := by omega
    obtain rfl : o = 1 := by omega
    refine Runs.lp (by kernel_rfl) (Runs.sqR mixed hk38 [] (by kernel_rfl) (by kernel_rfl) (by kernel_rfl) oblN ?_)
    refine Runs.sq (by kernel_rfl) (Runs.cd (b := ltF (.ofNat i) (.ofNat (n - 1))) (by kernel_rfl) (fun _ => Runs.now (x := .normal) (by kernel_rfl) ?_) (fun hf => by rw [lt_of hlt] at hf; cases hf))
    show Runs Tryz.prog 1 _ _ _
    have hcell := fun (h : AH) (hg : h.get 0 = viewS n g) => str0_at (o := 0) (i := i) (k := n) (g := g) (lv := false) (par := []) (ty := none) hg (by omega)
    rw [Nat.zero_add i] at hcell
    have hcell1 := fun (h : AH) (hg : h.get 0 = viewS n g) => str0_at (o := 1) (i := i) (k := n) (g := g) (lv := false) (par := []) (ty := none) hg (by omega)
    rw [Nat.add_comm 1 i] at hcell1
    refine Runs.sq (by kernel_rfl) (Runs.bk (id := 7) (by kernel_rfl) (Runs.sqR mixed hk38 [viaV 1 (.pointer (some ⟨0, 1 + i * 1, none⟩)), viaV 2 (.string (g (i + 1)))] (by kernel_rfl) (by kernel_rfl) (by kernel_rfl)
      (oblC (shown_idx (n := n - 1) (by kernel_rfl) hlt) (oblC (shown_cell (g := 0) (off := 1 + i * 1) (by kernel_rfl) (hcell1 _ (by kernel_rfl))) oblN)) ?_))
    have es : scanE (errC g) (d + 1) i = if errC g i = 0 then scanE (errC g) d (i + 1) else errC g i := rfl
    rw [es]
    refine Runs.sqR mixed hk38 [viaV 3 (.pointer (some ⟨0, 0 + i * 1, none⟩)), viaV 4 (.string (g i)), viaC 5 25 [.string (g (i + 1)), .string (g i)] (.bool (prefB (g (i + 1)) (g i)))] (by kernel_rfl) (by kernel_rfl) (by kernel_rfl)
      (oblC (shown_idx (n := n) (by kernel_rfl) (by omega)) (oblC (shown_cell (g := 0) (off := 0 + i * 1) (by kernel_rfl) (hcell _ (by kernel_rfl)))
      (oblC (shown_callE (h0 := hp [viewS n g]) (by kernel_rfl) (by kernel_rfl) (prefix_says _ _ _)) oblN))) ?_
    cases hb : prefB (g (i + 1)) (g i) with
    | true =>
      have ee : errC g i = 13 := by unfold errC; rw [hb]; rfl
      rw [ee, if_neg (by decide)]
      refine Runs.cd (b := true) (by kernel_rfl) (fun _ => ?_) (fun h => by cases h)
      exact Runs.sqR mixed hk38 [] (by kernel_rfl) (by kernel_rfl) (by kernel_rfl) oblN (Runs.now (x := .ret) (by kernel_rfl) (.inl ⟨rfl, by decide, [i64 13], by kernel_rfl, rfl, keepOf (by kernel_rfl)⟩))
    | false =>
      have ee : errC g i = 0 := by unfold errC; rw [hb]; rfl
      rw [ee, if_pos rfl]
      refine Runs.cd (b := false) (by kernel_rfl) (fun h => by cases h) (fun _ => Runs.now (x := .normal) (by kernel_rfl) ?_)
      show Runs Tryz.prog 1 _ _ _
      refine Runs.rg mixed hk38 [] (by kernel_rfl) (by kernel_rfl) (by kernel_rfl) oblN ?_
      show Runs Tryz.prog 1 lp70c _ _
      have ew : S70c 1 n cap (i + 1) = [(0, slV n cap), (2, i64 0), (54, .slice (some ⟨0, 1, none⟩) (n - 1) (cap - 1)), (55, i64 (n - 1)), (56, .int .i64 (wrapF .i64 (Int.add (.ofNat i) (.ofNat 1))))] := by rw [wrap_succ (by omega : i < 4611686018427387904)]; rfl
      refine Runs.less (af1 := sth (S70c 1 n cap (i + 1)) 113 [viewS n g]) (less_seenP (clo_all (k := 1) (by kernel_rfl)) viewS_clo (Nat.le_refl 1) ?_ (by kernel_rfl) (by kernel_rfl) (by kernel_rfl)) (ih (i + 1) (by omega))
      rw [ew]
      exact Eq.trans (Eq.refl _) (by kernel_rfl)

theorem und22 : Tryz.prog.underlying 30 = some (.slice 9) := by kernel_rfl
theorem tail_cut {n cap : Nat} (h1 : 1 ≤ n) (h2 : n ≤ cap) : sliceA Tryz.prog 30 (slV n cap) (some (i64 1)) none none = some (.slice (some ⟨0, if cap = 1 then 0 else 1, none⟩) (n - 1) (cap - 1)) := by
  obtain ⟨info, e2, e3⟩ : ∃ info, Tryz.prog.info? 9 = some info ∧ info.size = 1 := ⟨_, rfl, by kernel_rfl⟩
  have e : boundsA n cap (some (i64 1)) none none = some (1, n, cap) := by
    unfold boundsA
    have e0 : boundA none cap cap = some cap := rfl
    have e1 : boundA none n cap = some n := rfl
    simp only [e0, e1, bound_nat 0 h1, if_pos h2]
  unfold sliceA slV
  simp only [und22, e2, e, cutAt, e3]
  by_cases hc : cap = 1
  · rw [if_pos hc, if_pos hc]
  · rw [if_neg hc, if_neg hc]

/-- The errors ahead of the last one. -/
def errF (n : Nat) (g : Nat → ByteArray) : Nat := if n = 0 then 4 else if 13 < n then 3 else if scanE (errA g) n 0 ≠ 0 then scanE (errA g) n 0 else if scanE (errB g) (n - 1) 0 ≠ 0 then scanE (errB g) (n - 1) 0 else scanE (errC g) (n - 1) 0

theorem read_first (hc : n ≤ cap) {Q : AExit → AF → Prop} (bad : errF n g ≠ 0 → ∀ af, Gives n g (errF n g) af → Q .ret af)
    (good : errF n g = 0 → Runs Tryz.prog 1 (behind 5 c70) (sth [(0, slV n cap), (2, i64 0)] 113 [viewS n g]) Q) : Runs Tryz.prog 1 c70 (entry Tryz.f59 [slV n cap] (hp [viewS n g])) Q := by
  refine Runs.sqR mixed hk38 [] (by kernel_rfl) (by kernel_rfl) (by kernel_rfl) oblN ?_
  by_cases h0 : n = 0
  · subst h0
    have e : errF 0 g = 4 := rfl
    refine Runs.sq (by kernel_rfl) (Runs.bk (id := 0) (by kernel_rfl) (Runs.sqR mixed hk38 [] (by kernel_rfl) (by kernel_rfl) (by kernel_rfl) oblN ?_))
    refine Runs.cd (b := true) (by kernel_rfl) (fun _ => ?_) (fun h => by cases h)
    refine Runs.sqR mixed hk38 [] (by kernel_rfl) (by kernel_rfl) (by kernel_rfl) oblN (Runs.now (x := .ret) (by kernel_rfl) (bad (by rw [e]; decide) _ ?_))
    rw [e]
    exact ⟨[i64 4], by kernel_rfl, rfl, keepOf (by kernel_rfl)⟩
  · have z : Value.bool (eqF (.ofNat n) (.ofNat 0)) = .bool false := by rw [eqF_eq, beq_eq_false_iff_ne.2 (fun e => h0 (Int.ofNat.inj e))]
    refine Runs.sq (by kernel_rfl) (Runs.bk (id := 0) (by kernel_rfl) (Runs.sqR mixed hk38 [viaV 2 (.bool false)] (by kernel_rfl) (by kernel_rfl) (by kernel_rfl) (oblC (shown_eq (v := .bool (eqF (.ofNat n) (.ofNat 0))) (by kernel_rfl) (by kernel_rfl) z) oblN) ?_))
    refine Runs.cd (b := false) (by kernel_rfl) (fun h => by cases h) (fun _ => ?_)
    by_cases h13 : 13 < n
    · have e : errF n g = 3 := by unfold errF; rw [if_neg h0, if_pos h13]
      refine Runs.sqR mixed hk38 [viaV 2 (.bool true)] (by kernel_rfl) (by kernel_rfl) (by kernel_rfl) (oblC (shown_eq (v := .bool (ltF (.ofNat 13) (.ofNat n))) (by kernel_rfl) (by kernel_rfl) (by rw [lt_of h13])) oblN) ?_
      refine Runs.cd (b := true) (by kernel_rfl) (fun _ => ?_) (fun h => by cases h)
      refine Runs.sqR mixed hk38 [] (by kernel_rfl) (by kernel_rfl) (by kernel_rfl) oblN (Runs.now (x := .ret) (by kernel_rfl) (bad (by rw [e]; decide) _ ?_))
      rw [e]
      exact ⟨[i64 3], by kernel_rfl, rfl, keepOf (by kernel_rfl)⟩
    · have l13 : ltF (.ofNat 13) (.ofNat n) = false := ltF_not.2 (show ((n : Nat) : Int) ≤ 13 by omega)
      refine Runs.sqR mixed hk38 [viaV 2 (.bool false)] (by kernel_rfl) (by kernel_rfl) (by kernel_rfl) (oblC (shown_eq (v := .bool (ltF (.ofNat 13) (.ofNat n))) (by kernel_rfl) (by kernel_rfl) (by rw [l13])) oblN) ?_
      refine Runs.cd (b := false) (by kernel_rfl) (fun h => by cases h) (fun _ => Runs.now (x := .normal) (by kernel_rfl) ?_)
      show Runs Tryz.prog 1 (behind 2 c70) _ _
      have e1 : errF n g = if scanE (errA g) n 0 ≠ 0 then scanE (errA g) n 0 else if scanE (errB g) (n - 1) 0 ≠ 0 then scanE (errB g) (n - 1) 0 else scanE (errC g) (n - 1) 0 := by unfold errF; rw [if_neg h0, if_neg h13]
      refine Runs.sq (by kernel_rfl) (Runs.sqR mixed hk38 [] (by kernel_rfl) (by kernel_rfl) (by kernel_rfl) oblN (Runs.bk (id := 1) (by kernel_rfl) ?_))
      refine Runs.less (af1 := sth (S70a n cap 0) 113 [viewS n g]) (less_seenP (clo_all (k := 1) (by kernel_rfl)) viewS_clo (Nat.le_refl 1) (by kernel_rfl) (by kernel_rfl) (by kernel_rfl) (by kernel_rfl)) ?_
      refine (read_a (by omega) n 0 (by omega)).mono fun x af hx => ?_
      rcases hx with ⟨rfl, hne, hg⟩ | ⟨rfl, hz, less⟩
      · rw [if_pos hne] at e1
        exact bad (by rw [e1]; exact hne) af (by rw [e1]; exact hg)
      · rw [if_neg (by rw [hz]; simp)] at e1
        show Runs Tryz.prog 1 (behind 3 c70) af _
        refine Runs.less less ?_
        have ho : (if cap = 1 then 0 else 1) = 1 ∨ n = 1 := by
          by_cases hc1 : cap = 1
          · exact .inr (by omega)
          · exact .inl (if_neg hc1)
        generalize hoo : (if cap = 1 then 0 else 1) = o at ho
        have hcut : ∀ h : AH, (sliceA Tryz.prog 30 (slV n cap) (some (i64 1)) none none).map (fun v => (v, h)) = some (.slice (some ⟨0, o, none⟩) (n - 1) (cap - 1), h) := fun h => by rw [tail_cut (by omega) hc, hoo]; rfl
        refine Runs.sq (by kernel_rfl) (Runs.sqR mixed hk38 [viaV 1 (.slice (some ⟨0, o, none⟩) (n - 1) (cap - 1))] (by kernel_rfl) (by kernel_rfl) (by kernel_rfl)
          (oblC ⟨by kernel_rfl, (show _ = (sliceA Tryz.prog 30 (slV n cap) (some (i64 1)) none none).map (fun v => (v, hp [viewS n g])) by kernel_rfl).trans (hcut _)⟩ oblN) (Runs.bk (id := 4) (by kernel_rfl) ?_))
        refine Runs.less (af1 := sth (S70b o n cap 0) 113 [viewS n g]) (less_seenP (clo_all (k := 1) (by kernel_rfl)) viewS_clo (Nat.le_refl 1) (by kernel_rfl) (by kernel_rfl) (by kernel_rfl) (by kernel_rfl)) ?_
        refine (read_b (by omega) ho (n - 1) 0 (by omega)).mono fun x af hx => ?_
        rcases hx with ⟨rfl, hne, hg⟩ | ⟨rfl, hz, less⟩
        · rw [if_pos hne] at e1
          exact bad (by rw [e1]; exact hne) af (by rw [e1]; exact hg)
        · rw [if_neg (by rw [hz]; simp)] at e1
          show Runs Tryz.prog 1 (behind 4 c70) af _
          refine Runs.less less ?_
          refine Runs.sq (by kernel_rfl) (Runs.sqR mixed hk38 [viaV 1 (.slice (some ⟨0, o, none⟩) (n - 1) (cap - 1))] (by kernel_rfl) (by kernel_rfl) (by kernel_rfl)
            (oblC ⟨by kernel_rfl, (show _ = (sliceA Tryz.prog 30 (slV n cap) (some (i64 1)) none none).map (fun v => (v, hp [viewS n g])) by kernel_rfl).trans (hcut _)⟩ oblN) (Runs.bk (id := 6) (by kernel_rfl) ?_))
          refine Runs.less (af1 := sth (S70c o n cap 0) 113 [viewS n g]) (less_seenP (clo_all (k := 1) (by kernel_rfl)) viewS_clo (Nat.le_refl 1) (by kernel_rfl) (by kernel_rfl) (by kernel_rfl) (by kernel_rfl)) ?_
          refine (read_c (by omega) ho (n - 1) 0 (by omega)).mono fun x af hx => ?_
          rcases hx with ⟨rfl, hne, hg⟩ | ⟨rfl, hz, less⟩
          · exact bad (by rw [e1]; exact hne) af (by rw [e1]; exact hg)
          · show Runs Tryz.prog 1 (behind 5 c70) af _
            exact Runs.less less (good (by rw [e1]; exact hz))
end
end
end Go.Proofs.YtgnkjmgkfibipaaGreatDoor

/- Words: trial.read: each beginning of a word, and how it is continued. -/
namespace Go.Proofs.YtgnkjmgkfibipaaGreatDoor
set_option linter.unusedVariables false
set_option linter.unusedSimpArgs false
open Go Go.R
set_option maxRecDepth 1000000
noncomputable section

/-- A told step that changes the heap. -/
theorem shown_put {a : AF} {o : Oper} {j : Nat} {v : Value} {h1 : AH} {x : Option (Value × AH)} (hc : callOp? o.op = none) (h : opA Tryz.prog (evalA a.tm) o.op a.h = x) (e : x = some (v, h1)) : Shown Tryz.prog a o ⟨j, v, some h1, none⟩ := ⟨hc, h.trans e⟩
/-- A told step that leaves the heap. -/
theorem shown_val {a : AF} {o : Oper} {j : Nat} {v : Value} {H : AH} {x : Option (Value × AH)} (hc : callOp? o.op = none) (hh : a.h = H) (h : opA Tryz.prog (evalA a.tm) o.op a.h = x) (e : x = some (v, H)) : Shown Tryz.prog a o (viaV j v) := ⟨hc, by rw [h, e, hh]; rfl⟩
/-! ### A map of strings -/
abbrev MapS := List (ByteArray × ByteArray)
def esOf (A : MapS) : List (Value × Value) := A.map fun p => (.string p.1, .string p.2)
def getM (k : ByteArray) : MapS → Option ByteArray
  | [] => none
  | p :: l => bif k == p.1 then some p.2 else getM k l
def updM (k v : ByteArray) : MapS → MapS
  | [] => [(k, v)]
  | p :: l => bif k == p.1 then (k, v) :: l else p :: updM k v l
def valM (A : MapS) (k : ByteArray) : ByteArray := (getM k A).getD ⟨#[]⟩
theorem key_str (a b : ByteArray) : keyEq (.string a) (.string b) = some (a == b) := rfl
theorem look_str (k : ByteArray) : ∀ A : MapS, lookA (.string k) (esOf A) = some ((getM k A).map .string)
  | [] => rfl
  | p :: l => by
    show (match keyEq (.string k) (.string p.1) with
      | some true => some (some (Value.string p.2))
      | some false => lookA (.string k) (esOf l)
      | none => none) = _
    rw [key_str, getM]
    cases h : k == p.1 with
    | true => rfl
    | false => exact look_str k l
theorem upd_str (k v : ByteArray) : ∀ A : MapS, updA (.string k) (.string v) (esOf A) = some (esOf (updM k v A))
  | [] => rfl
  | p :: l => by
    show (match keyEq (.string k) (.string p.1) with
      | some true => some ((Value.string k, Value.string v) :: esOf l)
      | some false => (updA (.string k) (.string v) (esOf l)).map ((Value.string p.1, Value.string p.2) :: ·)
      | none => none) = _
    rw [key_str, updM]
    cases h : k == p.1 with
    | true => rfl
    | false =>
      simp only
      rw [upd_str k v l]
      rfl
theorem und116 : Tryz.prog.underlying 112 = some (.map 9 9) := by kernel_rfl
theorem key9 (k : ByteArray) : keyOk Tryz.prog 9 (.string k) = true := by kernel_rfl
theorem zero9 : zeroA Tryz.prog 9 = some (.string ⟨#[]⟩) := by kernel_rfl
theorem lookup_str {h : AH} {r : Nat} {A : MapS} (hg : h.get r = .map (esOf A)) (k : ByteArray) : lookupA Tryz.prog 112 (.map (some r)) (.string k) false h = some (.string (valM A k)) := by
  unfold lookupA
  have e : entriesA h (.map (some r)) = some (esOf A) := by unfold entriesA; simp only [hg]
  simp only [und116, key9, Bool.not_true, Bool.false_eq_true, if_false, zero9, e, look_str]
  unfold valM
  cases getM k A <;> rfl
theorem update_str {h : AH} {r : Nat} {A : MapS} (hg : h.get r = .map (esOf A)) (k v : ByteArray) : mapUpdateA Tryz.prog 112 (.map (some r)) (.string k) (.string v) h = some (h.put r (.map (esOf (updM k v A)))) := by
  unfold mapUpdateA
  simp only [und116, key9, Bool.not_true, Bool.false_eq_true, if_false, hg, upd_str, Option.map_some]

/-! ### A string, letter by letter -/
theorem get_bang {w : ByteArray} {k : Nat} (h : k < w.size) : w.get! k = (bl w).getD k 0 := by
  cases w with
  | mk d =>
    have h' : k < d.size := h
    show d[k]! = d.toList.getD k 0
    rw [getElem!_pos d k h', List.getD_eq_getElem?_getD, Array.getElem?_toList, Array.getElem?_eq_getElem h']
    rfl
theorem decode_one {w : ByteArray} {k : Nat} (h : k < w.size) (hb : byteN w k < 128) : Utf8.decode w k = (byteN w k, 1) := by
  unfold Utf8.decode
  have e : (w.get! (k + 0)).toNat = byteN w k := by rw [Nat.add_zero, get_bang h]; rfl
  simp only [e, if_pos hb]
theorem next_str {h : AH} {r k : Nat} {w : ByteArray} (hg : h.get r = .str w k) (hk : k < w.size) (hb : byteN w k < 128) :
    nextA (.pointer (some ⟨r, 0, none⟩)) true h = some (.tuple #[.bool true, i64 k, .int .i32 (.ofNat (byteN w k))], h.put r (.str w (k + 1))) := by
  unfold nextA
  simp only [hg, if_pos hk, decode_one hk hb]
  rfl
theorem next_end {h : AH} {r k : Nat} {w : ByteArray} (hg : h.get r = .str w k) (hk : w.size ≤ k) : nextA (.pointer (some ⟨r, 0, none⟩)) true h = some (.tuple #[.bool false], h) := by
  unfold nextA
  simp only [hg, if_neg (by omega : ¬ k < w.size)]
theorem cut_one {w : ByteArray} {k : Nat} (h : k < w.size) : w.extract k (k + 1) = ⟨#[(bl w).getD k 0]⟩ := by
  have e : (w.extract k (k + 1)).data = #[(bl w).getD k 0] := by
    apply Array.toList_inj.1
    have := bl_cut w k (k + 1)
    rw [show k + 1 - k = 1 by omega, List.take_one, List.head?_drop] at this
    have h' : k < (bl w).length := h
    rw [List.getElem?_eq_getElem h'] at this
    rw [List.getD_eq_getElem?_getD, List.getElem?_eq_getElem h']
    exact this
  cases hx : w.extract k (k + 1) with
  | mk d => rw [hx] at e; exact congrArg ByteArray.mk e

/-- One letter more of what has been read. -/
def addM (A : MapS) (w : ByteArray) (k : Nat) : MapS := bif hasOne (valM A (w.extract 0 k)) ((bl w).getD k 0) then A else updM (w.extract 0 k) (valM A (w.extract 0 k) ++ ⟨#[(bl w).getD k 0]⟩) A
def addTo (A : MapS) (w : ByteArray) : Nat → MapS
  | 0 => A
  | k + 1 => addM (addTo A w k) w k
def mapTo (g : Nat → ByteArray) : Nat → MapS
  | 0 => []
  | i + 1 => addTo (mapTo g i) (g i) (g i).size

/-! ### The loops -/
noncomputable def lp70d : Code := within (tl (hd (behind 6 c70)))
noncomputable def in70 : Code := within (hd (tl (tl (within lp70d))))
noncomputable def lp70e : Code := within (tl (tl in70))
noncomputable def S70d (n cap i : Nat) : List (Nat × Value) := [(0, slV n cap), (2, i64 0), (9, .map (some 1)), (69, slV n cap), (70, i64 n), (71, i64 i)]
noncomputable def S70e (n cap i : Nat) (w : ByteArray) : List (Nat × Value) := S70d n cap i ++ [(11, .string w), (76, .pointer (some ⟨2, 0, none⟩))]
noncomputable def os70 (n : Nat) (g : Nat → ByteArray) (A : MapS) : List AObj := [viewS n g, .map (esOf A)]
noncomputable def os71 (n : Nat) (g : Nat → ByteArray) (A : MapS) (w : ByteArray) (k : Nat) : List AObj := [viewS n g, .map (esOf A), .str w k]
theorem map_clo {A : MapS} {k : Nat} : CloO k (.map (esOf A)) := fun e he => by
  obtain ⟨p, _, rfl⟩ := List.mem_map.1 he
  exact clo_plain rfl
section
variable {n cap : Nat} {g : Nat → ByteArray}
theorem os70_clo {A : MapS} : ∀ o ∈ os70 n g A, CloO 2 o := fun o ho => by
  simp only [os70, List.mem_cons, List.mem_nil_iff, or_false] at ho
  rcases ho with rfl | rfl
  · exact cloO_plain (strsV_plain n g) _ _
  · exact map_clo
theorem os71_clo {A : MapS} {w : ByteArray} {k : Nat} : ∀ o ∈ os71 n g A w k, CloO 3 o := fun o ho => by
  simp only [os71, List.mem_cons, List.mem_nil_iff, or_false] at ho
  rcases ho with rfl | rfl | rfl
  · exact cloO_plain (strsV_plain n g) _ _
  · exact map_clo
  · trivial
theorem S70e_clo {i : Nat} {w : ByteArray} : ∀ p ∈ S70e n cap i w, Clo 3 p.2 := clo_all (by kernel_rfl)
theorem S70d_clo {i : Nat} : ∀ p ∈ S70d n cap i, Clo 2 p.2 := clo_all (by kernel_rfl)

theorem read_letter {i k : Nat} {w : ByteArray} {A : MapS} (hk : k < w.size) (hw : w.size < 1000) (hb : byteN w k < 128) (hv : (valM A (w.extract 0 k)).size < 1000) {Q : AExit → AF → Prop}
    (h : Runs Tryz.prog 1 lp70e (sth (S70e n cap i w) 113 (os71 n g (addM A w k) w (k + 1))) Q) : Runs Tryz.prog 1 lp70e (sth (S70e n cap i w) 113 (os71 n g A w k)) Q := by
  have s1 : Value.int .i64 (wrapF .i64 (Int.add (.ofNat k) (.ofNat 1))) = i64 (k + 1) := by rw [wrap_succ (by omega)]; rfl
  have n1 : ∀ h : AH, h.get 2 = .str w k → nextA (.pointer (some ⟨2, 0, none⟩)) true h = some (.tuple #[.bool true, i64 k, .int .i32 (.ofNat (byteN w k))], h.put 2 (.str w (k + 1))) := fun h hg => next_str hg hk hb
  refine Runs.lp (by kernel_rfl) ?_
  refine Runs.sqR mixed hk38 [⟨0, .tuple #[.bool true, i64 k, .int .i32 (.ofNat (byteN w k))], some ((hp (os71 n g A w k)).put 2 (.str w (k + 1))), none⟩] (by kernel_rfl) (by kernel_rfl) (by kernel_rfl)
    (oblC ⟨by kernel_rfl, (show _ = nextA (.pointer (some ⟨2, 0, none⟩)) true (hp (os71 n g A w k)) by kernel_rfl).trans (n1 _ (by kernel_rfl))⟩ oblN) ?_
  refine Runs.sq (by kernel_rfl) (Runs.cd (b := true) (by kernel_rfl) (fun _ => Runs.now (x := .normal) (by kernel_rfl) ?_) (fun h => by cases h))
  show Runs Tryz.prog 1 _ _ _
  refine Runs.bk (id := 11) (by kernel_rfl) (Runs.sqR mixed hk38 [] (by kernel_rfl) (by kernel_rfl) (by kernel_rfl) oblN ?_)
  have hone := cut_one hk
  generalize hpp : w.extract 0 k = p at *
  generalize hc : (bl w).getD k 0 = c at *
  generalize hvv : valM A p = v at *
  have l1 : ∀ h : AH, h.get 1 = .map (esOf A) → (lookupA Tryz.prog 112 (.map (some 1)) (.string p) false h).map (fun v => (v, h)) = some (.string v, h) := fun h hg => by rw [lookup_str hg, hvv]; rfl
  have c1 : ∀ h : AH, (sliceA Tryz.prog 9 (.string w) none (some (i64 k)) none).map (fun v => (v, h)) = some (.string p, h) := fun h => by rw [cut_hi (by omega), hpp]; rfl
  have c2 : ∀ h : AH, (sliceA Tryz.prog 9 (.string w) (some (i64 k)) (some (i64 (k + 1))) none).map (fun v => (v, h)) = some (.string ⟨#[c]⟩, h) := fun h => by rw [cut_both (by omega) (by omega), hone]; rfl
  have u1 : ∀ h : AH, h.get 1 = .map (esOf A) → (mapUpdateA Tryz.prog 112 (.map (some 1)) (.string p) (.string (v ++ ⟨#[c]⟩)) h).map (fun h => (undef, h)) = some (undef, h.put 1 (.map (esOf (updM p (v ++ ⟨#[c]⟩) A)))) := fun h hg => by rw [update_str hg]; rfl
  have a1 : ∀ h : AH, (strBin .add v ⟨#[c]⟩).map (fun v => (v, h)) = some (.string (v ++ ⟨#[c]⟩), h) := fun h => by rw [str_add c (by omega)]; rfl
  have hadd : addM A w k = bif hasOne v c then A else updM p (v ++ ⟨#[c]⟩) A := by unfold addM; rw [hpp, hc, hvv]
  rw [hadd] at h
  refine Runs.sqR mixed hk38 [viaV 3 (.string p), viaV 4 (.string v), viaV 8 (i64 (k + 1)), viaV 9 (.string ⟨#[c]⟩), viaC 10 91 [.string v, .string ⟨#[c]⟩] (.bool (hasOne v c))] (by kernel_rfl) (by kernel_rfl) (by kernel_rfl)
    (oblC (shown_val (H := (hp (os71 n g A w k)).put 2 (.str w (k + 1))) (x := (sliceA Tryz.prog 9 (.string w) none (some (i64 k)) none).map (fun v => (v, (hp (os71 n g A w k)).put 2 (.str w (k + 1))))) (by kernel_rfl) (by kernel_rfl) (by kernel_rfl) (c1 _))
    (oblC (shown_val (H := (hp (os71 n g A w k)).put 2 (.str w (k + 1))) (x := (lookupA Tryz.prog 112 (.map (some 1)) (.string p) false ((hp (os71 n g A w k)).put 2 (.str w (k + 1)))).map (fun v => (v, (hp (os71 n g A w k)).put 2 (.str w (k + 1))))) (by kernel_rfl) (by kernel_rfl) (by kernel_rfl) (l1 _ (by kernel_rfl)))
    (oblC (shown_eq (v := .int .i64 (wrapF .i64 (Int.add (.ofNat k) (.ofNat 1)))) (by kernel_rfl) (by kernel_rfl) s1)
    (oblC (shown_val (H := (hp (os71 n g A w k)).put 2 (.str w (k + 1))) (x := (sliceA Tryz.prog 9 (.string w) (some (i64 k)) (some (i64 (k + 1))) none).map (fun v => (v, (hp (os71 n g A w k)).put 2 (.str w (k + 1))))) (by kernel_rfl) (by kernel_rfl) (by kernel_rfl) (c2 _))
    (oblC (shown_callE (h0 := (hp (os71 n g A w k)).put 2 (.str w (k + 1))) (by kernel_rfl) (by kernel_rfl) (has_says v c _)) oblN))))) ?_
  cases hh : hasOne v c with
  | true =>
    rw [hh] at h
    refine Runs.cd (b := false) (by kernel_rfl) (fun h => by cases h) (fun _ => Runs.now (x := .normal) (by kernel_rfl) ?_)
    show Runs Tryz.prog 1 lp70e _ _
    exact Runs.less (less_seenP S70e_clo os71_clo (show 1 ≤ 3 by decide) (by kernel_rfl) (by kernel_rfl) (by kernel_rfl) (by kernel_rfl)) h
  | false =>
    rw [hh] at h
    refine Runs.cd (b := true) (by kernel_rfl) (fun _ => ?_) (fun h => by cases h)
    refine Runs.rg mixed hk38 [viaV 3 (.string p), viaV 4 (.string v), viaV 8 (i64 (k + 1)), viaV 9 (.string ⟨#[c]⟩), viaV 10 (.string (v ++ ⟨#[c]⟩)), ⟨11, undef, some (((hp (os71 n g A w k)).put 2 (.str w (k + 1))).put 1 (.map (esOf (updM p (v ++ ⟨#[c]⟩) A)))), none⟩] (by kernel_rfl) (by kernel_rfl) (by kernel_rfl)
      (oblC (shown_val (H := (hp (os71 n g A w k)).put 2 (.str w (k + 1))) (x := (sliceA Tryz.prog 9 (.string w) none (some (i64 k)) none).map (fun v => (v, (hp (os71 n g A w k)).put 2 (.str w (k + 1))))) (by kernel_rfl) (by kernel_rfl) (by kernel_rfl) (c1 _))
      (oblC (shown_val (H := (hp (os71 n g A w k)).put 2 (.str w (k + 1))) (x := (lookupA Tryz.prog 112 (.map (some 1)) (.string p) false ((hp (os71 n g A w k)).put 2 (.str w (k + 1)))).map (fun v => (v, (hp (os71 n g A w k)).put 2 (.str w (k + 1))))) (by kernel_rfl) (by kernel_rfl) (by kernel_rfl) (l1 _ (by kernel_rfl)))
      (oblC (shown_eq (v := .int .i64 (wrapF .i64 (Int.add (.ofNat k) (.ofNat 1)))) (by kernel_rfl) (by kernel_rfl) s1)
      (oblC (shown_val (H := (hp (os71 n g A w k)).put 2 (.str w (k + 1))) (x := (sliceA Tryz.prog 9 (.string w) (some (i64 k)) (some (i64 (k + 1))) none).map (fun v => (v, (hp (os71 n g A w k)).put 2 (.str w (k + 1))))) (by kernel_rfl) (by kernel_rfl) (by kernel_rfl) (c2 _))
      (oblC (shown_val (H := (hp (os71 n g A w k)).put 2 (.str w (k + 1))) (x := (strBin .add v ⟨#[c]⟩).map (fun v => (v, (hp (os71 n g A w k)).put 2 (.str w (k + 1))))) (by kernel_rfl) (by kernel_rfl) (by kernel_rfl) (a1 _))
      (oblC (shown_put (x := (mapUpdateA Tryz.prog 112 (.map (some 1)) (.string p) (.string (v ++ ⟨#[c]⟩)) ((hp (os71 n g A w k)).put 2 (.str w (k + 1)))).map (fun h => (undef, h))) (by kernel_rfl) (by kernel_rfl) (u1 _ (by kernel_rfl))) oblN)))))) ?_
    show Runs Tryz.prog 1 lp70e _ _
    exact Runs.less (less_seenP S70e_clo os71_clo (show 1 ≤ 3 by decide) (by kernel_rfl) (by kernel_rfl) (by kernel_rfl) (by kernel_rfl)) h
end
end
end Go.Proofs.YtgnkjmgkfibipaaGreatDoor

/- Words: trial.read: all words. -/
namespace Go.Proofs.YtgnkjmgkfibipaaGreatDoor
set_option linter.unusedVariables false
set_option linter.unusedSimpArgs false
open Go Go.R
set_option maxRecDepth 1000000
noncomputable section

/-! ### What the map holds -/
theorem beq_str {a b : ByteArray} : (a == b) = true ↔ a = b := by
  cases a with
  | mk d =>
    cases b with
    | mk e =>
      show (d == e) = true ↔ _
      rw [beq_iff_eq]
      exact ⟨fun h => by rw [h], fun h => ByteArray.mk.inj h⟩
theorem beq_strN {a b : ByteArray} : (a == b) = false ↔ a ≠ b := by rw [← Bool.not_eq_true, beq_str]
theorem get_upd (k v p : ByteArray) : ∀ A : MapS, getM p (updM k v A) = if p = k then some v else getM p A
  | [] => by
    rw [updM, getM, getM]
    by_cases h : p = k
    · rw [if_pos h, beq_str.2 h]; rfl
    · rw [if_neg h]
      have : (p == k) = false := beq_strN.2 h
      rw [this]; rfl
  | q :: l => by
    rw [updM]
    cases hq : k == q.1 with
    | true =>
      have hq' := beq_str.1 hq
      rw [cond_true, getM, getM]
      by_cases h : p = k
      · rw [if_pos h, beq_str.2 h]; rfl
      · rw [if_neg h]
        have e1 : (p == k) = false := beq_strN.2 h
        rw [e1, ← hq', e1]
        rfl
    | false =>
      have hq' : k ≠ q.1 := beq_strN.1 hq
      rw [cond_false, getM, getM, get_upd k v p l]
      by_cases h : p = k
      · rw [if_pos h, if_pos h]
        have e1 : (p == q.1) = false := beq_strN.2 (h ▸ hq')
        rw [e1]; rfl
      · rw [if_neg h, if_neg h]
theorem val_upd (k v p : ByteArray) (A : MapS) : valM (updM k v A) p = if p = k then v else valM A p := by
  unfold valM
  rw [get_upd]
  by_cases h : p = k
  · rw [if_pos h, if_pos h]; rfl
  · rw [if_neg h, if_neg h]
theorem bl_push (v : ByteArray) (c : UInt8) : bl (v ++ ⟨#[c]⟩) = bl v ++ [c] := by
  unfold bl
  rw [ByteArray.data_append]
  exact Array.toList_append
/-- The letters behind a beginning: each once. -/
def NDM (A : MapS) : Prop := ∀ p, (bl (valM A p)).Nodup
theorem add_val (A : MapS) (w : ByteArray) (k : Nat) (p : ByteArray) : valM (addM A w k) p = if p = w.extract 0 k ∧ (bl w).getD k 0 ∉ bl (valM A p) then valM A p ++ ⟨#[(bl w).getD k 0]⟩ else valM A p := by
  unfold addM
  cases hh : hasOne (valM A (w.extract 0 k)) ((bl w).getD k 0) with
  | true =>
    have := (hasOne_iff _ _).1 hh
    rw [cond_true, if_neg]
    rintro ⟨rfl, h⟩
    exact h this
  | false =>
    have hn : (bl w).getD k 0 ∉ bl (valM A (w.extract 0 k)) := fun h => by rw [(hasOne_iff _ _).2 h] at hh; cases hh
    rw [cond_false, val_upd]
    by_cases h : p = w.extract 0 k
    · rw [if_pos h, if_pos ⟨h, h ▸ hn⟩, h]
    · rw [if_neg h, if_neg fun q => h q.1]
theorem NDM_add {A : MapS} (h : NDM A) (w : ByteArray) (k : Nat) : NDM (addM A w k) := fun p => by
  rw [add_val]
  by_cases hc : p = w.extract 0 k ∧ (bl w).getD k 0 ∉ bl (valM A p)
  · rw [if_pos hc, bl_push]
    exact List.nodup_append.2 ⟨h p, by simp, fun a ha b hb => by
      rw [List.mem_singleton.1 hb]
      exact fun e => hc.2 (e ▸ ha)⟩
  · rw [if_neg hc]; exact h p
theorem NDM_to {A : MapS} (h : NDM A) (w : ByteArray) : ∀ k, NDM (addTo A w k)
  | 0 => h
  | k + 1 => NDM_add (NDM_to h w k) w k
theorem NDM_all (g : Nat → ByteArray) : ∀ i, NDM (mapTo g i)
  | 0 => fun p => List.nodup_nil
  | i + 1 => NDM_to (NDM_all g i) _ _
theorem nodup_256 : ∀ (k : Nat) (l : List UInt8), l.Nodup → (∀ x ∈ l, x.toNat < k) → l.length ≤ k
  | 0, l, _, h => by
    cases l with
    | nil => exact Nat.le_refl _
    | cons x l => exact absurd (h x List.mem_cons_self) (Nat.not_lt_zero _)
  | k + 1, l, hd, h => by
    by_cases hk : ∃ x ∈ l, x.toNat = k
    · obtain ⟨y, hy, ey⟩ := hk
      have := nodup_256 k (l.erase y) (hd.erase y) (fun x hx => by
        have h1 := (List.Nodup.mem_erase_iff hd).1 hx
        have h2 := h x h1.2
        have h3 : x.toNat ≠ k := fun e => h1.1 (UInt8.toNat_inj.1 (e.trans ey.symm))
        omega)
      rw [List.length_erase_of_mem hy] at this
      omega
    · have := nodup_256 k l hd (fun x hx => by
        have h2 := h x hx
        have h3 : x.toNat ≠ k := fun e => hk ⟨x, hx, e⟩
        omega)
      omega
theorem NDM_small {A : MapS} (h : NDM A) (p : ByteArray) : (valM A p).size < 1000 := by
  have := nodup_256 256 _ (h p) (fun x _ => UInt8.toNat_lt x)
  rw [bl_len] at this
  omega

/-! ### A word -/
section
variable {n cap : Nat} {g : Nat → ByteArray}
theorem read_word {i : Nat} {w : ByteArray} {A : MapS} (hA : NDM A) (hw : w.size < 1000) (hb : ∀ k, k < w.size → byteN w k < 128) : ∀ d k, k + d = w.size →
    Runs Tryz.prog 1 lp70e (sth (S70e n cap i w) 113 (os71 n g (addTo A w k) w k)) fun x af => x = .exit 10 ∧ Less 1 (sth (S70d n cap i) 113 (os70 n g (addTo A w w.size))) af := by
  intro d
  induction d with
  | zero =>
    intro k hk
    have e : k = w.size := by omega
    rw [← e]
    have n1 : ∀ h : AH, h.get 2 = .str w k → nextA (.pointer (some ⟨2, 0, none⟩)) true h = some (.tuple #[.bool false], h) := fun h hg => next_end hg (by omega)
    refine Runs.lp (by kernel_rfl) ?_
    refine Runs.sqR mixed hk38 [viaV 0 (.tuple #[.bool false])] (by kernel_rfl) (by kernel_rfl) (by kernel_rfl)
      (oblC (shown_val (H := hp (os71 n g (addTo A w k) w k)) (x := nextA (.pointer (some ⟨2, 0, none⟩)) true (hp (os71 n g (addTo A w k) w k))) (by kernel_rfl) (by kernel_rfl) (by kernel_rfl) (n1 _ (by kernel_rfl))) oblN) ?_
    refine Runs.sq (by kernel_rfl) (Runs.cd (b := false) (by kernel_rfl) (fun h => by cases h) (fun _ => Runs.now (x := .exit 10) (by kernel_rfl) ⟨rfl, ?_⟩))
    exact less_seenP S70d_clo os70_clo (show 1 ≤ 2 by decide) (by kernel_rfl) (by kernel_rfl) (by kernel_rfl) (by kernel_rfl)
  | succ d ih =>
    intro k hk
    exact read_letter (by omega) hw (hb k (by omega)) (NDM_small (NDM_to hA w k) _) (ih (k + 1) (by omega))

theorem read_d (hn : n < 1000) (hs : ∀ i, i < n → (g i).size < 1000) (hb : ∀ i, i < n → ∀ k, k < (g i).size → byteN (g i) k < 128) : ∀ d i, i + d = n →
    Runs Tryz.prog 1 lp70d (sth (S70d n cap i) 113 (os70 n g (mapTo g i))) fun x af => x = .exit 8 ∧ Less 1 (sth [(0, slV n cap), (2, i64 0), (9, .map (some 1))] 113 (os70 n g (mapTo g n))) af := by
  intro d
  induction d with
  | zero =>
    intro i hi
    have e : i = n := by omega
    subst e
    refine Runs.lp (by kernel_rfl) (Runs.sqR mixed hk38 [] (by kernel_rfl) (by kernel_rfl) (by kernel_rfl) oblN ?_)
    refine Runs.sq (by kernel_rfl) (Runs.cd (b := ltF (.ofNat i) (.ofNat i)) (by kernel_rfl) (fun ht => by rw [lt_self] at ht; cases ht) (fun _ => Runs.now (x := .exit 8) (by kernel_rfl) ⟨rfl, ?_⟩))
    exact less_seenP (clo_all (k := 2) (by kernel_rfl)) os70_clo (show 1 ≤ 2 by decide) (by kernel_rfl) (by kernel_rfl) (by kernel_rfl) (by kernel_rfl)
  | succ d ih =>
    intro i hi
    have hlt : i < n := by omega
    refine Runs.lp (by kernel_rfl) (Runs.sqR mixed hk38 [] (by kernel_rfl) (by kernel_rfl) (by kernel_rfl) oblN ?_)
    refine Runs.sq (by kernel_rfl) (Runs.cd (b := ltF (.ofNat i) (.ofNat n)) (by kernel_rfl) (fun _ => Runs.now (x := .normal) (by kernel_rfl) ?_) (fun hf => by rw [lt_of hlt] at hf; cases hf))
    show Runs Tryz.prog 1 _ _ _
    have hcell := fun (h : AH) (hg : h.get 0 = viewS n g) => str0_at (o := 0) (i := i) (k := n) (g := g) (lv := false) (par := []) (ty := none) hg (by omega)
    rw [Nat.zero_add i] at hcell
    refine Runs.sq (by kernel_rfl) (Runs.bk (id := 9) (by kernel_rfl) (Runs.sqR mixed hk38 [viaV 0 (.pointer (some ⟨0, 0 + i * 1, none⟩)), viaV 1 (.string (g i))] (by kernel_rfl) (by kernel_rfl) (by kernel_rfl)
      (oblC (shown_idx (n := n) (by kernel_rfl) hlt) (oblC (shown_cell (g := 0) (off := 0 + i * 1) (by kernel_rfl) (hcell _ (by kernel_rfl))) oblN)) ?_))
    refine Runs.sqR mixed hk38 [] (by kernel_rfl) (by kernel_rfl) (by kernel_rfl) oblN (Runs.bk (id := 10) (by kernel_rfl) ?_)
    refine Runs.less (af1 := sth (S70e n cap i (g i)) 113 (os71 n g (addTo (mapTo g i) (g i) 0) (g i) 0)) (less_seenP S70e_clo os71_clo (show 1 ≤ 3 by decide) (by kernel_rfl) (by kernel_rfl) (by kernel_rfl) (by kernel_rfl)) ?_
    show Runs Tryz.prog 1 lp70e _ _
    refine (read_word (NDM_all g i) (hs i hlt) (hb i hlt) (g i).size 0 (by omega)).mono fun x af hx => ?_
    obtain ⟨rfl, less⟩ := hx
    show Runs Tryz.prog 1 _ af _
    refine Runs.less less (Runs.rg mixed hk38 [] (by kernel_rfl) (by kernel_rfl) (by kernel_rfl) oblN ?_)
    show Runs Tryz.prog 1 lp70d _ _
    have ew : S70d n cap (i + 1) = [(0, slV n cap), (2, i64 0), (9, .map (some 1)), (69, slV n cap), (70, i64 n), (71, .int .i64 (wrapF .i64 (Int.add (.ofNat i) (.ofNat 1))))] := by unfold S70d; rw [wrap_succ (by omega : i < 4611686018427387904)]; rfl
    refine Runs.less (af1 := sth (S70d n cap (i + 1)) 113 (os70 n g (mapTo g (i + 1)))) (less_seenP S70d_clo os70_clo (show 1 ≤ 2 by decide) ?_ (by kernel_rfl) (by kernel_rfl) (by kernel_rfl)) (ih (i + 1) (by omega))
    rw [ew]
    exact Eq.trans (Eq.refl _) (by kernel_rfl)
end
end
end Go.Proofs.YtgnkjmgkfibipaaGreatDoor
