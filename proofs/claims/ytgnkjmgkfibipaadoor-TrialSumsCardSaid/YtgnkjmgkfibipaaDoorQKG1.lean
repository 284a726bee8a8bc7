/- Known: its loop over results, whatever they are. -/
import Derived.Test.YtgnkjmgkfibipaaDoorQKG0
import Derived.Test.YtgnkjmgkfibipaaDoorQRG5
namespace Go.Proofs.YtgnkjmgkfibipaaDoor
set_option linter.unusedVariables false
set_option linter.unusedSimpArgs false
open Go Go.R
set_option maxRecDepth 1000000
noncomputable section

def resO (n : Nat) (f : Nat → Int) (g : Nat → Bool) : AObj := .cells (rows2 (fun i => .int .i64 (f i)) (fun i => .bool (g i)) n) false [] none
def resV (n c : Nat) : Value := .slice (some ⟨0, 0, none⟩) n c

theorem resO_clo (k n : Nat) (f : Nat → Int) (g : Nat → Bool) : CloO k (resO n f g) := cloO_plain (rows2_plain (fun _ => rfl) (fun _ => rfl) n) _ _

def maxV (x y : Int) : Int := if y > x then y else x
def minV (x y : Int) : Int := if y < x then y else x
def lowN (f : Nat → Int) (g : Nat → Bool) : Nat → Int
  | 0 => 0
  | i + 1 => if g i then lowN f g i else maxV (lowN f g i) (f i)
def highN (L : Int) (f : Nat → Int) (g : Nat → Bool) : Nat → Int
  | 0 => L
  | i + 1 => if g i then minV (highN L f g i) (wrapF .i64 (f i - 1)) else highN L f g i

theorem wrap_succ {i : Nat} (h : i < 4611686018427387904) : wrapF .i64 (Int.add (.ofNat i) (.ofNat 1)) = .ofNat (i + 1) := by
  show cond (Nat.blt (i + 1) 9223372036854775808) (Int.ofNat (i + 1)) _ = _
  have : Nat.blt (i + 1) 9223372036854775808 = true := by rw [Nat.blt_eq]; omega
  rw [this]; rfl

theorem res_at {h : AH} {n i : Nat} {f : Nat → Int} {g : Nat → Bool} (hg : h.get 0 = resO n f g) (hlt : i < n) : rowAt? h 0 (0 + i * 2) 2 = some [.int .i64 (f i), .bool (g i)] := by
  rw [row_at hg (by rw [rows2_len]; omega), Nat.zero_add, rows2_at _ _ n i hlt]

def c38 : Code := bodyOf Tryd.f38
def inB : Code → Code
  | .block _ b => b
  | .loop b => b
  | c => c
def loop38 : Code := inB (inB (tl (hd (behind 3 c38))))
def k38 : CallF := callA Tryd.prog works 1000

def S38 (L : Int) (n c : Nat) (f : Nat → Int) (g : Nat → Bool) (i : Nat) : List (Nat × Value) :=
  [(4, .int .i64 (lowN f g i)), (5, .int .i64 (highN L f g i)), (17, resV n c), (18, i64 n), (19, i64 i)]

theorem s38_clo {L : Int} {n c : Nat} {f : Nat → Int} {g : Nat → Bool} {i k : Nat} (hk : 0 < k) : ∀ p ∈ S38 L n c f g i, Clo k p.2 := by
  intro p hp
  simp only [S38, List.mem_cons, List.mem_nil_iff, or_false] at hp
  rcases hp with rfl | rfl | rfl | rfl | rfl
  · exact clo_plain rfl
  · exact clo_plain rfl
  · refine clo_of 10 k _ ?_
    show (plainV (resV n c) || Nat.blt 0 k) = true
    rw [Bool.or_eq_true]; exact .inr (by rw [Nat.blt_eq]; exact hk)
  · exact clo_plain rfl
  · exact clo_plain rfl

theorem loop38_shape : loop38 = .seq (.region 6 (regOps (hd loop38)) false) (.seq (.cond (.tmp 20) .skip (.exit 0)) (.seq (.block 1 (.seq (.region 7 (regOps (hd (inB (hd (behind 2 loop38))))) false)
    (.seq (.region 8 (regOps (hd (tl (inB (hd (behind 2 loop38)))))) false) (.cond (.tmp 24) (.region 9 (regOps (thenOf (tl (tl (inB (hd (behind 2 loop38))))))) false)
      (match tl (tl (inB (hd (behind 2 loop38)))) with | .cond _ _ e => e | c => c))))) (.region 11 (regOps (behind 3 loop38)) false))) := by kernel_rfl

theorem known_loop (L : Int) (n c : Nat) (f : Nat → Int) (g : Nat → Bool) (hn : n < 4611686018427387904) : ∀ m i, i + m = n →
    Runs Tryd.prog 1 (.loop loop38) (sth (S38 L n c f g i) 40 [resO n f g]) fun x af => x = .exit 0 ∧ Less 1 (sth (S38 L n c f g n) 40 [resO n f g]) af := by
  have hk : CallOk Tryd.prog k38 := call_ok mixed noNum works_ok 1000
  have hle : 1 ≤ (hp [resO n f g]).next := by rw [hp_next]; exact Nat.le_refl 1
  have ores : ∀ o ∈ [resO n f g], CloO 1 o := fun o ho => by rw [List.mem_singleton.1 ho]; exact resO_clo 1 n f g
  intro m
  induction m with
  | zero =>
    intro i hi
    have hin : i = n := by omega
    subst hin
    refine Runs.loop ?_
    rw [loop38_shape]
    refine Runs.seq ?_
    refine Runs.regionL (af' := (sth (S38 L i c f g i) 40 [resO i f g]).put (some 20) (.bool (ltF (.ofNat i) (.ofNat i))) (hp [resO i f g])) mixed hk hle (by kernel_rfl) ?_
    have hf : ltF (.ofNat i) (.ofNat i) = false := by show Nat.blt i i = false; cases h : Nat.blt i i with | false => rfl | true => exact absurd (blt_lt h) (Nat.lt_irrefl i)
    refine Runs.seq (Runs.cond (b := ltF (.ofNat i) (.ofNat i)) (by kernel_rfl) (fun ht => by rw [hf] at ht; cases ht) (fun _ => Runs.exit ⟨rfl, ?_⟩))
    exact less_seenP (s38_clo (Nat.zero_lt_one)) ores (Nat.le_refl 1) (by kernel_rfl) (by kernel_rfl) (by kernel_rfl) (by kernel_rfl)
  | succ m ih =>
    intro i hi
    have hlt : i < n := by omega
    refine Runs.loop ?_
    rw [loop38_shape]
    refine Runs.seq ?_
    refine Runs.regionL (af' := (sth (S38 L n c f g i) 40 [resO n f g]).put (some 20) (.bool (ltF (.ofNat i) (.ofNat n))) (hp [resO n f g])) mixed hk hle (by kernel_rfl) ?_
    have ht : ltF (.ofNat i) (.ofNat n) = true := by show Nat.blt i n = true; rw [Nat.blt_eq]; exact hlt
    refine Runs.seq (Runs.cond (b := ltF (.ofNat i) (.ofNat n)) (by kernel_rfl) (fun _ => Runs.skip ?_) (fun hf => by rw [ht] at hf; cases hf))
    refine Runs.seq (Runs.block (Runs.seq ?_))
    let H0 := hp [resO n f g]
    let a1 : AF := (sth (S38 L n c f g i) 40 [resO n f g]).put (some 20) (.bool (ltF (.ofNat i) (.ofNat n))) H0
    let b1 : AF := a1.put (some 21) (.pointer (some ⟨0, 0 + i * 2, none⟩)) H0
    let b2 : AF := b1.put (some 22) (.agg #[.int .i64 (f i), .bool (g i)]) H0
    let Ha : AH := (H0.new (.cells [.int .i64 0, .bool false] true [] (some 52))).2
    let b3 : AF := (b2.put (some 9) (ptrV 1) Ha).put none undef (Ha.put 1 (.cells [.int .i64 (f i), .bool (g i)] true [] (some 52)))
    let o7 := regOps (hd (inB (hd (behind 2 loop38))))
    have hsp : o7.toList = [opAt (hd (inB (hd (behind 2 loop38)))) 0] ++ ([opAt (hd (inB (hd (behind 2 loop38)))) 1] ++ o7.toList.drop 2) := by kernel_rfl
    refine Runs.regionL (af' := b3) mixed hk hle ?_ ?_
    · rw [hsp]
      refine opsL_app _ _ a1 b1 b3 ((opsL_one (v := .pointer (some ⟨0, 0 + i * 2, none⟩)) (h := H0) (by kernel_rfl) ?_).trans (by kernel_rfl)) (opsL_app _ _ b1 b2 b3 ((opsL_one (v := .agg #[.int .i64 (f i), .bool (g i)]) (h := H0) (by kernel_rfl) ?_).trans (by kernel_rfl)) (by kernel_rfl))
      · rw [show (opAt (hd (inB (hd (behind 2 loop38)))) 0).op = .indexAddr 42 (.tmp 17) (.tmp 19) by kernel_rfl]
        exact idx_step (info := (Tryd.prog.info? 52).get!) (n := n) (c := c) (sp := none) (kd := .i64) (e := 52) (by kernel_rfl) (by kernel_rfl) hlt (show Tryd.prog.underlying 42 = some (.slice 52) by kernel_rfl) (by kernel_rfl)
      · rw [show (opAt (hd (inB (hd (behind 2 loop38)))) 1).op = .load 52 (.tmp 21) by kernel_rfl]
        have hd52 : ∃ d, Tryd.prog.underlying 52 = some d ∧ isAggD d = true := ⟨(Tryd.prog.underlying 52).get!, by kernel_rfl, by kernel_rfl⟩
        obtain ⟨d, hd1, hd2⟩ := hd52
        exact load_step (info := (Tryd.prog.info? 52).get!) (g := 0) (o := 0 + i * 2) (l := [.int .i64 (f i), .bool (g i)]) (by kernel_rfl) (by kernel_rfl) hd1 hd2 (res_at (hp_get _ 0 _ rfl) hlt)
    · show Runs Tryd.prog 1 _ b3 _
      let os2 : List AObj := [resO n f g, .cells [.int .i64 (f i), .bool (g i)] true [] (some 52)]
      let l2 : List (Nat × Value) := S38 L n c f g i ++ [(9, ptrV 1)]
      have oclo : ∀ o ∈ os2, CloO 2 o := fun o ho => by
        simp only [os2, List.mem_cons, List.mem_nil_iff, or_false] at ho
        rcases ho with rfl | rfl
        · exact resO_clo 2 n f g
        · exact cloO_plain (fun v hv => by simp only [List.mem_cons, List.mem_nil_iff, or_false] at hv; rcases hv with rfl | rfl <;> rfl) _ _
      have lclo : ∀ p ∈ l2, Clo 2 p.2 := fun p hp => by
        rcases List.mem_append.1 hp with hp | hp
        · exact s38_clo (by decide) p hp
        · rw [List.mem_singleton.1 hp]; exact clo_of 10 2 _ rfl
      refine Runs.less (af1 := sth l2 40 os2) (less_seenP lclo oclo (show 1 ≤ 2 by decide) (by kernel_rfl) (by kernel_rfl) (by kernel_rfl) (by kernel_rfl)) ?_
      have hle2 : 1 ≤ (hp os2).next := by rw [hp_next]; exact (by decide : 1 ≤ 2)
      let H2 := hp os2
      let b4 : AF := ((sth l2 40 os2).put (some 23) (.pointer (some ⟨1, 1, none⟩)) H2).put (some 24) (.bool (g i)) H2
      refine Runs.seq (Runs.regionL (af' := b4) mixed hk hle2 (by kernel_rfl) ?_)
      show Runs Tryd.prog 1 _ b4 _
      -- behind the two branches: the next number
      have next : ∀ (lo hi' : Int) (af : AF), lo = lowN f g (i + 1) → hi' = highN L f g (i + 1) →
          Less 1 (sth [(4, .int .i64 lo), (5, .int .i64 hi'), (17, resV n c), (18, i64 n), (19, i64 i)] 40 [resO n f g]) af →
          Runs Tryd.prog 1 (.region 11 (regOps (behind 3 loop38)) false) af (andThen (fun af' => Runs Tryd.prog 1 (.loop loop38) af' fun x af => x = .exit 0 ∧ Less 1 (sth (S38 L n c f g n) 40 [resO n f g]) af) fun x af => x = .exit 0 ∧ Less 1 (sth (S38 L n c f g n) 40 [resO n f g]) af) := by
        intro lo hi' af e1 e2 hless
        subst e1; subst e2
        refine Runs.less hless ?_
        let s0 : AF := sth [(4, .int .i64 (lowN f g (i + 1))), (5, .int .i64 (highN L f g (i + 1))), (17, resV n c), (18, i64 n), (19, i64 i)] 40 [resO n f g]
        let w : Value := .int .i64 (wrapF .i64 (Int.add (.ofNat i) (.ofNat 1)))
        refine Runs.regionL (af' := (s0.put (some 34) w H0).put (some 19) w H0) mixed hk hle (by kernel_rfl) ?_
        show Runs Tryd.prog 1 (.loop loop38) _ _
        have ew : i64 (i + 1) = w := by show Value.int .i64 (.ofNat (i + 1)) = w; rw [← wrap_succ (by omega : i < 4611686018427387904)]
        refine Runs.less (af1 := sth (S38 L n c f g (i + 1)) 40 [resO n f g]) (less_seenP (s38_clo Nat.zero_lt_one) ores (Nat.le_refl 1) ?_ (by kernel_rfl) (by kernel_rfl) (by kernel_rfl)) (ih (i + 1) (by omega))
        unfold S38
        rw [ew]
        kernel_rfl
      have tclo : ∀ (lo hi' : Int), ∀ p ∈ [(4, Value.int .i64 lo), (5, .int .i64 hi'), (17, resV n c), (18, i64 n), (19, i64 i)], Clo 1 p.2 := by
        intro lo hi' p hp
        simp only [List.mem_cons, List.mem_nil_iff, or_false] at hp
        rcases hp with rfl | rfl | rfl | rfl | rfl
        · exact clo_plain rfl
        · exact clo_plain rfl
        · exact clo_of 10 1 _ rfl
        · exact clo_plain rfl
        · exact clo_plain rfl
      refine Runs.cond (b := g i) (by kernel_rfl) (fun hb => ?_) (fun hb => ?_)
      · let r : Int := minV (highN L f g i) (wrapF .i64 (f i - 1))
        let b5 : AF := (((((b4.put (some 25) (.int .i64 (highN L f g i)) H2).put (some 26) (ptrV 1) H2).put (some 27) (.int .i64 (f i)) H2).put (some 28) (.int .i64 (wrapF .i64 (f i - 1))) H2).put (some 29) (.int .i64 r) H2).put (some 5) (.int .i64 r) H2
        refine Runs.regionL (af' := b5) mixed hk hle2 (by kernel_rfl) ?_
        refine next (lowN f g i) r b5 (by simp [lowN, hb]) (by simp [highN, hb, r]) (less_seenP (tclo _ _) ores (Nat.le_refl 1) (by kernel_rfl) (by kernel_rfl) (by kernel_rfl) (by kernel_rfl))
      · let r : Int := maxV (lowN f g i) (f i)
        let b5 : AF := ((((b4.put (some 30) (.int .i64 (lowN f g i)) H2).put (some 31) (ptrV 1) H2).put (some 32) (.int .i64 (f i)) H2).put (some 33) (.int .i64 r) H2).put (some 4) (.int .i64 r) H2
        refine Runs.regionL (ops := regOps (match tl (tl (inB (hd (behind 2 loop38)))) with | .cond _ _ e => e | c => c)) (id := 10) (af' := b5) mixed hk hle2 (by kernel_rfl) ?_
        refine next r (highN L f g i) b5 (by simp [lowN, hb, r]) (by simp [highN, hb]) (less_seenP (tclo _ _) ores (Nat.le_refl 1) (by kernel_rfl) (by kernel_rfl) (by kernel_rfl) (by kernel_rfl))
end
end Go.Proofs.YtgnkjmgkfibipaaDoor

/- IndexFunc over unknown results: the first of which a function says yes. -/
namespace Go.Proofs.YtgnkjmgkfibipaaDoor
set_option linter.unusedVariables false
set_option linter.unusedSimpArgs false
open Go Go.R
set_option maxRecDepth 1000000
noncomputable section

/-- The first number from i on, below m, of which p says yes; m: none. -/
def firstP (p : Nat → Bool) (m : Nat) : Nat → Nat → Nat
  | 0, i => m
  | d + 1, i => if p i then i else firstP p m d (i + 1)

def c92 : Code := bodyOf Tryd.f92
def loop92 : Code := inB (inB (tl (hd (behind 1 c92))))
def in92 : Code := inB (hd (behind 2 loop92))

theorem loop92_shape : loop92 = .seq (.region 2 (regOps (hd loop92)) false) (.seq (.cond (.tmp 9) .skip (.exit 0)) (.seq (.block 1 (.seq (.region 3 (regOps (hd in92)) false)
    (.seq (.region 4 (regOps (hd (tl in92))) false) (.cond (.tmp 16) (.seq (.region 5 (regOps (hd (thenOf (tl (tl in92))))) false) .ret) .skip)))) (.region 6 (regOps (behind 3 loop92)) false))) := by kernel_rfl

/-- One call of a function value, from a heap that it leaves as it was. -/
def Says1 (h : AH) (fid : FuncId) (args : List Value) (v : Value) : Prop :=
  ∀ (F : Nat → Prop) (w0 : World) (μ : Mp) (w : World) (args' : Array Value), HR F w0 μ h w → LR μ args args'.toList →
    Goes Tryd.prog fid args' w fun v' w' => ∃ μ', VR μ' v v' ∧ HR F w0 μ' h w' ∧ Ext μ μ' h h

def S92 (o m c : Nat) (fid : FuncId) (caps : Array Value) (i : Nat) : List (Nat × Value) :=
  [(0, .slice (some ⟨0, o * 2, none⟩) m c), (1, .func (.func fid) #[] caps), (7, i64 m), (8, i64 i)]

theorem index_loop (os : List AObj) (n o m c : Nat) (f : Nat → Int) (g : Nat → Bool) (fid : FuncId) (caps : Array Value) (p : Nat → Bool) (hm : m < 4611686018427387904) (hom : o + m ≤ n)
    (h0 : os[0]? = some (resO n f g)) (ho : ∀ x ∈ os, CloO os.length x) (hcap : ∀ x ∈ caps.toList, Clo os.length x)
    (CC : ∀ j, j < m → Says1 (hp os) fid (.agg #[.int .i64 (f (o + j)), .bool (g (o + j))] :: caps.toList) (.bool (p j))) : ∀ d i, i + d = m →
    Runs Tryd.prog os.length (.loop loop92) (sth (S92 o m c fid caps i) 19 os) fun x af => (x = .exit 0 ∧ firstP p m d i = m ∧ Less os.length (sth (S92 o m c fid caps m) 19 os) af) ∨
      (x = .ret ∧ firstP p m d i < m ∧ af.tm.get 4 = some (i64 (firstP p m d i)) ∧ ∀ j x, os[j]? = some x → af.h.get j = x) := by
  have hpos : 0 < os.length := by
    rcases Nat.lt_or_ge 0 os.length with h | h
    · exact h
    · rw [List.getElem?_eq_none h] at h0; cases h0
  have hle : os.length ≤ (hp os).next := by rw [hp_next]; exact Nat.le_refl _
  have hget0 : (hp os).get 0 = resO n f g := hp_get os 0 _ h0
  have hkb : CallOk Tryd.prog k38 := call_ok mixed noNum works_ok 1000
  have sclo : ∀ i, ∀ q ∈ S92 o m c fid caps i, Clo os.length q.2 := by
    intro i q hq
    simp only [S92, List.mem_cons, List.mem_nil_iff, or_false] at hq
    rcases hq with rfl | rfl | rfl | rfl
    · refine clo_of 10 _ _ ?_
      show (plainV _ || Nat.blt 0 os.length) = true
      rw [Bool.or_eq_true]; exact .inr (by rw [Nat.blt_eq]; exact hpos)
    · intro μ v' hv
      obtain ⟨f', c', rfl, h1, h2⟩ := hv.func_inv
      exact VR.func_of (clo_list (fun x hx => by simp at hx) h1) (clo_list hcap h2)
    · exact clo_plain rfl
    · exact clo_plain rfl
  have hgets : (List.range os.length).map (hp os).get = os := by
    apply List.ext_getElem?
    intro j
    rcases Nat.lt_or_ge j os.length with hj | hj
    · rw [List.getElem?_map, List.getElem?_range hj, Option.map_some, List.getElem?_eq_getElem hj]
      exact congrArg some (hp_get os j _ (List.getElem?_eq_getElem hj))
    · rw [List.getElem?_eq_none hj, List.getElem?_eq_none (by simp [hj])]
  have hble : Nat.ble os.length (hp os).next = true := by rw [hp_next]; exact Nat.ble_self_eq_true _
  intro d
  induction d with
  | zero =>
    intro i hi
    have him : i = m := by omega
    subst him
    refine Runs.loop ?_
    rw [loop92_shape]
    refine Runs.seq ?_
    refine Runs.regionL (af' := (sth (S92 o i c fid caps i) 19 os).put (some 9) (.bool (ltF (.ofNat i) (.ofNat i))) (hp os)) mixed hkb hle (by kernel_rfl) ?_
    have hf : ltF (.ofNat i) (.ofNat i) = false := by show Nat.blt i i = false; cases h : Nat.blt i i with | false => rfl | true => exact absurd (blt_lt h) (Nat.lt_irrefl i)
    refine Runs.seq (Runs.cond (b := ltF (.ofNat i) (.ofNat i)) (by kernel_rfl) (fun ht => by rw [hf] at ht; cases ht) (fun _ => Runs.exit (.inl ⟨rfl, rfl, ?_⟩)))
    exact less_seenP (sclo i) ho (Nat.le_refl _) (by kernel_rfl) (by kernel_rfl) hble hgets
  | succ d ih =>
    intro i hi
    have hlt : i < m := by omega
    refine Runs.loop ?_
    rw [loop92_shape]
    refine Runs.seq ?_
    let H := hp os
    let s0 : AF := sth (S92 o m c fid caps i) 19 os
    let a1 : AF := s0.put (some 9) (.bool (ltF (.ofNat i) (.ofNat m))) H
    refine Runs.regionL (af' := a1) mixed hkb hle (by kernel_rfl) ?_
    have ht : ltF (.ofNat i) (.ofNat m) = true := by show Nat.blt i m = true; rw [Nat.blt_eq]; exact hlt
    refine Runs.seq (Runs.cond (b := ltF (.ofNat i) (.ofNat m)) (by kernel_rfl) (fun _ => Runs.skip ?_) (fun hf => by rw [ht] at hf; cases hf))
    refine Runs.seq (Runs.block (Runs.seq ?_))
    let a2 : AF := (a1.put (some 10) (i64 i) H).put (some 5) (i64 i) H
    refine Runs.regionL (af' := a2) mixed hkb hle (by kernel_rfl) ?_
    show Runs Tryd.prog os.length _ a2 _
    refine Runs.seq ?_
    let ag : Value := .agg #[.int .i64 (f (o + i)), .bool (g (o + i))]
    let a3 : AF := ((a2.put (some 11) (.func (.func fid) #[] caps) H).put (some 12) (.slice (some ⟨0, o * 2, none⟩) m c) H).put (some 13) (i64 i) H
    let a4 : AF := a3.put (some 14) (.pointer (some ⟨0, o * 2 + i * 2, none⟩)) H
    let a5 : AF := a4.put (some 15) ag H
    let a6 : AF := a5.put (some 16) (.bool (p i)) H
    let cl : CallF := callAt fid (ag :: caps.toList) H (.bool (p i)) H k38
    have hcl : CallOk Tryd.prog cl := callAt_ok hkb (CC i hlt)
    let r4 : Code := hd (tl in92)
    have hsp : (regOps r4).toList = (regOps r4).toList.take 3 ++ ([opAt r4 3] ++ ([opAt r4 4] ++ [opAt r4 5])) := by kernel_rfl
    refine Runs.regionL (call := cl) (af' := a6) mixed hcl hle ?_ ?_
    · rw [hsp]
      refine opsL_app _ _ a2 a3 a6 (by kernel_rfl) (opsL_app _ _ a3 a4 a6 ((opsL_one (v := .pointer (some ⟨0, o * 2 + i * 2, none⟩)) (h := H) (by kernel_rfl) ?_).trans (by kernel_rfl))
        (opsL_app _ _ a4 a5 a6 ((opsL_one (v := ag) (h := H) (by kernel_rfl) ?_).trans (by kernel_rfl)) ((opsL_one (v := .bool (p i)) (h := H) (by kernel_rfl) ?_).trans (by kernel_rfl))))
      · rw [show (opAt r4 3).op = .indexAddr 42 (.tmp 12) (.tmp 13) by kernel_rfl]
        exact idx_step (info := (Tryd.prog.info? 52).get!) (n := m) (c := c) (sp := none) (kd := .i64) (e := 52) (by kernel_rfl) (by kernel_rfl) hlt (show Tryd.prog.underlying 42 = some (.slice 52) by kernel_rfl) (by kernel_rfl)
      · rw [show (opAt r4 4).op = .load 52 (.tmp 14) by kernel_rfl]
        have hd52 : ∃ d, Tryd.prog.underlying 52 = some d ∧ isAggD d = true := ⟨(Tryd.prog.underlying 52).get!, by kernel_rfl, by kernel_rfl⟩
        obtain ⟨d', hd1, hd2⟩ := hd52
        refine load_step (info := (Tryd.prog.info? 52).get!) (g := 0) (o := o * 2 + i * 2) (l := [.int .i64 (f (o + i)), .bool (g (o + i))]) (by kernel_rfl) (by kernel_rfl) hd1 hd2 ?_
        have := res_at (h := H) (i := o + i) hget0 (by omega)
        rw [show 0 + (o + i) * 2 = o * 2 + i * 2 by omega] at this
        exact this
      · let cc : Call := (callOp? (opAt r4 5).op).get (by kernel_rfl)
        rw [show (opAt r4 5).op = .call cc by kernel_rfl]
        exact call_step (by kernel_rfl) (by kernel_rfl)
    · show Runs Tryd.prog os.length _ a6 _
      refine Runs.cond (b := p i) (by kernel_rfl) (fun hb => ?_) (fun hb => Runs.skip ?_)
      · let a7 : AF := (a6.put (some 17) (i64 i) H).put (some 4) (i64 i) H
        refine Runs.seq (Runs.regionL (af' := a7) mixed hkb hle (by kernel_rfl) (Runs.ret ?_))
        have e : firstP p m (d + 1) i = i := by simp [firstP, hb]
        rw [e]
        exact .inr ⟨rfl, hlt, by kernel_rfl, fun j x hx => hp_get os j x hx⟩
      · let w : Value := .int .i64 (wrapF .i64 (Int.add (.ofNat i) (.ofNat 1)))
        have e : firstP p m (d + 1) i = firstP p m d (i + 1) := by simp [firstP, hb]
        rw [e]
        show Runs Tryd.prog os.length (.region 6 (regOps (behind 3 loop92)) false) a6 _
        refine Runs.regionL (af' := (a6.put (some 18) w H).put (some 8) w H) mixed hkb hle (by kernel_rfl) ?_
        show Runs Tryd.prog os.length (.loop loop92) _ _
        have ew : i64 (i + 1) = w := by show Value.int .i64 (.ofNat (i + 1)) = w; rw [← wrap_succ (by omega : i < 4611686018427387904)]
        refine Runs.less (af1 := sth (S92 o m c fid caps (i + 1)) 19 os) (less_seenP (sclo (i + 1)) ho (Nat.le_refl _) ?_ (by kernel_rfl) hble hgets) (ih (i + 1) (by omega))
        unfold S92
        rw [ew]
        kernel_rfl
end
end Go.Proofs.YtgnkjmgkfibipaaDoor

/- IndexFunc, ContainsFunc over unknown results, as contracts. -/
namespace Go.Proofs.YtgnkjmgkfibipaaDoor
set_option linter.unusedVariables false
set_option linter.unusedSimpArgs false
open Go Go.R
set_option maxRecDepth 1000000
noncomputable section

/-- The answer with the roots as they were. -/
def Holds (os : List AObj) (v : Value) (v' : Value) (h' : AH) : Prop := v' = v ∧ ∀ (j : Nat) x, os[j]? = some x → h'.get j = x

theorem says_of {os : List AObj} {fid : FuncId} {args : List Value} {v : Value} (L : Local Tryd.prog os.length fid args (hp os) (Holds os v)) (ca : ∀ x ∈ args, Clo os.length x) (co : ∀ x ∈ os, CloO os.length x) (cv : Clo os.length v) :
    Says1 (hp os) fid args v := by
  intro F w0 μ w args' H hl
  have at_ : ∀ i, i < os.length → (hp os).get i = os[i]?.getD .dead ∧ CloO os.length ((hp os).get i) := fun i hi => by
    have ho : os[i]? = some os[i] := List.getElem?_eq_getElem hi
    rw [hp_get os i _ ho, ho]
    exact ⟨rfl, co _ (List.getElem_mem hi)⟩
  refine L.framed (h2 := hp os) (v := v) (fun v' h' r => ⟨r.1, fun i hi => ?_⟩) (hp_next os) (by rw [hp_next]; exact Nat.le_refl _) (fun _ _ => rfl) ca (fun i hi => (at_ i hi).2) (fun i hi => (at_ i hi).2) cv (fun _ _ => .inl rfl) rfl (fun _ _ => rfl) H hl
  have ho : os[i]? = some os[i] := List.getElem?_eq_getElem hi
  rw [r.2 i _ ho, hp_get os i _ ho]

def idxV (p : Nat → Bool) (m : Nat) : Value := if firstP p m m 0 < m then i64 (firstP p m m 0) else .int .i64 (.negSucc 0)

theorem index_local (os : List AObj) (n o m c : Nat) (f : Nat → Int) (g : Nat → Bool) (fid : FuncId) (caps : Array Value) (p : Nat → Bool) (hm : m < 4611686018427387904) (hom : o + m ≤ n)
    (h0 : os[0]? = some (resO n f g)) (ho : ∀ x ∈ os, CloO os.length x) (hcap : ∀ x ∈ caps.toList, Clo os.length x)
    (CC : ∀ j, j < m → Says1 (hp os) fid (.agg #[.int .i64 (f (o + j)), .bool (g (o + j))] :: caps.toList) (.bool (p j))) :
    Local Tryd.prog os.length 92 [.slice (some ⟨0, o * 2, none⟩) m c, .func (.func fid) #[] caps] (hp os) (Holds os (idxV p m)) := by
  have hkb : CallOk Tryd.prog k38 := call_ok mixed noNum works_ok 1000
  have hle : os.length ≤ (hp os).next := by rw [hp_next]; exact Nat.le_refl _
  have hpos : 0 < os.length := by
    rcases Nat.lt_or_ge 0 os.length with h | h
    · exact h
    · rw [List.getElem?_eq_none h] at h0; cases h0
  have hgets : (List.range os.length).map (hp os).get = os := by
    apply List.ext_getElem?
    intro j
    rcases Nat.lt_or_ge j os.length with hj | hj
    · rw [List.getElem?_map, List.getElem?_range hj, Option.map_some, List.getElem?_eq_getElem hj]
      exact congrArg some (hp_get os j _ (List.getElem?_eq_getElem hj))
    · rw [List.getElem?_eq_none hj, List.getElem?_eq_none (by simp [hj])]
  have hble : Nat.ble os.length (hp os).next = true := by rw [hp_next]; exact Nat.ble_self_eq_true _
  have sclo : ∀ i, ∀ q ∈ S92 o m c fid caps i, Clo os.length q.2 := by
    intro i q hq
    simp only [S92, List.mem_cons, List.mem_nil_iff, or_false] at hq
    rcases hq with rfl | rfl | rfl | rfl
    · refine clo_of 10 _ _ ?_
      show (plainV _ || Nat.blt 0 os.length) = true
      rw [Bool.or_eq_true]; exact .inr (by rw [Nat.blt_eq]; exact hpos)
    · intro μ v' hv
      obtain ⟨f', c', rfl, h1, h2⟩ := hv.func_inv
      exact VR.func_of (clo_list (fun x hx => by simp at hx) h1) (clo_list hcap h2)
    · exact clo_plain rfl
    · exact clo_plain rfl
  refine local_of noNum Tryd.func92 (show Tryd.f92.body = some c92 by kernel_rfl) ?_
  rw [show c92 = .seq (.region 0 (regOps (hd c92)) false) (.seq (.seq (.region 1 (regOps (hd (hd (tl c92)))) false) (.block 0 (.loop loop92))) (.seq (.region 7 (regOps (hd (behind 2 c92))) false) .ret)) by kernel_rfl]
  let H := hp os
  let e0 : AF := entry Tryd.f92 [.slice (some ⟨0, o * 2, none⟩) m c, .func (.func fid) #[] caps] H
  let a1 : AF := e0.put (some 4) (i64 0) H
  refine Runs.seq (Runs.regionL (af' := a1) mixed hkb hle (by kernel_rfl) ?_)
  show Runs Tryd.prog os.length _ a1 _
  let a2 : AF := ((a1.put (some 6) (.slice (some ⟨0, o * 2, none⟩) m c) H).put (some 7) (i64 m) H).put (some 8) (i64 0) H
  refine Runs.seq (Runs.seq (Runs.regionL (af' := a2) mixed hkb hle (by kernel_rfl) ?_))
  show Runs Tryd.prog os.length _ a2 _
  refine Runs.block (Runs.less (af1 := sth (S92 o m c fid caps 0) 19 os) (less_seenP (sclo 0) ho (Nat.le_refl _) (by kernel_rfl) (by kernel_rfl) hble hgets) ?_)
  refine (index_loop os n o m c f g fid caps p hm hom h0 ho hcap CC m 0 (by omega)).mono fun x af hx => ?_
  rcases hx with ⟨rfl, e, less⟩ | ⟨rfl, e, h4, hh⟩
  · show Runs Tryd.prog os.length (.seq (.region 7 (regOps (hd (behind 2 c92))) false) .ret) af _
    refine Runs.less less (Runs.seq (Runs.regionL (af' := (sth (S92 o m c fid caps m) 19 os).put (some 4) (.int .i64 (.negSucc 0)) H) mixed hkb hle (by kernel_rfl) (Runs.ret ⟨.inr rfl, [.int .i64 (.negSucc 0)], by kernel_rfl, ?_, fun j x hx => hp_get os j x hx⟩)))
    show Value.int .i64 (.negSucc 0) = idxV p m
    unfold idxV
    rw [e, if_neg (Nat.lt_irrefl m)]
  · show (AExit.ret = .normal ∨ AExit.ret = .ret) ∧ _
    refine ⟨.inr rfl, [i64 (firstP p m m 0)], ?_, ?_, hh⟩
    · rw [show Tryd.f92.results.toList = [.tmp 4] by kernel_rfl]
      simp only [resultsA, h4]
    · show i64 (firstP p m m 0) = idxV p m
      unfold idxV
      rw [if_pos e]
end
end Go.Proofs.YtgnkjmgkfibipaaDoor

/- outside at all numbers; ContainsFunc over unknown results; the test of a result's level. -/
namespace Go.Proofs.YtgnkjmgkfibipaaDoor
set_option linter.unusedVariables false
set_option linter.unusedSimpArgs false
open Go Go.R
set_option maxRecDepth 1000000
noncomputable section

def outB (x : Int) (lo hi : Nat) : Bool := ltF x (.ofNat lo) || ltF (.ofNat hi) x
def outRow (x : Int) : Bool := (List.range 2).all fun lo => (List.range 14).all fun hi => says (callA Tryd.prog works 1000 74 [.int .i64 x, i64 lo, i64 hi] AH.empty) (.bool (outB x lo hi))
theorem out_neg (k : Nat) : outRow (.negSucc k) = true := by kernel_rfl
theorem out_big (k : Nat) : outRow (.ofNat (k + 14)) = true := by kernel_rfl
theorem out_small : ((List.range 14).all fun m => outRow (.ofNat m)) = true := by kernel_rfl
theorem out_row (x : Int) : outRow x = true := by
  cases x with
  | negSucc k => exact out_neg k
  | ofNat m =>
    by_cases h : m < 14
    · exact List.all_eq_true.1 out_small m (List.mem_range.2 h)
    · obtain ⟨k, rfl⟩ : ∃ k, m = k + 14 := ⟨m - 14, by omega⟩
      exact out_big k

theorem out_says (h : AH) (x : Int) {lo hi : Nat} (h1 : lo < 2) (h2 : hi < 14) : Says1 h 74 [.int .i64 x, i64 lo, i64 hi] (.bool (outB x lo hi)) := by
  have hr := out_row x
  simp only [outRow, List.all_eq_true, List.mem_range] at hr
  intro F w0 μ w args' H hl
  exact (local_says (call_ok mixed noNum works_ok 1000) (hr lo h1 hi h2)).closed (fun v hv => by simp only [List.mem_cons, List.mem_nil_iff, or_false] at hv; rcases hv with rfl | rfl | rfl <;> rfl) rfl h H hl

def c119 : Code := bodyOf Tryd.f119

theorem contains_local (os : List AObj) (n o m c : Nat) (f : Nat → Int) (g : Nat → Bool) (fid : FuncId) (caps : Array Value) (p : Nat → Bool) (hm : m < 4611686018427387904) (hom : o + m ≤ n)
    (h0 : os[0]? = some (resO n f g)) (ho : ∀ x ∈ os, CloO os.length x) (hcap : ∀ x ∈ caps.toList, Clo os.length x)
    (CC : ∀ j, j < m → Says1 (hp os) fid (.agg #[.int .i64 (f (o + j)), .bool (g (o + j))] :: caps.toList) (.bool (p j))) :
    Local Tryd.prog os.length 119 [.slice (some ⟨0, o * 2, none⟩) m c, .func (.func fid) #[] caps] (hp os) (Holds os (.bool (decide (firstP p m m 0 < m)))) := by
  have hkb : CallOk Tryd.prog k38 := call_ok mixed noNum works_ok 1000
  have hle : os.length ≤ (hp os).next := by rw [hp_next]; exact Nat.le_refl _
  have hpos : 0 < os.length := by
    rcases Nat.lt_or_ge 0 os.length with h | h
    · exact h
    · rw [List.getElem?_eq_none h] at h0; cases h0
  have S92 : Says1 (hp os) 92 [.slice (some ⟨0, o * 2, none⟩) m c, .func (.func fid) #[] caps] (idxV p m) := by
    refine says_of (index_local os n o m c f g fid caps p hm hom h0 ho hcap CC) (fun x hx => ?_) ho (clo_plain (by unfold idxV; split <;> rfl))
    simp only [List.mem_cons, List.mem_nil_iff, or_false] at hx
    rcases hx with rfl | rfl
    · refine clo_of 10 _ _ ?_
      show (plainV _ || Nat.blt 0 os.length) = true
      rw [Bool.or_eq_true]; exact .inr (by rw [Nat.blt_eq]; exact hpos)
    · intro μ v' hv
      obtain ⟨f', c', rfl, h1, h2⟩ := hv.func_inv
      exact VR.func_of (clo_list (fun x hx => by simp at hx) h1) (clo_list hcap h2)
  have go : ∀ (v : Value) (b : Bool), Says1 (hp os) 92 [.slice (some ⟨0, o * 2, none⟩) m c, .func (.func fid) #[] caps] v →
      (binA Tryd.prog .geq 3 v (i64 0) = some (.bool b)) → Local Tryd.prog os.length 119 [.slice (some ⟨0, o * 2, none⟩) m c, .func (.func fid) #[] caps] (hp os) (Holds os (.bool b)) := by
    intro v b hS hb
    refine local_of noNum Tryd.func119 (show Tryd.f119.body = some c119 by kernel_rfl) ?_
    rw [show c119 = .seq (.region 0 (regOps (hd c119)) false) (.seq (.region 1 (regOps (hd (tl c119))) false) .ret) by kernel_rfl]
    let H := hp os
    let sl : Value := .slice (some ⟨0, o * 2, none⟩) m c
    let fv : Value := .func (.func fid) #[] caps
    let a1 : AF := (entry Tryd.f119 [sl, fv] H).put (some 4) (.bool false) H
    refine Runs.seq (Runs.regionL (af' := a1) mixed hkb hle (by kernel_rfl) ?_)
    show Runs Tryd.prog os.length _ a1 _
    let a2 : AF := (a1.put (some 5) sl H).put (some 6) fv H
    let a3 : AF := a2.put (some 7) v H
    let a4 : AF := a3.put (some 8) (.bool b) H
    let a5 : AF := a4.put (some 4) (.bool b) H
    let cl : CallF := callAt 92 [sl, fv] H v H k38
    have hcl : CallOk Tryd.prog cl := callAt_ok hkb hS
    let r1 : Code := hd (tl c119)
    have hsp : (regOps r1).toList = (regOps r1).toList.take 2 ++ ([opAt r1 2] ++ ([opAt r1 3] ++ (regOps r1).toList.drop 4)) := by kernel_rfl
    refine Runs.seq (Runs.regionL (call := cl) (af' := a5) mixed hcl hle ?_ (Runs.ret ⟨.inr rfl, [.bool b], by kernel_rfl, rfl, fun j x hx => hp_get os j x hx⟩))
    rw [hsp]
    refine opsL_app _ _ a1 a2 a5 (by kernel_rfl) (opsL_app _ _ a2 a3 a5 ((opsL_one (v := v) (h := H) (by kernel_rfl) ?_).trans (by kernel_rfl)) (opsL_app _ _ a3 a4 a5 ((opsL_one (v := .bool b) (h := H) (by kernel_rfl) ?_).trans (by kernel_rfl)) (by kernel_rfl)))
    · let cc : Call := (callOp? (opAt r1 2).op).get (by kernel_rfl)
      rw [show (opAt r1 2).op = .call cc by kernel_rfl]
      exact call_step (by kernel_rfl) (by kernel_rfl)
    · have e7 : evalA a3.tm (.tmp 7) = some v := by kernel_rfl
      rw [show (opAt r1 3).op = .binOp .geq 3 (.tmp 7) (.const (i64 0)) 3 by kernel_rfl]
      simp only [stepA, callOp?, opA, e7]
      rw [show evalA a3.tm (.const (i64 0)) = some (i64 0) by kernel_rfl]
      simp only [hb, Option.map_some]
      rfl
  by_cases e : firstP p m m 0 < m
  · refine go (i64 (firstP p m m 0)) (decide (firstP p m m 0 < m)) ?_ ?_
    · have : idxV p m = i64 (firstP p m m 0) := by unfold idxV; rw [if_pos e]
      rw [← this]; exact S92
    · rw [decide_eq_true e]; rfl
  · refine go (.int .i64 (.negSucc 0)) (decide (firstP p m m 0 < m)) ?_ ?_
    · have : idxV p m = .int .i64 (.negSucc 0) := by unfold idxV; rw [if_neg e]
      rw [← this]; exact S92
    · rw [decide_eq_false e]; rfl
end
end Go.Proofs.YtgnkjmgkfibipaaDoor

/- checked, whatever the results are. -/
namespace Go.Proofs.YtgnkjmgkfibipaaDoor
set_option linter.unusedVariables false
set_option linter.unusedSimpArgs false
open Go Go.R
set_option maxRecDepth 1000000
noncomputable section

def cellL (L : Int) : AObj := .cells [.int .i64 L] true [] (some 3)
def c120 : Code := bodyOf Tryd.f120
def c89 : Code := bodyOf Tryd.f89

theorem two_clo {n : Nat} {f : Nat → Int} {g : Nat → Bool} {L : Int} : ∀ x ∈ [resO n f g, cellL L], CloO 2 x := fun x hx => by
  simp only [List.mem_cons, List.mem_nil_iff, or_false] at hx
  rcases hx with rfl | rfl
  · exact resO_clo 2 n f g
  · exact cloO_plain (fun v hv => by rw [List.mem_singleton.1 hv]; rfl) _ _

theorem chk1_local (x : Int) (y : Bool) (lv n : Nat) (f : Nat → Int) (g : Nat → Bool) (hlv : lv < 14) :
    Local Tryd.prog 2 120 [.agg #[.int .i64 x, .bool y], ptrV 1] (hp [resO n f g, cellL (.ofNat lv)]) (Holds [resO n f g, cellL (.ofNat lv)] (.bool (outB x 1 lv))) := by
  have hkb : CallOk Tryd.prog k38 := call_ok mixed noNum works_ok 1000
  let os : List AObj := [resO n f g, cellL (.ofNat lv)]
  let H := hp os
  have hle : 2 ≤ H.next := by show 2 ≤ (hp os).next; rw [hp_next]; exact Nat.le_refl 2
  refine local_of noNum Tryd.func120 (show Tryd.f120.body = some c120 by kernel_rfl) ?_
  rw [show c120 = .seq (.region 0 (regOps (hd c120)) false) (.seq (.region 1 (regOps (hd (tl c120))) false) .ret) by kernel_rfl]
  let ag : Value := .agg #[.int .i64 x, .bool y]
  let H1 : AH := (H.new (.cells [.int .i64 x, .bool y] true [] (some 52))).2
  let a1 : AF := ((entry Tryd.f120 [ag, ptrV 1] H).put (some 2) (ptrV 2) H1).put (some 3) (.bool false) H1
  have hle1 : 2 ≤ H1.next := Nat.le_succ_of_le hle
  refine Runs.seq (Runs.regionL (af' := a1) mixed hkb hle (by kernel_rfl) ?_)
  show Runs Tryd.prog 2 _ a1 _
  let a2 : AF := ((a1.put (some 4) (ptrV 2) H1).put (some 5) (.int .i64 x) H1).put (some 6) (i64 lv) H1
  let a3 : AF := a2.put (some 7) (.bool (outB x 1 lv)) H1
  let a4 : AF := a3.put (some 3) (.bool (outB x 1 lv)) H1
  let cl : CallF := callAt 74 [.int .i64 x, i64 1, i64 lv] H1 (.bool (outB x 1 lv)) H1 k38
  have hcl : CallOk Tryd.prog cl := callAt_ok hkb (out_says H1 x (by decide) hlv)
  let r1 : Code := hd (tl c120)
  have hsp : (regOps r1).toList = (regOps r1).toList.take 3 ++ ([opAt r1 3] ++ (regOps r1).toList.drop 4) := by kernel_rfl
  refine Runs.seq (Runs.regionL (call := cl) (af' := a4) mixed hcl hle1 ?_ (Runs.ret ⟨.inr rfl, [.bool (outB x 1 lv)], by kernel_rfl, rfl, fun j z hz => ?_⟩))
  · rw [hsp]
    refine opsL_app _ _ a1 a2 a4 (by kernel_rfl) (opsL_app _ _ a2 a3 a4 ((opsL_one (v := .bool (outB x 1 lv)) (h := H1) (by kernel_rfl) ?_).trans (by kernel_rfl)) (by kernel_rfl))
    let cc : Call := (callOp? (opAt r1 3).op).get (by kernel_rfl)
    rw [show (opAt r1 3).op = .call cc by kernel_rfl]
    exact call_step (by kernel_rfl) (by kernel_rfl)
  · have hj : j < 2 := by
      rcases Nat.lt_or_ge j 2 with h | h
      · exact h
      · rw [List.getElem?_eq_none h] at hz; cases hz
    show H1.get j = z
    have hn : H.next = 2 := by show (hp os).next = 2; rw [hp_next]; rfl
    rw [show H1 = (H.new (.cells [.int .i64 x, .bool y] true [] (some 52))).2 from rfl, AH.get_new, hn, if_neg (by omega)]
    exact hp_get os j z hz

def badP (f : Nat → Int) (lv : Nat) (j : Nat) : Bool := outB (f (0 + j)) 1 lv
def chkV (L : Int) (n : Nat) (f : Nat → Int) : Nat :=
  if outB L 0 12 then 1 else if ltF (.ofNat 20) (.ofNat n) then 3 else if decide (firstP (badP f L.toNat) n n 0 < n) then 2 else 0

theorem checked_local (L : Int) (n c : Nat) (f : Nat → Int) (g : Nat → Bool) (hn : n < 4611686018427387904) :
    Local Tryd.prog 1 89 [.int .i64 L, resV n c] (hp [resO n f g]) (Holds [resO n f g] (i64 (chkV L n f))) := by
  have hkb : CallOk Tryd.prog k38 := call_ok mixed noNum works_ok 1000
  let os1 : List AObj := [resO n f g]
  let os2 : List AObj := [resO n f g, cellL L]
  let H := hp os1
  let H2 := hp os2
  have hle : 1 ≤ H.next := by show 1 ≤ (hp os1).next; rw [hp_next]; exact Nat.le_refl 1
  have hle2 : 1 ≤ H2.next := by show 1 ≤ (hp os2).next; rw [hp_next]; exact (by decide : 1 ≤ 2)
  have keep : ∀ (j : Nat) z, os1[j]? = some z → H2.get j = z := by
    intro j z hz
    match j, hz with
    | 0, hz => exact hp_get os2 0 z hz
    | j + 1, hz => simp [os1] at hz
  refine local_of noNum Tryd.func89 (show Tryd.f89.body = some c89 by kernel_rfl) ?_
  let blk : Code := inB (hd (tl c89))
  let e1 : Code := match tl blk with | .cond _ _ e => e | c => c
  let e2 : Code := match tl e1 with | .cond _ _ e => e | c => c
  rw [show c89 = .seq (.region 0 (regOps (hd c89)) false) (.seq (.block 0 (.seq (.region 1 (regOps (hd blk)) false) (.cond (.tmp 5) (.seq (.region 2 (regOps (hd (thenOf (tl blk)))) false) .ret)
    (.seq (.region 3 (regOps (hd e1)) false) (.cond (.tmp 8) (.seq (.region 4 (regOps (hd (thenOf (tl e1)))) false) .ret)
    (.seq (.region 5 (regOps (hd e2)) false) (.cond (.tmp 12) (.seq (.region 6 (regOps (hd (thenOf (tl e2)))) false) .ret) .skip))))))) (.seq (.region 7 (regOps (hd (behind 2 c89))) false) .ret)) by kernel_rfl]
  let l : List (Nat × Value) := [(1, resV n c), (2, ptrV 1), (4, i64 0)]
  have lclo : ∀ p ∈ l, Clo 2 p.2 := clo_all (by kernel_rfl)
  let H1 : AH := (H.new (cellL L)).2
  let a1 : AF := ((entry Tryd.f89 [.int .i64 L, resV n c] H).put (some 2) (ptrV 1) H1).put (some 4) (i64 0) H1
  refine Runs.seq (Runs.regionL (af' := a1) mixed hkb hle (by kernel_rfl) ?_)
  show Runs Tryd.prog 1 _ a1 _
  refine Runs.less (af1 := sth l 16 os2) (less_seenP lclo two_clo (show 1 ≤ 2 by decide) (by kernel_rfl) (by kernel_rfl) (by kernel_rfl) (by kernel_rfl)) ?_
  let s0 : AF := sth l 16 os2
  refine Runs.seq (Runs.block (Runs.seq ?_))
  let b1 : AF := s0.put (some 6) (.int .i64 L) H2
  let b2 : AF := b1.put (some 7) (.bool (outB L 0 12)) H2
  let b3 : AF := b2.put (some 5) (.bool (outB L 0 12)) H2
  let cl : CallF := callAt 74 [.int .i64 L, i64 0, i64 12] H2 (.bool (outB L 0 12)) H2 k38
  have hcl : CallOk Tryd.prog cl := callAt_ok hkb (out_says H2 L (by decide) (by decide))
  have hsp : (regOps (hd blk)).toList = (regOps (hd blk)).toList.take 1 ++ ([opAt (hd blk) 1] ++ (regOps (hd blk)).toList.drop 2) := by kernel_rfl
  refine Runs.regionL (call := cl) (af' := b3) mixed hcl hle2 ?_ ?_
  · rw [hsp]
    refine opsL_app _ _ s0 b1 b3 (by kernel_rfl) (opsL_app _ _ b1 b2 b3 ((opsL_one (v := .bool (outB L 0 12)) (h := H2) (by kernel_rfl) ?_).trans (by kernel_rfl)) (by kernel_rfl))
    let cc : Call := (callOp? (opAt (hd blk) 1).op).get (by kernel_rfl)
    rw [show (opAt (hd blk) 1).op = .call cc by kernel_rfl]
    exact call_step (by kernel_rfl) (by kernel_rfl)
  show Runs Tryd.prog 1 _ b3 _
  refine Runs.cond (b := outB L 0 12) (by kernel_rfl) (fun hb => ?_) (fun hb => ?_)
  · refine Runs.seq (Runs.regionL (af' := b3.put (some 4) (i64 1) H2) mixed hkb hle2 (by kernel_rfl) (Runs.ret ⟨.inr rfl, [i64 1], by kernel_rfl, ?_, keep⟩))
    show i64 1 = i64 (chkV L n f)
    unfold chkV; rw [if_pos hb]
  · refine Runs.seq ?_
    let d1 : AF := ((b3.put (some 9) (resV n c) H2).put (some 10) (i64 n) H2).put (some 11) (.bool (ltF (.ofNat 20) (.ofNat n))) H2
    let d2 : AF := d1.put (some 8) (.bool (ltF (.ofNat 20) (.ofNat n))) H2
    refine Runs.regionL (af' := d2) mixed hkb hle2 (by kernel_rfl) ?_
    show Runs Tryd.prog 1 _ d2 _
    refine Runs.cond (b := ltF (.ofNat 20) (.ofNat n)) (by kernel_rfl) (fun hb2 => ?_) (fun hb2 => ?_)
    · refine Runs.seq (Runs.regionL (af' := d2.put (some 4) (i64 3) H2) mixed hkb hle2 (by kernel_rfl) (Runs.ret ⟨.inr rfl, [i64 3], by kernel_rfl, ?_, keep⟩))
      show i64 3 = i64 (chkV L n f)
      unfold chkV; rw [if_neg (by rw [hb]; exact Bool.false_ne_true), if_pos hb2]
    · obtain ⟨lv, rfl, hlv⟩ : ∃ lv, L = .ofNat lv ∧ lv < 13 := by
        cases L with
        | negSucc k => simp [outB, ltF] at hb
        | ofNat m =>
          refine ⟨m, rfl, ?_⟩
          simp only [outB, ltF, Bool.or_eq_false_iff] at hb
          have h2 := hb.2
          rcases Nat.lt_or_ge m 13 with h | h
          · exact h
          · have : Nat.blt 12 m = true := by rw [Nat.blt_eq]; omega
            rw [this] at h2; cases h2
      let B : Bool := decide (firstP (badP f lv) n n 0 < n)
      let fv : Value := .func (.func 120) #[] #[ptrV 1]
      have fclo : Clo 2 fv := clo_of 10 2 _ (by kernel_rfl)
      have CC : ∀ j, j < n → Says1 H2 120 (.agg #[.int .i64 (f (0 + j)), .bool (g (0 + j))] :: (#[ptrV 1] : Array Value).toList) (.bool (badP f lv j)) := by
        intro j hj
        refine says_of (os := [resO n f g, cellL (.ofNat lv)]) (chk1_local (f (0 + j)) (g (0 + j)) lv n f g (by omega)) (fun x hx => ?_) two_clo (clo_plain rfl)
        simp only [List.mem_cons, List.mem_nil_iff, or_false] at hx
        rcases hx with rfl | rfl
        · exact clo_of 10 _ _ (by kernel_rfl)
        · exact clo_of 10 _ _ (by kernel_rfl)
      have hS : Says1 H2 119 [resV n c, fv] (.bool B) := by
        have hcap : ∀ x ∈ (#[ptrV 1] : Array Value).toList, Clo 2 x := fun x hx => by
          simp only [List.mem_cons, List.mem_nil_iff, or_false] at hx
          subst hx
          exact clo_of 10 _ _ (by kernel_rfl)
        refine says_of (os := [resO n f g, cellL (.ofNat lv)]) (contains_local [resO n f g, cellL (.ofNat lv)] n 0 n c f g 120 #[ptrV 1] (badP f lv) hn (by omega) rfl two_clo hcap CC) (fun x hx => ?_) two_clo (clo_plain rfl)
        simp only [List.mem_cons, List.mem_nil_iff, or_false] at hx
        rcases hx with rfl | rfl
        · exact clo_of 10 _ _ (by kernel_rfl)
        · exact fclo
      let f1 : AF := (d2.put (some 13) (resV n c) H2).put (some 14) fv H2
      let f2 : AF := f1.put (some 15) (.bool B) H2
      let f3 : AF := f2.put (some 12) (.bool B) H2
      let cl2 : CallF := callAt 119 [resV n c, fv] H2 (.bool B) H2 k38
      have hcl2 : CallOk Tryd.prog cl2 := callAt_ok hkb hS
      have hsp2 : (regOps (hd e2)).toList = (regOps (hd e2)).toList.take 2 ++ ([opAt (hd e2) 2] ++ (regOps (hd e2)).toList.drop 3) := by kernel_rfl
      refine Runs.seq (Runs.regionL (call := cl2) (af' := f3) mixed hcl2 hle2 ?_ ?_)
      · rw [hsp2]
        refine opsL_app _ _ d2 f1 f3 (by kernel_rfl) (opsL_app _ _ f1 f2 f3 ((opsL_one (v := .bool B) (h := H2) (by kernel_rfl) ?_).trans (by kernel_rfl)) (by kernel_rfl))
        let cc : Call := (callOp? (opAt (hd e2) 2).op).get (by kernel_rfl)
        rw [show (opAt (hd e2) 2).op = .call cc by kernel_rfl]
        exact call_step (by kernel_rfl) (by kernel_rfl)
      show Runs Tryd.prog 1 _ f3 _
      refine Runs.cond (b := B) (by kernel_rfl) (fun hb3 => ?_) (fun hb3 => Runs.skip ?_)
      · refine Runs.seq (Runs.regionL (af' := f3.put (some 4) (i64 2) H2) mixed hkb hle2 (by kernel_rfl) (Runs.ret ⟨.inr rfl, [i64 2], by kernel_rfl, ?_, keep⟩))
        show i64 2 = i64 (chkV (.ofNat lv) n f)
        unfold chkV; rw [if_neg (by rw [hb]; exact Bool.false_ne_true), if_neg (by rw [hb2]; exact Bool.false_ne_true), if_pos (show decide (firstP (badP f (Int.ofNat lv).toNat) n n 0 < n) = true from hb3)]
      · show Runs Tryd.prog 1 (.seq (.region 7 (regOps (hd (behind 2 c89))) false) .ret) f3 _
        refine Runs.seq (Runs.regionL (af' := f3.put (some 4) (i64 0) H2) mixed hkb hle2 (by kernel_rfl) (Runs.ret ⟨.inr rfl, [i64 0], by kernel_rfl, ?_, keep⟩))
        show i64 0 = i64 (chkV (.ofNat lv) n f)
        unfold chkV; rw [if_neg (by rw [hb]; exact Bool.false_ne_true), if_neg (by rw [hb2]; exact Bool.false_ne_true), if_neg (show ¬ decide (firstP (badP f (Int.ofNat lv).toNat) n n 0 < n) = true by rw [show decide (firstP (badP f (Int.ofNat lv).toNat) n n 0 < n) = B from rfl, hb3]; exact Bool.false_ne_true)]
end
end Go.Proofs.YtgnkjmgkfibipaaDoor

/- Known, whatever the results are. -/
namespace Go.Proofs.YtgnkjmgkfibipaaDoor
set_option linter.unusedVariables false
set_option linter.unusedSimpArgs false
open Go Go.R
set_option maxRecDepth 1000000
noncomputable section

def knownV (L : Int) (n : Nat) (f : Nat → Int) (g : Nat → Bool) : Value :=
  if eqF (.ofNat (chkV L n f)) 0 then (if ltF (highN L f g n) (lowN f g n) then .tuple #[i64 0, i64 0, i64 12] else .tuple #[.int .i64 (lowN f g n), .int .i64 (highN L f g n), i64 0])
  else .tuple #[i64 0, i64 0, i64 (chkV L n f)]

theorem known_local (L : Int) (n c : Nat) (f : Nat → Int) (g : Nat → Bool) (hn : n < 4611686018427387904) :
    Local Tryd.prog 1 38 [.int .i64 L, resV n c] (hp [resO n f g]) (Holds [resO n f g] (knownV L n f g)) := by
  have hkb : CallOk Tryd.prog k38 := call_ok mixed noNum works_ok 1000
  let os1 : List AObj := [resO n f g]
  let H := hp os1
  have hle : 1 ≤ H.next := by show 1 ≤ (hp os1).next; rw [hp_next]; exact Nat.le_refl 1
  have ores : ∀ o ∈ os1, CloO 1 o := fun o ho => by rw [List.mem_singleton.1 ho]; exact resO_clo 1 n f g
  have keep : ∀ (j : Nat) z, os1[j]? = some z → H.get j = z := fun j z hz => hp_get os1 j z hz
  have rclo : Clo 1 (resV n c) := clo_of 10 1 _ rfl
  have hS : Says1 H 89 [.int .i64 L, resV n c] (i64 (chkV L n f)) := says_of (os := os1) (checked_local L n c f g hn) (fun x hx => by
    simp only [List.mem_cons, List.mem_nil_iff, or_false] at hx
    rcases hx with rfl | rfl
    · exact clo_plain rfl
    · exact rclo) ores (clo_plain rfl)
  refine local_of noNum Tryd.func38 (show Tryd.f38.body = some c38 by kernel_rfl) ?_
  let p1 : Code := hd (tl c38)
  let p5 : Code := behind 4 c38
  rw [show c38 = .seq (.region 0 (regOps (hd c38)) false) (.seq (.seq (.region 1 (regOps (hd p1)) false) (.seq (.region 2 (regOps (hd (tl p1))) false) (.cond (.tmp 14) (.seq (.region 3 (regOps (hd (thenOf (tl (tl p1))))) false) .ret) .skip)))
    (.seq (.region 4 (regOps (hd (behind 2 c38))) false) (.seq (.seq (.region 5 (regOps (hd (hd (behind 3 c38)))) false) (.block 0 (.loop loop38)))
    (.seq (.seq (.region 12 (regOps (hd (hd p5))) false) (.cond (.tmp 37) (.seq (.region 13 (regOps (hd (thenOf (tl (hd p5))))) false) .ret) .skip)) (.seq (.region 14 (regOps (hd (tl p5))) false) .ret))))) by kernel_rfl]
  let a1 : AF := (((entry Tryd.f38 [.int .i64 L, resV n c] H).put (some 4) (i64 0) H).put (some 5) (i64 0) H).put (some 6) (i64 0) H
  refine Runs.seq (Runs.regionL (af' := a1) mixed hkb hle (by kernel_rfl) ?_)
  show Runs Tryd.prog 1 _ a1 _
  let k : Nat := chkV L n f
  let b1 : AF := (a1.put (some 10) (.int .i64 L) H).put (some 11) (resV n c) H
  let b2 : AF := b1.put (some 12) (i64 k) H
  let b3 : AF := b2.put (some 7) (i64 k) H
  let cl : CallF := callAt 89 [.int .i64 L, resV n c] H (i64 k) H k38
  have hcl : CallOk Tryd.prog cl := callAt_ok hkb hS
  have hsp : (regOps (hd p1)).toList = (regOps (hd p1)).toList.take 2 ++ ([opAt (hd p1) 2] ++ (regOps (hd p1)).toList.drop 3) := by kernel_rfl
  refine Runs.seq (Runs.seq (Runs.regionL (call := cl) (af' := b3) mixed hcl hle ?_ ?_))
  · rw [hsp]
    refine opsL_app _ _ a1 b1 b3 (by kernel_rfl) (opsL_app _ _ b1 b2 b3 ((opsL_one (v := i64 k) (h := H) (by kernel_rfl) ?_).trans (by kernel_rfl)) (by kernel_rfl))
    let cc : Call := (callOp? (opAt (hd p1) 2).op).get (by kernel_rfl)
    rw [show (opAt (hd p1) 2).op = .call cc by kernel_rfl]
    exact call_step (by kernel_rfl) (by kernel_rfl)
  show Runs Tryd.prog 1 _ b3 _
  let d1 : AF := (b3.put (some 13) (i64 k) H).put (some 14) (.bool (!(eqF (.ofNat k) 0))) H
  refine Runs.seq (Runs.regionL (af' := d1) mixed hkb hle (by kernel_rfl) ?_)
  show Runs Tryd.prog 1 _ d1 _
  refine Runs.cond (b := !(eqF (.ofNat k) 0)) (by kernel_rfl) (fun hb => ?_) (fun hb => Runs.skip ?_)
  · let d2 : AF := (((d1.put (some 15) (i64 k) H).put (some 4) (i64 0) H).put (some 5) (i64 0) H).put (some 6) (i64 k) H
    refine Runs.seq (Runs.regionL (af' := d2) mixed hkb hle (by kernel_rfl) (Runs.ret ⟨.inr rfl, [i64 0, i64 0, i64 k], by kernel_rfl, ?_, keep⟩))
    show Value.tuple #[i64 0, i64 0, i64 k] = knownV L n f g
    have hb' : eqF (.ofNat (chkV L n f)) 0 = false := by
      have : (!(eqF (.ofNat (chkV L n f)) 0)) = true := hb
      simpa using this
    unfold knownV; rw [hb']; rfl
  · have hb' : eqF (.ofNat (chkV L n f)) 0 = true := by
      have : (!(eqF (.ofNat (chkV L n f)) 0)) = false := hb
      simpa using this
    show Runs Tryd.prog 1 _ d1 _
    let g1 : AF := ((d1.put (some 16) (.int .i64 L) H).put (some 4) (i64 0) H).put (some 5) (.int .i64 L) H
    refine Runs.seq (Runs.regionL (af' := g1) mixed hkb hle (by kernel_rfl) ?_)
    show Runs Tryd.prog 1 _ g1 _
    let g2 : AF := ((g1.put (some 17) (resV n c) H).put (some 18) (i64 n) H).put (some 19) (i64 0) H
    refine Runs.seq (Runs.seq (Runs.regionL (af' := g2) mixed hkb hle (by kernel_rfl) ?_))
    show Runs Tryd.prog 1 _ g2 _
    refine Runs.block (Runs.less (af1 := sth (S38 L n c f g 0) 40 os1) (less_seenP (s38_clo Nat.zero_lt_one) ores (Nat.le_refl 1) (by kernel_rfl) (by kernel_rfl) (by kernel_rfl) (by kernel_rfl)) ?_)
    refine (known_loop L n c f g hn n 0 (by omega)).mono fun x af hx => ?_
    obtain ⟨rfl, less⟩ := hx
    show Runs Tryd.prog 1 _ af _
    refine Runs.less less ?_
    let s0 : AF := sth (S38 L n c f g n) 40 os1
    let lo := lowN f g n
    let hi' := highN L f g n
    let h1 : AF := ((s0.put (some 35) (.int .i64 lo) H).put (some 36) (.int .i64 hi') H).put (some 37) (.bool (ltF hi' lo)) H
    refine Runs.seq (Runs.seq (Runs.regionL (af' := h1) mixed hkb hle (by kernel_rfl) ?_))
    show Runs Tryd.prog 1 _ h1 _
    refine Runs.cond (b := ltF hi' lo) (by kernel_rfl) (fun hc => ?_) (fun hc => Runs.skip ?_)
    · let h2 : AF := ((h1.put (some 4) (i64 0) H).put (some 5) (i64 0) H).put (some 6) (i64 12) H
      refine Runs.seq (Runs.regionL (af' := h2) mixed hkb hle (by kernel_rfl) (Runs.ret ⟨.inr rfl, [i64 0, i64 0, i64 12], by kernel_rfl, ?_, keep⟩))
      show Value.tuple #[i64 0, i64 0, i64 12] = knownV L n f g
      unfold knownV; rw [if_pos hb', if_pos hc]
    · show Runs Tryd.prog 1 _ h1 _
      let h2 : AF := ((((h1.put (some 38) (.int .i64 lo) H).put (some 39) (.int .i64 hi') H).put (some 4) (.int .i64 lo) H).put (some 5) (.int .i64 hi') H).put (some 6) (i64 0) H
      refine Runs.seq (Runs.regionL (af' := h2) mixed hkb hle (by kernel_rfl) (Runs.ret ⟨.inr rfl, [.int .i64 lo, .int .i64 hi', i64 0], by kernel_rfl, ?_, keep⟩))
      show Value.tuple #[.int .i64 lo, .int .i64 hi', i64 0] = knownV L n f g
      unfold knownV; rw [if_pos hb', if_neg (by rw [hc]; exact Bool.false_ne_true)]
end
end Go.Proofs.YtgnkjmgkfibipaaDoor
