/- A call that only looks at some rows, whose slices stand anywhere among its arguments: known at views, told at any slices in any heap; with a flat answer, or with a new row in whatever wrapping. -/
import Derived.Test.YtbcjmmbmeebfgaaGreatDoorSFloodedRTwo
namespace Go.R
set_option linter.unusedVariables false
set_option linter.unusedSimpArgs false
open Go Go.RowKit
noncomputable section
variable {P : Program}

structure View where
  i : Nat
  o : Nat
  n : Nat
  cells : List Value

/-- A slice in a heap over what a view shows. -/
def Sees (h : AH) (v : View) (s : Value) : Prop :=
  ∃ c lv par ty, h.get v.i = .cells c lv par ty ∧ (∀ (k : Nat) u, v.cells[k]? = some u → c[v.o + k]? = some u) ∧ v.o + v.cells.length ≤ c.length ∧ (∀ u ∈ v.cells, plainV u = true) ∧ SliceAt v.i v.o v.n s

def smallS (j n cap : Nat) : Value := .slice (some ⟨j, 0, none⟩) n cap
def viewsO (vs : List View) : List AObj := vs.map fun v => viewC v.cells

/-- Where the slices stand among the arguments. -/
def ArgC (m : Nat) (C : List Value → List Value) : Prop := ∀ (μ : Mp) (ss l : List Value), ss.length = m → LR μ (C ss) l → ∃ xs, LR μ ss xs ∧ ∀ (μ1 : Mp) (ss1 : List Value), LR μ1 ss1 xs → LR μ1 (C ss1) l
def ResC (D : Value → Value) : Prop := ∀ (μ : Mp) (s y : Value), VR μ (D s) y → ∃ x, VR μ s x ∧ ∀ (μ1 : Mp) (s1 : Value), VR μ1 s1 x → VR μ1 (D s1) y

def FitsC : List View → List Nat → Prop
  | [], [] => True
  | v :: vs, c :: cs => v.n ≤ c ∧ FitsC vs cs
  | _, _ => False
def smalls : Nat → List View → List Nat → List Value
  | j, v :: vs, c :: cs => smallS j v.n c :: smalls (j + 1) vs cs
  | _, _, _ => []
def SeesL (h : AH) : List View → List Value → Prop
  | [], [] => True
  | v :: vs, s :: ss => Sees h v s ∧ SeesL h vs ss
  | _, _ => False

theorem seesL_len {h : AH} : ∀ {vs : List View} {ss : List Value}, SeesL h vs ss → ss.length = vs.length
  | [], [], _ => rfl
  | v :: vs, s :: ss, hh => by simp [seesL_len hh.2]
  | [], _ :: _, hh => hh.elim
  | _ :: _, [], hh => hh.elim

/-- The places of the views, and the slices as they are seen there. -/
theorem places_of {h : AH} {F : Nat → Prop} {w0 w : World} {μ : Mp} (H : HR F w0 μ h w) : ∀ {vs : List View} {ss xs : List Value}, SeesL h vs ss → LR μ ss xs →
    ∃ (ps : List (Nat × Nat × Nat)) (caps : List Nat), FitsC vs caps ∧ ps.length = vs.length ∧ (∀ (j : Nat) v p, vs[j]? = some v → ps[j]? = some p → ∀ μ1, OR μ1 (viewC v.cells) p.1 p.2.1 p.2.2 w) ∧
      ∀ (μ1 : Mp) (k : Nat), (∀ j, j < vs.length → μ1 (k + j) = ps[j]?) → LR μ1 (smalls k vs caps) xs
  | [], [], [], _, _ => ⟨[], [], trivial, rfl, fun j v p hv => by simp at hv, fun _ _ _ => LR.nil⟩
  | [], [], x :: xs, _, hl => absurd hl.1 (by simp)
  | v :: vs, s :: ss, [], _, hl => absurd hl.1 (by simp)
  | [], s :: ss, _, hh, _ => hh.elim
  | v :: vs, [], _, hh, _ => hh.elim
  | v :: vs, s :: ss, x :: xs, hh, hl => by
    obtain ⟨⟨c, lv, par, ty, hg, hsub, room, hpl, hs⟩, hrest⟩ := hh
    obtain ⟨b, z, e, cap, hm, hc, rfl⟩ := slice_place hs hl.head
    obtain ⟨ps, caps, q1, q2, q3, q4⟩ := places_of H hrest hl.tail
    refine ⟨(b, z + v.o, z + v.o + v.cells.length) :: ps, cap :: caps, ⟨hc, q1⟩, by simp [q2], fun j u p hu hp μ1 => ?_, fun μ1 k hk => ?_⟩
    · cases j with
      | zero =>
        simp only [List.getElem?_cons_zero, Option.some.injEq] at hu hp
        subst hu; subst hp
        exact view_or H hm hg hsub room hpl
      | succ j => exact q3 j u p (by simpa using hu) (by simpa using hp) μ1
    · have h0 := hk 0 (by simp)
      rw [Nat.add_zero, List.getElem?_cons_zero] at h0
      exact LR.cons (VR.slice (μ := μ1) (i := k) (o := 0) h0) (q4 μ1 (k + 1) fun j hj => by
        have := hk (j + 1) (by simpa using hj)
        rw [List.getElem?_cons_succ] at this
        rw [← this]; congr 1; omega)

theorem tell_inC {m : Nat} {C : List Value → List Value} (hC : ArgC m C) {h : AH} {F : Nat → Prop} {w0 w : World} {μ : Mp} {args' : Array Value} {vs : List View} {ss : List Value} (hm : vs.length = m) (hv : SeesL h vs ss) (H : HR F w0 μ h w) (hl : LR μ (C ss) args'.toList) :
    ∃ μ1 caps, FitsC vs caps ∧ HR (fun b => b < w.heap.size) w μ1 (hp (viewsO vs)) w ∧ LR μ1 (C (smalls 0 vs caps)) args'.toList := by
  obtain ⟨xs, r1, r2⟩ := hC μ ss args'.toList ((seesL_len hv).trans hm) hl
  obtain ⟨ps, caps, q1, q2, q3, q4⟩ := places_of H hv r1
  let μ1 : Mp := fun j => ps[j]?
  have gv : ∀ (j : Nat) v, vs[j]? = some v → (hp (viewsO vs)).get j = viewC v.cells := fun j v hj => hp_get _ j _ (by unfold viewsO; rw [List.getElem?_map, hj]; rfl)
  have at_ : ∀ {j p}, μ1 j = some p → ∃ v, vs[j]? = some v := by
    intro j p hj
    have hlt : j < ps.length := (List.getElem?_eq_some_iff.1 hj).1
    rw [q2] at hlt
    exact ⟨vs[j], List.getElem?_eq_getElem hlt⟩
  have hnext : (hp (viewsO vs)).next = vs.length := by rw [hp_next]; simp [viewsO]
  refine ⟨μ1, caps, q1, ⟨fun j p hj => ?_, fun j b z e hj => ?_, fun j b z e hj hw => ?_, fun i j b zi ei zj ej hne hi hj => ?_, fun j cc l p ty hj hg k hk => ?_, rfl, rfl, rfl, Nat.le_refl _, fun b hb => ⟨hb, rfl⟩, H.laidNow⟩, r2 μ1 _ (q4 μ1 0 fun j _ => by rw [Nat.zero_add])⟩
  · rw [hnext, ← q2]; exact (List.getElem?_eq_some_iff.1 hj).1
  · obtain ⟨v, hv'⟩ := at_ hj
    rw [gv j v hv']
    exact q3 j v _ hv' hj μ1
  · obtain ⟨v, hv'⟩ := at_ hj
    rw [gv j v hv'] at hw; cases hw
  · obtain ⟨v, hv'⟩ := at_ hi
    obtain ⟨u, hu'⟩ := at_ hj
    rw [gv i v hv', gv j u hu']
    exact .inr (.inr ⟨rfl, rfl⟩)
  · cases hmj : μ1 j with
    | none => exact absurd hmj hj
    | some p' =>
      obtain ⟨v, hv'⟩ := at_ hmj
      rw [gv j v hv'] at hg
      cases hg
      cases hk

/-- A flat answer. -/
theorem tellF {m : Nat} {C : List Value → List Value} (hC : ArgC m C) {fid : FuncId} {h : AH} {vs : List View} {ss : List Value} {v : Value} {R : Value → AH → Prop} (hm : vs.length = m)
    (L : ∀ caps, FitsC vs caps → Local P m fid (C (smalls 0 vs caps)) (hp (viewsO vs)) R) (hR : ∀ v' h', R v' h' → v' = v) (fv : ∀ (μ μ' : Mp) x, VR μ v x → VR μ' v x) (hv : SeesL h vs ss) : Says P h fid (C ss) v h := by
  intro F w0 μ w args' H hl
  obtain ⟨μ1, caps, hc, H1, hl1⟩ := tell_inC hC hm hv H hl
  refine (L caps hc _ w μ1 w args' H1 hl1).mono fun v' w' ⟨u, h', r, μ', hv', H', K⟩ => ?_
  have eu := hR u h' r
  subst eu
  have keepB : ∀ b, b < w.heap.size → w'.heap[b]? = w.heap[b]? := fun b hb => (H'.fr b hb).2
  refine ⟨μ, fv _ _ _ hv', ⟨H.dom, fun j b' z' e' hj => ?_, H.own, H.sep, H.par, H'.os.trans H.os, H'.tape.trans H.tape, H'.output.trans H.output, Nat.le_trans H.size H'.size, fun b' hb => ?_, H.tab⟩, ⟨Sub.refl μ, Nat.le_refl _, fun j hj hm' => ⟨hm', rfl⟩⟩⟩
  · by_cases hd : h.get j = .dead
    · rw [hd]; trivial
    · exact (H.obj j b' z' e' hj).world (keepB b' (H.inb hj hd))
  · have q := H.fr b' hb
    exact ⟨q.1, (keepB b' (Nat.lt_of_lt_of_le q.1 H.size)).trans q.2⟩

def newS (z i n : Nat) : Value := .slice (some ⟨i, 0, some (z + 1)⟩) n n
def rowIsC (D : Value → Value) (z n1 : Nat) (cells : List Value) (ty : Option TypeId) (v' : Value) (h' : AH) : Prop :=
  ∃ i par, (v' = D (newS z i n1) ∨ v' = D (.slice (some ⟨i, 0, none⟩) n1 n1)) ∧ h'.get i = .cells cells true par ty

/-- A new row of plain values, in a wrapping. -/
theorem tellN {m z : Nat} {C : List Value → List Value} (hC : ArgC m C) {D : Value → Value} (hD : ResC D) {fid : FuncId} {h : AH} {vs : List View} {ss : List Value} {n1 : Nat} {cells1 : List Value} {ty1 : Option TypeId} (hm : vs.length = m)
    (L : ∀ caps, FitsC vs caps → Local P m fid (C (smalls 0 vs caps)) (hp (viewsO vs)) (rowIsC D z n1 cells1 ty1)) (hl1 : cells1.length = n1 * (z + 1)) (hcl : ∀ u ∈ cells1, plainV u = true) (hv : SeesL h vs ss) :
    Says P h fid (C ss) (D (newS z h.next n1)) (h.new (.cells cells1 true [] ty1)).2 := by
  intro F w0 μ w args' H hl
  obtain ⟨μ1, caps, hc, H1, hl2⟩ := tell_inC hC hm hv H hl
  refine (L caps hc _ w μ1 w args' H1 hl2).mono fun v' w' ⟨u, h', ⟨i', par', eu, hi'⟩, μ', hv', H', K⟩ => ?_
  have slice : ∀ {x y : Value}, (x = newS z i' n1 ∨ x = .slice (some ⟨i', 0, none⟩) n1 n1) → VR μ' x y →
      ∃ b2 z2 ee c2, μ' i' = some (b2, z2, ee) ∧ n1 ≤ c2 ∧ z2 + 0 + c2 * (z + 1) ≤ ee ∧ y = .slice (some ⟨b2, z2 + 0, none⟩) n1 c2 := by
    intro x y hx hxy
    rcases hx with rfl | rfl
    · obtain ⟨b, z0, ee, c', hm, q1, q2, q3, rfl⟩ := hxy.sliceU_inv
      exact ⟨b, z0, ee, c', hm, q2, q3, rfl⟩
    · obtain ⟨b, z0, ee, hm, rfl⟩ := hxy.slice_inv
      have hob := H'.obj i' b z0 ee hm
      rw [hi'] at hob
      obtain ⟨cs, el, fr, _, h2, _⟩ := hob
      exact ⟨b, z0, ee, n1, hm, Nat.le_refl _, by omega, rfl⟩
  have fin : ∀ {y : Value}, (∃ b2 z2 ee c2, μ' i' = some (b2, z2, ee) ∧ n1 ≤ c2 ∧ z2 + 0 + c2 * (z + 1) ≤ ee ∧ y = .slice (some ⟨b2, z2 + 0, none⟩) n1 c2) →
      ∃ μ', VR μ' (newS z h.next n1) y ∧ HR F w0 μ' (h.new (.cells cells1 true [] ty1)).2 w' ∧ Ext μ μ' h (h.new (.cells cells1 true [] ty1)).2 := by
    intro y ⟨b2, z2, ee, c2, hm2, p2', p3', ey⟩
    subst ey
    have hob2 := H'.obj i' b2 z2 ee hm2
    rw [hi'] at hob2
    have hnew : ¬ b2 < w.heap.size := H'.own i' b2 z2 ee hm2 (by rw [hi']; rfl)
    have keepB : ∀ b, b < w.heap.size → w'.heap[b]? = w.heap[b]? := fun b hb => (H'.fr b hb).2
    have hnone : μ h.next = none := H.none_next (Nat.le_refl _)
    have hsub : Sub μ (μ.add h.next (b2, z2, ee)) := Mp.add_sub hnone
    have get_old : ∀ j, j ≠ h.next → (h.new (.cells cells1 true [] ty1)).2.get j = h.get j := fun j hj => by rw [AH.get_new, if_neg hj]
    have get_new' : (h.new (.cells cells1 true [] ty1)).2.get h.next = .cells cells1 true [] ty1 := by rw [AH.get_new, if_pos rfl]
    have add_inv : ∀ {j p}, μ.add h.next (b2, z2, ee) j = some p → (j = h.next ∧ p = (b2, z2, ee)) ∨ (j ≠ h.next ∧ μ j = some p) := by
      intro j p hj
      unfold Mp.add at hj
      split at hj
      · rename_i e1; cases hj; exact .inl ⟨e1, rfl⟩
      · rename_i e1; exact .inr ⟨e1, hj⟩
    have hob' : OR (μ.add h.next (b2, z2, ee)) (.cells cells1 true [] ty1) b2 z2 ee w' := by
      obtain ⟨cs, el, fr, h1, h2, h3, h4, h5⟩ := hob2
      refine ⟨cs, el, fr, h1, h2, h3, fun k v hk => ?_, h5⟩
      obtain ⟨v', g1, g2⟩ := h4 k v hk
      have hp := hcl v (List.mem_of_getElem? hk)
      exact ⟨v', g1, by rw [plain_same g2 hp]; exact .plain hp⟩
    have newold : ∀ j zj ej, μ j = some (b2, zj, ej) → h.get j = .dead := by
      intro j zj ej hj
      by_cases hd : h.get j = .dead
      · exact hd
      · exact absurd (H.inb hj hd) hnew
    refine ⟨μ.add h.next (b2, z2, ee), ?_, ⟨fun j p hj => ?_, fun j b' z' e' hj => ?_, fun j b' z' e' hj hw => ?_, fun j kk b' zj ej zk ek hne hj hk => ?_, fun j c l p ty' hj hg kk hk => ?_,
      H'.os.trans H.os, H'.tape.trans H.tape, H'.output.trans H.output, Nat.le_trans H.size H'.size, fun b' hb => ?_, H.tab⟩, ⟨hsub, by simp, fun j hj hm' => ?_⟩⟩
    · exact VR.sliceU (μ := μ.add h.next (b2, z2, ee)) (i := h.next) (o := 0) (n := n1) (c := n1) (c' := c2) (s := z) (b := b2) (z := z2) (e := ee) (by simp [Mp.add]) (Nat.le_refl _) p2' p3'
    · rcases add_inv hj with ⟨rfl, _⟩ | ⟨_, hj⟩
      · simp
      · have := H.dom j p hj; simp; omega
    · rcases add_inv hj with ⟨rfl, e1⟩ | ⟨hne, hj⟩
      · cases e1; rw [get_new']; exact hob'
      · rw [get_old j hne]
        by_cases hd : h.get j = .dead
        · rw [hd]; trivial
        · exact ((H.obj j b' z' e' hj).mono hsub).world (keepB b' (H.inb hj hd))
    · rcases add_inv hj with ⟨rfl, e1⟩ | ⟨hne, hj⟩
      · cases e1
        exact fun hF => hnew (Nat.lt_of_lt_of_le (H.fr _ hF).1 H.size)
      · rw [get_old j hne] at hw; exact H.own j b' z' e' hj hw
    · rcases add_inv hj with ⟨rfl, e1⟩ | ⟨hne1, hj⟩
      · cases e1
        rcases add_inv hk with ⟨rfl, _⟩ | ⟨hne2, hk⟩
        · exact absurd rfl hne
        · rw [get_old kk hne2, newold kk zk ek hk]; exact .inr (.inl (by unfold share; trivial))
      · rcases add_inv hk with ⟨rfl, e1⟩ | ⟨hne2, hk⟩
        · cases e1
          rw [get_old j hne1, newold j zj ej hj]; exact .inl (by unfold share; trivial)
        · rw [get_old j hne1, get_old kk hne2]; exact H.sep j kk b' zj ej zk ek hne hj hk
    · by_cases e1 : j = h.next
      · subst e1; rw [get_new'] at hg; cases hg; cases hk
      · rw [get_old j e1] at hg
        have hj' : μ j ≠ none := by
          unfold Mp.add at hj; rw [if_neg e1] at hj; exact hj
        have := H.par j c l p ty' hj' hg kk hk
        intro hn
        unfold Mp.add at hn
        split at hn
        · cases hn
        · exact this hn
    · have q := H.fr b' hb
      exact ⟨q.1, (keepB b' (Nat.lt_of_lt_of_le q.1 H.size)).trans q.2⟩
    · have hne : j ≠ h.next := by omega
      refine ⟨by unfold Mp.add; rw [if_neg hne]; exact hm', get_old j hne⟩
  rcases eu with rfl | rfl
  · obtain ⟨x, hx, hback⟩ := hD μ' _ _ hv'
    obtain ⟨μ2, r1, r2, r3⟩ := fin (slice (.inl rfl) hx)
    exact ⟨μ2, hback _ _ r1, r2, r3⟩
  · obtain ⟨x, hx, hback⟩ := hD μ' _ _ hv'
    obtain ⟨μ2, r1, r2, r3⟩ := fin (slice (.inr rfl) hx)
    exact ⟨μ2, hback _ _ r1, r2, r3⟩

/-! ### Wrappings -/
theorem lr_agg {μ : Mp} {l : List Value} {y : Value} (h : VR μ (.agg l.toArray) y) : ∃ l', y = .agg l'.toArray ∧ LR μ l l' := by
  obtain ⟨a', rfl, ha⟩ := h.agg_inv
  exact ⟨a'.toList, by simp, by simpa using ha⟩

/-- One slice alone, plain values around it. -/
def c1A (pre post : List Value) : List Value → List Value
  | [s] => pre ++ s :: post
  | _ => []
theorem c1A_ok {pre post : List Value} (pp : ∀ v ∈ pre, plainV v = true) (pq : ∀ v ∈ post, plainV v = true) : ArgC 1 (c1A pre post) := by
  intro μ ss l hlen hl
  match ss, hlen with
  | [s], _ =>
    obtain ⟨pre', s', post', rfl, r1, r2, r3⟩ := lr_split hl
    refine ⟨[s'], LR.cons r2 LR.nil, fun μ1 ss1 h1 => ?_⟩
    match ss1, h1 with
    | [s1], h1 => exact lr_join (plain_mono pp r1) h1.head (plain_mono pq r3)
    | [], h1 => exact absurd h1.1 (by simp)
    | _ :: _ :: _, h1 => exact absurd h1.1 (by simp)

/-- A struct with one slice, and plain values behind it. -/
def c1G (pre post rest : List Value) : List Value → List Value
  | [s] => .agg (pre ++ s :: post).toArray :: rest
  | _ => []
theorem c1G_ok {pre post rest : List Value} (pp : ∀ v ∈ pre, plainV v = true) (pq : ∀ v ∈ post, plainV v = true) (pr : ∀ v ∈ rest, plainV v = true) : ArgC 1 (c1G pre post rest) := by
  intro μ ss l hlen hl
  match ss, hlen with
  | [s], _ =>
    match l, hl with
    | [], hl => exact absurd hl.1 (by simp [c1G])
    | y :: ys, hl =>
      obtain ⟨l', rfl, hy⟩ := lr_agg hl.head
      obtain ⟨pre', s', post', rfl, r1, r2, r3⟩ := lr_split hy
      refine ⟨[s'], LR.cons r2 LR.nil, fun μ1 ss1 h1 => ?_⟩
      match ss1, h1 with
      | [s1], h1 => exact LR.cons (VR.agg_of (by simpa using lr_join (plain_mono pp r1) h1.head (plain_mono pq r3))) (plain_mono pr hl.tail)
      | [], h1 => exact absurd h1.1 (by simp)
      | _ :: _ :: _, h1 => exact absurd h1.1 (by simp)

theorem resId : ResC (fun s => s) := fun μ s y h => ⟨y, h, fun _ _ h1 => h1⟩
/-- With a plain value behind. -/
def dT (e : Value) (s : Value) : Value := .tuple #[s, e]
theorem dT_ok {e : Value} (pe : plainV e = true) : ResC (dT e) := by
  intro μ s y h
  obtain ⟨vs, rfl, hl⟩ := h.tuple_inv
  obtain ⟨x, u, ex, hx, hu⟩ := hl.two rfl
  refine ⟨x, hx, fun μ1 s1 h1 => ?_⟩
  have : vs = #[x, u] := arr_eq (by simpa using ex)
  subst this
  rw [plain_same hu pe]
  exact VR.tuple_of (LR.cons h1 (LR.cons (.plain pe) LR.nil))
/-- In a struct, and a plain value behind. -/
def dG (g e : Value) (s : Value) : Value := .tuple #[.agg #[s, g], e]
theorem dG_ok {g e : Value} (pg : plainV g = true) (pe : plainV e = true) : ResC (dG g e) := by
  intro μ s y h
  obtain ⟨vs, rfl, hl⟩ := h.tuple_inv
  obtain ⟨x, u, ex, hx, hu⟩ := hl.two rfl
  have : vs = #[x, u] := arr_eq (by simpa using ex)
  subst this
  obtain ⟨a', rfl, ha⟩ := hx.agg_inv
  obtain ⟨x0, x1, ex0, hx0, hx1⟩ := ha.two rfl
  have : a' = #[x0, x1] := arr_eq (by simpa using ex0)
  subst this
  refine ⟨x0, hx0, fun μ1 s1 h1 => ?_⟩
  rw [plain_same hu pe, plain_same hx1 pg]
  exact VR.tuple_of (LR.cons (VR.agg_of (LR.cons h1 (LR.cons (.plain pg) LR.nil))) (LR.cons (.plain pe) LR.nil))
end
end Go.R
