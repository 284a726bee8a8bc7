/- A call that looks at two slices, known at two views, told at any two slices in any heap. -/
import Derived.Test.YtgnkjmgkfibipaaDoorSWordedRG6
namespace Go.R
set_option linter.unusedVariables false
set_option linter.unusedSimpArgs false
open Go Go.RowKit
noncomputable section
variable {P : Program}

theorem slice_place {μ : Mp} {i o n : Nat} {s s' : Value} (hs : SliceAt i o n s) (r : VR μ s s') : ∃ b z e cap, μ i = some (b, z, e) ∧ n ≤ cap ∧ s' = .slice (some ⟨b, z + o, none⟩) n cap := by
  rcases hs with ⟨q, rfl⟩ | ⟨cap, hc, rfl⟩
  · obtain ⟨b, z, e, c', hm, q1, q2, q3, rfl⟩ := r.sliceU_inv
    exact ⟨b, z, e, c', hm, q2, rfl⟩
  · obtain ⟨b, z, e, hm, rfl⟩ := r.slice_inv
    exact ⟨b, z, e, cap, hm, hc, rfl⟩

def viewC (cells : List Value) : AObj := .cells cells false [] none

theorem view_or {μ μ1 : Mp} {h : AH} {F : Nat → Prop} {w0 w : World} {i o b z e : Nat} {c cells : List Value} {lv : Bool} {par : List Nat} {ty : Option TypeId} (H : HR F w0 μ h w) (hm : μ i = some (b, z, e)) (hg : h.get i = .cells c lv par ty)
    (hsub : ∀ (k : Nat) u, cells[k]? = some u → c[o + k]? = some u) (room : o + cells.length ≤ c.length) (hpl : ∀ u ∈ cells, plainV u = true) : OR μ1 (viewC cells) b (z + o) (z + o + cells.length) w := by
  have hob := H.obj i b z e hm
  rw [hg] at hob
  obtain ⟨cs, el, fr, h1, h2, h3, h4, h5⟩ := hob
  refine ⟨cs, el, fr, h1, Nat.le_refl _, by omega, fun k u hk => ?_, fun h => (by cases h), fun t h => (by cases h)⟩
  obtain ⟨u', t1, t2⟩ := h4 (o + k) u (hsub k u hk)
  have hp := hpl u (List.mem_of_getElem? hk)
  rw [plain_same t2 hp, ← Nat.add_assoc] at t1
  exact ⟨u, t1, .plain hp⟩

theorem tell_two {fid : FuncId} {i1 o1 n1 i2 o2 n2 : Nat} {c1 c2 cells1 cells2 : List Value} {lv1 lv2 : Bool} {par1 par2 : List Nat} {ty1 ty2 : Option TypeId} {h : AH} {s1 s2 v : Value} {R : Value → AH → Prop}
    (L : ∀ cap1 cap2, n1 ≤ cap1 → n2 ≤ cap2 → Local P 2 fid [.slice (some ⟨0, 0, none⟩) n1 cap1, .slice (some ⟨1, 0, none⟩) n2 cap2] (hp [viewC cells1, viewC cells2]) R) (hR : ∀ v' h', R v' h' → v' = v) (fv : flatV v = true)
    (hg1 : h.get i1 = .cells c1 lv1 par1 ty1) (hsub1 : ∀ (k : Nat) u, cells1[k]? = some u → c1[o1 + k]? = some u) (room1 : o1 + cells1.length ≤ c1.length) (hpl1 : ∀ u ∈ cells1, plainV u = true) (hs1 : SliceAt i1 o1 n1 s1)
    (hg2 : h.get i2 = .cells c2 lv2 par2 ty2) (hsub2 : ∀ (k : Nat) u, cells2[k]? = some u → c2[o2 + k]? = some u) (room2 : o2 + cells2.length ≤ c2.length) (hpl2 : ∀ u ∈ cells2, plainV u = true) (hs2 : SliceAt i2 o2 n2 s2) : Says P h fid [s1, s2] v h := by
  intro F w0 μ w args' H hl
  obtain ⟨a1, a2, ea, r1, r2⟩ : ∃ a1 a2, args'.toList = [a1, a2] ∧ VR μ s1 a1 ∧ VR μ s2 a2 := by
    match hq : args'.toList, hl with
    | [], hl => exact absurd hl.1 (by simp)
    | [x], hl => exact absurd hl.1 (by simp)
    | [x, y], hl => exact ⟨x, y, rfl, hl.head, hl.tail.head⟩
    | x :: y :: z :: l, hl => exact absurd hl.1 (by simp)
  obtain ⟨b1, z1, e1, cap1, m1, hc1, rfl⟩ := slice_place hs1 r1
  obtain ⟨b2, z2, e2, cap2, m2, hc2, rfl⟩ := slice_place hs2 r2
  let μ1 : Mp := fun j => if j = 0 then some (b1, z1 + o1, z1 + o1 + cells1.length) else if j = 1 then some (b2, z2 + o2, z2 + o2 + cells2.length) else none
  have q0 : μ1 0 = some (b1, z1 + o1, z1 + o1 + cells1.length) := rfl
  have q1 : μ1 1 = some (b2, z2 + o2, z2 + o2 + cells2.length) := rfl
  have mi : ∀ {j p}, μ1 j = some p → (j = 0 ∧ p = (b1, z1 + o1, z1 + o1 + cells1.length)) ∨ (j = 1 ∧ p = (b2, z2 + o2, z2 + o2 + cells2.length)) := by
    intro j p hj
    by_cases h0 : j = 0
    · subst h0; exact .inl ⟨rfl, (Option.some.inj hj).symm⟩
    · by_cases h1 : j = 1
      · subst h1; exact .inr ⟨rfl, (Option.some.inj hj).symm⟩
      · have : μ1 j = none := by show (if j = 0 then _ else if j = 1 then _ else none) = none; rw [if_neg h0, if_neg h1]
        rw [this] at hj; cases hj
  have g0 : (hp [viewC cells1, viewC cells2]).get 0 = viewC cells1 := hp_get _ 0 _ rfl
  have g1 : (hp [viewC cells1, viewC cells2]).get 1 = viewC cells2 := hp_get _ 1 _ rfl
  have wr : ∀ {j p}, μ1 j = some p → ((hp [viewC cells1, viewC cells2]).get j).wr = false := by
    intro j p hj
    rcases mi hj with ⟨rfl, _⟩ | ⟨rfl, _⟩
    · rw [g0]; rfl
    · rw [g1]; rfl
  have H1 : HR (fun b => b < w.heap.size) w μ1 (hp [viewC cells1, viewC cells2]) w := by
    refine ⟨fun j p hj => ?_, fun j b' z' e' hj => ?_, fun j b' z' e' hj hw => ?_, fun j k b' zi ei zj ej hne hj hk => ?_, fun j cc l p ty' hj hg' k hk => ?_, rfl, rfl, rfl, Nat.le_refl _, fun b hb => ⟨hb, rfl⟩⟩
    · rw [hp_next]
      rcases mi hj with ⟨rfl, _⟩ | ⟨rfl, _⟩
      · exact Nat.zero_lt_succ _
      · exact Nat.lt_succ_self 1
    · rcases mi hj with ⟨rfl, e⟩ | ⟨rfl, e⟩
      · cases e; rw [g0]; exact view_or H m1 hg1 hsub1 room1 hpl1
      · cases e; rw [g1]; exact view_or H m2 hg2 hsub2 room2 hpl2
    · rw [wr hj] at hw; cases hw
    · exact .inr (.inr ⟨wr hj, wr hk⟩)
    · cases hmj : μ1 j with
      | none => exact absurd hmj hj
      | some p' =>
        rcases mi hmj with ⟨rfl, _⟩ | ⟨rfl, _⟩
        · rw [g0] at hg'; cases hg'; cases hk
        · rw [g1] at hg'; cases hg'; cases hk
  have hl1 : LR μ1 [.slice (some ⟨0, 0, none⟩) n1 cap1, .slice (some ⟨1, 0, none⟩) n2 cap2] args'.toList := by
    rw [ea]
    exact LR.cons (VR.slice (μ := μ1) (i := 0) (o := 0) q0) (LR.cons (VR.slice (μ := μ1) (i := 1) (o := 0) q1) LR.nil)
  refine (L cap1 cap2 hc1 hc2 _ w μ1 w args' H1 hl1).mono fun v' w' ⟨u, h', r, μ', hv, H', K⟩ => ?_
  have eu := hR u h' r
  subst eu
  have keepB : ∀ b, b < w.heap.size → w'.heap[b]? = w.heap[b]? := fun b hb => (H'.fr b hb).2
  refine ⟨μ, flat_any hv fv, ⟨H.dom, fun j b' z' e' hj => ?_, H.own, H.sep, H.par, H'.os.trans H.os, H'.tape.trans H.tape, H'.output.trans H.output, Nat.le_trans H.size H'.size, fun b' hb => ?_⟩, ⟨Sub.refl μ, Nat.le_refl _, fun j hj hm' => ⟨hm', rfl⟩⟩⟩
  · by_cases hd : h.get j = .dead
    · rw [hd]; trivial
    · exact (H.obj j b' z' e' hj).world (keepB b' (H.inb hj hd))
  · have q := H.fr b' hb
    exact ⟨q.1, (keepB b' (Nat.lt_of_lt_of_le q.1 H.size)).trans q.2⟩
end
end Go.R
