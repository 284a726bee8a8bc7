/- A call that looks at given objects and answers with a new row of plain cells, told from any heap. -/
import Derived.Test.YtgnkjmgkfibipaaDoorRVia
namespace Go.R
set_option linter.unusedVariables false
set_option linter.unusedSimpArgs false
open Go Go.RowKit
noncomputable section
variable {P : Program}

/-- The answer is a slice over a whole new row; the given objects stand as they did. -/
def IsNew (k s n : Nat) (cells : List Value) (ty : Option TypeId) (h : AH) (v' : Value) (h' : AH) : Prop :=
  ∃ i par, k ≤ i ∧ (∀ j, j < k → j ∉ par) ∧ v' = .slice (some ⟨i, 0, some (s + 1)⟩) n n ∧ h'.get i = .cells cells true par ty ∧ ∀ j, j < k → h'.get j = h.get j

theorem fresh_from {k s n : Nat} {f : FuncId} {args cells : List Value} {ty : Option TypeId} {hc h : AH} (L : Local P k f args hc (IsNew k s n cells ty h))
    (hn : hc.next = k) (hle : k ≤ h.next) (same : ∀ i, i < k → hc.get i = h.get i) (ca : ∀ v ∈ args, Clo k v) (c1 : ∀ i, i < k → CloO k (h.get i)) (cc : ∀ v ∈ cells, plainV v = true) :
    Says P h f args (.slice (some ⟨h.next, 0, some (s + 1)⟩) n n) (h.new (.cells cells true [] ty)).2 := by
  intro F w0 μ w args' H hl
  have S := H.small hn same c1
  refine (L _ w _ w args' S (clo_list ca hl)).mono fun v' w' ⟨u, h', ⟨i, par, hki, hpar, eu, hi, roots⟩, μ1, hv, H', K⟩ => ?_
  subst eu
  obtain ⟨b, z, ee, c', hm, q1, q2, q3, rfl⟩ := hv.sliceU_inv
  have eqμ : ∀ i, i < k → μ1 i = μ i := fun i hi => (K i hi).1.trans (cut_lt hi)
  have subμ : Sub (μ1.cut k) μ := fun i p hi => by
    obtain ⟨hlt, hm⟩ := cut_some hi
    rw [← eqμ i hlt]; exact hm
  have hob := H'.obj i b z ee hm
  rw [hi] at hob
  have hfree : ¬ Rest F k μ h b := H'.own i b z ee hm (by rw [hi]; rfl)
  have keepB : ∀ b, Rest F k μ h b → w'.heap[b]? = w.heap[b]? := fun b hb => (H'.fr b hb).2
  have old : ∀ j b z e, k ≤ j → μ j = some (b, z, e) → h.get j ≠ .dead → Rest F k μ h b := fun j b z e hk hm hd => .inr ⟨j, z, e, hk, hm, hd⟩
  have hnone : μ h.next = none := H.none_next (Nat.le_refl _)
  have hsub : Sub μ (μ.add h.next (b, z, ee)) := Mp.add_sub hnone
  have get_old : ∀ j, j ≠ h.next → (h.new (.cells cells true [] ty)).2.get j = h.get j := fun j hj => by rw [AH.get_new, if_neg hj]
  have get_new' : (h.new (.cells cells true [] ty)).2.get h.next = .cells cells true [] ty := by rw [AH.get_new, if_pos rfl]
  have add_inv : ∀ {j p}, μ.add h.next (b, z, ee) j = some p → (j = h.next ∧ p = (b, z, ee)) ∨ (j ≠ h.next ∧ μ j = some p) := by
    intro j p hj
    unfold Mp.add at hj
    split at hj
    · rename_i e1; cases hj; exact .inl ⟨e1, rfl⟩
    · rename_i e1; exact .inr ⟨e1, hj⟩
  have hob' : OR (μ.add h.next (b, z, ee)) (.cells cells true [] ty) b z ee w' := by
    obtain ⟨cs, el, fr, h1, h2, h3, h4, h5⟩ := hob
    refine ⟨cs, el, fr, h1, h2, h3, fun k v hk => ?_, h5⟩
    obtain ⟨v', g1, g2⟩ := h4 k v hk
    have hp := cc v (List.mem_of_getElem? hk)
    exact ⟨v', g1, by rw [plain_same g2 hp]; exact .plain hp⟩
  -- an old object in the new one's block is gone
  have newold : ∀ j zj ej, j ≠ h.next → μ j = some (b, zj, ej) → h.get j = .dead := by
    intro j zj ej hne hj
    by_cases hd : h.get j = .dead
    · exact hd
    · by_cases hjk : j < k
      · have s := H'.sep i j b z ee zj ej (by omega) hm ((eqμ j hjk).trans hj)
        rw [hi, roots j hjk] at s
        rcases s with s | s | s
        · cases hx : h.get j with
          | cells c l p t =>
            rw [hx] at s
            cases l with
            | false => exact absurd s.1 (hpar j hjk)
            | true => exact s.elim
          | dead => rfl
          | map es => rw [hx] at s; exact s.elim
          | str _ _ => rw [hx] at s; exact s.elim
          | ghost _ => rw [hx] at s; exact s.elim
        · cases hx : h.get j with
          | cells c l p t =>
            rw [hx] at s
            cases l <;> exact s.elim
          | dead => rfl
          | map es => rw [hx] at s; exact s.elim
          | str _ _ => rw [hx] at s; exact s.elim
          | ghost _ => rw [hx] at s; exact s.elim
        · cases s.1
      · exact absurd (old j b zj ej (by omega) hj hd) hfree
  refine ⟨μ.add h.next (b, z, ee), ?_, ⟨fun j p hj => ?_, fun j b' z' e' hj => ?_, fun j b' z' e' hj hw => ?_, fun j kk b' zj ej zk ek hne hj hk => ?_, fun j c l p ty' hj hg kk hk => ?_,
    H'.os.trans H.os, H'.tape.trans H.tape, H'.output.trans H.output, Nat.le_trans H.size H'.size, fun b' hb => ?_⟩, ⟨hsub, by simp, fun j hj hm' => ?_⟩⟩
  · exact VR.sliceU (μ := μ.add h.next (b, z, ee)) (i := h.next) (o := 0) (n := n) (c := n) (c' := c') (s := s) (b := b) (z := z) (e := ee) (by simp [Mp.add]) q1 q2 q3
  · rcases add_inv hj with ⟨rfl, _⟩ | ⟨_, hj⟩
    · simp
    · have := H.dom j p hj; simp; omega
  · rcases add_inv hj with ⟨rfl, e1⟩ | ⟨hne, hj⟩
    · cases e1; rw [get_new']; exact hob'
    · rw [get_old j hne]
      by_cases hjk : j < k
      · have := H'.obj j b' z' e' ((eqμ j hjk).trans hj)
        rw [roots j hjk] at this
        exact ((this.cut (c1 j hjk)).mono subμ).mono hsub
      · by_cases hd : h.get j = .dead
        · rw [hd]; trivial
        · exact ((H.obj j b' z' e' hj).mono hsub).world (keepB b' (old j b' z' e' (by omega) hj hd))
  · rcases add_inv hj with ⟨rfl, e1⟩ | ⟨hne, hj⟩
    · cases e1; exact fun hF => hfree (.inl hF)
    · rw [get_old j hne] at hw; exact H.own j b' z' e' hj hw
  · rcases add_inv hj with ⟨rfl, e1⟩ | ⟨hne1, hj⟩
    · cases e1
      rcases add_inv hk with ⟨rfl, _⟩ | ⟨hne2, hk⟩
      · exact absurd rfl hne
      · rw [get_old kk hne2, newold kk zk ek hne2 hk]; exact .inr (.inl (by unfold share; trivial))
    · rcases add_inv hk with ⟨rfl, e1⟩ | ⟨hne2, hk⟩
      · cases e1
        rw [get_old j hne1, newold j zj ej hne1 hj]; exact .inl (by unfold share; trivial)
      · rw [get_old j hne1, get_old kk hne2]; exact H.sep j kk b' zj ej zk ek hne hj hk
  · by_cases e1 : j = h.next
    · subst e1; rw [get_new'] at hg; cases hg; cases hk
    · rw [get_old j e1] at hg
      have hj' : μ j ≠ none := by
        unfold Mp.add at hj; rw [if_neg e1] at hj; exact hj
      have := H.par j c l p ty' hj' hg kk hk
      intro hn
      unfold Mp.add at hn
      split at hn
      · cases hn
      · exact this hn
  · have h1 := H'.fr b' (.inl hb)
    have h2 := H.fr b' hb
    exact ⟨h2.1, h1.2.trans h2.2⟩
  · have hne : j ≠ h.next := by omega
    refine ⟨by unfold Mp.add; rw [if_neg hne]; exact hm', get_old j hne⟩
end
end Go.R
