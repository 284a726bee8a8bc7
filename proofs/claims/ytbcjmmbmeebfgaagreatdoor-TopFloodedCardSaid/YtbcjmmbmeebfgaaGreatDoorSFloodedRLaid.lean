/- The laid tables, out of what a row's laid variables read as. -/
import Derived.Test.YtbcjmmbmeebfgaaGreatDoorSFloodedRTab
import Derived.LaidMore
import Derived.FnData
import Derived.MakeChecks
namespace Go.R
set_option linter.unusedVariables false
set_option linter.unusedSimpArgs false
open Go Go.RowKit

theorem laidVars_mem {P : Program} {w : World} {n : String} {d : DataW Unit} : ∀ {l : List (String × DataW Unit)} {ps : List MemPlace}, DataW.LaidVars P w l ps → (n, d) ∈ l →
    ∃ g t cs fuel p, P.globalNamed n = some g ∧ (P.globals[g]?).map (·.type) = some t ∧ w.var? P n = some cs ∧ DataW.trod (fun _ => ()) P w 0 (fun _ => true) false fuel t cs.toList = some (d, p)
  | [], ps, h, hm => by cases hm
  | (n', d') :: r, ps, h, hm => by
    obtain ⟨g, t, cs, fuel, p, q, h1, h2, h3, h4, h5, _⟩ := h
    rcases List.mem_cons.1 hm with e | hm
    · cases e; exact ⟨g, t, cs, fuel, p, h1, h2, h3, h4⟩
    · exact laidVars_mem h5 hm

theorem mapM_get {α β : Type} {f : α → Option β} : ∀ {l : List α} {xs : List β}, l.mapM f = some xs → ∀ (j : Nat) (i : α), l[j]? = some i → ∃ x, f i = some x ∧ xs[j]? = some x
  | [], xs, h, j, i, hj => by simp at hj
  | a :: l, xs, h, j, i, hj => by
    rw [List.mapM_cons] at h
    simp only [bind, Option.bind_eq_some_iff, pure, Option.some.injEq] at h
    obtain ⟨x, hx, ys, hy, rfl⟩ := h
    cases j with
    | zero => simp at hj; subst hj; exact ⟨x, hx, rfl⟩
    | succ j => simp at hj; obtain ⟨z, h1, h2⟩ := mapM_get hy j i hj; exact ⟨z, h1, by simpa using h2⟩

theorem byte_trod {P : Program} {w : World} {fuel : Nat} {t : TypeId} {c : Value} {y : DataW Unit × List MemPlace} (ht : P.underlying t = some (.int .u8))
    (h : DataW.trod (fun _ => ()) P w 0 (fun _ => true) false fuel t [c] = some y) : ∃ n, c = .int .u8 n ∧ y.1 = .lit (.int .u8 n) := by
  cases fuel with
  | zero => simp [DataW.trod] at h
  | succ fuel =>
    cases c <;> simp [DataW.trod, ht] at h
    rename_i k' n
    obtain ⟨⟨rfl, _⟩, rfl⟩ := h
    exact ⟨n, rfl, rfl⟩

/-- A table of bytes that a row lays stands in its variable. -/
theorem tab_of_laid {P : Program} {w : World} {laid : List (String × DataW Unit)} (h : laidMet P laid w) {n : String} {d : DataW Unit} (hm : (n, d) ∈ laid) {g : Nat} {t e : TypeId} {tab : List Nat}
    (hg : P.globalNamed n = some g) (ht : (P.globals[g]?).map (·.type) = some t) (hu : P.underlying t = some (.array tab.length e)) (he : P.underlying e = some (.int .u8)) (hc : P.cellsOf e = 1) (hct : P.cellsOf t = tab.length)
    (hd : d = .agg (tab.map fun (x : Nat) => DataW.lit (Lit.int .u8 (x : Int)))) : g < w.heap.size ∧ ∀ j, j < tab.length → w.cell? ⟨g, j, none⟩ = some (.int .u8 ((tab.getD j 0 : Nat) : Int)) := by
  obtain ⟨ps, hl, _⟩ := h
  obtain ⟨g', t', cs, fuel, p, h1, h2, h3, h4⟩ := laidVars_mem hl hm
  obtain rfl := Option.some.inj (hg.symm.trans h1)
  obtain rfl := Option.some.inj (ht.symm.trans h2)
  have hsz : g < w.heap.size := by
    simp only [World.var?, hg, Option.bind_some] at h3
    split at h3
    · rename_i hh; exact (Array.getElem?_eq_some_iff.1 hh).1
    · cases h3
  refine ⟨hsz, fun j hj => ?_⟩
  rw [World.var?_cell hg h3]
  cases fuel with
  | zero => simp [DataW.trod] at h4
  | succ fuel =>
    simp only [DataW.trod, hu, hc, hct, Nat.mul_one] at h4
    split at h4
    · rename_i hlen
      simp only [Option.map_eq_some_iff, Prod.mk.injEq] at h4
      obtain ⟨xs, hx, hag, _⟩ := h4
      obtain ⟨x, hx1, hx2⟩ := mapM_get hx j j (List.getElem?_range hj)
      have hjl : j < cs.toList.length := by rw [hlen]; exact hj
      have hone : (cs.toList.drop j).take 1 = [cs.toList[j]] := by
        rw [List.drop_eq_getElem_cons hjl]; rfl
      rw [hone] at hx1
      obtain ⟨k, hk1, hk2⟩ := byte_trod he hx1
      rw [hd] at hag
      have hag' := DataW.agg.inj hag
      have e1 : (xs.map (·.1))[j]? = some x.1 := by rw [List.getElem?_map, hx2]; rfl
      rw [hag', List.getElem?_map, List.getElem?_eq_getElem hj, hk2] at e1
      simp only [Option.map_some, Option.some.injEq, DataW.lit.injEq, Lit.int.injEq, true_and] at e1
      rw [← Array.getElem?_toList, List.getElem?_eq_getElem hjl, hk1, ← e1, List.getD_eq_getElem?_getD, List.getElem?_eq_getElem hj]
      rfl
    · cases h4
end Go.R
