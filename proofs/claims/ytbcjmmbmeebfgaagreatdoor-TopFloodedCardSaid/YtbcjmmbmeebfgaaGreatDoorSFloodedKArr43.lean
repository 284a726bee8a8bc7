/- An argument that is an array of four arrays of three bytes: opened, and shut again. -/
import Derived.Test.YtbcjmmbmeebfgaaGreatDoorSFloodedUG0
import Derived.ProofKit
import Derived.OpenShut
import Derived.ChangeShapes
namespace Go.Proofs.YtbcjmmbmeebfgaaGreatDoor
set_option linter.unusedVariables false
set_option linter.unusedSimpArgs false
open Go Go.ChangeShapes Go.WideShapes Go.ChangeAt
set_option maxRecDepth 100000

theorem list12 {α : Type} {l : List α} (h : l.length = 12) : ∃ a0 a1 a2 a3 a4 a5 a6 a7 a8 a9 a10 a11, l = [a0, a1, a2, a3, a4, a5, a6, a7, a8, a9, a10, a11] := by
  match l, h with
  | [a0, a1, a2, a3, a4, a5, a6, a7, a8, a9, a10, a11], _ => exact ⟨a0, a1, a2, a3, a4, a5, a6, a7, a8, a9, a10, a11, rfl⟩

/-- Three bytes of a row. -/
theorem open_three {P : Program} {H : Type} {enc : TypeId × Value → H} {w : World} {base : Nat} {spare : Nat → Bool} {held : Bool} {fuel : Nat} {e1 e : TypeId} {k : IntKind} {x y z : Value} {r : DataW H × List MemPlace}
    (h1 : P.underlying e1 = some (.array 3 e)) (he : P.underlying e = some (.int k)) (hc : P.cellsOf e = 1) (hc1 : P.cellsOf e1 = 3)
    (hd : DataW.trod enc P w base spare held fuel e1 [x, y, z] = some r) :
    ∃ a b c : Int, x = .int k a ∧ y = .int k b ∧ z = .int k c ∧ r = (.agg [.lit (.int k a), .lit (.int k b), .lit (.int k c)], []) ∧ (Lit.int k a).wf = true ∧ (Lit.int k b).wf = true ∧ (Lit.int k c).wf = true := by
  cases fuel with
  | zero => cases hd
  | succ fuel =>
    have hr : List.range 3 = [0, 1, 2] := rfl
    simp only [DataW.trod, h1, hc, hc1, hr, List.mapM_cons, List.mapM_nil] at hd
    simp only [List.length_cons, List.length_nil, Nat.reduceAdd, if_true, Option.map_eq_some_iff, Option.bind_eq_bind, Option.bind_eq_some_iff, Option.pure_def, Nat.reduceMul, List.drop_zero, List.drop_succ_cons, List.take_succ_cons, List.take_zero, Nat.mul_one, Option.some.injEq] at hd
    obtain ⟨xs, ⟨x0, h0, _, ⟨x1, h1, _, ⟨x2, h2, _, rfl, rfl⟩, rfl⟩, rfl⟩, hx⟩ := hd
    obtain ⟨n0, e0, rfl, w0⟩ := DataW.trod_int he h0
    obtain ⟨n1, e1, rfl, w1⟩ := DataW.trod_int he h1
    obtain ⟨n2, e2, rfl, w2⟩ := DataW.trod_int he h2
    cases e0; cases e1; cases e2
    exact ⟨n0, n1, n2, rfl, rfl, rfl, hx.symm, w0, w1, w2⟩

theorem open_arr43 {P : Program} {H : Type} {enc : TypeId × Value → H} {w : World} {base : Nat} {spare : Nat → Bool} {held : Bool} {r : Reach} {b0 : Nat} {t e1 e : TypeId} {k : IntKind} {v : Value} {d : DataW H} {ps : List MemPlace}
    (ht : P.underlying t = some (.array 4 e1)) (h1 : P.underlying e1 = some (.array 3 e)) (he : P.underlying e = some (.int k)) (hc : P.cellsOf e = 1) (hc1 : P.cellsOf e1 = 3) (hct : P.cellsOf t = 12)
    (hval : Value.okWide P w r b0 t v) (hd : DataW.Trod enc P w base spare held t v d ps) :
    ∃ n : Nat → Int, v = .agg #[.int k (n 0), .int k (n 1), .int k (n 2), .int k (n 3), .int k (n 4), .int k (n 5), .int k (n 6), .int k (n 7), .int k (n 8), .int k (n 9), .int k (n 10), .int k (n 11)] ∧
      d = .agg [.agg [.lit (.int k (n 0)), .lit (.int k (n 1)), .lit (.int k (n 2))], .agg [.lit (.int k (n 3)), .lit (.int k (n 4)), .lit (.int k (n 5))], .agg [.lit (.int k (n 6)), .lit (.int k (n 7)), .lit (.int k (n 8))], .agg [.lit (.int k (n 9)), .lit (.int k (n 10)), .lit (.int k (n 11))]] ∧ ps = [] ∧ ∀ i, i < 12 → (Lit.int k (n i)).wf = true := by
  unfold Value.okWide at hval
  rw [ht] at hval
  obtain ⟨cs, rfl, hs, _⟩ := hval
  rw [hct] at hs
  obtain ⟨a0, a1, a2, a3, a4, a5, a6, a7, a8, a9, a10, a11, hl⟩ := list12 (l := cs.toList) (by rw [Array.length_toList]; exact hs)
  obtain rfl : cs = #[a0, a1, a2, a3, a4, a5, a6, a7, a8, a9, a10, a11] := by
    apply Array.toList_inj.1; exact hl
  obtain ⟨fuel, hf⟩ := hd
  cases fuel with
  | zero => cases hf
  | succ fuel =>
    have hr : List.range 4 = [0, 1, 2, 3] := rfl
    simp only [DataW.trod, Value.cells, ht, hc1, hct, hr, List.mapM_cons, List.mapM_nil] at hf
    simp only [List.length_cons, List.length_nil, Nat.reduceAdd, if_true, Option.map_eq_some_iff, Option.bind_eq_bind, Option.bind_eq_some_iff, Option.pure_def, Nat.reduceMul, List.drop_zero, List.drop_succ_cons, List.take_succ_cons, List.take_zero, Nat.mul_one, Option.some.injEq] at hf
    obtain ⟨xs, ⟨x0, g0, _, ⟨x1, g1, _, ⟨x2, g2, _, ⟨x3, g3, _, rfl, rfl⟩, rfl⟩, rfl⟩, rfl⟩, hx⟩ := hf
    obtain ⟨n0, n1, n2, rfl, rfl, rfl, rfl, w0, w1, w2⟩ := open_three h1 he hc hc1 g0
    obtain ⟨n3, n4, n5, rfl, rfl, rfl, rfl, w3, w4, w5⟩ := open_three h1 he hc hc1 g1
    obtain ⟨n6, n7, n8, rfl, rfl, rfl, rfl, w6, w7, w8⟩ := open_three h1 he hc hc1 g2
    obtain ⟨n9, n10, n11, rfl, rfl, rfl, rfl, w9, w10, w11⟩ := open_three h1 he hc hc1 g3
    simp only [Prod.mk.injEq] at hx
    refine ⟨fun i => match i with | 0 => n0 | 1 => n1 | 2 => n2 | 3 => n3 | 4 => n4 | 5 => n5 | 6 => n6 | 7 => n7 | 8 => n8 | 9 => n9 | 10 => n10 | _ => n11, rfl, hx.1.symm, hx.2.symm.trans rfl, fun i hi => ?_⟩
    match i, hi with
    | 0, _ => exact w0
    | 1, _ => exact w1
    | 2, _ => exact w2
    | 3, _ => exact w3
    | 4, _ => exact w4
    | 5, _ => exact w5
    | 6, _ => exact w6
    | 7, _ => exact w7
    | 8, _ => exact w8
    | 9, _ => exact w9
    | 10, _ => exact w10
    | 11, _ => exact w11
    | i + 12, h => omega

theorem shut_arr43 {P : Program} {H : Type} {enc : TypeId × Value → H} {w : World} {base : Nat} {spare : Nat → Bool} {held : Bool} {t e1 e : TypeId} {k : IntKind}
    (ht : P.underlying t = some (.array 4 e1)) (h1 : P.underlying e1 = some (.array 3 e)) (he : P.underlying e = some (.int k)) (hc : P.cellsOf e = 1) (hc1 : P.cellsOf e1 = 3) (hct : P.cellsOf t = 12) (n : Nat → Int) (hw : ∀ i, i < 12 → (Lit.int k (n i)).wf = true) :
    DataW.Trod enc P w base spare held t (.agg #[.int k (n 0), .int k (n 1), .int k (n 2), .int k (n 3), .int k (n 4), .int k (n 5), .int k (n 6), .int k (n 7), .int k (n 8), .int k (n 9), .int k (n 10), .int k (n 11)])
      (.agg [.agg [.lit (.int k (n 0)), .lit (.int k (n 1)), .lit (.int k (n 2))], .agg [.lit (.int k (n 3)), .lit (.int k (n 4)), .lit (.int k (n 5))], .agg [.lit (.int k (n 6)), .lit (.int k (n 7)), .lit (.int k (n 8))], .agg [.lit (.int k (n 9)), .lit (.int k (n 10)), .lit (.int k (n 11))]]) [] := by
  refine ⟨3, ?_⟩
  have hr4 : List.range 4 = [0, 1, 2, 3] := rfl
  have hr3 : List.range 3 = [0, 1, 2] := rfl
  have one : ∀ i, i < 12 → DataW.trod enc P w base spare held 1 e [.int k (n i)] = some (.lit (.int k (n i)), []) := fun i hi => by simp [DataW.trod, he, hw i hi]
  have three : ∀ a b c, a < 12 → b < 12 → c < 12 → DataW.trod enc P w base spare held 2 e1 [.int k (n a), .int k (n b), .int k (n c)] = some (.agg [.lit (.int k (n a)), .lit (.int k (n b)), .lit (.int k (n c))], []) := fun a b c ha hb hc' => by
    rw [show DataW.trod enc P w base spare held 2 e1 [Value.int k (n a), .int k (n b), .int k (n c)] = (if [Value.int k (n a), .int k (n b), .int k (n c)].length = P.cellsOf e1 then ((List.range 3).mapM fun i => DataW.trod enc P w base spare held 1 e (([Value.int k (n a), .int k (n b), .int k (n c)].drop (i * P.cellsOf e)).take (P.cellsOf e))).map fun xs => (.agg (xs.map (·.1)), xs.flatMap (·.2)) else none) by
      simp only [DataW.trod, h1]]
    rw [hc1, hc, hr3]
    simp only [List.length_cons, List.length_nil, Nat.reduceAdd, if_true, List.mapM_cons, List.mapM_nil, Nat.reduceMul, Nat.mul_one, List.drop_zero, List.drop_succ_cons, List.take_succ_cons, List.take_zero, one a ha, one b hb, one c hc']
    rfl
  rw [show DataW.trod enc P w base spare held 3 t (Value.agg #[.int k (n 0), .int k (n 1), .int k (n 2), .int k (n 3), .int k (n 4), .int k (n 5), .int k (n 6), .int k (n 7), .int k (n 8), .int k (n 9), .int k (n 10), .int k (n 11)]).cells.toList = (if [Value.int k (n 0), .int k (n 1), .int k (n 2), .int k (n 3), .int k (n 4), .int k (n 5), .int k (n 6), .int k (n 7), .int k (n 8), .int k (n 9), .int k (n 10), .int k (n 11)].length = P.cellsOf t then ((List.range 4).mapM fun i => DataW.trod enc P w base spare held 2 e1 (([Value.int k (n 0), .int k (n 1), .int k (n 2), .int k (n 3), .int k (n 4), .int k (n 5), .int k (n 6), .int k (n 7), .int k (n 8), .int k (n 9), .int k (n 10), .int k (n 11)].drop (i * P.cellsOf e1)).take (P.cellsOf e1))).map fun xs => (.agg (xs.map (·.1)), xs.flatMap (·.2)) else none) by
    simp only [DataW.trod, Value.cells, ht]]
  rw [hct, hc1, hr4]
  simp only [List.length_cons, List.length_nil, Nat.reduceAdd, if_true, List.mapM_cons, List.mapM_nil, Nat.reduceMul, Nat.mul_one, List.drop_zero, List.drop_succ_cons, List.take_succ_cons, List.take_zero, three 0 1 2 (by decide) (by decide) (by decide), three 3 4 5 (by decide) (by decide) (by decide), three 6 7 8 (by decide) (by decide) (by decide), three 9 10 11 (by decide) (by decide) (by decide)]
  rfl
end Go.Proofs.YtbcjmmbmeebfgaaGreatDoor
