/- Words: the reference's Plan as a contract. -/
import Derived.Test.YtgnkjmgkfibipaaGreatDoorSSpelledKW4
namespace Go.Proofs.YtgnkjmgkfibipaaGreatDoor
set_option linter.unusedVariables false
set_option linter.unusedSimpArgs false
open Go Go.R
set_option maxRecDepth 1000000
noncomputable section
section
variable {n cap : Nat} {g : Nat → ByteArray}
/-- A list in a row of its own, or none; and an error's number. -/
def NewLE (l : List Nat) (e : Nat) (v' : Value) (h' : AH) : Prop := (l = [] ∧ v' = .tuple #[.slice none 0 0, i64 e]) ∨ (l ≠ [] ∧ ∃ i par, (v' = rowV i (litI l).length (some (i64 e)) ∨ v' = rowK i (litI l).length (some (i64 e))) ∧ h'.get i = .cells (litI l) true par (some 3))
/-- The plan that words are of. -/
def planG (n : Nat) (g : Nat → ByteArray) : List Nat := if readN n g = 0 then planW g n 0 (n - 1) 0 else []
end
end
end Go.Proofs.YtgnkjmgkfibipaaGreatDoor

/- Words: Plan as a contract. -/
namespace Go.Proofs.YtgnkjmgkfibipaaGreatDoor
set_option linter.unusedVariables false
set_option linter.unusedSimpArgs false
open Go Go.R
set_option maxRecDepth 1000000
noncomputable section
section
variable {n cap : Nat} {g : Nat → ByteArray}
noncomputable def c19 : Code := bodyOf Tryz.f24
theorem putW_zeroN (low at_ : Nat) : Says Tryz.prog (hp (oWn n cap g)) 60 (argsW low low at_) (.tuple #[]) (hp (oWn n cap g)) := by
  refine says_of (os := oWn n cap g) ?_ (argsW_clo (show 4 ≤ 4 by decide)) oWn_clo (clo_of 10 _ _ (by kernel_rfl))
  show Local Tryz.prog 4 60 _ _ _
  refine local_of noNum Tryz.func60 (show Tryz.f60.body = some c71 by kernel_rfl) ?_
  refine Runs.sq (by kernel_rfl) (Runs.sqR mixed hk38 [viaV 2 (.bool true)] (by kernel_rfl) (by kernel_rfl) (by kernel_rfl) (oblC (shown_eq (v := .bool (eqF (.ofNat low) (.ofNat low))) (by kernel_rfl) (by kernel_rfl) (by rw [eq_self])) oblN) ?_)
  refine Runs.cd (b := true) (by kernel_rfl) (fun _ => ?_) (fun h => by cases h)
  exact Runs.now (x := .ret) (by kernel_rfl) ⟨.inr rfl, [], by kernel_rfl, rfl, keepOf (by kernel_rfl)⟩
theorem plan19_local (hc : n ≤ cap) : Local Tryz.prog 1 24 [slV n cap] (hp [viewS n g]) (NewLE (planG n g) (readN n g)) := by
  refine local_of noNum Tryz.func24 (show Tryz.f24.body = some c19 by kernel_rfl) ?_
  refine Runs.sqR mixed hk38 [] (by kernel_rfl) (by kernel_rfl) (by kernel_rfl) oblN ?_
  let H1 : AH := hp [viewS n g, .cells [slV n cap] true [] (some 30)]
  have hS := read_at (g := g) hc (h := H1) (by kernel_rfl)
  unfold planG
  refine Runs.sq (by kernel_rfl) (Runs.sqR mixed hk38 [viaC 1 59 [slV n cap] (i64 (readN n g))] (by kernel_rfl) (by kernel_rfl) (by kernel_rfl) (oblC (shown_callE (h0 := H1) (by kernel_rfl) (by kernel_rfl) hS) oblN) ?_)
  by_cases hz : readN n g = 0
  · have z : Value.bool (!(eqF (.ofNat (readN n g)) (.ofNat 0))) = .bool false := by rw [hz]; rfl
    have W := wordsOk_of hz
    have h13 := W.hi
    have hlo := W.lo
    rw [if_pos hz]
    refine Runs.sqR mixed hk38 [viaV 1 (.bool false)] (by kernel_rfl) (by kernel_rfl) (by kernel_rfl) (oblC (shown_eq (v := .bool (!(eqF (.ofNat (readN n g)) (.ofNat 0)))) (by kernel_rfl) (by kernel_rfl) z) oblN) ?_
    refine Runs.cd (b := false) (by kernel_rfl) (fun h => by cases h) (fun _ => Runs.now (x := .normal) (by kernel_rfl) ?_)
    rw [hz]
    show Runs Tryz.prog 1 (behind 2 c19) _ _
    refine Runs.sqR mixed hk38 [] (by kernel_rfl) (by kernel_rfl) (by kernel_rfl) oblN ?_
    refine Runs.sqR mixed hk38 [] (by kernel_rfl) (by kernel_rfl) (by kernel_rfl) oblN ?_
    refine Runs.sqR mixed hk38 [] (by kernel_rfl) (by kernel_rfl) (by kernel_rfl) oblN ?_
    have m1 : Value.int .i64 (wrapF .i64 (Int.sub (.ofNat n) (.ofNat 1))) = i64 (n - 1) := by rw [f_sub (by omega) (by omega)]; rfl
    by_cases h1 : n = 1
    · have hl : planW g n 0 (n - 1) 0 = [] := by rw [h1]; exact planW_none _ _ _
      rw [hl]
      have hP := putW_zeroN (n := n) (cap := cap) (g := g) 0 0
      refine Runs.sqR mixed hk38 [viaV 3 (i64 0), viaC 4 60 (argsW 0 0 0) (.tuple #[])] (by kernel_rfl) (by kernel_rfl) (by kernel_rfl)
        (oblC (shown_eq (v := .int .i64 (wrapF .i64 (Int.sub (.ofNat n) (.ofNat 1)))) (by kernel_rfl) (by kernel_rfl) (by rw [m1, h1]))
        (oblC (shown_callE (h0 := hp (oWn n cap g)) (by kernel_rfl) (by kernel_rfl) hP) oblN)) ?_
      exact Runs.sqR mixed hk38 [] (by kernel_rfl) (by kernel_rfl) (by kernel_rfl) oblN (Runs.now (x := .ret) (by kernel_rfl) ⟨.inr rfl, [.slice none 0 0, i64 0], by kernel_rfl, .inl ⟨rfl, rfl⟩⟩)
    · obtain ⟨f, rfl⟩ : ∃ f, n = f + 1 := ⟨n - 1, by omega⟩
      have hP := putW_whole (putW_start (cap := cap) W (f := f) (p := ⟨#[]⟩) (inR_all W) (by omega) (by omega))
      have hlen := planW_len W (f + 1) ⟨#[]⟩ 0 (f + 1 - 1) (inR_all W) (by omega)
      have hP : Says Tryz.prog (hp (oWn (f + 1) cap g)) 60 (argsW 0 (f + 1 - 1) 0) (.tuple #[]) (HpW0 (f + 1) cap g (planW g (f + 1) 0 (f + 1 - 1) 0)) := hP
      have hlen : (planW g (f + 1) 0 (f + 1 - 1) 0).length = f + 1 - 1 - 0 := hlen
      generalize planW g (f + 1) 0 (f + 1 - 1) 0 = l at *
      have hl : l ≠ [] := fun e => by rw [e] at hlen; simp at hlen; omega
      refine Runs.sqR mixed hk38 [viaV 3 (i64 (f + 1 - 1)), viaH 4 60 (argsW 0 (f + 1 - 1) 0) (.tuple #[]) (HpW0 (f + 1) cap g l)] (by kernel_rfl) (by kernel_rfl) (by kernel_rfl)
        (oblC (shown_eq (v := .int .i64 (wrapF .i64 (Int.sub (.ofNat (f + 1)) (.ofNat 1)))) (by kernel_rfl) (by kernel_rfl) m1)
        (oblC (shown_callHE (h0 := hp (oWn (f + 1) cap g)) (by kernel_rfl) (by kernel_rfl) hP) oblN)) ?_
      exact Runs.sqR mixed hk38 [] (by kernel_rfl) (by kernel_rfl) (by kernel_rfl) oblN (Runs.now (x := .ret) (by kernel_rfl) ⟨.inr rfl, [rowA 4 l.length, i64 0], by kernel_rfl, .inr ⟨hl, 4, [], .inl (by rw [litI_len]; rfl), by kernel_rfl⟩⟩)
  · have z : Value.bool (!(eqF (.ofNat (readN n g)) (.ofNat 0))) = .bool true := by rw [eqF_eq, beq_eq_false_iff_ne.2 (fun e => hz (Int.ofNat.inj e))]; rfl
    rw [if_neg hz]
    refine Runs.sqR mixed hk38 [viaV 1 (.bool true)] (by kernel_rfl) (by kernel_rfl) (by kernel_rfl) (oblC (shown_eq (v := .bool (!(eqF (.ofNat (readN n g)) (.ofNat 0)))) (by kernel_rfl) (by kernel_rfl) z) oblN) ?_
    refine Runs.cd (b := true) (by kernel_rfl) (fun _ => ?_) (fun h => by cases h)
    exact Runs.sqR mixed hk38 [] (by kernel_rfl) (by kernel_rfl) (by kernel_rfl) oblN (Runs.now (x := .ret) (by kernel_rfl) ⟨.inr rfl, [.slice none 0 0, i64 (readN n g)], by kernel_rfl, .inl ⟨rfl, rfl⟩⟩)
end
end
end Go.Proofs.YtgnkjmgkfibipaaGreatDoor

/- Words: a plan and an error's number, told at any heap. -/
namespace Go.Proofs.YtgnkjmgkfibipaaGreatDoor
set_option linter.unusedVariables false
set_option linter.unusedSimpArgs false
open Go Go.R
noncomputable section
section
variable {n : Nat} {g : Nat → ByteArray}
def PlanE (fid : FuncId) (n : Nat) (g : Nat → ByteArray) (l : List Nat) (e : Nat) : Prop := ∀ cap, n ≤ cap → Local Tryz.prog 1 fid [slV n cap] (hp [viewS n g]) (NewLE l e)
theorem planE_nil {fid : FuncId} {e : Nat} (L : PlanE fid n g [] e) {i o : Nat} {c : List Value} {lv : Bool} {par : List Nat} {ty : Option TypeId} {s : Value} {h : AH} (hg : h.get i = .cells c lv par ty)
    (hsub : ∀ (k : Nat) u, (strsV n g)[k]? = some u → c[o + k]? = some u) (room : o + n ≤ c.length) (hs : SliceAt i o n s) : Says Tryz.prog h fid [s] (.tuple #[.slice none 0 0, i64 e]) h :=
  tell_flat (pre := []) (post := []) (i := i) (o := o) (n := n) (s := s) (c := c) (cells := strsV n g) (lv := lv) (par := par) (ty := ty) (R := NewLE [] e) (fun cap' hc' => L cap' hc')
    (fun v' h' r => by
      rcases r with ⟨_, q⟩ | ⟨q, _⟩
      · exact q
      · exact absurd rfl q) rfl hg hsub (by rw [strsV_len]; exact room) (strsV_plain n g) hs (fun v hv => by cases hv) (fun v hv => by cases hv)
end
end
end Go.Proofs.YtgnkjmgkfibipaaGreatDoor
