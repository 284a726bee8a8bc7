/- TrialPlans: the law where it stands, at a list that is not empty. -/
import Derived.Test.YtgnkjmgkfibipaaGreatDoorSPlansKZ7
import Derived.Test.YtgnkjmgkfibipaaGreatDoorSPlansKZ9
import Derived.Test.YtgnkjmgkfibipaaGreatDoorSPlansKG5
import Derived.Test.YtgnkjmgkfibipaaGreatDoorTie
import Derived.Test.YtgnkjmgkfibipaaGreatDoorCards
import Derived.ProofKit
import Derived.LaidMore
import Derived.Lay
import Derived.MakeChecks
import Derived.OpenShut
import Derived.Carry
import Derived.Stop.Joined
import Derived.SizedLaws
import Derived.SevenTiedAt
import Derived.ChangeSlices
namespace Go.Proofs.YtgnkjmgkfibipaaGreatDoor
set_option linter.unusedVariables false
set_option linter.unusedSimpArgs false
open Go Go.R
set_option maxRecDepth 1000000
noncomputable section

section
variable {n cap : Nat} {f : Nat → Int}
theorem at_any_flat {h : AH} {lv : Bool} {par : List Nat} {ty : Option TypeId} {fid : FuncId} {post : List Value} {R : Value → AH → Prop} {v : Value} (hg : h.get 0 = .cells (intsZ n f) lv par ty) (hc : n ≤ cap) (L : ∀ cap', n ≤ cap' → Local Tryz.prog 1 fid (slV n cap' :: post) (hp [viewZ n f]) R) (hR : ∀ v' h', R v' h' → v' = v) (fv : flatV v = true)
    (pq : ∀ u ∈ post, plainV u = true) : Says Tryz.prog h fid (slV n cap :: post) v h :=
  tell_flat (P := Tryz.prog) (pre := []) (post := post) (i := 0) (o := 0) (n := n) (s := slV n cap) (c := intsZ n f) (cells := intsZ n f) (lv := lv) (par := par) (ty := ty) (R := R) L hR fv hg (fun k u h => by rw [Nat.zero_add]; exact h) (by rw [Nat.zero_add]; exact Nat.le_refl _) (intsZ_plain n f) (view_at hc) (fun v h => by cases h) pq
theorem at_any_new {h : AH} {lv : Bool} {par : List Nat} {ty : Option TypeId} {n1 : Nat} {fid : FuncId} {post cells1 : List Value} {ty1 : Option TypeId} {e1 : Option Value} (hg : h.get 0 = .cells (intsZ n f) lv par ty) (hc : n ≤ cap) (L : ∀ cap', n ≤ cap' → Local Tryz.prog 1 fid (slV n cap' :: post) (hp [viewZ n f]) (IsRow n1 cells1 ty1 e1))
    (hl1 : cells1.length = n1) (hcl : ∀ u ∈ cells1, plainV u = true) (pe : ∀ v, e1 = some v → plainV v = true) (pq : ∀ u ∈ post, plainV u = true) :
    Says Tryz.prog h fid (slV n cap :: post) (rowV h.next n1 e1) (h.new (.cells cells1 true [] ty1)).2 :=
  tell_new (P := Tryz.prog) (pre := []) (post := post) (i := 0) (o := 0) (n := n) (s := slV n cap) (c := intsZ n f) (cells := intsZ n f) (lv := lv) (par := par) (ty := ty) L hl1 hcl pe hg (fun k u h => by rw [Nat.zero_add]; exact h) (by rw [Nat.zero_add]; exact Nat.le_refl _) (intsZ_plain n f) (view_at hc) (fun v h => by cases h) pq

noncomputable def q3 : Code := bodyOf Tryz.f3
def EndsL : AExit → AF → Prop := EndsAs Tryz.prog Tryz.f3 fun v' _ => v' = .bool true
noncomputable def L0 (n cap : Nat) (z : Int) : List (Nat × Value) := [(0, slV n cap), (2, .int .i64 z)]
theorem neq_self (e : Int) : (!(eqF e e)) = false := by rw [eq_self]; rfl
theorem neqS_self (w : ByteArray) : (!(w.toList == w.toList)) = false := by simp

theorem tail3 (z : Int) (W B S : Nat) (e p : Int)
    (h15 : Says Tryz.prog (hp [viewZ n f]) 15 [slV n cap] (.tuple #[i64 W, i64 B, .int .i64 e]) (hp [viewZ n f])) (h16 : Says Tryz.prog (hp [viewZ n f]) 16 [slV n cap] (.tuple #[i64 W, i64 B, .int .i64 e]) (hp [viewZ n f]))
    (h17 : Says Tryz.prog (hp [viewZ n f]) 17 [slV n cap] (.tuple #[i64 S, .int .i64 e]) (hp [viewZ n f])) (h18 : Says Tryz.prog (hp [viewZ n f]) 18 [slV n cap] (.tuple #[i64 S, .int .i64 e]) (hp [viewZ n f]))
    (h19 : Says Tryz.prog (hp [viewZ n f]) 19 [slV n cap] (.int .i64 e) (hp [viewZ n f])) (h20 : Says Tryz.prog (hp [viewZ n f]) 20 [slV n cap] (.int .i64 e) (hp [viewZ n f]))
    (h21 : Says Tryz.prog (hp [viewZ n f]) 21 [slV n cap, .int .i64 z] (.int .i64 p) (hp [viewZ n f])) (h22 : Says Tryz.prog (hp [viewZ n f]) 22 [slV n cap, .int .i64 z] (.int .i64 p) (hp [viewZ n f])) :
    Runs Tryz.prog 1 (behind 9 q3) (sth (L0 n cap z) 156 [viewZ n f]) EndsL := by
  refine Runs.sqR mixed hk38 [viaC 1 15 [slV n cap] (.tuple #[i64 W, i64 B, .int .i64 e])] (by kernel_rfl) (by kernel_rfl) (by kernel_rfl) (oblC (shown_callE (h0 := hp [viewZ n f]) (by kernel_rfl) (by kernel_rfl) h15) oblN) ?_
  refine Runs.sqR mixed hk38 [viaC 1 16 [slV n cap] (.tuple #[i64 W, i64 B, .int .i64 e])] (by kernel_rfl) (by kernel_rfl) (by kernel_rfl) (oblC (shown_callE (h0 := hp [viewZ n f]) (by kernel_rfl) (by kernel_rfl) h16) oblN) ?_
  refine Runs.sqR mixed hk38 [viaC 1 17 [slV n cap] (.tuple #[i64 S, .int .i64 e])] (by kernel_rfl) (by kernel_rfl) (by kernel_rfl) (oblC (shown_callE (h0 := hp [viewZ n f]) (by kernel_rfl) (by kernel_rfl) h17) oblN) ?_
  refine Runs.sqR mixed hk38 [viaC 1 18 [slV n cap] (.tuple #[i64 S, .int .i64 e])] (by kernel_rfl) (by kernel_rfl) (by kernel_rfl) (oblC (shown_callE (h0 := hp [viewZ n f]) (by kernel_rfl) (by kernel_rfl) h18) oblN) ?_
  refine Runs.sqR mixed hk38 [viaV 2 (.bool true), viaV 6 (.bool true), viaV 11 (.bool true), viaV 16 (.bool true), viaV 21 (.bool true), viaC 25 19 [slV n cap] (.int .i64 e), viaC 27 20 [slV n cap] (.int .i64 e), viaV 28 (.bool true), viaC 33 21 [slV n cap, .int .i64 z] (.int .i64 p), viaC 36 22 [slV n cap, .int .i64 z] (.int .i64 p), viaV 37 (.bool true), viaC 40 6 [] (.bool true)] (by kernel_rfl) (by kernel_rfl) (by kernel_rfl) 
    (oblC (shown_eq (v := .bool (eqF (.ofNat W) (.ofNat W))) (by kernel_rfl) (by kernel_rfl) (by rw [eq_self])) (oblC (shown_eq (v := .bool (eqF (.ofNat B) (.ofNat B))) (by kernel_rfl) (by kernel_rfl) (by rw [eq_self])) (oblC (shown_eq (v := .bool (eqF e e)) (by kernel_rfl) (by kernel_rfl) (by rw [eq_self])) (oblC (shown_eq (v := .bool (eqF (.ofNat S) (.ofNat S))) (by kernel_rfl) (by kernel_rfl) (by rw [eq_self])) (oblC (shown_eq (v := .bool (eqF e e)) (by kernel_rfl) (by kernel_rfl) (by rw [eq_self])) (oblC (shown_callE (h0 := hp [viewZ n f]) (by kernel_rfl) (by kernel_rfl) h19) (oblC (shown_callE (h0 := hp [viewZ n f]) (by kernel_rfl) (by kernel_rfl) h20) (oblC (shown_eq (v := .bool (eqF e e)) (by kernel_rfl) (by kernel_rfl) (by rw [eq_self])) (oblC (shown_callE (h0 := hp [viewZ n f]) (by kernel_rfl) (by kernel_rfl) h21) (oblC (shown_callE (h0 := hp [viewZ n f]) (by kernel_rfl) (by kernel_rfl) h22) (oblC (shown_eq (v := .bool (eqF p p)) (by kernel_rfl) (by kernel_rfl) (by rw [eq_self])) (oblC (shown_callE (h0 := hp [viewZ n f]) (by kernel_rfl) (by kernel_rfl) (works6_says (hp [viewZ n f]))) oblN)))))))))))) ?_
  exact Runs.now (x := .ret) (by kernel_rfl) ⟨.inr rfl, [.bool true], by kernel_rfl, rfl⟩

theorem midA (x z : Int) (a e : Int) (w : ByteArray)
    (h7 : Says Tryz.prog (hp [viewZ n f]) 7 [slV n cap, .int .i64 x] (.tuple #[.slice none 0 0, .int .i64 a]) (hp [viewZ n f]))
    (h8 : Says Tryz.prog (hp [viewZ n f]) 8 [slV n cap, .int .i64 x] (.tuple #[.slice none 0 0, .int .i64 a]) (hp [viewZ n f]))
    (h9 : Says Tryz.prog (hp [viewZ n f]) 9 [slV n cap, .int .i64 x] (.tuple #[.string w, .int .i64 a]) (hp [viewZ n f]))
    (h10 : Says Tryz.prog (hp [viewZ n f]) 10 [slV n cap, .int .i64 x] (.tuple #[.string w, .int .i64 a]) (hp [viewZ n f]))
    (h11 : Says Tryz.prog (hp [viewZ n f]) 11 [slV n cap] (.tuple #[.slice none 0 0, .int .i64 e]) (hp [viewZ n f]))
    (h12 : Says Tryz.prog (hp [viewZ n f]) 12 [slV n cap] (.tuple #[.slice none 0 0, .int .i64 e]) (hp [viewZ n f]))
    (hQ : Runs Tryz.prog 1 (behind 9 q3) (sth (L0 n cap z) 156 [viewZ n f]) EndsL) :
    Runs Tryz.prog 1 (behind 2 q3) (sth [(0, slV n cap), (1, .int .i64 x), (2, .int .i64 z)] 156 [viewZ n f]) EndsL := by
  refine Runs.sqR mixed hk38 [viaC 2 7 [slV n cap, .int .i64 x] (.tuple #[.slice none 0 0, .int .i64 a])] (by kernel_rfl) (by kernel_rfl) (by kernel_rfl) (oblC (shown_callE (h0 := hp [viewZ n f]) (by kernel_rfl) (by kernel_rfl) h7) oblN) ?_
  refine Runs.sqR mixed hk38 [viaC 2 8 [slV n cap, .int .i64 x] (.tuple #[.slice none 0 0, .int .i64 a])] (by kernel_rfl) (by kernel_rfl) (by kernel_rfl) (oblC (shown_callE (h0 := hp [viewZ n f]) (by kernel_rfl) (by kernel_rfl) h8) oblN) ?_
  refine Runs.sqR mixed hk38 [viaC 2 9 [slV n cap, .int .i64 x] (.tuple #[.string w, .int .i64 a])] (by kernel_rfl) (by kernel_rfl) (by kernel_rfl) (oblC (shown_callE (h0 := hp [viewZ n f]) (by kernel_rfl) (by kernel_rfl) h9) oblN) ?_
  refine Runs.sqR mixed hk38 [viaC 2 10 [slV n cap, .int .i64 x] (.tuple #[.string w, .int .i64 a])] (by kernel_rfl) (by kernel_rfl) (by kernel_rfl) (oblC (shown_callE (h0 := hp [viewZ n f]) (by kernel_rfl) (by kernel_rfl) h10) oblN) ?_
  refine Runs.less (af1 := sth [(0, slV n cap), (1, .int .i64 x), (2, .int .i64 z), (7, .slice none 0 0), (8, .int .i64 a), (9, .slice none 0 0), (10, .int .i64 a), (11, .string w), (12, .int .i64 a), (13, .string w), (14, .int .i64 a)] 156 [viewZ n f]) (less_seenP (clo_all (k := 1) (by kernel_rfl)) viewZ_clo (show 1 ≤ 1 by decide) (by kernel_rfl) (by kernel_rfl) (by kernel_rfl) (by kernel_rfl)) ?_
  refine Runs.sqR mixed hk38 [viaC 1 11 [slV n cap] (.tuple #[.slice none 0 0, .int .i64 e])] (by kernel_rfl) (by kernel_rfl) (by kernel_rfl) (oblC (shown_callE (h0 := hp [viewZ n f]) (by kernel_rfl) (by kernel_rfl) h11) oblN) ?_
  refine Runs.sqR mixed hk38 [viaC 1 12 [slV n cap] (.tuple #[.slice none 0 0, .int .i64 e])] (by kernel_rfl) (by kernel_rfl) (by kernel_rfl) (oblC (shown_callE (h0 := hp [viewZ n f]) (by kernel_rfl) (by kernel_rfl) h12) oblN) ?_
  refine Runs.sq (by kernel_rfl) (Runs.sqR mixed hk38 [viaV 7 (.bool false), viaV 12 (.bool false), viaV 17 (.bool false), viaV 28 (.bool false)] (by kernel_rfl) (by kernel_rfl) (by kernel_rfl)
    (oblC (shown_eq (v := .bool (!(eqF a a))) (by kernel_rfl) (by kernel_rfl) (by rw [neq_self])) (oblC (shown_eq (v := .bool (!(w.toList == w.toList))) (by kernel_rfl) (by kernel_rfl) (by rw [neqS_self])) (oblC (shown_eq (v := .bool (!(eqF a a))) (by kernel_rfl) (by kernel_rfl) (by rw [neq_self])) (oblC (shown_eq (v := .bool (!(eqF e e))) (by kernel_rfl) (by kernel_rfl) (by rw [neq_self])) oblN)))) ?_)
  refine Runs.cd (b := false) (by kernel_rfl) (fun h => by cases h) (fun _ => Runs.now (x := .normal) (by kernel_rfl) ?_)
  show Runs Tryz.prog 1 (behind 9 q3) _ _
  exact Runs.less (less_seenP (clo_all (k := 1) (by kernel_rfl)) viewZ_clo (Nat.le_refl 1) (by kernel_rfl) (by kernel_rfl) (by kernel_rfl) (by kernel_rfl)) hQ

theorem viewRows_clo {k : Nat} {l : List AObj} (h : ∀ o ∈ l, (∃ T, o = rowT T) ∨ ∃ m g, o = rowS m g) : ∀ o ∈ viewZ n f :: l, CloO k o := fun o ho => by
  rcases List.mem_cons.1 ho with rfl | ho
  · exact cloO_plain (intsZ_plain n f) _ _
  · rcases h o ho with ⟨T, rfl⟩ | ⟨m, g, rfl⟩
    · exact rowT_clo T k
    · exact cloO_plain (strsV_plain m g) _ _
theorem rows2 {o1 o2 : AObj} (h1 : (∃ T, o1 = rowT T) ∨ ∃ m g, o1 = rowS m g) (h2 : (∃ T, o2 = rowT T) ∨ ∃ m g, o2 = rowS m g) : ∀ o ∈ [o1, o2], (∃ T, o = rowT T) ∨ ∃ m g, o = rowS m g := fun o ho => by
  simp only [List.mem_cons, List.mem_nil_iff, or_false] at ho
  rcases ho with rfl | rfl
  · exact h1
  · exact h2

theorem midB (x z : Int) (a : Int) (w : ByteArray) (g : Nat → ByteArray) (hn : n < 1000)
    (h7 : Says Tryz.prog (hp [viewZ n f]) 7 [slV n cap, .int .i64 x] (.tuple #[.slice none 0 0, .int .i64 a]) (hp [viewZ n f]))
    (h8 : Says Tryz.prog (hp [viewZ n f]) 8 [slV n cap, .int .i64 x] (.tuple #[.slice none 0 0, .int .i64 a]) (hp [viewZ n f]))
    (h9 : Says Tryz.prog (hp [viewZ n f]) 9 [slV n cap, .int .i64 x] (.tuple #[.string w, .int .i64 a]) (hp [viewZ n f]))
    (h10 : Says Tryz.prog (hp [viewZ n f]) 10 [slV n cap, .int .i64 x] (.tuple #[.string w, .int .i64 a]) (hp [viewZ n f]))
    (h11 : Says Tryz.prog (hp [viewZ n f]) 11 [slV n cap] (.tuple #[bldV 1 (n + 1), i64 0]) (((hp [viewZ n f]).new (rowS (n + 1) g)).2))
    (h12 : Says Tryz.prog (hp [viewZ n f, rowS (n + 1) g]) 12 [slV n cap] (.tuple #[bldV 2 (n + 1), i64 0]) (((hp [viewZ n f, rowS (n + 1) g]).new (rowS (n + 1) g)).2))
    (hQ : Runs Tryz.prog 1 (behind 9 q3) (sth (L0 n cap z) 156 [viewZ n f]) EndsL) :
    Runs Tryz.prog 1 (behind 2 q3) (sth [(0, slV n cap), (1, .int .i64 x), (2, .int .i64 z)] 156 [viewZ n f]) EndsL := by
  refine Runs.sqR mixed hk38 [viaC 2 7 [slV n cap, .int .i64 x] (.tuple #[.slice none 0 0, .int .i64 a])] (by kernel_rfl) (by kernel_rfl) (by kernel_rfl) (oblC (shown_callE (h0 := hp [viewZ n f]) (by kernel_rfl) (by kernel_rfl) h7) oblN) ?_
  refine Runs.sqR mixed hk38 [viaC 2 8 [slV n cap, .int .i64 x] (.tuple #[.slice none 0 0, .int .i64 a])] (by kernel_rfl) (by kernel_rfl) (by kernel_rfl) (oblC (shown_callE (h0 := hp [viewZ n f]) (by kernel_rfl) (by kernel_rfl) h8) oblN) ?_
  refine Runs.sqR mixed hk38 [viaC 2 9 [slV n cap, .int .i64 x] (.tuple #[.string w, .int .i64 a])] (by kernel_rfl) (by kernel_rfl) (by kernel_rfl) (oblC (shown_callE (h0 := hp [viewZ n f]) (by kernel_rfl) (by kernel_rfl) h9) oblN) ?_
  refine Runs.sqR mixed hk38 [viaC 2 10 [slV n cap, .int .i64 x] (.tuple #[.string w, .int .i64 a])] (by kernel_rfl) (by kernel_rfl) (by kernel_rfl) (oblC (shown_callE (h0 := hp [viewZ n f]) (by kernel_rfl) (by kernel_rfl) h10) oblN) ?_
  refine Runs.less (af1 := sth [(0, slV n cap), (1, .int .i64 x), (2, .int .i64 z), (7, .slice none 0 0), (8, .int .i64 a), (9, .slice none 0 0), (10, .int .i64 a), (11, .string w), (12, .int .i64 a), (13, .string w), (14, .int .i64 a)] 156 [viewZ n f]) (less_seenP (clo_all (k := 1) (by kernel_rfl)) viewZ_clo (show 1 ≤ 1 by decide) (by kernel_rfl) (by kernel_rfl) (by kernel_rfl) (by kernel_rfl)) ?_
  refine Runs.sqR mixed hk38 [viaH 1 11 [slV n cap] (.tuple #[bldV 1 (n + 1), i64 0]) ((hp [viewZ n f]).new (rowS (n + 1) g)).2] (by kernel_rfl) (by kernel_rfl) (by kernel_rfl) (oblC (shown_callHE (h0 := hp [viewZ n f]) (by kernel_rfl) (by kernel_rfl) h11) oblN) ?_
  refine Runs.sqR mixed hk38 [viaH 1 12 [slV n cap] (.tuple #[bldV 2 (n + 1), i64 0]) ((hp [viewZ n f, rowS (n + 1) g]).new (rowS (n + 1) g)).2] (by kernel_rfl) (by kernel_rfl) (by kernel_rfl) (oblC (shown_callHE (h0 := hp [viewZ n f, rowS (n + 1) g]) (by kernel_rfl) (by kernel_rfl) h12) oblN) ?_
  refine Runs.less (af1 := sth [(0, slV n cap), (1, .int .i64 x), (2, .int .i64 z), (7, .slice none 0 0), (8, .int .i64 a), (9, .slice none 0 0), (10, .int .i64 a), (11, .string w), (12, .int .i64 a), (13, .string w), (14, .int .i64 a), (15, bldV 1 (n + 1)), (16, i64 0), (17, bldV 2 (n + 1)), (18, i64 0)] 156 [viewZ n f, rowS (n + 1) g, rowS (n + 1) g]) (less_seenP (clo_all (k := 3) (by kernel_rfl)) (viewRows_clo (rows2 (.inr ⟨_, _, rfl⟩) (.inr ⟨_, _, rfl⟩))) (show 1 ≤ 3 by decide) (by kernel_rfl) (by kernel_rfl) (by kernel_rfl) (by kernel_rfl)) ?_
  refine Runs.sq (by kernel_rfl) (Runs.sqR mixed hk38 [viaV 7 (.bool false), viaV 12 (.bool false), viaV 17 (.bool false), viaC 22 14 [bldV 1 (n + 1), bldV 2 (n + 1)] (.bool true)] (by kernel_rfl) (by kernel_rfl) (by kernel_rfl)
    (oblC (shown_eq (v := .bool (!(eqF a a))) (by kernel_rfl) (by kernel_rfl) (by rw [neq_self])) (oblC (shown_eq (v := .bool (!(w.toList == w.toList))) (by kernel_rfl) (by kernel_rfl) (by rw [neqS_self])) (oblC (shown_eq (v := .bool (!(eqF a a))) (by kernel_rfl) (by kernel_rfl) (by rw [neq_self])) (oblC (shown_callE (h0 := hp [viewZ n f, rowS (n + 1) g, rowS (n + 1) g]) (by kernel_rfl) (by kernel_rfl) (equal_rows (h := hp [viewZ n f, rowS (n + 1) g, rowS (n + 1) g]) (i1 := 1) (i2 := 2) (m := n + 1) (g := g) (lv1 := true) (lv2 := true) (par1 := []) (par2 := []) (ty1 := some 9) (ty2 := some 9) (by omega) (by kernel_rfl) (by kernel_rfl) (.inl ⟨0, rfl⟩) (.inl ⟨0, rfl⟩))) oblN)))) ?_)
  refine Runs.cd (b := false) (by kernel_rfl) (fun h => by cases h) (fun _ => Runs.now (x := .normal) (by kernel_rfl) ?_)
  show Runs Tryz.prog 1 (behind 9 q3) _ _
  exact Runs.less (less_seenP (clo_all (k := 1) (by kernel_rfl)) viewZ_clo (Nat.le_refl 1) (by kernel_rfl) (by kernel_rfl) (by kernel_rfl) (by kernel_rfl)) hQ

theorem rows4 {o1 o2 o3 o4 : AObj} (h1 : (∃ T, o1 = rowT T) ∨ ∃ m g, o1 = rowS m g) (h2 : (∃ T, o2 = rowT T) ∨ ∃ m g, o2 = rowS m g) (h3 : (∃ T, o3 = rowT T) ∨ ∃ m g, o3 = rowS m g) (h4 : (∃ T, o4 = rowT T) ∨ ∃ m g, o4 = rowS m g) : ∀ o ∈ [o1, o2, o3, o4], (∃ T, o = rowT T) ∨ ∃ m g, o = rowS m g := fun o ho => by
  simp only [List.mem_cons, List.mem_nil_iff, or_false] at ho
  rcases ho with rfl | rfl | rfl | rfl
  · exact h1
  · exact h2
  · exact h3
  · exact h4
theorem midC (x z : Int) (T : List Int) (w : ByteArray) (g : Nat → ByteArray) (hn : n < 1000) (hT : T.length < 1000)
    (h7 : Says Tryz.prog (hp [viewZ n f]) 7 [slV n cap, .int .i64 x] (.tuple #[bldV 1 T.length, i64 0]) (((hp [viewZ n f]).new (rowT T)).2))
    (h8 : Says Tryz.prog (hp [viewZ n f, rowT T]) 8 [slV n cap, .int .i64 x] (.tuple #[bldV 2 T.length, i64 0]) (((hp [viewZ n f, rowT T]).new (rowT T)).2))
    (h9 : Says Tryz.prog (hp [viewZ n f, rowT T, rowT T]) 9 [slV n cap, .int .i64 x] (.tuple #[.string w, i64 0]) (hp [viewZ n f, rowT T, rowT T]))
    (h10 : Says Tryz.prog (hp [viewZ n f, rowT T, rowT T]) 10 [slV n cap, .int .i64 x] (.tuple #[.string w, i64 0]) (hp [viewZ n f, rowT T, rowT T]))
    (h11 : Says Tryz.prog (hp [viewZ n f, rowT T, rowT T]) 11 [slV n cap] (.tuple #[bldV 3 (n + 1), i64 0]) (((hp [viewZ n f, rowT T, rowT T]).new (rowS (n + 1) g)).2))
    (h12 : Says Tryz.prog (hp [viewZ n f, rowT T, rowT T, rowS (n + 1) g]) 12 [slV n cap] (.tuple #[bldV 4 (n + 1), i64 0]) (((hp [viewZ n f, rowT T, rowT T, rowS (n + 1) g]).new (rowS (n + 1) g)).2))
    (hQ : Runs Tryz.prog 1 (behind 9 q3) (sth (L0 n cap z) 156 [viewZ n f]) EndsL) :
    Runs Tryz.prog 1 (behind 2 q3) (sth [(0, slV n cap), (1, .int .i64 x), (2, .int .i64 z)] 156 [viewZ n f]) EndsL := by
  refine Runs.sqR mixed hk38 [viaH 2 7 [slV n cap, .int .i64 x] (.tuple #[bldV 1 T.length, i64 0]) ((hp [viewZ n f]).new (rowT T)).2] (by kernel_rfl) (by kernel_rfl) (by kernel_rfl) (oblC (shown_callHE (h0 := hp [viewZ n f]) (by kernel_rfl) (by kernel_rfl) h7) oblN) ?_
  refine Runs.sqR mixed hk38 [viaH 2 8 [slV n cap, .int .i64 x] (.tuple #[bldV 2 T.length, i64 0]) ((hp [viewZ n f, rowT T]).new (rowT T)).2] (by kernel_rfl) (by kernel_rfl) (by kernel_rfl) (oblC (shown_callHE (h0 := hp [viewZ n f, rowT T]) (by kernel_rfl) (by kernel_rfl) h8) oblN) ?_
  refine Runs.less (af1 := sth [(0, slV n cap), (1, .int .i64 x), (2, .int .i64 z), (7, bldV 1 T.length), (8, i64 0), (9, bldV 2 T.length), (10, i64 0)] 156 [viewZ n f, rowT T, rowT T]) (less_seenP (clo_all (k := 3) (by kernel_rfl)) (viewRows_clo (rows2 (.inl ⟨_, rfl⟩) (.inl ⟨_, rfl⟩))) (show 1 ≤ 3 by decide) (by kernel_rfl) (by kernel_rfl) (by kernel_rfl) (by kernel_rfl)) ?_
  refine Runs.sqR mixed hk38 [viaC 2 9 [slV n cap, .int .i64 x] (.tuple #[.string w, i64 0])] (by kernel_rfl) (by kernel_rfl) (by kernel_rfl) (oblC (shown_callE (h0 := hp [viewZ n f, rowT T, rowT T]) (by kernel_rfl) (by kernel_rfl) h9) oblN) ?_
  refine Runs.sqR mixed hk38 [viaC 2 10 [slV n cap, .int .i64 x] (.tuple #[.string w, i64 0])] (by kernel_rfl) (by kernel_rfl) (by kernel_rfl) (oblC (shown_callE (h0 := hp [viewZ n f, rowT T, rowT T]) (by kernel_rfl) (by kernel_rfl) h10) oblN) ?_
  refine Runs.sqR mixed hk38 [viaH 1 11 [slV n cap] (.tuple #[bldV 3 (n + 1), i64 0]) ((hp [viewZ n f, rowT T, rowT T]).new (rowS (n + 1) g)).2] (by kernel_rfl) (by kernel_rfl) (by kernel_rfl) (oblC (shown_callHE (h0 := hp [viewZ n f, rowT T, rowT T]) (by kernel_rfl) (by kernel_rfl) h11) oblN) ?_
  refine Runs.sqR mixed hk38 [viaH 1 12 [slV n cap] (.tuple #[bldV 4 (n + 1), i64 0]) ((hp [viewZ n f, rowT T, rowT T, rowS (n + 1) g]).new (rowS (n + 1) g)).2] (by kernel_rfl) (by kernel_rfl) (by kernel_rfl) (oblC (shown_callHE (h0 := hp [viewZ n f, rowT T, rowT T, rowS (n + 1) g]) (by kernel_rfl) (by kernel_rfl) h12) oblN) ?_
  refine Runs.less (af1 := sth [(0, slV n cap), (1, .int .i64 x), (2, .int .i64 z), (7, bldV 1 T.length), (8, i64 0), (9, bldV 2 T.length), (10, i64 0), (11, .string w), (12, i64 0), (13, .string w), (14, i64 0), (15, bldV 3 (n + 1)), (16, i64 0), (17, bldV 4 (n + 1)), (18, i64 0)] 156 [viewZ n f, rowT T, rowT T, rowS (n + 1) g, rowS (n + 1) g]) (less_seenP (clo_all (k := 5) (by kernel_rfl)) (viewRows_clo (rows4 (.inl ⟨_, rfl⟩) (.inl ⟨_, rfl⟩) (.inr ⟨_, _, rfl⟩) (.inr ⟨_, _, rfl⟩))) (show 1 ≤ 5 by decide) (by kernel_rfl) (by kernel_rfl) (by kernel_rfl) (by kernel_rfl)) ?_
  refine Runs.sq (by kernel_rfl) (Runs.sqR mixed hk38 [viaC 2 13 [bldV 1 T.length, bldV 2 T.length] (.bool true), viaV 12 (.bool false), viaC 22 14 [bldV 3 (n + 1), bldV 4 (n + 1)] (.bool true)] (by kernel_rfl) (by kernel_rfl) (by kernel_rfl)
    (oblC (shown_callE (h0 := hp [viewZ n f, rowT T, rowT T, rowS (n + 1) g, rowS (n + 1) g]) (by kernel_rfl) (by kernel_rfl) (same_rows (h := hp [viewZ n f, rowT T, rowT T, rowS (n + 1) g, rowS (n + 1) g]) (i1 := 1) (i2 := 2) (T := T) (lv1 := true) (lv2 := true) (par1 := []) (par2 := []) (ty1 := some 3) (ty2 := some 3) (by omega) (by kernel_rfl) (by kernel_rfl) (.inl ⟨0, rfl⟩) (.inl ⟨0, rfl⟩))) (oblC (shown_eq (v := .bool (!(w.toList == w.toList))) (by kernel_rfl) (by kernel_rfl) (by rw [neqS_self])) (oblC (shown_callE (h0 := hp [viewZ n f, rowT T, rowT T, rowS (n + 1) g, rowS (n + 1) g]) (by kernel_rfl) (by kernel_rfl) (equal_rows (h := hp [viewZ n f, rowT T, rowT T, rowS (n + 1) g, rowS (n + 1) g]) (i1 := 3) (i2 := 4) (m := n + 1) (g := g) (lv1 := true) (lv2 := true) (par1 := []) (par2 := []) (ty1 := some 9) (ty2 := some 9) (by omega) (by kernel_rfl) (by kernel_rfl) (.inl ⟨0, rfl⟩) (.inl ⟨0, rfl⟩))) oblN))) ?_)
  refine Runs.cd (b := false) (by kernel_rfl) (fun h => by cases h) (fun _ => Runs.now (x := .normal) (by kernel_rfl) ?_)
  show Runs Tryz.prog 1 (behind 9 q3) _ _
  exact Runs.less (less_seenP (clo_all (k := 1) (by kernel_rfl)) viewZ_clo (Nat.le_refl 1) (by kernel_rfl) (by kernel_rfl) (by kernel_rfl) (by kernel_rfl)) hQ

end
end
end Go.Proofs.YtgnkjmgkfibipaaGreatDoor

/- TrialPlans: the law at a caller's list that is not empty. -/
namespace Go.Proofs.YtgnkjmgkfibipaaGreatDoor
set_option linter.unusedVariables false
set_option linter.unusedSimpArgs false
open Go Go.R
set_option maxRecDepth 1000000
noncomputable section

section
variable {n cap : Nat} {f : Nat → Int}
theorem chk_ask (h : chkN f n ≠ 0) (x : Int) : askZ f n x = chkN f n := by unfold askZ; rw [if_neg h]
theorem run_ne (h1 : 1 ≤ n) (hz : chkN f n = 0) (x : Int) : runF f n x ≠ [] := by
  rw [← go_run hz x]
  have hl : (lstF f n).length = n := by simp [lstF]
  exact goL_ne (fun e => by rw [e] at hl; simp at hl; omega) (by omega)
theorem tail_bad (hc : n ≤ cap) (hn : n < 1000) (hx : chkN f n ≠ 0) (z : Int) : Runs Tryz.prog 1 (behind 9 q3) (sth (L0 n cap z) 156 [viewZ n f]) EndsL :=
  tail3 z 0 0 0 (chkN f n) (chkN f n)
    (at_view_flat (post := []) hc (fun cap' hc' => worst_bad (f := f) hc' (by omega) hx) (fun _ _ r => r) rfl noP)
    (at_view_flat (post := []) hc (fun cap' hc' => worst_ref_bad (f := f) hc' hn hx) (fun _ _ r => r) rfl noP)
    (at_view_flat (post := []) hc (fun cap' hc' => sum_bad (f := f) hc' (by omega) hx) (fun _ _ r => r) rfl noP)
    (at_view_flat (post := []) hc (fun cap' hc' => sum_ref_bad (f := f) hc' hn hx) (fun _ _ r => r) rfl noP)
    (check_says n cap f hc (by omega)) (check_ref_says hc (by omega))
    (at_view_flat (post := [.int .i64 z]) hc (fun cap' hc' => proves_bad (f := f) hc' (by omega) hx z) (fun _ _ r => r) rfl (onlyP rfl))
    (at_view_flat (post := [.int .i64 z]) hc (fun cap' hc' => proves_ref_bad (f := f) hc' hn hx z) (fun _ _ r => r) rfl (onlyP rfl))
theorem tail_good (hc : n ≤ cap) (h1 : 1 ≤ n) (hx : chkN f n = 0) (z : Int) : Runs Tryz.prog 1 (behind 9 q3) (sth (L0 n cap z) 156 [viewZ n f]) EndsL := by
  have hn : n ≤ 12 := (chk_zero hx).1
  have hlen : sizesTo (wordS f n) (n + 1) ≤ 100000 := Nat.le_trans (sizes_le (by omega) _) (by omega)
  have h19 := check_says n cap f hc (by omega)
  have h20 := check_ref_says (f := f) hc (by omega)
  rw [hx] at h19 h20
  exact tail3 z (longTo (runG f n) (n + 1)) (mostTo (runG f n) (n + 1)) (sizesTo (wordS f n) (n + 1)) 0 (.ofNat (prZ n z (longTo (runG f n) (n + 1)) (mostTo (runG f n) (n + 1))))
    (worst_says n cap f hc (by omega) hx)
    (at_view_flat (post := []) hc (fun cap' hc' => worst_ref (f := f) hc' (by omega) h1 hx) (fun _ _ r => r) rfl noP)
    (at_view_flat (post := []) hc (fun cap' hc' => sum_local n cap' f hc' (by omega) hx hlen) (fun _ _ r => r) rfl noP)
    (at_view_flat (post := []) hc (fun cap' hc' => sum_ref (f := f) hc' (by omega) h1 hx) (fun _ _ r => r) rfl noP)
    h19 h20
    (proves_all hc (by omega) hx z)
    (at_view_flat (post := [.int .i64 z]) hc (fun cap' hc' => proves_ref (f := f) hc' (by omega) h1 hx z) (fun _ _ r => r) rfl (onlyP rfl))

theorem plans_mid (hc : n ≤ cap) (hn : n < 1000) (h1 : 1 ≤ n) (x z : Int) : Runs Tryz.prog 1 (behind 2 q3) (sth [(0, slV n cap), (1, .int .i64 x), (2, .int .i64 z)] 156 [viewZ n f]) EndsL := by
  by_cases hx : chkN f n = 0
  · have hw := hp_get [viewZ n f] 0 _ rfl
    by_cases ha : askZ f n x = 0
    · have hT : (runF f n x).length ≤ n := folF_len f x n 0 0 _
      have hne := run_ne (f := f) h1 hx x
      have g1 : (hp [viewZ n f, rowT (runF f n x)]).get 0 = .cells (intsZ n f) false [] none := by kernel_rfl
      have g2 : (hp [viewZ n f, rowT (runF f n x), rowT (runF f n x)]).get 0 = .cells (intsZ n f) false [] none := by kernel_rfl
      have g3 : (hp [viewZ n f, rowT (runF f n x), rowT (runF f n x), rowS (n + 1) (wordS f n)]).get 0 = .cells (intsZ n f) false [] none := by kernel_rfl
      exact midC x z (runF f n x) (strB (wordF f n x)) (wordS f n) hn (by omega)
        (at_any_new (post := [.int .i64 x]) (n1 := (runF f n x).length) (e1 := some (i64 0)) hw hc (fun cap' hc' => Run_good n cap' f x hc' (by omega) ha hne) (litZ_len _) (litZ_plain _) (fun v hv => by cases hv; rfl) (onlyP rfl))
        (at_any_new (post := [.int .i64 x]) (n1 := (runF f n x).length) (e1 := some (i64 0)) g1 hc (fun cap' hc' => Run_ref (f := f) hc' (by omega) h1 ha) (litZ_len _) (litZ_plain _) (fun v hv => by cases hv; rfl) (onlyP rfl))
        (at_any_flat (post := [.int .i64 x]) g2 hc (fun cap' hc' => Word_local cap' f x hc' (by omega) ha) (fun _ _ r => r) rfl (onlyP rfl))
        (at_any_flat (post := [.int .i64 x]) g2 hc (fun cap' hc' => Word_ref (f := f) hc' (by omega) h1 ha) (fun _ _ r => r) rfl (onlyP rfl))
        (at_any_new (post := []) (n1 := n + 1) (e1 := some (i64 0)) g2 hc (fun cap' hc' => Words_good n cap' f hc' (by omega) hx) (strsV_len _ _) (strsV_plain _ _) (fun v hv => by cases hv; rfl) noP)
        (at_any_new (post := []) (n1 := n + 1) (e1 := some (i64 0)) g3 hc (fun cap' hc' => Words_ref (f := f) hc' (by omega) h1 hx) (strsV_len _ _) (strsV_plain _ _) (fun v hv => by cases hv; rfl) noP)
        (tail_good hc h1 hx z)
    · have g1 : (hp [viewZ n f, rowS (n + 1) (wordS f n)]).get 0 = .cells (intsZ n f) false [] none := by kernel_rfl
      exact midB x z (askZ f n x) ⟨#[]⟩ (wordS f n) hn
        (at_any_flat (post := [.int .i64 x]) hw hc (fun cap' hc' => Run_bad n cap' f x hc' (by omega) ha) (fun _ _ r => r) rfl (onlyP rfl))
        (at_any_flat (post := [.int .i64 x]) hw hc (fun cap' hc' => Run_ref_bad (f := f) hc' (by omega) ha) (fun _ _ r => r) rfl (onlyP rfl))
        (at_any_flat (post := [.int .i64 x]) hw hc (fun cap' hc' => Word_bad cap' f x hc' (by omega) ha) (fun _ _ r => r) rfl (onlyP rfl))
        (at_any_flat (post := [.int .i64 x]) hw hc (fun cap' hc' => Word_ref_bad (f := f) hc' (by omega) ha) (fun _ _ r => r) rfl (onlyP rfl))
        (at_any_new (post := []) (n1 := n + 1) (e1 := some (i64 0)) hw hc (fun cap' hc' => Words_good n cap' f hc' (by omega) hx) (strsV_len _ _) (strsV_plain _ _) (fun v hv => by cases hv; rfl) noP)
        (at_any_new (post := []) (n1 := n + 1) (e1 := some (i64 0)) g1 hc (fun cap' hc' => Words_ref (f := f) hc' (by omega) h1 hx) (strsV_len _ _) (strsV_plain _ _) (fun v hv => by cases hv; rfl) noP)
        (tail_good hc h1 hx z)
  · have hw := hp_get [viewZ n f] 0 _ rfl
    have ha : askZ f n x ≠ 0 := by rw [chk_ask hx]; exact hx
    exact midA x z (askZ f n x) (chkN f n) ⟨#[]⟩
      (at_any_flat (post := [.int .i64 x]) hw hc (fun cap' hc' => Run_bad n cap' f x hc' (by omega) ha) (fun _ _ r => r) rfl (onlyP rfl))
      (at_any_flat (post := [.int .i64 x]) hw hc (fun cap' hc' => Run_ref_bad (f := f) hc' (by omega) ha) (fun _ _ r => r) rfl (onlyP rfl))
      (at_any_flat (post := [.int .i64 x]) hw hc (fun cap' hc' => Word_bad cap' f x hc' (by omega) ha) (fun _ _ r => r) rfl (onlyP rfl))
      (at_any_flat (post := [.int .i64 x]) hw hc (fun cap' hc' => Word_ref_bad (f := f) hc' (by omega) ha) (fun _ _ r => r) rfl (onlyP rfl))
      (at_any_flat (post := []) hw hc (fun cap' hc' => Words_bad n cap' f hc' (by omega) hx) (fun _ _ r => r) rfl noP)
      (at_any_flat (post := []) hw hc (fun cap' hc' => Words_ref_bad (f := f) hc' (by omega) hx) (fun _ _ r => r) rfl noP)
      (tail_bad hc hn hx z)

theorem plans_runs (hc : n ≤ cap) (h1 : 1 ≤ n) (x z : Int) : Runs Tryz.prog 1 q3 (entry Tryz.f3 [slV n cap, .int .i64 x, .int .i64 z] (hp [viewZ n f])) EndsL := by
  refine Runs.sqR mixed hk38 [] (by kernel_rfl) (by kernel_rfl) (by kernel_rfl) oblN ?_
  refine Runs.sq (by kernel_rfl) (Runs.sqR mixed hk38 [] (by kernel_rfl) (by kernel_rfl) (by kernel_rfl) oblN ?_)
  refine Runs.cd (b := ltF (.ofNat 40) (.ofNat n)) (by kernel_rfl) (fun h => ?_) (fun h => Runs.now (x := .normal) (by kernel_rfl) ?_)
  · refine Runs.sqR mixed hk38 [viaC 0 6 [] (.bool true)] (by kernel_rfl) (by kernel_rfl) (by kernel_rfl) (oblC (shown_callE (h0 := hp [viewZ n f]) (by kernel_rfl) (by kernel_rfl) (works6_says _)) oblN) ?_
    exact Runs.now (x := .ret) (by kernel_rfl) ⟨.inr rfl, [.bool true], by kernel_rfl, rfl⟩
  · have hn : n ≤ 40 := Int.ofNat_le.1 (ltF_not.1 h)
    show Runs Tryz.prog 1 (behind 2 q3) _ _
    exact Runs.less (less_seenP (clo_all (k := 1) (by kernel_rfl)) viewZ_clo (Nat.le_refl 1) (by kernel_rfl) (by kernel_rfl) (by kernel_rfl) (by kernel_rfl)) (plans_mid (f := f) hc (by omega) h1 x z)

end
end
end Go.Proofs.YtgnkjmgkfibipaaGreatDoor

/- TrialPlans: the empty list. -/
namespace Go.Proofs.YtgnkjmgkfibipaaGreatDoor
set_option linter.unusedVariables false
set_option linter.unusedSimpArgs false
open Go Go.R
set_option maxRecDepth 1000000
noncomputable section

noncomputable def run3 (s : Value) (x z : Int) : Bool := okRun Tryz.prog Tryz.f3 (execA Tryz.prog (callA Tryz.prog works 1000) 1000 q3 (entry Tryz.f3 [s, .int .i64 x, .int .i64 z] AH.empty)) (.bool true)
def emp : Value := .slice (some ⟨0, 0, some 0⟩) 0 0
theorem run3_nil_0n (k l : Nat) : run3 (.slice none 0 0) (.ofNat 0) (.negSucc l) = true := by kernel_rfl
theorem run3_nil_00 (k l : Nat) : run3 (.slice none 0 0) (.ofNat 0) (.ofNat 0) = true := by kernel_rfl
theorem run3_nil_01 (k l : Nat) : run3 (.slice none 0 0) (.ofNat 0) (.ofNat 1) = true := by kernel_rfl
theorem run3_nil_02 (k l : Nat) : run3 (.slice none 0 0) (.ofNat 0) (.ofNat 2) = true := by kernel_rfl
theorem run3_nil_03 (k l : Nat) : run3 (.slice none 0 0) (.ofNat 0) (.ofNat 3) = true := by kernel_rfl
theorem run3_nil_04 (k l : Nat) : run3 (.slice none 0 0) (.ofNat 0) (.ofNat 4) = true := by kernel_rfl
theorem run3_nil_05 (k l : Nat) : run3 (.slice none 0 0) (.ofNat 0) (.ofNat 5) = true := by kernel_rfl
theorem run3_nil_06 (k l : Nat) : run3 (.slice none 0 0) (.ofNat 0) (.ofNat 6) = true := by kernel_rfl
theorem run3_nil_0s (k l : Nat) : run3 (.slice none 0 0) (.ofNat 0) (.ofNat (l + 7)) = true := by kernel_rfl
theorem run3_nil_sn (k l : Nat) : run3 (.slice none 0 0) (.ofNat (k + 1)) (.negSucc l) = true := by kernel_rfl
theorem run3_nil_s0 (k l : Nat) : run3 (.slice none 0 0) (.ofNat (k + 1)) (.ofNat 0) = true := by kernel_rfl
theorem run3_nil_s1 (k l : Nat) : run3 (.slice none 0 0) (.ofNat (k + 1)) (.ofNat 1) = true := by kernel_rfl
theorem run3_nil_s2 (k l : Nat) : run3 (.slice none 0 0) (.ofNat (k + 1)) (.ofNat 2) = true := by kernel_rfl
theorem run3_nil_s3 (k l : Nat) : run3 (.slice none 0 0) (.ofNat (k + 1)) (.ofNat 3) = true := by kernel_rfl
theorem run3_nil_s4 (k l : Nat) : run3 (.slice none 0 0) (.ofNat (k + 1)) (.ofNat 4) = true := by kernel_rfl
theorem run3_nil_s5 (k l : Nat) : run3 (.slice none 0 0) (.ofNat (k + 1)) (.ofNat 5) = true := by kernel_rfl
theorem run3_nil_s6 (k l : Nat) : run3 (.slice none 0 0) (.ofNat (k + 1)) (.ofNat 6) = true := by kernel_rfl
theorem run3_nil_ss (k l : Nat) : run3 (.slice none 0 0) (.ofNat (k + 1)) (.ofNat (l + 7)) = true := by kernel_rfl
theorem run3_nil_nn (k l : Nat) : run3 (.slice none 0 0) (.negSucc k) (.negSucc l) = true := by kernel_rfl
theorem run3_nil_n0 (k l : Nat) : run3 (.slice none 0 0) (.negSucc k) (.ofNat 0) = true := by kernel_rfl
theorem run3_nil_n1 (k l : Nat) : run3 (.slice none 0 0) (.negSucc k) (.ofNat 1) = true := by kernel_rfl
theorem run3_nil_n2 (k l : Nat) : run3 (.slice none 0 0) (.negSucc k) (.ofNat 2) = true := by kernel_rfl
theorem run3_nil_n3 (k l : Nat) : run3 (.slice none 0 0) (.negSucc k) (.ofNat 3) = true := by kernel_rfl
theorem run3_nil_n4 (k l : Nat) : run3 (.slice none 0 0) (.negSucc k) (.ofNat 4) = true := by kernel_rfl
theorem run3_nil_n5 (k l : Nat) : run3 (.slice none 0 0) (.negSucc k) (.ofNat 5) = true := by kernel_rfl
theorem run3_nil_n6 (k l : Nat) : run3 (.slice none 0 0) (.negSucc k) (.ofNat 6) = true := by kernel_rfl
theorem run3_nil_ns (k l : Nat) : run3 (.slice none 0 0) (.negSucc k) (.ofNat (l + 7)) = true := by kernel_rfl
theorem run3_emp_0n (k l : Nat) : run3 (emp) (.ofNat 0) (.negSucc l) = true := by kernel_rfl
theorem run3_emp_00 (k l : Nat) : run3 (emp) (.ofNat 0) (.ofNat 0) = true := by kernel_rfl
theorem run3_emp_01 (k l : Nat) : run3 (emp) (.ofNat 0) (.ofNat 1) = true := by kernel_rfl
theorem run3_emp_02 (k l : Nat) : run3 (emp) (.ofNat 0) (.ofNat 2) = true := by kernel_rfl
theorem run3_emp_03 (k l : Nat) : run3 (emp) (.ofNat 0) (.ofNat 3) = true := by kernel_rfl
theorem run3_emp_04 (k l : Nat) : run3 (emp) (.ofNat 0) (.ofNat 4) = true := by kernel_rfl
theorem run3_emp_05 (k l : Nat) : run3 (emp) (.ofNat 0) (.ofNat 5) = true := by kernel_rfl
theorem run3_emp_06 (k l : Nat) : run3 (emp) (.ofNat 0) (.ofNat 6) = true := by kernel_rfl
theorem run3_emp_0s (k l : Nat) : run3 (emp) (.ofNat 0) (.ofNat (l + 7)) = true := by kernel_rfl
theorem run3_emp_sn (k l : Nat) : run3 (emp) (.ofNat (k + 1)) (.negSucc l) = true := by kernel_rfl
theorem run3_emp_s0 (k l : Nat) : run3 (emp) (.ofNat (k + 1)) (.ofNat 0) = true := by kernel_rfl
theorem run3_emp_s1 (k l : Nat) : run3 (emp) (.ofNat (k + 1)) (.ofNat 1) = true := by kernel_rfl
theorem run3_emp_s2 (k l : Nat) : run3 (emp) (.ofNat (k + 1)) (.ofNat 2) = true := by kernel_rfl
theorem run3_emp_s3 (k l : Nat) : run3 (emp) (.ofNat (k + 1)) (.ofNat 3) = true := by kernel_rfl
theorem run3_emp_s4 (k l : Nat) : run3 (emp) (.ofNat (k + 1)) (.ofNat 4) = true := by kernel_rfl
theorem run3_emp_s5 (k l : Nat) : run3 (emp) (.ofNat (k + 1)) (.ofNat 5) = true := by kernel_rfl
theorem run3_emp_s6 (k l : Nat) : run3 (emp) (.ofNat (k + 1)) (.ofNat 6) = true := by kernel_rfl
theorem run3_emp_ss (k l : Nat) : run3 (emp) (.ofNat (k + 1)) (.ofNat (l + 7)) = true := by kernel_rfl
theorem run3_emp_nn (k l : Nat) : run3 (emp) (.negSucc k) (.negSucc l) = true := by kernel_rfl
theorem run3_emp_n0 (k l : Nat) : run3 (emp) (.negSucc k) (.ofNat 0) = true := by kernel_rfl
theorem run3_emp_n1 (k l : Nat) : run3 (emp) (.negSucc k) (.ofNat 1) = true := by kernel_rfl
theorem run3_emp_n2 (k l : Nat) : run3 (emp) (.negSucc k) (.ofNat 2) = true := by kernel_rfl
theorem run3_emp_n3 (k l : Nat) : run3 (emp) (.negSucc k) (.ofNat 3) = true := by kernel_rfl
theorem run3_emp_n4 (k l : Nat) : run3 (emp) (.negSucc k) (.ofNat 4) = true := by kernel_rfl
theorem run3_emp_n5 (k l : Nat) : run3 (emp) (.negSucc k) (.ofNat 5) = true := by kernel_rfl
theorem run3_emp_n6 (k l : Nat) : run3 (emp) (.negSucc k) (.ofNat 6) = true := by kernel_rfl
theorem run3_emp_ns (k l : Nat) : run3 (emp) (.negSucc k) (.ofNat (l + 7)) = true := by kernel_rfl
theorem split_z {R : Int → Prop} (h : ∀ l, R (.negSucc l)) (h0 : R (.ofNat 0)) (h1 : R (.ofNat 1)) (h2 : R (.ofNat 2)) (h3 : R (.ofNat 3)) (h4 : R (.ofNat 4)) (h5 : R (.ofNat 5)) (h6 : R (.ofNat 6)) (h7 : ∀ l, R (.ofNat (l + 7))) : ∀ z, R z
  | .negSucc l => h l
  | .ofNat 0 => h0
  | .ofNat 1 => h1
  | .ofNat 2 => h2
  | .ofNat 3 => h3
  | .ofNat 4 => h4
  | .ofNat 5 => h5
  | .ofNat 6 => h6
  | .ofNat (l + 7) => h7 l
theorem split_x {R : Int → Prop} (h0 : R (.ofNat 0)) (h1 : ∀ k, R (.ofNat (k + 1))) (h2 : ∀ k, R (.negSucc k)) : ∀ x, R x
  | .ofNat 0 => h0
  | .ofNat (k + 1) => h1 k
  | .negSucc k => h2 k
theorem run3_nil (x z : Int) : run3 (.slice none 0 0) x z = true :=
  split_x (R := fun x => run3 (.slice none 0 0) x z = true)
    (split_z (R := fun z => run3 (.slice none 0 0) (.ofNat 0) z = true) (fun l => run3_nil_0n 0 l) (run3_nil_00 0 0) (run3_nil_01 0 0) (run3_nil_02 0 0) (run3_nil_03 0 0) (run3_nil_04 0 0) (run3_nil_05 0 0) (run3_nil_06 0 0) (fun l => run3_nil_0s 0 l) z)
    (fun k => split_z (R := fun z => run3 (.slice none 0 0) (.ofNat (k + 1)) z = true) (fun l => run3_nil_sn k l) (run3_nil_s0 k 0) (run3_nil_s1 k 0) (run3_nil_s2 k 0) (run3_nil_s3 k 0) (run3_nil_s4 k 0) (run3_nil_s5 k 0) (run3_nil_s6 k 0) (fun l => run3_nil_ss k l) z)
    (fun k => split_z (R := fun z => run3 (.slice none 0 0) (.negSucc k) z = true) (fun l => run3_nil_nn k l) (run3_nil_n0 k 0) (run3_nil_n1 k 0) (run3_nil_n2 k 0) (run3_nil_n3 k 0) (run3_nil_n4 k 0) (run3_nil_n5 k 0) (run3_nil_n6 k 0) (fun l => run3_nil_ns k l) z) x
theorem run3_emp (x z : Int) : run3 (emp) x z = true :=
  split_x (R := fun x => run3 (emp) x z = true)
    (split_z (R := fun z => run3 (emp) (.ofNat 0) z = true) (fun l => run3_emp_0n 0 l) (run3_emp_00 0 0) (run3_emp_01 0 0) (run3_emp_02 0 0) (run3_emp_03 0 0) (run3_emp_04 0 0) (run3_emp_05 0 0) (run3_emp_06 0 0) (fun l => run3_emp_0s 0 l) z)
    (fun k => split_z (R := fun z => run3 (emp) (.ofNat (k + 1)) z = true) (fun l => run3_emp_sn k l) (run3_emp_s0 k 0) (run3_emp_s1 k 0) (run3_emp_s2 k 0) (run3_emp_s3 k 0) (run3_emp_s4 k 0) (run3_emp_s5 k 0) (run3_emp_s6 k 0) (fun l => run3_emp_ss k l) z)
    (fun k => split_z (R := fun z => run3 (emp) (.negSucc k) z = true) (fun l => run3_emp_nn k l) (run3_emp_n0 k 0) (run3_emp_n1 k 0) (run3_emp_n2 k 0) (run3_emp_n3 k 0) (run3_emp_n4 k 0) (run3_emp_n5 k 0) (run3_emp_n6 k 0) (fun l => run3_emp_ns k l) z) x
end
end Go.Proofs.YtgnkjmgkfibipaaGreatDoor

/- TrialPlans: its walk at a caller's list. -/
namespace Go.Proofs.YtgnkjmgkfibipaaGreatDoor
set_option linter.unusedVariables false
set_option linter.unusedSimpArgs false
open Go Go.R Go.RowKit
set_option maxRecDepth 1000000
noncomputable section
theorem cell_block {w : World} {a : Addr} {v : Value} (h : w.cell? a = some v) : a.spot = none ∧ ∃ cs el fr, w.heap[a.block]? = some (.cells cs el fr) ∧ cs[a.off]? = some v := by
  unfold World.cell? at h
  split at h
  · rename_i c el fr hb
    split at h
    · cases h
    · rename_i hs
      exact ⟨by simpa using hs, c, el, fr, hb, h⟩
  · cases h
theorem add_none (b o k : Nat) : (⟨b, o, none⟩ : Addr).add k = ⟨b, o + k, none⟩ := by
  unfold Addr.add
  split
  · rename_i h; rw [h]; rfl
  · rfl
theorem knob : ownKnob Tryz.prog.godebug = none := by kernel_rfl
theorem plans_walk (a : Addr) (n c : Nat) (hn : 0 < n) (hc : n ≤ c) (f : Nat → Int) (x z : Int) (W : World) (hcell : ∀ i, i < n → W.cell? (a.add i) = some (.int .i64 (f i))) :
    Calls Tryz.prog 3 #[.slice (some a) n c, .int .i64 x, .int .i64 z] W fun e w' => e = .returned (.bool true) ∧ Below W.heap.size W w' := by
  obtain ⟨hs0, cs, el, fr, hb, _⟩ := cell_block (hcell 0 hn)
  obtain ⟨blk, off, spot⟩ := a
  have hspot : spot = none := by
    cases spot with
    | none => rfl
    | some s => simp [Addr.add] at hs0
  subst hspot
  simp only [add_none] at hcell hb
  have hb' : W.heap[blk]? = some (.cells cs el fr) := hb
  have at_ : ∀ i, i < n → cs[off + i]? = some (.int .i64 (f i)) := by
    intro i hi
    obtain ⟨_, cs1, el1, fr1, h1, h2⟩ := cell_block (hcell i hi)
    have h1' : W.heap[blk]? = some (.cells cs1 el1 fr1) := h1
    rw [hb'] at h1'; cases h1'
    exact h2
  have hsize : off + n ≤ cs.size := by
    have := (Array.getElem?_eq_some_iff.1 (at_ (n - 1) (by omega))).1
    omega
  have hblk : blk < W.heap.size := (Array.getElem?_eq_some_iff.1 hb').1
  let μ : Mp := fun i => if i = 0 then some (blk, off, off + n) else none
  have μ0 : μ 0 = some (blk, off, off + n) := rfl
  have μi : ∀ {i p}, μ i = some p → i = 0 ∧ p = (blk, off, off + n) := by
    intro i p h
    by_cases hi : i = 0
    · subst hi; exact ⟨rfl, (Option.some.inj h).symm⟩
    · have : μ i = none := if_neg hi
      rw [this] at h; cases h
  have g0 : (hp [viewZ n f]).get 0 = viewZ n f := hp_get _ 0 _ rfl
  have H : HR (fun b => b < W.heap.size) W μ (hp [viewZ n f]) W := by
    refine ⟨fun i p h => ?_, fun i b z e h => ?_, fun i b z e h hw => ?_, fun i j b zi ei zj ej hne hi hj => ?_, fun i cc l p ty hi hg j hj => ?_, rfl, rfl, rfl, Nat.le_refl _, fun b hb => ⟨hb, rfl⟩⟩
    · rw [(μi h).1, hp_next]; exact Nat.zero_lt_one
    · obtain ⟨rfl, h2⟩ := μi h
      cases h2
      rw [g0]
      refine ⟨cs, el, fr, hb', ?_, hsize, fun k v hk => ?_, fun h => (by cases h), fun t h => (by cases h)⟩
      · rw [intsZ_len n f]; exact Nat.le_refl _
      · have hk' : k < n := by have := (List.getElem?_eq_some_iff.1 hk).1; rwa [intsZ_len n f] at this
        have : v = .int .i64 (f k) := by simp [intsZ, hk'] at hk; exact hk.symm
        subst this
        exact ⟨_, at_ k hk', .plain rfl⟩
    · obtain ⟨rfl, _⟩ := μi h
      rw [g0] at hw; cases hw
    · exact absurd ((μi hi).1.trans (μi hj).1.symm) hne
    · have : i = 0 := by
        by_cases hi0 : i = 0
        · exact hi0
        · exact absurd (if_neg hi0) hi
      subst this
      rw [g0] at hg
      cases hg
      cases hj
  have hl : LR μ [slV n c, .int .i64 x, .int .i64 z] (#[.slice (some ⟨blk, off, none⟩) n c, .int .i64 x, .int .i64 z] : Array Value).toList := LR.cons (VR.slice (i := 0) (o := 0) μ0) (LR.cons (.plain rfl) (LR.cons (.plain rfl) LR.nil))
  refine (calls_of (k := 1) (R := fun v' _ => v' = .bool true) Tryz.func3 (show Tryz.f3.body = some q3 by kernel_rfl) (plans_runs (f := f) hc hn x z) H hl).mono fun e w' hh => ?_
  obtain ⟨v', rfl, v, h', rfl, μ', q1, q2, _⟩ := hh
  rw [q1.bool_inv]
  exact ⟨rfl, q2.below⟩
end
end Go.Proofs.YtgnkjmgkfibipaaGreatDoor
