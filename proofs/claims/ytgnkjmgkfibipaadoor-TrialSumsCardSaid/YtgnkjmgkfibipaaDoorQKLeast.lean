/- What Least's inner function answers, whatever it remembers: by the kernel, number by number. -/
import Derived.Test.YtgnkjmgkfibipaaDoorQKCount
namespace Go.Proofs.YtgnkjmgkfibipaaDoor
set_option linter.unusedVariables false
set_option linter.unusedSimpArgs false
open Go Go.R
set_option maxRecDepth 1000000
noncomputable section

theorem keyEq2 (a b x y : Nat) : keyEq (key2 a b) (key2 x y) = some (a == x && (b == y && true)) := by
  show (if (2 : Nat) = 2 then listEq [i64 a, i64 b] [i64 x, i64 y] else none) = _
  rw [if_pos rfl]
  show some ((Int.ofNat a == Int.ofNat x) && ((Int.ofNat b == Int.ofNat y) && true)) = _
  rw [natEq, natEq]

theorem look2 (n b : Nat) : ∀ es, Stands 1 es → lookA (key2 n b) es = some none ∨ lookA (key2 n b) es = some (some (i64 (leastN n b)))
  | [], _ => .inl rfl
  | e :: es, hs => by
    obtain ⟨x, y, rfl⟩ := hs e (by simp)
    simp only [lookA, keyEq2]
    cases hq : (n == x && (b == y && true)) with
    | true =>
      simp only [Bool.and_true, Bool.and_eq_true, beq_iff_eq] at hq
      obtain ⟨rfl, rfl⟩ := hq
      exact .inr rfl
    | false => exact look2 n b es fun e he => hs e (List.mem_cons_of_mem _ he)

theorem upd2 (n b : Nat) : ∀ es, Stands 1 es → ∃ es', updA (key2 n b) (i64 (leastN n b)) es = some es' ∧ Stands 1 es'
  | [], _ => ⟨_, rfl, fun e he => by simp at he; exact ⟨n, b, he⟩⟩
  | e :: es, hs => by
    obtain ⟨x, y, rfl⟩ := hs e (by simp)
    have hs' : Stands 1 es := fun e he => hs e (List.mem_cons_of_mem _ he)
    simp only [updA, keyEq2]
    cases hq : (n == x && (b == y && true)) with
    | true => exact ⟨_, rfl, fun e he => by
        rcases List.mem_cons.1 he with rfl | h
        · exact ⟨n, b, rfl⟩
        · exact hs' e h⟩
    | false =>
      obtain ⟨es', h1, h2⟩ := upd2 n b es hs'
      refine ⟨(key2 x y, i64 (leastN x y)) :: es', by simp only [h1, Option.map_some], fun e he => ?_⟩
      rcases List.mem_cons.1 he with rfl | h
      · exact ⟨x, y, rfl⟩
      · exact h2 e h

def cMl : AObj := .cells [.map (some 0)] true [] (some 112)
def cFl : AObj := .cells [.func (.func 110) #[] #[ptrV 1, ptrV 2]] true [] (some 35)
def rootsL : List AObj := [.ghost 1, cMl, cFl]
def objsL (n b : Nat) : List AObj := [.ghost 1, cMl, cFl, .cells [i64 n, i64 b] true [] (some 113)]
def vL (n b : Nat) : Option Value := if b = 0 then none else some (i64 (leastN n b))
def hL (N : Nat) : Hook := orH hReach (memoH 110 rootsL (ptrV 1) (ptrV 2) (grid2 N 7 vL))
def kL (N : Nat) : CallF := callA Tryd.prog (hL N) 1000
def cL : Code := bodyOf Tryd.f110
def thenL : Code := thenOf (tl (hd (behind 5 cL)))
def argsL (n b : Nat) : List Value := [i64 n, i64 b, ptrV 1, ptrV 2]
def lL (n b : Nat) : List (Nat × Value) := [(0, i64 n), (1, i64 b), (2, ptrV 1), (3, ptrV 2), (7, ptrV 3)]
def lL' (n b v : Nat) (is : Bool) : List (Nat × Value) := lL n b ++ [(8, i64 v), (9, .bool is)]

/-- What the kernel is to see at one number. -/
def chkL1 (n b : Nat) : Bool :=
  if Nat.beq n 0 || Nat.beq b 1 then okRunH Tryd.prog Tryd.f110 rootsL (execA Tryd.prog (kL n) 1000 cL (entry Tryd.f110 (argsL n b) (hp rootsL))) (i64 (leastN n b))
  else ends (execCh Tryd.prog (kL n) 3 1000 4 cL (entry Tryd.f110 (argsL n b) (hp rootsL))) (fun af => sees (lL n b) 66 (objsL n b) af) &&
    (okRunH Tryd.prog Tryd.f110 rootsL (execA Tryd.prog (kL n) 1000 (behind 5 cL) (sth (lL' n b (leastN n b) true) 66 (objsL n b))) (i64 (leastN n b)) &&
     ends (execCh Tryd.prog (kL n) 3 1000 3 thenL (sth (lL' n b 0 false) 66 (objsL n b))) (fun af => sees (lL n b ++ [(8, i64 (leastN n b))]) 66 (objsL n b) af) &&
     okRunH Tryd.prog Tryd.f110 rootsL (execA Tryd.prog (kL n) 1000 (behind 6 cL) (sth (lL n b ++ [(8, i64 (leastN n b))]) 66 (objsL n b))) (i64 (leastN n b)))

def chkL (n : Nat) : Bool := (List.range 7).all fun b => Nat.beq b 0 || chkL1 n b

def cL6 : Code := hd (behind 4 cL)
def cL14 : Code := behind 3 thenL

theorem step110 (n b : Nat) (hh : HookOk Tryd.prog (hL n)) (hc : chkL1 n b = true) : Local Tryd.prog 3 110 (argsL n b) (hp rootsL) (Keeps rootsL (i64 (leastN n b))) := by
  have hk : CallOk Tryd.prog (kL n) := call_ok mixed noNum hh 1000
  have hnext : 3 ≤ (hp rootsL).next := by rw [hp_next]; exact Nat.le_refl 3
  refine local_of noNum Tryd.func110 (show Tryd.f110.body = some cL by kernel_rfl) ?_
  show Runs Tryd.prog 3 cL (entry Tryd.f110 (argsL n b) (hp rootsL)) (EndsAs Tryd.prog Tryd.f110 (Keeps rootsL (i64 (leastN n b))))
  unfold chkL1 at hc
  split at hc
  · exact Runs.lastH mixed hk hnext hc
  simp only [Bool.and_eq_true] at hc
  obtain ⟨ha, ⟨hb1, hb2⟩, hb3⟩ := hc
  obtain ⟨af, e1, s1⟩ := ends_spec ha
  refine Runs.chain mixed hk 4 cL _ .normal af hnext e1 ?_
  show Runs Tryd.prog 3 (behind 4 cL) af _
  refine Runs.less (sees_less tame s1 (show 3 ≤ 4 by decide)) ?_
  rw [show behind 4 cL = .seq (.region 6 (regOps cL6) false) (behind 5 cL) by kernel_rfl]
  refine Runs.seq ?_
  have hno : 3 ≤ (hp (objsL n b)).next := by rw [hp_next]; exact (by decide : 3 ≤ 4)
  refine Runs.opened (t := 2) (i := 1) (g := 0) (tag := 1) ⟨by kernel_rfl, true, [], some 112, by kernel_rfl⟩ (by kernel_rfl) fun es hs => ?_
  have hsplit : (regOps cL6).toList = (regOps cL6).toList.take 2 ++ ([opAt cL6 2] ++ (regOps cL6).toList.drop 3) := by kernel_rfl
  -- the region with the look, by what it finds
  have look : ∀ (r : Option Value) (v : Value) (is : Bool), lookA (key2 n b) es = some r → r.getD (i64 0) = v → r.isSome = is →
      Runs Tryd.prog 3 (behind 5 cL) (sth (lL n b ++ [(8, v), (9, .bool is)]) 66 (objsL n b)) (EndsAs Tryd.prog Tryd.f110 (Keeps rootsL (i64 (leastN n b)))) → plainV v = true →
      Runs Tryd.prog 3 (.region 6 (regOps cL6) false) ⟨(sth (lL n b) 66 (objsL n b)).tm, 66, (hp (objsL n b)).put 0 (.map es)⟩
        (andThen (fun a => Runs Tryd.prog 3 (behind 5 cL) a (EndsAs Tryd.prog Tryd.f110 (Keeps rootsL (i64 (leastN n b))))) (EndsAs Tryd.prog Tryd.f110 (Keeps rootsL (i64 (leastN n b))))) := by
    intro r v is hl hv his hrun hpl
    have h0 : 3 ≤ ((hp (objsL n b)).put 0 (.map es)).next := hno
    let H := (hp (objsL n b)).put 0 (.map es)
    let a0 : AF := ⟨(sth (lL n b) 66 (objsL n b)).tm, 66, H⟩
    let a1 : AF := (a0.put (some 26) (.map (some 0)) H).put (some 27) (key2 n b) H
    let a2 : AF := a1.put (some 28) (.tuple #[v, .bool is]) H
    let a3 : AF := ((((a2.put (some 25) (.tuple #[v, .bool is]) H).put (some 29) v H).put (some 30) (.bool is) H).put (some 8) v H).put (some 9) (.bool is) H
    refine Runs.regionL (af' := a3) mixed hk h0 ?_ ?_
    · rw [hsplit]
      refine opsL_app _ _ a0 a1 a3 (by kernel_rfl) (opsL_app _ _ a1 a2 a3 (opsL_one (by kernel_rfl) ?_) (by kernel_rfl))
      rw [show (opAt cL6 2).op = .lookup 112 (.tmp 26) (.tmp 27) true by kernel_rfl, ← hv, ← his]
      exact look_step (g := 0) (by kernel_rfl) (by kernel_rfl) (by kernel_rfl) (show Tryd.prog.underlying 112 = some (.map 113 3) by kernel_rfl) (show zeroA Tryd.prog 3 = some (i64 0) by kernel_rfl) (by kernel_rfl) hl
    · show Runs Tryd.prog 3 (behind 5 cL) a3 _
      refine Runs.shut (t := 2) (i := 1) (g := 0) (tag := 1) (es := es) ⟨by kernel_rfl, true, [], some 112, by kernel_rfl⟩ (by kernel_rfl) hs ?_
      refine Runs.less (less_seen (l := lL n b ++ [(8, v), (9, .bool is)]) (sz := 66) (os := objsL n b) tame ?_ (show 3 ≤ 4 by decide) (by kernel_rfl) (by kernel_rfl) (by kernel_rfl) (by kernel_rfl)) hrun
      have : cloB 10 4 v = true := by unfold cloB; rw [hpl]; rfl
      show ((lL n b ++ [(8, v), (9, .bool is)]).all (fun p => cloB 10 4 p.2) && (objsL n b).all (cloOB 4)) = true
      rw [show (objsL n b).all (cloOB 4) = true by kernel_rfl, Bool.and_true, List.all_eq_true]
      intro p hp
      rcases List.mem_append.1 hp with hp | hp
      · have h2 : (lL n b).all (fun p => cloB 10 4 p.2) = true := by kernel_rfl
        exact List.all_eq_true.1 h2 p hp
      · simp only [List.mem_cons, List.mem_nil_iff, or_false] at hp
        rcases hp with rfl | rfl
        · exact this
        · kernel_rfl
  rcases look2 n b es hs with hl | hl
  · -- nothing is remembered: the rounds, and what is written behind them
    refine look none (i64 0) false hl rfl rfl ?_ rfl
    rw [show behind 5 cL = .seq (.seq (.region 7 (regOps (hd (hd (behind 5 cL)))) false) (.cond (.tmp 32) thenL .skip)) (behind 6 cL) by kernel_rfl]
    refine Runs.seq (Runs.seq ?_)
    let H := hp (objsL n b)
    let b0 : AF := sth (lL n b ++ [(8, i64 0), (9, .bool false)]) 66 (objsL n b)
    let b1 : AF := (b0.put (some 31) (.bool false) H).put (some 32) (.bool true) H
    refine Runs.regionL (af' := b1) mixed hk hno (by kernel_rfl) ?_
    show Runs Tryd.prog 3 (.cond (.tmp 32) thenL .skip) b1 _
    refine Runs.cond (b := true) (by kernel_rfl) (fun _ => ?_) (fun h => by cases h)
    refine Runs.less (af1 := sth (lL n b ++ [(8, i64 0), (9, .bool false)]) 66 (objsL n b)) (less_seen (l := lL n b ++ [(8, i64 0), (9, .bool false)]) (sz := 66) (os := objsL n b) tame (by kernel_rfl) (show 3 ≤ 4 by decide) (by kernel_rfl) (by kernel_rfl) (by kernel_rfl) (by kernel_rfl)) ?_
    obtain ⟨ag, e2, s2⟩ := ends_spec hb2
    refine Runs.chain mixed hk 3 thenL _ .normal ag hno e2 ?_
    show Runs Tryd.prog 3 (behind 3 thenL) ag _
    refine Runs.less (sees_less tame s2 (show 3 ≤ 4 by decide)) ?_
    rw [show behind 3 thenL = .region 14 (regOps cL14) false by kernel_rfl]
    refine Runs.opened (t := 2) (i := 1) (g := 0) (tag := 1) ⟨by kernel_rfl, true, [], some 112, by kernel_rfl⟩ (by kernel_rfl) fun fs hf => ?_
    obtain ⟨gs, hu, hgs⟩ := upd2 n b fs hf
    let G := H.put 0 (.map fs)
    let v := i64 (leastN n b)
    let d0 : AF := ⟨(sth (lL n b ++ [(8, v)]) 66 (objsL n b)).tm, 66, G⟩
    let d1 : AF := ((d0.put (some 62) (.map (some 0)) G).put (some 63) (key2 n b) G).put (some 64) v G
    let d2 : AF := d1.put none undef (G.put 0 (.map gs))
    have h0 : 3 ≤ G.next := hno
    have hsp : (regOps cL14).toList = (regOps cL14).toList.take 3 ++ [opAt cL14 3] := by kernel_rfl
    refine Runs.regionL (af' := d2) mixed hk h0 ?_ ?_
    · rw [hsp]
      refine opsL_app _ _ d0 d1 d2 (by kernel_rfl) ?_
      refine (opsL_one (h := G.put 0 (.map gs)) (v := undef) (by kernel_rfl) ?_).trans (by kernel_rfl)
      rw [show (opAt cL14 3).op = .mapUpdate 112 (.tmp 62) (.tmp 63) (.tmp 64) by kernel_rfl]
      exact upd_step (g := 0) (key := key2 n b) (v := v) (es := fs) (by kernel_rfl) (by kernel_rfl) (by kernel_rfl) (by kernel_rfl) (show Tryd.prog.underlying 112 = some (.map 113 3) by kernel_rfl) (by kernel_rfl) hu
    · show Runs Tryd.prog 3 (behind 6 cL) d2 _
      refine Runs.shut (t := 2) (i := 1) (g := 0) (tag := 1) (es := gs) ⟨by kernel_rfl, true, [], some 112, by kernel_rfl⟩ (by kernel_rfl) hgs ?_
      exact Runs.less (af1 := sth (lL n b ++ [(8, v)]) 66 (objsL n b)) (less_seen (l := lL n b ++ [(8, v)]) (sz := 66) (os := objsL n b) tame (by kernel_rfl) (show 3 ≤ 4 by decide) (by kernel_rfl) (by kernel_rfl) (by kernel_rfl) (by kernel_rfl)) (Runs.lastH mixed hk hno hb3)
  · exact look (some (i64 (leastN n b))) (i64 (leastN n b)) true hl rfl rfl (Runs.lastH mixed hk hno hb1) rfl
end
end Go.Proofs.YtgnkjmgkfibipaaDoor
