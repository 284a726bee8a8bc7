/- What Count's inner function answers, whatever it remembers: by the kernel, number by number. -/
import Derived.Test.YtgnkjmgkfibipaaDoorQKTabs
import Derived.Test.YtgnkjmgkfibipaaDoorQRG5
namespace Go.Proofs.YtgnkjmgkfibipaaDoor
set_option linter.unusedVariables false
set_option linter.unusedSimpArgs false
open Go Go.R
set_option maxRecDepth 1000000
noncomputable section

theorem tame : Tame := by
  intro tag es hs e he
  match tag, hs with
  | 0, hs => obtain ⟨n, b, t, rfl⟩ := hs e he; rfl
  | 1, hs => obtain ⟨n, b, rfl⟩ := hs e he; rfl

theorem natEq (m n : Nat) : ((Int.ofNat m) == (Int.ofNat n)) = (m == n) := by
  rw [Bool.eq_iff_iff, beq_iff_eq, beq_iff_eq]
  exact ⟨fun h => Int.ofNat.inj h, fun h => by rw [h]⟩

theorem keyEq3 (a b c x y z : Nat) : keyEq (key3 a b c) (key3 x y z) = some (a == x && (b == y && (c == z && true))) := by
  show (if (3 : Nat) = 3 then listEq [i64 a, i64 b, i64 c] [i64 x, i64 y, i64 z] else none) = _
  rw [if_pos rfl]
  show some ((Int.ofNat a == Int.ofNat x) && ((Int.ofNat b == Int.ofNat y) && ((Int.ofNat c == Int.ofNat z) && true))) = _
  rw [natEq, natEq, natEq]

theorem look3 (n b t : Nat) : ∀ es, Stands 0 es → lookA (key3 n b t) es = some none ∨ lookA (key3 n b t) es = some (some (i64 (countN n b t)))
  | [], _ => .inl rfl
  | e :: es, hs => by
    obtain ⟨x, y, z, rfl⟩ := hs e (by simp)
    simp only [lookA, keyEq3]
    cases hq : (n == x && (b == y && (t == z && true))) with
    | true =>
      simp only [Bool.and_true, Bool.and_eq_true, beq_iff_eq] at hq
      obtain ⟨rfl, rfl, rfl⟩ := hq
      exact .inr rfl
    | false => exact look3 n b t es fun e he => hs e (List.mem_cons_of_mem _ he)

theorem upd3 (n b t : Nat) : ∀ es, Stands 0 es → ∃ es', updA (key3 n b t) (i64 (countN n b t)) es = some es' ∧ Stands 0 es'
  | [], _ => ⟨_, rfl, fun e he => by simp at he; exact ⟨n, b, t, he⟩⟩
  | e :: es, hs => by
    obtain ⟨x, y, z, rfl⟩ := hs e (by simp)
    have hs' : Stands 0 es := fun e he => hs e (List.mem_cons_of_mem _ he)
    simp only [updA, keyEq3]
    cases hq : (n == x && (b == y && (t == z && true))) with
    | true => exact ⟨_, rfl, fun e he => by
        rcases List.mem_cons.1 he with rfl | h
        · exact ⟨n, b, t, rfl⟩
        · exact hs' e h⟩
    | false =>
      obtain ⟨es', h1, h2⟩ := upd3 n b t es hs'
      refine ⟨(key3 x y z, i64 (countN x y z)) :: es', by simp only [h1, Option.map_some], fun e he => ?_⟩
      rcases List.mem_cons.1 he with rfl | h
      · exact ⟨x, y, z, rfl⟩
      · exact h2 e h

def cM : AObj := .cells [.map (some 0)] true [] (some 88)
def cF : AObj := .cells [.func (.func 85) #[] #[ptrV 1, ptrV 2]] true [] (some 89)
def rootsC : List AObj := [.ghost 0, cM, cF]
def objsC (n b t : Nat) : List AObj := [.ghost 0, cM, cF, .cells [i64 n, i64 b, i64 t] true [] (some 73)]
def vC (n b t : Nat) : Option Value := some (i64 (countN n b t))
def hC (N : Nat) : Hook := orH hReach (memoH 85 rootsC (ptrV 1) (ptrV 2) (grid3 N 7 13 vC))
def kC (N : Nat) : CallF := callA Tryd.prog (hC N) 1000
def c85 : Code := bodyOf Tryd.f85
def thenC : Code := thenOf (tl (hd (behind 4 c85)))
def argsC (n b t : Nat) : List Value := [i64 n, i64 b, i64 t, ptrV 1, ptrV 2]
def lC (n b t : Nat) : List (Nat × Value) := [(0, i64 n), (1, i64 b), (2, i64 t), (3, ptrV 1), (4, ptrV 2), (9, ptrV 3)]
def lC' (n b t v : Nat) (is : Bool) : List (Nat × Value) := lC n b t ++ [(10, i64 v), (11, .bool is)]

/-- What the kernel is to see at one number. -/
def chk1 (n b t : Nat) : Bool :=
  if Nat.beq n 0 || Nat.blt (reachN b t) n then okRunH Tryd.prog Tryd.f85 rootsC (execA Tryd.prog (kC n) 1000 c85 (entry Tryd.f85 (argsC n b t) (hp rootsC))) (i64 (countN n b t))
  else ends (execCh Tryd.prog (kC n) 3 1000 3 c85 (entry Tryd.f85 (argsC n b t) (hp rootsC))) (fun af => sees (lC n b t) 62 (objsC n b t) af) &&
    (okRunH Tryd.prog Tryd.f85 rootsC (execA Tryd.prog (kC n) 1000 (behind 4 c85) (sth (lC' n b t (countN n b t) true) 62 (objsC n b t))) (i64 (countN n b t)) &&
     ends (execCh Tryd.prog (kC n) 3 1000 1 thenC (sth (lC' n b t 0 false) 62 (objsC n b t))) (fun af => sees (lC n b t ++ [(10, i64 (countN n b t))]) 62 (objsC n b t) af) &&
     okRunH Tryd.prog Tryd.f85 rootsC (execA Tryd.prog (kC n) 1000 (behind 5 c85) (sth (lC n b t ++ [(10, i64 (countN n b t))]) 62 (objsC n b t))) (i64 (countN n b t)))

def chk (n : Nat) : Bool := (List.range 7).all fun b => (List.range 13).all fun t => chk1 n b t

def c6 : Code := hd (behind 3 c85)
def c13 : Code := behind 1 thenC

theorem step85 (n b t : Nat) (hh : HookOk Tryd.prog (hC n)) (hc : chk1 n b t = true) : Local Tryd.prog 3 85 (argsC n b t) (hp rootsC) (Keeps rootsC (i64 (countN n b t))) := by
  have hk : CallOk Tryd.prog (kC n) := call_ok mixed noNum hh 1000
  have hnext : 3 ≤ (hp rootsC).next := by rw [hp_next]; exact Nat.le_refl 3
  refine local_of noNum Tryd.func85 (show Tryd.f85.body = some c85 by kernel_rfl) ?_
  show Runs Tryd.prog 3 c85 (entry Tryd.f85 (argsC n b t) (hp rootsC)) (EndsAs Tryd.prog Tryd.f85 (Keeps rootsC (i64 (countN n b t))))
  unfold chk1 at hc
  split at hc
  · exact Runs.lastH mixed hk hnext hc
  simp only [Bool.and_eq_true] at hc
  obtain ⟨ha, ⟨hb1, hb2⟩, hb3⟩ := hc
  obtain ⟨af, e1, s1⟩ := ends_spec ha
  refine Runs.chain mixed hk 3 c85 _ .normal af hnext e1 ?_
  show Runs Tryd.prog 3 (behind 3 c85) af _
  refine Runs.less (sees_less tame s1 (show 3 ≤ 4 by decide)) ?_
  rw [show behind 3 c85 = .seq (.region 6 (regOps c6) false) (behind 4 c85) by kernel_rfl]
  refine Runs.seq ?_
  have hno : 3 ≤ (hp (objsC n b t)).next := by rw [hp_next]; exact (by decide : 3 ≤ 4)
  refine Runs.opened (t := 3) (i := 1) (g := 0) (tag := 0) ⟨by kernel_rfl, true, [], some 88, by kernel_rfl⟩ (by kernel_rfl) fun es hs => ?_
  have hsplit : (regOps c6).toList = (regOps c6).toList.take 2 ++ ([opAt c6 2] ++ (regOps c6).toList.drop 3) := by kernel_rfl
  -- the region with the look, by what it finds
  have look : ∀ (r : Option Value) (v : Value) (is : Bool), lookA (key3 n b t) es = some r → r.getD (i64 0) = v → r.isSome = is →
      Runs Tryd.prog 3 (behind 4 c85) (sth (lC n b t ++ [(10, v), (11, .bool is)]) 62 (objsC n b t)) (EndsAs Tryd.prog Tryd.f85 (Keeps rootsC (i64 (countN n b t)))) → plainV v = true →
      Runs Tryd.prog 3 (.region 6 (regOps c6) false) ⟨(sth (lC n b t) 62 (objsC n b t)).tm, 62, (hp (objsC n b t)).put 0 (.map es)⟩
        (andThen (fun a => Runs Tryd.prog 3 (behind 4 c85) a (EndsAs Tryd.prog Tryd.f85 (Keeps rootsC (i64 (countN n b t))))) (EndsAs Tryd.prog Tryd.f85 (Keeps rootsC (i64 (countN n b t))))) := by
    intro r v is hl hv his hrun hpl
    have h0 : 3 ≤ ((hp (objsC n b t)).put 0 (.map es)).next := hno
    let H := (hp (objsC n b t)).put 0 (.map es)
    let a0 : AF := ⟨(sth (lC n b t) 62 (objsC n b t)).tm, 62, H⟩
    let a1 : AF := (a0.put (some 27) (.map (some 0)) H).put (some 28) (key3 n b t) H
    let a2 : AF := a1.put (some 29) (.tuple #[v, .bool is]) H
    let a3 : AF := ((((a2.put (some 26) (.tuple #[v, .bool is]) H).put (some 30) v H).put (some 31) (.bool is) H).put (some 10) v H).put (some 11) (.bool is) H
    refine Runs.regionL (af' := a3) mixed hk h0 ?_ ?_
    · rw [hsplit]
      refine opsL_app _ _ a0 a1 a3 (by kernel_rfl) (opsL_app _ _ a1 a2 a3 (opsL_one (by kernel_rfl) ?_) (by kernel_rfl))
      rw [show (opAt c6 2).op = .lookup 88 (.tmp 27) (.tmp 28) true by kernel_rfl, ← hv, ← his]
      exact look_step (g := 0) (by kernel_rfl) (by kernel_rfl) (by kernel_rfl) (show Tryd.prog.underlying 88 = some (.map 73 3) by kernel_rfl) (show zeroA Tryd.prog 3 = some (i64 0) by kernel_rfl) (by kernel_rfl) hl
    · show Runs Tryd.prog 3 (behind 4 c85) a3 _
      refine Runs.shut (t := 3) (i := 1) (g := 0) (tag := 0) (es := es) ⟨by kernel_rfl, true, [], some 88, by kernel_rfl⟩ (by kernel_rfl) hs ?_
      refine Runs.less (less_seen (l := lC n b t ++ [(10, v), (11, .bool is)]) (sz := 62) (os := objsC n b t) tame ?_ (show 3 ≤ 4 by decide) (by kernel_rfl) (by kernel_rfl) (by kernel_rfl) (by kernel_rfl)) hrun
      have : cloB 10 4 v = true := by unfold cloB; rw [hpl]; rfl
      show ((lC n b t ++ [(10, v), (11, .bool is)]).all (fun p => cloB 10 4 p.2) && (objsC n b t).all (cloOB 4)) = true
      rw [show (objsC n b t).all (cloOB 4) = true by kernel_rfl, Bool.and_true, List.all_eq_true]
      intro p hp
      rcases List.mem_append.1 hp with hp | hp
      · have h2 : (lC n b t).all (fun p => cloB 10 4 p.2) = true := by kernel_rfl
        exact List.all_eq_true.1 h2 p hp
      · simp only [List.mem_cons, List.mem_nil_iff, or_false] at hp
        rcases hp with rfl | rfl
        · exact this
        · kernel_rfl
  rcases look3 n b t es hs with hl | hl
  · -- nothing is remembered: the rounds, and what is written behind them
    refine look none (i64 0) false hl rfl rfl ?_ rfl
    rw [show behind 4 c85 = .seq (.seq (.region 7 (regOps (hd (hd (behind 4 c85)))) false) (.cond (.tmp 33) thenC .skip)) (behind 5 c85) by kernel_rfl]
    refine Runs.seq (Runs.seq ?_)
    let H := hp (objsC n b t)
    let b0 : AF := sth (lC n b t ++ [(10, i64 0), (11, .bool false)]) 62 (objsC n b t)
    let b1 : AF := (b0.put (some 32) (.bool false) H).put (some 33) (.bool true) H
    refine Runs.regionL (af' := b1) mixed hk hno (by kernel_rfl) ?_
    show Runs Tryd.prog 3 (.cond (.tmp 33) thenC .skip) b1 _
    refine Runs.cond (b := true) (by kernel_rfl) (fun _ => ?_) (fun h => by cases h)
    refine Runs.less (af1 := sth (lC n b t ++ [(10, i64 0), (11, .bool false)]) 62 (objsC n b t)) (less_seen (l := lC n b t ++ [(10, i64 0), (11, .bool false)]) (sz := 62) (os := objsC n b t) tame (by kernel_rfl) (show 3 ≤ 4 by decide) (by kernel_rfl) (by kernel_rfl) (by kernel_rfl) (by kernel_rfl)) ?_
    obtain ⟨ag, e2, s2⟩ := ends_spec hb2
    refine Runs.chain mixed hk 1 thenC _ .normal ag hno e2 ?_
    show Runs Tryd.prog 3 (behind 1 thenC) ag _
    refine Runs.less (sees_less tame s2 (show 3 ≤ 4 by decide)) ?_
    rw [show behind 1 thenC = .region 13 (regOps c13) false by kernel_rfl]
    refine Runs.opened (t := 3) (i := 1) (g := 0) (tag := 0) ⟨by kernel_rfl, true, [], some 88, by kernel_rfl⟩ (by kernel_rfl) fun fs hf => ?_
    obtain ⟨gs, hu, hgs⟩ := upd3 n b t fs hf
    let G := H.put 0 (.map fs)
    let v := i64 (countN n b t)
    let d0 : AF := ⟨(sth (lC n b t ++ [(10, v)]) 62 (objsC n b t)).tm, 62, G⟩
    let d1 : AF := ((d0.put (some 58) (.map (some 0)) G).put (some 59) (key3 n b t) G).put (some 60) v G
    let d2 : AF := d1.put none undef (G.put 0 (.map gs))
    have h0 : 3 ≤ G.next := hno
    have hsp : (regOps c13).toList = (regOps c13).toList.take 3 ++ [opAt c13 3] := by kernel_rfl
    refine Runs.regionL (af' := d2) mixed hk h0 ?_ ?_
    · rw [hsp]
      refine opsL_app _ _ d0 d1 d2 (by kernel_rfl) ?_
      refine (opsL_one (h := G.put 0 (.map gs)) (v := undef) (by kernel_rfl) ?_).trans (by kernel_rfl)
      rw [show (opAt c13 3).op = .mapUpdate 88 (.tmp 58) (.tmp 59) (.tmp 60) by kernel_rfl]
      exact upd_step (g := 0) (key := key3 n b t) (v := v) (es := fs) (by kernel_rfl) (by kernel_rfl) (by kernel_rfl) (by kernel_rfl) (show Tryd.prog.underlying 88 = some (.map 73 3) by kernel_rfl) (by kernel_rfl) hu
    · show Runs Tryd.prog 3 (behind 5 c85) d2 _
      refine Runs.shut (t := 3) (i := 1) (g := 0) (tag := 0) (es := gs) ⟨by kernel_rfl, true, [], some 88, by kernel_rfl⟩ (by kernel_rfl) hgs ?_
      exact Runs.less (af1 := sth (lC n b t ++ [(10, v)]) 62 (objsC n b t)) (less_seen (l := lC n b t ++ [(10, v)]) (sz := 62) (os := objsC n b t) tame (by kernel_rfl) (show 3 ≤ 4 by decide) (by kernel_rfl) (by kernel_rfl) (by kernel_rfl) (by kernel_rfl)) (Runs.lastH mixed hk hno hb3)
  · exact look (some (i64 (countN n b t))) (i64 (countN n b t)) true hl rfl rfl (Runs.lastH mixed hk hno hb1) rfl
end
end Go.Proofs.YtgnkjmgkfibipaaDoor
