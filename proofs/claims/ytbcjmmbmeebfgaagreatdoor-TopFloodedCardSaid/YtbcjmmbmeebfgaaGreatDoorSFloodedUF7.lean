/- TopFlooded: a hill with no galleries: its first places, and its region, by the kernel. -/
import Derived.Test.YtbcjmmbmeebfgaaGreatDoorSFloodedUF4
import Derived.Test.YtbcjmmbmeebfgaaGreatDoorSFloodedUG10
import Derived.Test.YtbcjmmbmeebfgaaGreatDoorSFloodedUF2
namespace Go.Proofs.YtbcjmmbmeebfgaaGreatDoor
set_option linter.unusedVariables false
set_option linter.unusedSimpArgs false
open Go Go.R
set_option maxRecDepth 1000000
noncomputable section
/-- No galleries: nil, or what is left behind the last one. -/
def NoG (v : Value) : Prop := v = .slice none 0 0 ∨ ∃ i o, v = .slice (some ⟨i, o, some 0⟩) 0 0
theorem noG_any {v : Value} (h : NoG v) : ∀ (μ μ' : Mp) x, VR μ v x → VR μ' v x := by
  intro μ μ' x hx
  rcases h with rfl | ⟨i, o, rfl⟩
  · exact flat_any hx rfl
  · cases hx with
    | plain hp => exact .plain hp
    | slice0 => exact .slice0
noncomputable def noC (k : Nat) (v : Value) (rest : List Value) : List Value → List Value := fun _ => hillV k v :: rest
theorem noC_ok {k : Nat} {v : Value} {rest : List Value} (h : NoG v) (pr : ∀ u ∈ rest, plainV u = true) : ArgC 0 (noC k v rest) := by
  intro μ ss l hlen hl
  match l, hl with
  | [], hl => exact absurd hl.1 (by simp [noC])
  | y :: ys, hl =>
    obtain ⟨l', rfl, hy⟩ := lr_agg (l := [i64 k, v]) hl.head
    match l', hy with
    | [a, b], hy =>
      refine ⟨[], by cases ss with | nil => exact LR.nil | cons _ _ => simp at hlen, fun μ1 ss1 h1 => ?_⟩
      have ha := hy.head
      have hb := hy.tail.head
      have hlr : LR μ1 [i64 k, v] [a, b] := LR.cons (by rw [plain_same ha rfl]; exact .plain rfl) (LR.cons (noG_any h _ _ _ hb) LR.nil)
      exact LR.cons (VR.agg_of (by simpa using hlr)) (plain_mono pr hl.tail)
    | [], hy => exact absurd hy.1 (by simp)
    | [_], hy => exact absurd hy.1 (by simp)
    | _ :: _ :: _ :: _, hy => exact absurd hy.1 (by simp)
noncomputable def rowT : AObj → Option (List Value × Bool × Option TypeId)
  | .cells c lv _ ty => some (c, lv, ty)
  | _ => none
theorem rowT_of {o : AObj} {c : List Value} {lv : Bool} {ty : Option TypeId} (h : rowT o = some (c, lv, ty)) : ∃ par, o = .cells c lv par ty := by
  cases o with
  | cells c' lv' par' ty' =>
    simp only [rowT, Option.some.injEq, Prod.mk.injEq] at h
    obtain ⟨rfl, rfl, rfl⟩ := h
    exact ⟨par', rfl⟩
  | _ => cases h
noncomputable def zroR (f : FuncId) (args : List Value) (q : Nat) : Option (Value × Option (List Value × Bool × Option TypeId)) := (callA Tryz.prog hk3 1000 f args AH.empty).map fun p => (p.1, rowT (p.2.get q))
theorem zro_row {f : FuncId} {args : List Value} {q : Nat} {D : Value → Value} {l : List Nat} (h : zroR f args q = some (D (slP q l.length), some (placesC l, true, some 35))) :
    Local Tryz.prog 0 f args AH.empty (rowIsC D 1 l.length (placesC l) (some 35)) := by
  unfold zroR at h
  cases hc : callA Tryz.prog hk3 1000 f args AH.empty with
  | none => rw [hc] at h; cases h
  | some p =>
    obtain ⟨v, h1⟩ := p
    rw [hc] at h
    simp only [Option.map_some, Option.some.injEq, Prod.mk.injEq] at h
    obtain ⟨par, hp⟩ := rowT_of h.2
    exact fun F w0 μ w args' H hl => (local_call hkU (k := 0) (Nat.zero_le _) hc F w0 μ w args' H hl).mono fun v' w' ⟨u, h'', ⟨e1, e2⟩, r⟩ => ⟨u, h'', ⟨q, par, .inl (by rw [e1, h.1]; rfl), by rw [e2]; exact hp⟩, r⟩
noncomputable def q11 : Nat → Nat
  | 1 => 11 | 2 => 23 | 3 => 43 | 4 => 71 | 5 => 107 | 6 => 151 | _ => 203
noncomputable def q6 : Nat → Nat
  | 1 => 4 | 2 => 14 | 3 => 14 | _ => 13
noncomputable def fst0 : Nat → List Nat
  | 1 => [0] | 2 => [0, 1, 7, 8] | 3 => [0, 1, 2, 7] | _ => [0, 1, 2, 3]
noncomputable def all0 (k : Nat) : List Nat := bitsN (gridN k)
noncomputable def sz0 (i o : Nat) : Value := .slice (some ⟨i, o, some 0⟩) 0 0
theorem r11n_1 : zroR 11 [hillV 1 (.slice none 0 0)] (q11 1) = some (dT (i64 0) (slP (q11 1) (all0 1).length), some (placesC (all0 1), true, some 35)) := by kernel_rfl
theorem r11z_1 (i o : Nat) : zroR 11 [hillV 1 (sz0 i o)] (q11 1) = some (dT (i64 0) (slP (q11 1) (all0 1).length), some (placesC (all0 1), true, some 35)) := by kernel_rfl
theorem r6n_1 : zroR 6 [hillV 1 (.slice none 0 0), i64 4] (q6 1) = some (slP (q6 1) (fst0 1).length, some (placesC (fst0 1), true, some 35)) := by kernel_rfl
theorem r6z_1 (i o : Nat) : zroR 6 [hillV 1 (sz0 i o), i64 4] (q6 1) = some (slP (q6 1) (fst0 1).length, some (placesC (fst0 1), true, some 35)) := by kernel_rfl
theorem first0_1 (A B C : Nat → Int) : firstL 1 0 A B C = fst0 1 := by kernel_rfl
theorem r11n_2 : zroR 11 [hillV 2 (.slice none 0 0)] (q11 2) = some (dT (i64 0) (slP (q11 2) (all0 2).length), some (placesC (all0 2), true, some 35)) := by kernel_rfl
theorem r11z_2 (i o : Nat) : zroR 11 [hillV 2 (sz0 i o)] (q11 2) = some (dT (i64 0) (slP (q11 2) (all0 2).length), some (placesC (all0 2), true, some 35)) := by kernel_rfl
theorem r6n_2 : zroR 6 [hillV 2 (.slice none 0 0), i64 4] (q6 2) = some (slP (q6 2) (fst0 2).length, some (placesC (fst0 2), true, some 35)) := by kernel_rfl
theorem r6z_2 (i o : Nat) : zroR 6 [hillV 2 (sz0 i o), i64 4] (q6 2) = some (slP (q6 2) (fst0 2).length, some (placesC (fst0 2), true, some 35)) := by kernel_rfl
theorem first0_2 (A B C : Nat → Int) : firstL 2 0 A B C = fst0 2 := by kernel_rfl
theorem r11n_3 : zroR 11 [hillV 3 (.slice none 0 0)] (q11 3) = some (dT (i64 0) (slP (q11 3) (all0 3).length), some (placesC (all0 3), true, some 35)) := by kernel_rfl
theorem r11z_3 (i o : Nat) : zroR 11 [hillV 3 (sz0 i o)] (q11 3) = some (dT (i64 0) (slP (q11 3) (all0 3).length), some (placesC (all0 3), true, some 35)) := by kernel_rfl
theorem r6n_3 : zroR 6 [hillV 3 (.slice none 0 0), i64 4] (q6 3) = some (slP (q6 3) (fst0 3).length, some (placesC (fst0 3), true, some 35)) := by kernel_rfl
theorem r6z_3 (i o : Nat) : zroR 6 [hillV 3 (sz0 i o), i64 4] (q6 3) = some (slP (q6 3) (fst0 3).length, some (placesC (fst0 3), true, some 35)) := by kernel_rfl
theorem first0_3 (A B C : Nat → Int) : firstL 3 0 A B C = fst0 3 := by kernel_rfl
theorem r11n_4 : zroR 11 [hillV 4 (.slice none 0 0)] (q11 4) = some (dT (i64 0) (slP (q11 4) (all0 4).length), some (placesC (all0 4), true, some 35)) := by kernel_rfl
theorem r11z_4 (i o : Nat) : zroR 11 [hillV 4 (sz0 i o)] (q11 4) = some (dT (i64 0) (slP (q11 4) (all0 4).length), some (placesC (all0 4), true, some 35)) := by kernel_rfl
theorem r6n_4 : zroR 6 [hillV 4 (.slice none 0 0), i64 4] (q6 4) = some (slP (q6 4) (fst0 4).length, some (placesC (fst0 4), true, some 35)) := by kernel_rfl
theorem r6z_4 (i o : Nat) : zroR 6 [hillV 4 (sz0 i o), i64 4] (q6 4) = some (slP (q6 4) (fst0 4).length, some (placesC (fst0 4), true, some 35)) := by kernel_rfl
theorem first0_4 (A B C : Nat → Int) : firstL 4 0 A B C = fst0 4 := by kernel_rfl
theorem r11n_5 : zroR 11 [hillV 5 (.slice none 0 0)] (q11 5) = some (dT (i64 0) (slP (q11 5) (all0 5).length), some (placesC (all0 5), true, some 35)) := by kernel_rfl
theorem r11z_5 (i o : Nat) : zroR 11 [hillV 5 (sz0 i o)] (q11 5) = some (dT (i64 0) (slP (q11 5) (all0 5).length), some (placesC (all0 5), true, some 35)) := by kernel_rfl
theorem r6n_5 : zroR 6 [hillV 5 (.slice none 0 0), i64 4] (q6 5) = some (slP (q6 5) (fst0 5).length, some (placesC (fst0 5), true, some 35)) := by kernel_rfl
theorem r6z_5 (i o : Nat) : zroR 6 [hillV 5 (sz0 i o), i64 4] (q6 5) = some (slP (q6 5) (fst0 5).length, some (placesC (fst0 5), true, some 35)) := by kernel_rfl
theorem first0_5 (A B C : Nat → Int) : firstL 5 0 A B C = fst0 5 := by kernel_rfl
theorem r11n_6 : zroR 11 [hillV 6 (.slice none 0 0)] (q11 6) = some (dT (i64 0) (slP (q11 6) (all0 6).length), some (placesC (all0 6), true, some 35)) := by kernel_rfl
theorem r11z_6 (i o : Nat) : zroR 11 [hillV 6 (sz0 i o)] (q11 6) = some (dT (i64 0) (slP (q11 6) (all0 6).length), some (placesC (all0 6), true, some 35)) := by kernel_rfl
theorem r6n_6 : zroR 6 [hillV 6 (.slice none 0 0), i64 4] (q6 6) = some (slP (q6 6) (fst0 6).length, some (placesC (fst0 6), true, some 35)) := by kernel_rfl
theorem r6z_6 (i o : Nat) : zroR 6 [hillV 6 (sz0 i o), i64 4] (q6 6) = some (slP (q6 6) (fst0 6).length, some (placesC (fst0 6), true, some 35)) := by kernel_rfl
theorem first0_6 (A B C : Nat → Int) : firstL 6 0 A B C = fst0 6 := by kernel_rfl
theorem r11n_7 : zroR 11 [hillV 7 (.slice none 0 0)] (q11 7) = some (dT (i64 0) (slP (q11 7) (all0 7).length), some (placesC (all0 7), true, some 35)) := by kernel_rfl
theorem r11z_7 (i o : Nat) : zroR 11 [hillV 7 (sz0 i o)] (q11 7) = some (dT (i64 0) (slP (q11 7) (all0 7).length), some (placesC (all0 7), true, some 35)) := by kernel_rfl
theorem r6n_7 : zroR 6 [hillV 7 (.slice none 0 0), i64 4] (q6 7) = some (slP (q6 7) (fst0 7).length, some (placesC (fst0 7), true, some 35)) := by kernel_rfl
theorem r6z_7 (i o : Nat) : zroR 6 [hillV 7 (sz0 i o), i64 4] (q6 7) = some (slP (q6 7) (fst0 7).length, some (placesC (fst0 7), true, some 35)) := by kernel_rfl
theorem first0_7 (A B C : Nat → Int) : firstL 7 0 A B C = fst0 7 := by kernel_rfl
theorem first0 {k : Nat} (hk : 0 < k) (hk7 : k < 8) (A B C : Nat → Int) : firstL k 0 A B C = fst0 k := by
  match k, hk, hk7 with
  | 1, _, _ => exact first0_1 A B C
  | 2, _, _ => exact first0_2 A B C
  | 3, _, _ => exact first0_3 A B C
  | 4, _, _ => exact first0_4 A B C
  | 5, _, _ => exact first0_5 A B C
  | 6, _, _ => exact first0_6 A B C
  | 7, _, _ => exact first0_7 A B C
  | k + 8, _, h => omega
theorem zro11_local {k : Nat} {v : Value} (hk : 0 < k) (hk7 : k < 8) (h : NoG v) : Local Tryz.prog 0 11 [hillV k v] AH.empty (rowIsC (dT (i64 0)) 1 (all0 k).length (placesC (all0 k)) (some 35)) := by
  rcases h with rfl | ⟨i, o, rfl⟩
  · match k, hk, hk7 with
    | 1, _, _ => exact zro_row r11n_1
    | 2, _, _ => exact zro_row r11n_2
    | 3, _, _ => exact zro_row r11n_3
    | 4, _, _ => exact zro_row r11n_4
    | 5, _, _ => exact zro_row r11n_5
    | 6, _, _ => exact zro_row r11n_6
    | 7, _, _ => exact zro_row r11n_7
    | k + 8, _, h => omega
  · match k, hk, hk7 with
    | 1, _, _ => exact zro_row (r11z_1 i o)
    | 2, _, _ => exact zro_row (r11z_2 i o)
    | 3, _, _ => exact zro_row (r11z_3 i o)
    | 4, _, _ => exact zro_row (r11z_4 i o)
    | 5, _, _ => exact zro_row (r11z_5 i o)
    | 6, _, _ => exact zro_row (r11z_6 i o)
    | 7, _, _ => exact zro_row (r11z_7 i o)
    | k + 8, _, h => omega
theorem zro6_local {k : Nat} {v : Value} (hk : 0 < k) (hk7 : k < 8) (h : NoG v) : Local Tryz.prog 0 6 [hillV k v, i64 4] AH.empty (rowIsC (fun s => s) 1 (fst0 k).length (placesC (fst0 k)) (some 35)) := by
  rcases h with rfl | ⟨i, o, rfl⟩
  · match k, hk, hk7 with
    | 1, _, _ => exact zro_row r6n_1
    | 2, _, _ => exact zro_row r6n_2
    | 3, _, _ => exact zro_row r6n_3
    | 4, _, _ => exact zro_row r6n_4
    | 5, _, _ => exact zro_row r6n_5
    | 6, _, _ => exact zro_row r6n_6
    | 7, _, _ => exact zro_row r6n_7
    | k + 8, _, h => omega
  · match k, hk, hk7 with
    | 1, _, _ => exact zro_row (r6z_1 i o)
    | 2, _, _ => exact zro_row (r6z_2 i o)
    | 3, _, _ => exact zro_row (r6z_3 i o)
    | 4, _, _ => exact zro_row (r6z_4 i o)
    | 5, _, _ => exact zro_row (r6z_5 i o)
    | 6, _, _ => exact zro_row (r6z_6 i o)
    | 7, _, _ => exact zro_row (r6z_7 i o)
    | k + 8, _, h => omega
theorem reg6_none {k : Nat} {v : Value} (hk : 0 < k) (hk7 : k < 8) (hv : NoG v) (h : AH) : Says Tryz.prog h 6 [hillV k v, i64 4] (slP h.next (fst0 k).length) (h.new (rowP (fst0 k))).2 :=
  tellN (z := 1) (C := noC k v [i64 4]) (D := fun s => s) (vs := []) (ss := []) (noC_ok hv (fun u hu => by rw [List.mem_singleton.1 hu]; rfl)) resId rfl (fun caps hc => zro6_local hk hk7 hv) (by rw [placesC_len]) (placesC_plain _) trivial
theorem Region_none {k : Nat} {v : Value} (hk : 0 < k) (hk7 : k < 8) (hv : NoG v) (h : AH) : Says Tryz.prog h 11 [hillV k v] (.tuple #[slP h.next (all0 k).length, i64 0]) (h.new (rowP (all0 k))).2 :=
  tellN (z := 1) (C := noC k v []) (D := dT (i64 0)) (vs := []) (ss := []) (noC_ok hv (fun u hu => by cases hu)) (dT_ok rfl) rfl (fun caps hc => zro11_local hk hk7 hv) (by rw [placesC_len]) (placesC_plain _) trivial
end
end Go.Proofs.YtbcjmmbmeebfgaaGreatDoor

/- TopFlooded: the hill by numbers (dug), as a contract. -/
namespace Go.Proofs.YtbcjmmbmeebfgaaGreatDoor
set_option linter.unusedVariables false
set_option linter.unusedSimpArgs false
open Go Go.R
set_option maxRecDepth 1000000
noncomputable section
/-! ### Galleries as a list -/
noncomputable def tA (L : List (Int × Int × Int)) (i : Nat) : Int := (L.getD i (0, 0, 0)).1
noncomputable def tB (L : List (Int × Int × Int)) (i : Nat) : Int := (L.getD i (0, 0, 0)).2.1
noncomputable def tC (L : List (Int × Int × Int)) (i : Nat) : Int := (L.getD i (0, 0, 0)).2.2
noncomputable def galL (L : List (Int × Int × Int)) : List Value := L.flatMap fun t => [iZ t.1, iZ t.2.1, iZ t.2.2]
theorem galL_eq : ∀ L : List (Int × Int × Int), galsC L.length (tA L) (tB L) (tC L) = galL L
  | [] => rfl
  | t :: L => by
    have ih := galL_eq L
    unfold galsC tripZ at ih
    unfold galsC tripZ galL
    rw [List.length_cons, List.range_succ_eq_map, List.flatMap_cons, List.flatMap_map, List.flatMap_cons]
    unfold galL at ih
    rw [← ih]
    rfl
theorem galL_len (L : List (Int × Int × Int)) : (galL L).length = L.length * 3 := by rw [← galL_eq, galsC_len]
theorem galL_app (L : List (Int × Int × Int)) (a b c : Int) : galL L ++ [iZ a, iZ b, iZ c] = galL (L ++ [(a, b, c)]) := by simp [galL]
theorem galL_plain {L : List (Int × Int × Int)} : ∀ x ∈ galL L, plainV x = true := fun x hx => by rw [← galL_eq] at hx; exact galsC_plain x hx
noncomputable def rowL (L : List (Int × Int × Int)) : AObj := .cells (galL L) true [] (some 53)
theorem obs_rowL {ρ : Nat → Nat} {q : Nat} {L : List (Int × Int × Int)} {p : List Nat} {x : AObj} {l : List Value} (e : x = .cells l true p (some 53)) (el : l = galL L) : RenO ρ q x (rowL L) := RenO.row (c := galL L) (lv := true) (p := p) (ty := some 53) (el ▸ e) galL_plain (fun h => h) (.inr rfl)

/-! ### The argument -/
noncomputable def arr12C (g : Nat → Nat) : List Value := [u8 (g 0), u8 (g 1), u8 (g 2), u8 (g 3), u8 (g 4), u8 (g 5), u8 (g 6), u8 (g 7), u8 (g 8), u8 (g 9), u8 (g 10), u8 (g 11)]
noncomputable def arr12V (g : Nat → Nat) : Value := .agg #[u8 (g 0), u8 (g 1), u8 (g 2), u8 (g 3), u8 (g 4), u8 (g 5), u8 (g 6), u8 (g 7), u8 (g 8), u8 (g 9), u8 (g 10), u8 (g 11)]
noncomputable def arr12O (g : Nat → Nat) : AObj := .cells (arr12C g) true [] (some 23)
theorem arr12_plain (g : Nat → Nat) : ∀ v ∈ arr12C g, plainV v = true := fun v hv => by
  simp only [arr12C, List.mem_cons, List.mem_nil_iff, or_false] at hv
  rcases hv with rfl | rfl | rfl | rfl | rfl | rfl | rfl | rfl | rfl | rfl | rfl | rfl <;> rfl
theorem arr12_at {h : AH} {g : Nat → Nat} {i : Nat} (hg : h.get 0 = arr12O g) (hi : i < 4) : rowAt? h 0 (0 + i * 3) 3 = some [u8 (g (3 * i)), u8 (g (3 * i + 1)), u8 (g (3 * i + 2))] := by
  rw [row_at hg (by show _ ≤ 12; omega)]
  match i, hi with
  | 0, _ => rfl
  | 1, _ => rfl
  | 2, _ => rfl
  | 3, _ => rfl
theorem obs_arr12 {ρ : Nat → Nat} {q : Nat} {g : Nat → Nat} : RenO ρ q (arr12O g) (arr12O g) := RenO.row (c := arr12C g) (lv := true) (p := []) (ty := some 23) rfl (arr12_plain g) (fun h => h) (.inr rfl)

/-! ### Which galleries there are -/
noncomputable def dA (g : Nat → Nat) (i : Nat) : Int := ((g (3 * i) % 7 : Nat) : Int) - 3
noncomputable def dB (g : Nat → Nat) (i : Nat) : Int := ((g (3 * i + 1) % 7 : Nat) : Int) - 3
noncomputable def dC (g : Nat → Nat) (i : Nat) : Int := ((g (3 * i + 2) % 15 : Nat) : Int) - 2
noncomputable def dugS (g : Nat → Nat) (i : Nat) (L : List (Int × Int × Int)) : List (Int × Int × Int) := if dA g i = 0 ∧ dB g i = 0 then L else L ++ [(dA g i, dB g i, dC g i)]
noncomputable def dugR (g : Nat → Nat) : Nat → Nat → List (Int × Int × Int) → List (Int × Int × Int)
  | 0, _, L => L
  | d + 1, i, L => dugR g d (i + 1) (dugS g i L)
noncomputable def dugL (g : Nat → Nat) (q : Nat) : List (Int × Int × Int) := dugR g q 0 []
noncomputable def GalT (L : List (Int × Int × Int)) : Prop := ∀ t ∈ L, Gal t.1 t.2.1 t.2.2
theorem dugS_ok {g : Nat → Nat} {i : Nat} {L : List (Int × Int × Int)} (h : GalT L) : GalT (dugS g i L) := by
  unfold dugS
  split
  · exact h
  · rename_i hn
    intro t ht
    rcases List.mem_append.1 ht with h1 | h1
    · exact h t h1
    · rw [List.mem_singleton.1 h1]
      have a := Nat.mod_lt (g (3 * i)) (show 0 < 7 by decide)
      have b := Nat.mod_lt (g (3 * i + 1)) (show 0 < 7 by decide)
      have c := Nat.mod_lt (g (3 * i + 2)) (show 0 < 15 by decide)
      unfold dA dB at hn
      unfold dA dB dC
      exact ⟨by dsimp only; omega, by dsimp only; omega, by dsimp only; omega, by dsimp only; omega, by dsimp only; omega, by dsimp only; omega, by dsimp only; omega⟩
theorem dugS_len {g : Nat → Nat} {i : Nat} {L : List (Int × Int × Int)} : (dugS g i L).length ≤ L.length + 1 := by
  unfold dugS; split
  · omega
  · simp
theorem dugR_ok {g : Nat → Nat} : ∀ d i L, GalT L → GalT (dugR g d i L)
  | 0, _, _, h => h
  | d + 1, i, L, h => dugR_ok d (i + 1) _ (dugS_ok h)
theorem dugR_len {g : Nat → Nat} : ∀ d i L, (dugR g d i L).length ≤ L.length + d
  | 0, _, L => Nat.le_refl _
  | d + 1, i, L => by
    have h1 := dugR_len (g := g) d (i + 1) (dugS g i L)
    have h2 := dugS_len (g := g) (i := i) (L := L)
    show (dugR g d (i + 1) (dugS g i L)).length ≤ _
    omega
theorem dugL_ok {g : Nat → Nat} {q : Nat} : GalT (dugL g q) := dugR_ok q 0 [] (fun t h => by cases h)
theorem dugL_len {g : Nat → Nat} {q : Nat} : (dugL g q).length ≤ q := by have h := dugR_len (g := g) q 0 []; rw [show ([] : List (Int × Int × Int)).length = 0 from rfl, Nat.zero_add] at h; exact h

/-! ### The loop -/
noncomputable def c5 : Code := bodyOf Tryz.f5
noncomputable def lp5 : Code := within (tl (hd (behind 2 c5)))
noncomputable def hillK (k : Nat) (s : Value) : AObj := .cells [i64 k, s] true [] (some 26)
noncomputable def Os5 (k : Nat) (g : Nat → Nat) : List (Int × Int × Int) → List AObj
  | [] => [arr12O g, hillK 0 (.slice none 0 0), hillK k (.slice none 0 0)]
  | t :: L => [arr12O g, hillK 0 (.slice none 0 0), hillK k (slG 3 (t :: L).length), rowL (t :: L)]
noncomputable def S5 (q i : Nat) : List (Nat × Value) := [(8, ptrV 1), (9, ptrV 2), (23, smallS 0 q 4), (24, i64 q), (25, i64 i)]
noncomputable def E5 : List (Nat × Value) := [(8, ptrV 1), (9, ptrV 2)]
theorem hillK_clo {k j : Nat} {s : Value} (hs : Clo j s) : CloO j (hillK k s) := ⟨fun v hv => by
  simp only [List.mem_cons, List.mem_nil_iff, or_false] at hv
  rcases hv with rfl | rfl
  · exact clo_plain rfl
  · exact hs, fun j hj => by cases hj⟩
theorem slG_clo {j c n : Nat} (h : j < n) : Clo n (slG j c) := by
  refine clo_of 10 n _ ?_
  show (plainV _ || Nat.blt j n) = true
  rw [Bool.or_eq_true]; exact .inr (by rw [Nat.blt_eq]; exact h)
theorem os5_0 {k : Nat} {g : Nat → Nat} : ∀ o ∈ Os5 k g [], CloO 3 o := fun o ho => by
  simp only [Os5, List.mem_cons, List.mem_nil_iff, or_false] at ho
  rcases ho with rfl | rfl | rfl
  · exact cloO_plain (arr12_plain g) _ _
  · exact hillK_clo (clo_plain rfl)
  · exact hillK_clo (clo_plain rfl)
theorem os5_1 {k : Nat} {g : Nat → Nat} {t : Int × Int × Int} {L : List (Int × Int × Int)} : ∀ o ∈ Os5 k g (t :: L), CloO 4 o := fun o ho => by
  simp only [Os5, List.mem_cons, List.mem_nil_iff, or_false] at ho
  rcases ho with rfl | rfl | rfl | rfl
  · exact cloO_plain (arr12_plain g) _ _
  · exact hillK_clo (clo_plain rfl)
  · exact hillK_clo (slG_clo (by decide))
  · exact cloO_plain galL_plain _ _
theorem sub_i {x m : Nat} (hx : x < 1000) (hm : m < 1000) : wrapF .i64 (Int.sub (.ofNat x) (.ofNat m)) = (x : Int) - (m : Int) := wrapS (by show (-9223372036854775808 : Int) ≤ (x : Int) - (m : Int); omega) (by show (x : Int) - (m : Int) ≤ 9223372036854775807; omega)
theorem dug_loop {k q : Nat} {g : Nat → Nat} (hq : q < 5) (hg : ∀ i, i < 12 → g i < 256) : ∀ d i L, i + d = q → L.length ≤ i →
    Runs Tryz.prog 0 lp5 (sth (S5 q i) 61 (Os5 k g L)) fun e af => e = .exit 0 ∧ Less 0 (sth E5 61 (Os5 k g (dugR g d i L))) af := by
  intro d
  induction d with
  | zero =>
    intro i L hi _
    have e : i = q := by omega
    subst e
    cases L with
    | nil =>
      refine Runs.lp (by kernel_rfl) (Runs.sqR mixed hkU [] (by kernel_rfl) (by kernel_rfl) (by kernel_rfl) oblN (Runs.sq (by kernel_rfl) ?_))
      refine Runs.cd (b := ltF (.ofNat i) (.ofNat i)) (by kernel_rfl) (fun ht => by rw [lt_self] at ht; cases ht) (fun _ => Runs.now (x := .exit 0) (by kernel_rfl) ⟨rfl, ?_⟩)
      exact less_seenP (clo_all (k := 3) (by kernel_rfl)) os5_0 (Nat.zero_le 3) (by kernel_rfl) (by kernel_rfl) (by kernel_rfl) (by kernel_rfl)
    | cons t L =>
      refine Runs.lp (by kernel_rfl) (Runs.sqR mixed hkU [] (by kernel_rfl) (by kernel_rfl) (by kernel_rfl) oblN (Runs.sq (by kernel_rfl) ?_))
      refine Runs.cd (b := ltF (.ofNat i) (.ofNat i)) (by kernel_rfl) (fun ht => by rw [lt_self] at ht; cases ht) (fun _ => Runs.now (x := .exit 0) (by kernel_rfl) ⟨rfl, ?_⟩)
      exact less_seenP (clo_all (k := 4) (by kernel_rfl)) os5_1 (Nat.zero_le 4) (by kernel_rfl) (by kernel_rfl) (by kernel_rfl) (by kernel_rfl)
  | succ d ih =>
    intro i L hi hLi
    have hlt : i < q := by omega
    have hi4 : i < 4 := by omega
    have hr := ih (i + 1) (dugS g i L) (by omega) (by have := dugS_len (g := g) (i := i) (L := L); omega)
    rw [show dugR g (d + 1) i L = dugR g d (i + 1) (dugS g i L) from rfl]
    generalize ER : dugR g d (i + 1) (dugS g i L) = R at hr ⊢
    unfold dugS at hr
    have g0 := hg (3 * i) (by omega)
    have g1 := hg (3 * i + 1) (by omega)
    have g2 := hg (3 * i + 2) (by omega)
    have r0 := Nat.mod_lt (g (3 * i)) (show 0 < 7 by decide)
    have r1 := Nat.mod_lt (g (3 * i + 1)) (show 0 < 7 by decide)
    have r2 := Nat.mod_lt (g (3 * i + 2)) (show 0 < 15 by decide)
    cases L with
    | nil =>
      refine Runs.lp (by kernel_rfl) (Runs.sqR mixed hkU [] (by kernel_rfl) (by kernel_rfl) (by kernel_rfl) oblN (Runs.sq (by kernel_rfl) ?_))
      refine Runs.cd (b := ltF (.ofNat i) (.ofNat q)) (by kernel_rfl) (fun _ => Runs.now (x := .normal) (by kernel_rfl) ?_) (fun hf => by rw [lt_of hlt] at hf; cases hf)
      show Runs Tryz.prog 0 _ _ _
      refine Runs.sq (by kernel_rfl) (Runs.bk (id := 1) (by kernel_rfl) ?_)
      refine Runs.sqR mixed hkU [viaV 0 (.pointer (some ⟨0, 0 + i * 3, none⟩)), viaV 1 (.agg #[u8 (g (3 * i)), u8 (g (3 * i + 1)), u8 (g (3 * i + 2))])] (by kernel_rfl) (by kernel_rfl) (by kernel_rfl)
        (oblC (shown_idx (n := q) (by kernel_rfl) hlt) (oblC (shown_agg (by kernel_rfl) (arr12_at (by kernel_rfl) hi4)) oblN)) ?_
      refine Runs.sqR mixed hkU [viaV 2 (i64 (g (3 * i))), viaV 3 (i64 (g (3 * i) % 7)), viaV 4 (iZ (dA g i)), viaV 7 (i64 (g (3 * i + 1))), viaV 8 (i64 (g (3 * i + 1) % 7)), viaV 9 (iZ (dB g i)), viaV 12 (i64 (g (3 * i + 2))), viaV 13 (i64 (g (3 * i + 2) % 15)), viaV 14 (iZ (dC g i))] (by kernel_rfl) (by kernel_rfl) (by kernel_rfl)
        (oblC (shown_eq (v := .int .i64 (IntKind.wrap .i64 (.ofNat (g (3 * i))))) (by kernel_rfl) (by kernel_rfl) (by rw [conv_i (by omega)]; rfl))
        (oblC ⟨by kernel_rfl, (show _ = (intBin .rem .i64 (.ofNat (g (3 * i))) (.ofNat (6 + 1))).map (·, _) by kernel_rfl).trans (by rw [rem_i]; rfl)⟩
        (oblC (shown_eq (v := .int .i64 (wrapF .i64 (Int.sub (.ofNat (g (3 * i) % 7)) (.ofNat 3)))) (by kernel_rfl) (by kernel_rfl) (by rw [sub_i (by omega) (by omega)]; rfl))
        (oblC (shown_eq (v := .int .i64 (IntKind.wrap .i64 (.ofNat (g (3 * i + 1))))) (by kernel_rfl) (by kernel_rfl) (by rw [conv_i (by omega)]; rfl))
        (oblC ⟨by kernel_rfl, (show _ = (intBin .rem .i64 (.ofNat (g (3 * i + 1))) (.ofNat (6 + 1))).map (·, _) by kernel_rfl).trans (by rw [rem_i]; rfl)⟩
        (oblC (shown_eq (v := .int .i64 (wrapF .i64 (Int.sub (.ofNat (g (3 * i + 1) % 7)) (.ofNat 3)))) (by kernel_rfl) (by kernel_rfl) (by rw [sub_i (by omega) (by omega)]; rfl))
        (oblC (shown_eq (v := .int .i64 (IntKind.wrap .i64 (.ofNat (g (3 * i + 2))))) (by kernel_rfl) (by kernel_rfl) (by rw [conv_i (by omega)]; rfl))
        (oblC ⟨by kernel_rfl, (show _ = (intBin .rem .i64 (.ofNat (g (3 * i + 2))) (.ofNat (14 + 1))).map (·, _) by kernel_rfl).trans (by rw [rem_i]; rfl)⟩
        (oblC (shown_eq (v := .int .i64 (wrapF .i64 (Int.sub (.ofNat (g (3 * i + 2) % 15)) (.ofNat 2)))) (by kernel_rfl) (by kernel_rfl) (by rw [sub_i (by omega) (by omega)]; rfl)) oblN))))))))) ?_
      generalize dA g i = a at hr ⊢
      generalize dB g i = b at hr ⊢
      generalize dC g i = c at hr ⊢
      by_cases hk : a = 0 ∧ b = 0
      · rw [if_pos hk] at hr
        refine Runs.sqR mixed hkU [viaV 2 (.bool false), viaV 6 (.bool false)] (by kernel_rfl) (by kernel_rfl) (by kernel_rfl)
          (oblC (shown_eq (v := .bool (!(eqF a (.ofNat 0)))) (by kernel_rfl) (by kernel_rfl) (by rw [eqF_true (show a = Int.ofNat 0 from hk.1)]; rfl)) (oblC (shown_eq (v := .bool (!(eqF b (.ofNat 0)))) (by kernel_rfl) (by kernel_rfl) (by rw [eqF_true (show b = Int.ofNat 0 from hk.2)]; rfl)) oblN)) ?_
        refine Runs.cd (b := false) (by kernel_rfl) (fun h => by cases h) (fun _ => Runs.now (x := .normal) (by kernel_rfl) ?_)
        show Runs Tryz.prog 0 _ _ _
        refine Runs.rg mixed hkU [viaV 0 (i64 (i + 1))] (by kernel_rfl) (by kernel_rfl) (by kernel_rfl) (oblC (shown_eq (v := .int .i64 (wrapF .i64 (Int.add (.ofNat i) (.ofNat 1)))) (by kernel_rfl) (by kernel_rfl) (by rw [wrap_succ (by omega)]; rfl)) oblN) ?_
        show Runs Tryz.prog 0 lp5 _ _
        exact Runs.less (af1 := sth (S5 q (i + 1)) 61 (Os5 k g [])) (less_seenP (clo_all (k := 3) (by kernel_rfl)) os5_0 (Nat.zero_le 3) (by kernel_rfl) (by kernel_rfl) (by kernel_rfl) (by kernel_rfl)) hr
      · rw [if_neg hk] at hr
        rcases Classical.em (a = 0) with ha | ha
        · have hb : b ≠ 0 := fun h => hk ⟨ha, h⟩
          refine Runs.sqR mixed hkU [viaV 2 (.bool false), viaV 6 (.bool true)] (by kernel_rfl) (by kernel_rfl) (by kernel_rfl)
            (oblC (shown_eq (v := .bool (!(eqF a (.ofNat 0)))) (by kernel_rfl) (by kernel_rfl) (by rw [eqF_true (show a = Int.ofNat 0 from ha)]; rfl)) (oblC (shown_eq (v := .bool (!(eqF b (.ofNat 0)))) (by kernel_rfl) (by kernel_rfl) (by rw [eqF_false (show b ≠ Int.ofNat 0 from hb)]; rfl)) oblN)) ?_
          refine Runs.cd (b := true) (by kernel_rfl) (fun _ => ?_) (fun h => by cases h)
          refine Runs.rg mixed hkU [] (by kernel_rfl) (by kernel_rfl) (by kernel_rfl) oblN ?_
          show Runs Tryz.prog 0 _ _ _
          refine Runs.rg mixed hkU [viaV 0 (i64 (i + 1))] (by kernel_rfl) (by kernel_rfl) (by kernel_rfl) (oblC (shown_eq (v := .int .i64 (wrapF .i64 (Int.add (.ofNat i) (.ofNat 1)))) (by kernel_rfl) (by kernel_rfl) (by rw [wrap_succ (by omega)]; rfl)) oblN) ?_
          show Runs Tryz.prog 0 lp5 _ _
          exact Runs.renumK (sz := 61) (l := S5 q (i + 1)) (os := Os5 k g [(a, b, c)]) (fun j => match j with | 3 => 6 | j => j) (fun j => match j with | 6 => 3 | j => j) (by kernel_rfl) (Nat.zero_le 4) (by kernel_rfl) fix0 (by kernel_rfl) (by kernel_rfl) (by kernel_rfl) (by kernel_rfl)
            (obsL [arr12O g, hillK 0 (.slice none 0 0), hillK k (slG 6 1), .cells [iZ a, iZ b, iZ c] true [] (some 53)] (by kernel_rfl)
              ⟨obs_arr12, RenO.of (σ := fun j => match j with | 6 => 3 | j => j) rfl rfl, RenO.of (σ := fun j => match j with | 6 => 3 | j => j) rfl rfl, obs_rowL rfl (galL_app [] a b c), trivial⟩) hr
        · refine Runs.sqR mixed hkU [viaV 2 (.bool true)] (by kernel_rfl) (by kernel_rfl) (by kernel_rfl)
            (oblC (shown_eq (v := .bool (!(eqF a (.ofNat 0)))) (by kernel_rfl) (by kernel_rfl) (by rw [eqF_false (show a ≠ Int.ofNat 0 from ha)]; rfl)) oblN) ?_
          refine Runs.cd (b := true) (by kernel_rfl) (fun _ => ?_) (fun h => by cases h)
          refine Runs.rg mixed hkU [] (by kernel_rfl) (by kernel_rfl) (by kernel_rfl) oblN ?_
          show Runs Tryz.prog 0 _ _ _
          refine Runs.rg mixed hkU [viaV 0 (i64 (i + 1))] (by kernel_rfl) (by kernel_rfl) (by kernel_rfl) (oblC (shown_eq (v := .int .i64 (wrapF .i64 (Int.add (.ofNat i) (.ofNat 1)))) (by kernel_rfl) (by kernel_rfl) (by rw [wrap_succ (by omega)]; rfl)) oblN) ?_
          show Runs Tryz.prog 0 lp5 _ _
          exact Runs.renumK (sz := 61) (l := S5 q (i + 1)) (os := Os5 k g [(a, b, c)]) (fun j => match j with | 3 => 6 | j => j) (fun j => match j with | 6 => 3 | j => j) (by kernel_rfl) (Nat.zero_le 4) (by kernel_rfl) fix0 (by kernel_rfl) (by kernel_rfl) (by kernel_rfl) (by kernel_rfl)
            (obsL [arr12O g, hillK 0 (.slice none 0 0), hillK k (slG 6 1), .cells [iZ a, iZ b, iZ c] true [] (some 53)] (by kernel_rfl)
              ⟨obs_arr12, RenO.of (σ := fun j => match j with | 6 => 3 | j => j) rfl rfl, RenO.of (σ := fun j => match j with | 6 => 3 | j => j) rfl rfl, obs_rowL rfl (galL_app [] a b c), trivial⟩) hr
    | cons t L =>
      refine Runs.lp (by kernel_rfl) (Runs.sqR mixed hkU [] (by kernel_rfl) (by kernel_rfl) (by kernel_rfl) oblN (Runs.sq (by kernel_rfl) ?_))
      refine Runs.cd (b := ltF (.ofNat i) (.ofNat q)) (by kernel_rfl) (fun _ => Runs.now (x := .normal) (by kernel_rfl) ?_) (fun hf => by rw [lt_of hlt] at hf; cases hf)
      show Runs Tryz.prog 0 _ _ _
      refine Runs.sq (by kernel_rfl) (Runs.bk (id := 1) (by kernel_rfl) ?_)
      refine Runs.sqR mixed hkU [viaV 0 (.pointer (some ⟨0, 0 + i * 3, none⟩)), viaV 1 (.agg #[u8 (g (3 * i)), u8 (g (3 * i + 1)), u8 (g (3 * i + 2))])] (by kernel_rfl) (by kernel_rfl) (by kernel_rfl)
        (oblC (shown_idx (n := q) (by kernel_rfl) hlt) (oblC (shown_agg (by kernel_rfl) (arr12_at (by kernel_rfl) hi4)) oblN)) ?_
      refine Runs.sqR mixed hkU [viaV 2 (i64 (g (3 * i))), viaV 3 (i64 (g (3 * i) % 7)), viaV 4 (iZ (dA g i)), viaV 7 (i64 (g (3 * i + 1))), viaV 8 (i64 (g (3 * i + 1) % 7)), viaV 9 (iZ (dB g i)), viaV 12 (i64 (g (3 * i + 2))), viaV 13 (i64 (g (3 * i + 2) % 15)), viaV 14 (iZ (dC g i))] (by kernel_rfl) (by kernel_rfl) (by kernel_rfl)
        (oblC (shown_eq (v := .int .i64 (IntKind.wrap .i64 (.ofNat (g (3 * i))))) (by kernel_rfl) (by kernel_rfl) (by rw [conv_i (by omega)]; rfl))
        (oblC ⟨by kernel_rfl, (show _ = (intBin .rem .i64 (.ofNat (g (3 * i))) (.ofNat (6 + 1))).map (·, _) by kernel_rfl).trans (by rw [rem_i]; rfl)⟩
        (oblC (shown_eq (v := .int .i64 (wrapF .i64 (Int.sub (.ofNat (g (3 * i) % 7)) (.ofNat 3)))) (by kernel_rfl) (by kernel_rfl) (by rw [sub_i (by omega) (by omega)]; rfl))
        (oblC (shown_eq (v := .int .i64 (IntKind.wrap .i64 (.ofNat (g (3 * i + 1))))) (by kernel_rfl) (by kernel_rfl) (by rw [conv_i (by omega)]; rfl))
        (oblC ⟨by kernel_rfl, (show _ = (intBin .rem .i64 (.ofNat (g (3 * i + 1))) (.ofNat (6 + 1))).map (·, _) by kernel_rfl).trans (by rw [rem_i]; rfl)⟩
        (oblC (shown_eq (v := .int .i64 (wrapF .i64 (Int.sub (.ofNat (g (3 * i + 1) % 7)) (.ofNat 3)))) (by kernel_rfl) (by kernel_rfl) (by rw [sub_i (by omega) (by omega)]; rfl))
        (oblC (shown_eq (v := .int .i64 (IntKind.wrap .i64 (.ofNat (g (3 * i + 2))))) (by kernel_rfl) (by kernel_rfl) (by rw [conv_i (by omega)]; rfl))
        (oblC ⟨by kernel_rfl, (show _ = (intBin .rem .i64 (.ofNat (g (3 * i + 2))) (.ofNat (14 + 1))).map (·, _) by kernel_rfl).trans (by rw [rem_i]; rfl)⟩
        (oblC (shown_eq (v := .int .i64 (wrapF .i64 (Int.sub (.ofNat (g (3 * i + 2) % 15)) (.ofNat 2)))) (by kernel_rfl) (by kernel_rfl) (by rw [sub_i (by omega) (by omega)]; rfl)) oblN))))))))) ?_
      generalize dA g i = a at hr ⊢
      generalize dB g i = b at hr ⊢
      generalize dC g i = c at hr ⊢
      by_cases hk : a = 0 ∧ b = 0
      · rw [if_pos hk] at hr
        refine Runs.sqR mixed hkU [viaV 2 (.bool false), viaV 6 (.bool false)] (by kernel_rfl) (by kernel_rfl) (by kernel_rfl)
          (oblC (shown_eq (v := .bool (!(eqF a (.ofNat 0)))) (by kernel_rfl) (by kernel_rfl) (by rw [eqF_true (show a = Int.ofNat 0 from hk.1)]; rfl)) (oblC (shown_eq (v := .bool (!(eqF b (.ofNat 0)))) (by kernel_rfl) (by kernel_rfl) (by rw [eqF_true (show b = Int.ofNat 0 from hk.2)]; rfl)) oblN)) ?_
        refine Runs.cd (b := false) (by kernel_rfl) (fun h => by cases h) (fun _ => Runs.now (x := .normal) (by kernel_rfl) ?_)
        show Runs Tryz.prog 0 _ _ _
        refine Runs.rg mixed hkU [viaV 0 (i64 (i + 1))] (by kernel_rfl) (by kernel_rfl) (by kernel_rfl) (oblC (shown_eq (v := .int .i64 (wrapF .i64 (Int.add (.ofNat i) (.ofNat 1)))) (by kernel_rfl) (by kernel_rfl) (by rw [wrap_succ (by omega)]; rfl)) oblN) ?_
        show Runs Tryz.prog 0 lp5 _ _
        exact Runs.less (af1 := sth (S5 q (i + 1)) 61 (Os5 k g (t :: L))) (less_seenP (clo_all (k := 4) (by kernel_rfl)) os5_1 (Nat.zero_le 4) (by kernel_rfl) (by kernel_rfl) (by kernel_rfl) (by kernel_rfl)) hr
      · rw [if_neg hk] at hr
        rcases Classical.em (a = 0) with ha | ha
        · have hb : b ≠ 0 := fun h => hk ⟨ha, h⟩
          refine Runs.sqR mixed hkU [viaV 2 (.bool false), viaV 6 (.bool true)] (by kernel_rfl) (by kernel_rfl) (by kernel_rfl)
            (oblC (shown_eq (v := .bool (!(eqF a (.ofNat 0)))) (by kernel_rfl) (by kernel_rfl) (by rw [eqF_true (show a = Int.ofNat 0 from ha)]; rfl)) (oblC (shown_eq (v := .bool (!(eqF b (.ofNat 0)))) (by kernel_rfl) (by kernel_rfl) (by rw [eqF_false (show b ≠ Int.ofNat 0 from hb)]; rfl)) oblN)) ?_
          refine Runs.cd (b := true) (by kernel_rfl) (fun _ => ?_) (fun h => by cases h)
          have hO : Os5 k g (t :: (L ++ [(a, b, c)])) = [arr12O g, hillK 0 (.slice none 0 0), hillK k (slG 3 ((t :: L).length + 1)), rowL (t :: (L ++ [(a, b, c)]))] := by
            show [arr12O g, hillK 0 (.slice none 0 0), hillK k (slG 3 (t :: (L ++ [(a, b, c)])).length), rowL (t :: (L ++ [(a, b, c)]))] = _
            rw [show (t :: (L ++ [(a, b, c)])).length = (t :: L).length + 1 by simp]
          have hr1 : Runs Tryz.prog 0 lp5 (sth (S5 q (i + 1)) 61 [arr12O g, hillK 0 (.slice none 0 0), hillK k (slG 3 ((t :: L).length + 1)), rowL (t :: (L ++ [(a, b, c)]))]) fun e af => e = .exit 0 ∧ Less 0 (sth E5 61 (Os5 k g R)) af := by
            rw [← hO]; exact hr
          let H0 : AH := hp (Os5 k g (t :: L))
          let H1 : AH := (H0.new (.cells [u8 (g (3 * i)), u8 (g (3 * i + 1)), u8 (g (3 * i + 2))] true [] (some 22))).2
          let H2 : AH := (H1.new (.cells [iZ a, iZ b, iZ c] true [] (some 53))).2
          let H3 : AH := (H2.new (.cells [iZ a, iZ b, iZ c] true [] (some 53))).2
          have hap := push_gen (st := 24) (e := 53) (z := 2) (by kernel_rfl) gal_info (h := H3) (i := 3) (j := 6) (x := [iZ a, iZ b, iZ c]) (c := galL (t :: L)) (m := (t :: L).length) (par := []) rfl rfl (galL_len _) (by omega) (by kernel_rfl) (by kernel_rfl)
          refine Runs.rg mixed hkU [⟨4, slG 7 ((t :: L).length + 1), some ((H3.put 3 (.cells (galL (t :: L)) false [] (some 53))).new (.cells (galL (t :: L) ++ [iZ a, iZ b, iZ c]) true [3] (some 53))).2, none⟩] (by kernel_rfl) (by kernel_rfl) (by kernel_rfl)
            (oblC ⟨by kernel_rfl, (show _ = appendA Tryz.prog #[24, 24] (.slice (some ⟨3, 0, some 3⟩) (t :: L).length (t :: L).length) (.slice (some ⟨6, 0, none⟩) 1 1) H3 by kernel_rfl).trans hap⟩ oblN) ?_
          show Runs Tryz.prog 0 _ _ _
          refine Runs.rg mixed hkU [viaV 0 (i64 (i + 1))] (by kernel_rfl) (by kernel_rfl) (by kernel_rfl) (oblC (shown_eq (v := .int .i64 (wrapF .i64 (Int.add (.ofNat i) (.ofNat 1)))) (by kernel_rfl) (by kernel_rfl) (by rw [wrap_succ (by omega)]; rfl)) oblN) ?_
          show Runs Tryz.prog 0 lp5 _ _
          exact Runs.renumK (sz := 61) (l := S5 q (i + 1)) (os := [arr12O g, hillK 0 (.slice none 0 0), hillK k (slG 3 ((t :: L).length + 1)), rowL (t :: (L ++ [(a, b, c)]))]) (fun j => match j with | 3 => 7 | j => j) (fun j => match j with | 7 => 3 | j => j) (by kernel_rfl) (Nat.zero_le 4) (by kernel_rfl) fix0 (by kernel_rfl) (by kernel_rfl) (by kernel_rfl) (by kernel_rfl)
            (obsL [arr12O g, hillK 0 (.slice none 0 0), hillK k (slG 7 ((t :: L).length + 1)), .cells (galL (t :: L) ++ [iZ a, iZ b, iZ c]) true [3] (some 53)] (by kernel_rfl)
              ⟨obs_arr12, RenO.of (σ := fun j => match j with | 7 => 3 | j => j) rfl rfl, RenO.of (σ := fun j => match j with | 7 => 3 | j => j) rfl rfl, obs_rowL rfl (galL_app (t :: L) a b c), trivial⟩) hr1
        · refine Runs.sqR mixed hkU [viaV 2 (.bool true)] (by kernel_rfl) (by kernel_rfl) (by kernel_rfl)
            (oblC (shown_eq (v := .bool (!(eqF a (.ofNat 0)))) (by kernel_rfl) (by kernel_rfl) (by rw [eqF_false (show a ≠ Int.ofNat 0 from ha)]; rfl)) oblN) ?_
          refine Runs.cd (b := true) (by kernel_rfl) (fun _ => ?_) (fun h => by cases h)
          have hO : Os5 k g (t :: (L ++ [(a, b, c)])) = [arr12O g, hillK 0 (.slice none 0 0), hillK k (slG 3 ((t :: L).length + 1)), rowL (t :: (L ++ [(a, b, c)]))] := by
            show [arr12O g, hillK 0 (.slice none 0 0), hillK k (slG 3 (t :: (L ++ [(a, b, c)])).length), rowL (t :: (L ++ [(a, b, c)]))] = _
            rw [show (t :: (L ++ [(a, b, c)])).length = (t :: L).length + 1 by simp]
          have hr1 : Runs Tryz.prog 0 lp5 (sth (S5 q (i + 1)) 61 [arr12O g, hillK 0 (.slice none 0 0), hillK k (slG 3 ((t :: L).length + 1)), rowL (t :: (L ++ [(a, b, c)]))]) fun e af => e = .exit 0 ∧ Less 0 (sth E5 61 (Os5 k g R)) af := by
            rw [← hO]; exact hr
          let H0 : AH := hp (Os5 k g (t :: L))
          let H1 : AH := (H0.new (.cells [u8 (g (3 * i)), u8 (g (3 * i + 1)), u8 (g (3 * i + 2))] true [] (some 22))).2
          let H2 : AH := (H1.new (.cells [iZ a, iZ b, iZ c] true [] (some 53))).2
          let H3 : AH := (H2.new (.cells [iZ a, iZ b, iZ c] true [] (some 53))).2
          have hap := push_gen (st := 24) (e := 53) (z := 2) (by kernel_rfl) gal_info (h := H3) (i := 3) (j := 6) (x := [iZ a, iZ b, iZ c]) (c := galL (t :: L)) (m := (t :: L).length) (par := []) rfl rfl (galL_len _) (by omega) (by kernel_rfl) (by kernel_rfl)
          refine Runs.rg mixed hkU [⟨4, slG 7 ((t :: L).length + 1), some ((H3.put 3 (.cells (galL (t :: L)) false [] (some 53))).new (.cells (galL (t :: L) ++ [iZ a, iZ b, iZ c]) true [3] (some 53))).2, none⟩] (by kernel_rfl) (by kernel_rfl) (by kernel_rfl)
            (oblC ⟨by kernel_rfl, (show _ = appendA Tryz.prog #[24, 24] (.slice (some ⟨3, 0, some 3⟩) (t :: L).length (t :: L).length) (.slice (some ⟨6, 0, none⟩) 1 1) H3 by kernel_rfl).trans hap⟩ oblN) ?_
          show Runs Tryz.prog 0 _ _ _
          refine Runs.rg mixed hkU [viaV 0 (i64 (i + 1))] (by kernel_rfl) (by kernel_rfl) (by kernel_rfl) (oblC (shown_eq (v := .int .i64 (wrapF .i64 (Int.add (.ofNat i) (.ofNat 1)))) (by kernel_rfl) (by kernel_rfl) (by rw [wrap_succ (by omega)]; rfl)) oblN) ?_
          show Runs Tryz.prog 0 lp5 _ _
          exact Runs.renumK (sz := 61) (l := S5 q (i + 1)) (os := [arr12O g, hillK 0 (.slice none 0 0), hillK k (slG 3 ((t :: L).length + 1)), rowL (t :: (L ++ [(a, b, c)]))]) (fun j => match j with | 3 => 7 | j => j) (fun j => match j with | 7 => 3 | j => j) (by kernel_rfl) (Nat.zero_le 4) (by kernel_rfl) fix0 (by kernel_rfl) (by kernel_rfl) (by kernel_rfl) (by kernel_rfl)
            (obsL [arr12O g, hillK 0 (.slice none 0 0), hillK k (slG 7 ((t :: L).length + 1)), .cells (galL (t :: L) ++ [iZ a, iZ b, iZ c]) true [3] (some 53)] (by kernel_rfl)
              ⟨obs_arr12, RenO.of (σ := fun j => match j with | 7 => 3 | j => j) rfl rfl, RenO.of (σ := fun j => match j with | 7 => 3 | j => j) rfl rfl, obs_rowL rfl (galL_app (t :: L) a b c), trivial⟩) hr1

/-! ### The hill -/
noncomputable def dH (k : Nat) (s : Value) : Value := .agg #[i64 k, s]
theorem dH_ok (k : Nat) : ResC (dH k) := by
  intro μ s y h
  obtain ⟨a', rfl, ha⟩ := h.agg_inv
  obtain ⟨x0, x1, ex0, hx0, hx1⟩ := ha.two rfl
  have : a' = #[x0, x1] := arr_eq (by simpa using ex0)
  subst this
  refine ⟨x1, hx1, fun μ1 s1 h1 => ?_⟩
  rw [plain_same hx0 rfl]
  exact VR.agg_of (LR.cons (.plain rfl) (LR.cons h1 LR.nil))
theorem ds_0 : sliceA Tryz.prog 23 (ptrV 0) none (some (i64 0)) none = some (smallS 0 0 4) := by kernel_rfl
theorem ds_1 : sliceA Tryz.prog 23 (ptrV 0) none (some (i64 1)) none = some (smallS 0 1 4) := by kernel_rfl
theorem ds_2 : sliceA Tryz.prog 23 (ptrV 0) none (some (i64 2)) none = some (smallS 0 2 4) := by kernel_rfl
theorem ds_3 : sliceA Tryz.prog 23 (ptrV 0) none (some (i64 3)) none = some (smallS 0 3 4) := by kernel_rfl
theorem ds_4 : sliceA Tryz.prog 23 (ptrV 0) none (some (i64 4)) none = some (smallS 0 4 4) := by kernel_rfl
theorem dug_slice {q : Nat} (h : q < 5) : sliceA Tryz.prog 23 (ptrV 0) none (some (i64 q)) none = some (smallS 0 q 4) := by
  match q, h with
  | 0, _ => exact ds_0
  | 1, _ => exact ds_1
  | 2, _ => exact ds_2
  | 3, _ => exact ds_3
  | 4, _ => exact ds_4
  | m + 5, h => omega
noncomputable def dugV (L : List (Int × Int × Int)) (k : Nat) (v' : Value) (h' : AH) : Prop := (L = [] → v' = hillV k (.slice none 0 0)) ∧ (0 < L.length → rowIsC (dH k) 2 L.length (galL L) (some 53) v' h')
theorem dug_local {x y : Nat} {g : Nat → Nat} (hx : x < 256) (hy : y < 256) (hg : ∀ i, i < 12 → g i < 256) : Local Tryz.prog 0 5 [u8 x, u8 7, u8 y, arr12V g] AH.empty (dugV (dugL g (y % 5)) (1 + x % 7)) := by
  refine local_of noNum Tryz.func5 (show Tryz.f5.body = some c5 by kernel_rfl) ?_
  have hq : y % 5 < 5 := Nat.mod_lt _ (by decide)
  have hk : x % 7 < 7 := Nat.mod_lt _ (by decide)
  refine Runs.sqR mixed hkU [] (by kernel_rfl) (by kernel_rfl) (by kernel_rfl) oblN ?_
  refine Runs.sqR mixed hkU [viaV 1 (i64 x), viaV 4 (i64 (x % 7)), viaV 5 (i64 (1 + x % 7))] (by kernel_rfl) (by kernel_rfl) (by kernel_rfl)
    (oblC (shown_eq (v := .int .i64 (IntKind.wrap .i64 (.ofNat x))) (by kernel_rfl) (by kernel_rfl) (by rw [conv_i (by omega)]; rfl))
    (oblC ⟨by kernel_rfl, (show _ = (intBin .rem .i64 (.ofNat x) (.ofNat (6 + 1))).map (·, _) by kernel_rfl).trans (by rw [rem_i]; rfl)⟩
    (oblC (shown_eq (v := .int .i64 (wrapF .i64 (Int.add (.ofNat 1) (.ofNat (x % 7))))) (by kernel_rfl) (by kernel_rfl) (by rw [one_add (by omega)]; rfl)) oblN))) ?_
  refine Runs.sq (by kernel_rfl) (Runs.sqR mixed hkU [viaV 1 (i64 y), viaV 2 (i64 (y % 5)), viaV 3 (smallS 0 (y % 5) 4)] (by kernel_rfl) (by kernel_rfl) (by kernel_rfl)
    (oblC (shown_eq (v := .int .i64 (IntKind.wrap .i64 (.ofNat y))) (by kernel_rfl) (by kernel_rfl) (by rw [conv_i (by omega)]; rfl))
    (oblC ⟨by kernel_rfl, (show _ = (intBin .rem .i64 (.ofNat y) (.ofNat (4 + 1))).map (·, _) by kernel_rfl).trans (by rw [rem_i]; rfl)⟩
    (oblC ⟨by kernel_rfl, (show _ = (sliceA Tryz.prog 23 (ptrV 0) none (some (i64 (y % 5))) none).map (·, _) by kernel_rfl).trans (by rw [dug_slice hq]; rfl)⟩ oblN))) (Runs.bk (id := 0) (by kernel_rfl) ?_))
  show Runs Tryz.prog 0 lp5 _ _
  generalize 1 + x % 7 = k
  generalize y % 5 = q at hq ⊢
  refine Runs.less (af1 := sth (S5 q 0) 61 (Os5 k g [])) (less_seenP (clo_all (k := 3) (by kernel_rfl)) os5_0 (Nat.zero_le 3) (by kernel_rfl) (by kernel_rfl) (by kernel_rfl) (by kernel_rfl)) ?_
  refine (dug_loop hq hg q 0 [] (by omega) (Nat.le_refl _)).mono fun e af hx => ?_
  obtain ⟨rfl, less⟩ := hx
  show Runs Tryz.prog 0 _ af _
  refine Runs.less less ?_
  rw [show dugR g q 0 [] = dugL g q from rfl]
  cases dugL g q with
  | nil => exact Runs.sqR mixed hkU [] (by kernel_rfl) (by kernel_rfl) (by kernel_rfl) oblN (Runs.now (x := .ret) (by kernel_rfl) ⟨.inr rfl, [hillV k (.slice none 0 0)], by kernel_rfl, fun _ => rfl, fun h => absurd h (Nat.lt_irrefl 0)⟩)
  | cons t L => exact Runs.sqR mixed hkU [] (by kernel_rfl) (by kernel_rfl) (by kernel_rfl) oblN (Runs.now (x := .ret) (by kernel_rfl) ⟨.inr rfl, [hillV k (slG 3 (t :: L).length)], by kernel_rfl, fun h => (by cases h), fun _ => ⟨3, [], .inl rfl, by kernel_rfl⟩⟩)
theorem noG_hill {k : Nat} {v : Value} (h : NoG v) {μ μ' : Mp} {x : Value} (hx : VR μ (hillV k v) x) : VR μ' (hillV k v) x := by
  obtain ⟨a', rfl, ha⟩ := hx.agg_inv
  obtain ⟨x0, x1, ex0, hx0, hx1⟩ := ha.two rfl
  have : a' = #[x0, x1] := arr_eq (by simpa using ex0)
  subst this
  rw [plain_same hx0 rfl]
  exact VR.agg_of (LR.cons (.plain rfl) (LR.cons (noG_any h _ _ _ hx1) LR.nil))
theorem dugA_ok {x y : Nat} {g : Nat → Nat} : ArgC 0 (fun _ => [u8 x, u8 7, u8 y, arr12V g]) := by
  intro μ ss l hlen hl
  refine ⟨[], by cases ss with | nil => exact LR.nil | cons _ _ => simp at hlen, fun μ1 ss1 h1 => ?_⟩
  have pg : ∀ x' ∈ [u8 x, u8 7, u8 y, arr12V g], plainG x' = true := fun x' hx' => by
    simp only [List.mem_cons, List.mem_nil_iff, or_false] at hx'
    rcases hx' with rfl | rfl | rfl | rfl <;> rfl
  rw [plainsG_same hl pg]; exact plainsG_lr pg
theorem dug_none {x y : Nat} {g : Nat → Nat} (hx : x < 256) (hy : y < 256) (hg : ∀ i, i < 12 → g i < 256) (e : dugL g (y % 5) = []) (h : AH) : Says Tryz.prog h 5 [u8 x, u8 7, u8 y, arr12V g] (hillV (1 + x % 7) (.slice none 0 0)) h :=
  tellF (C := fun _ => [u8 x, u8 7, u8 y, arr12V g]) (vs := []) (ss := []) dugA_ok rfl (fun caps hc => dug_local hx hy hg) (fun v' _ r => r.1 e) (fun μ μ' x hx => noG_hill (.inl rfl) hx) trivial
theorem dug_some {x y : Nat} {g : Nat → Nat} (hx : x < 256) (hy : y < 256) (hg : ∀ i, i < 12 → g i < 256) (e : 0 < (dugL g (y % 5)).length) (h : AH) :
    Says Tryz.prog h 5 [u8 x, u8 7, u8 y, arr12V g] (hillV (1 + x % 7) (slG h.next (dugL g (y % 5)).length)) (h.new (rowL (dugL g (y % 5)))).2 :=
  tellN (z := 2) (C := fun _ => [u8 x, u8 7, u8 y, arr12V g]) (D := dH (1 + x % 7)) (vs := []) (ss := []) dugA_ok (dH_ok _) rfl (fun caps hc => fun F w0 μ w args' H hl => (dug_local hx hy hg F w0 μ w args' H hl).mono fun v' w' ⟨u, h', r, z⟩ => ⟨u, h', r.2 e, z⟩) (galL_len _) galL_plain trivial
end
end Go.Proofs.YtbcjmmbmeebfgaaGreatDoor
