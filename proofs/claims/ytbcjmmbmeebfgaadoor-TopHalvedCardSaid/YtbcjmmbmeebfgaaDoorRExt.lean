/- The entries without a body that the machine answers for. -/
import Derived.Test.YtbcjmmbmeebfgaaDoorRRun
import Derived.Lib.Bytealg
import Derived.Lib.MakeNoZero
import Derived.Room.MakeNoZero
namespace Go.R
set_option linter.unusedVariables false
set_option linter.unusedSimpArgs false
open Go Go.RowKit
noncomputable section

structure Ids where
  noEscape : Option FuncId
  indexByteS : Option FuncId
  countS : Option FuncId
  makeNoZero : Option FuncId
  byte : TypeId

def isId (x : Option FuncId) (f : FuncId) : Bool :=
  match x with
  | some k => Nat.beq f k
  | none => false

def idxB : List UInt8 → Nat → Nat → Int
  | [], _, _ => -1
  | b :: l, c, i => if Nat.beq b.toNat c then (i : Int) else idxB l c (i + 1)

def cntB : List UInt8 → Nat → Nat → Nat
  | [], _, n => n
  | b :: l, c, n => if Nat.beq b.toNat c then cntB l c (n + 1) else cntB l c n

def extA (x : Ids) : Hook := fun f args h =>
  if isId x.noEscape f then some (match args with
    | [v] => some (v, h)
    | _ => none)
  else if isId x.makeNoZero f then some (match args with
    | [.int .i64 n] =>
      if decide (0 ≤ n) && decide (n ≤ 281474976710656) then
        let r := h.new (.cells [] true [] (some x.byte))
        some (.slice (some ⟨r.1, 0, some 1⟩) n.toNat n.toNat, r.2)
      else none
    | _ => none)
  else if isId x.indexByteS f then some (match args with
    | [.string s, .int .u8 c] => some (.int .i64 (idxB s.data.toList c.toNat.toUInt8.toNat 0), h)
    | _ => none)
  else if isId x.countS f then some (match args with
    | [.string s, .int .u8 c] => some (.int .i64 (cntB s.data.toList c.toNat.toUInt8.toNat 0 : Nat), h)
    | _ => none)
  else none

def Entry (P : Program) (f : FuncId) (e : Array Value → Sem Value) : Prop :=
  ∃ fn, P.funcs[f]? = some fn ∧ (fn.name == "runtime.NumGoroutine") = false ∧ fn.body.isNone = true ∧ Extern.findNext fn = none ∧ Extern.find fn = some e

structure ExtOk (P : Program) (x : Ids) : Prop where
  noEscape : ∀ f, x.noEscape = some f → Entry P f Extern.AbiNoEscape.same
  indexByteS : ∀ f, x.indexByteS = some f → Entry P f Extern.BytealgIndexByte.indexByte
  countS : ∀ f, x.countS = some f → Entry P f Extern.BytealgCount.count
  makeNoZero : ∀ f, x.makeNoZero = some f → ∃ ps t, P.underlying t = some (.slice x.byte) ∧ Entry P f (Extern.BytealgMakeNoZero.makeNoZero ps #[t])

section
variable {P : Program} {F : Nat → Prop} {w0 : World} {μ : Mp} {h : AH} {w : World}

theorem Entry.run {f : FuncId} {e : Array Value → Sem Value} (E : Entry P f e) {args : Array Value} {v : Value} {w' : World} (he : (e args).run P w = .ok v w') :
    (callFunc f args).run P w = .ok (.value v) w' := by
  obtain ⟨fn, h1, h2, h3, h4, h5⟩ := E
  have h2' : ¬ fn.name = "runtime.NumGoroutine" := by simpa using h2
  unfold callFunc
  simp [h1, h2', Option.isNone_iff_eq_none.1 h3, h4, h5, he]

theorem idxB_eq (c : UInt8) : ∀ (l : List UInt8) (i : Nat), idxB l c.toNat i = if Lib.indexByte l c = -1 then -1 else Lib.indexByte l c + i
  | [], i => by simp [idxB, Lib.indexByte]
  | b :: l, i => by
    have hge := Lib.indexByte_ge l c
    unfold idxB Lib.indexByte
    rw [idxB_eq c l (i + 1)]
    by_cases hb : b = c
    · subst hb; simp
    · have h1 : Nat.beq b.toNat c.toNat = false := by
        cases hq : Nat.beq b.toNat c.toNat with
        | false => rfl
        | true => exact absurd (UInt8.toNat_inj.1 (Nat.eq_of_beq_eq_true hq)) hb
      have h2 : (b == c) = false := by simpa using hb
      simp only [h1, h2, Bool.false_eq_true, if_false, beq_iff_eq]
      by_cases hm : Lib.indexByte l c = -1
      · simp [hm]
      · simp only [hm, if_false]
        rw [if_neg (by omega)]
        omega

theorem cntB_eq (c : UInt8) : ∀ (l : List UInt8) (n : Nat), cntB l c.toNat n = n + Lib.countByte l c
  | [], n => by simp [cntB, Lib.countByte]
  | b :: l, n => by
    unfold cntB
    have e : Lib.countByte (b :: l) c = Lib.countByte l c + if b == c then 1 else 0 := by unfold Lib.countByte; rw [List.count_cons]
    by_cases hb : b = c
    · subst hb
      simp only [Nat.beq_refl, if_true, cntB_eq, e, beq_self_eq_true]
      omega
    · have h1 : Nat.beq b.toNat c.toNat = false := by
        cases hq : Nat.beq b.toNat c.toNat with
        | false => rfl
        | true => exact absurd (UInt8.toNat_inj.1 (Nat.eq_of_beq_eq_true hq)) hb
      have h2 : (b == c) = false := by simpa using hb
      simp only [h1, h2, e, Bool.false_eq_true, if_false, cntB_eq]
      omega

theorem isId_eq {x : Option FuncId} {f : FuncId} (h : isId x f = true) : x = some f := by
  unfold isId at h
  split at h
  · rw [Nat.eq_of_beq_eq_true h]
  · cases h

theorem ext_ok {x : Ids} (X : ExtOk P x) : HookOk P (extA x) := by
  intro f args h v h' he F w0 μ w args' H hl
  unfold extA at he
  by_cases h1 : isId x.noEscape f = true
  · simp only [h1, if_true] at he
    split at he
    · rename_i v0
      cases he
      obtain ⟨y, e, hy⟩ := hl.one rfl
      have ea : args' = #[y] := arr_eq (by simpa using e)
      subst ea
      exact .inr ⟨y, w, (X.noEscape f (isId_eq h1)).run rfl, μ, hy, H, Ext.refl μ _⟩
    · cases he
  simp only [h1, Bool.false_eq_true, if_false] at he
  by_cases h2 : isId x.makeNoZero f = true
  · simp only [h2, if_true] at he
    split at he
    · rename_i n
      split at he
      · rename_i hn
        simp only [Bool.and_eq_true, decide_eq_true_eq] at hn
        cases he
        obtain ⟨y, e, hy⟩ := hl.one rfl
        have ea : args' = #[y] := arr_eq (by simpa using e)
        subst ea
        have := hy.int_inv
        subst this
        obtain ⟨ps, t, ht, E⟩ := X.makeNoZero f (isId_eq h2)
        obtain ⟨cs, r1, r2, _, _⟩ := Lib.run_makeNoZero_cap w ps t x.byte ht n.toNat (by omega)
        rw [Int.toNat_of_nonneg hn.1] at r1
        have Hd : HR F w0 μ h w.drew.drew := H.congr rfl rfl rfl rfl
        have N := new_row Hd x.byte (LR.nil (μ := μ)) cs (by simp) (some x.byte) (fun t e => by cases e; rfl)
        refine .inr ⟨_, _, E.run r1, _, ?_, N.1, N.2⟩
        have := VR.sliceU (μ := μ.add h.next (w.drew.drew.heap.size, 0, cs.size)) (i := h.next) (o := 0) (n := n.toNat) (c := n.toNat) (c' := cs.size) (s := 0) (b := w.drew.drew.heap.size) (z := 0) (e := cs.size)
          (by simp [Mp.add]) (Nat.le_refl _) r2 (by omega)
        exact this
      · cases he
    · cases he
  simp only [h2, Bool.false_eq_true, if_false] at he
  by_cases h3 : isId x.indexByteS f = true
  · simp only [h3, if_true] at he
    split at he
    · rename_i s c
      cases he
      obtain ⟨y, z, e, hy, hz⟩ := hl.two rfl
      have ea : args' = #[y, z] := arr_eq (by simpa using e)
      subst ea
      have := hy.string_inv
      subst this
      have := hz.int_inv
      subst this
      refine .inr ⟨_, w, (X.indexByteS f (isId_eq h3)).run (Lib.run_indexByteString s c w), μ, ?_, H, Ext.refl μ _⟩
      rw [idxB_eq]
      have hge := Lib.indexByte_ge s.data.toList c.toNat.toUInt8
      have : (if Lib.indexByte s.data.toList c.toNat.toUInt8 = -1 then (-1 : Int) else Lib.indexByte s.data.toList c.toNat.toUInt8 + (0 : Nat)) = Lib.indexByte s.data.toList c.toNat.toUInt8 := by
        split <;> omega
      rw [this]
      exact .plain rfl
    · cases he
  simp only [h3, Bool.false_eq_true, if_false] at he
  by_cases h4 : isId x.countS f = true
  · simp only [h4, if_true] at he
    split at he
    · rename_i s c
      cases he
      obtain ⟨y, z, e, hy, hz⟩ := hl.two rfl
      have ea : args' = #[y, z] := arr_eq (by simpa using e)
      subst ea
      have := hy.string_inv
      subst this
      have := hz.int_inv
      subst this
      refine .inr ⟨_, w, (X.countS f (isId_eq h4)).run (Lib.run_countString s c w), μ, ?_, H, Ext.refl μ _⟩
      rw [cntB_eq, Nat.zero_add]
      exact .plain rfl
    · cases he
  simp [h4] at he

end
end
end Go.R
