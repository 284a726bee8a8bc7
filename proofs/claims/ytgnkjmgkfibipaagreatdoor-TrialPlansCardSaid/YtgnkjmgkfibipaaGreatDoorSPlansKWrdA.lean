/- Words: cuts, letters, strings.HasPrefix, strings.Contains and strings.Trim with the letters b and s. -/
import Derived.Test.YtgnkjmgkfibipaaGreatDoorSPlansKZ3
namespace Go.Proofs.YtgnkjmgkfibipaaGreatDoor
set_option linter.unusedVariables false
set_option linter.unusedSimpArgs false
open Go Go.R
set_option maxRecDepth 1000000
noncomputable section

/-! ### Strings -/
def bl (w : ByteArray) : List UInt8 := w.data.toList
theorem bl_len (w : ByteArray) : (bl w).length = w.size := rfl
def byteN (w : ByteArray) (i : Nat) : Nat := ((bl w).getD i 0).toNat
theorem str_at {w : ByteArray} {i : Nat} (h : i < w.size) : w[i]? = some ((bl w).getD i 0) := by
  have h' : i < w.data.toList.length := h
  have e : w[i]? = w.data[i]? := by rfl
  rw [e, ← Array.getElem?_toList, List.getElem?_eq_getElem h']
  unfold bl
  rw [List.getD_eq_getElem?_getD, List.getElem?_eq_getElem h']
  rfl
theorem und9 : Tryz.prog.underlying 9 = some .string := by kernel_rfl
theorem index_str {w : ByteArray} {i : Nat} (h : i < w.size) : indexA Tryz.prog 9 (.string w) (i64 i) = some (.int .u8 (.ofNat (byteN w i))) := by
  unfold indexA i64
  simp only [und9]
  rw [if_pos (show (0 : Int) ≤ Int.ofNat i from Int.natCast_nonneg i)]
  show (match w[i]? with | some b => some (Value.int .u8 b.toNat) | none => none) = _
  rw [str_at h]
  rfl
/-! ### Told steps on strings -/
theorem shown_byte {a : AF} {o : Oper} {j i : Nat} {w : ByteArray} (hc : callOp? o.op = none) (h : opA Tryz.prog (evalA a.tm) o.op a.h = (indexA Tryz.prog 9 (.string w) (i64 i)).map (·, a.h)) (hi : i < w.size) :
    Shown Tryz.prog a o (viaV j (.int .u8 (.ofNat (byteN w i)))) := ⟨hc, h.trans (by rw [index_str hi]; rfl)⟩
/-! ### HasPrefix -/
end
end Go.Proofs.YtgnkjmgkfibipaaGreatDoor
