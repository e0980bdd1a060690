/- A part of the proofs over this program: an abstract machine that the kernel evaluates, its soundness, and what the functions compute (IntnPaths4). -/
import Derived.Test.YthdkgphnleibmaaDoorAeIntnShl
namespace Burn.Intn
open Go Go.AE Go.Proofs
set_option maxRecDepth 100000
theorem shifts_0 (t : Int) (a : Int) (b : Int) : apr E7 5000 [false, false, false, false, true, true] (AE.start E7 (5 : FuncId) [aint IntKind.i64 t, aint IntKind.i64 a, aint IntKind.i64 b]) = some ([True, True, ((if bitsZ t ≤ unsZ t b then (0 : Int) else wrapZ t (a * (2 : Int) ^ (unsZ t b).toNat)) != if bitsZ t ≤ unsZ t b then (0 : Int) else wrapZ t (a * (2 : Int) ^ (unsZ t b).toNat)) = false, (!decide (unsZ t b < bitsZ t) == decide (unsZ t b < bitsZ t)) = false, True, True, ((if bitsZ t ≤ unsZ t b then (0 : Int) else wrapZ t (unsZ t a / (2 : Int) ^ (unsZ t b).toNat)) != if bitsZ t ≤ unsZ t b then (0 : Int) else wrapZ t (unsZ t a / (2 : Int) ^ (unsZ t b).toNat)) = false, (!decide (unsZ t b < bitsZ t) == decide (unsZ t b < bitsZ t)) = false, True, True, True, true = true, ((if bitsZ t ≤ unsZ t b then (0 : Int) else wrapZ t a / (2 : Int) ^ (unsZ t b).toNat) == if bitsZ t ≤ unsZ t b then (0 : Int) else wrapZ t a / (2 : Int) ^ (unsZ t b).toNat) = true], AV.val (Value.bool (decide (unsZ t b < bitsZ t) == decide (unsZ t b < bitsZ t)))) := by kernel_rfl 
theorem law_shifts (t a b : Int) : Gives E7 (AE.start E7 5 [aint .i64 t, aint .i64 a, aint .i64 b]) (abool true) :=
  gives E7_ok (shifts_0 t a b) (by simp [AllP]) (vt (by simp))
end Burn.Intn
