/- A part of the proofs over this program: an abstract machine that the kernel evaluates, its soundness, and what the functions compute (IntnShDefs). -/
import Derived.Test.YthdkgphnleibmaaDoorAeIntnCtx
namespace Burn.Intn
open Go Go.AE Go.Proofs
noncomputable def shlL (t k u i : Int) : Cfg := lcfg E4 23 0 [(0, aint .i64 t), (8, aint .i64 k), (10, aint .u64 u), (11, aint .i64 i)] [] 0
noncomputable def lshrL (t k u i : Int) : Cfg := lcfg E4 25 0 [(0, aint .i64 t), (8, aint .i64 k), (10, aint .u64 u), (11, aint .i64 i)] [] 0
noncomputable def ashrL (t k a i : Int) : Cfg := lcfg E4 27 0 [(0, aint .i64 t), (1, aint .i64 a), (8, aint .i64 k), (10, aint .i64 i)] [] 0
end Burn.Intn
