/- The package variables as the rows lay them. No conditions beyond those written. -/
import Derived.Test.YtffikjglpgbnbaaDoorBase
import Derived.Test.YtffikjglpgbnbaaDoorPlainA
import Derived.Test.YtffikjglpgbnbaaDoorRowingA
namespace Go.Proofs.YtffikjglpgbnbaaDoor
open Go Go.BE Burn.Cfg
set_option maxRecDepth 100000
theorem bulk_sz {H : Type} (S : Sh) (d : DataW H) (x : Den S) (h : rdX S false [d] = some x) : szD S x + 1 ≤ Rows.uptoBulk d :=
 (sz_bulk (B := Rows.uptoBulk) (BA := Rows.uptoBulkAll) (fun l s => by simp only [Rows.uptoBulk]; omega) (fun l => by simp only [Rows.uptoBulk]; omega) (fun d => by simp only [Rows.uptoBulk]; omega) (fun b => by simp only [Rows.uptoBulk]; omega) (fun d l => by simp only [Rows.uptoBulkAll]; omega) (fun d => by
  cases d with
  | lit l => cases l <;> simp [Rows.uptoBulk]
  | _ => simp [Rows.uptoBulk]) S).1 d x h
theorem bulk_of {H : Type} {l : List (DataW H)} (hk : Rows.uptoSmall H l = true) : Rows.uptoBulkAll l ≤ 1048576 := by simpa [Rows.uptoSmall] using hk
end Go.Proofs.YtffikjglpgbnbaaDoor
