import Derived.Test.YtoecfgldnlglnaaXEh
import Derived.Test.YtoecfgldnlglnaaXEo
set_option linter.unusedVariables false
set_option linter.unusedSimpArgs false
set_option maxRecDepth 20000
namespace Go.Proofs.Ytoecfgldnlglnaa
open Go Go.Wk Go.Wk.Num
theorem wCatBackS {R v1 v2 l m} {a : ByteArray} {n : Int} (h1 : RSl 15 (Flat actC) R v1 l) (h2 : RSl 15 (Flat actC) R v2 m) (hn : (Lit.int .u16 n).wf = true) : Tri Try.prog 8 [v1, v2, .int .u16 n, .string a] R [] fun v l' => v = .bool true ∧ l' = [] := by
  rw [strBs]; exact wCatBack h1 h2 (u16wf hn)
end Go.Proofs.Ytoecfgldnlglnaa

