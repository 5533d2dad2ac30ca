/- The laws of paradigms: IsParadigm and IsAlternating answer as the reference does. Over any program. -/
import Derived.Test.YtobhjgipeepmoaaL01
namespace Go.Lib02
open Go.Ab Go.Lib01
set_option linter.unusedVariables false
set_option linter.unusedSimpArgs false
set_option maxRecDepth 2000

/-- What is left of a size. -/
def szTwo (a b : List UInt8) (l : Int) : Int := if l - a.length < 0 then -1 else if l - a.length - b.length < 0 then -1 else l - a.length - b.length
def C_szParadigm (P : Program) (k : Nat) : Prop := ∀ (a b : List UInt8) (l : Int), a.length ≤ 9223372036854775807 → b.length ≤ 9223372036854775807 → -1 ≤ l → l ≤ 1048576 → RunsF P k [.agg [.str a, .str b], .int .i64 l] (.int .i64 (szTwo a b l))
def C_toParadigm (P : Program) (k : Nat) : Prop := ∀ (a b : List UInt8), RunsF P k [.agg [.str a, .str b]] (.agg [.str a, .str b])
theorem szTwo_le {a b : List UInt8} {l : Int} (h : 0 ≤ szTwo a b l) : a.length + b.length ≤ l := by
  unfold szTwo at h
  split at h
  · omega
  · split at h <;> omega
def C_lawPara (P : Program) (k : Nat) : Prop := ∀ (a b : List UInt8), a.length ≤ 9223372036854775807 → b.length ≤ 9223372036854775807 → RunsF P k [.agg [.str a, .str b]] (.bool true)
end Go.Lib02
