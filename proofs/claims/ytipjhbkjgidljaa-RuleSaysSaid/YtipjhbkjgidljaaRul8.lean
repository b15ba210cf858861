/- How rules and packets read. -/
import Derived.Test.YtipjhbkjgidljaaRul7
import Derived.Test.YtipjhbkjgidljaaErow
namespace Go.Proofs.Ytipjhbkjgidljaa
open Go Go.RowKit E
theorem decRule (cs : List Value) (h : Fits2 [.bool, .int .u32, .int .i64, .int .u32, .int .i64, .int .i64, .int .i64, .int .i64, .int .i64, .int .i64] cs) : ∃ r : RuleV, r.enc = cs ∧ r.Ok := by
  obtain ⟨_, _, rfl, ⟨a, rfl⟩, _, _, rfl, ⟨b, rfl, wb⟩, _, _, rfl, ⟨c, rfl, wc⟩, _, _, rfl, ⟨d, rfl, wd⟩, _, _, rfl, ⟨e, rfl, we⟩, _, _, rfl, ⟨f, rfl, wf⟩, _, _, rfl, ⟨g, rfl, wg⟩, _, _, rfl, ⟨h, rfl, wh⟩, _, _, rfl, ⟨i, rfl, wi⟩, _, _, rfl, ⟨j, rfl, wj⟩, rfl⟩ := h
  exact ⟨⟨a, b, c, d, e, f, g, h, i, j⟩, rfl, ⟨wf32 wb, wf32 wd⟩⟩
theorem decPkt (cs : List Value) (h : Fits2 [.int .u32, .int .u32, .int .i64, .int .i64, .int .i64, .int .i64, .bool, .bool, .string] cs) : ∃ r : PktV, r.enc = cs ∧ r.Ok := by
  obtain ⟨_, _, rfl, ⟨a, rfl, wa⟩, _, _, rfl, ⟨b, rfl, wb⟩, _, _, rfl, ⟨c, rfl, wc⟩, _, _, rfl, ⟨d, rfl, wd⟩, _, _, rfl, ⟨e, rfl, we⟩, _, _, rfl, ⟨f, rfl, wf⟩, _, _, rfl, ⟨g, rfl⟩, _, _, rfl, ⟨h, rfl⟩, _, _, rfl, ⟨i, rfl, wi⟩, rfl⟩ := h
  exact ⟨⟨a, b, c, d, e, f, g, h, i⟩, rfl, ⟨wf32 wa, wf32 wb⟩⟩
instance : Inhabited RuleV := ⟨⟨false, 0, 0, 0, 0, 0, 0, 0, 0, 0⟩⟩
end Go.Proofs.Ytipjhbkjgidljaa
