/- The element types of the slices that are appended to. -/
import Derived.Test.YtpifknmoimlpoaaProg
import Derived.Test.YtpifknmoimlpoaaBase
namespace Go.Proofs.Ytpifknmoimlpoaa
open Go.RowKit
theorem elemInt : Elem Try.prog 27 3 (.int .i64 0) 1 8 := by
  obtain ⟨i, h1, h2, h3, h4⟩ := info_parts (P := Try.prog) (e := 3) (z := .int .i64 0) (size := 1) (bytes := 8) (by kernel_rfl)
  exact ⟨Try.underlying27, ⟨i, h1, h2, h3, h4⟩, rfl, by decide, by decide⟩
theorem elemBool : Elem Try.prog 62 4 (.bool false) 1 1 := by
  obtain ⟨i, h1, h2, h3, h4⟩ := info_parts (P := Try.prog) (e := 4) (z := .bool false) (size := 1) (bytes := 1) (by kernel_rfl)
  exact ⟨Try.underlying62, ⟨i, h1, h2, h3, h4⟩, rfl, by decide, by decide⟩
end Go.Proofs.Ytpifknmoimlpoaa
