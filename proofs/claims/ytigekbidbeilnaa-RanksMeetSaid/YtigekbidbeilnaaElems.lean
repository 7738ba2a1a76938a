/- The element types of the slices that are appended to. -/
import Derived.Test.YtigekbidbeilnaaProg
import Derived.Test.YtigekbidbeilnaaBase
namespace Go.Proofs.Ytigekbidbeilnaa
open Go.RowKit
theorem elemInt : Elem Try.prog 23 3 (.int .i64 0) 1 8 := by
  obtain ⟨i, h1, h2, h3, h4⟩ := info_parts (P := Try.prog) (e := 3) (z := .int .i64 0) (size := 1) (bytes := 8) (by kernel_rfl)
  exact ⟨Try.underlying23, ⟨i, h1, h2, h3, h4⟩, rfl, by decide, by decide⟩
end Go.Proofs.Ytigekbidbeilnaa
