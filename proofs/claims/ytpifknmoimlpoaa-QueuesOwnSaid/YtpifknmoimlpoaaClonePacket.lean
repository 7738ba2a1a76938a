/- slices.Clone of a slice of api.Packet: a copy of the call's own. -/
import Derived.Test.YtpifknmoimlpoaaElems
import Derived.Test.YtpifknmoimlpoaaOpen3
set_option linter.unusedVariables false
namespace Go.Proofs.Ytpifknmoimlpoaa
open Go.RowKit
theorem elemPacket : Elem Try.prog 56 59 (.agg #[.int .i64 0, .int .i64 0, .int .i64 0]) 3 24 := by
  obtain ⟨i, h1, h2, h3, h4⟩ := info_parts (P := Try.prog) (e := 59) (z := .agg #[.int .i64 0, .int .i64 0, .int .i64 0]) (size := 3) (bytes := 24) (by kernel_rfl)
  exact ⟨Try.underlying56, ⟨i, h1, h2, h3, h4⟩, rfl, by decide, by decide⟩
theorem putPacket_run (w : World) (g k : Nat) (x0 x1 x2 : Int) (u0 u1 u2 : Value) (c0 : w.cell? ⟨g, k, none⟩ = some u0) (c1 : w.cell? ⟨g, k + 1, none⟩ = some u1) (c2 : w.cell? ⟨g, k + 2, none⟩ = some u2) (f : ∀ q, w.frozen? ⟨g, q, none⟩ = false) :
    (Instr.storeAt 59 (.pointer (some ⟨g, k, none⟩)) (.agg #[.int .i64 x0, .int .i64 x1, .int .i64 x2])).run Try.prog w = .ok () (((w.setCell ⟨g, k, none⟩ (.int .i64 x0)).setCell ⟨g, k + 1, none⟩ (.int .i64 x1)).setCell ⟨g, k + 2, none⟩ (.int .i64 x2)) := by
  have h1 : (w.setCell ⟨g, k, none⟩ (.int .i64 x0)).cell? ⟨g, k + 1, none⟩ = some u1 := by rw [World.cell?_setCell_other _ _ _ _ (by simp)]; exact c1
  have h2 : ((w.setCell ⟨g, k, none⟩ (.int .i64 x0)).setCell ⟨g, k + 1, none⟩ (.int .i64 x1)).cell? ⟨g, k + 2, none⟩ = some u2 := by rw [World.cell?_setCell_other _ _ _ _ (by simp), World.cell?_setCell_other _ _ _ _ (by simp)]; exact c2
  simp [Instr.storeAt, storeVar, go_sem, c0, c1, c2, f, h1, h2]
theorem wpList_putPacket {w : World} {ops : Array Oper} {rest : List Oper} {o : Oper} {a : Act} {Q : Exit → Act → World → Prop} (hgd : o.guard = none) (p x : Operand)
    (ho : o.op = .store 59 p x) (g k : Nat) (x0 x1 x2 : Int) (hp : a.eval p = .pointer (some ⟨g, k, none⟩)) (hx : a.eval x = .agg #[.int .i64 x0, .int .i64 x1, .int .i64 x2]) (u0 u1 u2 : Value) (c0 : w.cell? ⟨g, k, none⟩ = some u0) (c1 : w.cell? ⟨g, k + 1, none⟩ = some u1) (c2 : w.cell? ⟨g, k + 2, none⟩ = some u2) (f : ∀ q, w.frozen? ⟨g, q, none⟩ = false)
    (h : wpList Try.prog ops Q rest (a.put o.dst undef) (((w.setCell ⟨g, k, none⟩ (.int .i64 x0)).setCell ⟨g, k + 1, none⟩ (.int .i64 x1)).setCell ⟨g, k + 2, none⟩ (.int .i64 x2))) : wpList Try.prog ops Q (o :: rest) a w := by
  refine wpList_plain hgd fun K hK => ?_
  have hrun := putPacket_run w g k x0 x1 x2 u0 u1 u2 c0 c1 c2 f
  unfold Oper.wp
  simp [execOp, ho, hp, hx, hrun, Result.andThen]
  exact hK _ _ h
end Go.Proofs.Ytpifknmoimlpoaa
