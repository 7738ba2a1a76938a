/- slices.Clone of a slice of api.Lease: a copy of the call's own. -/
import Derived.Test.YtpifknmoimlpoaaElems
import Derived.Test.YtpifknmoimlpoaaOpen3
set_option linter.unusedVariables false
namespace Go.Proofs.Ytpifknmoimlpoaa
open Go.RowKit
theorem elemLease : Elem Try.prog 85 87 (.agg #[.int .i64 0, .int .i64 0, .int .i64 0]) 3 24 := by
  obtain ⟨i, h1, h2, h3, h4⟩ := info_parts (P := Try.prog) (e := 87) (z := .agg #[.int .i64 0, .int .i64 0, .int .i64 0]) (size := 3) (bytes := 24) (by kernel_rfl)
  exact ⟨Try.underlying85, ⟨i, h1, h2, h3, h4⟩, rfl, by decide, by decide⟩
set_option maxHeartbeats 400000 in
theorem cloneLease (A : Option Addr) (n c : Nat) (xs : List Value) (W : World) (hs : Sl W W.heap.size A (n * 3) xs) (hu : ∀ u ∈ xs, u.oneCell' = true) (hn : n * 24 ≤ 140737488355328) :
    Calls Try.prog 72 #[.slice A n c] W fun e w' => ∃ v, e = .returned v ∧ w'.ownsRow W.heap.size 87 3 v n xs ∧ Below W.heap.size W w' ∧ W.heap.size ≤ w'.heap.size := by
  have hq := fun (w : World) => Lib.run_eql_slice_nil (P := Try.prog) w 85 87 A n c 0 0 Try.underlying85
  rcases A with _ | ad
  · have h0 := hs.nil_len rfl
    obtain rfl : n = 0 := by omega
    have hx : xs = [] := List.eq_nil_of_length_eq_zero (by have := hs.1; simpa using this)
    subst hx
    have hq' : ∀ w : World, (binOp .eql 85 (.slice none 0 c) (.slice none 0 0)).run Try.prog w = .ok (.bool true) w := fun w => by rw [hq]; rfl
    clear hq hs
    go_enter Try.func72, Try.ntmps72
    go_wp2
    go_ret
    exact ⟨_, rfl, World.ownsRow_nil _ _ _ _, Below.refl _ _, Nat.le_refl _⟩
  · have hq' : ∀ w : World, (binOp .eql 85 (.slice (some ad) n c) (.slice none 0 0)).run Try.prog w = .ok (.bool false) w := fun w => by rw [hq]; rfl
    have hown : (W.alloc (.cells #[] 87)).ownsRow W.heap.size 87 3 (.slice (some ⟨W.heap.size, 0, none⟩) 0 0) 0 [] :=
      World.ownsRow_made W #[] 0 (Nat.le_refl _) (by simp [maxLen]) rfl
    have hs' := hs.alloc (Nat.le_refl _) (.cells #[] 87)
    have hb' : Below W.heap.size W (W.alloc (.cells #[] 87)) := (Below.refl _ _).alloc (Nat.le_refl _) _
    have hz : W.heap.size ≤ (W.alloc (.cells #[] 87)).heap.size := hb'.size
    have S := Lib.hid hs'
    have O := Lib.hid hown
    have BB := Lib.hid hb'
    have Z := Lib.hid hz
    have U := Lib.hid hu
    have NL : Hid (some ad = none → n = 0) := fun h => by cases h
    clear hq hs hs' hown hb' hz hu
    go_enter Try.func72, Try.ntmps72
    go_wp2_with (at_builtin; refine wpList_cat rfl (.tmp 5) (.tmp 6) _ rfl elemLease W.heap.size _ 0 [] _ n c xs rfl rfl O.out BB.out Z.out S.out.1 NL.out S.out.cells_ U.out (by unfold maxLen; omega) (by omega) ?_; intro v' w1 hown1 hb1 hz1 _)
    go_ret
    exact ⟨v', rfl, by simpa using hown1, hb1, hz1⟩
theorem putLease_run (w : World) (g k : Nat) (x0 x1 x2 : Int) (u0 u1 u2 : Value) (c0 : w.cell? ⟨g, k, none⟩ = some u0) (c1 : w.cell? ⟨g, k + 1, none⟩ = some u1) (c2 : w.cell? ⟨g, k + 2, none⟩ = some u2) (f : ∀ q, w.frozen? ⟨g, q, none⟩ = false) :
    (Instr.storeAt 87 (.pointer (some ⟨g, k, none⟩)) (.agg #[.int .i64 x0, .int .i64 x1, .int .i64 x2])).run Try.prog w = .ok () (((w.setCell ⟨g, k, none⟩ (.int .i64 x0)).setCell ⟨g, k + 1, none⟩ (.int .i64 x1)).setCell ⟨g, k + 2, none⟩ (.int .i64 x2)) := by
  have h1 : (w.setCell ⟨g, k, none⟩ (.int .i64 x0)).cell? ⟨g, k + 1, none⟩ = some u1 := by rw [World.cell?_setCell_other _ _ _ _ (by simp)]; exact c1
  have h2 : ((w.setCell ⟨g, k, none⟩ (.int .i64 x0)).setCell ⟨g, k + 1, none⟩ (.int .i64 x1)).cell? ⟨g, k + 2, none⟩ = some u2 := by rw [World.cell?_setCell_other _ _ _ _ (by simp), World.cell?_setCell_other _ _ _ _ (by simp)]; exact c2
  simp [Instr.storeAt, storeVar, go_sem, c0, c1, c2, f, h1, h2]
theorem wpList_putLease {w : World} {ops : Array Oper} {rest : List Oper} {o : Oper} {a : Act} {Q : Exit → Act → World → Prop} (hgd : o.guard = none) (p x : Operand)
    (ho : o.op = .store 87 p x) (g k : Nat) (x0 x1 x2 : Int) (hp : a.eval p = .pointer (some ⟨g, k, none⟩)) (hx : a.eval x = .agg #[.int .i64 x0, .int .i64 x1, .int .i64 x2]) (u0 u1 u2 : Value) (c0 : w.cell? ⟨g, k, none⟩ = some u0) (c1 : w.cell? ⟨g, k + 1, none⟩ = some u1) (c2 : w.cell? ⟨g, k + 2, none⟩ = some u2) (f : ∀ q, w.frozen? ⟨g, q, none⟩ = false)
    (h : wpList Try.prog ops Q rest (a.put o.dst undef) (((w.setCell ⟨g, k, none⟩ (.int .i64 x0)).setCell ⟨g, k + 1, none⟩ (.int .i64 x1)).setCell ⟨g, k + 2, none⟩ (.int .i64 x2))) : wpList Try.prog ops Q (o :: rest) a w := by
  refine wpList_plain hgd fun K hK => ?_
  have hrun := putLease_run w g k x0 x1 x2 u0 u1 u2 c0 c1 c2 f
  unfold Oper.wp
  simp [execOp, ho, hp, hx, hrun, Result.andThen]
  exact hK _ _ h
end Go.Proofs.Ytpifknmoimlpoaa
