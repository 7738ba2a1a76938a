/- slices.Clone of a slice of bools: a copy of the call's own. -/
import Derived.Test.YtpifknmoimlpoaaElems
set_option linter.unusedVariables false
namespace Go.Proofs.Ytpifknmoimlpoaa
open Go.RowKit
set_option maxHeartbeats 400000 in
theorem cloneBool (A : Option Addr) (n c : Nat) (xs : List Value) (W : World) (hs : Sl W W.heap.size A n xs) (hu : ∀ u ∈ xs, u.oneCell' = true) (hn : n * 1 ≤ 140737488355328) :
    Calls Try.prog 36 #[.slice A n c] W fun e w' => ∃ v, e = .returned v ∧ w'.ownsRow W.heap.size 4 1 v n xs ∧ Below W.heap.size W w' ∧ W.heap.size ≤ w'.heap.size := by
  have hq := fun (w : World) => Lib.run_eql_slice_nil (P := Try.prog) w 62 4 A n c 0 0 Try.underlying62
  rcases A with _ | ad
  · have h0 := hs.nil_len rfl
    subst h0
    have hx : xs = [] := List.eq_nil_of_length_eq_zero hs.1
    subst hx
    have hq' : ∀ w : World, (binOp .eql 62 (.slice none 0 c) (.slice none 0 0)).run Try.prog w = .ok (.bool true) w := fun w => by rw [hq]; rfl
    clear hq hs
    go_enter Try.func36, Try.ntmps36
    go_wp2
    go_ret
    exact ⟨_, rfl, World.ownsRow_nil _ _ _ _, Below.refl _ _, Nat.le_refl _⟩
  · have hq' : ∀ w : World, (binOp .eql 62 (.slice (some ad) n c) (.slice none 0 0)).run Try.prog w = .ok (.bool false) w := fun w => by rw [hq]; rfl
    have hown : (W.alloc (.cells #[] 4)).ownsRow W.heap.size 4 1 (.slice (some ⟨W.heap.size, 0, none⟩) 0 0) 0 [] :=
      World.ownsRow_made W #[] 0 (Nat.le_refl _) (by simp [maxLen]) rfl
    have hs' := hs.alloc (Nat.le_refl _) (.cells #[] 4)
    have hb' : Below W.heap.size W (W.alloc (.cells #[] 4)) := (Below.refl _ _).alloc (Nat.le_refl _) _
    have hz : W.heap.size ≤ (W.alloc (.cells #[] 4)).heap.size := hb'.size
    have S := Lib.hid hs'
    have O := Lib.hid hown
    have BB := Lib.hid hb'
    have Z := Lib.hid hz
    have U := Lib.hid hu
    clear hq hs hs' hown hb' hz hu
    go_enter Try.func36, Try.ntmps36
    go_wp2_with (at_builtin; refine wpList_cat rfl (.tmp 5) (.tmp 6) _ rfl elemBool W.heap.size _ 0 [] _ n c xs rfl rfl O.out BB.out Z.out (by simpa using S.out.1) (by simp) S.out.cells_ U.out (by unfold maxLen; omega) (by omega) ?_; intro v' w1 hown1 hb1 hz1 _)
    go_ret
    exact ⟨v', rfl, by simpa using hown1, hb1, hz1⟩
end Go.Proofs.Ytpifknmoimlpoaa
