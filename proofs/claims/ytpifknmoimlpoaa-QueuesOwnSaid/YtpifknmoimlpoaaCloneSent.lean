/- slices.Clone of a slice of api.Sent: a copy of the call's own. -/
import Derived.Test.YtpifknmoimlpoaaElems
import Derived.Test.YtpifknmoimlpoaaTurnR
set_option linter.unusedVariables false
namespace Go.Proofs.Ytpifknmoimlpoaa
open Go.RowKit
set_option maxHeartbeats 400000 in
theorem cloneSent (A : Option Addr) (n c : Nat) (xs : List Value) (W : World) (hs : Sl W W.heap.size A (n * 2) xs) (hu : ∀ u ∈ xs, u.oneCell' = true) (hn : n * 16 ≤ 140737488355328) :
    Calls Try.prog 38 #[.slice A n c] W fun e w' => ∃ v, e = .returned v ∧ w'.ownsRow W.heap.size 33 2 v n xs ∧ Below W.heap.size W w' ∧ W.heap.size ≤ w'.heap.size := by
  have hq := fun (w : World) => Lib.run_eql_slice_nil (P := Try.prog) w 23 33 A n c 0 0 Try.underlying23
  rcases A with _ | ad
  · have h0 := hs.nil_len rfl
    obtain rfl : n = 0 := by omega
    have hx : xs = [] := List.eq_nil_of_length_eq_zero (by have := hs.1; simpa using this)
    subst hx
    have hq' : ∀ w : World, (binOp .eql 23 (.slice none 0 c) (.slice none 0 0)).run Try.prog w = .ok (.bool true) w := fun w => by rw [hq]; rfl
    clear hq hs
    go_enter Try.func38, Try.ntmps38
    go_wp2
    go_ret
    exact ⟨_, rfl, World.ownsRow_nil _ _ _ _, Below.refl _ _, Nat.le_refl _⟩
  · have hq' : ∀ w : World, (binOp .eql 23 (.slice (some ad) n c) (.slice none 0 0)).run Try.prog w = .ok (.bool false) w := fun w => by rw [hq]; rfl
    have hown : (W.alloc (.cells #[] 33)).ownsRow W.heap.size 33 2 (.slice (some ⟨W.heap.size, 0, none⟩) 0 0) 0 [] :=
      World.ownsRow_made W #[] 0 (Nat.le_refl _) (by simp [maxLen]) rfl
    have hs' := hs.alloc (Nat.le_refl _) (.cells #[] 33)
    have hb' : Below W.heap.size W (W.alloc (.cells #[] 33)) := (Below.refl _ _).alloc (Nat.le_refl _) _
    have hz : W.heap.size ≤ (W.alloc (.cells #[] 33)).heap.size := hb'.size
    have S := Lib.hid hs'
    have O := Lib.hid hown
    have BB := Lib.hid hb'
    have Z := Lib.hid hz
    have U := Lib.hid hu
    have NL : Hid (some ad = none → n = 0) := fun h => by cases h
    clear hq hs hs' hown hb' hz hu
    go_enter Try.func38, Try.ntmps38
    go_wp2_with (at_builtin; refine wpList_cat rfl (.tmp 5) (.tmp 6) _ rfl elemSent W.heap.size _ 0 [] _ n c xs rfl rfl O.out BB.out Z.out S.out.1 NL.out S.out.cells_ U.out (by unfold maxLen; omega) (by omega) ?_; intro v' w1 hown1 hb1 hz1 _)
    go_ret
    exact ⟨v', rfl, by simpa using hown1, hb1, hz1⟩
end Go.Proofs.Ytpifknmoimlpoaa
