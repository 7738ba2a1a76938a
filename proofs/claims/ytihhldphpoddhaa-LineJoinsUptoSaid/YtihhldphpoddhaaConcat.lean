/- slices.Concat of two slices of ints. -/
import Derived.Test.YtihhldphpoddhaaElems
import Derived.Shelf.Spec.SlicesGrow
set_option linter.unusedVariables false
namespace Go.Proofs.Ytihhldphpoddhaa
open Go.RowKit Go.Shelf
def growI_ren : Go.Shelf.Ren := ⟨fun | 4 => 34 | n => n, fun | 22 => 22 | 25 => 3 | 3 => 3 | 4 => 4 | 9 => 9 | 20 => 20 | 0 => 0 | n => n, fun | n => n⟩
theorem growI : Go.Proofs.Lays8.n4 Try.prog growI_ren := {
  mixed := by kernel_rfl
  f4 := ⟨Try.f34.name, by decide, Try.func34.trans (congrArg some (by kernel_rfl))⟩
  t0 := Try.underlying0
  a0 := Try.isAgg0
  z0 := Try.sizeOf0
  v0 := Try.zeroValue0
  t3 := Try.underlying3
  a3 := Try.isAgg3
  z3 := Try.sizeOf3
  v3 := Try.zeroValue3
  t4 := Try.underlying4
  a4 := Try.isAgg4
  z4 := Try.sizeOf4
  v4 := Try.zeroValue4
  t9 := Try.underlying9
  a9 := Try.isAgg9
  z9 := Try.sizeOf9
  v9 := Try.zeroValue9
  t20 := Try.underlying20
  a20 := Try.isAgg20
  z20 := Try.sizeOf20
  v20 := Try.zeroValue20
  t22 := Try.underlying22
  a22 := Try.isAgg22
  z22 := Try.sizeOf22
  v22 := Try.zeroValue22 }
theorem grow_nil (z : Int) (N : Nat) (hz : z = N) (W : World) (hN : N * 8 ≤ 140737488355328) :
    Calls Try.prog 34 #[.slice none 0 0, .int .i64 z] W fun e w' => ∃ v, e = .returned v ∧ w'.ownsRow W.heap.size 3 1 v 0 [] ∧ Below W.heap.size W w' ∧ W.heap.size ≤ w'.heap.size := by
  subst hz
  rcases Nat.eq_zero_or_pos N with rfl | hp
  · refine (Any8.slices_Grow_room growI none 0 0 0 W (by omega) (by omega) (by omega) (by omega)).mono ?_
    rintro e w' ⟨rfl, rfl⟩
    exact ⟨_, rfl, World.ownsRow_nil _ _ _ _, Below.refl _ _, Nat.le_refl _⟩
  · obtain ⟨i, h1, h2, h3, h4⟩ := elemInt.info
    refine (Any8.slices_Grow_grow growI i _ h1 h2 (by omega) none 0 0 N [] W (by omega) (by omega) (by rw [h4]; omega) (by omega) (by simp) (fun _ => rfl) (fun a h => by cases h)).mono ?_
    rintro e w' ⟨rfl, rfl⟩
    have hge := grownCap_ge W (0 + N) 0 3
    refine ⟨_, rfl, World.ownsRow_made W.drew _ _ (Nat.le_refl _) (grownCap_le_maxLen _ _ _ _ (by unfold maxLen; omega)) ?_, ((Below.refl _ _).drew).alloc (Nat.le_refl _) _, by simp⟩
    have hc : (Value.int IntKind.i64 0).cells.size = 1 := rfl
    rw [Array.size_append, Array.size_append, size_zeroCells, size_zeroCells, hc]
    have hge' := grownCap_ge W N 0 (growI_ren.t 25)
    simp
    omega
set_option maxHeartbeats 1600000 in
theorem concat_two (g : Nat) (gc : Nat) (A : Option Addr) (n c : Nat) (xs : List Value) (B : Option Addr) (m d : Nat) (ys : List Value) (W : World) (hg : g < W.heap.size)
    (hA : W.cell? ⟨g, 0, none⟩ = some (.slice A n c)) (hB : W.cell? ⟨g, 1, none⟩ = some (.slice B m d)) (hs : Sl W W.heap.size A n xs) (ht : Sl W W.heap.size B m ys)
    (hu : ∀ u ∈ xs, u.oneCell' = true) (hv : ∀ u ∈ ys, u.oneCell' = true) (hN : (n + m) * 8 ≤ 140737488355328) :
    Calls Try.prog 21 #[.slice (some ⟨g, 0, none⟩) 2 gc] W fun e w' => ∃ v, e = .returned v ∧ w'.ownsRow W.heap.size 3 1 v (n + m) (xs ++ ys) ∧ Below W.heap.size W w' ∧ W.heap.size ≤ w'.heap.size := by
  have HU := Lib.hid hu
  have HV := Lib.hid hv
  have f1 : IntKind.i64.wrap ((n : Int) + m) = (n : Int) + m := IntWalk.i64_in _ ⟨by omega, by omega⟩
  have f2 : ¬ ((n : Int) + m < 0) := by omega
  have f3 : ¬ ((n : Int) < 0) := by omega
  have f4 : IntKind.i64.wrap (n : Int) = n := IntWalk.i64_in _ ⟨by omega, by omega⟩
  clear hu hv
  go_enter Try.func21, Try.ntmps21
  go_wp2_with fail
  go_loop [11, 3, 5] (fun i z _ => (i = .int .i64 0 ∧ z = .int .i64 0) ∨ (i = .int .i64 1 ∧ z = .int .i64 n) ∨ (i = .int .i64 2 ∧ z = .int .i64 ((n : Int) + m))) (fun i _ _ => 2 - (intOf i).toNat)
  case atStart => exact .inl ⟨rfl, rfl⟩
  case round =>
    rcases hrel with ⟨rfl, rfl⟩ | ⟨rfl, rfl⟩ | ⟨rfl, rfl⟩
    · go_wp2_with fail
      go_round
      case rel => exact .inr (.inl ⟨by go_num, rfl⟩)
      case measure => simp [intOf]
    · go_wp2_with fail
      go_round
      case rel => exact .inr (.inr ⟨by go_num, rfl⟩)
      case measure => simp [intOf]
    · go_wp2_with fail
      refine (grow_nil _ (n + m) (by omega) _ hN).mono ?_
      rintro e w1 ⟨v, rfl, hown, hb, hz⟩
      have HO := Lib.hid hown
      have HB := Lib.hid hb
      clear hown hb
      go_wp2_with fail
      go_loopw [27, 6, 8] (fun i v _ wr => Below W.heap.size W wr ∧ W.heap.size ≤ wr.heap.size ∧ ((i = .int .i64 0 ∧ wr.ownsRow W.heap.size 3 1 v 0 []) ∨ (i = .int .i64 1 ∧ wr.ownsRow W.heap.size 3 1 v n xs) ∨ (i = .int .i64 2 ∧ wr.ownsRow W.heap.size 3 1 v (n + m) (xs ++ ys)))) (fun i _ _ _ => 2 - (intOf i).toNat)
      case atStart => exact ⟨HB.out, hz, .inl ⟨rfl, HO.out⟩⟩
      case round =>
        obtain ⟨hb, hz, hrel⟩ := hrel
        have cA := (hb.cell (p := ⟨g, 0, none⟩) hg).trans hA
        have cB := (hb.cell (p := ⟨g, 1, none⟩) hg).trans hB
        have hs' := Lib.hid (hs.below hb)
        have ht' := Lib.hid (ht.below hb)
        have hbh := Lib.hid hb
        clear hA hB hb
        rcases hrel with ⟨rfl, hown⟩ | ⟨rfl, hown⟩ | ⟨rfl, hown⟩
        · have ho := Lib.hid hown
          clear hown
          go_wp2_with (at_builtin; refine wpList_cat rfl (.tmp 31) (.tmp 32) _ rfl elemInt W.heap.size _ 0 [] A n c xs rfl rfl ho.out hbh.out hz hs'.out.len1 hs'.out.nil_len hs'.out.cells_ HU.out (by unfold maxLen; omega) (by omega) ?_; rintro v5 w5 hown5 hb5 hz5 _)
          go_roundw
          case rel => exact ⟨hb5, hz5, .inr (.inl ⟨by go_num, by simpa using hown5⟩)⟩
          case measure => simp [intOf]
        · have ho := Lib.hid hown
          clear hown
          go_wp2_with (at_builtin; refine wpList_cat rfl (.tmp 31) (.tmp 32) _ rfl elemInt W.heap.size _ n xs B m d ys rfl rfl ho.out hbh.out hz ht'.out.len1 ht'.out.nil_len ht'.out.cells_ HV.out (by unfold maxLen; omega) (by omega) ?_; rintro v5 w5 hown5 hb5 hz5 _)
          go_roundw
          case rel => exact ⟨hb5, hz5, .inr (.inr ⟨by go_num, hown5⟩)⟩
          case measure => simp [intOf]
        · have ho := Lib.hid hown
          clear hown
          go_wp2_with fail
          go_ret
          exact ⟨_, rfl, ho.out, hbh.out, hz⟩
end Go.Proofs.Ytihhldphpoddhaa
