/- edf.next. -/
import Derived.Test.YtigekbidbeilnaaEdfA
import Derived.Test.YtigekbidbeilnaaKit0
set_option linter.unusedVariables false
namespace Go.Proofs.Ytigekbidbeilnaa
open Go.RowKit
/-- Of the first k jobs, those that are there at t and not done, the one that is due first; -1: none. -/
def pickJ (zs : List Int) (lf : Nat → Int) (t : Int) : Nat → Int
  | 0 => -1
  | k + 1 => if fd zs k 0 ≤ t ∧ 0 < lf k ∧ (pickJ zs lf t k < 0 ∨ fd zs k 2 < fd zs (pickJ zs lf t k).toNat 2) then (k : Int) else pickJ zs lf t k
theorem pickJ_succ (zs : List Int) (lf : Nat → Int) (t : Int) (k : Nat) : pickJ zs lf t (k + 1) = if fd zs k 0 ≤ t ∧ 0 < lf k ∧ (pickJ zs lf t k < 0 ∨ fd zs k 2 < fd zs (pickJ zs lf t k).toNat 2) then (k : Int) else pickJ zs lf t k := rfl
theorem pickJ_cases (zs : List Int) (lf : Nat → Int) (t : Int) (k : Nat) : pickJ zs lf t k = -1 ∨ ∃ j : Nat, j < k ∧ pickJ zs lf t k = j ∧ fd zs j 0 ≤ t ∧ 0 < lf j := by
  induction k with
  | zero => exact .inl rfl
  | succ k ih =>
    rw [pickJ_succ]
    split
    · rename_i h
      exact .inr ⟨k, by omega, rfl, h.1, h.2.1⟩
    · rcases ih with h | ⟨j, h1, h2, h3⟩
      · exact .inl h
      · exact .inr ⟨j, by omega, h2, h3⟩
/-- None of the first k goes ahead of the one that is picked. -/
theorem pickJ_best (zs : List Int) (lf : Nat → Int) (t : Int) (k : Nat) (i : Nat) (hi : i < k) (h1 : fd zs i 0 ≤ t) (h2 : 0 < lf i) : ∃ j : Nat, j < k ∧ pickJ zs lf t k = j ∧ fd zs j 2 ≤ fd zs i 2 := by
  induction k with
  | zero => omega
  | succ k ih =>
    rw [pickJ_succ]
    by_cases hik : i < k
    · obtain ⟨j, j1, j2, j3⟩ := ih hik
      split
      · rename_i h
        rw [j2] at h
        refine ⟨k, by omega, rfl, ?_⟩
        rcases h.2.2 with h' | h'
        · omega
        · rw [show ((j : Int)).toNat = j from rfl] at h'
          omega
      · exact ⟨j, by omega, j2, j3⟩
    · obtain rfl : i = k := by omega
      split
      · exact ⟨i, by omega, rfl, Int.le_refl _⟩
      · rename_i h
        rcases pickJ_cases zs lf t i with h' | ⟨j, j1, j2, _⟩
        · exact absurd ⟨h1, h2, .inl (by omega)⟩ h
        · refine ⟨j, by omega, j2, ?_⟩
          rcases Int.lt_or_le (fd zs i 2) (fd zs j 2) with h'' | h''
          · exact absurd ⟨h1, h2, .inr (by rw [j2]; exact h'')⟩ h
          · exact h''
set_option maxHeartbeats 3200000 in
theorem enext_ok (A : Option Addr) (n c : Nat) (zs : List Int) (L : Option Addr) (cl : Nat) (lf : Nat → Int) (t : Int) (W : World) (hs : Sl W W.heap.size A (n * 3) (ints zs)) (hl : Sl W W.heap.size L n (ints (tab n lf))) (hn12 : n ≤ 12) :
    Calls Try.prog 36 #[.slice A n c, .slice L n cl, .int .i64 t] W fun e w' => e = .returned (.int .i64 (pickJ zs lf t n)) ∧ Below W.heap.size W w' := by
  go_enter Try.func36, Try.ntmps36
  go_wp2_with fail
  go_loopw [12, 7, 8, 9] (fun i b _ _ wr => ∃ k : Nat, k ≤ n ∧ i = .int .i64 k ∧ b = .int .i64 (pickJ zs lf t k) ∧ Below W.heap.size W wr) (fun i _ _ _ _ => n - (intOf i).toNat)
  case atStart => exact ⟨0, Nat.zero_le _, rfl, rfl, Below.refl _ _⟩
  case round =>
    obtain ⟨k, hk, rfl, rfl, hb⟩ := hrel
    have HB := Lib.hid hb
    by_cases hlt : k < n
    · obtain ⟨ba, oa, rfl, qa, -⟩ := hs.int_at (k := k * 3) (by omega)
      obtain ⟨bl, ol, rfl, ql, -⟩ := hl.int_at (k := k) hlt
      obtain ⟨oj, hoj⟩ : ∃ oj, Obj.cells #[.int .i64 (fd zs k 0), .int .i64 (fd zs k 1), .int .i64 (fd zs k 2)] 28 = oj := ⟨_, rfl⟩
      have hz := hb.size
      have HA := Lib.hid (hb.alloc hz oj)
      have SA := hs.below HA.out
      have SL := hl.below HA.out
      obtain ⟨a0, a1, a2⟩ := (hs.below hb).three hlt
      obtain ⟨_, _, hh, _, lk⟩ := SL.int_at hlt
      injection hh with hh
      injection hh with h1 h2
      subst h1 h2
      rw [tab_get _ hlt] at lk
      have HS := Lib.hid (pickJ_succ zs lf t k)
      have hn1 : (k : Int) < n := by omega
      have hk0 : (0 : Int) ≤ k := by omega
      have PC := pickJ_cases zs lf t k
      have E := Lib.hid SA
      subst hoj
      clear hs hl hb SL SA
      by_cases c1 : fd zs k 0 ≤ t
      case neg =>
        have d1 : decide (fd zs k 0 ≤ t) = false := decide_eq_false c1
        have HN : Hid (pickJ zs lf t (k + 1) = pickJ zs lf t k) := by show _ = _; rw [HS.out, if_neg (fun h => c1 h.1)]
        clear c1 PC
        go_wp2_with fail
        go_quiet (fail)
        go_wp2_with fail
        go_roundw
        case rel => exact ⟨k + 1, by omega, by go_num, by rw [HN.out], below_drewN HA.out _⟩
        case measure => simp [intOf]; omega
      have d1 : decide (fd zs k 0 ≤ t) = true := decide_eq_true c1
      by_cases c2 : 0 < lf k
      case neg =>
        have d2 : decide (0 < lf k) = false := decide_eq_false c2
        have HN : Hid (pickJ zs lf t (k + 1) = pickJ zs lf t k) := by show _ = _; rw [HS.out, if_neg (fun h => c2 h.2.1)]
        clear c1 c2 PC
        go_wp2_with fail
        go_quiet (fail)
        go_wp2_with fail
        go_roundw
        case rel => exact ⟨k + 1, by omega, by go_num, by rw [HN.out], below_drewN HA.out _⟩
        case measure => simp [intOf]; omega
      have d2 : decide (0 < lf k) = true := decide_eq_true c2
      rcases PC with hp | ⟨j, hj, hp, -⟩
      · have HN : Hid (pickJ zs lf t (k + 1) = (k : Int)) := by show _ = _; rw [HS.out, if_pos ⟨c1, c2, .inl (by rw [hp]; omega)⟩]
        rw [hp]
        clear c1 c2 hp
        go_wp2_with fail
        go_quiet (fail)
        go_wp2_with fail
        go_roundw
        case rel => exact ⟨k + 1, by omega, by go_num, by rw [HN.out], below_drewN HA.out _⟩
        case measure => simp [intOf]; omega
      · obtain ⟨j0, j1, j2⟩ := E.out.three (k := j) (by omega)
        have hjn : (j : Int) < n := by omega
        have hj0 : (0 : Int) ≤ j := by omega
        have d3 : decide ((j : Int) < 0) = false := decide_eq_false (by omega)
        have HNt : Hid (fd zs k 2 < fd zs j 2 → pickJ zs lf t (k + 1) = (k : Int)) := fun h => by rw [HS.out, if_pos ⟨c1, c2, .inr (by rw [hp]; exact h)⟩]
        have HNf : Hid (¬ fd zs k 2 < fd zs j 2 → pickJ zs lf t (k + 1) = (j : Int)) := fun h => by
          rw [HS.out, if_neg (fun h' => ?_), hp]
          rcases h'.2.2 with h'' | h''
          · rw [hp] at h''; omega
          · rw [hp] at h''; exact h h''
        rw [hp]
        clear c1 c2 hp
        by_cases c4 : fd zs k 2 < fd zs j 2
        · have d4 : decide (fd zs k 2 < fd zs j 2) = true := decide_eq_true c4
          have HN := Lib.hid (HNt.out c4)
          clear c4
          go_wp2_with fail
          go_quiet (fail)
          go_wp2_with fail
          go_roundw
          case rel => exact ⟨k + 1, by omega, by go_num, by rw [HN.out], below_drewN HA.out _⟩
          case measure => simp [intOf]; omega
        · have d4 : decide (fd zs k 2 < fd zs j 2) = false := decide_eq_false c4
          have HN := Lib.hid (HNf.out c4)
          clear c4
          go_wp2_with fail
          go_quiet (fail)
          go_wp2_with fail
          go_roundw
          case rel => exact ⟨k + 1, by omega, by go_num, by rw [HN.out], below_drewN HA.out _⟩
          case measure => simp [intOf]; omega
    · have hkn : k = n := by omega
      subst hkn
      clear hs hl hb
      go_wp2_with fail
      go_ret
      exact ⟨rfl, HB.out⟩
end Go.Proofs.Ytigekbidbeilnaa
