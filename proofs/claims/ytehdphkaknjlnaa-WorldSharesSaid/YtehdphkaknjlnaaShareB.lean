/- share.Check and share.Done. -/
import Derived.Test.YtehdphkaknjlnaaElems
import Derived.Test.YtehdphkaknjlnaaShareA
set_option linter.unusedVariables false
namespace Go.Proofs.Ytehdphkaknjlnaa
open Go.RowKit
/-- The error of share.Check. -/
def shareErr (l : List Int) (r : Int) : Int := if 8 < l.length then 2 else 1
theorem check_ok (A : Option Addr) (n c : Nat) (l : List Int) (r : Int) (W : World) (B : Nat) (h : shareOk l r) (hs : Sl W B A n (ints l)) :
    Calls Try.prog 45 #[.slice A n c, .int .i64 r] W fun e w' => e = .returned (.int .i64 0) ∧ W = w' := by
  have hlen := hs.int_len
  obtain ⟨⟨h1, h2⟩, h3, h4⟩ := h
  have g1 : ¬ (8 < (n : Int)) := by omega
  have H2 := Lib.hid h2
  have HL := Lib.hid hlen
  have hn : n ≤ 8 := by omega
  clear h2 hlen
  go_enter Try.func45, Try.ntmps45
  go_wp2
  go_loop [12, 6] (fun i _ => ∃ k : Nat, k ≤ n ∧ i = .int .i64 k) (fun i _ => n - (intOf i).toNat)
  case atStart => exact ⟨0, Nat.zero_le _, rfl⟩
  case round =>
    obtain ⟨k, hk, rfl⟩ := hrel
    by_cases hlt : k < n
    · obtain ⟨b, off, rfl, hbl, hc⟩ := hs.int_at hlt
      have hb := H2.out _ (gi_mem (zs := l) (k := k) (by rw [HL.out]; exact hlt))
      have hn1 : (k : Int) < n := by omega
      have hk0 : (0 : Int) ≤ k := by omega
      clear hs
      go_wp2
      go_round
      case rel => exact ⟨k + 1, by omega, by go_num⟩
      case measure => simp [intOf]; omega
    · have g2 : ¬ (r < 1) := by omega
      have g3 : ¬ (10000 < r) := by omega
      clear hs
      go_wp2
      go_ret
      exact ⟨rfl, rfl⟩
theorem sfirst_bad (l : List Int) (p : Int → Prop) : (∀ z ∈ l, p z) ∨ ∃ k, k < l.length ∧ ¬ p (gi l k) ∧ ∀ i, i < k → p (gi l i) := by
  induction l with
  | nil => left; intro z hz; cases hz
  | cons x t ih =>
    by_cases hx : p x
    · rcases ih with h | ⟨k, h1, h2, h3⟩
      · left
        intro z hz
        rcases List.mem_cons.1 hz with rfl | hz
        · exact hx
        · exact h z hz
      · right
        refine ⟨k + 1, by simpa using h1, by simpa [gi] using h2, fun i hi => ?_⟩
        rcases i with _ | i
        · simpa [gi] using hx
        · have := h3 i (by omega)
          simpa [gi] using this
    · right
      exact ⟨0, by simp, by simpa [gi] using hx, fun i hi => absurd hi (by omega)⟩
theorem check_bad (A : Option Addr) (n c : Nat) (l : List Int) (r : Int) (W : World) (B : Nat) (h : ¬ shareOk l r) (hs : Sl W B A n (ints l)) (hnn : n ≤ 9223372036854775807) :
    Calls Try.prog 45 #[.slice A n c, .int .i64 r] W fun e w' => e = .returned (.int .i64 (shareErr l r)) ∧ W = w' := by
  have hlen := hs.int_len
  by_cases h8 : 8 < n
  · have hf : Hid (shareErr l r = 2) := by unfold shareErr; rw [if_pos (by omega)]; rfl
    have g1 : 8 < (n : Int) := by omega
    clear hlen h hs
    go_enter Try.func45, Try.ntmps45
    go_wp2
    go_ret
    exact ⟨ret_int hf.out.symm, rfl⟩
  · have hf : Hid (shareErr l r = 1) := by unfold shareErr; rw [if_neg (by omega)]; rfl
    have g1 : ¬ 8 < (n : Int) := by omega
    rcases sfirst_bad l (fun z => 0 ≤ z ∧ z ≤ 1000) with hall | ⟨k, k1, k2, k3⟩
    · have hr : r < 1 ∨ (¬ r < 1 ∧ 10000 < r) := by
        rcases Classical.em (1 ≤ r ∧ r ≤ 10000) with h' | h'
        · exact absurd ⟨⟨by omega, hall⟩, h'⟩ h
        · omega
      have H2 := Lib.hid hall
      have HL := Lib.hid hlen
      have hn : n ≤ 8 := by omega
      clear h hall hlen
      go_enter Try.func45, Try.ntmps45
      go_wp2
      go_loop [12, 6] (fun i _ => ∃ k : Nat, k ≤ n ∧ i = .int .i64 k) (fun i _ => n - (intOf i).toNat)
      case atStart => exact ⟨0, Nat.zero_le _, rfl⟩
      case round =>
        obtain ⟨k, hk, rfl⟩ := hrel
        by_cases hlt : k < n
        · obtain ⟨b, off, rfl, hbl, hc⟩ := hs.int_at hlt
          have hb := H2.out _ (gi_mem (zs := l) (k := k) (by rw [HL.out]; exact hlt))
          have hn1 : (k : Int) < n := by omega
          have hk0 : (0 : Int) ≤ k := by omega
          clear hs hr
          go_wp2
          go_round
          case rel => exact ⟨k + 1, by omega, by go_num⟩
          case measure => simp [intOf]; omega
        · clear hs
          rcases hr with hr | ⟨hr, hr2⟩
          all_goals
            go_wp2
            go_ret
            exact ⟨ret_int hf.out.symm, rfl⟩
    · have H3 := Lib.hid k3
      have hkn : k < n := by omega
      have hn : n ≤ 8 := by omega
      clear h k3 hlen
      go_enter Try.func45, Try.ntmps45
      go_wp2
      go_loop [12, 6] (fun i _ => ∃ j : Nat, j ≤ k ∧ i = .int .i64 j) (fun i _ => k - (intOf i).toNat)
      case atStart => exact ⟨0, Nat.zero_le _, rfl⟩
      case round =>
        obtain ⟨j, hj, rfl⟩ := hrel
        obtain ⟨b, off, rfl, hbl, hc⟩ := hs.int_at (k := j) (by omega)
        have hn1 : (j : Int) < n := by omega
        have hk0 : (0 : Int) ≤ j := by omega
        by_cases hlt : j < k
        · have hb := H3.out j hlt
          clear hs k2
          go_wp2
          go_round
          case rel => exact ⟨j + 1, by omega, by go_num⟩
          case measure => simp [intOf]; omega
        · have hjk : j = k := by omega
          subst hjk
          have hb : gi l j < 0 ∨ (¬ gi l j < 0 ∧ 1000 < gi l j) := by omega
          clear hs k2
          rcases hb with hb | ⟨hb, hb2⟩
          all_goals
            go_wp2
            go_ret
            exact ⟨ret_int hf.out.symm, rfl⟩
theorem shareDone_bad (A : Option Addr) (n c : Nat) (l : List Int) (r : Int) (W : World) (B : Nat) (h : ¬ shareOk l r) (hs : Sl W B A n (ints l)) (hnn : n ≤ 9223372036854775807) :
    Calls Try.prog 25 #[.slice A n c, .int .i64 r] W fun e w' => e = .returned (.tuple #[.slice none 0 0, .int .i64 (shareErr l r)]) ∧ W = w' := by
  have hne : (shareErr l r != 0) = true := by unfold shareErr; split <;> rfl
  go_enter Try.func25, Try.ntmps25
  go_wp2_with (go_at_call 45; refine (check_bad _ _ _ l r _ _ h hs hnn).mono ?_; rintro e w' ⟨rfl, rfl⟩)
  go_ret2
  exact ⟨rfl, rfl⟩
set_option maxHeartbeats 1600000 in
theorem shareDone_own (A : Option Addr) (n c : Nat) (l : List Int) (r : Int) (W : World) (h : shareOk l r) (hs : Sl W W.heap.size A n (ints l)) :
    Calls Try.prog 25 #[.slice A n c, .int .i64 r] W fun e w' => ∃ A' c', e = .returned (.tuple #[.slice A' n c', .int .i64 0]) ∧
      w'.ownsRow W.heap.size 3 1 (.slice A' n c') n (ints (slist l r n)) ∧ Below W.heap.size W w' ∧ n ≤ c' := by
  have hlen := hs.int_len
  have H := Lib.hid h
  have HL := Lib.hid hlen
  have hn : n ≤ 8 := by have := h.1.1; omega
  have hr1 := h.2.1
  have hr2 := h.2.2
  clear h hlen
  go_enter Try.func25, Try.ntmps25
  go_wp2_with (go_at_call 45; refine (check_ok _ _ _ l r _ _ H.out hs).mono ?_; rintro e w' ⟨rfl, rfl⟩)
  go_loopw [21, 7, 8, 9, 10, 11, 12] (fun i v _ _ _ _ _ wr => ∃ k : Nat, k ≤ n ∧ i = .int .i64 k ∧ wr.ownsRow W.heap.size 3 1 v k (ints (slist l r k)) ∧ Below W.heap.size W wr ∧ W.heap.size ≤ wr.heap.size)
    (fun i _ _ _ _ _ _ _ => n - (intOf i).toNat)
  case atStart => exact ⟨0, Nat.zero_le _, rfl, World.ownsRow_nil _ _ _ _, Below.refl _ _, Nat.le_refl _⟩
  case round =>
    obtain ⟨i, hi, rfl, hown, hb, hz⟩ := hrel
    have ho := Lib.hid hown
    have hbh := Lib.hid hb
    by_cases hlt : i < n
    · have hs' := hs.below hb
      obtain ⟨b, off, rfl, hbl, hc⟩ := hs'.int_at hlt
      have hli := lag_bd H.out.1 (i := i) (by rw [HL.out]; exact hlt)
      have hn1 : (i : Int) < n := by omega
      have hk0 : (0 : Int) ≤ i := by omega
      clear hown hb hs
      go_wp2
      go_loop [29, 10, 11, 12] (fun j s _ _ => ∃ k : Nat, k ≤ n ∧ j = .int .i64 k ∧ s = .int .i64 (dpart l i k)) (fun j _ _ _ => n - (intOf j).toNat)
      case atStart => exact ⟨0, Nat.zero_le _, rfl, rfl⟩
      case round =>
        obtain ⟨k, hk, rfl, rfl⟩ := hrel
        by_cases hlt2 : k < n
        · have hc2 := hs'.int_cell hlt2
          have hlk := lag_bd H.out.1 (i := k) (by rw [HL.out]; exact hlt2)
          have hcb := contr_bd H.out.1 (i := i) (k := k) (by rw [HL.out]; exact hlt) (by rw [HL.out]; exact hlt2)
          have hdb := dpart_bd H.out.1 (i := i) (k := k) (by rw [HL.out]; exact hlt) (by rw [HL.out]; omega)
          have hp : (k : Int) * gi l i ≤ 8 * 1000 := Int.mul_le_mul (by omega) hli.2 hli.1 (by omega)
          have hd1 := hdb.1
          have hd2 : dpart l i k ≤ 9000 := by omega
          have hm1 : (k : Int) < n := by omega
          have hm0 : (0 : Int) ≤ k := by omega
          have hS := Lib.hid (dpart_succ l i k)
          clear hs' hdb hp hc
          rcases Nat.lt_trichotomy k i with h1 | h1 | h1
          · have hC : (if gi l i < gi l k then gi l i else gi l k) = contr l i k := by unfold contr; rw [if_pos h1]; rfl
            have t1 : (k : Int) < i := by omega
            go_wp2
            go_round
            case rel => exact ⟨k + 1, by omega, by go_num, by rw [hS.out]⟩
            case measure => simp [intOf]; omega
          · have hC : Hid (contr l i k = 0) := by unfold contr; rw [if_neg (show ¬ k < i by omega), if_neg (show ¬ i < k by omega)]; rfl
            subst h1
            go_wp2
            go_round
            case rel => exact ⟨k + 1, by omega, by go_num, by rw [hS.out, hC.out, Int.add_zero]⟩
            case measure => simp [intOf]; omega
          · have hC : (if (if 0 < gi l i - 1 then gi l i - 1 else 0) < gi l k then (if 0 < gi l i - 1 then gi l i - 1 else 0) else gi l k) = contr l i k := by
              unfold contr
              rw [if_neg (show ¬ k < i by omega), if_pos h1]
              rfl
            have t1 : ¬ (k : Int) < i := by omega
            have t2 : (i : Int) < k := by omega
            by_cases hpos : 0 < gi l i - 1
            · rw [if_pos hpos] at hC
              go_wp2
              go_round
              case rel => exact ⟨k + 1, by omega, by go_num, by rw [hS.out]⟩
              case measure => simp [intOf]; omega
            · rw [if_neg hpos] at hC
              go_wp2
              go_round
              case rel => exact ⟨k + 1, by omega, by go_num, by rw [hS.out]⟩
              case measure => simp [intOf]; omega
        · have hkn : k = n := by omega
          subst hkn
          have hD := dsum_bd H.out.1 (i := i) (by rw [HL.out]; exact hlt)
          have hDe : dpart l i k = dsum l i := by unfold dsum; rw [HL.out]
          have hcl := ceil_le (d := dsum l i) hr1 (by omega)
          have hcl0 := ceil_nonneg (d := dsum l i) hr1 (by omega)
          have e1 : wrap64 ((dsum l i + r - 1) / r) = ceil (dsum l i) r := by
            rw [show (dsum l i + r - 1) / r = ceil (dsum l i) r from rfl]
            exact IntWalk.wrap64_in _ ⟨by omega, by omega⟩
          have hd0 : 0 ≤ dsum l i := by omega
          have hd1 : dsum l i ≤ 9000 := by omega
          have hr0 : (r == 0) = false := by simp; omega
          clear hs' hD hc
          go_wp2_with (at_builtin; refine wpList_push rfl (.tmp 55) (.tmp 62) _ rfl elemInt W.heap.size _ i _ _ rfl rfl ho.out hbh.out hz rfl (by omega) ?_; intro v1 w1 hown1 hb1 hz1)
          go_roundw
          case rel => exact ⟨i + 1, by omega, by go_num, by rw [← slist_push l r i _ rfl]; exact hown1, hb1, hz1⟩
          case measure => simp [intOf]; omega
    · have hkn : i = n := by omega
      subst hkn
      clear hown hb hs
      go_wp2
      go_ret2
      obtain ⟨A', c', rfl, hc⟩ := own_form ho.out
      exact ⟨_, _, rfl, ho.out, hbh.out, hc⟩
theorem shareDone_ok (A : Option Addr) (n c : Nat) (l : List Int) (r : Int) (W : World) (h : shareOk l r) (hs : Sl W W.heap.size A n (ints l)) :
    Calls Try.prog 25 #[.slice A n c, .int .i64 r] W fun e w' => ∃ A' c', e = .returned (.tuple #[.slice A' n c', .int .i64 0]) ∧
      Sl w' w'.heap.size A' n (ints (slist l r n)) ∧ Below W.heap.size W w' ∧ n ≤ c' :=
  (shareDone_own A n c l r W h hs).mono fun e w' ⟨A', c', h1, h2, h3, h4⟩ => ⟨A', c', h1, Sl.of_own h2, h3, h4⟩
end Go.Proofs.Ytehdphkaknjlnaa
