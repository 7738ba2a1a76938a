/- bucket.Packets, fifo.Run. -/
import Derived.Test.YtpifknmoimlpoaaElems
import Derived.Test.YtpifknmoimlpoaaOpen3
import Derived.Test.YtpifknmoimlpoaaOwnT
set_option linter.unusedVariables false
namespace Go.Proofs.Ytpifknmoimlpoaa
open Go.RowKit
def pArg (zs : List Int) (i : Nat) : Prop := fd zs i 0 < 0 ∨ 200 < fd zs i 0 ∨ fd zs i 1 < 1 ∨ 1000 < fd zs i 1 ∨ fd zs i 2 < 0 ∨ 8 ≤ fd zs i 2
instance (zs : List Int) (i : Nat) : Decidable (pArg zs i) := by unfold pArg; infer_instance
def pbad (zs : List Int) (i : Nat) : Int := if pArg zs i then 1 else if 0 < i ∧ fd zs i 0 < fd zs (i - 1) 0 then 3 else 0
def pfirst (zs : List Int) : Nat → Int
  | 0 => 0
  | k + 1 => if pfirst zs k = 0 then pbad zs k else pfirst zs k
def packErr (zs : List Int) (n : Nat) : Int := if 60 < n then 2 else pfirst zs n
theorem pfirst_succ (zs : List Int) (k : Nat) : pfirst zs (k + 1) = if pfirst zs k = 0 then pbad zs k else pfirst zs k := rfl
theorem pfirst_zero (zs : List Int) (n : Nat) : pfirst zs n = 0 ↔ ∀ i, i < n → pbad zs i = 0 := by
  induction n with
  | zero => exact ⟨fun _ i hi => absurd hi (by omega), fun _ => rfl⟩
  | succ n ih =>
    rw [pfirst_succ]
    constructor
    · intro h i hi
      by_cases h0 : pfirst zs n = 0
      · rw [if_pos h0] at h
        rcases Nat.lt_or_ge i n with h1 | h1
        · exact ih.1 h0 i h1
        · obtain rfl : i = n := by omega
          exact h
      · rw [if_neg h0] at h
        exact absurd h h0
    · intro h
      rw [if_pos (ih.2 fun i hi => h i (by omega))]
      exact h n (by omega)
theorem pfirst_stay {zs : List Int} {k : Nat} (h : pfirst zs k ≠ 0) (j : Nat) (hj : k ≤ j) : pfirst zs j = pfirst zs k := by
  induction j with
  | zero => obtain rfl : k = 0 := by omega
            rfl
  | succ j ih =>
    rcases Nat.lt_or_ge j k with h' | h'
    · obtain rfl : k = j + 1 := by omega
      rfl
    · rw [pfirst_succ, ih h', if_neg h]
theorem pfirst_at {zs : List Int} {k : Nat} (h0 : pfirst zs k = 0) (h : pbad zs k ≠ 0) (j : Nat) (hj : k < j) : pfirst zs j = pbad zs k := by
  have e : pfirst zs (k + 1) = pbad zs k := by rw [pfirst_succ, if_pos h0]
  rw [pfirst_stay (k := k + 1) (by rw [e]; exact h) j hj, e]
theorem pfirst_next {zs : List Int} {k : Nat} (h0 : pfirst zs k = 0) (h : pbad zs k = 0) : pfirst zs (k + 1) = 0 := by rw [pfirst_succ, if_pos h0, h]
/-- Packets as they may be. -/
structure Packs (zs : List Int) (n : Nat) : Prop where
  top : n ≤ 60
  at0 : ∀ i, i < n → 0 ≤ fd zs i 0 ∧ fd zs i 0 ≤ 200
  sz : ∀ i, i < n → 1 ≤ fd zs i 1 ∧ fd zs i 1 ≤ 1000
  fl : ∀ i, i < n → 0 ≤ fd zs i 2 ∧ fd zs i 2 < 8
  up : ∀ i, i + 1 < n → fd zs i 0 ≤ fd zs (i + 1) 0
theorem packs_of {zs : List Int} {n : Nat} (h : packErr zs n = 0) : Packs zs n := by
  unfold packErr at h
  split at h
  · cases h
  · have h' := (pfirst_zero _ _).1 h
    have arg : ∀ i, i < n → ¬ pArg zs i := fun i hi hp => by
      have := h' i hi
      unfold pbad at this
      rw [if_pos hp] at this
      cases this
    refine ⟨by omega, fun i hi => ?_, fun i hi => ?_, fun i hi => ?_, fun i hi => ?_⟩
    · have := arg i hi; unfold pArg at this; omega
    · have := arg i hi; unfold pArg at this; omega
    · have := arg i hi; unfold pArg at this; omega
    · have := h' (i + 1) hi
      unfold pbad at this
      rw [if_neg (arg _ hi)] at this
      split at this
      · cases this
      · rename_i h2; rw [Nat.add_sub_cancel] at h2; omega
/-- The sizes of the packets ahead of k together. -/
def psz (zs : List Int) : Nat → Int
  | 0 => 0
  | k + 1 => psz zs k + fd zs k 1
theorem psz_succ (zs : List Int) (k : Nat) : psz zs (k + 1) = psz zs k + fd zs k 1 := rfl
theorem psz_bd {zs : List Int} {n : Nat} (h : Packs zs n) (k : Nat) (hk : k ≤ n) : 0 ≤ psz zs k ∧ psz zs k ≤ 1000 * k := by
  induction k with
  | zero => exact ⟨Int.le_refl _, by simp [psz]⟩
  | succ k ih =>
    have a := ih (by omega)
    have c := h.sz k (by omega)
    rw [psz_succ]
    omega
theorem psz_up {zs : List Int} {n : Nat} (h : Packs zs n) {j k : Nat} (hjk : j ≤ k) (hk : k ≤ n) : psz zs j ≤ psz zs k := by
  induction k with
  | zero => obtain rfl : j = 0 := by omega
            exact Int.le_refl _
  | succ k ih =>
    rcases Nat.lt_or_ge k j with h' | h'
    · obtain rfl : j = k + 1 := by omega
      exact Int.le_refl _
    · have a := ih h' (by omega)
      have c := h.sz k (by omega)
      rw [psz_succ]
      omega
set_option maxHeartbeats 3200000 in
theorem packets_any (A : Option Addr) (n c : Nat) (zs : List Int) (W : World) (hs : Sl W W.heap.size A (n * 3) (ints zs)) (hnn : n ≤ 9223372036854775807) :
    Calls Try.prog 90 #[.slice A n c] W fun e w' => e = .returned (.int .i64 (packErr zs n)) ∧ Below W.heap.size W w' := by
  by_cases h60 : 60 < n
  · have hf : Hid (packErr zs n = 2) := by unfold packErr; rw [if_pos h60]; rfl
    have g1 : 60 < (n : Int) := by omega
    clear hs
    go_enter Try.func90, Try.ntmps90
    go_wp2_with fail
    go_ret
    exact ⟨ret_int hf.out.symm, Below.refl _ _⟩
  · have hf : Hid (packErr zs n = pfirst zs n) := by unfold packErr; rw [if_neg h60]; rfl
    have g1 : ¬ 60 < (n : Int) := by omega
    have hn : n ≤ 60 := by omega
    go_enter Try.func90, Try.ntmps90
    go_wp2_with fail
    go_loopw [10, 3, 4] (fun i _ _ wr => ∃ k : Nat, k ≤ n ∧ i = .int .i64 k ∧ Hid (pfirst zs k = 0) ∧ Below W.heap.size W wr) (fun i _ _ _ => n - (intOf i).toNat)
    case atStart => exact ⟨0, Nat.zero_le _, rfl, Lib.hid rfl, Below.refl _ _⟩
    case round =>
      obtain ⟨k, hk, rfl, hc0, hb⟩ := hrel
      have HB := Lib.hid hb
      have hz := hb.size
      have hk0 : (0 : Int) ≤ k := by omega
      by_cases hlt : k < n
      · obtain ⟨b, off, rfl, hbl, -⟩ := hs.int_at (k := k * 3) (by omega)
        obtain ⟨c0, c1, c2⟩ := (hs.below hb).three hlt
        have hn1 : (k : Int) < n := by omega
        by_cases hA : pArg zs k
        · have hp : Hid (pbad zs k = 1) := by show _ = _; unfold pbad; rw [if_pos hA]
          have hcase : fd zs k 0 < 0 ∨ (0 ≤ fd zs k 0 ∧ 200 < fd zs k 0) ∨ (0 ≤ fd zs k 0 ∧ fd zs k 0 ≤ 200 ∧ fd zs k 1 < 1) ∨ (0 ≤ fd zs k 0 ∧ fd zs k 0 ≤ 200 ∧ 1 ≤ fd zs k 1 ∧ 1000 < fd zs k 1) ∨ (0 ≤ fd zs k 0 ∧ fd zs k 0 ≤ 200 ∧ 1 ≤ fd zs k 1 ∧ fd zs k 1 ≤ 1000 ∧ fd zs k 2 < 0) ∨ (0 ≤ fd zs k 0 ∧ fd zs k 0 ≤ 200 ∧ 1 ≤ fd zs k 1 ∧ fd zs k 1 ≤ 1000 ∧ 0 ≤ fd zs k 2 ∧ 8 ≤ fd zs k 2) := by
            unfold pArg at hA; omega
          clear hs hb hA
          rcases hcase with h | ⟨h1, h⟩ | ⟨h1, h2, h⟩ | ⟨h1, h2, h3, h⟩ | ⟨h1, h2, h3, h4, h⟩ | ⟨h1, h2, h3, h4, h5, h⟩
          all_goals
            go_wp2_with fail
            go_ret
            exact ⟨ret_int (by rw [hf.out, pfirst_at hc0.out (by rw [hp.out]; decide) n hlt, hp.out]), HB.out.alloc hz _⟩
        · have hA0 : 0 ≤ fd zs k 0 ∧ fd zs k 0 ≤ 200 ∧ 1 ≤ fd zs k 1 ∧ fd zs k 1 ≤ 1000 ∧ 0 ≤ fd zs k 2 ∧ fd zs k 2 < 8 := by unfold pArg at hA; omega
          obtain ⟨a0, a1, a2, a3, a4, a5⟩ := hA0
          rcases Nat.eq_zero_or_pos k with rfl | hkp
          · have hp : Hid (pbad zs 0 = 0) := by show _ = _; unfold pbad; rw [if_neg hA, if_neg (by omega)]
            simp only [Nat.zero_mul, Nat.add_zero] at c0 c1 c2
            clear hs hb hA
            go_wp2_with fail
            go_quiet (fail)
            go_wp2_with fail
            go_roundw
            case rel => exact ⟨1, by omega, by go_num, Lib.hid (pfirst_next hc0.out hp.out), bel_drewN (HB.out.alloc hz _) _⟩
            case measure => simp [intOf]; omega
          · obtain ⟨d0, d1, d2⟩ := (hs.below hb).three (k := k - 1) (by omega)
            have f1 : IntKind.i64.wrap ((k : Int) - 1) = (k : Int) - 1 := IntWalk.i64_in _ ⟨by omega, by omega⟩
            have f2 : ((k : Int) - 1).toNat = k - 1 := by omega
            have f3 : 0 ≤ (k : Int) - 1 := by omega
            have f4 : (k : Int) - 1 < n := by omega
            have f5 : (0 : Int) < k := by omega
            have f6 : (1 : Int) ≤ k := by omega
            have f7 : 1 ≤ k := by omega
            have dd : (wr.alloc (.cells #[.int .i64 (fd zs k 0), .int .i64 (fd zs k 1), .int .i64 (fd zs k 2)] 59)).cell? ⟨b, off + (k - 1) * 3, none⟩ = some (.int .i64 (fd zs (k - 1) 0)) := by
              rw [World.cell?_alloc_lt _ _ _ (show b < wr.heap.size by omega)]; exact d0
            clear d0 d1 d2
            by_cases h3 : fd zs k 0 < fd zs (k - 1) 0
            · have hp : Hid (pbad zs k = 3) := by show _ = _; unfold pbad; rw [if_neg hA, if_pos ⟨hkp, h3⟩]
              clear hs hb hA
              go_wp2_with fail
              go_quiet (fail)
              go_wp2_with fail
              go_ret
              exact ⟨ret_int (by rw [hf.out, pfirst_at hc0.out (by rw [hp.out]; decide) n hlt, hp.out]), bel_drewN (HB.out.alloc hz _) _⟩
            · have hp : Hid (pbad zs k = 0) := by show _ = _; unfold pbad; rw [if_neg hA, if_neg (fun h => h3 h.2)]
              clear hs hb hA
              go_wp2_with fail
              go_quiet (fail)
              go_wp2_with fail
              go_roundw
              case rel => exact ⟨k + 1, by omega, by go_num, Lib.hid (pfirst_next hc0.out hp.out), bel_drewN (HB.out.alloc hz _) _⟩
              case measure => simp [intOf]; omega
      · have hkn : k = n := by omega
        subst hkn
        have hn1 : ¬ (k : Int) < k := by omega
        clear hs hb
        go_wp2_with fail
        go_ret
        exact ⟨ret_int (by rw [hf.out, hc0.out]), HB.out⟩
/-- When the line is free, ahead of packet k. -/
def ffree (zs : List Int) : Nat → Int
  | 0 => 0
  | k + 1 => mx (ffree zs k) (fd zs k 0) + fd zs k 1
theorem ffree_succ (zs : List Int) (k : Nat) : ffree zs (k + 1) = mx (ffree zs k) (fd zs k 0) + fd zs k 1 := rfl
theorem ffree_bd {zs : List Int} {n : Nat} (h : Packs zs n) (k : Nat) (hk : k ≤ n) : 0 ≤ ffree zs k ∧ ffree zs k ≤ 200 + 1000 * k := by
  induction k with
  | zero => exact ⟨Int.le_refl _, by simp [ffree]⟩
  | succ k ih =>
    have a := ih (by omega)
    have b := h.at0 k (by omega)
    have c := h.sz k (by omega)
    have m := mx_le (ffree zs k) (fd zs k 0)
    rw [ffree_succ]
    omega
def fdone (zs : List Int) (n : Nat) : List Int := tab n fun k => ffree zs (k + 1)
set_option maxHeartbeats 3200000 in
theorem fifo_any (A : Option Addr) (n c : Nat) (zs : List Int) (W : World) (hs : Sl W W.heap.size A (n * 3) (ints zs)) (hnn : n ≤ 9223372036854775807) (os : List Int) (er : Int) (m : Nat) (h : (if packErr zs n = 0 then (fdone zs n, (0 : Int)) else ([], packErr zs n)) = (os, er)) (hm : os.length = m) :
    Calls Try.prog 28 #[.slice A n c] W (RetSl W m os er) := by
  by_cases h0 : packErr zs n = 0
  · rw [if_pos h0] at h
    injection h with e1 e2
    subst e1 e2
    have hm' : n = m := by rw [← hm, fdone, tab_len]
    subst hm'
    have P := Lib.hid (packs_of h0)
    have H0 := Lib.hid h0
    have ht := P.out.top
    clear hm h0
    go_enter Try.func28, Try.ntmps28
    go_wp2_with fail
    refine (packets_any A n c zs _ hs hnn).mono ?_
    rintro e w1 ⟨rfl, b1⟩
    rw [H0.out]
    have B1 := Lib.hid b1
    have S1 := Lib.hid hs
    clear hs b1
    go_wp2_with fail
    go_loopw [16, 5, 6, 8] (fun i o f _ wr => ∃ k : Nat, k ≤ n ∧ i = .int .i64 k ∧ f = .int .i64 (ffree zs k) ∧ wr.ownsRow W.heap.size 3 1 o k (ints (tab k fun j => ffree zs (j + 1))) ∧ Below W.heap.size W wr ∧ W.heap.size ≤ wr.heap.size) (fun i _ _ _ _ => n - (intOf i).toNat)
    case atStart => exact ⟨0, Nat.zero_le _, rfl, rfl, World.ownsRow_nil _ _ _ _, B1.out, B1.out.size⟩
    case round =>
      obtain ⟨k, hk, rfl, rfl, hown, hb, hz⟩ := hrel
      have HB := Lib.hid hb
      have fb := ffree_bd P.out k hk
      have hk0 : (0 : Int) ≤ k := by omega
      by_cases hlt : k < n
      · obtain ⟨b, off, hA, hbl, -⟩ := S1.out.int_at (k := k * 3) (by omega)
        subst hA
        obtain ⟨c0, c1, c2⟩ := (S1.out.below hb).three hlt
        have a0 := P.out.at0 k hlt
        have a1 := P.out.sz k hlt
        have hn1 : (k : Int) < n := by omega
        have hsu := ffree_succ zs k
        obtain ⟨cur, hcur⟩ : ∃ z, ffree zs k = z := ⟨_, rfl⟩
        rw [hcur] at fb hsu ⊢
        obtain ⟨x, hx⟩ : ∃ z, (if cur < fd zs k 0 then fd zs k 0 else cur) = z := ⟨_, rfl⟩
        have x0 : 0 ≤ x := by rw [← hx]; split <;> omega
        have x1 : x ≤ 61000 := by rw [← hx]; split <;> omega
        have HS : Hid (ffree zs (k + 1) = x + fd zs k 1) := by show _ = _; rw [hsu]; unfold mx; rw [hx]
        have HO := Lib.hid (hown.alloc (.cells #[.int .i64 (fd zs k 0), .int .i64 (fd zs k 1), .int .i64 (fd zs k 2)] 59))
        have HB2 := Lib.hid (hb.alloc hz (.cells #[.int .i64 (fd zs k 0), .int .i64 (fd zs k 1), .int .i64 (fd zs k 2)] 59))
        clear hown hb hcur hsu
        go_wp2_with (at_builtin; refine wpList_push_ rfl (.tmp 27) (.tmp 29) _ rfl elemInt _ (by simp) W.heap.size _ k _ _ rfl rfl HO.out HB2.out (by simp; omega) rfl (by omega) ?_; intro v1 w2 hown1 hb1 hz1)
        go_roundw
        case rel =>
          refine ⟨k + 1, by omega, by go_num, by rw [HS.out], ?_, hb1, hz1⟩
          have e := tab_push k fun j => ffree zs (j + 1)
          simp only [HS.out] at e
          rw [← e]
          exact hown1
        case measure => simp [intOf]; omega
      · have hkn : k = n := by omega
        subst hkn
        have hn1 : ¬ (k : Int) < k := by omega
        obtain ⟨A1, c1, rfl, hc1⟩ := own_form hown
        have HO := Lib.hid hown
        clear hown hb
        go_wp2_with fail
        go_ret2
        exact ⟨A1, c1, rfl, Sl.of_own HO.out, hc1, HB.out, HO.out⟩
  · rw [if_neg h0] at h
    injection h with e1 e2
    subst e1 e2
    subst hm
    have hne : (packErr zs n != 0) = true := by simpa using h0
    clear h0
    go_enter Try.func28, Try.ntmps28
    go_wp2_with fail
    refine (packets_any A n c zs _ hs hnn).mono ?_
    rintro e w1 ⟨rfl, b1⟩
    clear hs
    go_wp2_with fail
    go_ret2
    exact ⟨none, 0, rfl, Sl.nil, Nat.le_refl _, b1, World.ownsRow_nil _ _ _ _⟩
end Go.Proofs.Ytpifknmoimlpoaa
