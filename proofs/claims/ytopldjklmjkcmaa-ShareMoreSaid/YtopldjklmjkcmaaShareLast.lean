/- ShareLast: the last one is done when all bytes went; who lags by less is done no later; nobody is done ahead of his own bytes. -/
import Derived.Test.YtopldjklmjkcmaaShareEach
set_option linter.unusedVariables false
namespace Go.Proofs.Ytopldjklmjkcmaa
open Go.RowKit
/-- What participant j is sent ahead of participant i's last byte, i's own bytes among it. -/
def ee (l : List Int) (i j : Nat) : Int := if j = i then gi l i else contr l i j
def epart (l : List Int) (i : Nat) : Nat → Int
  | 0 => 0
  | k + 1 => epart l i k + ee l i k
theorem dpart_epart (l : List Int) (i k : Nat) : dpart l i k = epart l i k + if i < k then 0 else gi l i := by
  induction k with
  | zero => simp [dpart, epart]
  | succ k ih =>
    rw [dpart_succ, ih]
    show _ = epart l i k + ee l i k + _
    unfold ee
    rcases Nat.lt_trichotomy k i with h | h | h
    · rw [if_neg (by omega), if_neg (by omega), if_neg (by omega)]; (try omega)
    · subst h
      have e : contr l k k = 0 := by unfold contr; rw [if_neg (by omega), if_neg (by omega)]
      rw [if_neg (by omega), if_pos rfl, if_pos (by omega), e]; (try omega)
    · rw [if_pos h, if_neg (by omega), if_pos (by omega)]; (try omega)
theorem epart_mono (l l' : List Int) (i i' : Nat) (k : Nat) (h : ∀ j, j < k → ee l i j ≤ ee l' i' j) : epart l i k ≤ epart l' i' k := by
  induction k with
  | zero => exact Int.le_refl _
  | succ k ih =>
    have a := ih fun j hj => h j (by omega)
    have b := h k (by omega)
    show epart l i k + ee l i k ≤ epart l' i' k + ee l' i' k
    omega
theorem dsum_epart (l : List Int) {i : Nat} (hi : i < l.length) : dsum l i = epart l i l.length := by
  unfold dsum
  rw [dpart_epart, if_pos hi, Int.add_zero]
/-- Who lags by less is done no later. -/
theorem dsum_less {l : List Int} (h : lagsOk l) {i k : Nat} (hi : i < l.length) (hk : k < l.length) (hlt : gi l k < gi l i) : dsum l k ≤ dsum l i := by
  rw [dsum_epart l hi, dsum_epart l hk]
  refine epart_mono _ _ _ _ _ fun j hj => ?_
  have bi := lag_bd h hi
  have bk := lag_bd h hk
  have bj := lag_bd h hj
  unfold ee contr
  have a1 := mn_le (gi l j) (gi l k)
  have a2 := mn_le (gi l j) (mx 0 (gi l k - 1))
  have a3 := mx_le 0 (gi l k - 1)
  have a4 := mx_le 0 (gi l i - 1)
  have a5 := mn_le (gi l j) (gi l i)
  have a6 := mn_le (gi l j) (mx 0 (gi l i - 1))
  by_cases e1 : j = k
  · subst e1
    have hji : j ≠ i := by
      rintro rfl
      omega
    rw [if_pos rfl, if_neg hji]
    split
    · omega
    · rw [if_pos (by omega)]; omega
  · rw [if_neg e1]
    by_cases e2 : j = i
    · subst e2
      rw [if_pos rfl]
      split
      · omega
      · split <;> omega
    · rw [if_neg e2]
      split <;> split <;> (try split) <;> (try split) <;> omega
def psum (l : List Int) : Nat → Int
  | 0 => 0
  | k + 1 => psum l k + gi l k
theorem psum_succ (l : List Int) (k : Nat) : psum l (k + 1) = psum l k + gi l k := rfl
theorem psum_bd {l : List Int} (h : lagsOk l) (k : Nat) (hk : k ≤ l.length) : 0 ≤ psum l k ∧ psum l k ≤ 1000 * k := by
  induction k with
  | zero => simp [psum]
  | succ k ih =>
    have a := ih (by omega)
    have b := lag_bd h (show k < l.length by omega)
    rw [psum_succ]
    omega
theorem dsum_all {l : List Int} (h : lagsOk l) {i : Nat} (hi : i < l.length) : dsum l i ≤ psum l l.length := by
  rw [dsum_epart l hi]
  have key : ∀ k, k ≤ l.length → epart l i k ≤ psum l k := by
    intro k hk
    induction k with
    | zero => exact Int.le_refl _
    | succ k ih =>
      have a := ih (by omega)
      have b := contr_bd h hi (show k < l.length by omega)
      show epart l i k + ee l i k ≤ psum l k + gi l k
      unfold ee
      split
      · rename_i e; subst e; omega
      · omega
  exact key _ (Nat.le_refl _)
theorem last_most (l : List Int) (n : Nat) (h : 0 < n) : ∃ i, i < n ∧ (∀ k, k < i → gi l k ≤ gi l i) ∧ ∀ k, i < k → k < n → gi l k < gi l i := by
  induction n with
  | zero => omega
  | succ n ih =>
    rcases Nat.eq_zero_or_pos n with rfl | hn
    · exact ⟨0, by omega, fun k hk => by omega, fun k h1 h2 => by omega⟩
    · obtain ⟨i, h1, h2, h3⟩ := ih hn
      by_cases hc : gi l n < gi l i
      · refine ⟨i, by omega, h2, fun k hk1 hk2 => ?_⟩
        rcases Nat.lt_or_ge k n with hk | hk
        · exact h3 k hk1 hk
        · obtain rfl : k = n := by omega
          exact hc
      · refine ⟨n, by omega, fun k hk => ?_, fun k hk1 hk2 => by omega⟩
        rcases Nat.lt_trichotomy k i with hk2 | hk2 | hk2
        · have := h2 k hk2; omega
        · subst hk2; omega
        · have := h3 k hk2 hk; omega
theorem dsum_most {l : List Int} (h : lagsOk l) (hn : 0 < l.length) : ∃ i, i < l.length ∧ dsum l i = psum l l.length := by
  obtain ⟨i, h1, h2, h3⟩ := last_most l l.length hn
  refine ⟨i, h1, ?_⟩
  rw [dsum_epart l h1]
  have key : ∀ k, k ≤ l.length → epart l i k = psum l k := by
    intro k hk
    induction k with
    | zero => rfl
    | succ k ih =>
      have a := ih (by omega)
      have bk := lag_bd h (show k < l.length by omega)
      have bi := lag_bd h h1
      show epart l i k + ee l i k = psum l k + gi l k
      rw [a]
      unfold ee contr
      have a5 := mn_le (gi l k) (gi l i)
      rcases Nat.lt_trichotomy k i with hk2 | hk2 | hk2
      · have := h2 k hk2
        rw [if_neg (by omega), if_pos hk2]
        unfold mn
        split <;> omega
      · subst hk2
        rw [if_pos rfl]
      · have := h3 k hk2 (by omega)
        rw [if_neg (by omega), if_neg (by omega), if_pos hk2]
        unfold mn mx
        split <;> split at * <;> omega
  exact key _ (Nat.le_refl _)
def plast (l : List Int) (r : Int) : Nat → Int
  | 0 => 0
  | k + 1 => if plast l r k < ceil (dsum l k) r then ceil (dsum l k) r else plast l r k
theorem plast_succ (l : List Int) (r : Int) (k : Nat) : plast l r (k + 1) = if plast l r k < ceil (dsum l k) r then ceil (dsum l k) r else plast l r k := rfl
theorem plast_ge (l : List Int) (r : Int) (n i : Nat) (h : i < n) : ceil (dsum l i) r ≤ plast l r n := by
  induction n with
  | zero => omega
  | succ n ih =>
    rw [plast_succ]
    rcases Nat.lt_or_ge i n with hi | hi
    · have := ih hi
      split <;> omega
    · obtain rfl : i = n := by omega
      split <;> omega
theorem plast_le (l : List Int) (r : Int) (n : Nat) (m : Int) (h0 : 0 ≤ m) (h : ∀ i, i < n → ceil (dsum l i) r ≤ m) : 0 ≤ plast l r n ∧ plast l r n ≤ m := by
  induction n with
  | zero => exact ⟨Int.le_refl _, h0⟩
  | succ n ih =>
    have a := ih fun i hi => h i (by omega)
    have b := h n (by omega)
    rw [plast_succ]
    split <;> omega
theorem plast_eq {l : List Int} {r : Int} (h : shareOk l r) : plast l r l.length = ceil (psum l l.length) r := by
  have hp := psum_bd h.1 l.length (Nat.le_refl _)
  have hr := h.2.1
  have c0 := ceil_nonneg (d := psum l l.length) hr hp.1
  have a := plast_le l r l.length _ c0 fun i hi => ceil_mono hr (dsum_all h.1 hi)
  rcases Nat.eq_zero_or_pos l.length with h0 | h0
  · rw [h0]
    show (0 : Int) = ceil 0 r
    have := ceil_le (d := 0) hr (by omega)
    have := ceil_nonneg (d := 0) hr (by omega)
    omega
  · obtain ⟨i, h1, h2⟩ := dsum_most h.1 h0
    have b := plast_ge l r l.length i h1
    rw [h2] at b
    omega
set_option maxRecDepth 100000 in
set_option maxHeartbeats 1600000 in
theorem shareLast_walk (A : Option Addr) (n c : Nat) (l : List Int) (r : Int) (W : World) (w0 : InInts W A n c l) (_ : -9223372036854775808 ≤ r ∧ r ≤ 9223372036854775807) :
    Calls Try.prog 11 #[.slice A n c, .int .i64 r] W fun e w' => e = .returned (.bool true) ∧ Below W.heap.size W w' := by
  obtain ⟨s1, l1, r1, _⟩ := w0
  go_enter Try.func11, Try.ntmps11
  go_wp2_with fail
  refine (shareDone_ex [3, 1] 2 [2, 1] 2 rfl ⟨⟨by decide, by decide⟩, by decide, by decide⟩ (by decide) _ _ _ (by exact Sl.built_ _ (ints [3, 1]) _ _ rfl rfl)).mono ?_
  rintro e w1 ⟨A1, c1, rfl, hs1, hb1'⟩
  have hb1 : Below W.heap.size W w1 := (below_alloc (Below.refl _ W) (.cells (ints [3, 1]).toArray 3)).trans (hb1'.mono (by simp))
  clear hb1'
  go_wp2_with fail
  refine (equal_any _ _ _ _ _ _ _ [2, 1] _ _ _ (hs1.alloc (Nat.le_refl _) _) (Sl.built w1 (ints [2, 1]) _ rfl) (by decide)).mono ?_
  rintro e w2 ⟨rfl, q, rfl⟩
  have hb2 := bel_drewN (below_alloc hb1 (.cells (ints [2, 1]).toArray 3)) q
  have s2 := s1.on hb2
  have hlen := s2.int_len
  clear hs1 hb1 s1
  go_wp2_with fail
  by_cases h : shareOk l r
  · refine (shareDone_ok A n c l r _ h s2).mono ?_
    rintro e w3 ⟨A3, c3, rfl, hx, hb3', hcap⟩
    have hb3 : Below W.heap.size W w3 := hb2.trans (hb3'.mono hb2.size)
    have s3 := s2.on hb3'
    have H := Lib.hid h
    have HL := Lib.hid hlen
    have hn : n ≤ 8 := by have := h.1.1; omega
    have hr1 := h.2.1
    have hr2 := h.2.2
    clear hb2 hb3' s2 h hlen
    have hnn : ((n : Int) != n) = false := by simp
    go_wp2_with fail
    go_loopw [55, 9, 10, 11, 12, 13, 14] (fun i s m _ _ _ _ wr => ∃ k : Nat, k ≤ n ∧ i = .int .i64 k ∧ s = .int .i64 (psum l k) ∧ m = .int .i64 (plast l r k) ∧ ∃ q, wr = w3.drewN q) (fun i _ _ _ _ _ _ _ => n - (intOf i).toNat)
    case atStart => exact ⟨0, Nat.zero_le _, rfl, rfl, rfl, 0, rfl⟩
    case round =>
      obtain ⟨i, hi, rfl, rfl, rfl, q, rfl⟩ := hrel
      by_cases hlt : i < n
      · obtain ⟨b, off, rfl, hbl, hc⟩ := s3.int_at hlt
        obtain ⟨b2, off2, rfl, hbl2, hc2⟩ := hx.int_at hlt
        rw [slist_get _ _ hlt] at hc2
        have hil : i < l.length := by rw [HL.out]; exact hlt
        have hn1 : (i : Int) < n := by omega
        have hk0 : (0 : Int) ≤ i := by omega
        have hli := lag_bd H.out.1 hil
        have hps := psum_bd H.out.1 i (by omega)
        have hD := dsum_bd H.out.1 hil
        have hlo := ceil_lo (d := dsum l i) hr1
        have hhi := ceil_hi (d := dsum l i) hr1
        have hcl := ceil_le (d := dsum l i) hr1 (by omega)
        have hc0 := ceil_nonneg (d := dsum l i) hr1 (by omega)
        have p1 : ceil (dsum l i) r * r ≤ 9000 * 10000 := Int.mul_le_mul (by omega) hr2 (by omega) (by omega)
        have p2 : 0 ≤ ceil (dsum l i) r * r := Int.mul_nonneg hc0 (by omega)
        have e1 : wrap64 (ceil (dsum l i) r * r) = ceil (dsum l i) r * r := IntWalk.wrap64_in _ ⟨by omega, by omega⟩
        have t1 : decide (ceil (dsum l i) r * r < gi l i) = false := by simp; omega
        have hz0 : gi l i = 0 → ceil (dsum l i) r = 0 := by
          intro h0
          have hE := dsum_each H.out.1 hil
          rw [h0, Int.mul_zero] at hE
          have : dsum l i = 0 := by omega
          rw [this] at hcl hc0 ⊢
          omega
        have hz1 : ceil (dsum l i) r = 0 → gi l i = 0 := by
          intro h0
          rw [h0, Int.zero_mul] at hlo
          omega
        have hS1 := Lib.hid (psum_succ l i)
        have hS2 := (plast_succ l r i).symm
        have hbq : (ceil (dsum l i) r == 0) = (gi l i == 0) := by
          rw [Bool.eq_iff_iff]
          simp only [beq_iff_eq]
          exact ⟨hz1, hz0⟩
        obtain ⟨z, hq1, hq2⟩ : ∃ z, (ceil (dsum l i) r == 0) = z ∧ (gi l i == 0) = z := ⟨gi l i == 0, hbq, rfl⟩
        have hzz : (z != z) = false := by simp
        clear hbq
        clear hD hlo hhi hcl p1 p2 hz0 hz1
        go_wp2_with fail
        go_loopw [89, 13, 14] (fun j _ _ wr => ∃ k : Nat, k ≤ n ∧ j = .int .i64 k ∧ ∃ q, wr = w3.drewN q) (fun j _ _ _ => n - (intOf j).toNat)
        case atStart => exact ⟨0, Nat.zero_le _, rfl, q, rfl⟩
        case round =>
          obtain ⟨k, hk, rfl, q', rfl⟩ := hrel
          by_cases hlt2 : k < n
          · have hc3 := s3.int_cell hlt2
            have hc4 := hx.int_cell hlt2
            rw [slist_get _ _ hlt2] at hc4
            have hkl : k < l.length := by rw [HL.out]; exact hlt2
            have hm1 : (k : Int) < n := by omega
            have hm0 : (0 : Int) ≤ k := by omega
            by_cases hless : gi l k < gi l i
            · have hle := ceil_mono hr1 (dsum_less H.out.1 hil hkl hless)
              have t3 : decide (gi l k < gi l i) = true := by simp; omega
              have t4 : decide (ceil (dsum l i) r < ceil (dsum l k) r) = false := by simp; omega
              clear s3 hx hle hless
              go_wp2_with fail
              go_quiet (fail)
              go_wp2_with fail
              go_roundw
              case rel => exact ⟨k + 1, by omega, by go_num, _, rfl⟩
              case measure => simp [intOf]; omega
            · have t3 : decide (gi l k < gi l i) = false := by simp; omega
              clear s3 hx hless
              go_wp2_with fail
              go_quiet (fail)
              go_wp2_with fail
              go_roundw
              case rel => exact ⟨k + 1, by omega, by go_num, _, rfl⟩
              case measure => simp [intOf]; omega
          · have hkn : k = n := by omega
            subst hkn
            clear s3 hx
            go_wp2_with fail
            go_roundw
            case rel => exact ⟨i + 1, by omega, by go_num, by rw [hS1.out], rfl, _, rfl⟩
            case measure => simp [intOf]; omega
      · have hkn : i = n := by omega
        subst hkn
        have hp := psum_bd H.out.1 i (by rw [HL.out]; exact Nat.le_refl _)
        have hpl := plast_eq H.out
        rw [HL.out] at hpl
        have hlo := ceil_lo (d := psum l i) hr1
        have hhi := ceil_hi (d := psum l i) hr1
        have hcl := ceil_le (d := psum l i) hr1 (by omega)
        have hc0 := ceil_nonneg (d := psum l i) hr1 (by omega)
        have p1 : ceil (psum l i) r * r ≤ 9000 * 10000 := Int.mul_le_mul (by omega) hr2 (by omega) (by omega)
        have p2 : 0 ≤ ceil (psum l i) r * r := Int.mul_nonneg hc0 (by omega)
        have p3 : -10000 ≤ (ceil (psum l i) r - 1) * r := by rw [Int.sub_mul, Int.one_mul]; omega
        have hcl2 : ceil (psum l i) r ≤ 9000 := by omega
        have e1 : wrap64 (ceil (psum l i) r * r) = ceil (psum l i) r * r := IntWalk.wrap64_in _ ⟨by omega, by omega⟩
        have e2 : wrap64 ((ceil (psum l i) r - 1) * r) = (ceil (psum l i) r - 1) * r := IntWalk.wrap64_in _ ⟨by omega, by omega⟩
        clear s3 hx p1 p2 p3
        go_wp2_with fail
        go_ret
        exact ⟨rfl, bel_drewN hb3 _⟩
  · refine (shareDone_bad A n c l r _ _ h s2 (by omega)).mono ?_
    rintro e w3 ⟨rfl, rfl⟩
    have hne : (shareErr l r != 0) = true := by unfold shareErr; split <;> rfl
    have H := Lib.hid h
    clear h hlen
    go_wp2_with fail
    refine (check_bad A n c l r _ _ H.out s2 (by omega)).mono ?_
    rintro e w3 ⟨rfl, rfl⟩
    clear s2
    go_wp2_with fail
    go_ret
    exact ⟨rfl, hb2⟩
end Go.Proofs.Ytopldjklmjkcmaa
