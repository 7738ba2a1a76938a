/- Plain laws of standard curves. -/
import Derived.Test.YtidmncoakockkaaShapeA
import Derived.Test.YtidmncoakockkaaCurveQ
set_option linter.unusedVariables false
namespace Go.Proofs.Ytidmncoakockkaa
open Go.RowKit
theorem mul_mono {r a b : Int} (hr : 0 ≤ r) (h : a ≤ b) : r * a ≤ r * b := Int.mul_le_mul_of_nonneg_left h hr
theorem bkt_zero (r b : Int) : bktU r b 0 = 0 := if_pos rfl
theorem bkt_pos (r b : Int) {t : Nat} (h : 0 < t) : bktU r b t = b + r * t := if_neg (by omega)
theorem bkt_C {n : Nat} {r b : Int} (h0 : 0 < n) (h1 : n ≤ 61) (r0 : 0 ≤ r) (b0 : 0 ≤ b) (hb : b + r * 60 ≤ 1000000) : IsC n (tab n (bktU r b)) := by
  refine isC_tab h0 h1 (fun i hi => ?_) (fun i hi => ?_) fun i hi => ?_
  · unfold bktU; split
    · omega
    · have := Int.mul_nonneg r0 (show (0 : Int) ≤ i by omega); omega
  · unfold bktU; split
    · omega
    · have := mul_mono r0 (show (i : Int) ≤ 60 by omega); omega
  · have a := mul_mono r0 (show (i : Int) ≤ ((i + 1 : Nat) : Int) by omega)
    have b := Int.mul_nonneg r0 (show (0 : Int) ≤ ((i + 1 : Nat) : Int) by omega)
    rw [bkt_pos r _ (show 0 < i + 1 by omega)]
    unfold bktU; split <;> omega
theorem lin_C {n : Nat} {r l : Int} (h0 : 0 < n) (h1 : n ≤ 61) (r0 : 0 ≤ r) (r1 : r ≤ 10000) (l0 : 0 ≤ l) : IsC n (tab n (linU r l)) := by
  refine isC_tab h0 h1 (fun i hi => ?_) (fun i hi => ?_) fun i hi => ?_
  · exact Int.mul_nonneg r0 (mx_le 0 _).1
  · have := mul_bd r0 r1 (t := mx 0 ((i : Int) - l)) (mx_le 0 _).1 (by unfold mx; split <;> omega)
    have a := mul_mono r0 (show mx 0 ((i : Int) - l) ≤ 60 by unfold mx; split <;> omega)
    unfold linU; omega
  · exact mul_mono r0 (mx_mono (Int.le_refl _) (by omega))
theorem sta_step {p : Int} (hp : 1 ≤ p) (t : Nat) : 0 ≤ ((t : Int) + p - 1) / p ∧ ((t : Int) + p - 1) / p ≤ t := by
  refine ⟨Int.ediv_nonneg (by omega) (by omega), ?_⟩
  rcases Nat.eq_zero_or_pos t with rfl | h
  · rw [show ((0 : Nat) : Int) + p - 1 = p - 1 by omega, Int.ediv_eq_zero_of_lt (by omega) (by omega)]; omega
  · refine Int.ediv_le_of_le_mul (by omega) ?_
    have := mul_mono (r := (t : Int) - 1) (by omega) hp
    have e : (t : Int) * p = ((t : Int) - 1) * p + p := by rw [Int.sub_mul]; omega
    omega
theorem sta_C {n : Nat} {s p : Int} (h0 : 0 < n) (h1 : n ≤ 61) (s0 : 0 ≤ s) (s1 : s ≤ 10000) (p0 : 1 ≤ p) : IsC n (tab n (staU s p)) := by
  refine isC_tab h0 h1 (fun i hi => ?_) (fun i hi => ?_) fun i hi => ?_
  · exact Int.mul_nonneg s0 (sta_step p0 i).1
  · have a := mul_mono s0 (sta_step p0 i).2
    have b := mul_mono s0 (show (i : Int) ≤ 60 by omega)
    unfold staU; omega
  · exact mul_mono s0 (Int.ediv_le_ediv (by omega) (by omega))
theorem sbucket_yes {n : Nat} {r b : Int} {h : Int} (hn : h.toNat + 1 = n) (hc : IsC n (tab n (bktU r b))) : fit (tab (h.toNat + 1) (bktU r b)) = (tab n (bktU r b), 0) := by rw [hn, fit_yes (fits_C hc)]
theorem sline_yes {n : Nat} {r b : Int} {h : Int} (hn : h.toNat + 1 = n) (hc : IsC n (tab n (linU r b))) : fit (tab (h.toNat + 1) (linU r b)) = (tab n (linU r b), 0) := by rw [hn, fit_yes (fits_C hc)]
theorem sstair_yes {n : Nat} {r b : Int} {h : Int} (hn : h.toNat + 1 = n) (hc : IsC n (tab n (staU r b))) : fit (tab (h.toNat + 1) (staU r b)) = (tab n (staU r b), 0) := by rw [hn, fit_yes (fits_C hc)]
/-- Two lines, one behind the other. -/
theorem conv_lines {n : Nat} {r s a b : Int} (r0 : 0 ≤ r) (s0 : 0 ≤ s) (a0 : 0 ≤ a) (b0 : 0 ≤ b) : convL (tab n (linU r a)) (tab n (linU s b)) = tab n (linU (mn r s) (a + b)) := by
  have hl : ∀ u, (tab n u).length = n := fun u => tab_len _ _
  refine ext_n (n := n) (by rw [convL_len, tab_len]) (hl _) fun t ht => ?_
  rw [convL_get (hl _) ht, tab_get _ ht, cv_congr (n := n) ht (fun j hj => tab_get _ hj) (fun j hj => tab_get _ hj)]
  show cv (linU r a) (linU s b) t = linU (mn r s) (a + b) t
  have m := mn_le r s
  refine Int.le_antisymm ?_ (le_cv fun q hq => ?_)
  · rcases m.2.2 with e | e
    · -- the first line has the lesser rate: the second waits for its delay alone
      obtain ⟨d, hd⟩ : ∃ d : Nat, d ≤ t ∧ ((d : Int) ≤ b ∧ (d = t ∨ (d : Int) = b)) := by
        by_cases h : b ≤ t
        · exact ⟨b.toNat, by omega, by omega, .inr (by omega)⟩
        · exact ⟨t, by omega, by omega, .inl rfl⟩
      have h1 := cv_le (linU r a) (linU s b) (t := t) (s := t - d) (by omega)
      have h2 : linU s b (t - (t - d)) = 0 := by
        unfold linU mx
        rw [show t - (t - d) = d by omega, if_neg (by omega)]; omega
      have h3 : linU r a (t - d) ≤ linU r (a + b) t := mul_mono r0 (by unfold mx; split <;> split <;> omega)
      rw [e]; omega
    · obtain ⟨d, hd⟩ : ∃ d : Nat, d ≤ t ∧ ((d : Int) ≤ a ∧ (d = t ∨ (d : Int) = a)) := by
        by_cases h : a ≤ t
        · exact ⟨a.toNat, by omega, by omega, .inr (by omega)⟩
        · exact ⟨t, by omega, by omega, .inl rfl⟩
      have h1 := cv_le (linU r a) (linU s b) (t := t) (s := d) (by omega)
      have h2 : linU r a d = 0 := by
        unfold linU mx
        rw [if_neg (by omega)]; omega
      have h3 : linU s b (t - d) ≤ linU s (a + b) t := mul_mono s0 (by unfold mx; split <;> split <;> omega)
      rw [e]; omega
  · obtain ⟨M, hM⟩ : ∃ M, mn r s = M := ⟨_, rfl⟩
    rw [hM] at m ⊢
    have M0 : 0 ≤ M := by rcases m.2.2 with e | e <;> omega
    obtain ⟨x, hx⟩ : ∃ x, mx 0 ((q : Int) - a) = x := ⟨_, rfl⟩
    obtain ⟨y, hy⟩ : ∃ y, mx 0 (((t - q : Nat) : Int) - b) = y := ⟨_, rfl⟩
    have x0 : 0 ≤ x := by rw [← hx]; exact (mx_le _ _).1
    have y0 : 0 ≤ y := by rw [← hy]; exact (mx_le _ _).1
    have h1 : M * x ≤ r * x := Int.mul_le_mul_of_nonneg_right m.1 x0
    have h2 : M * y ≤ s * y := Int.mul_le_mul_of_nonneg_right m.2.1 y0
    have h3 : M * mx 0 ((t : Int) - (a + b)) ≤ M * (x + y) := mul_mono M0 (by rw [← hx, ← hy]; unfold mx; (repeat' split) <;> omega)
    rw [Int.mul_add] at h3
    show M * mx 0 ((t : Int) - (a + b)) ≤ r * mx 0 ((q : Int) - a) + s * mx 0 (((t - q : Nat) : Int) - b)
    rw [hx, hy]
    omega
/-- Two buckets, one behind the other. -/
theorem conv_buckets {n : Nat} {r s a b : Int} (r0 : 0 ≤ r) (s0 : 0 ≤ s) (a0 : 0 ≤ a) (b0 : 0 ≤ b) : convL (tab n (bktU r a)) (tab n (bktU s b)) = cminL (tab n (bktU r a)) (tab n (bktU s b)) := by
  have hl : ∀ u, (tab n u).length = n := fun u => tab_len _ _
  refine ext_n (n := n) (by rw [convL_len, tab_len]) (by unfold cminL; rw [tab_len, tab_len]) fun t ht => ?_
  rw [convL_get (hl _) ht, cmin_get (hl _) ht, tab_get _ ht, tab_get _ ht, cv_congr (n := n) ht (fun j hj => tab_get _ hj) (fun j hj => tab_get _ hj)]
  show cv (bktU r a) (bktU s b) t = mn (bktU r a t) (bktU s b t)
  have m := mn_le (bktU r a t) (bktU s b t)
  refine Int.le_antisymm ?_ (le_cv fun q hq => ?_)
  · have h1 := cv_le (bktU r a) (bktU s b) (Nat.le_refl t)
    have h2 := cv_le (bktU r a) (bktU s b) (t := t) (s := 0) (by omega)
    rw [Nat.sub_self, bkt_zero] at h1
    rw [Nat.sub_zero, bkt_zero] at h2
    rcases m.2.2 with e | e <;> rw [e] <;> omega
  · rcases Nat.eq_zero_or_pos q with rfl | hq0
    · rw [bkt_zero, Nat.sub_zero]; omega
    · rcases Nat.eq_or_lt_of_le hq with rfl | hqt
      · rw [Nat.sub_self, bkt_zero]; omega
      · rw [bkt_pos r a hq0, bkt_pos s b (show 0 < t - q by omega)]
        rw [bkt_pos r a (show 0 < t by omega), bkt_pos s b (show 0 < t by omega)] at m ⊢
        have e1 : r * (t : Int) = r * (q : Int) + r * ((t - q : Nat) : Int) := by rw [← Int.mul_add]; congr 1; omega
        have e2 : s * (t : Int) = s * (q : Int) + s * ((t - q : Nat) : Int) := by rw [← Int.mul_add]; congr 1; omega
        by_cases h : r ≤ s
        · have := Int.mul_le_mul_of_nonneg_right h (show (0 : Int) ≤ ((t - q : Nat) : Int) by omega)
          omega
        · have := Int.mul_le_mul_of_nonneg_right (show s ≤ r by omega) (show (0 : Int) ≤ (q : Int) by omega)
          omega
end Go.Proofs.Ytidmncoakockkaa
