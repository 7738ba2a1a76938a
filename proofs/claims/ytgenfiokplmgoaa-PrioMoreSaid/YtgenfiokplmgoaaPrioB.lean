/- prio.Left; plain laws of two on a line. -/
import Derived.Test.YtgenfiokplmgoaaLineK
import Derived.Test.YtgenfiokplmgoaaShapeA
import Derived.Test.YtgenfiokplmgoaaShapeP
import Derived.Test.YtgenfiokplmgoaaPointL
set_option linter.unusedVariables false
namespace Go.Proofs.Ytgenfiokplmgoaa
open Go.RowKit
def leftL (l : List Int) (r : Int) (n : Nat) : List Int := clessL (tab n (linU r 0)) l
theorem left_C {n : Nat} {l : List Int} {r : Int} (hl : IsC n l) (r0 : 0 ≤ r) (r1 : r ≤ 10000) : IsC n (leftL l r n) := cless_C (lin_C hl.pos hl.top r0 r1 (Int.le_refl _)) hl
theorem pleft_any (A : Option Addr) (n c : Nat) (l : List Int) (r : Int) (W : World) (hs : Sl W W.heap.size A n (ints l)) (hn : n ≤ 9223372036854775807) (hl : IsC n l) (r0 : 0 ≤ r) (r1 : r ≤ 10000) (zs : List Int) (er : Int) (k : Nat) (h : (leftL l r n, (0 : Int)) = (zs, er)) (hk : zs.length = k) :
    Calls Try.prog 35 #[.slice A n c, .int .i64 r] W (RetSl W k zs er) := by
  have H := Lib.hid h
  have HK := Lib.hid hk
  have CL := Lib.hid hl
  have HE := Lib.hid hl.err
  have CF := Lib.hid (lin_C hl.pos hl.top r0 r1 (Int.le_refl 0))
  have hp := hl.pos
  have ht := hl.top
  clear h hk hl
  go_enter Try.func35, Try.ntmps35
  go_wp2_with fail
  refine (ccheck_any A n c l _ _ hs hn).mono ?_
  rintro e w' ⟨rfl, rfl⟩
  rw [HE.out]
  go_wp2_with fail
  refine (sline_any ((n : Int) - 1) r 0 _ (by omega) (by omega) r0 r1 (by omega) (by omega) (tab n (linU r 0)) 0 n (sline_yes (by omega) CF.out) (tab_len _ _)).mono ?_
  rintro e w1 ⟨A1, c1, rfl, s1, l1, b1⟩
  have S1 := Lib.hid s1
  have HS := Lib.hid (hs.on b1)
  have B1 := Lib.hid b1
  clear hs s1 b1
  go_wp2_with fail
  refine (pless_any A1 n c1 (tab n (linU r 0)) A n c l _ S1.out HS.out hn hn CF.out CL.out rfl zs er k (by rw [← H.out]; exact fit_yes (fits_C (cless_C CF.out CL.out))) HK.out).mono ?_
  rintro e w2 ⟨A2, c2, rfl, s2, l2, b2⟩
  have S2 := Lib.hid s2
  have B2 := Lib.hid b2
  clear s2 b2
  go_wp2_with fail
  go_ret2
  exact ⟨A2, c2, rfl, S2.out, l2, Below.to B1.out B2.out⟩
/-- What the second gets by each time. -/
theorem pout_psum {a b : List Int} {r : Int} (n k : Nat) (hk : k ≤ n) : psum (tab n (pout a b r)) k + pq a b r k = psum b k := by
  induction k with
  | zero => rfl
  | succ k ih =>
    rw [psum_succ, psum_succ, tab_get _ (by omega), pq_succ, ← ih (by omega)]
    omega
theorem pout_step {a b : List Int} {r : Int} (n k : Nat) (hk : k < n) : psum (tab n (pout a b r)) (k + 1) = mn (psum b (k + 1)) (psum (tab n (pout a b r)) k + (r - ldep a r k)) := by
  have a1 := pout_psum (a := a) (b := b) (r := r) n k (by omega)
  rw [psum_succ, psum_succ, tab_get _ hk]
  show psum (tab n (pout a b r)) k + mn (pq a b r k + gi b k) (r - ldep a r k) = _
  unfold mn
  split <;> split <;> omega
theorem pout_ok {a b : List Int} {r : Int} (h : prioOk a b r) : traceOk (tab a.length (pout a b r)) := by
  refine ⟨by rw [tab_len]; exact h.1.1.1, fun z hz => ?_⟩
  obtain ⟨i, hi, rfl⟩ := mem_tab hz
  have := pout_bd h i hi
  have := ldep_bd h.1 i hi
  have := h.1.2.2
  omega
/-- What the first leaves, a time: no less on a faster line, or with less that goes first. -/
theorem spare_mono {a c : List Int} {r s : Int} (hr : r ≤ s) (n : Nat) (hac : ∀ i, i < n → gi c i ≤ gi a i) (k : Nat) (hk : k ≤ n) : lbuf c s k ≤ lbuf a r k ∧ (k < n → r - ldep a r k ≤ s - ldep c s k) := by
  induction k with
  | zero =>
    refine ⟨Int.le_refl _, fun h => ?_⟩
    have := hac 0 h
    show r - mn (0 + gi a 0) r ≤ s - mn (0 + gi c 0) s
    unfold mn; split <;> split <;> omega
  | succ k ih =>
    obtain ⟨i1, i2⟩ := ih (by omega)
    have h1 := hac k (by omega)
    have e1 : lbuf c s (k + 1) ≤ lbuf a r (k + 1) := by
      rw [lbuf_succ, lbuf_succ]
      show lbuf c s k + gi c k - mn (lbuf c s k + gi c k) s ≤ lbuf a r k + gi a k - mn (lbuf a r k + gi a k) r
      unfold mn; split <;> split <;> omega
    refine ⟨e1, fun h => ?_⟩
    have h2 := hac (k + 1) h
    show r - mn (lbuf a r (k + 1) + gi a (k + 1)) r ≤ s - mn (lbuf c s (k + 1) + gi c (k + 1)) s
    unfold mn; split <;> split <;> omega
theorem second_mono {a c b : List Int} {r s : Int} (hr : r ≤ s) (n : Nat) (hac : ∀ i, i < n → gi c i ≤ gi a i) (k : Nat) (hk : k ≤ n) : psum (tab n (pout a b r)) k ≤ psum (tab n (pout c b s)) k := by
  induction k with
  | zero => exact Int.le_refl _
  | succ k ih =>
    rw [pout_step n k (by omega), pout_step n k (by omega)]
    have := ih (by omega)
    have := (spare_mono hr n hac k (by omega)).2 (by omega)
    exact mn_mono (Int.le_refl _) (by omega)
theorem first_mono_ {a : List Int} {r s : Int} (hr : r ≤ s) (n : Nat) (k : Nat) (hk : k ≤ n) : psum (tab n (ldep a r)) k ≤ psum (tab n (ldep a s)) k := by
  induction k with
  | zero => exact Int.le_refl _
  | succ k ih =>
    rw [psum_dep n k (by omega), psum_dep n k (by omega)]
    have := ih (by omega)
    exact mn_mono (Int.le_refl _) (by omega)
/-- Both together are served as one would be. -/
theorem both_step {a b : List Int} {r : Int} (h : prioOk a b r) (n k : Nat) (hn : n = a.length) (hk : k < n) : psum (tab n (ldep a r)) (k + 1) + psum (tab n (pout a b r)) (k + 1) = mn (psum a (k + 1) + psum b (k + 1)) (psum (tab n (ldep a r)) k + psum (tab n (pout a b r)) k + r) := by
  have a1 := psum_line (a := a) (r := r) n k (by omega)
  have a2 := pout_psum (a := a) (b := b) (r := r) n k (by omega)
  rw [psum_succ, psum_succ, psum_succ, psum_succ, tab_get _ hk, tab_get _ hk]
  show psum (tab n (ldep a r)) k + ldep a r k + (psum (tab n (pout a b r)) k + mn (pq a b r k + gi b k) (r - ldep a r k)) = _
  have e : ldep a r k = mn (lbuf a r k + gi a k) r := rfl
  have p1 := (pq_bd h k (by omega)).1
  have p2 := (trace_bd h.2.1 (i := k) (by rw [h.2.2]; omega)).1
  rw [e]
  unfold mn
  (repeat' split) <;> omega
/-- There is a time at which nothing waited, and since which all was served at the rate. -/
theorem both_from {a b : List Int} {r : Int} (hp : prioOk a b r) (n k : Nat) (hn : n = a.length) (hk : k ≤ n) : ∃ w, w ≤ k ∧ ∀ u, w ≤ u → u ≤ k → psum (tab n (ldep a r)) u + psum (tab n (pout a b r)) u = psum a w + psum b w + r * ((u - w : Nat) : Int) := by
  induction k with
  | zero => exact ⟨0, Nat.le_refl _, fun u h1 h2 => by
      obtain rfl : u = 0 := by omega
      simp [psum]⟩
  | succ k ih =>
    obtain ⟨w, hw, h⟩ := ih (by omega)
    have e := both_step hp n k hn (by omega)
    rcases (mn_le (psum a (k + 1) + psum b (k + 1)) (psum (tab n (ldep a r)) k + psum (tab n (pout a b r)) k + r)).2.2 with m | m
    · refine ⟨k + 1, Nat.le_refl _, fun u h1 h2 => ?_⟩
      obtain rfl : u = k + 1 := by omega
      rw [e, m, Nat.sub_self]; simp
    · refine ⟨w, by omega, fun u h1 h2 => ?_⟩
      rcases Nat.lt_or_ge k u with h3 | h3
      · obtain rfl : u = k + 1 := by omega
        rw [e, m, h k hw (Nat.le_refl _), show k + 1 - w = (k - w) + 1 by omega, show (((k - w) + 1 : Nat) : Int) = ((k - w : Nat) : Int) + 1 by omega, Int.mul_add, Int.mul_one]
        omega
      · exact h u h1 h3
theorem dep_le {a : List Int} {r : Int} (h : lineOk a r) (n k : Nat) (hk : k ≤ n) (hn : n = a.length) : psum (tab n (ldep a r)) k ≤ psum a k := by
  have a1 := psum_line (a := a) (r := r) n k hk
  have := (lbuf_bd h k (by omega)).1
  omega
/-- What is left by one that fits a limit is promised to the other. -/
theorem prio_leaves {a b l : List Int} {r : Int} (h : prioOk a b r) {n : Nat} (hn : n = a.length) (hl : IsC (n + 1) l) (r0 : 0 ≤ r) (r1 : r ≤ 10000) (hf : ∀ t, t < n + 1 → ∀ s, s ≤ t → psum a t - psum a s ≤ gi l (t - s)) {t : Nat} (ht : t < n + 1) :
    cv (psum b) (gi (leftL l r (n + 1))) t ≤ psum (tab n (pout a b r)) t := by
  have hp := pout_ok h
  obtain ⟨w, hw, hb⟩ := both_from h n t hn (by omega)
  refine Int.le_trans (cv_le (psum b) (gi (leftL l r (n + 1))) hw) ?_
  have up : ∀ u, w ≤ u → u ≤ t → psum (tab n (pout a b r)) u ≤ psum (tab n (pout a b r)) t := fun u h1 h2 => by
    have hp' : traceOk (tab n (pout a b r)) := by rw [hn]; exact hp
    exact psum_mono hp' h2 (by rw [tab_len]; omega)
  have low : ∀ u, w ≤ u → u ≤ t → psum b w + r * ((u - w : Nat) : Int) - gi l (u - w) ≤ psum (tab n (pout a b r)) t := fun u h1 h2 => by
    have a1 := hb u h1 h2
    have a2 := dep_le h.1 n u (by omega) hn
    have a3 := hf u (by omega) w h1
    have a4 := up u h1 h2
    omega
  have key : gi (leftL l r (n + 1)) (t - w) ≤ psum (tab n (pout a b r)) t - psum b w := by
    unfold leftL
    rw [cless_get (tab_len _ _) (by omega)]
    refine top_le ?_ fun j hj => ?_
    · have a1 := hb w (Nat.le_refl _) hw
      have a2 := dep_le h.1 n w (by omega) hn
      have a4 := up w (Nat.le_refl _) hw
      rw [Nat.sub_self] at a1
      simp only [Int.natCast_zero, Int.mul_zero] at a1
      omega
    · rw [tab_get _ (by omega)]
      have a1 := low (w + j) (by omega) (by omega)
      rw [show w + j - w = j by omega] at a1
      have e : linU r 0 j = r * (j : Int) := by
        unfold linU mx
        split
        · simp
        · rename_i h2; rw [show (j : Int) = 0 by omega]
      rw [e]
      omega
  omega
end Go.Proofs.Ytgenfiokplmgoaa
