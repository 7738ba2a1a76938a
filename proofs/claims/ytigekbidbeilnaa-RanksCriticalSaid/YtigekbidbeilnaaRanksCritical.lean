/- RanksCritical (Joseph, Pandya): the response time is the completion time of the first job. -/
import Derived.Test.YtigekbidbeilnaaFinA
import Derived.Test.YtigekbidbeilnaaKit0
set_option linter.unusedVariables false
namespace Go.Proofs.Ytigekbidbeilnaa
open Go.RowKit
theorem crit_ok {zs : List Int} {n k : Nat} {R : Int} (h : ranksOk zs n) (hk : k < n) (hR : respIs zs k R) (hd : R ≤ fd zs k 2) : finD (rwho zs n) k (fd zs k 1) 200 = R := by
  obtain ⟨t0, t1, t2, t3, t4⟩ := h.2 k hk
  obtain ⟨r1, r2, r3, r4⟩ := hR
  obtain ⟨r, rfl⟩ := Int.eq_ofNat_of_zero_le (show 0 ≤ R by omega)
  obtain ⟨P, hP⟩ := Int.eq_ofNat_of_zero_le (show 0 ≤ fd zs k 0 by omega)
  have j := jobs_done h hk r P hP (by rw [r3 hd]; exact Int.le_refl _) (by omega) 0
  simp only [Nat.zero_mul, Nat.zero_add] at j
  rw [← fcnt_rcn] at j
  push_cast at j
  rw [Int.one_mul] at j
  rcases finD_cases (u := rwho zs n) (i := k) t2 200 with ⟨_, hf⟩ | ⟨t, ht, e, f1, f2⟩
  · have := fcnt_mono (u := rwho zs n) (i := k) (show r ≤ 200 by omega); omega
  · have a : t + 1 ≤ r := by
      rcases Nat.lt_or_ge t r with h' | h'
      · omega
      · have := fcnt_mono (u := rwho zs n) (i := k) h'; omega
    have b := first_fix h hk t (by rw [← fcnt_rcn]; exact f1) (by rw [← fcnt_rcn]; exact f2)
    have c := r4 ((t + 1 : Nat) : Int) (by omega) (by omega)
    rw [e]
    push_cast at c
    omega
theorem crit_late {zs : List Int} {n k : Nat} {R : Int} (h : ranksOk zs n) (hk : k < n) (hR : respIs zs k R) (hd : fd zs k 2 < R) : finD (rwho zs n) k (fd zs k 1) 200 = 0 ∨ fd zs k 2 < finD (rwho zs n) k (fd zs k 1) 200 := by
  obtain ⟨t0, t1, t2, t3, t4⟩ := h.2 k hk
  rcases finD_cases (u := rwho zs n) (i := k) t2 200 with ⟨hf, _⟩ | ⟨t, ht, e, f1, f2⟩
  · exact .inl hf
  · right
    have b := first_fix h hk t (by rw [← fcnt_rcn]; exact f1) (by rw [← fcnt_rcn]; exact f2)
    have c := hR.2.2.2 ((t + 1 : Nat) : Int) (by omega) (by omega)
    rw [e]
    push_cast at c
    omega
theorem lit_ok : ranksOk [4, 1, 4, 6, 3, 6] 2 := ⟨by omega, fun i hi => by
  match i, hi with
  | 0, _ => decide
  | 1, _ => decide⟩
theorem lit_one {v er : Int} (h : RespX [4, 1, 4, 6, 3, 6] 2 1 v er) : v = 4 ∧ er = 0 := by
  have top : ∀ R, respIs [4, 1, 4, 6, 3, 6] 1 R → R = 4 := fun R hR => by
    have a : (3 : Int) ≤ R := hR.1
    have b : R ≤ 4 := hR.2.2.2 4 (by decide) (by decide)
    have c : R ≤ 6 → 3 + rsum [4, 1, 4, 6, 3, 6] R 1 = R := hR.2.2.1
    have d : R = 3 ∨ R = 4 := by omega
    rcases d with rfl | rfl
    · exact absurd (c (by omega)) (by decide)
    · rfl
  cases h with
  | bad h => exact absurd lit_ok h
  | out h hi => omega
  | late h k hk hi R hR hd =>
    obtain rfl : k = 1 := by omega
    have := top R hR
    subst this
    exact absurd hd (by decide)
  | fits h k hk hi R hR hd =>
    obtain rfl : k = 1 := by omega
    exact ⟨top _ hR, rfl⟩
set_option maxRecDepth 100000 in
set_option maxHeartbeats 3200000 in
theorem ranksCritical_walk (A : Option Addr) (n c : Nat) (zs : List Int) (i : Int) (W : World) (w0 : In3 W A n c zs) (_ : -9223372036854775808 ≤ i ∧ i ≤ 9223372036854775807) :
    Calls Try.prog 10 #[.slice A n c, .int .i64 i] W fun e w' => e = .returned (.bool true) ∧ Below W.heap.size W w' := by
  obtain ⟨s0, l0, r0, _⟩ := w0
  go_enter Try.func10, Try.ntmps10
  go_wp2_with fail
  refine (rank_any W).mono ?_
  rintro e w1 ⟨rfl, s1, b1⟩
  have s01 := s0.on b1
  go_wp2_with fail
  refine (response_x _ 2 2 [4, 1, 4, 6, 3, 6] 1 _ (by omega) (by omega) s1).mono ?_
  rintro e w2 ⟨⟨v, er, rfl, hv⟩, b2⟩
  obtain ⟨rfl, rfl⟩ := lit_one hv
  have S2 := Lib.hid (s01.on b2)
  have B2 := Lib.hid (b1.trans (b2.mono b1.size))
  clear hv s0 s1 s01 b1 b2
  go_wp2_with fail
  refine (response_x A n c zs i _ l0 (by omega) S2.out).mono ?_
  rintro e w3 ⟨⟨v, er, rfl, hv⟩, b3⟩
  have S3 := Lib.hid (S2.out.on b3)
  have B3 := Lib.hid (B2.out.trans (b3.mono B2.out.size))
  clear b3
  cases hv with
  | bad h =>
    have NO := Lib.hid h
    have hne := ranksErr_ne n
    have hne2 : Hid (ranksErr n = 1 ∨ ranksErr n = 2) := by show _ ∨ _; unfold ranksErr; split <;> simp
    obtain ⟨er, her⟩ : ∃ er, ranksErr n = er := ⟨_, rfl⟩
    rw [her] at hne hne2 ⊢
    have HER := Lib.hid her
    have e8 : (er == 8) = false := by have := hne2.out; simp; omega
    clear h her
    go_wp2_with fail
    refine (rrun_bad A n c zs _ NO.out S3.out (by omega)).mono ?_
    rintro e w4 ⟨rfl, b4⟩
    have B4 := Lib.hid (B3.out.trans (b4.mono B3.out.size))
    clear b4
    go_wp2_with fail
    go_ret
    exact ⟨rfl, B4.out⟩
  | out h hi =>
    have OK := Lib.hid h
    clear h
    go_wp2_with fail
    refine (rrun_ok A n c zs _ S3.out OK.out).mono ?_
    rintro e w4 ⟨A4, c4, rfl, s4, b4⟩
    have B4 := Lib.hid (B3.out.trans (b4.mono B3.out.size))
    clear b4 s4 hi
    go_wp2_with fail
    go_ret
    exact ⟨rfl, B4.out⟩
  | late h k hk hi R hR hd =>
    subst hi
    have OK := Lib.hid h
    have CL := Lib.hid (crit_late h hk hR hd)
    have n5 := h.1
    have tk := h.2 k hk
    have t2 := tk.2.2.1
    have t3 : fd zs k 1 ≤ 60 := by have := tk.2.1; have := tk.2.2.2.1; have := tk.2.2.2.2; omega
    clear h hR hd tk
    go_wp2_with fail
    refine (rrun_ok A n c zs _ S3.out OK.out).mono ?_
    rintro e w4 ⟨A4, c4, rfl, s4, b4⟩
    have B4 := Lib.hid (B3.out.trans (b4.mono B3.out.size))
    have s34 := S3.out.on b4
    have S4 := Lib.hid s4
    obtain ⟨b, off, rfl, hbl, -⟩ := s34.int_at (k := k * 3) (by omega)
    obtain ⟨d0, d1, d2⟩ := s34.three hk
    have hkI : (k : Int) < n := by omega
    have hkn : ¬ (n : Int) ≤ k := by omega
    have hk0 : ¬ (k : Int) < 0 := by omega
    have hk00 : (0 : Int) ≤ k := by omega
    clear b4 s4 s34
    go_wp2_with fail
    refine (fin_ok A4 200 c4 _ (rwho zs n) k (fd zs k 1) 0 (fd zs k 1) _ ⟨by omega, by omega⟩ ⟨t2, by omega⟩ (by rw [Int.zero_add, Int.mul_one]) (by omega) S4.out).mono ?_
    rintro e w5 ⟨rfl, rfl⟩
    have cl := CL.out
    generalize finD (rwho zs n) k (fd zs k 1) 200 = F at cl ⊢
    by_cases hF : F = 0
    · have eF : (F == 0) = true := by simpa using hF
      clear cl hF
      go_wp2_with fail
      go_ret
      exact ⟨rfl, B4.out⟩
    · have eF : (F == 0) = false := by simpa using hF
      have eD : decide (fd zs k 2 < F) = true := decide_eq_true (by omega)
      clear cl hF
      go_wp2_with fail
      go_ret
      exact ⟨rfl, B4.out⟩
  | fits h k hk hi R hR hd =>
    subst hi
    have OK := Lib.hid h
    have CL := Lib.hid (crit_ok h hk hR hd)
    have n5 := h.1
    have tk := h.2 k hk
    have t2 := tk.2.2.1
    have t3 : fd zs k 1 ≤ 60 := by have := tk.2.1; have := tk.2.2.2.1; have := tk.2.2.2.2; omega
    clear h hR hd tk
    go_wp2_with fail
    refine (rrun_ok A n c zs _ S3.out OK.out).mono ?_
    rintro e w4 ⟨A4, c4, rfl, s4, b4⟩
    have B4 := Lib.hid (B3.out.trans (b4.mono B3.out.size))
    have s34 := S3.out.on b4
    have S4 := Lib.hid s4
    obtain ⟨b, off, rfl, hbl, -⟩ := s34.int_at (k := k * 3) (by omega)
    obtain ⟨d0, d1, d2⟩ := s34.three hk
    have hkI : (k : Int) < n := by omega
    have hkn : ¬ (n : Int) ≤ k := by omega
    have hk0 : ¬ (k : Int) < 0 := by omega
    have hk00 : (0 : Int) ≤ k := by omega
    clear b4 s4 s34
    go_wp2_with fail
    refine (fin_ok A4 200 c4 _ (rwho zs n) k (fd zs k 1) 0 (fd zs k 1) _ ⟨by omega, by omega⟩ ⟨t2, by omega⟩ (by rw [Int.zero_add, Int.mul_one]) (by omega) S4.out).mono ?_
    rintro e w5 ⟨rfl, rfl⟩
    rw [CL.out]
    go_wp2_with fail
    go_ret
    exact ⟨rfl, B4.out⟩
end Go.Proofs.Ytigekbidbeilnaa
