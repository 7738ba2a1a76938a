/- headkeep.finished; ranks.Response with its codes; ranks.Run on an error. -/
import Derived.Test.YtigekbidbeilnaaRunA
set_option linter.unusedVariables false
namespace Go.Proofs.Ytigekbidbeilnaa
open Go.RowKit
/-- How many of u's first t are i. -/
def fcnt (u : Nat → Int) (i : Int) : Nat → Int
  | 0 => 0
  | t + 1 => fcnt u i t + if u t = i then 1 else 0
theorem fcnt_succ (u : Nat → Int) (i : Int) (t : Nat) : fcnt u i (t + 1) = fcnt u i t + if u t = i then 1 else 0 := rfl
theorem fcnt_mono {u : Nat → Int} {i : Int} {s t : Nat} (h : s ≤ t) : fcnt u i s ≤ fcnt u i t := by
  obtain ⟨k, rfl⟩ : ∃ k, t = s + k := ⟨t - s, by omega⟩
  induction k with
  | zero => exact Int.le_refl _
  | succ k ih =>
    have := ih (by omega)
    rw [show s + (k + 1) = s + k + 1 from rfl, fcnt_succ]
    split <;> omega
theorem fcnt_rcn (zs : List Int) (n t i : Nat) : fcnt (rwho zs n) i t = rcn zs n t i := by
  induction t with
  | zero => rfl
  | succ t ih => rw [fcnt_succ, rcn_succ, ih]
/-- Behind which of the first m the N-th i is there; or nought. -/
def finD (u : Nat → Int) (i N : Int) : Nat → Int
  | 0 => 0
  | m + 1 => if finD u i N m ≠ 0 then finD u i N m else if fcnt u i (m + 1) = N then (m : Int) + 1 else 0
theorem finD_succ (u : Nat → Int) (i N : Int) (m : Nat) : finD u i N (m + 1) = if finD u i N m ≠ 0 then finD u i N m else if fcnt u i (m + 1) = N then (m : Int) + 1 else 0 := rfl
theorem finD_cases {u : Nat → Int} {i N : Int} (hN : 1 ≤ N) (m : Nat) : (finD u i N m = 0 ∧ fcnt u i m < N) ∨ ∃ t, t < m ∧ finD u i N m = (t : Int) + 1 ∧ fcnt u i t < N ∧ fcnt u i (t + 1) = N := by
  induction m with
  | zero => exact .inl ⟨rfl, by show (0 : Int) < N; omega⟩
  | succ m ih =>
    rw [finD_succ]
    rcases ih with ⟨h, h1⟩ | ⟨t, ht, h, h1, h2⟩
    · rw [if_neg (by omega)]
      by_cases he : fcnt u i (m + 1) = N
      · rw [if_pos he]
        exact .inr ⟨m, by omega, rfl, h1, he⟩
      · rw [if_neg he]
        refine .inl ⟨rfl, ?_⟩
        rw [fcnt_succ] at he ⊢
        split at he <;> simp_all <;> omega
    · rw [if_pos (by omega)]
      exact .inr ⟨t, by omega, h, h1, h2⟩
theorem finD_at {u : Nat → Int} {i N : Int} (hN : 1 ≤ N) {m t : Nat} (ht : t < m) (h1 : fcnt u i t < N) (h2 : fcnt u i (t + 1) = N) : finD u i N m = (t : Int) + 1 := by
  rcases finD_cases (u := u) (i := i) hN m with ⟨_, h⟩ | ⟨s, hs, h, g1, g2⟩
  · have := fcnt_mono (u := u) (i := i) (show t + 1 ≤ m by omega); omega
  · rcases Nat.lt_trichotomy s t with hst | hst | hst
    · have := fcnt_mono (u := u) (i := i) (show s + 1 ≤ t by omega); omega
    · rw [h, hst]
    · have := fcnt_mono (u := u) (i := i) (show t + 1 ≤ s by omega); omega
theorem finD_none {u : Nat → Int} {i N : Int} (hN : 1 ≤ N) {m : Nat} (h : fcnt u i m < N) : finD u i N m = 0 := by
  rcases finD_cases (u := u) (i := i) hN m with ⟨h1, _⟩ | ⟨s, hs, h1, g1, g2⟩
  · exact h1
  · have := fcnt_mono (u := u) (i := i) (show s + 1 ≤ m by omega); omega
set_option maxHeartbeats 1600000 in
theorem fin_ok (A : Option Addr) (m c B : Nat) (u : Nat → Int) (i work k N : Int) (W : World) (hk : 0 ≤ k ∧ k ≤ 1000) (hw : 1 ≤ work ∧ work ≤ 1000) (hNe : work * (k + 1) = N) (hm : m ≤ 1000) (hs : Sl W B A m (ints (tab m u))) :
    Calls Try.prog 28 #[.slice A m c, .int .i64 i, .int .i64 work, .int .i64 k] W fun e w' => e = .returned (.int .i64 (finD u i N m)) ∧ W = w' := by
  obtain ⟨k0, k1⟩ := hk
  obtain ⟨w0, w1⟩ := hw
  have N0 : work * 1 ≤ N := by rw [← hNe]; exact Int.mul_le_mul_of_nonneg_left (by omega) (by omega)
  have N1 : N ≤ 1000 * 1001 := by rw [← hNe]; exact Int.mul_le_mul w1 (by omega) (by omega) (by omega)
  have f0 : IntKind.i64.wrap (k + 1) = k + 1 := IntWalk.i64_in _ ⟨by omega, by omega⟩
  have f1 : IntKind.i64.wrap (work * (k + 1)) = N := by rw [hNe]; exact IntWalk.i64_in _ ⟨by omega, by omega⟩
  clear hNe
  go_enter Try.func28, Try.ntmps28
  go_wp2_with fail
  clear f0 f1
  go_loopw [18, 9] (fun vt vn wr => ∃ t : Nat, t ≤ m ∧ vt = .int .i64 t ∧ vn = .int .i64 (N - fcnt u i t) ∧ fcnt u i t < N ∧ 0 ≤ fcnt u i t ∧ wr = W) (fun vt _ _ => m - (intOf vt).toNat)
  case atStart => exact ⟨0, Nat.zero_le _, rfl, by simp [fcnt], by show (0 : Int) < N; omega, Int.le_refl _, rfl⟩
  case round =>
    obtain ⟨t, ht, rfl, rfl, hlo, hnn, rfl⟩ := hrel
    have ht0 : (0 : Int) ≤ t := by omega
    have FS := Lib.hid (fcnt_succ u i t)
    have FA := Lib.hid (fun h1 h2 => finD_at (u := u) (i := i) (N := N) (by omega) (m := m) (t := t) h1 (by exact hlo) h2)
    have FN := Lib.hid (fun (h : fcnt u i m < N) => finD_none (u := u) (i := i) (N := N) (by omega) h)
    obtain ⟨q, hq⟩ : ∃ q, fcnt u i t = q := ⟨_, rfl⟩
    have HQ := Lib.hid hq
    rw [hq] at hlo hnn ⊢
    by_cases hlt : t < m
    · have hn1 : (t : Int) < m := by omega
      obtain ⟨b, off, rfl, qb, hc⟩ := hs.int_at hlt
      rw [tab_get _ hlt] at hc
      have e1 : IntKind.i64.wrap ((t : Int) + 1) = (t : Int) + 1 := IntWalk.i64_in _ ⟨by omega, by omega⟩
      clear hs hq
      by_cases hu : u t = i
      · have eu : (u t == i) = true := by simpa using hu
        have f2 : IntKind.i64.wrap (N - q - 1) = N - q - 1 := IntWalk.i64_in _ ⟨by omega, by omega⟩
        have FQ : Hid (fcnt u i (t + 1) = q + 1) := by show _ = _; rw [FS.out, if_pos hu, HQ.out]
        clear hu
        by_cases hd : N = q + 1
        · have e0 : (N - q - 1 == 0) = true := by simp; omega
          have R := Lib.hid (FA.out hlt (by rw [FQ.out]; omega))
          clear hd
          go_wp2_with fail
          go_ret
          exact ⟨ret_int R.out.symm, rfl⟩
        · have e0 : (N - q - 1 == 0) = false := by simp; omega
          go_wp2_with fail
          go_roundw
          case rel => exact ⟨t + 1, by omega, by go_num, by rw [FQ.out]; congr 1; omega, by rw [FQ.out]; omega, by rw [FQ.out]; omega, by first | trivial | rfl⟩
          case measure => simp [intOf]; omega
      · have eu : (u t == i) = false := by simpa using hu
        have FQ : Hid (fcnt u i (t + 1) = q) := by show _ = _; rw [FS.out, if_neg hu, HQ.out]; omega
        have e0 : (N - q == 0) = false := by simp; omega
        clear hu
        go_wp2_with fail
        go_roundw
        case rel => exact ⟨t + 1, by omega, by go_num, by rw [FQ.out], by rw [FQ.out]; omega, by rw [FQ.out]; omega, by first | trivial | rfl⟩
        case measure => simp [intOf]; omega
    · have htm : t = m := by omega
      subst htm
      have hn1 : ¬ (t : Int) < t := by omega
      have R := Lib.hid (FN.out (by rw [HQ.out]; exact hlo))
      clear hs hq
      go_wp2_with fail
      go_ret
      exact ⟨ret_int R.out.symm, rfl⟩
theorem rrun_bad (A : Option Addr) (n c : Nat) (zs : List Int) (W : World) (h : ¬ ranksOk zs n) (hs : Sl W W.heap.size A (n * 3) (ints zs)) (hnn : n ≤ 9223372036854775807) :
    Calls Try.prog 27 #[.slice A n c, .int .i64 200] W fun e w' => e = .returned (.tuple #[.slice none 0 0, .int .i64 (ranksErr n)]) ∧ Below W.heap.size W w' := by
  have hne := ranksErr_ne n
  have H := Lib.hid h
  clear h
  go_enter Try.func27, Try.ntmps27
  go_wp2_with fail
  refine (rcheck_bad A n c zs _ H.out hs hnn).mono ?_
  rintro e w1 ⟨rfl, b1⟩
  clear hs
  go_wp2_with fail
  go_ret2
  exact ⟨rfl, b1⟩
/-- What Response answers, with its codes. -/
inductive RespX (zs : List Int) (n : Nat) (i : Int) : Int → Int → Prop
  | bad (h : ¬ ranksOk zs n) : RespX zs n i 0 (ranksErr n)
  | out (h : ranksOk zs n) (hi : i < 0 ∨ (n : Int) ≤ i) : RespX zs n i 0 1
  | late (h : ranksOk zs n) (k : Nat) (hk : k < n) (hi : i = k) (R : Int) (hR : respIs zs k R) (hd : fd zs k 2 < R) : RespX zs n i 0 8
  | fits (h : ranksOk zs n) (k : Nat) (hk : k < n) (hi : i = k) (R : Int) (hR : respIs zs k R) (hd : R ≤ fd zs k 2) : RespX zs n i R 0
theorem response_x (A : Option Addr) (n c : Nat) (zs : List Int) (i : Int) (W : World) (hc : n ≤ c) (hnn : n ≤ 9223372036854775807) (hs : Sl W W.heap.size A (n * 3) (ints zs)) :
    Calls Try.prog 23 #[.slice A n c, .int .i64 i] W fun e w' => (∃ v er, e = .returned (.tuple #[.int .i64 v, .int .i64 er]) ∧ RespX zs n i v er) ∧ Below W.heap.size W w' := by
  by_cases h : ranksOk zs n
  · have H := Lib.hid h
    by_cases h0 : i < 0
    · clear h
      go_enter Try.func23, Try.ntmps23
      go_wp2_with fail
      refine (rcheck_ok A n c zs _ H.out hs).mono ?_
      rintro e w1 ⟨rfl, b1⟩
      clear hs
      go_wp2_with fail
      go_ret2
      exact ⟨⟨0, 1, rfl, .out H.out (.inl h0)⟩, b1⟩
    · by_cases h1 : (n : Int) ≤ i
      · clear h
        go_enter Try.func23, Try.ntmps23
        go_wp2_with fail
        refine (rcheck_ok A n c zs _ H.out hs).mono ?_
        rintro e w1 ⟨rfl, b1⟩
        clear hs
        go_wp2_with fail
        go_ret2
        exact ⟨⟨0, 1, rfl, .out H.out (.inr h1)⟩, b1⟩
      · obtain ⟨k, rfl⟩ := Int.eq_ofNat_of_zero_le (show 0 ≤ i by omega)
        have hk : k < n := by omega
        have hkI : (k : Int) < n := by omega
        have hk0 : (0 : Int) ≤ k := by omega
        clear h h0 h1
        go_enter Try.func23, Try.ntmps23
        go_wp2_with fail
        refine (rcheck_ok A n c zs _ H.out hs).mono ?_
        rintro e w1 ⟨rfl, b1⟩
        have s1 := hs.on b1
        clear hs
        go_wp2_with fail
        refine (resp_any A n c zs k _ H.out hk hc s1).mono ?_
        rintro e w2 ⟨⟨R, rfl, hR⟩, b2⟩
        have s2 := s1.on b2
        have b3 := b1.trans (b2.mono b1.size)
        obtain ⟨b, off, rfl, hbl, -⟩ := s2.int_at (k := k * 3) (by omega)
        obtain ⟨c0, c1, c2⟩ := s2.three hk
        have HR := Lib.hid hR
        clear s1 s2 b1 b2 hR
        by_cases hd : fd zs k 2 < R
        · have HD := Lib.hid hd
          go_wp2_with fail
          go_ret2
          exact ⟨⟨0, 8, rfl, .late H.out k hk rfl R HR.out HD.out⟩, b3⟩
        · have hd2 : R ≤ fd zs k 2 := by omega
          have HD := Lib.hid hd2
          clear hd2
          go_wp2_with fail
          go_ret2
          exact ⟨⟨R, 0, rfl, .fits H.out k hk rfl R HR.out HD.out⟩, b3⟩
  · have H := Lib.hid h
    have hne := ranksErr_ne n
    clear h
    go_enter Try.func23, Try.ntmps23
    go_wp2_with fail
    refine (rcheck_bad A n c zs _ H.out hs hnn).mono ?_
    rintro e w1 ⟨rfl, b1⟩
    clear hs
    go_wp2_with fail
    go_ret2
    exact ⟨⟨0, ranksErr n, rfl, .bad H.out⟩, b1⟩
end Go.Proofs.Ytigekbidbeilnaa
