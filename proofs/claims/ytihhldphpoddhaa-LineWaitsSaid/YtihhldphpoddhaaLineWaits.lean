/- LineWaits: what is left is the most by which arrivals since some time exceed what the link takes since. -/
import Derived.Test.YtihhldphpoddhaaLineTwo
import Derived.Test.YtihhldphpoddhaaSumA
set_option linter.unusedVariables false
namespace Go.Proofs.Ytihhldphpoddhaa
open Go.RowKit
/-- What came since s, above what the link takes since. -/
def xs_ (a : List Int) (r : Int) (t s : Nat) : Int := psum a t - psum a s - r * ((t : Int) - s)
theorem xs_succ (a : List Int) (r : Int) (t s : Nat) : xs_ a r (t + 1) s = xs_ a r t s + gi a t - r := by
  unfold xs_
  rw [psum_succ, Int.natCast_succ, show (t : Int) + 1 - s = (t : Int) - s + 1 by omega, Int.mul_add, Int.mul_one]
  omega
theorem xs_self (a : List Int) (r : Int) (t : Nat) : xs_ a r t t = 0 := by
  unfold xs_
  rw [Int.sub_self, Int.sub_self, Int.mul_zero]
  rfl
/-- Lindley. -/
theorem lindley {a : List Int} {r : Int} (h : lineOk a r) (t : Nat) (ht : t ≤ a.length) : (∀ s, s ≤ t → xs_ a r t s ≤ lbuf a r t) ∧ ∃ s, s ≤ t ∧ lbuf a r t = xs_ a r t s := by
  induction t with
  | zero => exact ⟨fun s hs => by obtain rfl : s = 0 := by omega
                                  rw [xs_self]; exact Int.le_refl _, 0, Nat.le_refl _, by rw [xs_self]; rfl⟩
  | succ t ih =>
    obtain ⟨i1, s0, hs0, i2⟩ := ih (by omega)
    have b1 := lbuf_bd h t (by omega)
    have b2 := lbuf_bd h (t + 1) ht
    have hm := mn_le (lbuf a r t + gi a t) r
    have hS := lbuf_succ a r t
    rw [ldep_def] at hS
    refine ⟨fun s hs => ?_, ?_⟩
    · rcases Nat.lt_or_ge s (t + 1) with h1 | h1
      · have := i1 s (by omega)
        rw [xs_succ]
        omega
      · obtain rfl : s = t + 1 := by omega
        rw [xs_self]
        exact b2.1
    · rcases hm.2.2 with e | e
      · exact ⟨t + 1, Nat.le_refl _, by rw [xs_self]; omega⟩
      · exact ⟨s0, by omega, by rw [xs_succ, ← i2]; omega⟩
def wmax (a : List Int) (r : Int) (t : Nat) : Nat → Int
  | 0 => 0
  | j + 1 => if wmax a r t j < xs_ a r t j then xs_ a r t j else wmax a r t j
def whit (a : List Int) (r : Int) (t : Nat) : Nat → Bool
  | 0 => false
  | j + 1 => whit a r t j || xs_ a r t j == lbuf a r t
theorem wmax_succ (a : List Int) (r : Int) (t j : Nat) : wmax a r t (j + 1) = if wmax a r t j < xs_ a r t j then xs_ a r t j else wmax a r t j := rfl
theorem whit_succ (a : List Int) (r : Int) (t j : Nat) : whit a r t (j + 1) = (whit a r t j || xs_ a r t j == lbuf a r t) := rfl
theorem wmax_ge (a : List Int) (r : Int) (t n i : Nat) (h : i < n) : xs_ a r t i ≤ wmax a r t n := by
  induction n with
  | zero => omega
  | succ n ih =>
    rw [wmax_succ]
    rcases Nat.lt_or_ge i n with hi | hi
    · have := ih hi
      split <;> omega
    · obtain rfl : i = n := by omega
      split <;> omega
theorem wmax_le (a : List Int) (r : Int) (t n : Nat) (m : Int) (h0 : 0 ≤ m) (h : ∀ i, i < n → xs_ a r t i ≤ m) : 0 ≤ wmax a r t n ∧ wmax a r t n ≤ m := by
  induction n with
  | zero => exact ⟨Int.le_refl _, h0⟩
  | succ n ih =>
    have x := ih fun i hi => h i (by omega)
    have y := h n (by omega)
    rw [wmax_succ]
    split <;> omega
theorem whit_of (a : List Int) (r : Int) (t n i : Nat) (h : i < n) (he : lbuf a r t = xs_ a r t i) : whit a r t n = true := by
  induction n with
  | zero => omega
  | succ n ih =>
    rw [whit_succ]
    rcases Nat.lt_or_ge i n with hi | hi
    · rw [ih hi]; rfl
    · obtain rfl : i = n := by omega
      rw [he]
      simp
theorem waits_end {a : List Int} {r : Int} (h : lineOk a r) (t : Nat) (ht : t ≤ a.length) : wmax a r t (t + 1) = lbuf a r t ∧ whit a r t (t + 1) = true := by
  obtain ⟨h1, s, hs, h2⟩ := lindley h t ht
  have b := lbuf_bd h t ht
  have c := wmax_le a r t (t + 1) _ b.1 fun i hi => h1 i (by omega)
  have d := wmax_ge a r t (t + 1) s (by omega)
  exact ⟨by omega, whit_of a r t _ s (by omega) h2⟩
set_option maxRecDepth 100000 in
set_option maxHeartbeats 3200000 in
theorem lineWaits_walk (A : Option Addr) (n c : Nat) (l : List Int) (r : Int) (W : World) (w0 : InInts W A n c l) (_ : -9223372036854775808 ≤ r ∧ r ≤ 9223372036854775807) :
    Calls Try.prog 6 #[.slice A n c, .int .i64 r] W fun e w' => e = .returned (.bool true) ∧ Below W.heap.size W w' := by
  obtain ⟨s1, l1, r1, _⟩ := w0
  go_enter Try.func6, Try.ntmps6
  go_wp2_with fail
  refine (lrun_ex [5, 0, 1] 2 [2, 2, 2] [3, 1, 0] 3 rfl ⟨⟨by decide, by decide⟩, by decide, by decide⟩ (by decide) (by decide) _ _ _ (by exact Sl.built_ _ (ints [5, 0, 1]) _ _ rfl rfl)).mono ?_
  rintro e w1 ⟨A1, c1, A1', c1', rfl, hs1, hs1', hb1'⟩
  have hb1 : Below W.heap.size W w1 := (below_alloc (Below.refl _ W) (.cells (ints [5, 0, 1]).toArray 3)).trans (hb1'.mono (by simp))
  clear hb1'
  go_wp2_with fail
  refine (equal_any _ _ _ _ _ _ _ [2, 2, 2] _ _ _ (hs1.alloc (Nat.le_refl _) _) (Sl.built w1 (ints [2, 2, 2]) _ rfl) (by decide)).mono ?_
  rintro e w2 ⟨rfl, q, rfl⟩
  have hb2 := bel_drewN (below_alloc hb1 (.cells (ints [2, 2, 2]).toArray 3)) q
  have hs2' : Sl ((w1.alloc (.cells (ints [2, 2, 2]).toArray 3)).drewN q) ((w1.alloc (.cells (ints [2, 2, 2]).toArray 3)).drewN q).heap.size A1' 3 (ints [3, 1, 0]) := ((hs1'.alloc (Nat.le_refl _) (.cells (ints [2, 2, 2]).toArray 3)).more (by simp)).drewN q
  obtain ⟨w2, hw2⟩ : ∃ w2, w2 = (w1.alloc (.cells (ints [2, 2, 2]).toArray 3)).drewN q := ⟨_, rfl⟩
  have hz2 : w2.heap.size = w1.heap.size + 1 := by rw [hw2]; show (w1.alloc _).heap.size = _; simp
  rw [← hw2] at hb2 hs2'
  clear hs1 hs1' hb1
  go_wp2_with fail
  rw [← hw2]
  refine (equal_any _ _ _ _ _ _ _ [3, 1, 0] _ _ _ (hs2'.alloc (Nat.le_refl _) _) (Sl.built_ w2 (ints [3, 1, 0]) _ _ hz2.symm rfl) (by decide)).mono ?_
  rintro e w3 ⟨rfl, q', rfl⟩
  have hb3 := bel_drewN (below_alloc hb2 (.cells (ints [3, 1, 0]).toArray 3)) q'
  have s3 := s1.on hb3
  have hlen := s3.int_len
  clear hb2 hs2' hw2 hz2 s1
  go_wp2_with fail
  by_cases h : lineOk l r
  · refine (lrun_ok A n c l r _ h s3).mono ?_
    rintro e w4 ⟨A4, c4, A5, c5, rfl, _, hy, hb4', _, hcap⟩
    have hb4 : Below W.heap.size W w4 := hb3.trans (hb4'.mono hb3.size)
    have s4 := s3.on hb4'
    have H := Lib.hid h
    have HL := Lib.hid hlen
    have hn : n ≤ 60 := by have := h.1.1; omega
    have hr1 := h.2.1
    have hr2 := h.2.2
    have hnn : ((n : Int) != n) = false := by simp
    clear hb3 hb4' s3 hlen h
    go_wp2_with fail
    refine (sum_ok A n c l _ H.out.1 s4).mono ?_
    rintro e w5 ⟨A6, c6, rfl, hf, hb5', hcap6⟩
    have hb5 : Below W.heap.size W w5 := hb4.trans (hb5'.mono hb4.size)
    have hy5 := hy.on hb5'
    clear hb4 hb5' s4 hy
    go_wp2_with fail
    go_loopw [66, 13, 14, 15, 16, 17] (fun i _ _ _ _ _ wr => ∃ k : Nat, k ≤ n ∧ i = .int .i64 k ∧ ∃ q, wr = w5.drewN q) (fun i _ _ _ _ _ _ => n - (intOf i).toNat)
    case atStart => exact ⟨0, Nat.zero_le _, rfl, 0, rfl⟩
    case round =>
      obtain ⟨i, hi, rfl, q, rfl⟩ := hrel
      by_cases hlt : i < n
      · obtain ⟨b, off, rfl, q1, hc⟩ := hy5.int_at hlt
        rw [tab_get _ hlt] at hc
        obtain ⟨b2, off2, rfl, q2, hc2⟩ := hf.int_at (k := i + 1) (by omega)
        rw [cumul_get (by rw [HL.out]; omega)] at hc2
        have hil : i < l.length := by rw [HL.out]; exact hlt
        have hn1 : (i : Int) < n := by omega
        have hk0 : (0 : Int) ≤ i := by omega
        have hp1 := psum_bd H.out.1 (i + 1) (by omega)
        have hbb := lbuf_bd H.out (i + 1) (by omega)
        go_wp2_with fail
        go_loopw [71, 14, 15, 16, 17] (fun j m h _ _ wr => ∃ k : Nat, k ≤ i + 2 ∧ j = .int .i64 k ∧ m = .int .i64 (wmax l r (i + 1) k) ∧ h = .bool (whit l r (i + 1) k) ∧ ∃ q, wr = w5.drewN q) (fun j _ _ _ _ _ => i + 2 - (intOf j).toNat)
        case atStart => exact ⟨0, by omega, rfl, rfl, rfl, q, rfl⟩
        case round =>
          obtain ⟨j, hj, rfl, rfl, rfl, q', rfl⟩ := hrel
          by_cases hlt2 : j < i + 2
          · have hc3 := hf.int_cell (k := j) (by omega)
            rw [cumul_get (by rw [HL.out]; omega)] at hc3
            have hp2 := psum_bd H.out.1 j (by omega)
            have hm1 : (j : Int) < i + 2 := by omega
            have hm0 : (0 : Int) ≤ j := by omega
            have p1 : 0 ≤ r * ((i : Int) + 1 - j) := Int.mul_nonneg hr1 (by omega)
            have p2 : r * ((i : Int) + 1 - j) ≤ 10000 * 61 := Int.mul_le_mul hr2 (by omega) (by omega) (by omega)
            have hX : Hid (psum l (i + 1) - psum l j - r * ((i : Int) + 1 - j) = xs_ l r (i + 1) j) := rfl
            have f1 : IntKind.i64.wrap ((i : Int) + 1) = (i : Int) + 1 := IntWalk.i64_in _ ⟨by omega, by omega⟩
            have f2 : ((i : Int) + 1).toNat = i + 1 := by omega
            have f3 : 0 ≤ (i : Int) + 1 := by omega
            have f4 : (i : Int) < n := by omega
            have f5 : IntKind.i64.wrap (psum l (i + 1) - psum l j) = psum l (i + 1) - psum l j := IntWalk.i64_in _ ⟨by omega, by omega⟩
            have f6 : IntKind.i64.wrap ((i : Int) + 1 - j) = (i : Int) + 1 - j := IntWalk.i64_in _ ⟨by omega, by omega⟩
            have f7 : IntKind.i64.wrap (r * ((i : Int) + 1 - j)) = r * ((i : Int) + 1 - j) := IntWalk.i64_in _ ⟨by omega, by omega⟩
            have f8 : IntKind.i64.wrap (psum l (i + 1) - psum l j - r * ((i : Int) + 1 - j)) = xs_ l r (i + 1) j := by rw [IntWalk.i64_in _ ⟨by omega, by omega⟩]; exact hX.out
            have f9 : wrap64 (psum l (i + 1) - psum l j - r * ((i : Int) + 1 - j)) = xs_ l r (i + 1) j := by rw [IntWalk.wrap64_in _ ⟨by omega, by omega⟩]; exact hX.out
            have f10 : wrap64 (r * ((i : Int) + 1 - j)) = r * ((i : Int) + 1 - j) := IntWalk.wrap64_in _ ⟨by omega, by omega⟩
            have hS1 := (wmax_succ l r (i + 1) j).symm
            have hS2 := Lib.hid (whit_succ l r (i + 1) j)
            clear hf hy5 p1 p2
            cases hw : whit l r (i + 1) j with
            | true =>
              rw [hw] at hS2
              have hS2' := Lib.hid (hS2.out.trans (Bool.true_or _))
              clear hw hS2
              go_wp2_with fail
              go_quiet (fail)
              go_wp2_with fail
              go_roundw
              case rel => exact ⟨j + 1, by omega, by go_num, rfl, by rw [hS2'.out], _, rfl⟩
              case measure => simp [intOf]; omega
            | false =>
              rw [hw] at hS2
              have hS2' := Lib.hid (hS2.out.trans (Bool.false_or _))
              clear hw hS2
              go_wp2_with fail
              go_quiet (fail)
              go_wp2_with fail
              go_roundw
              case rel => exact ⟨j + 1, by omega, by go_num, rfl, by rw [hS2'.out], _, rfl⟩
              case measure => simp [intOf]; omega
          · have hjn : j = i + 2 := by omega
            subst hjn
            obtain ⟨z1, z2⟩ := waits_end H.out (i + 1) (by omega)
            have z3 : (lbuf l r (i + 1) != lbuf l r (i + 1)) = false := by simp
            clear hf hy5
            go_wp2_with fail
            go_roundw
            case rel => exact ⟨i + 1, by omega, by go_num, _, rfl⟩
            case measure => simp [intOf]; omega
      · have hkn : i = n := by omega
        subst hkn
        clear hf hy5
        go_wp2_with fail
        go_ret
        exact ⟨rfl, bel_drewN hb5 _⟩
  · refine (lrun_bad A n c l r _ _ h s3 (by omega)).mono ?_
    rintro e w4 ⟨rfl, rfl⟩
    have hne := lineErr_ne l r
    go_wp2_with fail
    by_cases ht : traceOk l
    · refine (sum_ok A n c l _ ht s3).mono ?_
      rintro e w5 ⟨A6, c6, rfl, hf, hb5', hcap6⟩
      have hb5 : Below W.heap.size W _ := hb3.trans (hb5'.mono hb3.size)
      clear h ht s3 hlen hb5'
      go_wp2_with fail
      go_ret
      exact ⟨rfl, hb5⟩
    · refine (sum_bad A n c l _ _ ht s3 (by omega)).mono ?_
      rintro e w5 ⟨rfl, rfl⟩
      have hne2 := traceErr_ne l
      clear h ht s3 hlen
      go_wp2_with fail
      go_ret
      exact ⟨rfl, hb3⟩
end Go.Proofs.Ytihhldphpoddhaa
