/- FifoShift: time shifts carry over, and later packets do not affect earlier ones. -/
import Derived.Test.YtihhldphpoddhaaPackA
import Derived.Test.YtihhldphpoddhaaConcatP
import Derived.Test.YtihhldphpoddhaaKit0
set_option linter.unusedVariables false
namespace Go.Proofs.Ytihhldphpoddhaa
open Go.RowKit
theorem gi_appl {xs ys : List Int} {k : Nat} (h : k < xs.length) : gi (xs ++ ys) k = gi xs k := by
  rw [gi_eq h, gi_eq (by rw [List.length_append]; omega), List.getElem_append_left h]
theorem ffree_congr {xs ys : List Int} (n : Nat) (h : ∀ i, i < n → fd xs i 0 = fd ys i 0 ∧ fd xs i 1 = fd ys i 1) (k : Nat) (hk : k ≤ n) : ffree xs k = ffree ys k := by
  induction k with
  | zero => rfl
  | succ k ih => rw [ffree_succ, ffree_succ, ih (by omega), (h k (by omega)).1, (h k (by omega)).2]
theorem fdone_app {xs ys : List Int} {n m : Nat} (hx : xs.length = n * 3) : (fdone (xs ++ ys) (n + m)).take n = fdone xs n := by
  refine gi_ext (by rw [List.length_take, fdone, fdone, tab_len, tab_len]; omega) fun i hi => ?_
  rw [List.length_take, fdone, tab_len] at hi
  rw [gi_take (by omega), fdone, fdone, tab_get _ (by omega), tab_get _ (by omega)]
  exact ffree_congr (i + 1) (fun j hj => ⟨gi_appl (by omega), gi_appl (by omega)⟩) (i + 1) (Nat.le_refl _)
/-- The packets, those ahead of k later by d. -/
def lateT (zs : List Int) (n : Nat) (d : Int) (k : Nat) : List Int := flat3 n (fun a b => if a < k ∧ b = 0 then fd zs a 0 + d else fd zs a b)
theorem lateT_zero {zs : List Int} {n : Nat} (hl : zs.length = n * 3) (d : Int) : lateT zs n d 0 = zs := by
  unfold lateT
  refine Eq.trans (flat3_congr fun i hi j hj => ?_) (flat3_of hl)
  rw [if_neg (by omega)]
theorem lateT_set {zs : List Int} {n k : Nat} (d : Int) (hk : k < n) : (lateT zs n d k).set (k * 3 + 0) (fd zs k 0 + d) = lateT zs n d (k + 1) := by
  unfold lateT
  rw [flat3_set hk (by omega)]
  refine flat3_congr fun i hi j hj => ?_
  by_cases h1 : i = k ∧ j = 0
  · obtain ⟨rfl, rfl⟩ := h1
    rw [if_pos ⟨rfl, rfl⟩, if_pos ⟨by omega, rfl⟩]
  · rw [if_neg h1]
    by_cases h2 : i < k ∧ j = 0
    · rw [if_pos h2, if_pos ⟨by omega, h2.2⟩]
    · rw [if_neg h2, if_neg (by omega)]
theorem lateT_fd {zs : List Int} {n : Nat} {d : Int} {k i j : Nat} (hi : i < n) (hj : j < 3) : fd (lateT zs n d k) i j = if i < k ∧ j = 0 then fd zs i 0 + d else fd zs i j := fd_flat3 hi hj
theorem late_ok {zs : List Int} {n : Nat} {d : Int} (h : Packs zs n) (d0 : 0 ≤ d) (d1 : ∀ i, i < n → fd zs i 0 + d ≤ 200) : packErr (lateT zs n d n) n = 0 := by
  unfold packErr
  rw [if_neg (by have := h.top; omega)]
  refine (pfirst_zero _ _).2 fun i hi => ?_
  have e0 : fd (lateT zs n d n) i 0 = fd zs i 0 + d := by rw [lateT_fd hi (by omega), if_pos ⟨hi, rfl⟩]
  have e1 : fd (lateT zs n d n) i 1 = fd zs i 1 := by rw [lateT_fd hi (by omega), if_neg (by omega)]
  have e2 : fd (lateT zs n d n) i 2 = fd zs i 2 := by rw [lateT_fd hi (by omega), if_neg (by omega)]
  have a := h.at0 i hi
  have b := h.sz i hi
  have c := h.fl i hi
  have dd := d1 i hi
  have hA : ¬ pArg (lateT zs n d n) i := by unfold pArg; omega
  unfold pbad
  rw [if_neg hA]
  refine if_neg fun hh => ?_
  have hp := hh.1
  have hq := hh.2
  have e3 : fd (lateT zs n d n) (i - 1) 0 = fd zs (i - 1) 0 + d := by rw [lateT_fd (by omega) (by omega), if_pos ⟨by omega, rfl⟩]
  have u := h.up (i - 1) (by omega)
  rw [show i - 1 + 1 = i by omega] at u
  omega
theorem late_free {zs : List Int} {n : Nat} {d : Int} (h : Packs zs n) (d0 : 0 ≤ d) (k : Nat) (hk : k < n) : ffree (lateT zs n d n) (k + 1) = ffree zs (k + 1) + d := by
  induction k with
  | zero =>
    rw [ffree_succ, ffree_succ, lateT_fd hk (by omega), lateT_fd hk (by omega), if_pos ⟨hk, rfl⟩, if_neg (by omega)]
    have a := h.at0 0 hk
    unfold mx
    rw [show ffree (lateT zs n d n) 0 = 0 from rfl, show ffree zs 0 = 0 from rfl]
    split <;> split <;> omega
  | succ k ih =>
    rw [ffree_succ, ih (by omega), ffree_succ zs (k + 1), lateT_fd hk (by omega), lateT_fd hk (by omega), if_pos ⟨hk, rfl⟩, if_neg (by omega)]
    unfold mx
    split <;> split <;> omega
theorem packs_last {zs : List Int} {n : Nat} (h : Packs zs n) {i k : Nat} (hik : i ≤ k) (hk : k < n) : fd zs i 0 ≤ fd zs k 0 := by
  induction k with
  | zero => obtain rfl : i = 0 := by omega
            exact Int.le_refl _
  | succ k ih =>
    rcases Nat.lt_or_ge k i with h' | h'
    · obtain rfl : i = k + 1 := by omega
      exact Int.le_refl _
    · exact Int.le_trans (ih h' (by omega)) (h.up k hk)
set_option maxRecDepth 100000 in
set_option maxHeartbeats 6400000 in
theorem fifoShift_walk (A : Option Addr) (n c : Nat) (zs : List Int) (M : Option Addr) (m c2 : Nat) (ys : List Int) (d : Int) (W : World) (w0 : In3 W A n c zs) (w1 : In3 W M m c2 ys) (_ : -9223372036854775808 ≤ d ∧ d ≤ 9223372036854775807) :
    Calls Try.prog 10 #[.slice A n c, .slice M m c2, .int .i64 d] W fun e w' => e = .returned (.bool true) ∧ Below W.heap.size W w' := by
  obtain ⟨s0, l0, r0, _⟩ := w0
  obtain ⟨sm, lm, rm, _⟩ := w1
  go_enter Try.func10, Try.ntmps10
  go_wp2_with fail
  refine (fifo_any _ 1 _ [2, 3, 0] _ (Sl.built_ _ (ints [2, 3, 0]) 40 _ rfl rfl) (by omega) [5] 0 1 (by decide +kernel) rfl).mono ?_
  rintro e w1 ⟨A1, c1, rfl, s1, l1, bb1⟩
  have b1 := belLit1 (Below.refl W.heap.size W) bb1
  replace s0 := slLit1 s0 bb1
  replace sm := slLit1 sm bb1
  clear bb1
  go_wp2_with fail
  refine (equal_t A1 1 c1 [5] _ 1 _ [5] _ (slMore s1 _) (Sl.built_ _ (ints [5]) 3 _ rfl rfl) (by omega) (by omega) true (by decide)).mono ?_
  rintro e w2 ⟨rfl, bb2⟩
  have b2 := belLit1 b1 bb2
  replace s0 := slLit1 s0 bb2
  replace sm := slLit1 sm bb2
  clear b1 s1 bb2
  by_cases h0 : packErr zs n = 0
  case neg =>
    have hne : (packErr zs n != 0) = true := by simpa using h0
    have H0 := Lib.hid h0
    clear h0
    go_wp2_with fail
    refine (fifo_any A n c zs _ s0 (by omega) [] (packErr zs n) 0 (if_neg H0.out) rfl).mono ?_
    rintro e w3 ⟨A3, c3, rfl, s3, l3, bb3⟩
    have b3 := belLit0 b2 bb3
    clear b2 s0 s3 bb3 sm
    go_wp2_with fail
    go_ret
    exact ⟨rfl, b3⟩
  have P := Lib.hid (packs_of h0)
  have H0 := Lib.hid h0
  have n60 := P.out.top
  have hl := s0.int_len
  have HL := Lib.hid hl
  have HM := Lib.hid sm.int_len
  clear h0 hl
  go_wp2_with fail
  refine (fifo_any A n c zs _ s0 (by omega) (fdone zs n) 0 n (if_pos H0.out) (tab_len _ _)).mono ?_
  rintro e w3 ⟨A3, c3, rfl, s3, l3, bb3⟩
  have b3 := belLit0 b2 bb3
  replace s0 := slLit0 s0 bb3
  replace sm := slLit0 sm bb3
  have hnn : ((n : Int) != n) = false := by simp
  clear b2 bb3
  go_wp2_with fail
  refine (concatP w3.heap.size 2 A n c (ints zs) M m c2 (ints ys) _ (by simp) (World.cell?_alloc_at _ _ _ _ rfl) (World.cell?_alloc_at _ _ _ _ rfl) (slMore s0 _) (slMore sm _) (ints_one _) (ints_one _) (by omega)).mono ?_
  rintro e w4 ⟨v4, rfl, own4, bb4, z4⟩
  have b4 := belLit1 b3 bb4
  replace s0 := slLit1 s0 bb4
  replace s3 := slLit1 s3 bb4
  obtain ⟨A4, c4, rfl, l4⟩ := own_form own4
  have s4 := Sl.of_own3 own4
  rw [ints_app] at s4
  have HL4 := Lib.hid (show (zs ++ ys).length = (n + m) * 3 by rw [List.length_append, HL.out, HM.out]; omega)
  clear b3 bb4 own4 sm z4
  by_cases hc : packErr (zs ++ ys) (n + m) = 0
  · have HC := Lib.hid hc
    have nm : n + m ≤ 60 := (packs_of hc).top
    clear hc
    go_wp2_with fail
    refine (fifo_any A4 (n + m) c4 (zs ++ ys) _ s4 (by omega) (fdone (zs ++ ys) (n + m)) 0 (n + m) (if_pos HC.out) (tab_len _ _)).mono ?_
    rintro e w5 ⟨A5, c5, rfl, s5, l5, bb5⟩
    have b5 := belLit0 b4 bb5
    replace s0 := slLit0 s0 bb5
    replace s3 := slLit0 s3 bb5
    have st : Sl w5 w5.heap.size A5 n (ints (fdone zs n)) := by
      have := s5.take (k := n) (by omega)
      rwa [ints_take, fdone_app HL.out] at this
    have g1 : ¬ ((n : Int) + m < n) := by omega
    have g1' : ¬ (n + m < n) := by omega
    have g2 : (n : Int) ≤ c5 := by omega
    have g3 : (0 : Int) ≤ n := by omega
    clear b4 bb5 s4 s5
    go_wp2_with fail
    refine (equal_t A5 n c5 (fdone zs n) A3 n c3 (fdone zs n) _ st s3 (by omega) (by omega) true (by simp)).mono ?_
    rintro e w6 ⟨rfl, bb6⟩
    have b6 := belLit0 b5 bb6
    replace s0 := slLit0 s0 bb6
    replace s3 := slLit0 s3 bb6
    clear b5 bb6 st
    by_cases hn0 : n = 0
    case pos =>
      have e0 : ((n : Int) == 0) = true := by simp; omega
      clear s0 s3 hn0
      go_wp2_with fail
      go_ret
      exact ⟨rfl, b6⟩
    have e0 : ((n : Int) == 0) = false := by simp; omega
    have np : 0 < n := by omega
    clear hn0
    obtain ⟨b, off, hA, hbl, -⟩ := s0.int_at (k := 0) (by omega)
    subst hA
    obtain ⟨y0, y1, y2⟩ := s0.three (k := n - 1) (by omega)
    have q0 := P.out.at0 (n - 1) (by omega)
    have hu := Lib.hid (fun i (hi : i < n) => packs_last P.out (show i ≤ n - 1 by omega) (by omega))
    have f1 : IntKind.i64.wrap ((n : Int) - 1) = (n : Int) - 1 := IntWalk.i64_in _ ⟨by omega, by omega⟩
    have f2 : ((n : Int) - 1).toNat = n - 1 := by omega
    have f3 : 0 ≤ (n : Int) - 1 := by omega
    have f4 : (n : Int) - 1 < n := by omega
    obtain ⟨L, hL⟩ : ∃ L, fd zs (n - 1) 0 = L := ⟨_, rfl⟩
    have HLL := Lib.hid hL
    rw [hL] at y0 q0
    have f5 : IntKind.i64.wrap (200 - L) = 200 - L := IntWalk.i64_in _ ⟨by omega, by omega⟩
    have f6 : IntKind.i64.wrap (200 - L + 1) = 200 - L + 1 := IntWalk.i64_in _ ⟨by omega, by omega⟩
    have S0 := Lib.hid s0
    have S3 := Lib.hid s3
    have B6 := Lib.hid b6
    clear s0 s3 b6 hL
    go_wp2_with fail
    refine (within_t d (200 - L + 1) _ (by omega) (by omega) _ rfl).mono ?_
    rintro e _ ⟨rfl, rfl⟩
    have d0 := within_lo d (200 - L + 1) (by omega)
    have d1 := within_hi d (200 - L + 1) (by omega)
    generalize within d (200 - L + 1) = d' at *
    clear y0 y1 y2
    go_wp2_with fail
    refine (clonePacket _ n c (ints zs) _ S0.out (ints_one _) (by omega)).mono ?_
    rintro e w7 ⟨v, rfl, own7, bb7, z7⟩
    obtain ⟨g, cap, rfl, hg1, hg2⟩ := own7.form np
    rw [← lateT_zero HL.out d'] at own7
    have O7 := Lib.hid own7
    have BB7 := Lib.hid bb7
    clear own7 bb7
    go_wp2_with fail
    go_loopw [96, 14] (fun i _ wr => ∃ k : Nat, k ≤ n ∧ i = .int .i64 k ∧ wr.ownsRow w6.heap.size 40 3 (.slice (some ⟨g, 0, none⟩) n cap) n (ints (lateT zs n d' k)) ∧ Below w6.heap.size w6 wr) (fun i _ _ => n - (intOf i).toNat)
    case atStart => exact ⟨0, Nat.zero_le _, rfl, O7.out, BB7.out⟩
    case round =>
      obtain ⟨k, hk, rfl, hown, hb⟩ := hrel
      have HB := Lib.hid hb
      have HO := Lib.hid hown
      have hk0 : (0 : Int) ≤ k := by omega
      by_cases hlt : k < n
      · have hcj := hown.cellAt (k * 3) (by omega)
        rw [ints_get (by unfold lateT; rw [flat3_len]; omega), show gi (lateT zs n d' k) (k * 3) = fd zs k 0 from (lateT_fd (j := 0) hlt (by omega)).trans (if_neg (by omega))] at hcj
        have hfj := hown.frozenAt (k * 3)
        have hn1 : (k : Int) < n := by omega
        have p0 := P.out.at0 k hlt
        clear hown hb
        go_wp2_with fail
        go_roundw
        case rel =>
          refine ⟨k + 1, by omega, by go_num, ?_, HB.out.setCell (p := ⟨g, k * 3, none⟩) hg1 _⟩
          have e := (HO.out.stored (k * 3) (.int .i64 (fd zs k 0 + d'))).1
          rw [ints_set] at e
          rw [← lateT_set d' hlt]
          exact e
        case measure => simp [intOf]; omega
      · have hkn : k = n := by omega
        subst hkn
        have hn1 : ¬ (k : Int) < k := by omega
        have s8 := Sl.of_own3 hown
        have s08 := S0.out.on hb
        have s38 := S3.out.on hb
        have b8 := belLit0 B6.out hb
        have LO := Lib.hid (late_ok (d := d') P.out d0 fun i hi => by have := hu.out i hi; have := HLL.out; omega)
        clear hown hb
        go_wp2_with fail
        refine (fifo_any _ k cap (lateT zs k d' k) _ s8 (by omega) (fdone (lateT zs k d' k) k) 0 k (if_pos LO.out) (tab_len _ _)).mono ?_
        rintro e w9 ⟨A9, c9, rfl, s9, l9, bb9⟩
        have b9 := belLit0 b8 bb9
        replace s38 := slLit0 s38 bb9
        have S9 := Lib.hid s9
        have S39 := Lib.hid s38
        have B9 := Lib.hid b9
        clear s8 s08 b8 bb9 s9 s38 b9
        go_wp2_with fail
        go_loopw [125, 16] (fun i _ wr' => ∃ j : Nat, j ≤ k ∧ i = .int .i64 j ∧ ∃ q, wr' = w9.drewN q) (fun i _ _ => k - (intOf i).toNat)
        case atStart => exact ⟨0, Nat.zero_le _, rfl, 0, rfl⟩
        case round =>
          obtain ⟨j, hj, rfl, q, rfl⟩ := hrel
          have hj0 : (0 : Int) ≤ j := by omega
          by_cases hlt2 : j < k
          · obtain ⟨b9, o9, hA9, hb9, hc9⟩ := S9.out.int_at hlt2
            subst hA9
            obtain ⟨b3, o3, hA3, hb3, hc3⟩ := S39.out.int_at hlt2
            subst hA3
            have fb := ffree_bd P.out (j + 1) (by omega)
            rw [show gi (fdone (lateT zs k d' k) k) j = ffree zs (j + 1) + d' from (tab_get _ hlt2).trans (late_free P.out d0 j hlt2)] at hc9
            rw [show gi (fdone zs k) j = ffree zs (j + 1) from tab_get _ hlt2] at hc3
            generalize ffree zs (j + 1) = D at *
            have f7 : wrap64 (D + d') = D + d' := IntWalk.wrap64_in _ ⟨by omega, by omega⟩
            have f8 : (D + d' != D + d') = false := by simp
            have hn2 : (j : Int) < k := by omega
            go_wp2_with fail
            go_quiet (fail)
            go_wp2_with fail
            go_roundw
            case rel => exact ⟨j + 1, by omega, by go_num, _, rfl⟩
            case measure => simp [intOf]; omega
          · have hn2 : ¬ (j : Int) < k := by omega
            go_wp2_with fail
            go_ret
            exact ⟨rfl, bel_drewN B9.out _⟩
  · have hne : (packErr (zs ++ ys) (n + m) != 0) = true := by simpa using hc
    have hne2 : (packErr (zs ++ ys) (n + m) == 0) = false := by simpa using hc
    have HC := Lib.hid hc
    clear hc
    go_wp2_with fail
    refine (fifo_any A4 (n + m) c4 (zs ++ ys) _ s4 (by omega) [] (packErr (zs ++ ys) (n + m)) 0 (if_neg HC.out) rfl).mono ?_
    rintro e w6 ⟨A5, c5, rfl, s5, l5, bb5⟩
    have b6 := belLit0 b4 bb5
    replace s0 := slLit0 s0 bb5
    replace s3 := slLit0 s3 bb5
    clear b4 bb5 s4 s5
    by_cases hn0 : n = 0
    case pos =>
      have e0 : ((n : Int) == 0) = true := by simp; omega
      clear s0 s3 hn0
      go_wp2_with fail
      go_ret
      exact ⟨rfl, b6⟩
    have e0 : ((n : Int) == 0) = false := by simp; omega
    have np : 0 < n := by omega
    clear hn0
    obtain ⟨b, off, hA, hbl, -⟩ := s0.int_at (k := 0) (by omega)
    subst hA
    obtain ⟨y0, y1, y2⟩ := s0.three (k := n - 1) (by omega)
    have q0 := P.out.at0 (n - 1) (by omega)
    have hu := Lib.hid (fun i (hi : i < n) => packs_last P.out (show i ≤ n - 1 by omega) (by omega))
    have f1 : IntKind.i64.wrap ((n : Int) - 1) = (n : Int) - 1 := IntWalk.i64_in _ ⟨by omega, by omega⟩
    have f2 : ((n : Int) - 1).toNat = n - 1 := by omega
    have f3 : 0 ≤ (n : Int) - 1 := by omega
    have f4 : (n : Int) - 1 < n := by omega
    obtain ⟨L, hL⟩ : ∃ L, fd zs (n - 1) 0 = L := ⟨_, rfl⟩
    have HLL := Lib.hid hL
    rw [hL] at y0 q0
    have f5 : IntKind.i64.wrap (200 - L) = 200 - L := IntWalk.i64_in _ ⟨by omega, by omega⟩
    have f6 : IntKind.i64.wrap (200 - L + 1) = 200 - L + 1 := IntWalk.i64_in _ ⟨by omega, by omega⟩
    have S0 := Lib.hid s0
    have S3 := Lib.hid s3
    have B6 := Lib.hid b6
    clear s0 s3 b6 hL
    go_wp2_with fail
    refine (within_t d (200 - L + 1) _ (by omega) (by omega) _ rfl).mono ?_
    rintro e _ ⟨rfl, rfl⟩
    have d0 := within_lo d (200 - L + 1) (by omega)
    have d1 := within_hi d (200 - L + 1) (by omega)
    generalize within d (200 - L + 1) = d' at *
    clear y0 y1 y2
    go_wp2_with fail
    refine (clonePacket _ n c (ints zs) _ S0.out (ints_one _) (by omega)).mono ?_
    rintro e w7 ⟨v, rfl, own7, bb7, z7⟩
    obtain ⟨g, cap, rfl, hg1, hg2⟩ := own7.form np
    rw [← lateT_zero HL.out d'] at own7
    have O7 := Lib.hid own7
    have BB7 := Lib.hid bb7
    clear own7 bb7
    go_wp2_with fail
    go_loopw [96, 14] (fun i _ wr => ∃ k : Nat, k ≤ n ∧ i = .int .i64 k ∧ wr.ownsRow w6.heap.size 40 3 (.slice (some ⟨g, 0, none⟩) n cap) n (ints (lateT zs n d' k)) ∧ Below w6.heap.size w6 wr) (fun i _ _ => n - (intOf i).toNat)
    case atStart => exact ⟨0, Nat.zero_le _, rfl, O7.out, BB7.out⟩
    case round =>
      obtain ⟨k, hk, rfl, hown, hb⟩ := hrel
      have HB := Lib.hid hb
      have HO := Lib.hid hown
      have hk0 : (0 : Int) ≤ k := by omega
      by_cases hlt : k < n
      · have hcj := hown.cellAt (k * 3) (by omega)
        rw [ints_get (by unfold lateT; rw [flat3_len]; omega), show gi (lateT zs n d' k) (k * 3) = fd zs k 0 from (lateT_fd (j := 0) hlt (by omega)).trans (if_neg (by omega))] at hcj
        have hfj := hown.frozenAt (k * 3)
        have hn1 : (k : Int) < n := by omega
        have p0 := P.out.at0 k hlt
        clear hown hb
        go_wp2_with fail
        go_roundw
        case rel =>
          refine ⟨k + 1, by omega, by go_num, ?_, HB.out.setCell (p := ⟨g, k * 3, none⟩) hg1 _⟩
          have e := (HO.out.stored (k * 3) (.int .i64 (fd zs k 0 + d'))).1
          rw [ints_set] at e
          rw [← lateT_set d' hlt]
          exact e
        case measure => simp [intOf]; omega
      · have hkn : k = n := by omega
        subst hkn
        have hn1 : ¬ (k : Int) < k := by omega
        have s8 := Sl.of_own3 hown
        have s08 := S0.out.on hb
        have s38 := S3.out.on hb
        have b8 := belLit0 B6.out hb
        have LO := Lib.hid (late_ok (d := d') P.out d0 fun i hi => by have := hu.out i hi; have := HLL.out; omega)
        clear hown hb
        go_wp2_with fail
        refine (fifo_any _ k cap (lateT zs k d' k) _ s8 (by omega) (fdone (lateT zs k d' k) k) 0 k (if_pos LO.out) (tab_len _ _)).mono ?_
        rintro e w9 ⟨A9, c9, rfl, s9, l9, bb9⟩
        have b9 := belLit0 b8 bb9
        replace s38 := slLit0 s38 bb9
        have S9 := Lib.hid s9
        have S39 := Lib.hid s38
        have B9 := Lib.hid b9
        clear s8 s08 b8 bb9 s9 s38 b9
        go_wp2_with fail
        go_loopw [125, 16] (fun i _ wr' => ∃ j : Nat, j ≤ k ∧ i = .int .i64 j ∧ ∃ q, wr' = w9.drewN q) (fun i _ _ => k - (intOf i).toNat)
        case atStart => exact ⟨0, Nat.zero_le _, rfl, 0, rfl⟩
        case round =>
          obtain ⟨j, hj, rfl, q, rfl⟩ := hrel
          have hj0 : (0 : Int) ≤ j := by omega
          by_cases hlt2 : j < k
          · obtain ⟨b9, o9, hA9, hb9, hc9⟩ := S9.out.int_at hlt2
            subst hA9
            obtain ⟨b3, o3, hA3, hb3, hc3⟩ := S39.out.int_at hlt2
            subst hA3
            have fb := ffree_bd P.out (j + 1) (by omega)
            rw [show gi (fdone (lateT zs k d' k) k) j = ffree zs (j + 1) + d' from (tab_get _ hlt2).trans (late_free P.out d0 j hlt2)] at hc9
            rw [show gi (fdone zs k) j = ffree zs (j + 1) from tab_get _ hlt2] at hc3
            generalize ffree zs (j + 1) = D at *
            have f7 : wrap64 (D + d') = D + d' := IntWalk.wrap64_in _ ⟨by omega, by omega⟩
            have f8 : (D + d' != D + d') = false := by simp
            have hn2 : (j : Int) < k := by omega
            go_wp2_with fail
            go_quiet (fail)
            go_wp2_with fail
            go_roundw
            case rel => exact ⟨j + 1, by omega, by go_num, _, rfl⟩
            case measure => simp [intOf]; omega
          · have hn2 : ¬ (j : Int) < k := by omega
            go_wp2_with fail
            go_ret
            exact ⟨rfl, bel_drewN B9.out _⟩
end Go.Proofs.Ytihhldphpoddhaa
