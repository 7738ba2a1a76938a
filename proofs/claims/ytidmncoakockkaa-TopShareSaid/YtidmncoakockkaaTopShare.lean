/- TopShare: for the participant with the greatest backlog, a shared link is a dedicated link for the total backlog. -/
import Derived.Test.YtidmncoakockkaaTopA
import Derived.Test.YtidmncoakockkaaShareLast
import Derived.Test.YtidmncoakockkaaPlanA
import Derived.Test.YtidmncoakockkaaLawKit
set_option linter.unusedVariables false
namespace Go.Proofs.Ytidmncoakockkaa
open Go.RowKit
theorem hi_slist {l : List Int} {r : Int} (h : shareOk l r) (hp : 0 < l.length) : hi (gi (slist l r l.length)) (l.length - 1) = ceil (lsum l l.length) r := by
  obtain ⟨i, hi1, e⟩ := dsum_most h.1 hp
  refine Int.le_antisymm (hi_le fun j hj => ?_) ?_
  · rw [slist_get l r (by omega)]
    exact ceil_mono h.2.1 (dsum_all h.1 (by omega))
  · have := le_hi (gi (slist l r l.length)) (n := l.length - 1) (i := i) (by omega)
    rw [slist_get l r hi1, e] at this
    exact this
theorem zero61 : IsC 61 (tab 61 fun _ => 0) := isC_tab (by omega) (by omega) (fun _ _ => by omega) (fun _ _ => by omega) fun _ _ => by omega
theorem bound_zero {s r : Int} (j : Nat) (hj : j < 61) : boundP (tab 61 fun _ => 0) r s j ↔ s ≤ r * j := by
  unfold boundP
  rw [tab_get _ hj]
  omega
theorem sdone_t (A : Option Addr) (n c : Nat) (l : List Int) (r : Int) (W : World) (hs : Sl W W.heap.size A n (ints l)) (hn : n ≤ 9223372036854775807) (h : shareOk l r) (zs : List Int) (er : Int) (k : Nat) (hz : (slist l r n, (0 : Int)) = (zs, er)) (hk : zs.length = k) :
    Calls Try.prog 9 #[.slice A n c, .int .i64 r] W (RetSl W k zs er) := by
  injection hz with e1 e2
  subst e1 e2
  rw [slist_len] at hk
  subst hk
  exact (shareDone_ok A n c l r W h hs).mono fun e w' ⟨A', c', h1, h2, h3, h4⟩ => ⟨A', c', h1, h2, h4, h3⟩
theorem sdone_n (A : Option Addr) (n c : Nat) (l : List Int) (r : Int) (W : World) (hs : Sl W W.heap.size A n (ints l)) (hn : n ≤ 9223372036854775807) (h : ¬ shareOk l r) (zs : List Int) (er : Int) (k : Nat) (hz : (([] : List Int), shareErr l r) = (zs, er)) (hk : zs.length = k) :
    Calls Try.prog 9 #[.slice A n c, .int .i64 r] W (RetSl W k zs er) := by
  injection hz with e1 e2
  subst e1 e2
  subst hk
  exact (shareDone_bad A n c l r W _ h hs hn).mono fun e w' ⟨h1, h2⟩ => ⟨none, 0, h1, Sl.nil, Nat.le_refl _, h2 ▸ Below.refl _ _⟩
set_option maxRecDepth 100000 in
set_option maxHeartbeats 3200000 in
theorem topShare_walk (A_l : Option Addr) (n_l c_l : Nat) (l : List Int) (r : Int) (W : World) (w_l : InInts W A_l n_l c_l l) (w_r : -9223372036854775808 ≤ r ∧ r ≤ 9223372036854775807) :
    Calls Try.prog 3 #[.slice A_l n_l c_l, .int .i64 r] W fun e w' => e = .returned (.bool true) ∧ Below W.heap.size W w' := by
  obtain ⟨s_l, l_l, r_l, _⟩ := w_l
  have b0 := Below.refl W.heap.size W
  go_enter Try.func3, Try.ntmps3
  have hl_l := s_l.int_len
  by_cases hok : shareOk l r
  case neg =>
    have hne : (shareErr l r != 0) = true := by unfold shareErr; split <;> rfl
    have HOK := Lib.hid hok
    clear hok hl_l
    go_wp2_with fail
    refine (sdone_n A_l (n_l) c_l (l) (r) _ (s_l) (by omega) HOK.out ([]) (shareErr l r) (0) (rfl) (rfl)).mono ?_
    rintro e w1 ⟨A_x, c_x, rfl, s_x, l_x, bb1⟩
    have b1 := belLit0 b0 bb1
    replace s_l := slLit0 s_l bb1
    clear b0 bb1
    go_wp2_with fail
    refine (begun_any  _    (true) (rfl)).mono ?_
    rintro e w2 ⟨rfl, bb2⟩
    have b2 := belLit0 b1 bb2
    replace s_l := slLit0 s_l bb2
    replace s_x := slLit0 s_x bb2
    clear b1 bb2
    go_wp2_with fail
    refine (begun_any  _    (true) (rfl)).mono ?_
    rintro e w3 ⟨rfl, bb3⟩
    have b3 := belLit0 b2 bb3
    replace s_l := slLit0 s_l bb3
    replace s_x := slLit0 s_x bb3
    clear b2 bb3
    clear s_l s_x
    go_wp2_with fail
    go_ret
    exact ⟨rfl, b3⟩
  have HOK := Lib.hid hok
  have HL := Lib.hid hl_l
  have t8 := hok.1.1
  rw [hl_l] at t8
  have r0 := hok.2.1
  have r1 := hok.2.2
  clear hok hl_l
  have hnn : ((n_l : Int) != n_l) = false := by simp
  go_wp2_with fail
  refine (sdone_t A_l (n_l) c_l (l) (r) _ (s_l) (by omega) HOK.out (slist l r n_l) (0) (n_l) (rfl) (slist_len _ _ _)).mono ?_
  rintro e w4 ⟨A_x, c_x, rfl, s_x, l_x, bb4⟩
  have b4 := belLit0 b0 bb4
  replace s_l := slLit0 s_l bb4
  clear b0 bb4
  go_wp2_with fail
  refine (begun_any  _    (true) (rfl)).mono ?_
  rintro e w5 ⟨rfl, bb5⟩
  have b5 := belLit0 b4 bb5
  replace s_l := slLit0 s_l bb5
  replace s_x := slLit0 s_x bb5
  clear b4 bb5
  by_cases h0 : n_l = 0
  case pos =>
    have z0 : ((n_l : Int) == 0) = true := by simp; omega
    clear h0
    go_wp2_with fail
    refine (begun_any  _    (true) (rfl)).mono ?_
    rintro e w6 ⟨rfl, bb6⟩
    have b6 := belLit0 b5 bb6
    replace s_l := slLit0 s_l bb6
    replace s_x := slLit0 s_x bb6
    clear b5 bb6
    clear s_l s_x
    go_wp2_with fail
    go_ret
    exact ⟨rfl, b6⟩
  have z0 : ((n_l : Int) == 0) = false := by simp; omega
  have zp : 0 < n_l := by omega
  clear h0
  go_wp2_with fail
  have SX := Lib.hid s_x
  have LB := Lib.hid b5
  clear s_x b5
  go_loop [39, 7, 9] (fun i v _ => ∃ k : Nat, k ≤ n_l ∧ i = .int .i64 k ∧ v = .int .i64 (lsum l k)) (fun i _ _ => n_l - (intOf i).toNat)
  case atStart => exact ⟨0, Nat.zero_le _, rfl, rfl⟩
  case round =>
    obtain ⟨k, hk, rfl, rfl⟩ := hrel
    have sb := lsum_bd HOK.out.1 k (by rw [HL.out]; exact hk)
    by_cases hlt : k < n_l
    · obtain ⟨b, off, rfl, hb, hc⟩ := s_l.int_at hlt
      have lb := lag_bd HOK.out.1 (i := k) (by rw [HL.out]; exact hlt)
      have m1 : (k : Int) < n_l := by omega
      have m0 : (0 : Int) ≤ k := by omega
      have hsu := lsum_succ l k
      obtain ⟨q, hq⟩ : ∃ q, lsum l k = q := ⟨_, rfl⟩
      rw [hq] at sb hsu ⊢
      have HSU := Lib.hid hsu
      clear s_l hq hsu
      go_wp2_with fail
      go_round
      case rel => exact ⟨k + 1, by omega, by go_num, by rw [HSU.out]⟩
      case measure => simp [intOf]; omega
    · have hkn : k = n_l := by omega
      subst hkn
      have m1 : ¬ (k : Int) < k := by omega
      obtain ⟨q, hq⟩ : ∃ q, lsum l k = q := ⟨_, rfl⟩
      have Q := Lib.hid hq
      rw [hq] at sb ⊢
      have T := hi_slist HOK.out (by rw [HL.out]; exact zp)
      rw [HL.out, hq] at T
      obtain ⟨u, hu⟩ : ∃ u, ceil q r = u := ⟨_, rfl⟩
      have CI : ∀ t : Int, u ≤ t ↔ q ≤ t * r := fun t => by rw [← hu]; exact ceil_le_iff r0
      have u0 : 0 ≤ u := by rw [← hu]; exact ceil_nonneg r0 sb.1
      rw [hu] at T
      have TT := Lib.hid T
      have CC := Lib.hid CI
      have RO : Hid (rateOk r q) := ⟨by omega, r1, sb.1, by omega⟩
      clear s_l hq T CI hu
      have s_x := SX.out
      have bb := LB.out
      go_wp2_with (at_make; refine wpList_makeInts rfl _ _ rfl (61 : Int) (61 : Int) 61 rfl rfl rfl rfl (by omega) ?_; intro wm hom)
      have bm := belLit0 bb hom.bel
      replace s_x := slLit0 s_x hom.bel
      have s_z := hom.sl
      clear bb hom
      rcases boundR_ex 61 (tab 61 fun _ => 0) r q with ⟨d, q1, q2, q3, q4⟩ | ⟨q1, q2⟩
      · have ud : (u : Int) = d := by
          have a : u ≤ d := (CC.out d).2 (by have := (bound_zero d q1).1 q2; rw [Int.mul_comm]; exact this)
          rcases Int.lt_or_le u d with h | h
          · have b := q3 u.toNat (by omega)
            exact absurd ((bound_zero u.toNat (by omega)).2 (by rw [show ((u.toNat : Nat) : Int) = u by omega, Int.mul_comm]; exact (CC.out u).1 (Int.le_refl _))) b
          · omega
        have UD : (u == (d : Int)) = true := by simpa using ud
        have Q4 := Lib.hid q4
        clear q2 q3 q4 ud
        go_wp2_with fail
        refine (bound_any _ (61) 61 (tab 61 fun _ => 0) (r) (q) _ (s_z) (by omega) zero61 RO.out ((d : Int)) (0) (Q4.out)).mono ?_
        rintro e w7 ⟨rfl, bb7⟩
        have b7 := belLit0 bm bb7
        replace s_x := slLit0 s_x bb7
        replace s_z := slLit0 s_z bb7
        clear bm bb7
        go_wp2_with fail
        refine (smax_any A_x (k) c_x (slist l r k) _ (s_x) (by omega) zp (u) (TT.out)).mono ?_
        rintro e w8 ⟨rfl, bb8⟩
        have b8 := belLit0 b7 bb8
        replace s_x := slLit0 s_x bb8
        replace s_z := slLit0 s_z bb8
        clear b7 bb8
        clear s_x s_z
        go_wp2_with fail
        go_ret
        exact ⟨rfl, b8⟩
      · have ub : 60 < u := by
          rcases Int.lt_or_le 60 u with h | h
          · exact h
          · exact absurd ((bound_zero u.toNat (by omega)).2 (by rw [show ((u.toNat : Nat) : Int) = u by omega, Int.mul_comm]; exact (CC.out u).1 (Int.le_refl _))) (q1 u.toNat (by omega))
        have UB := decide_eq_true ub
        have Q4 := Lib.hid q2
        clear q1 q2
        go_wp2_with fail
        refine (bound_any _ (61) 61 (tab 61 fun _ => 0) (r) (q) _ (s_z) (by omega) zero61 RO.out (0) (5) (Q4.out)).mono ?_
        rintro e w9 ⟨rfl, bb9⟩
        have b9 := belLit0 bm bb9
        replace s_x := slLit0 s_x bb9
        replace s_z := slLit0 s_z bb9
        clear bm bb9
        go_wp2_with fail
        refine (smax_any A_x (k) c_x (slist l r k) _ (s_x) (by omega) zp (u) (TT.out)).mono ?_
        rintro e w10 ⟨rfl, bb10⟩
        have b10 := belLit0 b9 bb10
        replace s_x := slLit0 s_x bb10
        replace s_z := slLit0 s_z bb10
        clear b9 bb10
        clear s_x s_z
        go_wp2_with fail
        go_ret
        exact ⟨rfl, b10⟩
end Go.Proofs.Ytidmncoakockkaa
