/- ShareMore: a faster link delays nobody, and a smaller backlog of one participant delays no other. -/
import Derived.Test.YtopldjklmjkcmaaShareLast
import Derived.Test.YtopldjklmjkcmaaCloneInt
import Derived.StillTailTactics
set_option linter.unusedVariables false
namespace Go.Proofs.Ytopldjklmjkcmaa
open Go.RowKit
theorem dsum_mono {l l' : List Int} (hl : l'.length = l.length) (h : ∀ k, gi l' k ≤ gi l k) {i : Nat} (hi : i < l.length) : dsum l' i ≤ dsum l i := by
  rw [dsum_epart l hi, dsum_epart l' (by omega), hl]
  refine epart_mono _ _ _ _ _ fun j hj => ?_
  unfold ee contr
  have hj1 := h j
  have hi1 := h i
  split
  · exact hi1
  · split
    · exact mn_mono hj1 hi1
    · split
      · refine mn_mono hj1 ?_
        unfold mx
        split <;> split <;> omega
      · omega
theorem gi_set (l : List Int) (j k : Nat) (v : Int) (hj : j < l.length) : gi (l.set j v) k = if k = j then v else gi l k := by
  simp only [gi, List.getD_eq_getElem?_getD, List.getElem?_set]
  by_cases h : j = k
  · subst h
    simp [hj]
  · rw [if_neg h, if_neg (fun e => h e.symm)]
theorem ints_set (l : List Int) (j : Nat) (v : Int) : (ints l).set j (.int .i64 v) = ints (l.set j v) := by
  simp [ints, List.map_set]
theorem lags_set {l : List Int} (h : lagsOk l) (j : Nat) (v : Int) (h0 : 0 ≤ v) (h1 : v ≤ 1000) : lagsOk (l.set j v) := by
  refine ⟨by rw [List.length_set]; exact h.1, fun z hz => ?_⟩
  rcases List.mem_or_eq_of_mem_set hz with hz | rfl
  · exact h.2 z hz
  · exact ⟨h0, h1⟩
set_option maxRecDepth 100000 in
set_option maxHeartbeats 3200000 in
theorem shareMore_walk (A : Option Addr) (n c : Nat) (l : List Int) (r more i less : Int) (W : World) (w0 : InInts W A n c l) (_ : -9223372036854775808 ≤ r ∧ r ≤ 9223372036854775807) (_ : -9223372036854775808 ≤ more ∧ more ≤ 9223372036854775807)
    (_ : -9223372036854775808 ≤ i ∧ i ≤ 9223372036854775807) (_ : -9223372036854775808 ≤ less ∧ less ≤ 9223372036854775807) :
    Calls Try.prog 13 #[.slice A n c, .int .i64 r, .int .i64 more, .int .i64 i, .int .i64 less] W fun e w' => e = .returned (.bool true) ∧ Below W.heap.size W w' := by
  obtain ⟨s1, l1, r1, _⟩ := w0
  go_enter Try.func13, Try.ntmps13
  go_wp2_with fail
  refine (shareDone_ex [1, 1, 1] 2 [1, 1, 2] 3 rfl ⟨⟨by decide, by decide⟩, by decide, by decide⟩ (by decide) _ _ _ (by exact Sl.built_ _ (ints [1, 1, 1]) _ _ rfl rfl)).mono ?_
  rintro e w1 ⟨A1, c1, rfl, hs1, hb1'⟩
  have hb1 : Below W.heap.size W w1 := (below_alloc (Below.refl _ W) (.cells (ints [1, 1, 1]).toArray 3)).trans (hb1'.mono (by simp))
  clear hb1'
  go_wp2_with fail
  refine (equal_any _ _ _ _ _ _ _ [1, 1, 2] _ _ _ (hs1.alloc (Nat.le_refl _) _) (Sl.built w1 (ints [1, 1, 2]) _ rfl) (by decide)).mono ?_
  rintro e w2 ⟨rfl, q, rfl⟩
  have hb2 := bel_drewN (below_alloc hb1 (.cells (ints [1, 1, 2]).toArray 3)) q
  have s2 := s1.on hb2
  have hlen := s2.int_len
  clear hs1 hb1 s1
  go_wp2_with fail
  by_cases h : shareOk l r
  · refine (shareDone_ok A n c l r _ h s2).mono ?_
    rintro e w3 ⟨A3, c3, rfl, hx, hb3', hcap⟩
    have hb3 : Below W.heap.size W w3 := hb2.trans (hb3'.mono hb2.size)
    have s3 := s2.on hb3'
    have H := Lib.hid h
    have HL := Lib.hid hlen
    have hn : n ≤ 8 := by have := h.1.1; omega
    have hr1 := h.2.1
    have hr2 := h.2.2
    clear hb2 hb3' s2 h hlen
    rcases Nat.eq_zero_or_pos n with rfl | hpos
    · clear s3 hx
      go_wp2_with fail
      go_ret
      exact ⟨rfl, hb3⟩
    · have hn0 : ((n : Int) == 0) = false := by simp; omega
      have hnn : ((n : Int) != n) = false := by simp
      go_wp2_with fail
      refine (within_any more _ _ (by omega) (by omega)).mono ?_
      rintro e w' ⟨rfl, rfl⟩
      have k1 := within_lo more (10000 - r + 1) (by omega)
      have k2 := within_hi more (10000 - r + 1) (by omega)
      generalize within more (10000 - r + 1) = m at *
      go_wp2_with fail
      refine (shareDone_ok A n c l (r + m) _ ⟨H.out.1, by omega, by omega⟩ s3).mono ?_
      rintro e w4 ⟨A4, c4, rfl, hy, hb4', hcap4⟩
      have hb4 : Below W.heap.size W w4 := hb3.trans (hb4'.mono hb3.size)
      have s4 := s3.on hb4'
      have hx4 := hx.on hb4'
      clear hb3 hb4' s3 hx
      go_wp2_with fail
      refine (within_any i n _ (by omega) (by omega)).mono ?_
      rintro e w' ⟨rfl, rfl⟩
      have k3 := within_lo i n (by omega)
      have k4 := within_hi i n (by omega)
      obtain ⟨j, hj⟩ := Int.eq_ofNat_of_zero_le k3
      rw [hj] at k3 k4 ⊢
      clear hj
      have hjn : j < n := by omega
      go_wp2_with fail
      refine (cloneInt A n c _ _ s4 (ints_one _) (by omega)).mono ?_
      rintro e w5 ⟨v5, rfl, hown5, hb5', hz5⟩
      have hb5 : Below W.heap.size W w5 := hb4.trans (hb5'.mono hb4.size)
      have s5 := s4.on hb5'
      have hx5 := hx4.on hb5'
      have hy5 := hy.on hb5'
      have hkeep := Lib.hid (And.intro hx4 hy)
      obtain ⟨g, cap, rfl, hg1, hg2⟩ := hown5.form hpos
      have hcj := hown5.cellAt j (by omega)
      rw [ints_get (by rw [HL.out]; exact hjn)] at hcj
      have hfj := hown5.frozenAt j
      have hlj := lag_bd H.out.1 (i := j) (by rw [HL.out]; exact hjn)
      have k5 := within_lo less (gi l j + 1) (by omega)
      have k6 := within_hi less (gi l j + 1) (by omega)
      have f1 : IntKind.i64.wrap (gi l j + 1) = gi l j + 1 := IntWalk.i64_in _ ⟨by omega, by omega⟩
      have f2 : IntKind.i64.wrap (gi l j - within less (gi l j + 1)) = gi l j - within less (gi l j + 1) := IntWalk.i64_in _ ⟨by omega, by omega⟩
      have ho := Lib.hid hown5
      have hbh := Lib.hid hb5
      have hb5h := Lib.hid hb5'
      have hb4h := Lib.hid hb4
      have S4 := Lib.hid s4
      clear hb4 hb5 hb5' s4 s5 hx4 hy hx5 hy5 hown5
      go_wp2_with fail
      refine wp_region_still_tail 13 (by kernel_rfl) (by kernel_rfl) ?_
      simp only [List.take_succ_cons, List.take_zero, List.drop_succ_cons, List.drop_zero]
      repeat still_step
      still_call ((within_any less (gi l j + 1) w5.drew (by omega) (by omega)).mono fun _ _ ⟨h1, h2⟩ => ⟨h1, h2.symm⟩)
      repeat still_step
      refine wpStill_nil ?_
      change wpList _ _ _ _ _ w5.drew
      go_wp2_with fail
      have hown6 := (ho.out.stored j (.int .i64 (gi l j - within less (gi l j + 1)))).1
      rw [ints_set] at hown6
      have hs6 : Sl (w5.setCell ⟨g, j, none⟩ (.int .i64 (gi l j - within less (gi l j + 1)))).drew (w5.setCell ⟨g, j, none⟩ (.int .i64 (gi l j - within less (gi l j + 1)))).drew.heap.size (some ⟨g, 0, none⟩) n (ints (l.set j (gi l j - within less (gi l j + 1)))) := Sl.of_own hown6
      have hb6 : Below w4.heap.size w4 (w5.setCell ⟨g, j, none⟩ (.int .i64 (gi l j - within less (gi l j + 1)))).drew := (hb5h.out.setCell (p := ⟨g, j, none⟩) hg1 _).drew
      have hb7 : Below W.heap.size W (w5.setCell ⟨g, j, none⟩ (.int .i64 (gi l j - within less (gi l j + 1)))).drew := by
        have x := hbh.out.setCell (p := ⟨g, j, none⟩) (Nat.le_trans hb4h.out.size hg1) (.int .i64 (gi l j - within less (gi l j + 1)))
        exact x.drew
      generalize (w5.setCell ⟨g, j, none⟩ (.int .i64 (gi l j - within less (gi l j + 1)))).drew = w6 at hs6 hb6 hb7 ⊢
      have hok' : lagsOk (l.set j (gi l j - within less (gi l j + 1))) := lags_set H.out.1 _ _ (by omega) (by omega)
      have hle : ∀ k, gi (l.set j (gi l j - within less (gi l j + 1))) k ≤ gi l k := by
        intro k
        rw [gi_set _ _ _ _ (by rw [HL.out]; exact hjn)]
        split
        · rename_i e; subst e; omega
        · exact Int.le_refl _
      have hll : (l.set j (gi l j - within less (gi l j + 1))).length = l.length := by rw [List.length_set]
      generalize l.set j (gi l j - within less (gi l j + 1)) = l' at hs6 hok' hle hll
      have hx6 := hkeep.out.1.on hb6
      have hy6 := hkeep.out.2.on hb6
      have HK := Lib.hid (And.intro hle hll)
      clear hle hll hown6 hb6 hcj hfj f1 f2 ho
      refine (shareDone_ok _ n cap l' r _ ⟨hok', hr1, hr2⟩ hs6).mono ?_
      rintro e w7 ⟨A7, c7, rfl, hz7, hb8, hcap7⟩
      have hb9 : Below W.heap.size W w7 := hb7.trans (hb8.mono hb7.size)
      have hx7 := hx6.on hb8
      have hy7 := hy6.on hb8
      clear hx6 hy6 hb7 hb8 hs6
      go_wp2_with fail
      go_loopw [125, 20] (fun i _ wr => ∃ k : Nat, k ≤ n ∧ i = .int .i64 k ∧ ∃ q, wr = w7.drewN q) (fun i _ _ => n - (intOf i).toNat)
      case atStart => exact ⟨0, Nat.zero_le _, rfl, 0, rfl⟩
      case round =>
        obtain ⟨k, hk, rfl, q, rfl⟩ := hrel
        by_cases hlt : k < n
        · obtain ⟨b1, o1, rfl, q1, hc1⟩ := hx7.int_at hlt
          obtain ⟨b2, o2, rfl, q2, hc2⟩ := hy7.int_at hlt
          obtain ⟨b3, o3, rfl, q3, hc3⟩ := hz7.int_at hlt
          rw [slist_get _ _ hlt] at hc1 hc2 hc3
          have hm1 : (k : Int) < n := by omega
          have hm0 : (0 : Int) ≤ k := by omega
          have hkl : k < l.length := by rw [HL.out]; exact hlt
          have hD := dsum_bd H.out.1 hkl
          have hG := lag_bd H.out.1 hkl
          have m1 := ceil_rate (d := dsum l k) (r' := r + m) hr1 (by omega) (by omega)
          have m2 := ceil_mono hr1 (dsum_mono HK.out.2 HK.out.1 hkl)
          have t1 : decide (ceil (dsum l k) r < ceil (dsum l k) (r + m)) = false := by simp; omega
          have t2 : decide (ceil (dsum l k) r < ceil (dsum l' k) r) = false := by simp; omega
          clear hx7 hy7 hz7 hD hG m1 m2
          go_wp2_with fail
          go_quiet (fail)
          go_wp2_with fail
          go_roundw
          case rel => exact ⟨k + 1, by omega, by go_num, _, rfl⟩
          case measure => simp [intOf]; omega
        · have hkn : k = n := by omega
          subst hkn
          clear hx7 hy7 hz7
          go_wp2_with fail
          go_ret
          exact ⟨rfl, bel_drewN hb9 _⟩
  · refine (shareDone_bad A n c l r _ _ h s2 (by omega)).mono ?_
    rintro e w3 ⟨rfl, rfl⟩
    have hne : (shareErr l r != 0) = true := by unfold shareErr; split <;> rfl
    clear s2 h hlen
    go_wp2_with fail
    go_ret
    exact ⟨rfl, hb2⟩
end Go.Proofs.Ytopldjklmjkcmaa
