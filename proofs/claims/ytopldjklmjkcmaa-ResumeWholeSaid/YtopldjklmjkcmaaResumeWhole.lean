/- ResumeWhole: whole pieces are never lost; without crashes, or with pieces of one byte, progress is linear. -/
import Derived.Test.YtopldjklmjkcmaaResumeB
import Derived.Test.YtopldjklmjkcmaaEqual
set_option linter.unusedVariables false
namespace Go.Proofs.Ytopldjklmjkcmaa
open Go.RowKit
theorem run_ex1 (A : Option Addr) (c : Nat) (W : World) (hs : Sl W W.heap.size A 2 (bools [true, true])) :
    Calls Try.prog 23 #[.int .i64 9, .int .i64 4, .int .i64 3, .slice A 2 c] W fun e w' => ∃ A' c', e = .returned (.tuple #[.slice A' 2 c', .int .i64 0]) ∧
      Sl w' w'.heap.size A' 2 (ints [0, 0]) ∧ Below W.heap.size W w' :=
  (run_ok 9 4 3 A 2 c _ W (by unfold resumeOk; decide) (by decide) hs).mono fun _ _ ⟨A', c', h1, h2, h3, _⟩ => ⟨A', c', h1, by
    have e : rres 9 4 3 [true, true] 2 = [0, 0] := by decide
    rw [e] at h2
    exact h2, h3⟩
theorem run_ex2 (A : Option Addr) (c : Nat) (W : World) (hs : Sl W W.heap.size A 2 (bools [false, true])) :
    Calls Try.prog 23 #[.int .i64 9, .int .i64 4, .int .i64 3, .slice A 2 c] W fun e w' => ∃ A' c', e = .returned (.tuple #[.slice A' 2 c', .int .i64 0]) ∧
      Sl w' w'.heap.size A' 2 (ints [3, 4]) ∧ Below W.heap.size W w' :=
  (run_ok 9 4 3 A 2 c _ W (by unfold resumeOk; decide) (by decide) hs).mono fun _ _ ⟨A', c', h1, h2, h3, _⟩ => ⟨A', c', h1, by
    have e : rres 9 4 3 [false, true] 2 = [3, 4] := by decide
    rw [e] at h2
    exact h2, h3⟩
theorem gb_calm (n i : Nat) : gb (List.replicate n false) i = false := by
  simp only [gb, List.getD_eq_getElem?_getD, List.getElem?_replicate]
  split <;> rfl
theorem rres_calm {s u r : Int} (h : resumeOk s u r) (bs : List Bool) (m n : Nat) : rres s 1 r bs n = rres s u r (List.replicate m false) n := by
  unfold rres
  refine List.map_congr_left fun k _ => ?_
  rw [rgot_one h.1 h.2.2.2.2.1, rgot_calm h.1 h.2.2.2.2.1 _ _ (gb_calm m)]
theorem bools_made (n : Nat) : (madeCells (Value.bool false).cells (n * 1)).toList = bools (List.replicate n false) := by
  rw [show (Value.bool false).cells = #[Value.bool false] from rfl, toList_madeCells_one, Nat.mul_one]
  simp [bools]
set_option maxRecDepth 100000 in
set_option maxHeartbeats 3200000 in
theorem resumeWhole_walk (s u r : Int) (A : Option Addr) (n c : Nat) (bs : List Bool) (W : World) (_ : -9223372036854775808 ≤ s ∧ s ≤ 9223372036854775807) (_ : -9223372036854775808 ≤ u ∧ u ≤ 9223372036854775807) (_ : -9223372036854775808 ≤ r ∧ r ≤ 9223372036854775807)
    (i1 : InBools W A n c bs) :
    Calls Try.prog 9 #[.int .i64 s, .int .i64 u, .int .i64 r, .slice A n c] W fun e w' => e = .returned (.bool true) ∧ Below W.heap.size W w' := by
  obtain ⟨s1, l1, r1⟩ := i1
  obtain ⟨ib, hib, hib0, hib1, hib2⟩ := elemBool.info
  go_enter Try.func9, Try.ntmps9
  go_wp2_with fail
  refine (run_ex1 _ _ _ (by exact Sl.built_ _ (bools [true, true]) _ _ (by first | rfl | simp) rfl)).mono ?_
  rintro e w1 ⟨A1, c1, rfl, hs1, hb1'⟩
  have hb1 : Below W.heap.size W w1 := (below_alloc (Below.refl _ W) (.cells (bools [true, true]).toArray 4)).trans (hb1'.mono (by simp))
  clear hb1'
  go_wp2_with fail
  refine (equal_any _ _ _ _ _ _ _ [0, 0] _ _ _ (hs1.alloc (Nat.le_refl _) _) (Sl.built w1 (ints [0, 0]) _ rfl) (by decide)).mono ?_
  rintro e w2 ⟨rfl, q, rfl⟩
  have hb2 := bel_drewN (below_alloc hb1 (.cells (ints [0, 0]).toArray 3)) q
  obtain ⟨w2, hw2⟩ : ∃ w2, w2 = (w1.alloc (.cells (ints [0, 0]).toArray 3)).drewN q := ⟨_, rfl⟩
  rw [← hw2] at hb2
  clear hs1 hb1
  go_wp2_with fail
  refine (run_ex2 _ _ _ (by exact Sl.built_ _ (bools [false, true]) _ _ (by first | rfl | simp) rfl)).mono ?_
  rintro e w3 ⟨A3, c3, rfl, hs3, hb3'⟩
  have hb3 : Below W.heap.size W w3 := by
    have x1 := below_alloc hb2 (.cells (bools [false, true]).toArray 4)
    rw [hw2] at x1
    exact x1.trans (hb3'.mono x1.size)
  clear hb3' hb2 hw2
  go_wp2_with fail
  refine (equal_any _ _ _ _ _ _ _ [3, 4] _ _ _ (hs3.alloc (Nat.le_refl _) _) (Sl.built w3 (ints [3, 4]) _ rfl) (by decide)).mono ?_
  rintro e w4 ⟨rfl, q', rfl⟩
  have hb4 := bel_drewN (below_alloc hb3 (.cells (ints [3, 4]).toArray 3)) q'
  have s4 := s1.on hb4
  clear hs3 hb3 s1
  go_wp2_with fail
  by_cases hr : resumeOk s u r
  · by_cases hn : 200 < n
    · refine (run_large s u r A n c _ hr hn).mono ?_
      rintro e w5 ⟨rfl, rfl⟩
      clear s4
      go_wp2_with fail
      go_ret
      exact ⟨rfl, hb4⟩
    · refine (run_ok s u r A n c bs _ hr (by omega) s4).mono ?_
      rintro e w5 ⟨A5, c5, rfl, hx5, hb5', hcap5⟩
      have hb5 : Below W.heap.size W w5 := hb4.trans (hb5'.mono hb4.size)
      have s5 := s4.on hb5'
      have H := Lib.hid hr
      clear hb4 hb5' s4 hr
      have hne : ((n : Int) != n) = false := by simp
      go_wp2_with fail
      refine (run_ok s 1 r A n c bs _ (by obtain ⟨r1, r2, r3, r4, r5, r6⟩ := H.out; exact ⟨r1, r2, by decide, by decide, r5, r6⟩) (by omega) s5).mono ?_
      rintro e w6 ⟨A6, c6, rfl, hy6, hb6', hcap6⟩
      have hb6 : Below W.heap.size W w6 := hb5.trans (hb6'.mono hb5.size)
      have hx6 := hx5.on hb6'
      clear hb5 hb6' s5 hx5
      go_wp2_with (at_make; refine wpList_make_full w6 rfl _ _ _ rfl w6.heap.size _ ib (.bool false) 1 elemBool.under hib hib0 hib1 .i64 .i64 n n n rfl rfl rfl rfl (by rw [hib2]; omega) (by unfold maxLen; omega) (Nat.le_refl _) ?_; intro w7 hown7 hg7)
      rw [bools_made] at hown7
      have hb67 : Below w6.heap.size w6 w7 := (Below.refl _ _).grown hg7 (Nat.le_refl _) (fun k hk => by cases hk)
      have hb7 : Below W.heap.size W w7 := hb6.trans (hb67.mono hb6.size)
      refine (run_ok s u r _ n n (List.replicate n false) _ H.out (by omega) (Sl.of_own hown7)).mono ?_
      rintro e w8 ⟨A8, c8, rfl, hz8, hb8', hcap8⟩
      have hb8 : Below W.heap.size W w8 := hb7.trans (hb8'.mono hb7.size)
      have hx8 := (hx6.on hb67).on hb8'
      have hy8 := (hy6.on hb67).on hb8'
      clear hb6 hb7 hb67 hb8' hown7 hg7 hx6 hy6
      go_wp2_with fail
      refine (equal_any _ _ _ _ _ _ _ _ _ _ _ hy8 hz8 (by omega)).mono ?_
      rintro e w9 ⟨rfl, q9, rfl⟩
      have hdec : decide (rres s 1 r bs n = rres s u r (List.replicate n false) n) = true := by
        simp only [decide_eq_true_eq]
        exact rres_calm H.out bs n n
      rw [hdec]
      clear hdec hy8
      have hb9 := bel_drewN hb8 q9
      have hx9 : Sl (w8.drewN q9) w8.heap.size A5 n (ints (rres s u r bs n)) := hx8
      have hz9 : Sl (w8.drewN q9) w8.heap.size A8 n (ints (rres s u r (List.replicate n false) n)) := hz8
      obtain ⟨w9, hw9⟩ : ∃ w9, w9 = w8.drewN q9 := ⟨_, rfl⟩
      rw [← hw9] at hb9 hx9 hz9 ⊢
      clear hw9 hb8 hx8 hz8
      go_wp2_with fail
      go_loopw [103, 19, 20, 21] (fun i was _ _ wr => ∃ k : Nat, k ≤ n ∧ i = .int .i64 k ∧ was = .int .i64 (rgot s u r bs k) ∧ ∃ q, wr = w9.drewN q) (fun i _ _ _ _ => n - (intOf i).toNat)
      case atStart => exact ⟨0, Nat.zero_le _, rfl, rfl, 0, rfl⟩
      case round =>
        obtain ⟨k, hk, rfl, rfl, q, rfl⟩ := hrel
        by_cases hlt : k < n
        · obtain ⟨b, off, rfl, hbl, hc⟩ := hx9.int_at hlt
          obtain ⟨b2, off2, rfl, hbl2, hc2⟩ := hz9.int_at hlt
          rw [rres_get _ _ _ _ hlt] at hc
          rw [rres_get _ _ _ _ hlt, rgot_calm H.out.1 H.out.2.2.2.2.1 _ _ (gb_calm n)] at hc2
          have hn1 : (k : Int) < n := by omega
          have hk0 : (0 : Int) ≤ k := by omega
          have hbd := rgot_bd H.out bs (k + 1)
          have hbd0 := rgot_bd H.out bs k
          have hle := rgot_le H.out bs (k + 1)
          have hwh := rgot_whole H.out bs k
          obtain ⟨r1, r2, r3, r4, r5, r6⟩ := H.out
          have hm0 : 0 ≤ r * ((k : Int) + 1) := Int.mul_nonneg r5 (by omega)
          have hm1 : r * ((k : Int) + 1) ≤ 10000 * 200 := Int.mul_le_mul r6 (by omega) (by omega) (by omega)
          have e1 : wrap64 (r * ((k : Int) + 1)) = r * ((k : Int) + 1) := IntWalk.wrap64_in _ ⟨by omega, by omega⟩
          have e2 : IntKind.i64.wrap (r * ((k : Int) + 1)) = r * ((k : Int) + 1) := IntWalk.i64_in _ ⟨by omega, by omega⟩
          have d1 : 0 ≤ rgot s u r bs (k + 1) / u := Int.ediv_nonneg hbd.1 (by omega)
          have d2 := Int.ediv_le_self u hbd.1
          have d3 : 0 ≤ rgot s u r bs k / u := Int.ediv_nonneg hbd0.1 (by omega)
          have d4 := Int.ediv_le_self u hbd0.1
          have q1 : wrap64 (rgot s u r bs (k + 1) / u) = rgot s u r bs (k + 1) / u := IntWalk.wrap64_in _ ⟨by omega, by omega⟩
          have q2 : wrap64 (rgot s u r bs k / u) = rgot s u r bs k / u := IntWalk.wrap64_in _ ⟨by omega, by omega⟩
          have q3 : IntKind.i64.wrap ((rgot s u r bs (k + 1)).tdiv u) = rgot s u r bs (k + 1) / u := IntWalk.i64_quo _ _ ⟨by omega, by omega, by omega⟩
          have q4 : IntKind.i64.wrap ((rgot s u r bs k).tdiv u) = rgot s u r bs k / u := IntWalk.i64_quo _ _ ⟨by omega, by omega, by omega⟩
          have t1 : decide (rgot s u r bs (k + 1) / u < rgot s u r bs k / u) = false := by simp; omega
          have hu0 : (u == 0) = false := by simp; omega
          unfold full at hc2 hle
          rw [show ((k + 1 : Nat) : Int) = (k : Int) + 1 from rfl] at hc2 hle
          by_cases hfl : r * ((k : Int) + 1) < s
          · rw [if_pos hfl] at hc2 hle
            have t2 : decide (r * ((k : Int) + 1) < rgot s u r bs (k + 1)) = false := by simp; omega
            clear hx9 hz9 hwh d1 d2 d3 d4
            go_wp2_with fail
            go_quiet (fail)
            go_wp2_with fail
            go_roundw
            case rel => exact ⟨k + 1, by omega, by go_num, rfl, _, rfl⟩
            case measure => simp [intOf]; omega
          · rw [if_neg hfl] at hc2 hle
            have t2 : decide (s < rgot s u r bs (k + 1)) = false := by simp; omega
            clear hx9 hz9 hwh d1 d2 d3 d4
            go_wp2_with fail
            go_quiet (fail)
            go_wp2_with fail
            go_roundw
            case rel => exact ⟨k + 1, by omega, by go_num, rfl, _, rfl⟩
            case measure => simp [intOf]; omega
        · have hkn : k = n := by omega
          subst hkn
          clear hx9 hz9
          go_wp2_with fail
          go_ret
          exact ⟨rfl, bel_drewN hb9 _⟩
  · refine (run_bad s u r A n c _ hr).mono ?_
    rintro e w5 ⟨rfl, rfl⟩
    clear s4
    go_wp2_with fail
    go_ret
    exact ⟨rfl, hb4⟩
end Go.Proofs.Ytopldjklmjkcmaa
