/- RetryLater: the more is lost at first, the later; what comes behind the first success makes no difference. -/
import Derived.Test.YtopldjklmjkcmaaRetryB
import Derived.Test.YtopldjklmjkcmaaIndexB
import Derived.Test.YtopldjklmjkcmaaCloneBool
import Derived.Deep.RegionLaw
set_option linter.unusedVariables false
namespace Go.Proofs.Ytopldjklmjkcmaa
open Go.RowKit
theorem first_ex : FirstGot [true, true, false] 2 := ⟨by decide, rfl, fun i hi => by
  rcases i with _ | _ | i
  · rfl
  · rfl
  · omega⟩
theorem first_take {bs : List Bool} {k m : Nat} (h : FirstGot bs k) (hm : k < m) (cs : List Bool) : FirstGot (bs.take m ++ cs) k := by
  obtain ⟨h1, h2, h3⟩ := h
  have key : ∀ i, i ≤ k → gb (bs.take m ++ cs) i = gb bs i := by
    intro i hi
    have hl : i < (bs.take m).length := by rw [List.length_take]; omega
    simp only [gb, List.getD_eq_getElem?_getD]
    rw [List.getElem?_append_left hl, List.getElem?_take_of_lt (by omega)]
  refine ⟨by rw [List.length_append, List.length_take]; omega, ?_, fun i hi => ?_⟩
  · rw [key k (Nat.le_refl _)]; exact h2
  · rw [key i (by omega)]; exact h3 i hi
theorem first_take0 {bs : List Bool} {k m : Nat} (h : FirstGot bs k) (hm : k < m) : FirstGot (bs.take m) k := by
  have := first_take h hm []
  rwa [List.append_nil] at this
theorem first_drop {bs : List Bool} {k : Nat} (h : FirstGot bs k) (h0 : 0 < k) : FirstGot (bs.drop 1) (k - 1) := by
  obtain ⟨h1, h2, h3⟩ := h
  have key : ∀ i, gb (bs.drop 1) i = gb bs (1 + i) := by
    intro i
    simp only [gb, List.getD_eq_getElem?_getD]
    rw [List.getElem?_drop]
  refine ⟨by rw [List.length_drop]; omega, ?_, fun i hi => ?_⟩
  · rw [key, show 1 + (k - 1) = k by omega]; exact h2
  · rw [key]; exact h3 _ (by omega)
theorem when_ex (A : Option Addr) (c : Nat) (W : World) (hs : Sl W W.heap.size A 3 (bools [true, true, false])) :
    Calls Try.prog 20 #[.int .i64 3, .int .i64 10, .slice A 3 c] W fun e w' => e = .returned (.tuple #[.int .i64 9, .int .i64 0]) ∧ Below W.heap.size W w' :=
  when_got 3 10 A 3 c 2 _ W (by decide) (by unfold retryOk; decide) hs first_ex
set_option maxRecDepth 100000 in
set_option maxHeartbeats 1600000 in
theorem retryLater_walk (f m : Int) (A : Option Addr) (n c : Nat) (bs : List Bool) (A' : Option Addr) (n' c' : Nat) (bs' : List Bool) (W : World) (_ : -9223372036854775808 ≤ f ∧ f ≤ 9223372036854775807) (_ : -9223372036854775808 ≤ m ∧ m ≤ 9223372036854775807)
    (i1 : InBools W A n c bs) (i2 : InBools W A' n' c' bs') :
    Calls Try.prog 8 #[.int .i64 f, .int .i64 m, .slice A n c, .slice A' n' c'] W fun e w' => e = .returned (.bool true) ∧ Below W.heap.size W w' := by
  obtain ⟨s1, l1, r1⟩ := i1
  obtain ⟨s2, l2, r2⟩ := i2
  go_enter Try.func8, Try.ntmps8
  go_wp2_with fail
  refine (when_ex _ _ _ (by exact (Sl.built W (bools [true, true, false]) _ rfl).more (by simp))).mono ?_
  rintro e w1 ⟨rfl, hb1'⟩
  have hb1 : Below W.heap.size W w1 := (below_alloc (Below.refl _ W) (.cells (bools [true, true, false]).toArray 4)).trans (hb1'.mono (by simp))
  clear hb1'
  have s1' := s1.on hb1
  have s2' := s2.on hb1
  have hlen := s1'.bool_len
  clear s1 s2
  go_wp2_with fail
  by_cases hbig : 40 < n
  · refine (when_large f m A n c w1 hbig).mono ?_
    rintro e w' ⟨rfl, rfl⟩
    go_wp2_with fail
    go_ret
    exact ⟨rfl, hb1⟩
  by_cases hr : retryOk f m
  · rcases first_or_none bs with ⟨k, hk⟩ | hnone
    · refine (when_got f m A n c k bs w1 (by omega) hr s1' hk).mono ?_
      rintro e w2 ⟨rfl, hb2'⟩
      have hb2 : Below W.heap.size W w2 := hb1.trans (hb2'.mono hb1.size)
      have s1 := s1'.on hb2'
      have s2 := s2'.on hb2'
      have hkn : k < n := by have := hk.1; omega
      have HL := Lib.hid hlen
      have HR := Lib.hid hr
      have HK := Lib.hid hk
      clear hb1 hb2' s1' s2' hlen hr hk
      go_wp2_with fail
      refine (indexFalse A n c k bs w2 _ s1 HK.out (by omega)).mono ?_
      rintro e w' ⟨rfl, rfl⟩
      go_wp2_with fail
      have s1k := s1.take (k := k + 1) (by omega)
      rw [bools_take] at s1k
      refine (when_got f m A (k + 1) c k _ w2 (by omega) HR.out s1k (first_take0 HK.out (by omega))).mono ?_
      rintro e w3 ⟨rfl, hb3'⟩
      have hb3 : Below W.heap.size W w3 := hb2.trans (hb3'.mono hb2.size)
      have S1 := Lib.hid (s1.on hb3')
      have S2 := Lib.hid (s2.on hb3')
      clear hb2 hb3' s1 s2 s1k
      go_wp2_with fail
      have HB := Lib.hid hb3
      clear hb3
      obtain ⟨r, hr⟩ : ∃ r, k + r = 39 := ⟨39 - k, by omega⟩
      have e1 : IntKind.i64.wrap ((k : Int) + 1) = (k : Int) + 1 := IntWalk.i64_in _ ⟨by omega, by omega⟩
      have e2 : ((k : Int) + 1).toNat = k + 1 := by omega
      have e3 : (k : Int) + 1 ≤ c := by omega
      have e4 : 0 ≤ (k : Int) + 1 := by omega
      have e5 : IntKind.i64.wrap (40 - (k : Int)) = 40 - (k : Int) := IntWalk.i64_in _ ⟨by omega, by omega⟩
      have e6 : IntKind.i64.wrap (40 - (k : Int) - 1) = (r : Int) := by rw [IntWalk.i64_in _ ⟨by omega, by omega⟩]; omega
      have hM : ∃ M : Nat, (M = if r < n' then r else n') ∧ M ≤ r ∧ M ≤ n' := ⟨_, rfl, by split <;> omega, by split <;> omega⟩
      obtain ⟨M, hMe, hM1, hM2⟩ := hM
      have e7 : (if (r : Int) < (n' : Int) then (r : Int) else (n' : Int)) = (M : Int) := by rw [hMe]; split <;> split <;> omega
      have e8 : (if r < n' then (r : Int) else (n' : Int)) = (M : Int) := by rw [hMe]; split <;> rfl
      have e9 : (M : Int) ≤ c' := by omega
      clear hMe
      go_region_law (first
        | (refine step_cat (by rfl) (.tmp 62) (.tmp 70) _ (by rfl) elemBool w3.heap.size v4 (k + 1) _ A' M c' _ (by rfl) (by rfl) hown4 hb4 hz4 ((S2.out.take hM2).below hb4).len1 ((S2.out.take hM2).below hb4).nil_len ((S2.out.take hM2).below hb4).cells_ (by rw [bools_take]; exact bools_one _) (by unfold maxLen; omega) (by omega) ?_; rintro v5 w5 hown5 hb5 hz5 _)
        | (go_simp; go_at_call 22; refine (cloneBool _ _ _ _ _ ((S1.out.take (k := k + 1) (by omega)).drew) (by rw [bools_take]; exact bools_one _) (by omega)).mono ?_; rintro e w4 ⟨v4, rfl, hown4, hb4', hz4⟩; have hb4 := bel_undrew hb4'; clear hb4')
        | (go_simp; go_at_call 20; obtain ⟨A5, c5, rfl, _⟩ := own_form hown5; refine (when_got f m A5 (k + 1 + M) c5 k _ w5 (by omega) HR.out (by rw [bools_take, bools_take, bools_app] at hown5; exact Sl.of_own hown5) (first_take HK.out (by omega) _)).mono ?_; rintro e w6 ⟨rfl, hb6⟩))
      all_goals
        have hb7 : Below W.heap.size W w6 := (HB.out.trans (hb5.mono HB.out.size)).trans (hb6.mono (Nat.le_trans HB.out.size hz5))
        have hb8 : Below w3.heap.size w3 w6 := hb5.trans (hb6.mono hz5)
        have s1 := S1.out.on hb8
        clear hown4 hb4 hz4 hown5 hb5 hz5 hb6
        have HH := Lib.hid hb7
        clear hb7 hb8
        rcases Nat.eq_zero_or_pos k with rfl | h0
        · have hz : rtime f m 0 = 0 := rfl
          clear s1
          go_wp2_with fail
          go_ret
          exact ⟨rfl, HH.out⟩
        · have hk0 : ((k : Int) == 0) = false := by simp; omega
          obtain ⟨b, off, rfl, hbl, _⟩ := s1.2 (by omega)
          have s1d := s1.drop_at (k := 1) (by omega)
          rw [bools_drop] at s1d
          have SD := Lib.hid s1d
          have hlt : rtime f m (k - 1) < rtime f m k := by
            have e := rtime_succ f m (k - 1)
            rw [show k - 1 + 1 = k by omega] at e
            have := rwait_bd HR.out (k - 1)
            have := HR.out.1
            omega
          have hn1 : (1 : Int) ≤ n := by omega
          clear s1 s1d
          go_wp2_with fail
          refine (when_got f m _ (n - 1) (c - 1) (k - 1) _ w6 (by omega) HR.out SD.out (first_drop HK.out h0)).mono ?_
          rintro e w7 ⟨rfl, hb9⟩
          go_wp2_with fail
          go_ret
          exact ⟨rfl, HH.out.trans (hb9.mono HH.out.size)⟩
    · refine (when_none f m A n c bs w1 (by omega) hr s1' (fun i hi => hnone i (by omega))).mono ?_
      rintro e w2 ⟨rfl, hb2⟩
      clear hnone
      go_wp2_with fail
      go_ret
      exact ⟨rfl, hb1.trans (hb2.mono hb1.size)⟩
  · refine (when_bad f m A n c w1 (by omega) hr).mono ?_
    rintro e w' ⟨rfl, rfl⟩
    go_wp2_with fail
    go_ret
    exact ⟨rfl, hb1⟩
end Go.Proofs.Ytopldjklmjkcmaa
