/- trace.Added and Sum return the cumulative curve. -/
import Derived.Test.YtpifknmoimlpoaaTraceA
import Derived.Test.YtpifknmoimlpoaaOwnT
set_option linter.unusedVariables false
namespace Go.Proofs.Ytpifknmoimlpoaa
open Go.RowKit
set_option maxHeartbeats 800000 in
theorem added_ok (A : Option Addr) (n c : Nat) (a : List Int) (W : World) (h : traceOk a) (hs : Sl W W.heap.size A n (ints a)) :
    Calls Try.prog 83 #[.slice A n c] W fun e w' => ∃ A' c', e = .returned (.slice A' (n + 1) c') ∧
      Sl w' w'.heap.size A' (n + 1) (ints (cumul a)) ∧ Below W.heap.size W w' ∧ n + 1 ≤ c' ∧ w'.ownsRow W.heap.size 3 1 (.slice A' (n + 1) c') (n + 1) (ints (cumul a)) := by
  have hlen := hs.int_len
  have H := Lib.hid h
  have HL := Lib.hid hlen
  have hn : n ≤ 60 := by have := h.1; omega
  obtain ⟨ib, hib, hib0, hib1, hib2⟩ := elemInt.info
  clear h hlen
  go_enter Try.func83, Try.ntmps83
  go_wp2_with (at_make; refine wpList_make_full W rfl _ _ _ rfl W.heap.size _ ib (.int .i64 0) 1 elemInt.under hib hib0 hib1 .i64 .i64 ((n : Int) + 1) ((n : Int) + 1) (n + 1) rfl rfl rfl rfl (by rw [hib2]; omega) (by unfold maxLen; omega) (Nat.le_refl _) ?_; intro w1 hown1 hg1)
  rw [ints_made] at hown1
  have hb1 : Below W.heap.size W w1 := (Below.refl _ _).grown hg1 (Nat.le_refl _) (fun k hk => by cases hk)
  go_loopw [12, 4, 5] (fun i _ _ wr => ∃ k : Nat, k ≤ n ∧ i = .int .i64 k ∧ wr.ownsRow W.heap.size 3 1 (.slice (some ⟨W.heap.size, 0, none⟩) (n + 1) (n + 1)) (n + 1) (ints (tab (n + 1) fun i => if i ≤ k then psum a i else 0)) ∧ Below W.heap.size W wr) (fun i _ _ _ => n - (intOf i).toNat)
  case atStart =>
    refine ⟨0, Nat.zero_le _, rfl, ?_, hb1⟩
    rw [show (tab (n + 1) fun i => if i ≤ 0 then psum a i else 0) = tab (n + 1) (fun _ => 0) from tab_congr fun i _ => by
      split
      · obtain rfl : i = 0 := by omega
        rfl
      · rfl]
    exact hown1
  case round =>
    obtain ⟨k, hk, rfl, hown, hb⟩ := hrel
    by_cases hlt : k < n
    · obtain ⟨b, off, rfl, hbl, hc⟩ := (hs.below hb).int_at hlt
      have hck := hown.cellAt k (by omega)
      rw [ints_get (by rw [tab_len]; omega), tab_get _ (by omega), if_pos (Nat.le_refl _)] at hck
      have hck1 := hown.cellAt (k + 1) (by omega)
      rw [ints_get (by rw [tab_len]; omega)] at hck1
      have hf := hown.frozenAt (k + 1)
      have hps := psum_bd H.out k (by rw [HL.out]; omega)
      have hab := trace_bd H.out (i := k) (by rw [HL.out]; exact hlt)
      have hn1 : (k : Int) < n := by omega
      have hk0 : (0 : Int) ≤ k := by omega
      have ho := Lib.hid hown
      have hbh := Lib.hid hb
      clear hown hb hs
      go_wp2_with fail
      go_roundw
      case rel =>
        refine ⟨k + 1, by omega, by go_num, ?_, ?_⟩
        · have := (ho.out.stored (k + 1) (.int .i64 (psum a k + gi a k))).1
          rw [ints_set, tab_set _ _ _ (by omega)] at this
          rw [show (tab (n + 1) fun i => if i ≤ k + 1 then psum a i else 0) = tab (n + 1) (fun i => if i = k + 1 then psum a k + gi a k else if i ≤ k then psum a i else 0) from tab_congr fun i _ => by
            by_cases h1 : i = k + 1
            · subst h1
              rw [if_pos (Nat.le_refl _), if_pos rfl, psum_succ]
            · rw [if_neg h1]
              by_cases h2 : i ≤ k
              · rw [if_pos h2, if_pos (by omega)]
              · rw [if_neg h2, if_neg (by omega)]]
          exact this
        · exact hbh.out.setCell (Nat.le_refl _) _
      case measure => simp [intOf]; omega
    · have hkn : k = n := by omega
      subst hkn
      have ho := Lib.hid hown
      have hbh := Lib.hid hb
      clear hown hb hs
      go_wp2_with fail
      go_ret
      have hsl := ho.out
      rw [show (tab (k + 1) fun i => if i ≤ k then psum a i else 0) = cumul a by
        unfold cumul
        rw [HL.out]
        exact tab_congr fun i hi => by rw [if_pos (by omega)]] at hsl
      exact ⟨_, _, rfl, Sl.of_own hsl, hbh.out, Nat.le_refl _, hsl⟩
theorem sum_ok (A : Option Addr) (n c : Nat) (a : List Int) (W : World) (h : traceOk a) (hs : Sl W W.heap.size A n (ints a)) :
    Calls Try.prog 23 #[.slice A n c] W fun e w' => ∃ A' c', e = .returned (.tuple #[.slice A' (n + 1) c', .int .i64 0]) ∧
      Sl w' w'.heap.size A' (n + 1) (ints (cumul a)) ∧ Below W.heap.size W w' ∧ n + 1 ≤ c' ∧ w'.ownsRow W.heap.size 3 1 (.slice A' (n + 1) c') (n + 1) (ints (cumul a)) := by
  have H := Lib.hid h
  clear h
  go_enter Try.func23, Try.ntmps23
  go_wp2_with fail
  refine (tcheck_ok A n c a _ _ H.out hs).mono ?_
  rintro e w' ⟨rfl, rfl⟩
  go_wp2_with fail
  refine (added_ok A n c a _ H.out hs).mono ?_
  rintro e w1 ⟨A1, c1, rfl, hs1, hb1, hc1, ho1⟩
  go_wp2_with fail
  go_ret2
  exact ⟨A1, c1, rfl, hs1, hb1, hc1, ho1⟩
theorem sum_bad (A : Option Addr) (n c : Nat) (a : List Int) (W : World) (B : Nat) (h : ¬ traceOk a) (hs : Sl W B A n (ints a)) (hnn : n ≤ 9223372036854775807) :
    Calls Try.prog 23 #[.slice A n c] W fun e w' => e = .returned (.tuple #[.slice none 0 0, .int .i64 (traceErr a)]) ∧ W = w' := by
  have H := Lib.hid h
  have hne := traceErr_ne a
  clear h
  go_enter Try.func23, Try.ntmps23
  go_wp2_with fail
  refine (tcheck_bad A n c a _ _ H.out hs hnn).mono ?_
  rintro e w' ⟨rfl, rfl⟩
  go_wp2_with fail
  go_ret2
  exact ⟨rfl, rfl⟩
end Go.Proofs.Ytpifknmoimlpoaa
