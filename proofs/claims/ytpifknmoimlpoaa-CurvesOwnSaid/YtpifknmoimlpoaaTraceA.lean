/- trace.Check, Added and Sum; plain facts on traces. -/
import Derived.Test.YtpifknmoimlpoaaElems
set_option linter.unusedVariables false
namespace Go.Proofs.Ytpifknmoimlpoaa
open Go.RowKit
def traceOk (a : List Int) : Prop := a.length ≤ 60 ∧ ∀ z ∈ a, 0 ≤ z ∧ z ≤ 10000
def traceErr (a : List Int) : Int := if 60 < a.length then 2 else 1
theorem traceErr_ne (a : List Int) : (traceErr a != 0) = true := by unfold traceErr; split <;> rfl
theorem trace_bd {a : List Int} (h : traceOk a) {i : Nat} (hi : i < a.length) : 0 ≤ gi a i ∧ gi a i ≤ 10000 := h.2 _ (gi_mem hi)
/-- What came by each time. -/
def psum (a : List Int) : Nat → Int
  | 0 => 0
  | k + 1 => psum a k + gi a k
theorem psum_succ (a : List Int) (k : Nat) : psum a (k + 1) = psum a k + gi a k := rfl
theorem psum_bd {a : List Int} (h : traceOk a) (k : Nat) (hk : k ≤ a.length) : 0 ≤ psum a k ∧ psum a k ≤ 10000 * k := by
  induction k with
  | zero => simp [psum]
  | succ k ih =>
    have x := ih (by omega)
    have y := trace_bd h (show k < a.length by omega)
    rw [psum_succ]
    omega
theorem psum_mono {a : List Int} (h : traceOk a) {i j : Nat} (hij : i ≤ j) (hj : j ≤ a.length) : psum a i ≤ psum a j := by
  induction j with
  | zero =>
    obtain rfl : i = 0 := by omega
    exact Int.le_refl _
  | succ j ih =>
    rcases Nat.lt_or_ge i (j + 1) with h1 | h1
    · have := ih (by omega) (by omega)
      have y := trace_bd h (show j < a.length by omega)
      rw [psum_succ]
      omega
    · obtain rfl : i = j + 1 := by omega
      exact Int.le_refl _
def cumul (a : List Int) : List Int := tab (a.length + 1) (psum a)
theorem cumul_len (a : List Int) : (cumul a).length = a.length + 1 := tab_len _ _
theorem cumul_get {a : List Int} {i : Nat} (h : i ≤ a.length) : gi (cumul a) i = psum a i := tab_get _ (by omega)
theorem first_bad (l : List Int) (p : Int → Prop) : (∀ z ∈ l, p z) ∨ ∃ k, k < l.length ∧ ¬ p (gi l k) ∧ ∀ i, i < k → p (gi l i) := by
  induction l with
  | nil => left; intro z hz; cases hz
  | cons x t ih =>
    by_cases hx : p x
    · rcases ih with h | ⟨k, h1, h2, h3⟩
      · left
        intro z hz
        rcases List.mem_cons.1 hz with rfl | hz
        · exact hx
        · exact h z hz
      · right
        refine ⟨k + 1, by simpa using h1, by simpa [gi] using h2, fun i hi => ?_⟩
        rcases i with _ | i
        · simpa [gi] using hx
        · have := h3 i (by omega)
          simpa [gi] using this
    · right
      exact ⟨0, by simp, by simpa [gi] using hx, fun i hi => absurd hi (by omega)⟩
theorem tcheck_ok (A : Option Addr) (n c : Nat) (a : List Int) (W : World) (B : Nat) (h : traceOk a) (hs : Sl W B A n (ints a)) :
    Calls Try.prog 82 #[.slice A n c] W fun e w' => e = .returned (.int .i64 0) ∧ W = w' := by
  have hlen := hs.int_len
  obtain ⟨h1, h2⟩ := h
  have g1 : ¬ (60 < (n : Int)) := by omega
  have H2 := Lib.hid h2
  have HL := Lib.hid hlen
  have hn : n ≤ 60 := by omega
  clear h2 hlen
  go_enter Try.func82, Try.ntmps82
  go_wp2
  go_loop [10, 4] (fun i _ => ∃ k : Nat, k ≤ n ∧ i = .int .i64 k) (fun i _ => n - (intOf i).toNat)
  case atStart => exact ⟨0, Nat.zero_le _, rfl⟩
  case round =>
    obtain ⟨k, hk, rfl⟩ := hrel
    by_cases hlt : k < n
    · obtain ⟨b, off, rfl, hbl, hc⟩ := hs.int_at hlt
      have hb := H2.out _ (gi_mem (zs := a) (k := k) (by rw [HL.out]; exact hlt))
      have hn1 : (k : Int) < n := by omega
      have hk0 : (0 : Int) ≤ k := by omega
      clear hs
      go_wp2
      go_round
      case rel => exact ⟨k + 1, by omega, by go_num⟩
      case measure => simp [intOf]; omega
    · clear hs
      go_wp2
      go_ret
      exact ⟨rfl, rfl⟩
theorem tcheck_bad (A : Option Addr) (n c : Nat) (a : List Int) (W : World) (B : Nat) (h : ¬ traceOk a) (hs : Sl W B A n (ints a)) (hnn : n ≤ 9223372036854775807) :
    Calls Try.prog 82 #[.slice A n c] W fun e w' => e = .returned (.int .i64 (traceErr a)) ∧ W = w' := by
  have hlen := hs.int_len
  by_cases h8 : 60 < n
  · have hf : Hid (traceErr a = 2) := by unfold traceErr; rw [if_pos (by omega)]; rfl
    have g1 : 60 < (n : Int) := by omega
    clear hlen h hs
    go_enter Try.func82, Try.ntmps82
    go_wp2
    go_ret
    exact ⟨ret_int hf.out.symm, rfl⟩
  · have hf : Hid (traceErr a = 1) := by unfold traceErr; rw [if_neg (by omega)]; rfl
    have g1 : ¬ 60 < (n : Int) := by omega
    rcases first_bad a (fun z => 0 ≤ z ∧ z ≤ 10000) with hall | ⟨k, k1, k2, k3⟩
    · exact absurd ⟨by omega, hall⟩ h
    · have H3 := Lib.hid k3
      have hkn : k < n := by omega
      have hn : n ≤ 60 := by omega
      clear h k3 hlen
      go_enter Try.func82, Try.ntmps82
      go_wp2
      go_loop [10, 4] (fun i _ => ∃ j : Nat, j ≤ k ∧ i = .int .i64 j) (fun i _ => k - (intOf i).toNat)
      case atStart => exact ⟨0, Nat.zero_le _, rfl⟩
      case round =>
        obtain ⟨j, hj, rfl⟩ := hrel
        obtain ⟨b, off, rfl, hbl, hc⟩ := hs.int_at (k := j) (by omega)
        have hn1 : (j : Int) < n := by omega
        have hk0 : (0 : Int) ≤ j := by omega
        by_cases hlt : j < k
        · have hb := H3.out j hlt
          clear hs k2
          go_wp2
          go_round
          case rel => exact ⟨j + 1, by omega, by go_num⟩
          case measure => simp [intOf]; omega
        · have hjk : j = k := by omega
          subst hjk
          have hb : gi a j < 0 ∨ (¬ gi a j < 0 ∧ 10000 < gi a j) := by omega
          clear hs k2
          rcases hb with hb | ⟨hb, hb2⟩
          all_goals
            go_wp2
            go_ret
            exact ⟨ret_int hf.out.symm, rfl⟩
end Go.Proofs.Ytpifknmoimlpoaa
