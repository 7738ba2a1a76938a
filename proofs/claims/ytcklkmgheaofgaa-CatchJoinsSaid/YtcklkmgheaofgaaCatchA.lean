/- catch.look, catch.Lag and catch.Done. -/
import Derived.Test.YtcklkmgheaofgaaTraceA
set_option linter.unusedVariables false
namespace Go.Proofs.Ytcklkmgheaofgaa
open Go.RowKit
theorem own_built (w : World) (xs : List Value) (e : TypeId) (base n : Nat) (hb : base ≤ w.heap.size) (hn : xs.length = n) (hm : n ≤ maxLen) :
    (w.alloc (.cells xs.toArray e)).ownsRow base e 1 (.slice (some ⟨w.heap.size, 0, none⟩) n n) n xs :=
  ⟨by simp [hn], .inr ⟨w.heap.size, n, xs.toArray, rfl, hb, heap_alloc_new w _, Nat.le_refl _, hm, by simp [hn], by simp; exact List.take_of_length_le (by omega)⟩⟩
def rateOk (r g : Int) : Prop := 0 ≤ r ∧ r ≤ 10000 ∧ 0 ≤ g ∧ g ≤ 1000000
def catchOk (a : List Int) (r g : Int) : Prop := traceOk a ∧ rateOk r g
/-- The error of catch.Lag. -/
def catchErr (a : List Int) : Int := if 60 < a.length then 2 else 1
theorem catchErr_ne (a : List Int) : (catchErr a != 0) = true := by unfold catchErr; split <;> rfl
/-- How far behind at each time. -/
def clag (a : List Int) (r g : Int) : Nat → Int
  | 0 => g
  | k + 1 => mx 0 (clag a r g k + gi a k - r)
theorem clag_succ (a : List Int) (r g : Int) (k : Nat) : clag a r g (k + 1) = mx 0 (clag a r g k + gi a k - r) := rfl
theorem clag_bd {a : List Int} {r g : Int} (h : catchOk a r g) (k : Nat) (hk : k ≤ a.length) : 0 ≤ clag a r g k ∧ clag a r g k ≤ 1000000 + 10000 * k := by
  induction k with
  | zero => exact ⟨h.2.2.2.1, by have := h.2.2.2.2; simpa [clag] using this⟩
  | succ k ih =>
    have i := ih (by omega)
    have t := trace_bd h.1 (show k < a.length by omega)
    have r0 := h.2.1
    have m := mx_le 0 (clag a r g k + gi a k - r)
    rw [clag_succ]
    omega
theorem clook_ok (r g : Int) (W : World) (h : rateOk r g) :
    Calls Try.prog 8 #[.int .i64 r, .int .i64 g] W fun e w' => e = .returned (.int .i64 0) ∧ W = w' := by
  obtain ⟨h1, h2, h3, h4⟩ := h
  have g1 : ¬ (r < 0) := by omega
  have g2 : ¬ (10000 < r) := by omega
  have g3 : ¬ (g < 0) := by omega
  have g4 : ¬ (1000000 < g) := by omega
  go_enter Try.func8, Try.ntmps8
  go_wp2_with fail
  go_ret
  exact ⟨rfl, rfl⟩
theorem clook_bad (r g : Int) (W : World) (h : ¬ rateOk r g) :
    Calls Try.prog 8 #[.int .i64 r, .int .i64 g] W fun e w' => e = .returned (.int .i64 1) ∧ W = w' := by
  have hr : r < 0 ∨ (¬ r < 0 ∧ 10000 < r) ∨ (¬ r < 0 ∧ ¬ 10000 < r ∧ g < 0) ∨ (¬ r < 0 ∧ ¬ 10000 < r ∧ ¬ g < 0 ∧ 1000000 < g) := by
    unfold rateOk at h
    omega
  clear h
  rcases hr with h1 | ⟨h1, h2⟩ | ⟨h1, h2, h3⟩ | ⟨h1, h2, h3, h4⟩
  all_goals
    go_enter Try.func8, Try.ntmps8
    go_wp2_with fail
    go_ret
    exact ⟨rfl, rfl⟩
theorem ret_err {v : Value} {x y : Int} (h : x = y) : Ending.returned (.tuple #[v, .int .i64 x]) = .returned (.tuple #[v, .int .i64 y]) := by rw [h]
theorem clag_bad (A : Option Addr) (n c : Nat) (a : List Int) (r g : Int) (W : World) (B : Nat) (h : ¬ catchOk a r g) (hs : Sl W B A n (ints a)) (hnn : n ≤ 9223372036854775807) :
    Calls Try.prog 4 #[.slice A n c, .int .i64 r, .int .i64 g] W fun e w' => e = .returned (.tuple #[.slice none 0 0, .int .i64 (catchErr a)]) ∧ W = w' := by
  by_cases ht : traceOk a
  · have hf : Hid (catchErr a = 1) := by unfold catchErr; rw [if_neg (by have := ht.1; omega)]; rfl
    have hr := Lib.hid fun hr => h ⟨ht, hr⟩
    have H := Lib.hid ht
    clear h ht
    go_enter Try.func4, Try.ntmps4
    go_wp2_with fail
    refine (tcheck_ok A n c a _ _ H.out hs).mono ?_
    rintro e w' ⟨rfl, rfl⟩
    go_wp2_with fail
    refine (clook_bad r g _ hr.out).mono ?_
    rintro e w' ⟨rfl, rfl⟩
    go_wp2_with fail
    go_ret2
    exact ⟨ret_err hf.out.symm, rfl⟩
  · have hf : Hid (catchErr a = traceErr a) := rfl
    have hne := traceErr_ne a
    have H := Lib.hid ht
    clear h ht
    go_enter Try.func4, Try.ntmps4
    go_wp2_with fail
    refine (tcheck_bad A n c a _ _ H.out hs hnn).mono ?_
    rintro e w' ⟨rfl, rfl⟩
    go_wp2_with fail
    go_ret2
    exact ⟨ret_err hf.out.symm, rfl⟩
set_option maxHeartbeats 1600000 in
theorem clag_ok (A : Option Addr) (n c : Nat) (a : List Int) (r g : Int) (W : World) (h : catchOk a r g) (hs : Sl W W.heap.size A n (ints a)) :
    Calls Try.prog 4 #[.slice A n c, .int .i64 r, .int .i64 g] W fun e w' => ∃ A1 c1, e = .returned (.tuple #[.slice A1 (n + 1) c1, .int .i64 0]) ∧
      Sl w' w'.heap.size A1 (n + 1) (ints (tab (n + 1) (clag a r g))) ∧ Below W.heap.size W w' ∧ n + 1 ≤ c1 := by
  have hlen := hs.int_len
  have H := Lib.hid h
  have HL := Lib.hid hlen
  have hn : n ≤ 60 := by have := h.1.1; omega
  obtain ⟨r1, r2, g1, g2⟩ := h.2
  clear h hlen
  go_enter Try.func4, Try.ntmps4
  go_wp2_with fail
  refine (tcheck_ok A n c a _ _ H.out.1 hs).mono ?_
  rintro e w' ⟨rfl, rfl⟩
  go_wp2_with fail
  refine (clook_ok r g _ H.out.2).mono ?_
  rintro e w' ⟨rfl, rfl⟩
  go_wp2_with fail
  go_loopw [28, 2, 10, 12] (fun i q v _ wr => ∃ k : Nat, k ≤ n ∧ i = .int .i64 k ∧ q = .int .i64 (clag a r g k) ∧ wr.ownsRow W.heap.size 3 1 v (k + 1) (ints (tab (k + 1) (clag a r g))) ∧
      Below W.heap.size W wr ∧ W.heap.size ≤ wr.heap.size) (fun i _ _ _ _ => n - (intOf i).toNat)
  case atStart => exact ⟨0, Nat.zero_le _, rfl, rfl, own_built W (ints [g]) _ _ _ (Nat.le_refl _) rfl (by decide), (Below.refl _ _).alloc (Nat.le_refl _) _, by simp⟩
  case round =>
    obtain ⟨k, hk, rfl, rfl, hown, hb, hz⟩ := hrel
    by_cases hlt : k < n
    · obtain ⟨b, off, rfl, hbl, hc⟩ := (hs.below hb).int_at hlt
      have hkl : k < a.length := by rw [HL.out]; exact hlt
      have hab := trace_bd H.out.1 hkl
      have hbb := clag_bd H.out k (by omega)
      have hmn : (if r < clag a r g k + gi a k then clag a r g k + gi a k - r else 0) = clag a r g (k + 1) := by rw [clag_succ]; unfold mx; split <;> split <;> omega
      have hn1 : (k : Int) < n := by omega
      have hk0 : (0 : Int) ≤ k := by omega
      have ho := Lib.hid hown
      have hbh := Lib.hid hb
      clear hown hb hs
      go_wp2_with (at_builtin; refine wpList_push rfl (.tmp 38) (.tmp 40) _ rfl elemInt W.heap.size _ (k + 1) _ _ rfl rfl ho.out hbh.out hz rfl (by omega) ?_; intro v1 w1 hown1 hb1 hz1)
      go_roundw
      case rel => exact ⟨k + 1, by omega, by go_num, rfl, by rw [tab_push] at hown1; exact hown1, hb1, hz1⟩
      case measure => simp [intOf]; omega
    · have hkn : k = n := by omega
      subst hkn
      have ho := Lib.hid hown
      have hbh := Lib.hid hb
      clear hown hb hs
      go_wp2_with fail
      go_ret2
      obtain ⟨A1, c1, rfl, hc1⟩ := own_form ho.out
      exact ⟨_, _, rfl, Sl.of_own ho.out, hbh.out, hc1⟩
/-- The first time at which one is there. -/
def firstZ (f : Nat → Int) (m : Nat) (t : Nat) : Prop := t < m ∧ f t = 0 ∧ ∀ i, i < t → f i ≠ 0
theorem firstZ_or (f : Nat → Int) (m : Nat) : (∃ t, firstZ f m t) ∨ ∀ i, i < m → f i ≠ 0 := by
  induction m with
  | zero => right; intro i hi; omega
  | succ m ih =>
    rcases ih with ⟨t, h1, h2, h3⟩ | h
    · exact .inl ⟨t, by omega, h2, h3⟩
    · by_cases hm : f m = 0
      · exact .inl ⟨m, by omega, hm, h⟩
      · right
        intro i hi
        rcases Nat.lt_or_ge i m with h' | h'
        · exact h i h'
        · obtain rfl : i = m := by omega
          exact hm
end Go.Proofs.Ytcklkmgheaofgaa
