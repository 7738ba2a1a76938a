/- inverse.look, sort.Search at the closures of inverse, Lower and Upper. -/
import Derived.Test.YtmdoecegmdkigaaCurveB
import Derived.Test.YtmdoecegmdkigaaCurveQ
import Derived.Test.YtmdoecegmdkigaaOwnT
set_option linter.unusedVariables false
namespace Go.Proofs.Ytmdoecegmdkigaa
open Go.RowKit
theorem look_ok (A : Option Addr) (n c : Nat) (f : List Int) (y : Int) (W : World) (B : Nat) (hs : Sl W B A n (ints f)) (hf : IsC n f) (h0 : 0 ≤ y) (h1 : y ≤ 1000000) :
    Calls Try.prog 37 #[.slice A n c, .int .i64 y] W fun e w' => e = .returned (.int .i64 0) ∧ W = w' := by
  have H := Lib.hid hf.err
  have hn := hf.top
  clear hf
  go_enter Try.func37, Try.ntmps37
  go_wp2_with fail
  refine (ccheck_any A n c f _ _ hs (by omega)).mono ?_
  rintro e w' ⟨rfl, rfl⟩
  rw [H.out]
  clear hs
  go_wp2_with fail
  go_ret
  exact ⟨rfl, rfl⟩
def lookE (f : List Int) (y : Int) : Int := if curveErr f = 0 then (if y < 0 ∨ 1000000 < y then 1 else 0) else curveErr f
theorem lookE_ok {f : List Int} {y : Int} (h : lookE f y = 0) : curveErr f = 0 ∧ 0 ≤ y ∧ y ≤ 1000000 := by
  unfold lookE at h
  split at h
  · rename_i h1
    split at h
    · cases h
    · exact ⟨h1, by omega, by omega⟩
  · rename_i h1; exact absurd h h1
theorem look_any (A : Option Addr) (n c : Nat) (f : List Int) (y : Int) (W : World) (B : Nat) (hs : Sl W B A n (ints f)) (hn : n ≤ 9223372036854775807) :
    Calls Try.prog 37 #[.slice A n c, .int .i64 y] W fun e w' => e = .returned (.int .i64 (lookE f y)) ∧ W = w' := by
  by_cases h : curveErr f = 0
  · have H := Lib.hid h
    by_cases h1 : y < 0
    · have e : Hid (lookE f y = 1) := by show _ = _; unfold lookE; rw [if_pos h, if_pos (.inl h1)]
      clear h
      go_enter Try.func37, Try.ntmps37
      go_wp2_with fail
      refine (ccheck_any A n c f _ _ hs hn).mono ?_
      rintro e w' ⟨rfl, rfl⟩
      rw [H.out]
      clear hs
      go_wp2_with fail
      go_ret
      exact ⟨by rw [e.out]; rfl, rfl⟩
    · by_cases h2 : 1000000 < y
      · have e : Hid (lookE f y = 1) := by show _ = _; unfold lookE; rw [if_pos h, if_pos (.inr h2)]
        clear h
        go_enter Try.func37, Try.ntmps37
        go_wp2_with fail
        refine (ccheck_any A n c f _ _ hs hn).mono ?_
        rintro e w' ⟨rfl, rfl⟩
        rw [H.out]
        clear hs
        go_wp2_with fail
        go_ret
        exact ⟨by rw [e.out]; rfl, rfl⟩
      · have e : lookE f y = 0 := by unfold lookE; rw [if_pos h, if_neg (by omega)]
        rw [e]
        exact look_ok A n c f y W B hs (by have := isC_of h; rwa [hs.int_len] at this) (by omega) (by omega)
  · have hne : (curveErr f != 0) = true := by simpa using h
    have e : Hid (lookE f y = curveErr f) := by show _ = _; unfold lookE; rw [if_neg h]
    clear h
    go_enter Try.func37, Try.ntmps37
    go_wp2_with fail
    refine (ccheck_any A n c f _ _ hs hn).mono ?_
    rintro e w' ⟨rfl, rfl⟩
    clear hs
    go_wp2_with fail
    go_ret
    exact ⟨by rw [e.out]; rfl, rfl⟩
/-- The first of n at which p holds, or n. -/
def firstIs (n : Nat) (p : Nat → Bool) (k : Nat) : Prop := k ≤ n ∧ (∀ i, i < k → p i = false) ∧ ∀ i, k ≤ i → i < n → p i = true
theorem firstIs_ex (n : Nat) (p : Nat → Bool) (mono : ∀ i j, i ≤ j → j < n → p i = true → p j = true) : ∃ k, firstIs n p k := by
  induction n with
  | zero => exact ⟨0, Nat.le_refl _, fun i hi => by omega, fun i _ hi => by omega⟩
  | succ n ih =>
    obtain ⟨k, h1, h2, h3⟩ := ih fun i j hij hj => mono i j hij (by omega)
    rcases Nat.lt_or_ge k n with h | h
    · refine ⟨k, by omega, h2, fun i hi hn => ?_⟩
      rcases Nat.lt_or_ge i n with h' | h'
      · exact h3 i hi h'
      · obtain rfl : i = n := by omega
        exact mono k i (by omega) (by omega) (h3 k (by omega) h)
    · obtain rfl : k = n := by omega
      by_cases hp : p k = true
      · refine ⟨k, by omega, h2, fun i hi hn => ?_⟩
        obtain rfl : i = k := by omega
        exact hp
      · refine ⟨k + 1, by omega, fun i hi => ?_, fun i hi hn => by omega⟩
        rcases Nat.lt_or_ge i k with h' | h'
        · exact h2 i h'
        · obtain rfl : i = k := by omega
          exact Bool.eq_false_iff.2 hp
theorem firstIs_lit {n k : Nat} {p : Nat → Bool} (hk : k ≤ n) (h : ∀ i, i < n → p i = decide (k ≤ i)) : firstIs n p k :=
  ⟨hk, fun i hi => by rw [h i (by omega)]; exact decide_eq_false (by omega), fun i h1 h2 => by rw [h i h2]; exact decide_eq_true h1⟩
theorem lower_ex {n : Nat} {f : List Int} (hf : IsC n f) (y : Int) : ∃ k, firstIs n (fun i => decide (y ≤ gi f i)) k :=
  firstIs_ex _ _ fun i j hij hj h => by have := hf.up i j hij hj; have := of_decide_eq_true h; exact decide_eq_true (by omega)
theorem upper_ex {n : Nat} {f : List Int} (hf : IsC n f) (y : Int) : ∃ k, firstIs n (fun i => decide (y < gi f i)) k :=
  firstIs_ex _ _ fun i j hij hj h => by have := hf.up i j hij hj; have := of_decide_eq_true h; exact decide_eq_true (by omega)
theorem half (i j : Nat) : ((i : Int) + j) / 2 = ((i + j) / 2 : Nat) := by omega
theorem slMore' {w : World} {n : Nat} {A : Option Addr} {xs : List Value} (h : Sl w w.heap.size A n xs) (o : Obj) : Sl (w.alloc o) (w.alloc o).heap.size A n xs := (h.alloc (Nat.le_refl _) o).more (by simp)
theorem below_dr {W w : World} (h : Below W.heap.size W w) (q : Nat) : Below W.heap.size W (w.drewN q) := ⟨h.os, h.tape, h.output, h.size, h.block⟩
theorem lower1 (A : Option Addr) (n c : Nat) (f : List Int) (y : Int) (W : World) (B g q : Nat) (hs : Sl W B A n (ints f)) (hc : W.cell? ⟨g, 0, none⟩ = some (.slice A n c)) (hy : W.cell? ⟨g + 1, 0, none⟩ = some (.int .i64 y)) (i : Nat) (hi : i < n) :
    Calls Try.prog 39 #[.int .i64 i, .pointer (some ⟨g, 0, none⟩), .pointer (some ⟨g + 1, 0, none⟩)] (W.drewN q) fun e w' => e = .returned (.bool (decide (y ≤ gi f i))) ∧ ∃ q', w' = W.drewN q' := by
  obtain ⟨b, off, rfl, hb, hcl⟩ := hs.int_at hi
  have h0 : (0 : Int) ≤ i := by omega
  have h1 : (i : Int) < n := by omega
  clear hs
  go_enter Try.func39, Try.ntmps39
  go_wp2_with fail
  go_quiet (fail)
  go_wp2_with fail
  go_ret
  exact ⟨rfl, _, World.drewN_drewN _ _ _⟩
set_option maxHeartbeats 1600000 in
theorem lower_search (A : Option Addr) (n c : Nat) (f : List Int) (y : Int) (W : World) (B g : Nat) (hs : Sl W B A n (ints f)) (hn : n ≤ 61) (hc : W.cell? ⟨g, 0, none⟩ = some (.slice A n c)) (hy : W.cell? ⟨g + 1, 0, none⟩ = some (.int .i64 y)) (k : Nat) (h : firstIs n (fun i => decide (y ≤ gi f i)) k) :
    Calls Try.prog 38 #[.int .i64 n, .func (.func 39) #[] #[.pointer (some ⟨g, 0, none⟩), .pointer (some ⟨g + 1, 0, none⟩)]] W fun e w' => e = .returned (.int .i64 k) ∧ ∃ q, w' = W.drewN q := by
  obtain ⟨hk, k1, k2⟩ := h
  have K1 := Lib.hid k1
  have K2 := Lib.hid k2
  have HC := Lib.hid hc
  have HY := Lib.hid hy
  clear k1 k2 hc hy
  go_enter Try.func38, Try.ntmps38
  go_wp2_with fail
  go_loopw [5, 6, 7] (fun i j _ wr => ∃ a b : Nat, a ≤ k ∧ k ≤ b ∧ b ≤ n ∧ i = .int .i64 a ∧ j = .int .i64 b ∧ ∃ q, wr = W.drewN q) (fun i j _ _ => (intOf j).toNat - (intOf i).toNat)
  case atStart => exact ⟨0, n, by omega, hk, Nat.le_refl _, rfl, rfl, 0, rfl⟩
  case round =>
    obtain ⟨a, b, ha, hb, hbn, rfl, rfl, q, rfl⟩ := hrel
    have h0 : (0 : Int) ≤ a := by omega
    have h2 : (0 : Int) ≤ b := by omega
    have hh := half a b
    obtain ⟨m, hm⟩ : ∃ m, (a + b) / 2 = m := ⟨_, rfl⟩
    rw [hm] at hh
    have HH := Lib.hid hh
    clear hh
    by_cases hlt : a < b
    · have hlt' : (a : Int) < b := by omega
      have hmb : m < b := by omega
      have hma : a ≤ m := by omega
      have hu : IntKind.i64.wrap ((a : Int) + b) = (a : Int) + b := IntWalk.i64_in _ ⟨by omega, by omega⟩
      have HM := Lib.hid hm
      clear hm
      go_wp2_with fail
      rw [HH.out]
      clear hu
      by_cases hp : y ≤ gi f m
      · have t1 : Hid (decide (y ≤ gi f m) = true) := decide_eq_true hp
        have hkm : k ≤ m := by
          rcases Nat.lt_or_ge m k with h | h
          · have := K1.out m h; rw [t1.out] at this; cases this
          · exact h
        clear hp
        refine (lower1 A n c f y W B g q hs HC.out HY.out m (by omega)).mono ?_
        rintro e w' ⟨rfl, q', rfl⟩
        rw [t1.out]
        go_wp2_with fail
        go_roundw
        case rel => exact ⟨a, m, ha, hkm, by omega, rfl, rfl, _, rfl⟩
        case measure => simp [intOf]; omega
      · have t1 : Hid (decide (y ≤ gi f m) = false) := decide_eq_false hp
        have hkm : m + 1 ≤ k := by
          rcases Nat.lt_or_ge m k with h | h
          · exact h
          · have := K2.out m h (by omega); rw [t1.out] at this; cases this
        clear hp
        refine (lower1 A n c f y W B g q hs HC.out HY.out m (by omega)).mono ?_
        rintro e w' ⟨rfl, q', rfl⟩
        rw [t1.out]
        go_wp2_with fail
        go_roundw
        case rel => exact ⟨m + 1, b, hkm, hb, hbn, by go_num, rfl, _, rfl⟩
        case measure => simp [intOf]; omega
    · have hak : a = k := by omega
      subst hak
      have hlt' : ¬ (a : Int) < b := by omega
      clear hm
      go_wp2_with fail
      go_ret
      exact ⟨rfl, _, rfl⟩
theorem lower_any (A : Option Addr) (n c : Nat) (f : List Int) (y : Int) (W : World) (hs : Sl W W.heap.size A n (ints f)) (hn : n ≤ 9223372036854775807) (hf : IsC n f) (h0 : 0 ≤ y) (h1 : y ≤ 1000000) (k : Nat) (hk : firstIs n (fun i => decide (y ≤ gi f i)) k) (v er : Int) (h : (((k : Int), (0 : Int)) : Int × Int) = (v, er)) :
    Calls Try.prog 21 #[.slice A n c, .int .i64 y] W fun e w' => e = .returned (.tuple #[.int .i64 v, .int .i64 er]) ∧ Below W.heap.size W w' := by
  injection h with e1 e2
  subst e1 e2
  have K := Lib.hid hk
  have F := Lib.hid hf
  have ht := hf.top
  have hkn := hk.1
  clear hk hf
  have s2 := slMore' (slMore' hs (.cells #[.slice A n c] 22)) (.cells #[.int .i64 y] 3)
  have b2 : Below W.heap.size W ((W.alloc (.cells #[.slice A n c] 22)).alloc (.cells #[.int .i64 y] 3)) := ((Below.refl _ _).alloc (Nat.le_refl _) _).alloc (by simp) _
  have S2 := Lib.hid s2
  have B2 := Lib.hid b2
  clear s2 b2 hs
  go_enter Try.func21, Try.ntmps21
  go_wp2_with fail
  refine (look_ok A n c f y _ _ S2.out F.out h0 h1).mono ?_
  rintro e w' ⟨rfl, rfl⟩
  go_wp2_with fail
  refine (lower_search A n c f y _ _ W.heap.size S2.out ht (by simp) (by simp) k K.out).mono ?_
  rintro e w' ⟨rfl, q, rfl⟩
  go_wp2_with fail
  go_ret2
  exact ⟨rfl, below_dr B2.out q⟩
theorem lower_bad (A : Option Addr) (n c : Nat) (f : List Int) (y : Int) (W : World) (hs : Sl W W.heap.size A n (ints f)) (hn : n ≤ 9223372036854775807) (he : lookE f y ≠ 0) (v er : Int) (h : (((0 : Int), lookE f y) : Int × Int) = (v, er)) :
    Calls Try.prog 21 #[.slice A n c, .int .i64 y] W fun e w' => e = .returned (.tuple #[.int .i64 v, .int .i64 er]) ∧ Below W.heap.size W w' := by
  injection h with e1 e2
  subst e1 e2
  have hne : (lookE f y != 0) = true := by simpa using he
  have s2 := slMore' (slMore' hs (.cells #[.slice A n c] 22)) (.cells #[.int .i64 y] 3)
  have b2 : Below W.heap.size W ((W.alloc (.cells #[.slice A n c] 22)).alloc (.cells #[.int .i64 y] 3)) := ((Below.refl _ _).alloc (Nat.le_refl _) _).alloc (by simp) _
  have S2 := Lib.hid s2
  have B2 := Lib.hid b2
  clear s2 b2 hs he
  go_enter Try.func21, Try.ntmps21
  go_wp2_with fail
  refine (look_any A n c f y _ _ S2.out hn).mono ?_
  rintro e w' ⟨rfl, rfl⟩
  go_wp2_with fail
  go_ret2
  exact ⟨rfl, B2.out⟩
theorem upper1 (A : Option Addr) (n c : Nat) (f : List Int) (y : Int) (W : World) (B g q : Nat) (hs : Sl W B A n (ints f)) (hc : W.cell? ⟨g, 0, none⟩ = some (.slice A n c)) (hy : W.cell? ⟨g + 1, 0, none⟩ = some (.int .i64 y)) (i : Nat) (hi : i < n) :
    Calls Try.prog 40 #[.int .i64 i, .pointer (some ⟨g, 0, none⟩), .pointer (some ⟨g + 1, 0, none⟩)] (W.drewN q) fun e w' => e = .returned (.bool (decide (y < gi f i))) ∧ ∃ q', w' = W.drewN q' := by
  obtain ⟨b, off, rfl, hb, hcl⟩ := hs.int_at hi
  have h0 : (0 : Int) ≤ i := by omega
  have h1 : (i : Int) < n := by omega
  clear hs
  go_enter Try.func40, Try.ntmps40
  go_wp2_with fail
  go_quiet (fail)
  go_wp2_with fail
  go_ret
  exact ⟨rfl, _, World.drewN_drewN _ _ _⟩
set_option maxHeartbeats 1600000 in
theorem upper_search (A : Option Addr) (n c : Nat) (f : List Int) (y : Int) (W : World) (B g : Nat) (hs : Sl W B A n (ints f)) (hn : n ≤ 61) (hc : W.cell? ⟨g, 0, none⟩ = some (.slice A n c)) (hy : W.cell? ⟨g + 1, 0, none⟩ = some (.int .i64 y)) (k : Nat) (h : firstIs n (fun i => decide (y < gi f i)) k) :
    Calls Try.prog 38 #[.int .i64 n, .func (.func 40) #[] #[.pointer (some ⟨g, 0, none⟩), .pointer (some ⟨g + 1, 0, none⟩)]] W fun e w' => e = .returned (.int .i64 k) ∧ ∃ q, w' = W.drewN q := by
  obtain ⟨hk, k1, k2⟩ := h
  have K1 := Lib.hid k1
  have K2 := Lib.hid k2
  have HC := Lib.hid hc
  have HY := Lib.hid hy
  clear k1 k2 hc hy
  go_enter Try.func38, Try.ntmps38
  go_wp2_with fail
  go_loopw [5, 6, 7] (fun i j _ wr => ∃ a b : Nat, a ≤ k ∧ k ≤ b ∧ b ≤ n ∧ i = .int .i64 a ∧ j = .int .i64 b ∧ ∃ q, wr = W.drewN q) (fun i j _ _ => (intOf j).toNat - (intOf i).toNat)
  case atStart => exact ⟨0, n, by omega, hk, Nat.le_refl _, rfl, rfl, 0, rfl⟩
  case round =>
    obtain ⟨a, b, ha, hb, hbn, rfl, rfl, q, rfl⟩ := hrel
    have h0 : (0 : Int) ≤ a := by omega
    have h2 : (0 : Int) ≤ b := by omega
    have hh := half a b
    obtain ⟨m, hm⟩ : ∃ m, (a + b) / 2 = m := ⟨_, rfl⟩
    rw [hm] at hh
    have HH := Lib.hid hh
    clear hh
    by_cases hlt : a < b
    · have hlt' : (a : Int) < b := by omega
      have hmb : m < b := by omega
      have hma : a ≤ m := by omega
      have hu : IntKind.i64.wrap ((a : Int) + b) = (a : Int) + b := IntWalk.i64_in _ ⟨by omega, by omega⟩
      have HM := Lib.hid hm
      clear hm
      go_wp2_with fail
      rw [HH.out]
      clear hu
      by_cases hp : y < gi f m
      · have t1 : Hid (decide (y < gi f m) = true) := decide_eq_true hp
        have hkm : k ≤ m := by
          rcases Nat.lt_or_ge m k with h | h
          · have := K1.out m h; rw [t1.out] at this; cases this
          · exact h
        clear hp
        refine (upper1 A n c f y W B g q hs HC.out HY.out m (by omega)).mono ?_
        rintro e w' ⟨rfl, q', rfl⟩
        rw [t1.out]
        go_wp2_with fail
        go_roundw
        case rel => exact ⟨a, m, ha, hkm, by omega, rfl, rfl, _, rfl⟩
        case measure => simp [intOf]; omega
      · have t1 : Hid (decide (y < gi f m) = false) := decide_eq_false hp
        have hkm : m + 1 ≤ k := by
          rcases Nat.lt_or_ge m k with h | h
          · exact h
          · have := K2.out m h (by omega); rw [t1.out] at this; cases this
        clear hp
        refine (upper1 A n c f y W B g q hs HC.out HY.out m (by omega)).mono ?_
        rintro e w' ⟨rfl, q', rfl⟩
        rw [t1.out]
        go_wp2_with fail
        go_roundw
        case rel => exact ⟨m + 1, b, hkm, hb, hbn, by go_num, rfl, _, rfl⟩
        case measure => simp [intOf]; omega
    · have hak : a = k := by omega
      subst hak
      have hlt' : ¬ (a : Int) < b := by omega
      clear hm
      go_wp2_with fail
      go_ret
      exact ⟨rfl, _, rfl⟩
theorem upper_any (A : Option Addr) (n c : Nat) (f : List Int) (y : Int) (W : World) (hs : Sl W W.heap.size A n (ints f)) (hn : n ≤ 9223372036854775807) (hf : IsC n f) (h0 : 0 ≤ y) (h1 : y ≤ 1000000) (k : Nat) (hk : firstIs n (fun i => decide (y < gi f i)) k) (v er : Int) (h : (((k : Int) - 1, (0 : Int)) : Int × Int) = (v, er)) :
    Calls Try.prog 22 #[.slice A n c, .int .i64 y] W fun e w' => e = .returned (.tuple #[.int .i64 v, .int .i64 er]) ∧ Below W.heap.size W w' := by
  injection h with e1 e2
  subst e1 e2
  have K := Lib.hid hk
  have F := Lib.hid hf
  have ht := hf.top
  have hkn := hk.1
  clear hk hf
  have s2 := slMore' (slMore' hs (.cells #[.slice A n c] 22)) (.cells #[.int .i64 y] 3)
  have b2 : Below W.heap.size W ((W.alloc (.cells #[.slice A n c] 22)).alloc (.cells #[.int .i64 y] 3)) := ((Below.refl _ _).alloc (Nat.le_refl _) _).alloc (by simp) _
  have S2 := Lib.hid s2
  have B2 := Lib.hid b2
  clear s2 b2 hs
  go_enter Try.func22, Try.ntmps22
  go_wp2_with fail
  refine (look_ok A n c f y _ _ S2.out F.out h0 h1).mono ?_
  rintro e w' ⟨rfl, rfl⟩
  go_wp2_with fail
  refine (upper_search A n c f y _ _ W.heap.size S2.out ht (by simp) (by simp) k K.out).mono ?_
  rintro e w' ⟨rfl, q, rfl⟩
  go_wp2_with fail
  go_ret2
  exact ⟨rfl, below_dr B2.out q⟩
theorem upper_bad (A : Option Addr) (n c : Nat) (f : List Int) (y : Int) (W : World) (hs : Sl W W.heap.size A n (ints f)) (hn : n ≤ 9223372036854775807) (he : lookE f y ≠ 0) (v er : Int) (h : (((0 : Int), lookE f y) : Int × Int) = (v, er)) :
    Calls Try.prog 22 #[.slice A n c, .int .i64 y] W fun e w' => e = .returned (.tuple #[.int .i64 v, .int .i64 er]) ∧ Below W.heap.size W w' := by
  injection h with e1 e2
  subst e1 e2
  have hne : (lookE f y != 0) = true := by simpa using he
  have s2 := slMore' (slMore' hs (.cells #[.slice A n c] 22)) (.cells #[.int .i64 y] 3)
  have b2 : Below W.heap.size W ((W.alloc (.cells #[.slice A n c] 22)).alloc (.cells #[.int .i64 y] 3)) := ((Below.refl _ _).alloc (Nat.le_refl _) _).alloc (by simp) _
  have S2 := Lib.hid s2
  have B2 := Lib.hid b2
  clear s2 b2 hs he
  go_enter Try.func22, Try.ntmps22
  go_wp2_with fail
  refine (look_any A n c f y _ _ S2.out hn).mono ?_
  rintro e w' ⟨rfl, rfl⟩
  go_wp2_with fail
  go_ret2
  exact ⟨rfl, B2.out⟩
end Go.Proofs.Ytmdoecegmdkigaa
