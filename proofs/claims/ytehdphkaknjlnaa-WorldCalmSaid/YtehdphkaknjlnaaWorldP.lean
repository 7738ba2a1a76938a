/- Plain laws of a world: who gets the next byte. -/
import Derived.Test.YtehdphkaknjlnaaElems
set_option linter.unusedVariables false
namespace Go.Proofs.Ytehdphkaknjlnaa
open Go.RowKit
def updN (f : Nat → Int) (i : Nat) (v : Int) : Nat → Int := fun k => if k = i then v else f k
theorem updN_same (f : Nat → Int) (i : Nat) (v : Int) : updN f i v i = v := if_pos rfl
theorem updN_other {f : Nat → Int} {i k : Nat} {v : Int} (h : k ≠ i) : updN f i v k = f k := if_neg h
/-- What all lag by, what they have of a piece, and whose turn it is. -/
structure WS where
  L : Nat → Int
  P : Nat → Int
  t : Nat
structure WInv (n : Nat) (u : Int) (s : WS) : Prop where
  lag : ∀ i, i < n → 0 ≤ s.L i ∧ s.L i ≤ 1000000
  part : ∀ i, i < n → 0 ≤ s.P i ∧ s.P i < u ∧ (s.P i = 0 ∨ s.P i < s.L i)
  turn : s.t < n
/-- The first that lags, of the k from the one whose turn it is. -/
def wscan (n : Nat) (s : WS) : Nat → Option Nat
  | 0 => none
  | k + 1 => match wscan n s k with
    | some i => some i
    | none => if s.L ((s.t + k) % n) = 0 then none else some ((s.t + k) % n)
theorem wscan_some {n : Nat} {s : WS} {k i : Nat} (h : wscan n s k = some i) : wscan n s (k + 1) = some i := by unfold wscan; rw [h]
theorem wscan_none {n : Nat} {s : WS} {k : Nat} (h : wscan n s k = none) : wscan n s (k + 1) = if s.L ((s.t + k) % n) = 0 then none else some ((s.t + k) % n) := by rw [wscan, h]
theorem wscan_cases (n : Nat) (s : WS) (k : Nat) : (wscan n s k = none ∧ ∀ j, j < k → s.L ((s.t + j) % n) = 0) ∨ ∃ j, j < k ∧ wscan n s k = some ((s.t + j) % n) ∧ s.L ((s.t + j) % n) ≠ 0 ∧ ∀ q, q < j → s.L ((s.t + q) % n) = 0 := by
  induction k with
  | zero => exact .inl ⟨rfl, fun j hj => by omega⟩
  | succ k ih =>
    rcases ih with ⟨h, ha⟩ | ⟨j, hj, h, h1, h2⟩
    · rw [wscan_none h]
      by_cases h0 : s.L ((s.t + k) % n) = 0
      · rw [if_pos h0]
        refine .inl ⟨rfl, fun j hj => ?_⟩
        rcases Nat.lt_or_ge j k with h' | h'
        · exact ha j h'
        · obtain rfl : j = k := by omega
          exact h0
      · rw [if_neg h0]
        exact .inr ⟨k, by omega, rfl, h0, ha⟩
    · exact .inr ⟨j, by omega, wscan_some h, h1, h2⟩
theorem wscan_later {n : Nat} {s : WS} {k j : Nat} (hj : j < k) (h0 : ∀ q, q < j → s.L ((s.t + q) % n) = 0) (h1 : s.L ((s.t + j) % n) ≠ 0) : wscan n s k = some ((s.t + j) % n) := by
  rcases wscan_cases n s k with ⟨h, ha⟩ | ⟨i, hi, h, h2, h3⟩
  · exact absurd (ha j hj) h1
  · rcases Nat.lt_trichotomy i j with hij | hij | hij
    · exact absurd (h0 i hij) h2
    · rw [h, hij]
    · exact absurd (h3 j hij) h1
/-- i gets a byte. -/
def wadv (n : Nat) (u : Int) (s : WS) (i : Nat) : WS :=
  if s.P i + 1 = u ∨ s.P i + 1 = s.L i then ⟨updN s.L i (s.L i - (s.P i + 1)), updN s.P i 0, (i + 1) % n⟩ else ⟨s.L, updN s.P i (s.P i + 1), (i + 1) % n⟩
def wone (n : Nat) (u : Int) (s : WS) : WS := match wscan n s n with
  | some i => wadv n u s i
  | none => s
/-- The state q bytes on. -/
def wit (n : Nat) (u : Int) (s : WS) : Nat → WS
  | 0 => s
  | q + 1 => wone n u (wit n u s q)
theorem wit_succ (n : Nat) (u : Int) (s : WS) (q : Nat) : wit n u s (q + 1) = wone n u (wit n u s q) := rfl
theorem wone_some {n : Nat} {u : Int} {s : WS} {i : Nat} (h : wscan n s n = some i) : wone n u s = wadv n u s i := by unfold wone; rw [h]
theorem wone_none {n : Nat} {u : Int} {s : WS} (h : wscan n s n = none) : wone n u s = s := by unfold wone; rw [h]
/-- All that they lag by. -/
def wtot (s : WS) : Nat → Int
  | 0 => 0
  | k + 1 => wtot s k + (s.L k - s.P k)
theorem wtot_succ (s : WS) (k : Nat) : wtot s (k + 1) = wtot s k + (s.L k - s.P k) := rfl
theorem inv_adv {n : Nat} {u : Int} {s : WS} {i : Nat} (h : WInv n u s) (hi : i < n) (hL : s.L i ≠ 0) : WInv n u (wadv n u s i) := by
  have l := h.lag i hi
  have p := h.part i hi
  unfold wadv
  split
  · rename_i hc
    refine ⟨fun k hk => ?_, fun k hk => ?_, Nat.mod_lt _ (by omega)⟩
    · show 0 ≤ updN s.L i (s.L i - (s.P i + 1)) k ∧ updN s.L i (s.L i - (s.P i + 1)) k ≤ 1000000
      by_cases hki : k = i
      · subst hki; rw [updN_same]; omega
      · rw [updN_other hki]; exact h.lag k hk
    · show 0 ≤ updN s.P i 0 k ∧ updN s.P i 0 k < u ∧ (updN s.P i 0 k = 0 ∨ updN s.P i 0 k < updN s.L i (s.L i - (s.P i + 1)) k)
      by_cases hki : k = i
      · subst hki; rw [updN_same]; omega
      · rw [updN_other hki, updN_other hki]; exact h.part k hk
  · rename_i hc
    refine ⟨h.lag, fun k hk => ?_, Nat.mod_lt _ (by omega)⟩
    show 0 ≤ updN s.P i (s.P i + 1) k ∧ updN s.P i (s.P i + 1) k < u ∧ (updN s.P i (s.P i + 1) k = 0 ∨ updN s.P i (s.P i + 1) k < s.L k)
    by_cases hki : k = i
    · subst hki; rw [updN_same]; omega
    · rw [updN_other hki]; exact h.part k hk
theorem tot_upd {L P L' P' : Nat → Int} {t t' i : Nat} (hL : ∀ k, k ≠ i → L' k = L k) (hP : ∀ k, k ≠ i → P' k = P k) (n : Nat) : wtot ⟨L', P', t'⟩ n = wtot ⟨L, P, t⟩ n + if i < n then (L' i - P' i) - (L i - P i) else 0 := by
  induction n with
  | zero => rfl
  | succ n ih =>
    rw [wtot_succ, wtot_succ, ih]
    show _ + (L' n - P' n) = _ + (L n - P n) + _
    rcases Nat.lt_trichotomy i n with h | h | h
    · rw [if_pos h, if_pos (by omega), hL n (by omega), hP n (by omega)]; omega
    · subst h
      rw [if_neg (by omega), if_pos (by omega)]; omega
    · rw [if_neg (by omega), if_neg (by omega), hL n (by omega), hP n (by omega)]; omega
theorem tot_adv {n : Nat} {u : Int} {s : WS} {i : Nat} (hi : i < n) : wtot (wadv n u s i) n = wtot s n - 1 := by
  obtain ⟨L, P, t⟩ := s
  unfold wadv
  split
  · rw [tot_upd (L := L) (P := P) (t := t) (i := i) (fun k hk => updN_other hk) (fun k hk => updN_other hk) n, if_pos hi, updN_same, updN_same]
    show _ + (L i - (P i + 1) - 0 - (L i - P i)) = _
    omega
  · rw [tot_upd (L := L) (P := P) (t := t) (i := i) (fun k hk => rfl) (fun k hk => updN_other hk) n, if_pos hi, updN_same]
    show _ + (L i - (P i + 1) - (L i - P i)) = _
    omega
theorem tot_nonneg {n : Nat} {u : Int} {s : WS} (h : WInv n u s) (k : Nat) (hk : k ≤ n) : 0 ≤ wtot s k ∧ wtot s k ≤ 1000000 * k := by
  induction k with
  | zero => exact ⟨Int.le_refl _, by simp [wtot]⟩
  | succ k ih =>
    have a := ih (by omega)
    have l := h.lag k (by omega)
    have p := h.part k (by omega)
    rw [wtot_succ]
    push_cast
    omega
theorem scan_lt {n : Nat} {s : WS} {i : Nat} (hn : 0 < n) (h : wscan n s n = some i) : i < n ∧ s.L i ≠ 0 := by
  rcases wscan_cases n s n with ⟨h', _⟩ | ⟨j, hj, h', h1, _⟩
  · rw [h'] at h; cases h
  · rw [h'] at h
    injection h with h
    subst h
    exact ⟨Nat.mod_lt _ hn, h1⟩
theorem scan_none_all {n : Nat} {u : Int} {s : WS} (hi : WInv n u s) (h : wscan n s n = none) (i : Nat) (hin : i < n) : s.L i = 0 := by
  rcases wscan_cases n s n with ⟨_, ha⟩ | ⟨j, hj, h', _⟩
  · have ht := hi.turn
    rcases Nat.lt_or_ge i s.t with h1 | h1
    · have := ha (i + n - s.t) (by omega)
      rwa [show s.t + (i + n - s.t) = i + n by omega, Nat.add_mod_right, Nat.mod_eq_of_lt hin] at this
    · have := ha (i - s.t) (by omega)
      rwa [show s.t + (i - s.t) = i by omega, Nat.mod_eq_of_lt hin] at this
  · rw [h'] at h; cases h
theorem tot_zero {n : Nat} {u : Int} {s : WS} (hi : WInv n u s) (h : wscan n s n = none) (k : Nat) (hk : k ≤ n) : wtot s k = 0 := by
  induction k with
  | zero => rfl
  | succ k ih =>
    have a := scan_none_all hi h k (by omega)
    have p := hi.part k (by omega)
    rw [wtot_succ, ih (by omega)]
    omega
theorem inv_one {n : Nat} {u : Int} {s : WS} (h : WInv n u s) : WInv n u (wone n u s) := by
  cases hs : wscan n s n with
  | none => rw [wone_none hs]; exact h
  | some i =>
    rw [wone_some hs]
    obtain ⟨a, b⟩ := scan_lt (by have := h.turn; omega) hs
    exact inv_adv h a b
theorem inv_wit {n : Nat} {u : Int} {s : WS} (h : WInv n u s) (q : Nat) : WInv n u (wit n u s q) := by
  induction q with
  | zero => exact h
  | succ q ih => exact inv_one ih
theorem wit_stay {n : Nat} {u : Int} {s : WS} {q : Nat} (h : wscan n (wit n u s q) n = none) (k : Nat) : wit n u s (q + k) = wit n u s q := by
  induction k with
  | zero => rfl
  | succ k ih => rw [show q + (k + 1) = q + k + 1 from rfl, wit_succ, ih, wone_none h]
theorem wit_tot {n : Nat} {u : Int} {s : WS} (h : WInv n u s) (q : Nat) (hq : (q : Int) ≤ wtot s n) : wtot (wit n u s q) n = wtot s n - q := by
  induction q with
  | zero => simp [wit]
  | succ q ih =>
    have a := ih (by push_cast at hq; omega)
    rw [wit_succ]
    cases hs : wscan n (wit n u s q) n with
    | none =>
      have := tot_zero (inv_wit h q) hs n (Nat.le_refl _)
      push_cast at hq
      omega
    | some i =>
      rw [wone_some hs, tot_adv (scan_lt (by have := h.turn; omega) hs).1, a]
      push_cast
      omega
theorem wit_add (n : Nat) (u : Int) (s : WS) (a b : Nat) : wit n u s (a + b) = wit n u (wit n u s a) b := by
  induction b with
  | zero => rfl
  | succ b ih => rw [show a + (b + 1) = a + b + 1 from rfl, wit_succ, wit_succ, ih]
/-- How many bytes a tick gives. -/
def wgot (n : Nat) (s : WS) (r : Nat) : Int := if (r : Int) ≤ wtot s n then r else wtot s n
theorem wgot_end {n : Nat} {u : Int} {s : WS} (h : WInv n u s) {q r : Nat} (hq : (q : Int) ≤ wtot s n) (hr : q < r) (hs : wscan n (wit n u s q) n = none) : wgot n s r = q ∧ wit n u s r = wit n u s q := by
  have a := wit_tot h q hq
  have b := tot_zero (inv_wit h q) hs n (Nat.le_refl _)
  refine ⟨?_, ?_⟩
  · unfold wgot
    rw [if_neg (by omega)]
    omega
  · obtain ⟨k, rfl⟩ : ∃ k, r = q + k := ⟨r - q, by omega⟩
    exact wit_stay hs k
theorem wit_next {n : Nat} {u : Int} {s : WS} (h : WInv n u s) {q i : Nat} (hq : (q : Int) ≤ wtot s n) (hs : wscan n (wit n u s q) n = some i) : ((q + 1 : Nat) : Int) ≤ wtot s n := by
  have a := wit_tot h q hq
  obtain ⟨hi, hL⟩ := scan_lt (by have := h.turn; omega) hs
  have b := tot_adv (u := u) (s := wit n u s q) hi
  have c := (tot_nonneg (inv_adv (inv_wit h q) hi hL) n (Nat.le_refl _)).1
  push_cast
  omega
end Go.Proofs.Ytehdphkaknjlnaa
