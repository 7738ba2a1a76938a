/- WorldShares: peers with equal lags and pieces of one byte finish as in package share. -/
import Derived.Test.YtehdphkaknjlnaaWorldD
import Derived.Test.YtehdphkaknjlnaaShareB
import Derived.Test.YtehdphkaknjlnaaRepeatI
import Derived.Test.YtehdphkaknjlnaaWithin
set_option linter.unusedVariables false
namespace Go.Proofs.Ytehdphkaknjlnaa
open Go.RowKit
/-- T bytes have gone in turn, of n times lag. -/
structure RS (n lag T : Nat) (s : WS) : Prop where
  P : ∀ i, i < n → s.P i = 0
  eq : ∃ q : Nat, T = n * q + s.t ∧ ∀ i, i < n → s.L i = (lag : Int) - (q + if i < s.t then 1 else 0)
theorem rs_step {n lag T : Nat} {s : WS} (inv : WInv n 1 s) (h : RS n lag T s) (hT : T < n * lag) : RS n lag (T + 1) (wone n 1 s) := by
  have ht := inv.turn
  obtain ⟨q, hq, hL⟩ := h.eq
  have hql : q < lag := by
    rcases Nat.lt_or_ge q lag with h' | h'
    · exact h'
    · have := Nat.mul_le_mul_left n h'; omega
  have lt := hL s.t ht
  rw [if_neg (Nat.lt_irrefl _)] at lt
  have hs : wscan n s n = some s.t := by
    have := wscan_later (n := n) (s := s) (k := n) (j := 0) (by omega) (fun q hq => by omega) (by
      rw [Nat.add_zero, Nat.mod_eq_of_lt ht]
      omega)
    rwa [Nat.add_zero, Nat.mod_eq_of_lt ht] at this
  have e : wadv n 1 s s.t = ⟨updN s.L s.t (s.L s.t - (s.P s.t + 1)), updN s.P s.t 0, (s.t + 1) % n⟩ := by
    unfold wadv
    rw [if_pos (.inl (by rw [h.P s.t ht]; omega))]
  rw [wone_some hs, e]
  have gL : ∀ k, k < n → updN s.L s.t (s.L s.t - (s.P s.t + 1)) k = (lag : Int) - (q + (if k < s.t then 1 else 0) + if k = s.t then 1 else 0) := fun k hk => by
    by_cases hks : k = s.t
    · subst hks
      rw [updN_same, if_neg (Nat.lt_irrefl _), if_pos rfl, lt, h.P _ ht]; omega
    · rw [updN_other hks, if_neg hks, hL k hk]; omega
  refine ⟨fun i hi => ?_, ?_⟩
  · show updN s.P s.t 0 i = 0
    by_cases his : i = s.t
    · subst his; rw [updN_same]
    · rw [updN_other his]; exact h.P i hi
  · rcases Nat.lt_or_ge (s.t + 1) n with h1 | h1
    · refine ⟨q, ?_, fun i hi => ?_⟩
      · show T + 1 = n * q + (s.t + 1) % n
        rw [Nat.mod_eq_of_lt h1]; omega
      · show updN s.L s.t (s.L s.t - (s.P s.t + 1)) i = (lag : Int) - (q + if i < (s.t + 1) % n then 1 else 0)
        rw [gL i hi, Nat.mod_eq_of_lt h1]
        split <;> split <;> split <;> omega
    · have h2 : s.t + 1 = n := by omega
      refine ⟨q + 1, ?_, fun i hi => ?_⟩
      · show T + 1 = n * (q + 1) + (s.t + 1) % n
        rw [h2, Nat.mod_self, Nat.mul_succ]; omega
      · show updN s.L s.t (s.L s.t - (s.P s.t + 1)) i = (lag : Int) - (((q + 1 : Nat) : Int) + if i < (s.t + 1) % n then 1 else 0)
        rw [gL i hi, h2, Nat.mod_self, if_neg (Nat.not_lt_zero i)]
        push_cast
        split <;> split <;> omega
theorem rs_wit {n lag : Nat} {s : WS} (inv : WInv n 1 s) (h : RS n lag 0 s) (T : Nat) (hT : T ≤ n * lag) : RS n lag T (wit n 1 s T) := by
  induction T with
  | zero => exact h
  | succ T ih => exact rs_step (inv_wit inv T) (ih (by omega)) (by omega)
/-- When peer i has its last byte. -/
def lastB (n lag i : Nat) : Nat := if lag = 0 then 0 else n * (lag - 1) + i + 1
theorem rs_done {n lag T : Nat} {s : WS} (inv : WInv n 1 s) (h : RS n lag T s) (hT : T ≤ n * lag) (i : Nat) (hi : i < n) : s.L i = 0 ↔ lastB n lag i ≤ T := by
  have ht := inv.turn
  obtain ⟨q, hq, hL⟩ := h.eq
  have e := hL i hi
  unfold lastB
  by_cases h0 : lag = 0
  · subst h0
    rw [if_pos rfl]
    have hq0 : q = 0 := by
      rcases Nat.eq_zero_or_pos q with h' | h'
      · exact h'
      · have := Nat.mul_le_mul_left n h'; omega
    subst hq0
    have t0 : s.t = 0 := by omega
    rw [t0] at e
    rw [if_neg (Nat.not_lt_zero i)] at e
    constructor
    · intro _; omega
    · intro _; omega
  · rw [if_neg h0]
    obtain ⟨m, rfl⟩ : ∃ m, lag = m + 1 := ⟨lag - 1, by omega⟩
    rw [Nat.add_sub_cancel]
    have hm : n * (m + 1) = n * m + n := Nat.mul_succ n m
    rcases Nat.lt_trichotomy q m with hqm | hqm | hqm
    · have := Nat.mul_le_mul_left n (show q + 1 ≤ m by omega)
      rw [Nat.mul_succ] at this
      constructor
      · intro hz; exfalso; rw [e] at hz; push_cast at hz; split at hz <;> omega
      · intro hz; exfalso; omega
    · subst hqm
      rw [e]
      push_cast
      constructor
      · intro hz
        by_cases hit : i < s.t
        · omega
        · rw [if_neg hit] at hz; omega
      · intro hz
        rw [if_pos (by omega)]; omega
    · have := Nat.mul_le_mul_left n (show m + 1 ≤ q by omega)
      have hqe : q = m + 1 := by
        rcases Nat.lt_or_ge (m + 1) q with h' | h'
        · have h2 := Nat.mul_le_mul_left n (show m + 1 + 1 ≤ q from h')
          rw [Nat.mul_succ] at h2
          omega
        · omega
      subst hqe
      rw [if_neg (by omega)] at e
      push_cast at e
      constructor
      · intro _; omega
      · intro _; omega
theorem shares_done {n lag : Nat} (hn : 0 < n) (hl : lag ≤ 1000) (T i : Nat) (hi : i < n) : (wit n 1 ⟨fun _ => (lag : Int), fun _ => 0, 0⟩ T).L i = 0 ↔ lastB n lag i ≤ T := by
  have inv : WInv n 1 ⟨fun _ => (lag : Int), fun _ => 0, 0⟩ := ⟨fun k _ => by show 0 ≤ (lag : Int) ∧ (lag : Int) ≤ 1000000; omega, fun k _ => ⟨Int.le_refl _, by show (0 : Int) < 1; omega, .inl rfl⟩, hn⟩
  have start : RS n lag 0 ⟨fun _ => (lag : Int), fun _ => 0, 0⟩ := ⟨fun _ _ => rfl, 0, by simp, fun k _ => by show (lag : Int) = lag - (((0 : Nat) : Int) + if k < 0 then 1 else 0); rw [if_neg (Nat.not_lt_zero k)]; omega⟩
  rcases Nat.le_total T (n * lag) with h | h
  · exact rs_done (inv_wit inv T) (rs_wit inv start T h) h i hi
  · have all : ∀ k, k < n → (wit n 1 ⟨fun _ => (lag : Int), fun _ => 0, 0⟩ (n * lag)).L k = 0 := fun k hk => (rs_done (inv_wit inv _) (rs_wit inv start _ (Nat.le_refl _)) (Nat.le_refl _) k hk).2 (by
      unfold lastB
      split
      · omega
      · obtain ⟨m, rfl⟩ : ∃ m, lag = m + 1 := ⟨lag - 1, by omega⟩
        rw [Nat.add_sub_cancel, Nat.mul_succ]; omega)
    have sc : wscan n (wit n 1 ⟨fun _ => (lag : Int), fun _ => 0, 0⟩ (n * lag)) n = none := by
      rcases wscan_cases n (wit n 1 ⟨fun _ => (lag : Int), fun _ => 0, 0⟩ (n * lag)) n with ⟨h', _⟩ | ⟨j, _, _, h', _⟩
      · exact h'
      · exact absurd (all _ (Nat.mod_lt _ hn)) h'
    obtain ⟨k, rfl⟩ : ∃ k, T = n * lag + k := ⟨T - n * lag, by omega⟩
    rw [wit_stay sc]
    have a := all i hi
    have b := (rs_done (inv_wit inv _) (rs_wit inv start _ (Nat.le_refl _)) (Nat.le_refl _) i hi).1 a
    exact ⟨fun _ => by omega, fun _ => a⟩
theorem dpart_same (n : Nat) (lag : Int) (hl : 1 ≤ lag) (i : Nat) (hi : i < n) (k : Nat) (hk : k ≤ n) : dpart (tab n fun _ => lag) i k = if k ≤ i then lag + lag * k else lag + lag * i + (lag - 1) * ((k : Int) - 1 - i) := by
  induction k with
  | zero =>
    rw [if_pos (Nat.zero_le i)]
    show gi (tab n fun _ => lag) i = _
    rw [tab_get _ hi]
    simp
  | succ k ih =>
    rw [dpart_succ, ih (by omega)]
    unfold contr
    rw [tab_get _ hi, tab_get _ (show k < n by omega)]
    rcases Nat.lt_trichotomy k i with h | h | h
    · rw [if_pos (show k ≤ i by omega), if_pos h, if_pos (show k + 1 ≤ i by omega)]
      have : mn lag lag = lag := by unfold mn; split <;> rfl
      rw [this]
      push_cast
      rw [Int.mul_add]
      omega
    · subst h
      rw [if_pos (Nat.le_refl k), if_neg (Nat.lt_irrefl k), if_neg (Nat.lt_irrefl k), if_neg (show ¬ k + 1 ≤ k by omega)]
      push_cast
      rw [show (k : Int) + 1 - 1 - k = 0 by omega, Int.mul_zero]
    · rw [if_neg (show ¬ k ≤ i by omega), if_neg (show ¬ k < i by omega), if_pos h, if_neg (show ¬ k + 1 ≤ i by omega)]
      have : mn lag (mx 0 (lag - 1)) = lag - 1 := by unfold mn mx; split <;> split <;> omega
      rw [this]
      push_cast
      have e : (lag - 1) * ((k : Int) + 1 - 1 - i) = (lag - 1) * ((k : Int) - 1 - i) + (lag - 1) := by
        rw [show (k : Int) + 1 - 1 - i = ((k : Int) - 1 - i) + 1 by omega, Int.mul_add, Int.mul_one]
      omega
theorem dpart_zero (n : Nat) (i : Nat) (hi : i < n) (k : Nat) (hk : k ≤ n) : dpart (tab n fun _ => (0 : Int)) i k = 0 := by
  induction k with
  | zero => show gi (tab n fun _ => (0 : Int)) i = _; rw [tab_get _ hi]
  | succ k ih =>
    rw [dpart_succ, ih (by omega)]
    unfold contr
    rw [tab_get _ hi, tab_get _ (show k < n by omega)]
    split
    · unfold mn; split <;> omega
    · split
      · unfold mn mx; split <;> split <;> omega
      · rfl
theorem dsum_same (n lag i : Nat) (hi : i < n) : dsum (tab n fun _ => (lag : Int)) i = (lastB n lag i : Nat) := by
  unfold dsum lastB
  rw [tab_len]
  by_cases h0 : lag = 0
  · subst h0
    rw [if_pos rfl]
    exact dpart_zero n i hi n (Nat.le_refl _)
  · rw [if_neg h0, dpart_same n lag (by omega) i hi n (Nat.le_refl _), if_neg (by omega)]
    obtain ⟨m, rfl⟩ : ∃ m, lag = m + 1 := ⟨lag - 1, by omega⟩
    obtain ⟨d, rfl⟩ : ∃ d, n = i + 1 + d := ⟨n - (i + 1), by omega⟩
    rw [Nat.add_sub_cancel]
    push_cast
    rw [show (i : Int) + 1 + d - 1 - i = d by omega, show (m : Int) + 1 - 1 = m by omega]
    rw [Int.add_mul, Int.add_mul, Int.add_mul, Int.mul_comm (m : Int) i, Int.mul_comm (m : Int) d]
    omega
theorem shares_at {n lag r t i : Nat} (hn : 0 < n) (hl : lag ≤ 1000) (hr : 1 ≤ r) (hi : i < n) : ((wit n 1 ⟨fun _ => (lag : Int), fun _ => 0, 0⟩ (r * t)).L i == 0) = decide (gi (slist (tab n fun _ => (lag : Int)) r n) i ≤ (t : Int)) := by
  have a := shares_done hn hl (r * t) i hi
  have b := ceil_le_iff (d := dsum (tab n fun _ => (lag : Int)) i) (r := r) (t := t) (by omega)
  rw [slist_get _ _ hi]
  rw [dsum_same n lag i hi] at b ⊢
  have e : ((r * t : Nat) : Int) = (t : Int) * r := by push_cast; exact Int.mul_comm _ _
  by_cases h : lastB n lag i ≤ r * t
  · rw [a.2 h, decide_eq_true (b.2 (by omega))]; rfl
  · have h1 : ¬ (wit n 1 ⟨fun _ => (lag : Int), fun _ => 0, 0⟩ (r * t)).L i = 0 := fun h' => h (a.1 h')
    rw [decide_eq_false (fun h' => h (by have := b.1 h'; omega))]
    simpa using h1
theorem wr_nat (q : Nat) (h : q ≤ 100000) : IntKind.i64.wrap (q : Int) = q ∧ wrap64 (q : Int) = q ∧ IntKind.i64.wrap ((q : Int) + 1) = (q : Int) + 1 :=
  ⟨IntWalk.i64_in _ ⟨by omega, by omega⟩, IntWalk.wrap64_in _ ⟨by omega, by omega⟩, IntWalk.i64_in _ ⟨by omega, by omega⟩⟩
theorem tdiv_nat (a b q : Nat) (h : a / b = q) : (a : Int).tdiv (b : Int) = (q : Int) := by
  rw [Int.tdiv_eq_ediv_of_nonneg (by omega), ← h]
  push_cast
  rfl
set_option maxRecDepth 100000 in
set_option maxHeartbeats 6400000 in
theorem worldShares_walk (n rate lag : Int) (W : World) (w0 : -9223372036854775808 ≤ n ∧ n ≤ 9223372036854775807) (w1 : -9223372036854775808 ≤ rate ∧ rate ≤ 9223372036854775807) (w2 : -9223372036854775808 ≤ lag ∧ lag ≤ 9223372036854775807) :
    Calls Try.prog 7 #[.int .i64 n, .int .i64 rate, .int .i64 lag] W fun e w' => e = .returned (.bool true) ∧ Below W.heap.size W w' := by
  go_enter Try.func7, Try.ntmps7
  go_wp2_with fail
  refine (within_any n 8 _ (by omega) (by omega)).mono ?_
  rintro e _ ⟨rfl, rfl⟩
  have a0 := within_lo n 8 (by omega)
  have a1 := within_hi n 8 (by omega)
  generalize within n 8 = n' at *
  obtain ⟨nn, rfl⟩ := Int.eq_ofNat_of_zero_le a0
  go_wp2_with fail
  refine (within_any rate 50 _ (by omega) (by omega)).mono ?_
  rintro e _ ⟨rfl, rfl⟩
  have b0 := within_lo rate 50 (by omega)
  have b1 := within_hi rate 50 (by omega)
  generalize within rate 50 = r' at *
  obtain ⟨rr, rfl⟩ := Int.eq_ofNat_of_zero_le b0
  go_wp2_with fail
  refine (within_any lag 201 _ (by omega) (by omega)).mono ?_
  rintro e _ ⟨rfl, rfl⟩
  have c0 := within_lo lag 201 (by omega)
  have c1 := within_hi lag 201 (by omega)
  generalize within lag 201 = l' at *
  obtain ⟨lg, rfl⟩ := Int.eq_ofNat_of_zero_le c0
  have hm8 : nn + 1 ≤ 8 := by omega
  have hm1 : 1 ≤ nn + 1 := by omega
  obtain ⟨m, hm⟩ : ∃ m, nn + 1 = m := ⟨_, rfl⟩
  have hr8 : rr + 1 ≤ 50 := by omega
  have hr1 : 1 ≤ rr + 1 := by omega
  obtain ⟨r, hr⟩ : ∃ r, rr + 1 = r := ⟨_, rfl⟩
  rw [hm] at hm8 hm1
  rw [hr] at hr8 hr1
  have hmI := Lib.hid (show 1 + (nn : Int) = m by omega)
  have hrI := Lib.hid (show 1 + (rr : Int) = r by omega)
  clear hm hr w0 w1 w2
  go_wp2_with fail
  rw [hmI.out, hrI.out]
  clear hmI hrI a0 a1 b0 b1
  refine (wnew_ok m r 1 W hm1 hm8 (by omega) (by omega) (by omega) (by omega)).mono ?_
  rintro e w1 ⟨rfl, ok1, b1'⟩
  obtain ⟨bw, hbw⟩ : ∃ bw, W.heap.size + 1 = bw := ⟨_, rfl⟩
  obtain ⟨bp, hbp⟩ : ∃ bp, W.heap.size = bp := ⟨_, rfl⟩
  have LO : Hid (W.heap.size ≤ bw ∧ W.heap.size ≤ bp) := by show _ ∧ _; omega
  rw [hbw] at ok1 ⊢
  rw [hbp] at ok1
  have OK1 := Lib.hid ok1
  have B1 := Lib.hid b1'
  clear ok1 b1' hbw hbp
  go_wp2_with fail
  refine (repeat_one (lg : Int) w1.heap.size 1 m _ hm1 (by omega) (by simp) (World.cell?_alloc_at _ _ _ _ rfl)).mono ?_
  rintro e w2 ⟨rfl, ho⟩
  have B2 := Lib.hid (((Below.refl w1.heap.size w1).alloc (Nat.le_refl _) (.cells #[.int .i64 (lg : Int)] 3)).trans (ho.bel.mono (by simp)))
  have SL := Lib.hid ho.sl
  obtain ⟨vr, hvr⟩ : ∃ vr, (w1.alloc (.cells #[.int .i64 (lg : Int)] 3)).heap.size = vr := ⟨_, rfl⟩
  rw [hvr] at SL ⊢
  clear ho hvr
  have SOK : Hid (shareOk (tab m fun _ => (lg : Int)) r) := Lib.hid ⟨⟨by rw [tab_len]; omega, fun z hz => by
    obtain ⟨j, hj⟩ := List.getElem?_of_mem hz
    have hjl := (List.getElem?_eq_some_iff.1 hj).1
    rw [tab_len] at hjl
    have := tab_get (fun _ => (lg : Int)) hjl
    unfold gi at this
    rw [List.getD_eq_getElem?_getD, hj] at this
    simp at this
    omega⟩, by omega, by omega⟩
  go_wp2_with fail
  refine (shareDone_own (some ⟨vr, 0, none⟩) m m (tab m fun _ => (lg : Int)) r _ SOK.out SL.out).mono ?_
  rintro e w3 ⟨A3, c3, rfl, o3, b3, l3⟩
  obtain ⟨gx, cx, hv, hg1, hg2⟩ := o3.form (by omega)
  injection hv with e1 e2 e3
  subst e1 e3
  have hz1 := B1.out.size
  have LX : Hid (w1.heap.size ≤ gx) := Nat.le_trans B2.out.size hg1
  have B3 := Lib.hid (B2.out.trans (b3.mono B2.out.size))
  have OK3 : Hid (WOk w3 bw bp m r 1 ⟨fun _ => 0, fun _ => 0, 0⟩) := Lib.hid ⟨OK1.out.1.on B3.out, OK1.out.2⟩
  have XC : Hid (∀ i, i < m → w3.cell? ⟨gx, i, none⟩ = some (.int .i64 (gi (slist (tab m fun _ => (lg : Int)) r m) i))) := Lib.hid fun i hi => by
    rw [o3.cellAt i (by omega)]
    exact ints_get (by rw [slist_len]; exact hi)
  clear o3 b3 SL
  go_wp2_with fail
  have app : wapp m (lg : Int) ⟨fun _ => 0, fun _ => 0, 0⟩ = (⟨fun _ => (lg : Int), fun _ => 0, 0⟩, 0) := by
    unfold wapp
    rw [if_pos (fun i _ => by show (0 : Int) + lg ≤ 1000000; omega)]
    simp
  have ap := wappend_ok w3 bw bp m r 1 (lg : Int) _ OK3.out hm8 (by omega) (by omega)
  rw [app] at ap
  have AP := Lib.hid ap
  clear ap app
  refine AP.out.mono ?_
  rintro e w4 ⟨rfl, ok4, on4⟩
  have ne1 := OK1.out.1.hw
  have ne2 := OK1.out.1.hp
  have B03 := Lib.hid (B1.out.trans (B3.out.mono hz1))
  have B4 := Lib.hid (B03.out.trans (on4.below LO.out.1 LO.out.2 B03.out.size))
  have OK4 := Lib.hid ok4
  have ON4 : Hid (Only bw bp w3 w4) := on4
  have XK : Hid (∀ w', Only bw bp w3 w' → ∀ i, i < m → w'.cell? ⟨gx, i, none⟩ = some (.int .i64 (gi (slist (tab m fun _ => (lg : Int)) r m) i))) := Lib.hid fun w' ho i hi => by
    refine Eq.trans (World.cell?_of_block (w := w3) (ho.block gx hg2 ?_ ?_)) (XC.out i hi)
    · have := LX.out; omega
    · have := LX.out; omega
  have DN := Lib.hid (fun (t i : Nat) (hi : i < m) => shares_at (n := m) (lag := lg) (r := r) (t := t) (i := i) (by omega) (by omega) hr1 hi)
  have hml : m * lg ≤ 8 * 200 := Nat.mul_le_mul hm8 (by omega)
  obtain ⟨N, hN⟩ : ∃ N, m * lg = N := ⟨_, rfl⟩
  have hNi : (m : Int) * (lg : Int) = (N : Int) := by rw [← hN]; push_cast; rfl
  have hN2 : N ≤ 1600 := by omega
  have g1 : IntKind.i64.wrap ((m : Int) * (lg : Int)) = (N : Int) := by rw [hNi]; exact IntWalk.i64_in _ ⟨by omega, by omega⟩
  clear hNi
  have g2 : ((r : Int) == 0) = false := by simp; omega
  have g3 : (r : Int) ≠ 0 := by omega
  obtain ⟨Q, hQ, hQb⟩ : ∃ Q, N / r = Q ∧ Q ≤ 1600 := ⟨_, rfl, Nat.le_trans (Nat.div_le_self _ _) (by omega)⟩
  have HQ := Lib.hid hQ
  clear hQ
  have g4 : (N : Int).tdiv (r : Int) = (Q : Int) := tdiv_nat N r Q HQ.out
  clear HQ
  clear ok4 on4 hN
  go_wp2_with fail
  go_loopw [11] (fun vt wr => ∃ t : Nat, t ≤ 1602 ∧ vt = .int .i64 t ∧ Hid (WOk wr bw bp m r 1 (wit m 1 ⟨fun _ => (lg : Int), fun _ => 0, 0⟩ (r * t))) ∧ Hid (Only bw bp w3 wr) ∧ Below W.heap.size W wr) (fun vt _ => 1603 - (intOf vt).toNat)
  case atStart => exact ⟨0, Nat.zero_le _, rfl, OK4, ON4, B4.out⟩
  case round =>
    obtain ⟨t, ht, rfl, hok, hon, hb⟩ := hrel
    have HB := Lib.hid hb
    have ht0 : (0 : Int) ≤ t := by omega
    clear hb
    by_cases hlt : t ≤ Q + 1
    · have hn1 : (t : Int) ≤ (Q : Int) + 1 := by omega
      go_wp2_with fail
      refine (wpeers_ok wr bw bp m r 1 _ hok.out hm8).mono ?_
      rintro e w5 ⟨g, c, rfl, hg, hown, hb5⟩
      have hgw : g < w5.heap.size := by
        obtain ⟨g', cap, hv, hg1, hg2⟩ := hown.form (by omega)
        injection hv with e1 e2 e3
        injection e1 with e1
        injection e1 with e1
        omega
      have D5 := Lib.hid (DN.out t)
      have OK5 : Hid (WOk w5 bw bp m r 1 (wit m 1 ⟨fun _ => (lg : Int), fun _ => 0, 0⟩ (r * t))) := Lib.hid ⟨hok.out.1.on hb5, hok.out.2⟩
      have ON5 := Lib.hid (hon.out.trans (Only.of_below hb5))
      have B5 := Lib.hid (HB.out.trans (hb5.mono HB.out.size))
      obtain ⟨s, hs⟩ : ∃ s, wit m 1 ⟨fun _ => (lg : Int), fun _ => 0, 0⟩ (r * t) = s := ⟨_, rfl⟩
      have HS := Lib.hid hs
      rw [hs] at hown D5 OK5
      have CL : Hid (∀ w', Below w5.heap.size w5 w' → ∀ i, i < m → w'.cell? ⟨g, i * 3, none⟩ = some (.int .i64 (s.L i)) ∧ w'.cell? ⟨g, i * 3 + 1, none⟩ = some (.int .i64 (s.P i)) ∧ w'.cell? ⟨g, i * 3 + 2, none⟩ = some (.bool (s.L i == 0))) := Lib.hid fun w' hb i hi => by
        refine ⟨(hb.cell (p := ⟨g, i * 3, none⟩) hgw).trans ?_, (hb.cell (p := ⟨g, i * 3 + 1, none⟩) hgw).trans ?_, (hb.cell (p := ⟨g, i * 3 + 2, none⟩) hgw).trans ?_⟩
        · rw [hown.cellAt _ (by omega)]; exact peersV_0 s hi
        · rw [hown.cellAt _ (by omega)]; exact peersV_1 s hi
        · rw [hown.cellAt _ (by omega)]; exact peersV_2 s hi
      clear hown hb5 hs
      go_wp2_with fail
      go_loopw [72] (fun vi wr' => ∃ i : Nat, i ≤ m ∧ vi = .int .i64 i ∧ Below w5.heap.size w5 wr') (fun vi _ => m - (intOf vi).toNat)
      case atStart => exact ⟨0, Nat.zero_le _, rfl, Below.refl _ _⟩
      case round =>
        obtain ⟨i, hi, rfl, hb⟩ := hrel
        have HB6 := Lib.hid hb
        have hz := hb.size
        have hi0 : (0 : Int) ≤ i := by omega
        by_cases hlt2 : i < m
        · have hn2 : (i : Int) < m := by omega
          obtain ⟨d0, d1, d2⟩ := CL.out wr hb i hlt2
          have dx : (wr.alloc (.cells #[.int .i64 (s.L i), .int .i64 (s.P i), .bool (s.L i == 0)] 36)).cell? ⟨gx, i, none⟩ = some (.int .i64 (gi (slist (tab m fun _ => (lg : Int)) r m) i)) := XK.out _ ((ON5.out.trans (Only.of_below hb)).alloc _) i hlt2
          have dd := D5.out i hlt2
          rw [dd] at d2 dx
          obtain ⟨xi, hxi⟩ : ∃ xi, gi (slist (tab m fun _ => (lg : Int)) r m) i = xi := ⟨_, rfl⟩
          rw [hxi] at dx dd d2
          obtain ⟨b, hb2⟩ : ∃ b, decide (xi ≤ (t : Int)) = b := ⟨_, rfl⟩
          rw [hb2] at d2 dx
          have hnb : (b != b) = false := by simp
          clear hb dd hxi
          go_wp2_with fail
          go_quiet (fail)
          go_wp2_with fail
          go_roundw
          case rel => exact ⟨i + 1, by omega, by go_num, bel_drewN (HB6.out.alloc hz _) _⟩
          case measure => simp [intOf]; omega
        · have him : i = m := by omega
          subst him
          have hn2 : ¬ (i : Int) < i := by omega
          have OK6 : Hid (WOk wr bw bp i r 1 s) := Lib.hid ⟨OK5.out.1.on hb, OK5.out.2⟩
          have ON6 := Lib.hid (ON5.out.trans (Only.of_below hb))
          have B6 := Lib.hid (B5.out.trans (hb.mono B5.out.size))
          clear hb
          go_wp2_with fail
          refine (wtick_ok wr bw bp i r 1 s OK6.out hm8 (by omega) (by omega)).mono ?_
          rintro e w7 ⟨rfl, ok7, on7⟩
          have OK7 : Hid (WOk w7 bw bp i r 1 (wit i 1 ⟨fun _ => (lg : Int), fun _ => 0, 0⟩ (r * (t + 1)))) := by show WOk _ _ _ _ _ _ _; rw [Nat.mul_succ, wit_add, HS.out]; exact ok7
          have ON7 := Lib.hid (ON6.out.trans on7)
          have B7 := Lib.hid (B6.out.trans (on7.below LO.out.1 LO.out.2 B6.out.size))
          clear ok7 on7
          go_wp2_with fail
          go_roundw
          case rel => exact ⟨t + 1, by omega, by go_num, OK7, ON7, B7.out⟩
          case measure => simp [intOf]; omega
    · have hn1 : ¬ (t : Int) ≤ (Q : Int) + 1 := by omega
      go_wp2_with fail
      go_ret
      exact ⟨rfl, HB.out⟩
end Go.Proofs.Ytehdphkaknjlnaa
