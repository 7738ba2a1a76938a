/- lease.Check, Live, Cut, Pin. -/
import Derived.Test.YtpifknmoimlpoaaOneR
import Derived.Test.YtpifknmoimlpoaaElems
import Derived.Test.YtpifknmoimlpoaaOpen3
import Derived.Test.YtpifknmoimlpoaaCurveP
import Derived.Test.YtpifknmoimlpoaaKit0
set_option linter.unusedVariables false
namespace Go.Proofs.Ytpifknmoimlpoaa
open Go.RowKit
theorem elemLeaseA : Elem Try.prog 85 87 (.agg #[.int .i64 0, .int .i64 0, .int .i64 0]) 3 24 := by
  obtain ⟨i, h1, h2, h3, h4⟩ := info_parts (P := Try.prog) (e := 87) (z := .agg #[.int .i64 0, .int .i64 0, .int .i64 0]) (size := 3) (bytes := 24) (by kernel_rfl)
  exact ⟨Try.underlying85, ⟨i, h1, h2, h3, h4⟩, rfl, by decide, by decide⟩
def oneOk (a b c : Int) : Prop := 0 ≤ a ∧ a ≤ 7 ∧ 0 ≤ b ∧ b ≤ 1000000 ∧ 0 ≤ c ∧ c ≤ 1000000
instance (a b c : Int) : Decidable (oneOk a b c) := by unfold oneOk; infer_instance
def oneE (a b c : Int) : Int := if oneOk a b c then 0 else 1
theorem one_any (a b c : Int) (W : World) (v : Int) (hv : oneE a b c = v) :
    Calls Try.prog 104 #[.agg #[.int .i64 a, .int .i64 b, .int .i64 c]] W fun e w' => e = .returned (.int .i64 v) ∧ Below W.heap.size W w' := by
  subst hv
  by_cases h : oneOk a b c
  · have H : Hid (oneE a b c = 0) := if_pos h
    obtain ⟨h1, h2, h3, h4, h5, h6⟩ := h
    go_enter Try.func104, Try.ntmps104
    go_wp2
    go_ret
    exact ⟨ret_int H.out.symm, (Below.refl _ _).alloc (Nat.le_refl _) _⟩
  · have H : Hid (oneE a b c = 1) := if_neg h
    have key : a < 0 ∨ (0 ≤ a ∧ 7 < a) ∨ (0 ≤ a ∧ a ≤ 7 ∧ b < 0) ∨ (0 ≤ a ∧ a ≤ 7 ∧ 0 ≤ b ∧ 1000000 < b) ∨ (0 ≤ a ∧ a ≤ 7 ∧ 0 ≤ b ∧ b ≤ 1000000 ∧ c < 0) ∨ (0 ≤ a ∧ a ≤ 7 ∧ 0 ≤ b ∧ b ≤ 1000000 ∧ 0 ≤ c ∧ 1000000 < c) := by
      unfold oneOk at h; omega
    clear h
    rcases key with h1 | ⟨h1, h2⟩ | ⟨h1, h2, h3⟩ | ⟨h1, h2, h3, h4⟩ | ⟨h1, h2, h3, h4, h5⟩ | ⟨h1, h2, h3, h4, h5, h6⟩
    all_goals
      go_enter Try.func104, Try.ntmps104
      go_wp2
      go_ret
      exact ⟨ret_int H.out.symm, (Below.refl _ _).alloc (Nat.le_refl _) _⟩
def lbad (zs : List Int) (i : Nat) : Int := if oneE (fd zs i 0) (fd zs i 1) (fd zs i 2) = 0 then (if 0 < i ∧ fd zs i 0 ≤ fd zs (i - 1) 0 then 3 else 0) else 1
def lfirst (zs : List Int) : Nat → Int
  | 0 => 0
  | k + 1 => if lfirst zs k = 0 then lbad zs k else lfirst zs k
theorem lfirst_succ (zs : List Int) (k : Nat) : lfirst zs (k + 1) = if lfirst zs k = 0 then lbad zs k else lfirst zs k := rfl
theorem lfirst_zero (zs : List Int) (n : Nat) : lfirst zs n = 0 ↔ ∀ i, i < n → lbad zs i = 0 := by
  induction n with
  | zero => exact ⟨fun _ i hi => absurd hi (by omega), fun _ => rfl⟩
  | succ n ih =>
    rw [lfirst_succ]
    constructor
    · intro h i hi
      by_cases h0 : lfirst zs n = 0
      · rw [if_pos h0] at h
        rcases Nat.lt_or_ge i n with h1 | h1
        · exact ih.1 h0 i h1
        · obtain rfl : i = n := by omega
          exact h
      · rw [if_neg h0] at h
        exact absurd h h0
    · intro h
      rw [if_pos (ih.2 fun i hi => h i (by omega))]
      exact h n (by omega)
theorem lfirst_stay {zs : List Int} {k : Nat} (h : lfirst zs k ≠ 0) (j : Nat) (hj : k ≤ j) : lfirst zs j = lfirst zs k := by
  induction j with
  | zero => obtain rfl : k = 0 := by omega
            rfl
  | succ j ih =>
    rcases Nat.lt_or_ge j k with h' | h'
    · obtain rfl : k = j + 1 := by omega
      rfl
    · rw [lfirst_succ, ih h', if_neg h]
theorem lfirst_at {zs : List Int} {k : Nat} (h0 : lfirst zs k = 0) (h : lbad zs k ≠ 0) (j : Nat) (hj : k < j) : lfirst zs j = lbad zs k := by
  have e : lfirst zs (k + 1) = lbad zs k := by rw [lfirst_succ, if_pos h0]
  rw [lfirst_stay (k := k + 1) (by rw [e]; exact h) j hj, e]
theorem lfirst_next {zs : List Int} {k : Nat} (h0 : lfirst zs k = 0) (h : lbad zs k = 0) : lfirst zs (k + 1) = 0 := by rw [lfirst_succ, if_pos h0, h]
/-- Leases as they may be. -/
structure Leases (zs : List Int) (n : Nat) : Prop where
  one : ∀ i, i < n → oneOk (fd zs i 0) (fd zs i 1) (fd zs i 2)
  up : ∀ i, i + 1 < n → fd zs i 0 < fd zs (i + 1) 0
theorem leases_of {zs : List Int} {n : Nat} (h : lfirst zs n = 0) : Leases zs n := by
  have h' := (lfirst_zero _ _).1 h
  have one : ∀ i, i < n → oneE (fd zs i 0) (fd zs i 1) (fd zs i 2) = 0 := fun i hi => by
    have a := h' i hi
    unfold lbad at a
    split at a
    · rename_i x; exact x
    · cases a
  refine ⟨fun i hi => ?_, fun i hi => ?_⟩
  · have a := one i hi
    unfold oneE at a
    split at a
    · rename_i x; exact x
    · cases a
  · have a := h' (i + 1) hi
    unfold lbad at a
    rw [if_pos (one _ hi), Nat.add_sub_cancel] at a
    split at a
    · cases a
    · omega
theorem leases_lo {zs : List Int} {n : Nat} (h : Leases zs n) (i : Nat) (hi : i < n) : (i : Int) ≤ fd zs i 0 := by
  induction i with
  | zero => exact (h.one 0 hi).1
  | succ i ih =>
    have a := ih (by omega)
    have b := h.up i hi
    omega
theorem leases_8 {zs : List Int} {n : Nat} (h : Leases zs n) : n ≤ 8 := by
  rcases Nat.lt_or_ge 8 n with h' | h'
  · have a := leases_lo h 8 h'
    have b := (h.one 8 h').2.1
    omega
  · exact h'
set_option maxHeartbeats 3200000 in
theorem lcheck_any (A : Option Addr) (n c : Nat) (zs : List Int) (W : World) (hs : Sl W W.heap.size A (n * 3) (ints zs)) (hnn : n ≤ 9223372036854775807) :
    Calls Try.prog 103 #[.slice A n c] W fun e w' => e = .returned (.int .i64 (lfirst zs n)) ∧ Below W.heap.size W w' := by
  go_enter Try.func103, Try.ntmps103
  go_wp2_with fail
  go_loopw [8, 3, 4, 5] (fun i _ _ _ wr => ∃ k : Nat, k ≤ n ∧ i = .int .i64 k ∧ Hid (lfirst zs k = 0) ∧ Below W.heap.size W wr) (fun i _ _ _ _ => n - (intOf i).toNat)
  case atStart => exact ⟨0, Nat.zero_le _, rfl, Lib.hid rfl, Below.refl _ _⟩
  case round =>
    obtain ⟨k, hk, rfl, hc0, hb⟩ := hrel
    have HB := Lib.hid hb
    have hz := hb.size
    have hk0 : (0 : Int) ≤ k := by omega
    by_cases hlt : k < n
    · obtain ⟨b, off, rfl, hbl, -⟩ := hs.int_at (k := k * 3) (by omega)
      obtain ⟨c0, c1, c2⟩ := (hs.below hb).three hlt
      have hn1 : (k : Int) < n := by omega
      by_cases hA : oneE (fd zs k 0) (fd zs k 1) (fd zs k 2) = 0
      · have HA := Lib.hid hA
        have HS := Lib.hid hs
        clear hb
        go_wp2_with fail
        refine (one_any _ _ _ _ 0 HA.out).mono ?_
        rintro e w1 ⟨rfl, b1⟩
        have B1 := Lib.hid ((HB.out.alloc hz _).trans (b1.mono (by simp; omega)))
        have y0 : w1.cell? ⟨wr.heap.size, 0, none⟩ = some (.int .i64 (fd zs k 0)) := (b1.cell (p := ⟨wr.heap.size, 0, none⟩) (by simp)).trans (World.cell?_alloc_at _ _ _ _ rfl)
        clear c0 c1 c2 b1 hs
        rcases Nat.eq_zero_or_pos k with hk1 | hkp
        · have hp : Hid (lbad zs k = 0) := by show _ = _; unfold lbad; rw [if_pos HA.out, if_neg (by omega)]
          have g0 : decide (0 < k) = false := decide_eq_false (by omega)
          clear hA hk1
          go_wp2_with fail
          go_quiet (fail)
          go_wp2_with fail
          go_roundw
          case rel => exact ⟨k + 1, by omega, by go_num, Lib.hid (lfirst_next hc0.out hp.out), bel_drewN B1.out _⟩
          case measure => simp [intOf]; omega
        · obtain ⟨d0, d1, d2⟩ := (HS.out.below B1.out).three (k := k - 1) (by omega)
          have f1 : IntKind.i64.wrap ((k : Int) - 1) = (k : Int) - 1 := IntWalk.i64_in _ ⟨by omega, by omega⟩
          have f2 : ((k : Int) - 1).toNat = k - 1 := by omega
          have f3 : 0 ≤ (k : Int) - 1 := by omega
          have f4 : (k : Int) - 1 < n := by omega
          have f5 : (0 : Int) < k := by omega
          have f6 : decide (0 < k) = true := decide_eq_true hkp
          by_cases h3 : fd zs k 0 ≤ fd zs (k - 1) 0
          · have hp : Hid (lbad zs k = 3) := by show _ = _; unfold lbad; rw [if_pos HA.out, if_pos ⟨hkp, h3⟩]
            have r1 : decide (fd zs k 0 ≤ fd zs (k - 1) 0) = true := decide_eq_true h3
            clear hA d1 d2 h3
            go_wp2_with fail
            go_quiet (fail)
            go_wp2_with fail
            go_ret
            exact ⟨ret_int (by rw [lfirst_at hc0.out (by rw [hp.out]; decide) n hlt, hp.out]), bel_drewN B1.out _⟩
          · have hp : Hid (lbad zs k = 0) := by show _ = _; unfold lbad; rw [if_pos HA.out, if_neg (fun h => h3 h.2)]
            have r1 : decide (fd zs k 0 ≤ fd zs (k - 1) 0) = false := decide_eq_false h3
            clear hA d1 d2 h3
            go_wp2_with fail
            go_quiet (fail)
            go_wp2_with fail
            go_roundw
            case rel => exact ⟨k + 1, by omega, by go_num, Lib.hid (lfirst_next hc0.out hp.out), bel_drewN B1.out _⟩
            case measure => simp [intOf]; omega
      · have h1 : Hid (oneE (fd zs k 0) (fd zs k 1) (fd zs k 2) = 1) := by
          show _ = _
          unfold oneE at hA ⊢
          split at hA
          · exact absurd rfl hA
          · rename_i x; rw [if_neg x]
        have hp : Hid (lbad zs k = 1) := by show _ = _; unfold lbad; rw [if_neg hA]
        clear hs hb hA
        go_wp2_with fail
        refine (one_any _ _ _ _ 1 h1.out).mono ?_
        rintro e w1 ⟨rfl, b1⟩
        have B1 := Lib.hid ((HB.out.alloc hz _).trans (b1.mono (by simp; omega)))
        clear c0 c1 c2 b1
        go_wp2_with fail
        go_ret
        exact ⟨ret_int (by rw [lfirst_at hc0.out (by rw [hp.out]; decide) n hlt, hp.out]), B1.out⟩
    · have hkn : k = n := by omega
      subst hkn
      have hn1 : ¬ (k : Int) < k := by omega
      clear hs hb
      go_wp2_with fail
      go_ret
      exact ⟨ret_int hc0.out.symm, HB.out⟩
/-- Those that live behind 'now', of the first k. -/
def liveL (zs : List Int) (now : Int) : Nat → List Int
  | 0 => []
  | k + 1 => if now < fd zs k 1 then liveL zs now k ++ [fd zs k 0, fd zs k 1, fd zs k 2] else liveL zs now k
def liveC (zs : List Int) (now : Int) : Nat → Nat
  | 0 => 0
  | k + 1 => if now < fd zs k 1 then liveC zs now k + 1 else liveC zs now k
theorem liveL_succ (zs : List Int) (now : Int) (k : Nat) : liveL zs now (k + 1) = if now < fd zs k 1 then liveL zs now k ++ [fd zs k 0, fd zs k 1, fd zs k 2] else liveL zs now k := rfl
theorem liveC_succ (zs : List Int) (now : Int) (k : Nat) : liveC zs now (k + 1) = if now < fd zs k 1 then liveC zs now k + 1 else liveC zs now k := rfl
theorem live_len (zs : List Int) (now : Int) (k : Nat) : (liveL zs now k).length = liveC zs now k * 3 := by
  induction k with
  | zero => rfl
  | succ k ih =>
    rw [liveL_succ, liveC_succ]
    split
    · rw [List.length_append, ih]; simp; omega
    · exact ih
theorem live_le (zs : List Int) (now : Int) (k : Nat) : liveC zs now k ≤ k := by
  induction k with
  | zero => exact Nat.le_refl _
  | succ k ih => rw [liveC_succ]; split <;> omega
theorem getD_app_l {a b : List Int} {i : Nat} (h : i < a.length) : (a ++ b).getD i 0 = a.getD i 0 := by simp [List.getElem?_append_left h]
theorem getD_app_r {a b : List Int} {i : Nat} (h : a.length ≤ i) : (a ++ b).getD i 0 = b.getD (i - a.length) 0 := by simp [List.getElem?_append_right h]
theorem live_in (zs : List Int) (now : Int) (k : Nat) : ∀ q, q < liveC zs now k → ∃ i, i < k ∧ now < fd zs i 1 ∧ ∀ j, j < 3 → fd (liveL zs now k) q j = fd zs i j := by
  induction k with
  | zero => intro q hq; exact absurd hq (by simp [liveC])
  | succ k ih =>
    intro q hq
    rw [liveC_succ] at hq
    rw [liveL_succ]
    have hl := live_len zs now k
    by_cases h : now < fd zs k 1
    · rw [if_pos h] at hq ⊢
      rcases Nat.lt_or_ge q (liveC zs now k) with h' | h'
      · obtain ⟨i, i1, i2, i3⟩ := ih q h'
        refine ⟨i, by omega, i2, fun j hj => ?_⟩
        rw [← i3 j hj]
        unfold fd gi
        rw [getD_app_l (by omega)]
      · obtain rfl : q = liveC zs now k := by omega
        refine ⟨k, by omega, h, fun j hj => ?_⟩
        have e : fd (liveL zs now k ++ [fd zs k 0, fd zs k 1, fd zs k 2]) (liveC zs now k) j = [fd zs k 0, fd zs k 1, fd zs k 2].getD j 0 := by
          unfold fd gi
          rw [getD_app_r (by omega), hl, Nat.add_sub_cancel_left]
        rw [e]
        rcases (show j = 0 ∨ j = 1 ∨ j = 2 by omega) with rfl | rfl | rfl <;> rfl
    · rw [if_neg h] at hq ⊢
      obtain ⟨i, i1, i2, i3⟩ := ih q hq
      exact ⟨i, by omega, i2, i3⟩
theorem live_has (zs : List Int) (now : Int) (k : Nat) : ∀ i, i < k → now < fd zs i 1 → ∃ q, q < liveC zs now k ∧ ∀ j, j < 3 → fd (liveL zs now k) q j = fd zs i j := by
  induction k with
  | zero => intro i hi; omega
  | succ k ih =>
    intro i hi hn
    rw [liveC_succ, liveL_succ]
    have hl := live_len zs now k
    rcases Nat.lt_or_ge i k with h' | h'
    · obtain ⟨q, q1, q2⟩ := ih i h' hn
      by_cases h : now < fd zs k 1
      · rw [if_pos h, if_pos h]
        refine ⟨q, by omega, fun j hj => ?_⟩
        rw [← q2 j hj]
        unfold fd gi
        rw [getD_app_l (by omega)]
      · rw [if_neg h, if_neg h]
        exact ⟨q, q1, q2⟩
    · obtain rfl : i = k := by omega
      rw [if_pos hn, if_pos hn]
      refine ⟨liveC zs now i, by omega, fun j hj => ?_⟩
      have e : fd (liveL zs now i ++ [fd zs i 0, fd zs i 1, fd zs i 2]) (liveC zs now i) j = [fd zs i 0, fd zs i 1, fd zs i 2].getD j 0 := by
        unfold fd gi
        rw [getD_app_r (by omega), hl, Nat.add_sub_cancel_left]
      rw [e]
      rcases (show j = 0 ∨ j = 1 ∨ j = 2 by omega) with rfl | rfl | rfl <;> rfl
/-- The answer: a slice of structs of three numbers, and an error. -/
def Ret3 (W : World) (n : Nat) (zs : List Int) (er : Int) (e : Ending) (w' : World) : Prop :=
  ∃ A c, e = .returned (.tuple #[.slice A n c, .int .i64 er]) ∧ Sl w' w'.heap.size A (n * 3) (ints zs) ∧ n ≤ c ∧ Below W.heap.size W w' ∧ w'.ownsRow W.heap.size 87 3 (.slice A n c) n (ints zs)
/-- 'append(out, x)', the one struct x just laid into a new block. -/
theorem wpList_push3 {wr W0 : World} {ops : Array Oper} {rest : List Oper} {o : Oper} {a : Act} {Q : Exit → Act → World → Prop} (hgd : o.guard = none) (s x : Operand)
    (ho : o.op = .call { callee := .builtin .append, args := #[s, x], argTypes := #[85, 85] })
    (g : Nat) (hg : g = wr.heap.size) (base : Nat) (v : Value) (n : Nat) (xs : List Value) (u0 u1 u2 : Int) (hs : a.eval s = v) (hx : a.eval x = .slice (some ⟨g, 0, none⟩) 1 1)
    (hown : wr.ownsRow base 87 3 v n xs) (hbel : Below base W0 wr) (hbase : base ≤ wr.heap.size) (hn : n < 1099511627776)
    (h : ∀ v' w1, w1.ownsRow base 87 3 v' (n + 1) (xs ++ [.int .i64 u0, .int .i64 u1, .int .i64 u2]) → Below base W0 w1 → base ≤ w1.heap.size → wpList Try.prog ops Q rest (a.put o.dst v') w1) :
    wpList Try.prog ops Q (o :: rest) a (wr.alloc (.cells #[.int .i64 u0, .int .i64 u1, .int .i64 u2] 87)) := by
  subst hg
  refine wpList_cat hgd s x _ ho elemLeaseA base v n xs (some ⟨wr.heap.size, 0, none⟩) 1 1 [.int .i64 u0, .int .i64 u1, .int .i64 u2] hs hx (hown.alloc _) (hbel.alloc hbase _) (by simp; omega) rfl (fun h => by cases h) ?_ ?_ (by unfold maxLen; omega) (by omega) ?_
  · intro ad had j u hu
    injection had with had
    subst had
    rw [Addr.add_lit, Nat.zero_add, World.cell?_alloc_at _ _ _ _ rfl]
    simpa using hu
  · intro u hu
    simp at hu
    rcases hu with rfl | rfl | rfl <;> rfl
  · intro v' w1 k1 k2 k3 _
    exact h v' w1 k1 k2 k3
set_option maxHeartbeats 3200000 in
theorem live_ok (A : Option Addr) (n c : Nat) (zs : List Int) (now : Int) (W : World) (hs : Sl W W.heap.size A (n * 3) (ints zs)) (hnn : n ≤ 9223372036854775807) (h0 : lfirst zs n = 0) :
    Calls Try.prog 63 #[.slice A n c, .int .i64 now] W (Ret3 W (liveC zs now n) (liveL zs now n) 0) := by
  have P := Lib.hid (leases_of h0)
  have H0 := Lib.hid h0
  have n8 := leases_8 P.out
  have HS := Lib.hid hs
  clear h0
  go_enter Try.func63, Try.ntmps63
  go_wp2_with fail
  refine (lcheck_any A n c zs _ hs hnn).mono ?_
  rintro e w1 ⟨rfl, b1⟩
  rw [H0.out]
  have B1 := Lib.hid b1
  clear hs b1
  go_wp2_with fail
  go_loopw [17, 7, 9] (fun i o _ wr => ∃ k : Nat, k ≤ n ∧ i = .int .i64 k ∧ wr.ownsRow W.heap.size 87 3 o (liveC zs now k) (ints (liveL zs now k)) ∧ Below W.heap.size W wr) (fun i _ _ _ => n - (intOf i).toNat)
  case atStart => exact ⟨0, Nat.zero_le _, rfl, World.ownsRow_nil _ _ _ _, B1.out⟩
  case round =>
    obtain ⟨k, hk, rfl, hown, hb⟩ := hrel
    have HB := Lib.hid hb
    have hz := hb.size
    have hk0 : (0 : Int) ≤ k := by omega
    by_cases hlt : k < n
    · obtain ⟨b, off, hA, hbl, -⟩ := HS.out.int_at (k := k * 3) (by omega)
      subst hA
      obtain ⟨c0, c1, c2⟩ := (HS.out.below hb).three hlt
      have hn1 : (k : Int) < n := by omega
      have OA := Lib.hid (hown.alloc (.cells #[.int .i64 (fd zs k 0), .int .i64 (fd zs k 1), .int .i64 (fd zs k 2)] 87))
      have BA := Lib.hid (hb.alloc hz (.cells #[.int .i64 (fd zs k 0), .int .i64 (fd zs k 1), .int .i64 (fd zs k 2)] 87))
      have LC := live_le zs now k
      have SL := Lib.hid (liveL_succ zs now k)
      have SC := Lib.hid (liveC_succ zs now k)
      clear hown hb
      by_cases hl : now < fd zs k 1
      · go_wp2_with (at_builtin; refine wpList_push3 rfl (.tmp 25) (.tmp 27) rfl _ (by simp) W.heap.size _ (liveC zs now k) _ (fd zs k 0) (fd zs k 1) (fd zs k 2) rfl rfl OA.out BA.out (by simp; omega) (by omega) ?_; intro v1 w2 hown1 hb1 hz1)
        go_roundw
        case rel =>
          refine ⟨k + 1, by omega, by go_num, ?_, hb1⟩
          rw [SC.out, SL.out, if_pos hl, if_pos hl]
          have e : ints (liveL zs now k ++ [fd zs k 0, fd zs k 1, fd zs k 2]) = ints (liveL zs now k) ++ [.int .i64 (fd zs k 0), .int .i64 (fd zs k 1), .int .i64 (fd zs k 2)] := by rw [← ints_app]; rfl
          rw [e]
          exact hown1
        case measure => simp [intOf]; omega
      · go_wp2_with fail
        go_roundw
        case rel =>
          refine ⟨k + 1, by omega, by go_num, ?_, BA.out⟩
          rw [SC.out, SL.out, if_neg hl, if_neg hl]
          exact OA.out
        case measure => simp [intOf]; omega
    · have hkn : k = n := by omega
      subst hkn
      have hn1 : ¬ (k : Int) < k := by omega
      obtain ⟨A1, c1, rfl, hc1⟩ := own_form hown
      have HO := Lib.hid hown
      clear hown hb
      go_wp2_with fail
      go_ret2
      exact ⟨A1, c1, rfl, Sl.of_own3 HO.out, hc1, HB.out, HO.out⟩
theorem live_bad (A : Option Addr) (n c : Nat) (zs : List Int) (now : Int) (W : World) (hs : Sl W W.heap.size A (n * 3) (ints zs)) (hnn : n ≤ 9223372036854775807) (h0 : lfirst zs n ≠ 0) :
    Calls Try.prog 63 #[.slice A n c, .int .i64 now] W (Ret3 W 0 [] (lfirst zs n)) := by
  have hne : (lfirst zs n != 0) = true := by simpa using h0
  clear h0
  go_enter Try.func63, Try.ntmps63
  go_wp2_with fail
  refine (lcheck_any A n c zs _ hs hnn).mono ?_
  rintro e w1 ⟨rfl, b1⟩
  clear hs
  go_wp2_with fail
  go_ret2
  exact ⟨none, 0, rfl, Sl.nil, Nat.le_refl _, b1, World.ownsRow_nil _ _ _ _⟩
/-- All that live hold 'to' free. -/
def cutOk (zs : List Int) (n : Nat) (now to : Int) : Prop := ∀ i, i < n → now < fd zs i 1 → to ≤ fd zs i 2
instance (zs : List Int) (n : Nat) (now to : Int) : Decidable (cutOk zs n now to) := by unfold cutOk; infer_instance
theorem cut_live {zs : List Int} {n : Nat} {now to : Int} : cutOk zs n now to ↔ ∀ q, q < liveC zs now n → to ≤ fd (liveL zs now n) q 2 := by
  constructor
  · intro h q hq
    obtain ⟨i, i1, i2, i3⟩ := live_in zs now n q hq
    rw [i3 2 (by omega)]
    exact h i i1 i2
  · intro h i hi hn
    obtain ⟨q, q1, q2⟩ := live_has zs now n i hi hn
    rw [← q2 2 (by omega)]
    exact h q q1
theorem cut_bad (A : Option Addr) (n c : Nat) (zs : List Int) (now to : Int) (W : World) (hs : Sl W W.heap.size A (n * 3) (ints zs)) (hnn : n ≤ 9223372036854775807) (h0 : lfirst zs n ≠ 0) :
    Calls Try.prog 64 #[.slice A n c, .int .i64 now, .int .i64 to] W (Ret3 W 0 [] (lfirst zs n)) := by
  have hne : (lfirst zs n != 0) = true := by simpa using h0
  have H0 := Lib.hid h0
  clear h0
  go_enter Try.func64, Try.ntmps64
  go_wp2_with fail
  refine (live_bad A n c zs now _ hs hnn H0.out).mono ?_
  rintro e w1 ⟨A1, c1, rfl, s1, l1, b1, -⟩
  clear hs s1
  go_wp2_with fail
  go_ret2
  exact ⟨none, 0, rfl, Sl.nil, Nat.le_refl _, b1, World.ownsRow_nil _ _ _ _⟩
theorem cut_arg (A : Option Addr) (n c : Nat) (zs : List Int) (now to : Int) (W : World) (hs : Sl W W.heap.size A (n * 3) (ints zs)) (hnn : n ≤ 9223372036854775807) (h0 : lfirst zs n = 0) (ht : to < 0 ∨ 1000000 < to) :
    Calls Try.prog 64 #[.slice A n c, .int .i64 now, .int .i64 to] W (Ret3 W 0 [] 1) := by
  have H0 := Lib.hid h0
  clear h0
  rcases (show to < 0 ∨ (0 ≤ to ∧ 1000000 < to) by omega) with h | ⟨h, h'⟩
  all_goals
    clear ht
    go_enter Try.func64, Try.ntmps64
    go_wp2_with fail
    refine (live_ok A n c zs now _ hs hnn H0.out).mono ?_
    rintro e w1 ⟨A1, c1, rfl, s1, l1, b1, -⟩
    clear hs s1
    go_wp2_with fail
    go_ret2
    exact ⟨none, 0, rfl, Sl.nil, Nat.le_refl _, b1, World.ownsRow_nil _ _ _ _⟩
/-- What Cut answers where all is well, or one is in the way. -/
def cutR (zs : List Int) (n : Nat) (now to : Int) : Nat × List Int × Int := if cutOk zs n now to then (liveC zs now n, liveL zs now n, 0) else (0, [], 7)
set_option maxHeartbeats 3200000 in
theorem cut_any (A : Option Addr) (n c : Nat) (zs : List Int) (now to : Int) (W : World) (hs : Sl W W.heap.size A (n * 3) (ints zs)) (hnn : n ≤ 9223372036854775807) (h0 : lfirst zs n = 0) (t0 : 0 ≤ to) (t1 : to ≤ 1000000) (m : Nat) (os : List Int) (er : Int) (hr : cutR zs n now to = (m, os, er)) :
    Calls Try.prog 64 #[.slice A n c, .int .i64 now, .int .i64 to] W (Ret3 W m os er) := by
  have H0 := Lib.hid h0
  have HR := Lib.hid hr
  have n8 := leases_8 (leases_of h0)
  have LC := live_le zs now n
  clear h0 hr
  go_enter Try.func64, Try.ntmps64
  go_wp2_with fail
  refine (live_ok A n c zs now _ hs hnn H0.out).mono ?_
  rintro e w1 ⟨A1, c1, rfl, s1, l1, b1, o1⟩
  have O1 := Lib.hid o1
  have S1 := Lib.hid s1
  have B1 := Lib.hid b1
  have CL := Lib.hid (cut_live (zs := zs) (n := n) (now := now) (to := to))
  have RR := Lib.hid (show cutR zs n now to = if cutOk zs n now to then (liveC zs now n, liveL zs now n, 0) else (0, [], 7) from rfl)
  generalize liveL zs now n = L at *
  generalize liveC zs now n = p at *
  clear hs s1 b1 o1
  go_wp2_with fail
  go_loopw [29, 11] (fun i _ wr => ∃ k : Nat, k ≤ p ∧ i = .int .i64 k ∧ Hid (∀ q, q < k → to ≤ fd L q 2) ∧ Below w1.heap.size w1 wr) (fun i _ _ => p - (intOf i).toNat)
  case atStart => exact ⟨0, Nat.zero_le _, rfl, Lib.hid (fun q hq => by omega), Below.refl _ _⟩
  case round =>
    obtain ⟨k, hk, rfl, hq, hb⟩ := hrel
    have HB := Lib.hid hb
    have hz := hb.size
    have hk0 : (0 : Int) ≤ k := by omega
    by_cases hlt : k < p
    · obtain ⟨b, off, hA, hbl, -⟩ := S1.out.int_at (k := k * 3) (by omega)
      subst hA
      obtain ⟨c0, c1, c2⟩ := (S1.out.below hb).three hlt
      have hn1 : (k : Int) < p := by omega
      clear hb
      by_cases hl : fd L k 2 < to
      · have ne : Hid (¬ cutOk zs n now to) := Lib.hid fun h => by have := CL.out.1 h k hlt; omega
        go_wp2_with fail
        go_ret2
        have e := HR.out
        rw [RR.out, if_neg ne.out] at e
        injection e with e1 e2
        injection e2 with e2 e3
        subst e1 e2 e3
        exact ⟨none, 0, rfl, Sl.nil, Nat.le_refl _, B1.out.trans ((HB.out.alloc hz _).mono B1.out.size), World.ownsRow_nil _ _ _ _⟩
      · go_wp2_with fail
        go_roundw
        case rel =>
          refine ⟨k + 1, by omega, by go_num, Lib.hid fun q h => ?_, HB.out.alloc hz _⟩
          rcases Nat.lt_or_ge q k with h' | h'
          · exact hq.out q h'
          · obtain rfl : q = k := by omega
            omega
        case measure => simp [intOf]; omega
    · have hkn : k = p := by omega
      subst hkn
      have hn1 : ¬ (k : Int) < k := by omega
      have S2 := Lib.hid (S1.out.on hb)
      have e := HR.out
      rw [RR.out, if_pos (CL.out.2 hq.out)] at e
      injection e with e1 e2
      injection e2 with e2 e3
      subst e1 e2 e3
      clear hb
      go_wp2_with fail
      go_ret2
      exact ⟨A1, c1, rfl, S2.out, l1, B1.out.trans (HB.out.mono B1.out.size), own_onR O1.out HB.out⟩
end Go.Proofs.Ytpifknmoimlpoaa
