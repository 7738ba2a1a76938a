/- prio.Run. -/
import Derived.Test.YtihhldphpoddhaaLineTwo
set_option linter.unusedVariables false
namespace Go.Proofs.Ytihhldphpoddhaa
open Go.RowKit
/-- What waits of the second. -/
def pq (a b : List Int) (r : Int) : Nat → Int
  | 0 => 0
  | k + 1 => pq a b r k + gi b k - mn (pq a b r k + gi b k) (r - ldep a r k)
def pout (a b : List Int) (r : Int) (k : Nat) : Int := mn (pq a b r k + gi b k) (r - ldep a r k)
theorem pq_succ (a b : List Int) (r : Int) (k : Nat) : pq a b r (k + 1) = pq a b r k + gi b k - pout a b r k := rfl
def prioOk (a b : List Int) (r : Int) : Prop := lineOk a r ∧ traceOk b ∧ b.length = a.length
theorem pq_bd {a b : List Int} {r : Int} (h : prioOk a b r) (k : Nat) (hk : k ≤ a.length) : 0 ≤ pq a b r k ∧ pq a b r k ≤ 10000 * k := by
  induction k with
  | zero => simp [pq]
  | succ k ih =>
    have i := ih (by omega)
    have t := trace_bd h.2.1 (show k < b.length by have := h.2.2; omega)
    have d := ldep_bd h.1 k (by omega)
    have m := mn_le (pq a b r k + gi b k) (r - ldep a r k)
    rw [pq_succ]
    unfold pout
    omega
theorem pout_bd {a b : List Int} {r : Int} (h : prioOk a b r) (k : Nat) (hk : k < a.length) : 0 ≤ pout a b r k ∧ pout a b r k ≤ pq a b r k + gi b k ∧ pout a b r k ≤ r - ldep a r k := by
  have i := pq_bd h k (by omega)
  have t := trace_bd h.2.1 (show k < b.length by have := h.2.2; omega)
  have d := ldep_bd h.1 k hk
  have m := mn_le (pq a b r k + gi b k) (r - ldep a r k)
  unfold pout
  omega
theorem prun_bad (A : Option Addr) (n c : Nat) (a : List Int) (M : Option Addr) (n' c' : Nat) (b : List Int) (r : Int) (W : World) (h : ¬ prioOk a b r) (hs : Sl W W.heap.size A n (ints a)) (ht : Sl W W.heap.size M n' (ints b))
    (hnn : n ≤ 9223372036854775807) (hnn' : n' ≤ 9223372036854775807) :
    Calls Try.prog 26 #[.slice A n c, .slice M n' c', .int .i64 r] W fun e w' => (∃ k : Int, k ≠ 0 ∧ e = .returned (.tuple #[.slice none 0 0, .slice none 0 0, .int .i64 k])) ∧ Below W.heap.size W w' := by
  have hl := hs.int_len
  have hl' := ht.int_len
  by_cases h1 : lineOk a r
  · by_cases h2 : traceOk b
    · have h3 : ¬ n = n' := fun e => h ⟨h1, h2, by omega⟩
      have h4 : ((n : Int) != n') = true := by simp; omega
      clear h hl hl' h3
      have H1 := Lib.hid h1
      have H2 := Lib.hid h2
      clear h1 h2
      go_enter Try.func26, Try.ntmps26
      go_wp2_with fail
      refine (lrun_ok A n c a r _ H1.out hs).mono ?_
      rintro e w1 ⟨A1, c1, A1', c1', rfl, hx, _, hb, _⟩
      have t1 := ht.on hb
      clear hs ht hx
      go_wp2_with fail
      refine (tcheck_ok M n' c' b _ _ H2.out t1).mono ?_
      rintro e w' ⟨rfl, rfl⟩
      clear t1
      go_wp2_with fail
      go_ret3
      exact ⟨⟨4, by decide, rfl⟩, hb⟩
    · have hne := traceErr_ne b
      have hk := Lib.hid (show traceErr b ≠ 0 by simpa using hne)
      have H1 := Lib.hid h1
      have H2 := Lib.hid h2
      clear h hl hl' h1 h2
      go_enter Try.func26, Try.ntmps26
      go_wp2_with fail
      refine (lrun_ok A n c a r _ H1.out hs).mono ?_
      rintro e w1 ⟨A1, c1, A1', c1', rfl, hx, _, hb, _⟩
      have t1 := ht.on hb
      clear hs ht hx
      go_wp2_with fail
      refine (tcheck_bad M n' c' b _ _ H2.out t1 hnn').mono ?_
      rintro e w' ⟨rfl, rfl⟩
      clear t1
      go_wp2_with fail
      go_ret3
      exact ⟨⟨traceErr b, hk.out, rfl⟩, hb⟩
  · have hne := lineErr_ne a r
    have hk := Lib.hid (show lineErr a r ≠ 0 by simpa using hne)
    have H1 := Lib.hid h1
    clear h hl hl' h1
    go_enter Try.func26, Try.ntmps26
    go_wp2_with fail
    refine (lrun_bad A n c a r _ _ H1.out hs hnn).mono ?_
    rintro e w1 ⟨rfl, rfl⟩
    clear hs ht
    go_wp2_with fail
    go_ret3
    exact ⟨⟨lineErr a r, hk.out, rfl⟩, Below.refl _ _⟩
set_option maxHeartbeats 1600000 in
theorem prun_ok (A : Option Addr) (n c : Nat) (a : List Int) (M : Option Addr) (c' : Nat) (b : List Int) (r : Int) (W : World) (h : prioOk a b r) (hs : Sl W W.heap.size A n (ints a)) (ht : Sl W W.heap.size M n (ints b)) :
    Calls Try.prog 26 #[.slice A n c, .slice M n c', .int .i64 r] W fun e w' => ∃ A1 c1 A2 c2, e = .returned (.tuple #[.slice A1 n c1, .slice A2 n c2, .int .i64 0]) ∧
      Sl w' w'.heap.size A1 n (ints (tab n (ldep a r))) ∧ Sl w' w'.heap.size A2 n (ints (tab n (pout a b r))) ∧ Below W.heap.size W w' := by
  have HL := Lib.hid hs.int_len
  have H := Lib.hid h
  have hn : n ≤ 60 := by have := h.1.1.1; have := hs.int_len; omega
  have hr1 := h.1.2.1
  have hr2 := h.1.2.2
  clear h
  have hnn : ((n : Int) != n) = false := by simp
  go_enter Try.func26, Try.ntmps26
  go_wp2_with fail
  refine (lrun_ok A n c a r _ H.out.1 hs).mono ?_
  rintro e w1 ⟨A1, c1, A1', c1', rfl, hx, _, hb1, _⟩
  have t1 := ht.on hb1
  clear hs ht
  go_wp2_with fail
  refine (tcheck_ok M n c' b _ _ H.out.2.1 t1).mono ?_
  rintro e w' ⟨rfl, rfl⟩
  have HX := Lib.hid hx
  have HT := Lib.hid t1
  clear hx t1
  go_wp2_with fail
  go_loopw [40, 13, 14, 15, 16, 17] (fun i v q _ _ _ wr => ∃ k : Nat, k ≤ n ∧ i = .int .i64 k ∧ q = .int .i64 (pq a b r k) ∧ wr.ownsRow w1.heap.size 3 1 v k (ints (tab k (pout a b r))) ∧
      Below w1.heap.size w1 wr ∧ w1.heap.size ≤ wr.heap.size) (fun i _ _ _ _ _ _ => n - (intOf i).toNat)
  case atStart => exact ⟨0, Nat.zero_le _, rfl, rfl, World.ownsRow_nil _ _ _ _, Below.refl _ _, Nat.le_refl _⟩
  case round =>
    obtain ⟨k, hk, rfl, rfl, hown, hb, hz⟩ := hrel
    have ho := Lib.hid hown
    have hbh := Lib.hid hb
    by_cases hlt : k < n
    · obtain ⟨b1, o1, rfl, _, hc⟩ := (HX.out.on hb).int_at hlt
      obtain ⟨b2, o2, rfl, _, hc2⟩ := (HT.out.on hb).int_at hlt
      rw [tab_get _ hlt] at hc
      have hkl : k < a.length := by rw [HL.out]; exact hlt
      have hab := trace_bd H.out.2.1 (show k < b.length by rw [H.out.2.2]; exact hkl)
      have hbb := pq_bd H.out k (by omega)
      have hdb := ldep_bd H.out.1 k hkl
      have hpb := pout_bd H.out k hkl
      have hmn : (if r - ldep a r k < pq a b r k + gi b k then r - ldep a r k else pq a b r k + gi b k) = pout a b r k := rfl
      have hS := Lib.hid (pq_succ a b r k)
      have hn1 : (k : Int) < n := by omega
      have hk0 : (0 : Int) ≤ k := by omega
      clear hown hb
      go_wp2_with (at_builtin; refine wpList_push rfl (.tmp 59) (.tmp 61) _ rfl elemInt w1.heap.size _ k _ _ rfl rfl ho.out hbh.out hz rfl (by omega) ?_; intro v1 w2 hown1 hb2 hz1)
      go_roundw
      case rel => exact ⟨k + 1, by omega, by go_num, by rw [hS.out], by rw [tab_push] at hown1; exact hown1, hb2, hz1⟩
      case measure => simp [intOf]; omega
    · have hkn : k = n := by omega
      subst hkn
      clear hown hb
      go_wp2_with fail
      go_ret3
      obtain ⟨A2, c2, rfl, hc2⟩ := own_form ho.out
      exact ⟨_, _, _, _, rfl, HX.out.on hbh.out, Sl.of_own ho.out, hb1.trans (hbh.out.mono hb1.size)⟩
end Go.Proofs.Ytihhldphpoddhaa
