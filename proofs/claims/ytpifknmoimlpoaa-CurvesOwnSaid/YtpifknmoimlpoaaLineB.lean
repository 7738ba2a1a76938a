/- line.Run returns the departures and what is left, slot by slot. -/
import Derived.Test.YtpifknmoimlpoaaTraceA
set_option linter.unusedVariables false
namespace Go.Proofs.Ytpifknmoimlpoaa
open Go.RowKit
/-- What is left in the buffer by each time; what departs. -/
def lbuf (a : List Int) (r : Int) : Nat → Int
  | 0 => 0
  | k + 1 => lbuf a r k + gi a k - mn (lbuf a r k + gi a k) r
def ldep (a : List Int) (r : Int) (k : Nat) : Int := mn (lbuf a r k + gi a k) r
theorem lbuf_succ (a : List Int) (r : Int) (k : Nat) : lbuf a r (k + 1) = lbuf a r k + gi a k - ldep a r k := rfl
def lineOk (a : List Int) (r : Int) : Prop := traceOk a ∧ 0 ≤ r ∧ r ≤ 10000
def lineErr (a : List Int) (r : Int) : Int := if 60 < a.length then 2 else 1
theorem lineErr_ne (a : List Int) (r : Int) : (lineErr a r != 0) = true := by unfold lineErr; split <;> rfl
theorem lbuf_bd {a : List Int} {r : Int} (h : lineOk a r) (k : Nat) (hk : k ≤ a.length) : 0 ≤ lbuf a r k ∧ lbuf a r k ≤ 10000 * k := by
  induction k with
  | zero => simp [lbuf]
  | succ k ih =>
    have x := ih (by omega)
    have y := trace_bd h.1 (show k < a.length by omega)
    have z := mn_le (lbuf a r k + gi a k) r
    have h0 := h.2.1
    rw [lbuf_succ]
    unfold ldep
    omega
theorem ldep_bd {a : List Int} {r : Int} (h : lineOk a r) (k : Nat) (hk : k < a.length) : 0 ≤ ldep a r k ∧ ldep a r k ≤ r ∧ ldep a r k ≤ lbuf a r k + gi a k := by
  have x := lbuf_bd h k (by omega)
  have y := trace_bd h.1 hk
  have z := mn_le (lbuf a r k + gi a k) r
  have h0 := h.2.1
  unfold ldep
  omega
theorem llook_ok (A : Option Addr) (n c : Nat) (a : List Int) (r : Int) (W : World) (B : Nat) (h : lineOk a r) (hs : Sl W B A n (ints a)) :
    Calls Try.prog 102 #[.slice A n c, .int .i64 r] W fun e w' => e = .returned (.int .i64 0) ∧ W = w' := by
  have H := Lib.hid h.1
  have g1 : ¬ (r < 0) := by have := h.2.1; omega
  have g2 : ¬ (10000 < r) := by have := h.2.2; omega
  clear h
  go_enter Try.func102, Try.ntmps102
  go_wp2_with fail
  refine (tcheck_ok A n c a _ _ H.out hs).mono ?_
  rintro e w' ⟨rfl, rfl⟩
  go_wp2_with fail
  go_ret
  exact ⟨rfl, rfl⟩
theorem llook_bad (A : Option Addr) (n c : Nat) (a : List Int) (r : Int) (W : World) (B : Nat) (h : ¬ lineOk a r) (hs : Sl W B A n (ints a)) (hnn : n ≤ 9223372036854775807) :
    Calls Try.prog 102 #[.slice A n c, .int .i64 r] W fun e w' => e = .returned (.int .i64 (lineErr a r)) ∧ W = w' := by
  by_cases ht : traceOk a
  · have hf : Hid (lineErr a r = 1) := by unfold lineErr; rw [if_neg (by have := ht.1; omega)]; rfl
    have hr : r < 0 ∨ (¬ r < 0 ∧ 10000 < r) := by
      rcases Classical.em (0 ≤ r ∧ r ≤ 10000) with h' | h'
      · exact absurd ⟨ht, h'⟩ h
      · omega
    have H := Lib.hid ht
    clear h ht
    rcases hr with hr | ⟨hr, hr2⟩
    all_goals
      go_enter Try.func102, Try.ntmps102
      go_wp2_with fail
      refine (tcheck_ok A n c a _ _ H.out hs).mono ?_
      rintro e w' ⟨rfl, rfl⟩
      go_wp2_with fail
      go_ret
      exact ⟨ret_int hf.out.symm, rfl⟩
  · have hf : Hid (lineErr a r = traceErr a) := rfl
    have hne := traceErr_ne a
    have H := Lib.hid ht
    clear h ht
    go_enter Try.func102, Try.ntmps102
    go_wp2_with fail
    refine (tcheck_bad A n c a _ _ H.out hs hnn).mono ?_
    rintro e w' ⟨rfl, rfl⟩
    go_wp2_with fail
    go_ret
    exact ⟨ret_int hf.out.symm, rfl⟩
theorem lrun_bad (A : Option Addr) (n c : Nat) (a : List Int) (r : Int) (W : World) (B : Nat) (h : ¬ lineOk a r) (hs : Sl W B A n (ints a)) (hnn : n ≤ 9223372036854775807) :
    Calls Try.prog 58 #[.slice A n c, .int .i64 r] W fun e w' => e = .returned (.tuple #[.slice none 0 0, .slice none 0 0, .int .i64 (lineErr a r)]) ∧ W = w' := by
  have hne := lineErr_ne a r
  have H := Lib.hid h
  clear h
  go_enter Try.func58, Try.ntmps58
  go_wp2_with fail
  refine (llook_bad A n c a r _ _ H.out hs hnn).mono ?_
  rintro e w' ⟨rfl, rfl⟩
  go_wp2_with fail
  go_ret3
  exact ⟨rfl, rfl⟩
set_option maxHeartbeats 1600000 in
theorem lrun_ok (A : Option Addr) (n c : Nat) (a : List Int) (r : Int) (W : World) (h : lineOk a r) (hs : Sl W W.heap.size A n (ints a)) :
    Calls Try.prog 58 #[.slice A n c, .int .i64 r] W fun e w' => ∃ A1 c1 A2 c2, e = .returned (.tuple #[.slice A1 n c1, .slice A2 n c2, .int .i64 0]) ∧
      Sl w' w'.heap.size A1 n (ints (tab n (ldep a r))) ∧ Sl w' w'.heap.size A2 n (ints (tab n fun k => lbuf a r (k + 1))) ∧ Below W.heap.size W w' ∧ n ≤ c1 ∧ n ≤ c2 ∧ w'.ownsRow W.heap.size 3 1 (.slice A1 n c1) n (ints (tab n (ldep a r))) ∧ w'.ownsRow W.heap.size 3 1 (.slice A2 n c2) n (ints (tab n fun k => lbuf a r (k + 1))) ∧ Apart (.slice A1 n c1) (.slice A2 n c2) := by
  have hlen := hs.int_len
  have H := Lib.hid h
  have HL := Lib.hid hlen
  have hn : n ≤ 60 := by have := h.1.1; omega
  have hr1 := h.2.1
  have hr2 := h.2.2
  clear h hlen
  go_enter Try.func58, Try.ntmps58
  go_wp2_with fail
  refine (llook_ok A n c a r _ _ H.out hs).mono ?_
  rintro e w' ⟨rfl, rfl⟩
  go_wp2_with fail
  go_loopw [22, 8, 9, 10, 12, 13] (fun i v v2 q _ _ wr => ∃ k : Nat, k ≤ n ∧ i = .int .i64 k ∧ q = .int .i64 (lbuf a r k) ∧ wr.ownsRow W.heap.size 3 1 v k (ints (tab k (ldep a r))) ∧
      wr.ownsRow W.heap.size 3 1 v2 k (ints (tab k fun k => lbuf a r (k + 1))) ∧ Apart v v2 ∧ Below W.heap.size W wr ∧ W.heap.size ≤ wr.heap.size) (fun i _ _ _ _ _ _ => n - (intOf i).toNat)
  case atStart => exact ⟨0, Nat.zero_le _, rfl, rfl, World.ownsRow_nil _ _ _ _, World.ownsRow_nil _ _ _ _, Apart.nil _, Below.refl _ _, Nat.le_refl _⟩
  case round =>
    obtain ⟨k, hk, rfl, rfl, hown, hown2, hap, hb, hz⟩ := hrel
    by_cases hlt : k < n
    · obtain ⟨b, off, rfl, hbl, hc⟩ := (hs.below hb).int_at hlt
      have hkl : k < a.length := by rw [HL.out]; exact hlt
      have hab := trace_bd H.out.1 hkl
      have hbb := lbuf_bd H.out k (by omega)
      have hdb := ldep_bd H.out k hkl
      have hmn : (if r < lbuf a r k + gi a k then r else lbuf a r k + gi a k) = ldep a r k := rfl
      have hS := Lib.hid (lbuf_succ a r k)
      have hn1 : (k : Int) < n := by omega
      have hk0 : (0 : Int) ≤ k := by omega
      have ho := Lib.hid hown
      have ho2 := Lib.hid hown2
      have hap' := Lib.hid hap
      have hbh := Lib.hid hb
      clear hown hown2 hap hb hs
      go_wp2_with (first
        | (at_builtin; refine wpList_push2 rfl (.tmp 35) (.tmp 37) _ rfl elemInt W.heap.size _ k _ _ rfl rfl ho.out hbh.out hz rfl (by omega) ho2.out hap'.out ?_; intro v1 w1 hown1 hb1 hz1 hown12 hap1; have O1 := Lib.hid hown1; have O12 := Lib.hid hown12; have AP1 := Lib.hid hap1; have B1 := Lib.hid hb1; clear hown1 hown12 hap1 hb1)
        | (at_builtin; refine wpList_push2 rfl (.tmp 39) (.tmp 41) _ rfl elemInt W.heap.size _ k _ _ rfl rfl O12.out B1.out hz1 rfl (by omega) O1.out AP1.out.symm ?_; intro v3 w3 hown3 hb3 hz3 hown32 hap3))
      go_roundw
      case rel => exact ⟨k + 1, by omega, by go_num, by rw [hS.out], by rw [tab_push] at hown32; exact hown32, by rw [← hS.out, tab_push k fun k => lbuf a r (k + 1)] at hown3; exact hown3, hap3.symm, hb3, hz3⟩
      case measure => simp [intOf]; omega
    · have hkn : k = n := by omega
      subst hkn
      have ho := Lib.hid hown
      have ho2 := Lib.hid hown2
      have hbh := Lib.hid hb
      have hapf := Lib.hid hap
      clear hown hown2 hb hs hap
      go_wp2_with fail
      go_ret3
      obtain ⟨A1, c1, rfl, hc1⟩ := own_form ho.out
      obtain ⟨A2, c2, rfl, hc2⟩ := own_form ho2.out
      exact ⟨_, _, _, _, rfl, Sl.of_own ho.out, Sl.of_own ho2.out, hbh.out, hc1, hc2, ho.out, ho2.out, hapf.out⟩
end Go.Proofs.Ytpifknmoimlpoaa
