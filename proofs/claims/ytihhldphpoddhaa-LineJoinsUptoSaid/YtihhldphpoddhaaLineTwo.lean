/- LineTwo: two links, one behind the other, are one of the lesser rate. -/
import Derived.Test.YtihhldphpoddhaaLineB
import Derived.Test.YtihhldphpoddhaaEqual
import Derived.Test.YtihhldphpoddhaaWithin
set_option linter.unusedVariables false
namespace Go.Proofs.Ytihhldphpoddhaa
open Go.RowKit
theorem lrun_ex (l : List Int) (r : Int) (o1 o2 : List Int) (n : Nat) (hl : l.length = n) (hok : lineOk l r) (h1 : tab n (ldep l r) = o1) (h2 : (tab n fun k => lbuf l r (k + 1)) = o2) (A : Option Addr) (c : Nat) (W : World) (hs : Sl W W.heap.size A n (ints l)) :
    Calls Try.prog 15 #[.slice A n c, .int .i64 r] W fun e w' => ∃ A1 c1 A2 c2, e = .returned (.tuple #[.slice A1 n c1, .slice A2 n c2, .int .i64 0]) ∧
      Sl w' w'.heap.size A1 n (ints o1) ∧ Sl w' w'.heap.size A2 n (ints o2) ∧ Below W.heap.size W w' :=
  (lrun_ok A n c l r W hok hs).mono fun _ _ ⟨A1, c1, A2, c2, e, k1, k2, k3, _, _⟩ => ⟨A1, c1, A2, c2, e, h1 ▸ k1, h2 ▸ k2, k3⟩
theorem two_step (q1 q2 x r s : Int) (h1 : 0 ≤ q1) (h2 : 0 ≤ q2) (h3 : 0 ≤ x) (h4 : 0 ≤ r) (h5 : 0 ≤ s) (h : r ≤ s → q2 = 0) :
    mn (q2 + mn (q1 + x) r) s = mn (q1 + q2 + x) (mn r s) := by
  unfold mn
  by_cases hrs : r ≤ s
  · have := h hrs
    subst this
    split <;> split <;> split <;> (try split) <;> omega
  · split <;> split <;> split <;> (try split) <;> omega
theorem ldep_def (a : List Int) (r : Int) (k : Nat) : ldep a r k = mn (lbuf a r k + gi a k) r := rfl
/-- What waits at both links together waits at the slower one. -/
theorem line_two {a X : List Int} {r s : Int} (h : lineOk a r) (hs : 0 ≤ s) (hX : ∀ k, k < a.length → gi X k = ldep a r k) (k : Nat) (hk : k ≤ a.length) :
    lbuf a r k + lbuf X s k = lbuf a (mn r s) k ∧ (r ≤ s → lbuf X s k = 0) ∧ 0 ≤ lbuf X s k := by
  induction k with
  | zero => simp [lbuf]
  | succ k ih =>
    obtain ⟨i1, i2, i3⟩ := ih (by omega)
    have b1 := lbuf_bd h k (by omega)
    have b2 := trace_bd h.1 (show k < a.length by omega)
    have b3 := h.2.1
    have e := two_step (lbuf a r k) (lbuf X s k) (gi a k) r s b1.1 i3 b2.1 b3 hs i2
    have l1 := mn_le (lbuf a r k + gi a k) r
    have l2 := mn_le (lbuf X s k + mn (lbuf a r k + gi a k) r) s
    rw [lbuf_succ, lbuf_succ, lbuf_succ, ldep_def X, hX k (by omega), ldep_def a r, ldep_def a (mn r s), ← i1, ← e]
    refine ⟨by omega, fun hrs => ?_, by omega⟩
    have := i2 hrs
    omega
theorem line_two_dep {a X : List Int} {r s : Int} (h : lineOk a r) (hs : 0 ≤ s) (hX : ∀ k, k < a.length → gi X k = ldep a r k) (k : Nat) (hk : k < a.length) :
    ldep X s k = ldep a (mn r s) k := by
  obtain ⟨i1, i2, i3⟩ := line_two h hs hX k (by omega)
  have b1 := lbuf_bd h k (by omega)
  have b2 := trace_bd h.1 hk
  have b3 := h.2.1
  have e := two_step (lbuf a r k) (lbuf X s k) (gi a k) r s b1.1 i3 b2.1 b3 hs i2
  rw [ldep_def X, hX k hk, ldep_def a r, ldep_def a (mn r s), ← i1, ← e]
set_option maxRecDepth 100000 in
set_option maxHeartbeats 1600000 in
theorem lineTwo_walk (A : Option Addr) (n c : Nat) (l : List Int) (r s : Int) (W : World) (w0 : InInts W A n c l) (_ : -9223372036854775808 ≤ r ∧ r ≤ 9223372036854775807) (_ : -9223372036854775808 ≤ s ∧ s ≤ 9223372036854775807) :
    Calls Try.prog 3 #[.slice A n c, .int .i64 r, .int .i64 s] W fun e w' => e = .returned (.bool true) ∧ Below W.heap.size W w' := by
  obtain ⟨s1, l1, r1, _⟩ := w0
  go_enter Try.func3, Try.ntmps3
  go_wp2_with fail
  refine (lrun_ex [5, 0] 3 [3, 2] [2, 0] 2 rfl ⟨⟨by decide, by decide⟩, by decide, by decide⟩ (by decide) (by decide) _ _ _ (by exact Sl.built_ _ (ints [5, 0]) _ _ rfl rfl)).mono ?_
  rintro e w1 ⟨A1, c1, A1', c1', rfl, hs1, _, hb1'⟩
  have hb1 : Below W.heap.size W w1 := (below_alloc (Below.refl _ W) (.cells (ints [5, 0]).toArray 3)).trans (hb1'.mono (by simp))
  clear hb1'
  go_wp2_with fail
  refine (equal_any _ _ _ _ _ _ _ [3, 2] _ _ _ (hs1.alloc (Nat.le_refl _) _) (Sl.built w1 (ints [3, 2]) _ rfl) (by decide)).mono ?_
  rintro e w2 ⟨rfl, q, rfl⟩
  have hb2 := bel_drewN (below_alloc hb1 (.cells (ints [3, 2]).toArray 3)) q
  have s2 := s1.on hb2
  have hlen := s2.int_len
  clear hs1 hb1 s1
  go_wp2_with fail
  refine (within_any r 10001 _ (by omega) (by omega)).mono ?_
  rintro e w' ⟨rfl, rfl⟩
  go_wp2_with fail
  refine (within_any s 10001 _ (by omega) (by omega)).mono ?_
  rintro e w' ⟨rfl, rfl⟩
  have k1 := within_lo r 10001 (by omega)
  have k2 := within_hi r 10001 (by omega)
  have k3 := within_lo s 10001 (by omega)
  have k4 := within_hi s 10001 (by omega)
  generalize within r 10001 = p at *
  generalize within s 10001 = t at *
  go_wp2_with fail
  by_cases h : traceOk l
  · have hok : lineOk l p := ⟨h, k1, by omega⟩
    refine (lrun_ok A n c l p _ hok s2).mono ?_
    rintro e w3 ⟨A3, c3, A3', c3', rfl, hx, _, hb3', hcap, _⟩
    have hb3 : Below W.heap.size W w3 := hb2.trans (hb3'.mono hb2.size)
    have s3 := s2.on hb3'
    have H := Lib.hid hok
    have HL := Lib.hid hlen
    have hn : n ≤ 60 := by have := h.1; omega
    clear hb2 hb3' s2 hlen h hok
    go_wp2_with fail
    have hokx : lineOk (tab n (ldep l p)) t := ⟨⟨by rw [tab_len]; omega, fun z hz => by
      obtain ⟨i, hi, rfl⟩ := mem_tab hz
      have := ldep_bd H.out i (by rw [HL.out]; exact hi)
      have := H.out.2.2
      omega⟩, k3, by omega⟩
    refine (lrun_ok A3 n c3 _ t _ hokx hx).mono ?_
    rintro e w4 ⟨A4, c4, A4', c4', rfl, hy, _, hb4', hcap4, _⟩
    have hb4 : Below W.heap.size W w4 := hb3.trans (hb4'.mono hb3.size)
    have s4 := s3.on hb4'
    have hm : (if t < p then t else p) = mn p t := rfl
    have hml := mn_le p t
    clear hb3 hb4' s3 hx hokx
    go_wp2_with fail
    refine (lrun_ok A n c l (mn p t) _ ⟨H.out.1, by omega, by omega⟩ s4).mono ?_
    rintro e w5 ⟨A5, c5, A5', c5', rfl, hz, _, hb5', hcap5, _⟩
    have hb5 : Below W.heap.size W w5 := hb4.trans (hb5'.mono hb4.size)
    have hy5 := hy.on hb5'
    have heq : tab n (ldep (tab n (ldep l p)) t) = tab n (ldep l (mn p t)) := by
      refine tab_congr fun i hi => ?_
      exact line_two_dep H.out k3 (fun k hk => tab_get _ (by rw [← HL.out]; exact hk)) i (by rw [HL.out]; exact hi)
    rw [heq] at hy5
    clear hb4 hb5' s4 hy hm hml heq
    go_wp2_with fail
    refine (equal_any _ _ _ _ _ _ _ _ _ _ _ hy5 hz (by omega)).mono ?_
    rintro e w6 ⟨rfl, q6, rfl⟩
    go_wp2_with fail
    go_ret
    exact ⟨rfl, bel_drewN hb5 _⟩
  · refine (lrun_bad A n c l p _ _ (fun hh => h hh.1) s2 (by omega)).mono ?_
    rintro e w3 ⟨rfl, rfl⟩
    have hne := lineErr_ne l p
    have he : lineErr l p = traceErr l := rfl
    rw [he] at hne
    rw [he]
    have H := Lib.hid h
    clear he h hlen
    go_wp2_with fail
    refine (tcheck_bad A n c l _ _ H.out s2 (by omega)).mono ?_
    rintro e w' ⟨rfl, rfl⟩
    clear s2
    go_wp2_with fail
    go_ret
    exact ⟨rfl, hb2⟩
end Go.Proofs.Ytihhldphpoddhaa
