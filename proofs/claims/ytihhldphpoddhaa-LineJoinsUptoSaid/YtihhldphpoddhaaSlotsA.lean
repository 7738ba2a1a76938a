/- trace.Slots; trace.Sum for every trace. -/
import Derived.Test.YtihhldphpoddhaaSumA
import Derived.Test.YtihhldphpoddhaaCurveB
import Derived.Test.YtihhldphpoddhaaOwnT
import Derived.StillTailTactics
import Derived.Deep.RegionLaw
set_option linter.unusedVariables false
namespace Go.Proofs.Ytihhldphpoddhaa
open Go.RowKit
theorem tsum_ok (A : Option Addr) (n c : Nat) (a : List Int) (W : World) (hs : Sl W W.heap.size A n (ints a)) (hn : n ≤ 9223372036854775807) (h : traceOk a) (zs : List Int) (er : Int) (k : Nat) (hz : (cumul a, (0 : Int)) = (zs, er)) (hk : zs.length = k) :
    Calls Try.prog 20 #[.slice A n c] W (RetSl W k zs er) := by
  injection hz with e1 e2
  subst e1 e2
  rw [cumul_len, hs.int_len] at hk
  subst hk
  exact (sum_ok A n c a W h hs).mono fun e w' ⟨A', c', h1, h2, h3, h4⟩ => ⟨A', c', h1, h2, h4, h3⟩
theorem tsum_no (A : Option Addr) (n c : Nat) (a : List Int) (W : World) (hs : Sl W W.heap.size A n (ints a)) (hn : n ≤ 9223372036854775807) (h : ¬ traceOk a) (zs : List Int) (er : Int) (k : Nat) (hz : (([] : List Int), traceErr a) = (zs, er)) (hk : zs.length = k) :
    Calls Try.prog 20 #[.slice A n c] W (RetSl W k zs er) := by
  injection hz with e1 e2
  subst e1 e2
  subst hk
  exact (sum_bad A n c a W _ h hs hn).mono fun e w' ⟨h1, h2⟩ => ⟨none, 0, h1, Sl.nil, Nat.le_refl _, h2 ▸ Below.refl _ _⟩
theorem tcheck_any (A : Option Addr) (n c : Nat) (a : List Int) (W : World) (hs : Sl W W.heap.size A n (ints a)) (hn : n ≤ 9223372036854775807) (h : ¬ traceOk a) (v : Int) (hv : traceErr a = v) :
    Calls Try.prog 18 #[.slice A n c] W fun e w' => e = .returned (.int .i64 v) ∧ W = w' := by
  subst hv
  exact tcheck_bad A n c a W _ h hs hn
theorem below_dr {W w : World} (h : Below W.heap.size W w) (q : Nat) : Below W.heap.size W (w.drewN q) := ⟨h.os, h.tape, h.output, h.size, h.block⟩
theorem lit_cell (w : World) (x : Value) (e : TypeId) (ad : Addr) (h : some (⟨w.heap.size, 0, none⟩ : Addr) = some ad) (i : Nat) (u : Value) (hu : [x][i]? = some u) : (w.alloc (.cells #[x] e)).cell? (ad.add i) = some u := by
  injection h with h
  subst h
  match i, hu with
  | 0, hu => simp at hu; subst hu; rw [Addr.add_lit, World.cell?_alloc_at _ _ _ _ rfl]; rfl
/-- What comes in each time. -/
def diffs (f : List Int) : List Int := tab (f.length - 1) fun i => gi f (i + 1) - gi f i
theorem diffs_len (f : List Int) : (diffs f).length = f.length - 1 := tab_len _ _
theorem tcheck_yes (A : Option Addr) (n c : Nat) (a : List Int) (W : World) (hs : Sl W W.heap.size A n (ints a)) (hn : n ≤ 9223372036854775807) (h : traceOk a) (v : Int) (hv : (0 : Int) = v) :
    Calls Try.prog 18 #[.slice A n c] W fun e w' => e = .returned (.int .i64 v) ∧ W = w' := by
  subst hv
  exact tcheck_ok A n c a W _ h hs
theorem cumul_C {a : List Int} (h : traceOk a) : IsC (a.length + 1) (cumul a) := by
  have := h.1
  refine isC_tab (by omega) (by omega) (fun i hi => (psum_bd h i (by omega)).1) (fun i hi => ?_) (fun i hi => psum_mono h (by omega) (by omega))
  have := (psum_bd h i (by omega)).2
  omega
theorem cumul_zero (a : List Int) : gi (cumul a) 0 = 0 := cumul_get (Nat.zero_le _)
theorem diffs_cumul (a : List Int) : diffs (cumul a) = a := by
  refine gi_ext (by rw [diffs_len, cumul_len]; rfl) fun i hi => ?_
  rw [diffs_len, cumul_len] at hi
  unfold diffs
  rw [cumul_len, tab_get _ hi, cumul_get (by omega), cumul_get (by omega), psum_succ]
  omega
theorem psum_diffs {f : List Int} (h0 : gi f 0 = 0) (k : Nat) (hk : k < f.length) : psum (diffs f) k = gi f k := by
  induction k with
  | zero => rw [h0]; rfl
  | succ k ih =>
    rw [psum_succ, ih (by omega)]
    unfold diffs
    rw [tab_get _ (by omega)]
    omega
theorem cumul_diffs {f : List Int} (h : curveErr f = 0) (h0 : gi f 0 = 0) : cumul (diffs f) = f := by
  have hp := (isC_of h).pos
  refine gi_ext (by rw [cumul_len, diffs_len]; omega) fun i hi => ?_
  rw [cumul_len, diffs_len] at hi
  rw [cumul_get (by rw [diffs_len]; omega), psum_diffs h0 i (by omega)]
theorem diffs_ok {f : List Int} (h : curveErr f = 0) (k : ∀ i, i + 1 < f.length → gi f (i + 1) - gi f i ≤ 10000) : traceOk (diffs f) := by
  have cf := isC_of h
  refine ⟨by rw [diffs_len]; have := cf.top; omega, fun z hz => ?_⟩
  obtain ⟨i, hi, rfl⟩ := mem_tab hz
  have := cf.up i (i + 1) (by omega) (by omega)
  have := k i (by omega)
  omega
/-- What trace.Slots answers. -/
inductive SlotsIs (f : List Int) : List Int × Int → Prop
  | err (h : ¬ curveErr f = 0) : SlotsIs f ([], curveErr f)
  | form (h : curveErr f = 0) (h0 : gi f 0 ≠ 0) : SlotsIs f ([], 3)
  | large (h : curveErr f = 0) (h0 : gi f 0 = 0) (k : Nat) (hk : k + 1 < f.length) (k1 : 10000 < gi f (k + 1) - gi f k) (k2 : ∀ i, i < k → gi f (i + 1) - gi f i ≤ 10000) : SlotsIs f ([], 2)
  | ok (h : curveErr f = 0) (h0 : gi f 0 = 0) (k : ∀ i, i + 1 < f.length → gi f (i + 1) - gi f i ≤ 10000) : SlotsIs f (diffs f, 0)
theorem slotsIs_ex (f : List Int) : SlotsIs f ([], curveErr f) ∧ curveErr f ≠ 0 ∨ SlotsIs f ([], 3) ∨ SlotsIs f ([], 2) ∨ (SlotsIs f (diffs f, 0) ∧ curveErr f = 0 ∧ gi f 0 = 0 ∧ ∀ i, i + 1 < f.length → gi f (i + 1) - gi f i ≤ 10000) := by
  by_cases h : curveErr f = 0
  · by_cases h0 : gi f 0 = 0
    · have key : ∀ n, (∀ i, i < n → gi f (i + 1) - gi f i ≤ 10000) ∨ ∃ k, k < n ∧ (∀ i, i < k → gi f (i + 1) - gi f i ≤ 10000) ∧ 10000 < gi f (k + 1) - gi f k := by
        intro n
        induction n with
        | zero => exact .inl fun i hi => by omega
        | succ n ih =>
          rcases ih with k | ⟨k, k1, k2, k3⟩
          · by_cases hn : gi f (n + 1) - gi f n ≤ 10000
            · refine .inl fun i hi => ?_
              rcases Nat.lt_or_ge i n with h' | h'
              · exact k i h'
              · obtain rfl : i = n := by omega
                exact hn
            · exact .inr ⟨n, by omega, k, by omega⟩
          · exact .inr ⟨k, by omega, k2, k3⟩
      rcases key (f.length - 1) with k | ⟨k, k1, k2, k3⟩
      · exact .inr (.inr (.inr ⟨.ok h h0 fun i hi => k i (by omega), h, h0, fun i hi => k i (by omega)⟩))
      · exact .inr (.inr (.inl (.large h h0 k (by omega) k3 k2)))
    · exact .inr (.inl (.form h h0))
  · exact .inl ⟨.err h, h⟩
end Go.Proofs.Ytihhldphpoddhaa
