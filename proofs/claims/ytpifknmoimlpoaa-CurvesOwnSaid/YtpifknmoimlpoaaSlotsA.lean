/- trace.Slots; trace.Sum for every trace. -/
import Derived.Test.YtpifknmoimlpoaaSumA
import Derived.Test.YtpifknmoimlpoaaCurveB
import Derived.Test.YtpifknmoimlpoaaOwnT
import Derived.StillTailTactics
import Derived.Deep.RegionLaw
set_option linter.unusedVariables false
namespace Go.Proofs.Ytpifknmoimlpoaa
open Go.RowKit
theorem tsum_ok (A : Option Addr) (n c : Nat) (a : List Int) (W : World) (hs : Sl W W.heap.size A n (ints a)) (hn : n ≤ 9223372036854775807) (h : traceOk a) (zs : List Int) (er : Int) (k : Nat) (hz : (cumul a, (0 : Int)) = (zs, er)) (hk : zs.length = k) :
    Calls Try.prog 23 #[.slice A n c] W (RetSl W k zs er) := by
  injection hz with e1 e2
  subst e1 e2
  rw [cumul_len, hs.int_len] at hk
  subst hk
  exact (sum_ok A n c a W h hs).mono fun e w' ⟨A', c', h1, h2, h3, h4, h5⟩ => ⟨A', c', h1, h2, h4, h3, h5⟩
theorem tsum_no (A : Option Addr) (n c : Nat) (a : List Int) (W : World) (hs : Sl W W.heap.size A n (ints a)) (hn : n ≤ 9223372036854775807) (h : ¬ traceOk a) (zs : List Int) (er : Int) (k : Nat) (hz : (([] : List Int), traceErr a) = (zs, er)) (hk : zs.length = k) :
    Calls Try.prog 23 #[.slice A n c] W (RetSl W k zs er) := by
  injection hz with e1 e2
  subst e1 e2
  subst hk
  exact (sum_bad A n c a W _ h hs hn).mono fun e w' ⟨h1, h2⟩ => ⟨none, 0, h1, Sl.nil, Nat.le_refl _, h2 ▸ Below.refl _ _, World.ownsRow_nil _ _ _ _⟩
theorem tcheck_any (A : Option Addr) (n c : Nat) (a : List Int) (W : World) (hs : Sl W W.heap.size A n (ints a)) (hn : n ≤ 9223372036854775807) (h : ¬ traceOk a) (v : Int) (hv : traceErr a = v) :
    Calls Try.prog 82 #[.slice A n c] W fun e w' => e = .returned (.int .i64 v) ∧ W = w' := by
  subst hv
  exact tcheck_bad A n c a W _ h hs hn
theorem below_dr {W w : World} (h : Below W.heap.size W w) (q : Nat) : Below W.heap.size W (w.drewN q) := ⟨h.os, h.tape, h.output, h.size, h.block⟩
theorem lit_cell (w : World) (x : Value) (e : TypeId) (ad : Addr) (h : some (⟨w.heap.size, 0, none⟩ : Addr) = some ad) (i : Nat) (u : Value) (hu : [x][i]? = some u) : (w.alloc (.cells #[x] e)).cell? (ad.add i) = some u := by
  injection h with h
  subst h
  match i, hu with
  | 0, hu => simp at hu; subst hu; rw [Addr.add_lit, World.cell?_alloc_at _ _ _ _ rfl]; rfl
/-- What comes in each time. -/
def diffs (f : List Int) : List Int := tab (f.length - 1) fun i => gi f (i + 1) - gi f i
theorem diffs_len (f : List Int) : (diffs f).length = f.length - 1 := tab_len _ _
theorem tcheck_yes (A : Option Addr) (n c : Nat) (a : List Int) (W : World) (hs : Sl W W.heap.size A n (ints a)) (hn : n ≤ 9223372036854775807) (h : traceOk a) (v : Int) (hv : (0 : Int) = v) :
    Calls Try.prog 82 #[.slice A n c] W fun e w' => e = .returned (.int .i64 v) ∧ W = w' := by
  subst hv
  exact tcheck_ok A n c a W _ h hs
theorem cumul_C {a : List Int} (h : traceOk a) : IsC (a.length + 1) (cumul a) := by
  have := h.1
  refine isC_tab (by omega) (by omega) (fun i hi => (psum_bd h i (by omega)).1) (fun i hi => ?_) (fun i hi => psum_mono h (by omega) (by omega))
  have := (psum_bd h i (by omega)).2
  omega
theorem cumul_zero (a : List Int) : gi (cumul a) 0 = 0 := cumul_get (Nat.zero_le _)
theorem diffs_cumul (a : List Int) : diffs (cumul a) = a := by
  refine gi_ext (by rw [diffs_len, cumul_len]; rfl) fun i hi => ?_
  rw [diffs_len, cumul_len] at hi
  unfold diffs
  rw [cumul_len, tab_get _ hi, cumul_get (by omega), cumul_get (by omega), psum_succ]
  omega
theorem psum_diffs {f : List Int} (h0 : gi f 0 = 0) (k : Nat) (hk : k < f.length) : psum (diffs f) k = gi f k := by
  induction k with
  | zero => rw [h0]; rfl
  | succ k ih =>
    rw [psum_succ, ih (by omega)]
    unfold diffs
    rw [tab_get _ (by omega)]
    omega
theorem cumul_diffs {f : List Int} (h : curveErr f = 0) (h0 : gi f 0 = 0) : cumul (diffs f) = f := by
  have hp := (isC_of h).pos
  refine gi_ext (by rw [cumul_len, diffs_len]; omega) fun i hi => ?_
  rw [cumul_len, diffs_len] at hi
  rw [cumul_get (by rw [diffs_len]; omega), psum_diffs h0 i (by omega)]
theorem diffs_ok {f : List Int} (h : curveErr f = 0) (k : ∀ i, i + 1 < f.length → gi f (i + 1) - gi f i ≤ 10000) : traceOk (diffs f) := by
  have cf := isC_of h
  refine ⟨by rw [diffs_len]; have := cf.top; omega, fun z hz => ?_⟩
  obtain ⟨i, hi, rfl⟩ := mem_tab hz
  have := cf.up i (i + 1) (by omega) (by omega)
  have := k i (by omega)
  omega
/-- What trace.Slots answers. -/
inductive SlotsIs (f : List Int) : List Int × Int → Prop
  | err (h : ¬ curveErr f = 0) : SlotsIs f ([], curveErr f)
  | form (h : curveErr f = 0) (h0 : gi f 0 ≠ 0) : SlotsIs f ([], 3)
  | large (h : curveErr f = 0) (h0 : gi f 0 = 0) (k : Nat) (hk : k + 1 < f.length) (k1 : 10000 < gi f (k + 1) - gi f k) (k2 : ∀ i, i < k → gi f (i + 1) - gi f i ≤ 10000) : SlotsIs f ([], 2)
  | ok (h : curveErr f = 0) (h0 : gi f 0 = 0) (k : ∀ i, i + 1 < f.length → gi f (i + 1) - gi f i ≤ 10000) : SlotsIs f (diffs f, 0)
theorem slotsIs_ex (f : List Int) : SlotsIs f ([], curveErr f) ∧ curveErr f ≠ 0 ∨ SlotsIs f ([], 3) ∨ SlotsIs f ([], 2) ∨ (SlotsIs f (diffs f, 0) ∧ curveErr f = 0 ∧ gi f 0 = 0 ∧ ∀ i, i + 1 < f.length → gi f (i + 1) - gi f i ≤ 10000) := by
  by_cases h : curveErr f = 0
  · by_cases h0 : gi f 0 = 0
    · have key : ∀ n, (∀ i, i < n → gi f (i + 1) - gi f i ≤ 10000) ∨ ∃ k, k < n ∧ (∀ i, i < k → gi f (i + 1) - gi f i ≤ 10000) ∧ 10000 < gi f (k + 1) - gi f k := by
        intro n
        induction n with
        | zero => exact .inl fun i hi => by omega
        | succ n ih =>
          rcases ih with k | ⟨k, k1, k2, k3⟩
          · by_cases hn : gi f (n + 1) - gi f n ≤ 10000
            · refine .inl fun i hi => ?_
              rcases Nat.lt_or_ge i n with h' | h'
              · exact k i h'
              · obtain rfl : i = n := by omega
                exact hn
            · exact .inr ⟨n, by omega, k, by omega⟩
          · exact .inr ⟨k, by omega, k2, k3⟩
      rcases key (f.length - 1) with k | ⟨k, k1, k2, k3⟩
      · exact .inr (.inr (.inr ⟨.ok h h0 fun i hi => k i (by omega), h, h0, fun i hi => k i (by omega)⟩))
      · exact .inr (.inr (.inl (.large h h0 k (by omega) k3 k2)))
    · exact .inr (.inl (.form h h0))
  · exact .inl ⟨.err h, h⟩
set_option maxHeartbeats 3200000 in
theorem slots_go (A : Option Addr) (n c : Nat) (f : List Int) (W : World) (hs : Sl W W.heap.size A n (ints f)) (h : curveErr f = 0) (h0 : gi f 0 = 0) (zs : List Int) (er : Int) (m : Nat) (hm : zs.length = m) (N : Nat) (good : ∀ i, i < N → gi f (i + 1) - gi f i ≤ 10000)
    (fin : (N + 1 = n ∧ zs = diffs f ∧ er = 0) ∨ (N + 1 < n ∧ 10000 < gi f (N + 1) - gi f N ∧ zs = [] ∧ er = 2)) :
    Calls Try.prog 55 #[.slice A n c] W (RetSl W m zs er) := by
  have hl := hs.int_len
  have cf := isC_of h
  rw [hl] at cf
  have hp := cf.pos
  have ht := cf.top
  have hN : N + 1 ≤ n := by rcases fin with h | h <;> omega
  have HL := Lib.hid hl
  have HM := Lib.hid hm
  have H := Lib.hid h
  have G := Lib.hid good
  have FIN := Lib.hid fin
  have CF := Lib.hid cf
  have hne : (gi f 0 != 0) = false := by simpa using h0
  have f0 : (0 : Int) < n := by omega
  clear h h0 hl cf good fin hm
  go_enter Try.func55, Try.ntmps55
  go_wp2_with fail
  refine (ccheck_any A n c f _ _ hs (by omega)).mono ?_
  rintro e w' ⟨rfl, rfl⟩
  rw [H.out]
  obtain ⟨b1, o1, rfl, q1, hc1⟩ := hs.int_at hp
  rw [Nat.add_zero] at hc1
  go_wp2_with fail
  clear hc1
  go_loopw [6, 5] (fun i v wr => ∃ j : Nat, 0 < j ∧ j ≤ N + 1 ∧ i = .int .i64 j ∧ wr.ownsRow W.heap.size 3 1 v (j - 1) (ints (tab (j - 1) fun i => gi f (i + 1) - gi f i)) ∧ Below W.heap.size W wr ∧ W.heap.size ≤ wr.heap.size) (fun i _ _ => N + 2 - (intOf i).toNat)
  case atStart => exact ⟨1, by omega, by omega, rfl, World.ownsRow_nil _ _ _ _, Below.refl _ _, Nat.le_refl _⟩
  case round =>
    obtain ⟨j, hj0, hj, rfl, hown, hb, hz⟩ := hrel
    have hm0 : (0 : Int) ≤ j := by omega
    have hm2 : (0 : Int) ≤ (j : Int) - 1 := by omega
    have hm4 : (1 : Int) ≤ j := by omega
    have hm5 : 1 ≤ j := by omega
    have f2 : IntKind.i64.wrap ((j : Int) - 1) = (j : Int) - 1 := IntWalk.i64_in _ ⟨by omega, by omega⟩
    have f3 : ((j : Int) - 1).toNat = j - 1 := by omega
    have f4 : 0 + ((j : Int) - 1).toNat = j - 1 := by omega
    have HB := Lib.hid hb
    have HO := Lib.hid hown
    by_cases hjn : j < n
    · have hm1 : (j : Int) < n := by omega
      have hm3 : (j : Int) - 1 < n := by omega
      have hc1 := (hs.below hb).int_cell (k := j) (by omega)
      have hc2 := (hs.below hb).int_cell (k := j - 1) (by omega)
      have a1 := CF.out.lo j (by omega)
      have a2 := CF.out.hi j (by omega)
      have a3 := CF.out.lo (j - 1) (by omega)
      have a4 := CF.out.hi (j - 1) (by omega)
      have f1 : IntKind.i64.wrap (gi f j - gi f (j - 1)) = gi f j - gi f (j - 1) := IntWalk.i64_in _ ⟨by omega, by omega⟩
      by_cases hlt : j < N + 1
      · have t1 : decide (10000 < gi f j - gi f (j - 1)) = false := by
          have := G.out (j - 1) (by omega)
          rw [show j - 1 + 1 = j by omega] at this
          simp; omega
        clear hown hb hs f4
        go_wp2_with fail
        go_quiet (fail)
        clear t1
        go_wp2_with fail
        generalize hw2 : wr.drewN nq = w2
        have d1 : w2.cell? ⟨b1, o1 + j, none⟩ = some (.int .i64 (gi f j)) := by rw [← hw2]; exact hc1
        have d2 : w2.cell? ⟨b1, o1 + (j - 1), none⟩ = some (.int .i64 (gi f (j - 1))) := by rw [← hw2]; exact hc2
        have O2 : Hid (w2.ownsRow W.heap.size 3 1 u5 (j - 1) (ints (tab (j - 1) fun i => gi f (i + 1) - gi f i))) := by rw [← hw2]; exact HO.out
        have B2 : Hid (Below W.heap.size W w2) := by rw [← hw2]; exact below_dr HB.out nq
        clear hw2 hc1 hc2 hz
        have Z2 : W.heap.size ≤ w2.heap.size := B2.out.size
        have hx0 : (0 : Int) ≤ gi f j - gi f (j - 1) ∨ True := .inr trivial
        go_region_law (first
          | (refine step_cat (by rfl) (.tmp 33) (.tmp 44) _ (by rfl) elemInt W.heap.size u5 (j - 1) _ (some ⟨w2.heap.size, 0, none⟩) 1 1 [.int .i64 (gi f j - gi f (j - 1))] (by rfl) (by rfl) (O2.out.alloc _) (by first | exact (B2.out.alloc Z2 _).drew | exact B2.out.drew.alloc Z2 _) (by simp; omega) (by rfl) (by intro h; cases h) (fun ad h i u hu => lit_cell w2 _ 3 ad h i u hu) (by intro u hu; simp at hu; subst hu; rfl) (by unfold maxLen; omega) (by omega) ?_; rintro v3 w3 hown3 hb3 hz3 -))
        all_goals
          have O3 := Lib.hid hown3
          have B3 := Lib.hid hb3
          clear hown3 hb3
          go_wp2_with fail
          go_roundw
          case rel =>
            refine ⟨j + 1, by omega, by omega, by go_num, ?_, B3.out, hz3⟩
            have h3 := O3.out
            have e1 := tab_push (j - 1) fun i => gi f (i + 1) - gi f i
            rw [show j - 1 + 1 = j by omega] at e1 h3
            rw [show j + 1 - 1 = j by omega, ← e1]
            exact h3
          case measure => simp [intOf]; omega
      · have hjN : Hid (j = N + 1) := by show j = N + 1; omega
        have t1 : decide (10000 < gi f j - gi f (j - 1)) = true := by
          rcases FIN.out with h | h
          · omega
          · have e := hjN.out; subst e; simp only [Nat.add_sub_cancel]; exact decide_eq_true h.2.1
        have hz0 : Hid (zs = [] ∧ er = 2) := by
          rcases FIN.out with h | h
          · omega
          · exact h.2.2
        clear hown hb hs f4
        go_wp2_with fail
        go_quiet (fail)
        go_wp2_with fail
        go_ret2
        obtain ⟨e1, e2⟩ := hz0.out
        have e3 := HM.out
        subst e1 e2
        subst e3
        exact ⟨none, 0, rfl, Sl.nil, Nat.le_refl _, below_dr HB.out _, World.ownsRow_nil _ _ _ _⟩
    · have hz0 : Hid (N + 1 = n ∧ zs = diffs f ∧ er = 0) := by
        rcases FIN.out with h | h
        · exact h
        · omega
      have hjn' : ¬ (j : Int) < n := by omega
      have hjN : Hid (j = N + 1) := by show j = N + 1; have := hz0.out.1; omega
      clear hown hb hs f4
      obtain ⟨A1, c1, rfl, hc1⟩ := own_form HO.out
      go_wp2_with fail
      go_ret2
      obtain ⟨e0, e1, e2⟩ := hz0.out
      have e3 := HM.out
      subst e1 e2
      rw [diffs_len, HL.out] at e3
      have e4 : j - 1 = m := by have := hjN.out; omega
      subst e4
      have := HO.out
      rw [show diffs f = tab (j - 1) fun i => gi f (i + 1) - gi f i by unfold diffs; rw [HL.out, e3]]
      exact ⟨A1, c1, rfl, Sl.of_own this, hc1, HB.out, this⟩
theorem slots_any (A : Option Addr) (n c : Nat) (f : List Int) (W : World) (hs : Sl W W.heap.size A n (ints f)) (hn : n ≤ 9223372036854775807) (zs : List Int) (er : Int) (m : Nat) (h : SlotsIs f (zs, er)) (hm : zs.length = m) :
    Calls Try.prog 55 #[.slice A n c] W (RetSl W m zs er) := by
  have hl := hs.int_len
  cases h with
  | err h =>
    subst hm
    have hne : (curveErr f != 0) = true := by simpa using h
    clear h hl
    go_enter Try.func55, Try.ntmps55
    go_wp2_with fail
    refine (ccheck_any A n c f _ _ hs hn).mono ?_
    rintro e w' ⟨rfl, rfl⟩
    clear hs
    go_wp2_with fail
    go_ret2
    exact ⟨none, 0, rfl, Sl.nil, Nat.le_refl _, Below.refl _ _, World.ownsRow_nil _ _ _ _⟩
  | form h h0 =>
    subst hm
    have cf := isC_of h
    rw [hl] at cf
    have hp := cf.pos
    have H := Lib.hid h
    have hne : (gi f 0 != 0) = true := by simpa using h0
    have f0 : (0 : Int) < n := by omega
    clear h h0 hl cf
    go_enter Try.func55, Try.ntmps55
    go_wp2_with fail
    refine (ccheck_any A n c f _ _ hs hn).mono ?_
    rintro e w' ⟨rfl, rfl⟩
    rw [H.out]
    obtain ⟨b1, o1, rfl, q1, hc1⟩ := hs.int_at hp
    rw [Nat.add_zero] at hc1
    clear hs
    go_wp2_with fail
    go_ret2
    exact ⟨none, 0, rfl, Sl.nil, Nat.le_refl _, Below.refl _ _, World.ownsRow_nil _ _ _ _⟩
  | large h h0 k hk k1 k2 => exact slots_go A n c f W hs h h0 _ _ _ hm k k2 (.inr ⟨by omega, k1, rfl, rfl⟩)
  | ok h h0 k => exact slots_go A n c f W hs h h0 _ _ _ hm (n - 1) (fun i hi => k i (by omega)) (.inl ⟨by have := (isC_of h).pos; omega, rfl, rfl⟩)
end Go.Proofs.Ytpifknmoimlpoaa
