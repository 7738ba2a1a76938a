/- edf.Check, edf.Fits. -/
import Derived.Test.YtigekbidbeilnaaElems
import Derived.Test.YtigekbidbeilnaaOpen3
set_option linter.unusedVariables false
namespace Go.Proofs.Ytigekbidbeilnaa
open Go.RowKit
def jobOk (zs : List Int) (i : Nat) : Prop := 0 ≤ fd zs i 0 ∧ fd zs i 0 < fd zs i 2 ∧ fd zs i 2 ≤ 200 ∧ 1 ≤ fd zs i 1 ∧ fd zs i 1 ≤ 200
instance (zs : List Int) (i : Nat) : Decidable (jobOk zs i) := by unfold jobOk; infer_instance
def edfOk (zs : List Int) (n : Nat) : Prop := n ≤ 12 ∧ ∀ i, i < n → jobOk zs i
instance (zs : List Int) (n : Nat) : Decidable (edfOk zs n) := by unfold edfOk; infer_instance
def edfErr (n : Nat) : Int := if 12 < n then 2 else 1
theorem edfErr_ne (n : Nat) : (edfErr n != 0) = true := by unfold edfErr; split <;> rfl
theorem echeck_ok (A : Option Addr) (n c : Nat) (zs : List Int) (W : World) (h : edfOk zs n) (hs : Sl W W.heap.size A (n * 3) (ints zs)) :
    Calls Try.prog 19 #[.slice A n c] W fun e w' => e = .returned (.int .i64 0) ∧ Below W.heap.size W w' := by
  obtain ⟨h1, h2⟩ := h
  have g1 : ¬ (12 < (n : Int)) := by omega
  have H2 := Lib.hid h2
  clear h2
  go_enter Try.func19, Try.ntmps19
  go_wp2_with fail
  go_loopw [10, 4] (fun i _ wr => ∃ k : Nat, k ≤ n ∧ i = .int .i64 k ∧ Below W.heap.size W wr) (fun i _ _ => n - (intOf i).toNat)
  case atStart => exact ⟨0, Nat.zero_le _, rfl, Below.refl _ _⟩
  case round =>
    obtain ⟨k, hk, rfl, hb⟩ := hrel
    have HB := Lib.hid hb
    by_cases hlt : k < n
    · obtain ⟨b, off, rfl, hbl, -⟩ := hs.int_at (k := k * 3) (by omega)
      obtain ⟨c0, c1, c2⟩ := (hs.below hb).three hlt
      obtain ⟨y0, y1, y2, y3, y4⟩ := H2.out k hlt
      have hn1 : (k : Int) < n := by omega
      have hk0 : (0 : Int) ≤ k := by omega
      have hz := hb.size
      clear hs hb
      go_wp2_with fail
      go_roundw
      case rel => exact ⟨k + 1, by omega, by go_num, HB.out.alloc hz _⟩
      case measure => simp [intOf]; omega
    · have hn1 : ¬ (k : Int) < n := by omega
      clear hs hb
      go_wp2_with fail
      go_ret
      exact ⟨rfl, HB.out⟩
theorem echeck_bad (A : Option Addr) (n c : Nat) (zs : List Int) (W : World) (h : ¬ edfOk zs n) (hs : Sl W W.heap.size A (n * 3) (ints zs)) (hnn : n ≤ 9223372036854775807) :
    Calls Try.prog 19 #[.slice A n c] W fun e w' => e = .returned (.int .i64 (edfErr n)) ∧ Below W.heap.size W w' := by
  by_cases h8 : 12 < n
  · have hf : Hid (edfErr n = 2) := by unfold edfErr; rw [if_pos h8]; rfl
    have g1 : 12 < (n : Int) := by omega
    clear h hs
    go_enter Try.func19, Try.ntmps19
    go_wp2_with fail
    go_ret
    exact ⟨ret_int hf.out.symm, Below.refl _ _⟩
  · have hf : Hid (edfErr n = 1) := by unfold edfErr; rw [if_neg h8]; rfl
    have g1 : ¬ 12 < (n : Int) := by omega
    rcases first_bad3 (jobOk zs) n with hall | ⟨k, k1, k3, k2⟩
    · exact absurd ⟨by omega, hall⟩ h
    · have H3 := Lib.hid k3
      have K2 := Lib.hid k2
      clear h k3 k2
      go_enter Try.func19, Try.ntmps19
      go_wp2_with fail
      go_loopw [10, 4] (fun i _ wr => ∃ j : Nat, j ≤ k ∧ i = .int .i64 j ∧ Below W.heap.size W wr) (fun i _ _ => k - (intOf i).toNat)
      case atStart => exact ⟨0, Nat.zero_le _, rfl, Below.refl _ _⟩
      case round =>
        obtain ⟨j, hj, rfl, hb⟩ := hrel
        have HB := Lib.hid hb
        obtain ⟨b, off, rfl, hbl, -⟩ := hs.int_at (k := j * 3) (by omega)
        obtain ⟨c0, c1, c2⟩ := (hs.below hb).three (k := j) (by omega)
        have hn1 : (j : Int) < n := by omega
        have hk0 : (0 : Int) ≤ j := by omega
        have hz := hb.size
        by_cases hlt : j < k
        · obtain ⟨y0, y1, y2, y3, y4⟩ := H3.out j hlt
          clear hs hb
          go_wp2_with fail
          go_roundw
          case rel => exact ⟨j + 1, by omega, by go_num, HB.out.alloc hz _⟩
          case measure => simp [intOf]; omega
        · have hjk : j = k := by omega
          subst hjk
          have k4 := K2.out
          have hcase : fd zs j 0 < 0 ∨ (0 ≤ fd zs j 0 ∧ fd zs j 2 ≤ fd zs j 0) ∨ (0 ≤ fd zs j 0 ∧ fd zs j 0 < fd zs j 2 ∧ 200 < fd zs j 2) ∨ (0 ≤ fd zs j 0 ∧ fd zs j 0 < fd zs j 2 ∧ fd zs j 2 ≤ 200 ∧ fd zs j 1 < 1) ∨ (0 ≤ fd zs j 0 ∧ fd zs j 0 < fd zs j 2 ∧ fd zs j 2 ≤ 200 ∧ 1 ≤ fd zs j 1 ∧ 200 < fd zs j 1) := by
            unfold jobOk at k4; omega
          clear hs hb k4
          rcases hcase with h | ⟨h1, h⟩ | ⟨h1, h2, h⟩ | ⟨h1, h2, h3, h⟩ | ⟨h1, h2, h3, h4, h⟩
          all_goals
            go_wp2_with fail
            go_ret
            exact ⟨ret_int hf.out.symm, HB.out.alloc hz _⟩
/-- What the first k jobs within [x, y] take. -/
def dem (zs : List Int) (x y : Int) : Nat → Int
  | 0 => 0
  | k + 1 => if x ≤ fd zs k 0 ∧ fd zs k 2 ≤ y then dem zs x y k + fd zs k 1 else dem zs x y k
theorem dem_succ (zs : List Int) (x y : Int) (k : Nat) : dem zs x y (k + 1) = if x ≤ fd zs k 0 ∧ fd zs k 2 ≤ y then dem zs x y k + fd zs k 1 else dem zs x y k := rfl
theorem dem_bd {zs : List Int} {n : Nat} (h : edfOk zs n) (x y : Int) (k : Nat) (hk : k ≤ n) : 0 ≤ dem zs x y k ∧ dem zs x y k ≤ 200 * k := by
  induction k with
  | zero => exact ⟨Int.le_refl _, by simp [dem]⟩
  | succ k ih =>
    have a := ih (by omega)
    obtain ⟨t0, t1, t2, t3, t4⟩ := h.2 k (by omega)
    rw [dem_succ]
    split <;> omega
def pairE (zs : List Int) (n a b : Nat) : Prop := fd zs a 0 < fd zs b 2 → dem zs (fd zs a 0) (fd zs b 2) n ≤ fd zs b 2 - fd zs a 0
def fitsE (zs : List Int) (n : Nat) : Prop := ∀ a, a < n → ∀ b, b < n → pairE zs n a b
instance (zs : List Int) (n a b : Nat) : Decidable (pairE zs n a b) := by unfold pairE; infer_instance
instance (zs : List Int) (n : Nat) : Decidable (fitsE zs n) := by unfold fitsE; infer_instance
/-- Three numbers at block g. -/
structure Tri (w : World) (g : Nat) (x y z : Int) : Prop where
  c0 : w.cell? ⟨g, 0, none⟩ = some (.int .i64 x)
  c1 : w.cell? ⟨g, 1, none⟩ = some (.int .i64 y)
  c2 : w.cell? ⟨g, 2, none⟩ = some (.int .i64 z)
  lt : g < w.heap.size
theorem Tri.new (w : World) (x y z : Int) (t : TypeId) : Tri (w.alloc (.cells #[.int .i64 x, .int .i64 y, .int .i64 z] t)) w.heap.size x y z :=
  ⟨World.cell?_alloc_at _ _ _ _ rfl, World.cell?_alloc_at _ _ _ _ rfl, World.cell?_alloc_at _ _ _ _ rfl, by simp⟩
theorem Tri.alloc {w : World} {g : Nat} {x y z : Int} (h : Tri w g x y z) (o : Obj) : Tri (w.alloc o) g x y z :=
  ⟨(World.cell?_alloc_lt _ _ _ h.lt).trans h.c0, (World.cell?_alloc_lt _ _ _ h.lt).trans h.c1, (World.cell?_alloc_lt _ _ _ h.lt).trans h.c2, by have := h.lt; simp; omega⟩
set_option maxHeartbeats 6400000 in
theorem efits_ok (A : Option Addr) (n c : Nat) (zs : List Int) (W : World) (h : edfOk zs n) (hs : Sl W W.heap.size A (n * 3) (ints zs)) (v : Bool) (hv : v = true ↔ fitsE zs n) :
    Calls Try.prog 13 #[.slice A n c] W fun e w' => e = .returned (.tuple #[.bool v, .int .i64 0]) ∧ Below W.heap.size W w' := by
  have OK := Lib.hid h
  have HV := Lib.hid hv
  have n5 := h.1
  have HS := Lib.hid hs
  clear h hv
  go_enter Try.func13, Try.ntmps13
  go_wp2_with fail
  refine (echeck_ok A n c zs _ OK.out hs).mono ?_
  rintro e w1 ⟨rfl, b1⟩
  have B1 := Lib.hid b1
  clear hs b1
  go_wp2_with fail
  go_loopw [19, 6, 8, 9, 11] (fun i _ _ _ _ wr => ∃ a : Nat, a ≤ n ∧ i = .int .i64 a ∧ Hid (∀ p, p < a → ∀ q, q < n → pairE zs n p q) ∧ Below W.heap.size W wr) (fun i _ _ _ _ _ => n - (intOf i).toNat)
  case atStart => exact ⟨0, Nat.zero_le _, rfl, Lib.hid (fun p hp => by omega), B1.out⟩
  case round =>
    obtain ⟨a, ha, rfl, hpa, hb⟩ := hrel
    have HB := Lib.hid hb
    have ha0 : (0 : Int) ≤ a := by omega
    by_cases hlt : a < n
    · obtain ⟨b, off, hA, hbl, -⟩ := HS.out.int_at (k := a * 3) (by omega)
      subst hA
      obtain ⟨c0, c1, c2⟩ := (HS.out.below hb).three hlt
      have hn1 : (a : Int) < n := by omega
      have hz := hb.size
      have TA := Lib.hid (Tri.new wr (fd zs a 0) (fd zs a 1) (fd zs a 2) 28)
      clear hb
      go_wp2_with fail
      clear c0 c1 c2
      generalize hga : wr.heap.size = ga at *
      go_loopw [25, 8, 9, 11] (fun i _ _ _ w2 => ∃ q : Nat, q ≤ n ∧ i = .int .i64 q ∧ Hid (∀ p, p < q → pairE zs n a p) ∧ Tri w2 ga (fd zs a 0) (fd zs a 1) (fd zs a 2) ∧ Below W.heap.size W w2) (fun i _ _ _ _ => n - (intOf i).toNat)
      case atStart => exact ⟨0, Nat.zero_le _, rfl, Lib.hid (fun p hp => by omega), TA.out, HB.out.alloc (by omega) _⟩
      case round =>
        obtain ⟨q, hq, rfl, hpq, ta, hb⟩ := hrel
        have HB2 := Lib.hid hb
        have hq0 : (0 : Int) ≤ q := by omega
        by_cases hlt2 : q < n
        · obtain ⟨c0, c1, c2⟩ := (HS.out.below hb).three hlt2
          have hn2 : (q : Int) < n := by omega
          have hz2 := hb.size
          have TB := Lib.hid (Tri.new wr (fd zs q 0) (fd zs q 1) (fd zs q 2) 28)
          have TA2 := Lib.hid (ta.alloc (.cells #[.int .i64 (fd zs q 0), .int .i64 (fd zs q 1), .int .i64 (fd zs q 2)] 28))
          clear hb ta
          go_wp2_with fail
          clear c0 c1 c2
          generalize hgb : wr.heap.size = gb at *
          go_loopw [31, 9, 11] (fun i s _ w3 => ∃ k : Nat, k ≤ n ∧ i = .int .i64 k ∧ s = .int .i64 (dem zs (fd zs a 0) (fd zs q 2) k) ∧ Tri w3 ga (fd zs a 0) (fd zs a 1) (fd zs a 2) ∧ Tri w3 gb (fd zs q 0) (fd zs q 1) (fd zs q 2) ∧ Below W.heap.size W w3) (fun i _ _ _ => n - (intOf i).toNat)
          case atStart => exact ⟨0, Nat.zero_le _, rfl, rfl, TA2.out, TB.out, HB2.out.alloc (by omega) _⟩
          case round =>
            obtain ⟨k, hk, rfl, rfl, ta, tb, hb⟩ := hrel
            have HB3 := Lib.hid hb
            have hk0 : (0 : Int) ≤ k := by omega
            by_cases hlt3 : k < n
            · obtain ⟨c0, c1, c2⟩ := (HS.out.below hb).three hlt3
              have hn3 : (k : Int) < n := by omega
              have hz3 := hb.size
              have TA3 := Lib.hid (ta.alloc (.cells #[.int .i64 (fd zs k 0), .int .i64 (fd zs k 1), .int .i64 (fd zs k 2)] 28))
              have TB3 := Lib.hid (tb.alloc (.cells #[.int .i64 (fd zs k 0), .int .i64 (fd zs k 1), .int .i64 (fd zs k 2)] 28))
              obtain ⟨x0, x1, x2, x3⟩ := ta.alloc (.cells #[.int .i64 (fd zs k 0), .int .i64 (fd zs k 1), .int .i64 (fd zs k 2)] 28)
              obtain ⟨y0, y1, y2, y3⟩ := tb.alloc (.cells #[.int .i64 (fd zs k 0), .int .i64 (fd zs k 1), .int .i64 (fd zs k 2)] 28)
              obtain ⟨p0, p1, p2, p3, p4⟩ := OK.out.2 k hlt3
              have db := dem_bd OK.out (fd zs a 0) (fd zs q 2) k (by omega)
              have DS := Lib.hid (dem_succ zs (fd zs a 0) (fd zs q 2) k)
              obtain ⟨s, hs⟩ : ∃ s, dem zs (fd zs a 0) (fd zs q 2) k = s := ⟨_, rfl⟩
              have HSS := Lib.hid hs
              rw [hs] at db ⊢
              clear hb ta tb hs
              by_cases h1 : fd zs a 0 ≤ fd zs k 0
              · by_cases h2 : fd zs k 2 ≤ fd zs q 2
                · have N : Hid (dem zs (fd zs a 0) (fd zs q 2) (k + 1) = s + fd zs k 1) := by show _ = _; rw [DS.out, if_pos ⟨h1, h2⟩, HSS.out]
                  go_wp2_with fail
                  go_roundw
                  case rel => exact ⟨k + 1, by omega, by go_num, by rw [N.out], TA3.out, TB3.out, HB3.out.alloc hz3 _⟩
                  case measure => simp [intOf]; omega
                · have N : Hid (dem zs (fd zs a 0) (fd zs q 2) (k + 1) = s) := by show _ = _; rw [DS.out, if_neg (fun h => h2 h.2), HSS.out]
                  go_wp2_with fail
                  go_roundw
                  case rel => exact ⟨k + 1, by omega, by go_num, by rw [N.out], TA3.out, TB3.out, HB3.out.alloc hz3 _⟩
                  case measure => simp [intOf]; omega
              · have N : Hid (dem zs (fd zs a 0) (fd zs q 2) (k + 1) = s) := by show _ = _; rw [DS.out, if_neg (fun h => h1 h.1), HSS.out]
                go_wp2_with fail
                go_roundw
                case rel => exact ⟨k + 1, by omega, by go_num, by rw [N.out], TA3.out, TB3.out, HB3.out.alloc hz3 _⟩
                case measure => simp [intOf]; omega
            · have hkn : k = n := by omega
              subst hkn
              have hn3 : ¬ (k : Int) < k := by omega
              have db := dem_bd OK.out (fd zs a 0) (fd zs q 2) k (Nat.le_refl _)
              have TA3 := Lib.hid ta
              obtain ⟨x0, x1, x2, x3⟩ := ta
              obtain ⟨y0, y1, y2, y3⟩ := tb
              obtain ⟨p0, p1, p2, p3, p4⟩ := OK.out.2 a hlt
              obtain ⟨r0, r1, r2, r3, r4⟩ := OK.out.2 q hlt2
              have PE : Hid (pairE zs k a q ↔ (fd zs a 0 < fd zs q 2 → dem zs (fd zs a 0) (fd zs q 2) k ≤ fd zs q 2 - fd zs a 0)) := Iff.rfl
              obtain ⟨s, hs⟩ : ∃ s, dem zs (fd zs a 0) (fd zs q 2) k = s := ⟨_, rfl⟩
              rw [hs] at db PE ⊢
              clear hb hs
              by_cases h1 : fd zs a 0 < fd zs q 2
              · by_cases h2 : fd zs q 2 - fd zs a 0 < s
                · have ev : Hid (v = false) := Bool.eq_false_iff.2 fun hv => by have := PE.out.1 (HV.out.1 hv a hlt q hlt2) h1; omega
                  go_wp2_with fail
                  go_ret2
                  exact ⟨by rw [ev.out]; rfl, HB3.out⟩
                · have N : Hid (pairE zs k a q) := PE.out.2 fun _ => by omega
                  have h2' : s ≤ fd zs q 2 - fd zs a 0 := by omega
                  go_wp2_with fail
                  go_roundw
                  case rel =>
                    refine ⟨q + 1, by omega, by go_num, Lib.hid fun p hp => ?_, TA3.out, HB3.out⟩
                    rcases Nat.lt_or_ge p q with h | h
                    · exact hpq.out p h
                    · obtain rfl : p = q := by omega
                      exact N.out
                  case measure => simp [intOf]; omega
              · have N : Hid (pairE zs k a q) := PE.out.2 fun h => absurd h h1
                go_wp2_with fail
                go_roundw
                case rel =>
                  refine ⟨q + 1, by omega, by go_num, Lib.hid fun p hp => ?_, TA3.out, HB3.out⟩
                  rcases Nat.lt_or_ge p q with h | h
                  · exact hpq.out p h
                  · obtain rfl : p = q := by omega
                    exact N.out
                case measure => simp [intOf]; omega
        · have hqn : q = n := by omega
          subst hqn
          have hn2 : ¬ (q : Int) < q := by omega
          clear hb ta
          go_wp2_with fail
          go_roundw
          case rel =>
            refine ⟨a + 1, by omega, by go_num, Lib.hid fun p hp => ?_, HB2.out⟩
            rcases Nat.lt_or_ge p a with h | h
            · exact hpa.out p h
            · obtain rfl : p = a := by omega
              exact hpq.out
          case measure => simp [intOf]; omega
    · have han : a = n := by omega
      subst han
      have hn1 : ¬ (a : Int) < a := by omega
      have ev : Hid (v = true) := HV.out.2 hpa.out
      clear hb
      go_wp2_with fail
      go_ret2
      exact ⟨by rw [ev.out]; rfl, HB.out⟩
theorem efits_bad (A : Option Addr) (n c : Nat) (zs : List Int) (W : World) (h : ¬ edfOk zs n) (hs : Sl W W.heap.size A (n * 3) (ints zs)) (hnn : n ≤ 9223372036854775807) :
    Calls Try.prog 13 #[.slice A n c] W fun e w' => e = .returned (.tuple #[.bool false, .int .i64 (edfErr n)]) ∧ Below W.heap.size W w' := by
  have hne := edfErr_ne n
  have H := Lib.hid h
  clear h
  go_enter Try.func13, Try.ntmps13
  go_wp2_with fail
  refine (echeck_bad A n c zs _ H.out hs hnn).mono ?_
  rintro e w1 ⟨rfl, b1⟩
  clear hs
  go_wp2_with fail
  go_ret2
  exact ⟨rfl, b1⟩
end Go.Proofs.Ytigekbidbeilnaa
