/- TopBucket: traffic that passes a token bucket conforms to its curve, and backlog and delay on a subsequent link are within the computed bounds. -/
import Derived.Test.YtidmncoakockkaaTopA
import Derived.Test.YtidmncoakockkaaBucketP
import Derived.Test.YtidmncoakockkaaTraceA
import Derived.Test.YtidmncoakockkaaSlotsA
import Derived.Test.YtidmncoakockkaaShapeA
import Derived.Test.YtidmncoakockkaaShapeP
import Derived.Test.YtidmncoakockkaaBoundA
import Derived.Test.YtidmncoakockkaaLineK
import Derived.Test.YtidmncoakockkaaOwn2
import Derived.StillTailTactics
set_option linter.unusedVariables false
namespace Go.Proofs.Ytidmncoakockkaa
open Go.RowKit
/-- What passes of the first k packets at time t. -/
def aT (ps : Nat → Bool) (zs : List Int) : Nat → Nat → Int
  | 0, _ => 0
  | k + 1, t => if ps k = true ∧ fd zs k 0 = t then aT ps zs k t + fd zs k 1 else aT ps zs k t
theorem aT_succ (ps : Nat → Bool) (zs : List Int) (k t : Nat) : aT ps zs (k + 1) t = if ps k = true ∧ fd zs k 0 = t then aT ps zs k t + fd zs k 1 else aT ps zs k t := rfl
/-- What passes of the first k packets within [s, t). -/
def wT (ps : Nat → Bool) (zs : List Int) (s t : Int) : Nat → Int
  | 0 => 0
  | k + 1 => if ps k = true ∧ s ≤ fd zs k 0 ∧ fd zs k 0 < t then wT ps zs s t k + fd zs k 1 else wT ps zs s t k
theorem wT_succ (ps : Nat → Bool) (zs : List Int) (s t : Int) (k : Nat) : wT ps zs s t (k + 1) = if ps k = true ∧ s ≤ fd zs k 0 ∧ fd zs k 0 < t then wT ps zs s t k + fd zs k 1 else wT ps zs s t k := rfl
theorem aT_bd {ps : Nat → Bool} {zs : List Int} {n : Nat} (h : Packs zs n) (k t : Nat) (hk : k ≤ n) : 0 ≤ aT ps zs k t ∧ aT ps zs k t ≤ 1000 * k := by
  induction k with
  | zero => exact ⟨Int.le_refl _, by simp [aT]⟩
  | succ k ih =>
    have a := ih (by omega)
    have c := h.sz k (by omega)
    rw [aT_succ]
    split <;> omega
theorem wT_step (ps : Nat → Bool) (zs : List Int) (s t : Nat) (hst : s ≤ t) (k : Nat) : wT ps zs s ((t + 1 : Nat) : Int) k = wT ps zs s t k + aT ps zs k t := by
  induction k with
  | zero => rfl
  | succ k ih =>
    rw [wT_succ, wT_succ, aT_succ]
    have e : ((t + 1 : Nat) : Int) = (t : Int) + 1 := by omega
    by_cases hp : ps k = true
    · by_cases h1 : fd zs k 0 = t
      · rw [if_pos ⟨hp, by omega, by omega⟩, if_neg (by omega), if_pos ⟨hp, h1⟩, ih]; omega
      · rw [if_neg (show ¬ (ps k = true ∧ fd zs k 0 = t) from fun h => h1 h.2)]
        by_cases h2 : (s : Int) ≤ fd zs k 0 ∧ fd zs k 0 < t
        · rw [if_pos ⟨hp, by omega, by omega⟩, if_pos ⟨hp, h2⟩, ih]; omega
        · rw [if_neg (by omega), if_neg (fun h => h2 h.2), ih]
    · rw [if_neg (fun h => hp h.1), if_neg (fun h => hp h.1), if_neg (fun h => hp h.1), ih]
theorem wT_none (ps : Nat → Bool) (zs : List Int) (s : Int) (k : Nat) : wT ps zs s s k = 0 := by
  induction k with
  | zero => rfl
  | succ k ih => rw [wT_succ, if_neg (by omega), ih]
theorem psum_wT (ps : Nat → Bool) (zs : List Int) (n s d : Nat) (hd : s + d ≤ 60) : psum (tab 60 (aT ps zs n)) (s + d) = psum (tab 60 (aT ps zs n)) s + wT ps zs s ((s + d : Nat) : Int) n := by
  induction d with
  | zero => rw [Nat.add_zero, wT_none]; omega
  | succ d ih =>
    rw [show s + (d + 1) = (s + d) + 1 from rfl, psum_succ, ih (by omega), wT_step ps zs s (s + d) (by omega), tab_get _ (by omega)]
    omega
theorem pSent_mono {R B F : Int} {zs : List Int} {n : Nat} (h : Packs zs n) (i d : Nat) (hd : i + d < n) : pSent R B F zs i d ≤ pSent R B F zs i (d + 1) := by
  have := h.sz (i + d) hd
  rw [pSent_succ]
  split <;> omega
theorem wT_sent {R B F : Int} {zs : List Int} {n : Nat} (h : Packs zs n) (s t : Int) (k : Nat) (hk : k ≤ n) : wT (bpass R B F zs) zs s t k = 0 ∨ ∃ i d, i + d < k ∧ s ≤ fd zs i 0 ∧ fd zs (i + d) 0 < t ∧ wT (bpass R B F zs) zs s t k ≤ pSent R B F zs i (d + 1) ∧ (∀ e, i + d + e < k → wT (bpass R B F zs) zs s t k ≤ pSent R B F zs i (d + e + 1)) := by
  induction k with
  | zero => exact .inl rfl
  | succ k ih =>
    have c := h.sz k (by omega)
    rw [wT_succ]
    by_cases hin : bpass R B F zs k = true ∧ s ≤ fd zs k 0 ∧ fd zs k 0 < t
    · rw [if_pos hin]
      right
      rcases ih (by omega) with h0 | ⟨i, d, h1, h2, h3, h4, h5⟩
      · refine ⟨k, 0, by omega, hin.2.1, hin.2.2, ?_, fun e he => ?_⟩
        · rw [h0, pSent_succ, Nat.add_zero, if_pos hin.1]; simp [pSent]
        · obtain rfl : e = 0 := by omega
          rw [h0, pSent_succ, if_pos (by simpa using hin.1)]; simp [pSent]
      · have e := h5 (k - 1 - (i + d)) (by omega)
        have key : wT (bpass R B F zs) zs s t k + fd zs k 1 ≤ pSent R B F zs i (k - i + 1) := by
          rw [pSent_succ, show i + (k - i) = k by omega, if_pos hin.1, show k - i = d + (k - 1 - (i + d)) + 1 by omega]
          omega
        refine ⟨i, k - i, by omega, h2, by rw [show i + (k - i) = k by omega]; exact hin.2.2, key, fun e he => ?_⟩
        obtain rfl : e = 0 := by omega
        exact key
    · rw [if_neg hin]
      rcases ih (by omega) with h0 | ⟨i, d, h1, h2, h3, h4, h5⟩
      · exact .inl h0
      · refine .inr ⟨i, d, by omega, h2, h3, h4, fun e he => ?_⟩
        rcases Nat.lt_or_ge (i + d + e) k with h' | h'
        · exact h5 e h'
        · rcases Nat.eq_zero_or_pos e with rfl | hp
          · exact h4
          · have a := h5 (e - 1) (by omega)
            have b := pSent_mono (R := R) (B := B) (F := F) h i (d + e) (by omega)
            rw [show d + (e - 1) + 1 = d + e by omega] at a
            omega
theorem win_le {R B F : Int} {zs : List Int} {n : Nat} (h : Packs zs n) (hb : bktOk R B F) (s d : Nat) : wT (bpass R B F zs) zs s ((s + d : Nat) : Int) n ≤ bktU R B d := by
  obtain ⟨k1, k2, k3, k4, k5, k6⟩ := hb
  rcases Nat.eq_zero_or_pos d with rfl | hd
  · rw [Nat.add_zero, wT_none, bkt_zero]; omega
  · rw [bkt_pos R B hd]
    have m0 := Int.mul_nonneg k1 (show (0 : Int) ≤ d by omega)
    rcases wT_sent (R := R) (B := B) (F := F) h s ((s + d : Nat) : Int) n (Nat.le_refl _) with h0 | ⟨i, e, h1, h2, h3, h4, -⟩
    · omega
    · have p := pass_fits h ⟨k1, k2, k3, k4, k5, k6⟩ i e h1
      have m := Int.mul_le_mul_of_nonneg_left (show fd zs (i + e) 0 - fd zs i 0 ≤ (d : Int) by omega) k1
      omega
theorem bfit {R B F : Int} {zs : List Int} {n : Nat} (h : Packs zs n) (hb : bktOk R B F) : fitB 61 (cumul (tab 60 (aT (bpass R B F zs) zs n))) (tab 61 (bktU R B)) = true := by
  refine decide_eq_true fun t ht s hs => ?_
  rw [cumul_get (by rw [tab_len]; omega), cumul_get (by rw [tab_len]; omega), tab_get _ (by omega)]
  have e := psum_wT (bpass R B F zs) zs n s (t - s) (by omega)
  rw [show s + (t - s) = t by omega] at e
  have w := win_le h hb s (t - s)
  rw [show s + (t - s) = t by omega] at w
  omega
/-- What waits on a line is within the bound. -/
theorem wait_le {n : Nat} {l a : List Int} {r : Int} (hl : IsC (n + 1) l) (hs : lineOk a r) (hn : a.length = n) (hf : fitP (n + 1) (gi (cumul a)) (gi l)) {t : Nat} (ht : t < n) :
    lbuf a r (t + 1) ≤ top (fun i => gi l i - gi (tab (n + 1) (linU r 0)) i) (n + 1) := by
  have a1 := psum_line (a := a) (r := r) n (t + 1) (by omega)
  rw [dep_conv hs n (t + 1) (by omega)] at a1
  obtain ⟨u, hu, e⟩ := cv_ex (psum a) (fun t => r * (t : Int)) (t + 1)
  have b := hf (t + 1) (by omega) u hu
  rw [cumul_get (by omega), cumul_get (by omega)] at b
  have d : gi l (t + 1 - u) - gi (tab (n + 1) (linU r 0)) (t + 1 - u) ≤ top (fun i => gi l i - gi (tab (n + 1) (linU r 0)) i) (n + 1) := le_top (fun i => gi l i - gi (tab (n + 1) (linU r 0)) i) (by omega)
  rw [tab_get _ (show t + 1 - u < n + 1 by omega)] at d
  have e2 : linU r 0 (t + 1 - u) = r * ((t + 1 - u : Nat) : Int) := by
    unfold linU mx
    split
    · simp
    · rename_i h2; rw [show ((t + 1 - u : Nat) : Int) = 0 by omega]
  rw [e2] at d
  try simp only at e
  omega
set_option maxRecDepth 100000 in
set_option maxHeartbeats 20000000 in
theorem topBucket_walk (R B F : Int) (A : Option Addr) (n c : Nat) (zs : List Int) (r : Int) (W : World) (w0 : In3 W A n c zs) (w_r : -9223372036854775808 ≤ r ∧ r ≤ 9223372036854775807) :
    Calls Try.prog 5 #[.agg #[.int .i64 R, .int .i64 B, .int .i64 F], .slice A n c, .int .i64 r] W fun e w' => e = .returned (.bool true) ∧ Below W.heap.size W w' := by
  obtain ⟨s0, l0, r0, _⟩ := w0
  go_enter Try.func5, Try.ntmps5
  by_cases hb : bktOk R B F
  case neg =>
    have HB := Lib.hid hb
    clear hb
    go_wp2_with fail
    refine (brun_arg R B F A n c zs _ HB.out).mono ?_
    rintro e w1 ⟨A1, c1, rfl, s1, l1, bb1⟩
    have b1 := belLit1 (Below.refl W.heap.size W) bb1
    clear s0 s1 bb1
    go_wp2_with fail
    refine (begun_any _ (true) (rfl)).mono ?_
    rintro e w2 ⟨rfl, bb2⟩
    have b2 := belLit0 b1 bb2
    clear b1 bb2
    go_wp2_with fail
    refine (begun_any _ (true) (rfl)).mono ?_
    rintro e w3 ⟨rfl, bb3⟩
    have b3 := belLit0 b2 bb3
    clear b2 bb3
    go_wp2_with fail
    go_ret
    exact ⟨rfl, b3⟩
  by_cases h0 : packErr zs n = 0
  case neg =>
    have hne : (packErr zs n != 0) = true := by simpa using h0
    have H0 := Lib.hid h0
    have HB := Lib.hid hb
    clear h0 hb
    go_wp2_with fail
    refine (brun_bad R B F A n c zs _ (slMore s0 _) (by omega) HB.out H0.out).mono ?_
    rintro e w1 ⟨A1, c1, rfl, s1, l1, bb1⟩
    have b1 := belLit1 (Below.refl W.heap.size W) bb1
    clear s0 s1 bb1
    go_wp2_with fail
    refine (begun_any _ (true) (rfl)).mono ?_
    rintro e w2 ⟨rfl, bb2⟩
    have b2 := belLit0 b1 bb2
    clear b1 bb2
    go_wp2_with fail
    refine (begun_any _ (true) (rfl)).mono ?_
    rintro e w3 ⟨rfl, bb3⟩
    have b3 := belLit0 b2 bb3
    clear b2 bb3
    go_wp2_with fail
    go_ret
    exact ⟨rfl, b3⟩
  have P := Lib.hid (packs_of h0)
  have H0 := Lib.hid h0
  have HB := Lib.hid hb
  have n60 := P.out.top
  obtain ⟨k1, k2, k3, k4, k5, k6⟩ := hb
  clear h0
  have hnn : ((n : Int) != n) = false := by simp
  have hnn2 : ((n : Int) == n) = true := by simp
  go_wp2_with fail
  refine (brun_ok R B F A n c zs _ (slMore s0 _) (by omega) HB.out H0.out).mono ?_
  rintro e w1 ⟨A1, c1, rfl, s1, l1, bb1⟩
  have b1 := belLit1 (Below.refl W.heap.size W) bb1
  replace s0 := slLit1 s0 bb1
  obtain ⟨x1, g1⟩ := BBox.lit0 (g := W.heap.size) (R := R) (B := B) (F := F) (w := W.alloc (.cells #[.int .i64 R, .int .i64 B, .int .i64 F] 42)) ⟨World.cell?_alloc_at _ _ _ _ rfl, World.cell?_alloc_at _ _ _ _ rfl, World.cell?_alloc_at _ _ _ _ rfl, fun q => by simp [go_sem]⟩ (by simp) bb1
  clear bb1
  go_wp2_with fail
  refine (begun_any _ (true) (rfl)).mono ?_
  rintro e w2 ⟨rfl, bb2⟩
  have b2 := belLit0 b1 bb2
  replace s0 := slLit0 s0 bb2
  replace s1 := slLit0 s1 bb2
  obtain ⟨x2, g2⟩ := x1.lit0 g1 bb2
  clear b1 bb2 x1 g1
  by_cases hbig : 5000 < R ∨ 400000 < B
  case pos =>
    have X2 := Lib.hid x2
    obtain ⟨d0, d1, d2, df⟩ := x2
    rcases (show 5000 < R ∨ (R ≤ 5000 ∧ 400000 < B) by omega) with h | ⟨h, h'⟩
    all_goals
      clear hbig s0 s1
      go_wp2_with fail
      refine (begun_any _ (true) (rfl)).mono ?_
      rintro e w3 ⟨rfl, bb3⟩
      have b3 := belLit0 b2 bb3
      clear b2 bb3
      go_wp2_with fail
      go_ret
      exact ⟨rfl, b3⟩
  have hR : R ≤ 5000 := by omega
  have hB : B ≤ 400000 := by omega
  clear hbig
  have X2 := Lib.hid x2
  obtain ⟨d0, d1, d2, df⟩ := x2
  have S0 := Lib.hid s0
  have S1 := Lib.hid s1
  have B2 := Lib.hid b2
  clear s0 s1 b2
  go_wp2_with (at_make; refine wpList_makeInts rfl _ _ rfl (60 : Int) (60 : Int) 60 rfl rfl rfl rfl (by omega) ?_; intro w3 ho3)
  have HO3 := Lib.hid ho3
  clear ho3 d0 d1 d2 df
  go_loopw [69, 10, 11] (fun i _ _ wr => ∃ k : Nat, k ≤ n ∧ i = .int .i64 k ∧ Own w2 wr 60 (aT (bpass R B F zs) zs k)) (fun i _ _ _ => n - (intOf i).toNat)
  case atStart => exact ⟨0, Nat.zero_le _, rfl, HO3.out⟩
  case round =>
    obtain ⟨k, hk, rfl, ho⟩ := hrel
    have HO := Lib.hid ho
    have hb := ho.bel
    have hk0 : (0 : Int) ≤ k := by omega
    by_cases hlt : k < n
    · obtain ⟨b, off, hA, hbl, -⟩ := S0.out.int_at (k := k * 3) (by omega)
      subst hA
      obtain ⟨bx, ox, hA3, hbl3, hx⟩ := S1.out.bool_at hlt
      subst hA3
      rw [btab_get _ hlt] at hx
      obtain ⟨c0, c1, c2⟩ := (S0.out.below hb).three hlt
      have hn1 : (k : Int) < n := by omega
      have hz := hb.size
      have q0 := P.out.at0 k hlt
      have q1 := P.out.sz k hlt
      have hOA := ho.alloc (.cells #[.int .i64 (fd zs k 0), .int .i64 (fd zs k 1), .int .i64 (fd zs k 2)] 48)
      have HOA := Lib.hid hOA
      have hxa : (wr.alloc (.cells #[.int .i64 (fd zs k 0), .int .i64 (fd zs k 1), .int .i64 (fd zs k 2)] 48)).cell? ⟨bx, ox + k, none⟩ = some (.bool (bpass R B F zs k)) := (hOA.bel.cell (p := ⟨bx, ox + k, none⟩) hbl3).trans hx
      have AS := fun t => aT_succ (bpass R B F zs) zs k t
      have AS' := Lib.hid AS
      clear hx AS
      rcases hp : bpass R B F zs k with _ | _
      · rw [hp] at hxa
        have N : Hid (∀ t, aT (bpass R B F zs) zs (k + 1) t = aT (bpass R B F zs) zs k t) := Lib.hid fun t => by rw [AS'.out t, if_neg (by rw [hp]; simp)]
        clear hp ho hb hOA
        go_wp2_with fail
        go_roundw
        case rel => exact ⟨k + 1, by omega, by go_num, HOA.out.congr fun i hi => (N.out i).symm⟩
        case measure => simp [intOf]; omega
      · rw [hp] at hxa
        by_cases h60 : fd zs k 0 < 60
        · obtain ⟨t, ht⟩ := Int.eq_ofNat_of_zero_le q0.1
          have ht60 : t < 60 := by omega
          have hcell := HOA.out.cell ht60
          have hfz := HOA.out.frozen t
          have ab := aT_bd (ps := bpass R B F zs) P.out k t (by omega)
          have N : Hid (∀ i, aT (bpass R B F zs) zs (k + 1) i = if i = t then aT (bpass R B F zs) zs k t + fd zs k 1 else aT (bpass R B F zs) zs k i) := Lib.hid fun i => by
            rw [AS'.out i]
            by_cases hi : i = t
            · subst hi; rw [if_pos ⟨hp, ht⟩, if_pos rfl]
            · rw [if_neg (by omega), if_neg hi]
          have ZS : Hid (fd zs k 0 = t) := Lib.hid ht
          rw [ht] at c0 h60 hxa hcell hfz
          have HOB : Hid (Own w2 (wr.alloc (.cells #[.int .i64 t, .int .i64 (fd zs k 1), .int .i64 (fd zs k 2)] 48)) 60 (aT (bpass R B F zs) zs k)) := by rw [← ht]; exact HOA
          obtain ⟨q, hq⟩ : ∃ q, aT (bpass R B F zs) zs k t = q := ⟨_, rfl⟩
          rw [hq] at hcell ab
          have HQ := Lib.hid hq
          have f1 : wrap64 (q + fd zs k 1) = q + fd zs k 1 := IntWalk.wrap64_in _ ⟨by omega, by omega⟩
          have f1' : IntKind.i64.wrap (q + fd zs k 1) = q + fd zs k 1 := IntWalk.i64_in _ ⟨by omega, by omega⟩
          have f2 : (t : Int) < 60 := by omega
          have f3 : (0 : Int) ≤ t := by omega
          have cA : (wr.alloc (.cells #[.int .i64 t, .int .i64 (fd zs k 1), .int .i64 (fd zs k 2)] 48)).cell? ⟨wr.heap.size, 0, none⟩ = some (.int .i64 t) := World.cell?_alloc_at _ _ _ _ rfl
          have cB : (wr.alloc (.cells #[.int .i64 t, .int .i64 (fd zs k 1), .int .i64 (fd zs k 2)] 48)).cell? ⟨wr.heap.size, 1, none⟩ = some (.int .i64 (fd zs k 1)) := World.cell?_alloc_at _ _ _ _ rfl
          clear hp ho hb hOA ht hq HOA q0
          go_wp2_with fail
          generalize wr.alloc (.cells #[.int .i64 t, .int .i64 (fd zs k 1), .int .i64 (fd zs k 2)] 48) = wz at *
          refine wp_region_still_tail 9 (by kernel_rfl) (by kernel_rfl) ?_
          simp only [List.take_succ_cons, List.take_zero, List.drop_succ_cons, List.drop_zero]
          repeat still_step
          refine wpStill_nil ?_
          change wpList _ _ _ _ _ _
          go_wp2_with fail
          go_roundw
          case rel => exact ⟨k + 1, by omega, by go_num, (HOB.out.store ht60 fun i hi => by rw [N.out i, HQ.out]).drew⟩
          case measure => simp [intOf]; omega
        · have N : Hid (∀ i, i < 60 → aT (bpass R B F zs) zs (k + 1) i = aT (bpass R B F zs) zs k i) := Lib.hid fun i hi => by rw [AS'.out i, if_neg (by omega)]
          have h60' : 60 ≤ fd zs k 0 := by omega
          clear hp ho hb hOA h60
          go_wp2_with fail
          go_roundw
          case rel => exact ⟨k + 1, by omega, by go_num, HOA.out.congr fun i hi => (N.out i hi).symm⟩
          case measure => simp [intOf]; omega
    · have hkn : k = n := by omega
      subst hkn
      have hn1 : ¬ (k : Int) < k := by omega
      have TL : Hid ((tab 60 (aT (bpass R B F zs) zs k)).length = 60) := Lib.hid (tab_len _ _)
      have BF := Lib.hid (bfit P.out HB.out)
      obtain ⟨xb, xg⟩ := X2.out.lit0 g2 hb
      have s_bx := xb.sl xg
      have s_a := ho.sl
      have l_a : 60 ≤ 60 := Nat.le_refl _
      have l_bx : 3 ≤ 3 := Nat.le_refl _
      have b9 := belLit0 B2.out hb
      obtain ⟨a, haa⟩ : ∃ a, tab 60 (aT (bpass R B F zs) zs k) = a := ⟨_, rfl⟩
      rw [haa] at TL BF s_a
      clear ho hb xb haa
      by_cases hok : traceOk a
      case neg =>
        have hne := traceErr_ne a
        have HOK := Lib.hid hok
        clear hok
        go_wp2_with fail
        refine (tcheck_any (some ⟨w2.heap.size, 0, none⟩) (60) 60 (a) _ (s_a) (by omega) HOK.out (traceErr a) (rfl)).mono ?_
        rintro e w21 ⟨rfl, rfl⟩
        clear s_a s_bx
        go_wp2_with fail
        go_ret
        exact ⟨rfl, b9⟩
      have HOK := Lib.hid hok
      have c_1 := cumul_C hok
      rw [TL.out] at c_1
      have C_f : Hid (IsC 61 (cumul a)) := Lib.hid c_1
      clear hok c_1
      go_wp2_with fail
      refine (tcheck_yes (some ⟨w2.heap.size, 0, none⟩) (60) 60 (a) _ (s_a) (by omega) HOK.out (0) (rfl)).mono ?_
      rintro e w22 ⟨rfl, rfl⟩
      go_wp2_with fail
      refine (within_t (r) (10001) _   (by omega) (by omega) (within r 10001) (rfl)).mono ?_
      rintro e w23 ⟨rfl, rfl⟩
      have r0 := within_lo r 10001 (by omega)
      have r1 := within_hi r 10001 (by omega)
      generalize within r 10001 = r' at *
      have C_l := Lib.hid (bkt_C (n := 61) (r := R) (b := B) (by omega) (by omega) k1 k3 (by omega))
      have C_g := Lib.hid (lin_C (n := 61) (r := r') (l := 0) (by omega) (by omega) r0 (by omega) (by omega))
      have LOK : Hid (lineOk a r') := ⟨HOK.out, r0, by omega⟩
      go_wp2_with fail
      refine (tsum_ok (some ⟨w2.heap.size, 0, none⟩) (60) 60 (a) _ (s_a) (by omega) HOK.out (cumul a) (0) (61) (rfl) (C_f.out.len)).mono ?_
      rintro e w24 ⟨A_f, c_f, rfl, s_f, l_f, bb24⟩
      have b24 := belLit0 b9 bb24
      replace s_a := slLit0 s_a bb24
      replace s_bx := slLit0 s_bx bb24
      clear b9 bb24
      have hx0 := s_bx.int_cell (k := 0) (by omega)
      have hx1 := s_bx.int_cell (k := 1) (by omega)
      simp only [Nat.zero_add] at hx0 hx1
      rw [show gi [R, B, F] 0 = R from rfl] at hx0
      rw [show gi [R, B, F] 1 = B from rfl] at hx1
      go_wp2_with fail
      refine (sbucket_any (60) (R) (B) _   (by omega) (by omega) k1 k2 k3 k4 (tab 61 (bktU R B)) (0) (61) (sbucket_yes (by decide) C_l.out) (C_l.out.len)).mono ?_
      rintro e w25 ⟨A_l, c_l, rfl, s_l, l_l, bb25⟩
      have b25 := belLit0 b24 bb25
      replace s_a := slLit0 s_a bb25
      replace s_bx := slLit0 s_bx bb25
      replace s_f := slLit0 s_f bb25
      clear b24 bb25
      clear hx0 hx1
      go_wp2_with fail
      refine (sline_any (60) (r') (0) _   (by omega) (by omega) r0 (by omega) (by omega) (by omega) (tab 61 (linU r' 0)) (0) (61) (sline_yes (by decide) C_g.out) (C_g.out.len)).mono ?_
      rintro e w26 ⟨A_g, c_g, rfl, s_g, l_g, bb26⟩
      have b26 := belLit0 b25 bb26
      replace s_a := slLit0 s_a bb26
      replace s_bx := slLit0 s_bx bb26
      replace s_f := slLit0 s_f bb26
      replace s_l := slLit0 s_l bb26
      clear b25 bb26
      go_wp2_with fail
      refine (fits_any A_f (61) c_f (cumul a) A_l (61) c_l (tab 61 (bktU R B)) _ (s_f) (s_l) (by omega) (by omega) C_f.out C_l.out rfl (true) (0) (by rw [BF.out])).mono ?_
      rintro e w27 ⟨rfl, bb27⟩
      have b27 := belLit0 b26 bb27
      replace s_a := slLit0 s_a bb27
      replace s_bx := slLit0 s_bx bb27
      replace s_f := slLit0 s_f bb27
      replace s_l := slLit0 s_l bb27
      replace s_g := slLit0 s_g bb27
      clear b26 bb27
      go_wp2_with fail
      refine (lrun_t (some ⟨w2.heap.size, 0, none⟩) (60) 60 (a) (r') _ (s_a) (by omega) LOK.out (tab 60 (ldep a r')) (tab 60 fun k => lbuf a r' (k + 1)) (0) (60) (rfl) (rfl)).mono ?_
      rintro e w28 ⟨A_u, c_u, A_w, c_w, rfl, s_u, s_w, bb28⟩
      have l_u : True := trivial
      have l_w : True := trivial
      have b28 := belLit0 b27 bb28
      replace s_a := slLit0 s_a bb28
      replace s_bx := slLit0 s_bx bb28
      replace s_f := slLit0 s_f bb28
      replace s_l := slLit0 s_l bb28
      replace s_g := slLit0 s_g bb28
      clear b27 bb28
      obtain ⟨m, hv_m⟩ : ∃ z, top (fun i => gi (tab 61 (bktU R B)) i - gi (tab 61 (linU r' 0)) i) 61 = z := ⟨_, rfl⟩
      have V_m := Lib.hid hv_m
      clear hv_m
      go_wp2_with fail
      refine (back_any A_l (61) c_l (tab 61 (bktU R B)) A_g (61) c_g (tab 61 (linU r' 0)) _ (s_l) (s_g) (by omega) (by omega) C_l.out C_g.out rfl (m) (0) (by rw [V_m.out])).mono ?_
      rintro e w29 ⟨rfl, bb29⟩
      have b29 := belLit0 b28 bb29
      replace s_a := slLit0 s_a bb29
      replace s_bx := slLit0 s_bx bb29
      replace s_f := slLit0 s_f bb29
      replace s_l := slLit0 s_l bb29
      replace s_g := slLit0 s_g bb29
      replace s_u := slLit0 s_u bb29
      replace s_w := slLit0 s_w bb29
      clear b28 bb29
      obtain ⟨q, hq⟩ : ∃ q, hi (gi (tab 60 fun k => lbuf a r' (k + 1))) 59 = q := ⟨_, rfl⟩
      have Q := Lib.hid hq
      have qm : q ≤ m := by
        rw [← hq, ← V_m.out]
        refine hi_le fun i hi => ?_
        rw [tab_get _ (show i < 60 by omega)]
        exact wait_le (n := 60) C_l.out LOK.out TL.out (of_decide_eq_true BF.out) (by omega)
      clear hq
      go_wp2_with fail
      refine (smax_any A_w (60) c_w (tab 60 fun k => lbuf a r' (k + 1)) _ (s_w) (by omega) (by omega) (q) (Q.out)).mono ?_
      rintro e w30 ⟨rfl, bb30⟩
      have b30 := belLit0 b29 bb30
      replace s_a := slLit0 s_a bb30
      replace s_bx := slLit0 s_bx bb30
      replace s_f := slLit0 s_f bb30
      replace s_l := slLit0 s_l bb30
      replace s_g := slLit0 s_g bb30
      replace s_u := slLit0 s_u bb30
      replace s_w := slLit0 s_w bb30
      clear b29 bb30
      clear s_a s_bx s_f s_l s_g s_u s_w
      go_wp2_with fail
      go_ret
      exact ⟨rfl, b30⟩
end Go.Proofs.Ytidmncoakockkaa
