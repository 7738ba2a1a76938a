/- TopWindow: window traffic on a link of rate one causes no backlog and conforms to its curve. -/
import Derived.Test.YtidmncoakockkaaTopA
import Derived.Test.YtidmncoakockkaaWindowFull
import Derived.Test.YtidmncoakockkaaTraceA
import Derived.Test.YtidmncoakockkaaSlotsA
import Derived.Test.YtidmncoakockkaaShapeA
import Derived.Test.YtidmncoakockkaaShapeP
import Derived.Test.YtidmncoakockkaaBoundA
import Derived.Test.YtidmncoakockkaaPointA
import Derived.Test.YtidmncoakockkaaOwnT
import Derived.StillTailTactics
set_option linter.unusedVariables false
namespace Go.Proofs.Ytidmncoakockkaa
open Go.RowKit
/-- How many of the first k are sent at time t. -/
def cT (u : Nat → Nat) : Nat → Nat → Int
  | 0, _ => 0
  | k + 1, t => if u k = t then cT u k t + 1 else cT u k t
theorem cT_succ (u : Nat → Nat) (k t : Nat) : cT u (k + 1) t = if u k = t then cT u k t + 1 else cT u k t := rfl
theorem cT_bd (u : Nat → Nat) (k t : Nat) : 0 ≤ cT u k t ∧ cT u k t ≤ k := by
  induction k with
  | zero => exact ⟨Int.le_refl _, Int.le_refl _⟩
  | succ k ih => rw [cT_succ]; split <;> omega
/-- How many of the first k are sent within [s, t). -/
def wC (u : Nat → Nat) (s t : Nat) : Nat → Int
  | 0 => 0
  | k + 1 => if s ≤ u k ∧ u k < t then wC u s t k + 1 else wC u s t k
theorem wC_succ (u : Nat → Nat) (s t k : Nat) : wC u s t (k + 1) = if s ≤ u k ∧ u k < t then wC u s t k + 1 else wC u s t k := rfl
theorem wC_step (u : Nat → Nat) (s t : Nat) (hst : s ≤ t) (k : Nat) : wC u s (t + 1) k = wC u s t k + cT u k t := by
  induction k with
  | zero => rfl
  | succ k ih =>
    rw [wC_succ, wC_succ, cT_succ]
    by_cases h1 : u k = t
    · rw [if_pos ⟨by omega, by omega⟩, if_neg (by omega), if_pos h1, ih]; omega
    · rw [if_neg h1]
      by_cases h2 : s ≤ u k ∧ u k < t
      · rw [if_pos ⟨by omega, by omega⟩, if_pos h2, ih]; omega
      · rw [if_neg (by omega), if_neg h2, ih]
theorem wC_none (u : Nat → Nat) (s k : Nat) : wC u s s k = 0 := by
  induction k with
  | zero => rfl
  | succ k ih => rw [wC_succ, if_neg (by omega), ih]
theorem psum_wC (u : Nat → Nat) (n s d : Nat) (hd : s + d ≤ 60) : psum (tab 60 (cT u n)) (s + d) = psum (tab 60 (cT u n)) s + wC u s (s + d) n := by
  induction d with
  | zero => rw [Nat.add_zero, wC_none]; omega
  | succ d ih =>
    rw [show s + (d + 1) = (s + d) + 1 from rfl, psum_succ, ih (by omega), wC_step u s (s + d) (by omega), tab_get _ (by omega)]
    omega
theorem wC_run (u : Nat → Nat) (s t k : Nat) : wC u s t k = 0 ∨ ∃ i d, i + d < k ∧ s ≤ u i ∧ u (i + d) < t ∧ wC u s t k ≤ d + 1 := by
  induction k with
  | zero => exact .inl rfl
  | succ k ih =>
    rw [wC_succ]
    by_cases hin : s ≤ u k ∧ u k < t
    · rw [if_pos hin]
      right
      rcases ih with h0 | ⟨i, d, h1, h2, h3, h4⟩
      · exact ⟨k, 0, by omega, hin.1, hin.2, by rw [h0]; simp⟩
      · exact ⟨i, k - i, by omega, h2, by rw [show i + (k - i) = k by omega]; exact hin.2, by omega⟩
    · rw [if_neg hin]
      rcases ih with h0 | ⟨i, d, h1, h2, h3, h4⟩
      · exact .inl h0
      · exact .inr ⟨i, d, by omega, h2, h3, h4⟩
theorem wt_inc (w t i d : Nat) (hw : 1 ≤ w) (ht : 1 ≤ t) : wtime w t i + d ≤ wtime w t (i + d) := by
  induction d with
  | zero => exact Nat.le_refl _
  | succ d ih =>
    have := wtime_prev w t (i + d + 1) hw ht (by omega)
    rw [Nat.add_sub_cancel] at this
    rw [show i + (d + 1) = i + d + 1 from rfl]
    omega
theorem wt_lag (w t i q : Nat) (hw : 1 ≤ w) (ht : 1 ≤ t) : wtime w t i + q * t ≤ wtime w t (i + q * w) := by
  induction q with
  | zero => simp
  | succ q ih =>
    have := wtime_lag w t (i + (q + 1) * w) (i + q * w) hw ht (by rw [Nat.succ_mul]; omega)
    rw [Nat.succ_mul]
    omega
/-- What a window sends within d times. -/
theorem win_max (w t n s d : Nat) (hw : 1 ≤ w) (ht : 1 ≤ t) : wC (wtime w t) s (s + d) n ≤ d ∧ wC (wtime w t) s (s + d) n ≤ staU w t d := by
  have st := Int.mul_nonneg (show (0 : Int) ≤ w by omega) (sta_step (p := (t : Int)) (by omega) d).1
  rcases wC_run (wtime w t) s (s + d) n with h0 | ⟨i, e, h1, h2, h3, h4⟩
  · unfold staU
    omega
  · have a := wt_inc w t i e hw ht
    have b := wt_lag w t i (e / w) hw ht
    have c := wt_inc w t (i + e / w * w) (e % w) hw ht
    have dm := Nat.div_add_mod e w
    rw [Nat.mul_comm] at dm
    rw [show i + e / w * w + e % w = i + e by omega] at c
    refine ⟨by omega, ?_⟩
    have q1 : ((e / w + 1 : Nat) : Int) ≤ ((d : Int) + t - 1) / t := by
      refine (Int.le_ediv_iff_mul_le (by omega)).2 ?_
      have : (e / w + 1) * t = e / w * t + t := by rw [Nat.succ_mul]
      have h5 : e / w * t + 1 ≤ d := by omega
      have h6 : ((e / w + 1 : Nat) : Int) * (t : Int) = (((e / w + 1) * t : Nat) : Int) := by push_cast; rfl
      rw [h6, this]
      omega
    have q2 := Int.mul_le_mul_of_nonneg_left q1 (show (0 : Int) ≤ w by omega)
    have md := Nat.mod_lt e (show 0 < w by omega)
    have q3 : (w : Int) * ((e / w + 1 : Nat) : Int) = ((e / w * w + w : Nat) : Int) := by
      rw [Int.mul_comm]
      push_cast
      rw [Int.add_mul, Int.one_mul]
    unfold staU
    rw [q3] at q2
    omega
theorem lin1 (t : Nat) : linU 1 0 t = t := by unfold linU mx; split <;> omega
theorem wfit {w t n : Nat} (hw : 1 ≤ w) (ht : 1 ≤ t) : fitB 61 (cumul (tab 60 (cT (wtime w t) n))) (cminL (tab 61 (staU w t)) (tab 61 (linU 1 0))) = true := by
  refine decide_eq_true fun j hj s hs => ?_
  rw [cumul_get (by rw [tab_len]; omega), cumul_get (by rw [tab_len]; omega), cmin_get (tab_len _ _) (by omega), tab_get _ (by omega), tab_get _ (by omega), lin1]
  have e := psum_wC (wtime w t) n s (j - s) (by omega)
  have m := win_max w t n s (j - s) hw ht
  rw [show s + (j - s) = j by omega] at e m
  have mm := mn_le (staU w t (j - s)) ((j - s : Nat) : Int)
  omega
theorem wback {w t n : Nat} (hw : 1 ≤ w) (ht : 1 ≤ t) : top (fun i => gi (cumul (tab 60 (cT (wtime w t) n))) i - gi (tab 61 (linU 1 0)) i) 61 = 0 := by
  refine Int.le_antisymm (top_le (Int.le_refl _) fun j hj => ?_) (top_nonneg _ _)
  rw [cumul_get (by rw [tab_len]; omega), tab_get _ hj, lin1]
  have e := psum_wC (wtime w t) n 0 j (by omega)
  have m := win_max w t n 0 j hw ht
  rw [Nat.zero_add] at e m
  have z : psum (tab 60 (cT (wtime w t) n)) 0 = 0 := rfl
  omega
theorem own_set {W wr : World} {n : Nat} {u : Nat → Int} (h : Own W wr n u) {k : Nat} {x : Int} {v : Nat → Int} (hk : k < n) (hv : ∀ i, i < n → v i = if i = k then x else u i) : Own W (wr.setCell ⟨W.heap.size, k, none⟩ (.int .i64 x)) n v := h.store hk hv
set_option maxRecDepth 100000 in
set_option maxHeartbeats 20000000 in
theorem topWindow_walk (n w tr : Int) (W : World) (w_n : -9223372036854775808 ≤ n ∧ n ≤ 9223372036854775807) (w_w : -9223372036854775808 ≤ w ∧ w ≤ 9223372036854775807) (w_t : -9223372036854775808 ≤ tr ∧ tr ≤ 9223372036854775807) :
    Calls Try.prog 6 #[.int .i64 n, .int .i64 w, .int .i64 tr] W fun e w' => e = .returned (.bool true) ∧ Below W.heap.size W w' := by
  go_enter Try.func6, Try.ntmps6
  by_cases hb : winOk n w tr
  case neg =>
    have HB := Lib.hid hb
    clear hb
    go_wp2_with fail
    refine (sent_bad n w tr _ HB.out).mono ?_
    rintro e w1 ⟨rfl, hw1⟩
    have b1 : Below W.heap.size W w1 := hw1 ▸ Below.refl _ _
    clear hw1
    go_wp2_with fail
    refine (begun_any _ (true) (rfl)).mono ?_
    rintro e w2 ⟨rfl, bb2⟩
    have b2 := belLit0 b1 bb2
    clear b1 bb2
    go_wp2_with fail
    refine (begun_any _ (true) (rfl)).mono ?_
    rintro e w3 ⟨rfl, bb3⟩
    have b3 := belLit0 b2 bb3
    clear b2 bb3
    go_wp2_with fail
    go_ret
    exact ⟨rfl, b3⟩
  have HB := Lib.hid hb
  obtain ⟨h1, h2, h3, h4, h5, h6⟩ := hb
  obtain ⟨m, rfl⟩ := Int.eq_ofNat_of_zero_le h1
  obtain ⟨v, rfl⟩ := Int.eq_ofNat_of_zero_le (show 0 ≤ w by omega)
  obtain ⟨t, rfl⟩ := Int.eq_ofNat_of_zero_le (show 0 ≤ tr by omega)
  have hv1 : 1 ≤ v := by omega
  have ht1 : 1 ≤ t := by omega
  go_wp2_with fail
  refine (sent_ok m v t _ HB.out).mono ?_
  rintro e w1 ⟨A1, c1, rfl, s1, bb1, l1⟩
  rw [show sentList (m : Int) v t = wlist v t m from rfl] at s1
  simp only [Int.toNat_natCast] at s1 l1 ⊢
  have b1 := belLit0 (Below.refl W.heap.size W) bb1
  clear bb1
  have hm200 : ¬ (200 : Int) < m := by omega
  go_wp2_with fail
  refine (begun_any _ (true) (rfl)).mono ?_
  rintro e w2 ⟨rfl, bb2⟩
  have b2 := belLit0 b1 bb2
  replace s1 := slLit0 s1 bb2
  have S1 := Lib.hid s1
  have B2 := Lib.hid b2
  clear b1 bb2 s1 b2
  go_wp2_with (at_make; refine wpList_makeInts rfl _ _ rfl (60 : Int) (60 : Int) 60 rfl rfl rfl rfl (by omega) ?_; intro w3 ho3)
  have HO3 := Lib.hid ho3
  clear ho3
  go_loopw [45, 11] (fun i _ wr => ∃ k : Nat, k ≤ m ∧ i = .int .i64 k ∧ Own w2 wr 60 (cT (wtime v t) k)) (fun i _ _ => m - (intOf i).toNat)
  case atStart => exact ⟨0, Nat.zero_le _, rfl, HO3.out⟩
  case round =>
    obtain ⟨k, hk, rfl, ho⟩ := hrel
    have HO := Lib.hid ho
    have hk0 : (0 : Int) ≤ k := by omega
    by_cases hlt : k < m
    · obtain ⟨bx, ox, hA3, hbl3, -⟩ := S1.out.int_at hlt
      subst hA3
      have hx := (S1.out.below ho.bel).int_cell hlt
      rw [wlist_get v t m k hlt] at hx
      have hn1 : (k : Int) < m := by omega
      have CS := Lib.hid (fun i => cT_succ (wtime v t) k i)
      generalize hu : wtime v t k = uk at *
      by_cases h60 : uk < 60
      · have hcell := ho.cell h60
        have hfz := ho.frozen uk
        have ab := cT_bd (wtime v t) k uk
        have N : Hid (∀ i, cT (wtime v t) (k + 1) i = if i = uk then cT (wtime v t) k uk + 1 else cT (wtime v t) k i) := Lib.hid fun i => by
          rw [CS.out i]
          by_cases hi : i = uk
          · subst hi; simp
          · rw [if_neg (fun h => hi h.symm), if_neg hi]
        obtain ⟨q, hq⟩ : ∃ q, cT (wtime v t) k uk = q := ⟨_, rfl⟩
        rw [hq] at hcell ab
        have HQ := Lib.hid hq
        have f2 : (uk : Int) < 60 := by omega
        have f3 : (0 : Int) ≤ uk := by omega
        clear ho hq hu
        go_wp2_with fail
        go_roundw
        case rel => exact ⟨k + 1, by omega, by go_num, own_set HO.out h60 fun i hi => by rw [N.out i, HQ.out]⟩
        case measure => simp [intOf]; omega
      · have N : Hid (∀ i, i < 60 → cT (wtime v t) (k + 1) i = cT (wtime v t) k i) := Lib.hid fun i hi => by rw [CS.out i, if_neg (by omega)]
        have f2 : ¬ (uk : Int) < 60 := by omega
        clear ho hu
        go_wp2_with fail
        go_roundw
        case rel => exact ⟨k + 1, by omega, by go_num, HO.out.congr fun i hi => (N.out i hi).symm⟩
        case measure => simp [intOf]; omega
    · have hkn : k = m := by omega
      subst hkn
      have hn1 : ¬ (k : Int) < k := by omega
      have TL : Hid ((tab 60 (cT (wtime v t) k)).length = 60) := Lib.hid (tab_len _ _)
      have TOK : Hid (traceOk (tab 60 (cT (wtime v t) k))) := ⟨by rw [tab_len]; omega, fun z hz => by
        obtain ⟨i, hi, rfl⟩ := mem_tab hz
        have := cT_bd (wtime v t) k i
        omega⟩
      have BF := Lib.hid (wfit (n := k) hv1 ht1)
      have WB := Lib.hid (wback (n := k) hv1 ht1)
      have s_a := ho.sl
      have l_a : 60 ≤ 60 := Nat.le_refl _
      have b9 := belLit0 B2.out ho.bel
      have c_1 := cumul_C TOK.out
      rw [TL.out] at c_1
      have C_f : Hid (IsC 61 (cumul (tab 60 (cT (wtime v t) k)))) := Lib.hid c_1
      have C_g := Lib.hid (lin_C (n := 61) (r := 1) (l := 0) (by omega) (by omega) (by omega) (by omega) (by omega))
      have C_s := Lib.hid (sta_C (n := 61) (s := v) (p := t) (by omega) (by omega) (by omega) (by omega) (by omega))
      obtain ⟨a, haa⟩ : ∃ a, tab 60 (cT (wtime v t) k) = a := ⟨_, rfl⟩
      rw [haa] at TL TOK BF WB s_a C_f
      clear ho haa c_1
      go_wp2_with fail
      refine (tsum_ok (some ⟨w2.heap.size, 0, none⟩) (60) 60 (a) _ (s_a) (by omega) TOK.out (cumul a) (0) (61) (rfl) (C_f.out.len)).mono ?_
      rintro e w21 ⟨A_f, c_f, rfl, s_f, l_f, bb21⟩
      have b21 := belLit0 b9 bb21
      replace s_a := slLit0 s_a bb21
      clear b9 bb21
      go_wp2_with fail
      refine (sline_any (60) (1) (0) _   (by omega) (by omega) (by omega) (by omega) (by omega) (by omega) (tab 61 (linU 1 0)) (0) (61) (sline_yes (by decide) C_g.out) (C_g.out.len)).mono ?_
      rintro e w22 ⟨A_g, c_g, rfl, s_g, l_g, bb22⟩
      have b22 := belLit0 b21 bb22
      replace s_a := slLit0 s_a bb22
      replace s_f := slLit0 s_f bb22
      clear b21 bb22
      have S_f := Lib.hid s_f
      have S_g := Lib.hid s_g
      have HBB := Lib.hid b22
      clear s_a s_f s_g b22
      go_wp2_with (at_make; refine wpList_makeInts rfl _ _ rfl (61 : Int) (61 : Int) 61 rfl rfl rfl rfl (by omega) ?_; intro w5 ho5)
      have HO5 := Lib.hid ho5
      clear ho5
      go_loopw [70, 17] (fun i _ wr' => ∃ j : Nat, j ≤ 61 ∧ i = .int .i64 j ∧ Own w22 wr' 61 (fun q => if q < j then staU v t q else 0)) (fun i _ _ => 61 - (intOf i).toNat)
      case atStart => exact ⟨0, Nat.zero_le _, rfl, HO5.out.congr fun i hi => (if_neg (by omega)).symm⟩
      case round =>
        obtain ⟨j, hj, rfl, ho⟩ := hrel
        have HO := Lib.hid ho
        have hj0 : (0 : Int) ≤ j := by omega
        by_cases hlt2 : j < 61
        · have hcell := ho.cell hlt2
          have hfz := ho.frozen j
          have hn2 : (j : Int) < 61 := by omega
          have sp := sta_step (p := (t : Int)) (by omega) j
          obtain ⟨d, hd⟩ : ∃ d, ((j : Int) + t - 1) / t = d := ⟨_, rfl⟩
          have hdt : ((j : Int) + t - 1).tdiv t = d := by rw [Int.tdiv_eq_ediv_of_nonneg (by omega)]; exact hd
          rw [hd] at sp
          have SV : Hid (staU v t j = d * v) := by show _ = _; unfold staU; rw [hd, Int.mul_comm]
          obtain ⟨x, hx⟩ : ∃ x, d * (v : Int) = x := ⟨_, rfl⟩
          have xb : 0 ≤ x ∧ x ≤ 12000 := by
            rw [← hx]
            have a := Int.mul_nonneg sp.1 (show (0 : Int) ≤ v by omega)
            have b := Int.mul_le_mul (show d ≤ 60 by omega) (show (v : Int) ≤ 200 by omega) (by omega) (by omega)
            omega
          have g5 : ((t : Int) == 0) = false := by simp; omega
          have g6 : (t : Int) ≠ 0 := by omega
          have f1 : IntKind.i64.wrap (d * v) = x := by rw [hx]; exact IntWalk.i64_in _ ⟨by omega, by omega⟩
          have HX := Lib.hid hx
          clear ho hd hx
          go_wp2_with fail
          go_roundw
          case rel =>
            refine ⟨j + 1, by omega, by go_num, own_set HO.out hlt2 fun i hi => ?_⟩
            by_cases h : i = j
            · subst h; rw [if_pos (by omega), if_pos rfl, SV.out, HX.out]
            · rw [if_neg h]
              by_cases h' : i < j
              · rw [if_pos h', if_pos (by omega)]
              · rw [if_neg h', if_neg (by omega)]
          case measure => simp [intOf]; omega
        · have hj61 : j = 61 := by omega
          subst hj61
          have hn2 : ¬ ((61 : Nat) : Int) < 61 := by omega
          have ho' := ho.congr (v := staU v t) fun i hi => if_pos hi
          have s_s := ho'.sl
          have l_s : 61 ≤ 61 := Nat.le_refl _
          have s_f := slLit0 S_f.out ho.bel
          have s_g := slLit0 S_g.out ho.bel
          have b30 := belLit0 HBB.out ho.bel
          have hbig : ¬ (1000000 : Int) < (v : Int) * 60 := by omega
          clear ho ho' 
          have C_l := Lib.hid (cmin_C C_s.out C_g.out)
          go_wp2_with fail
          refine (pmin_any (some ⟨w22.heap.size, 0, none⟩) (61) 61 (tab 61 (staU v t)) A_g (61) c_g (tab 61 (linU 1 0)) _ (s_s) (s_g) (by omega) (by omega)  (cminL (tab 61 (staU v t)) (tab 61 (linU 1 0))) (0) (61) (cmin_yes C_s.out C_g.out rfl) (C_l.out.len)).mono ?_
          rintro e w31 ⟨A_l, c_l, rfl, s_l, l_l, bb31⟩
          have b31 := belLit0 b30 bb31
          replace s_f := slLit0 s_f bb31
          replace s_g := slLit0 s_g bb31
          replace s_s := slLit0 s_s bb31
          clear b30 bb31
          go_wp2_with fail
          refine (fits_any A_f (61) c_f (cumul a) A_l (61) c_l (cminL (tab 61 (staU v t)) (tab 61 (linU 1 0))) _ (s_f) (s_l) (by omega) (by omega) C_f.out C_l.out rfl (true) (0) (by rw [BF.out])).mono ?_
          rintro e w32 ⟨rfl, bb32⟩
          have b32 := belLit0 b31 bb32
          replace s_f := slLit0 s_f bb32
          replace s_g := slLit0 s_g bb32
          replace s_s := slLit0 s_s bb32
          replace s_l := slLit0 s_l bb32
          clear b31 bb32
          go_wp2_with fail
          refine (back_any A_f (61) c_f (cumul a) A_g (61) c_g (tab 61 (linU 1 0)) _ (s_f) (s_g) (by omega) (by omega) C_f.out C_g.out rfl (0) (0) (by rw [WB.out])).mono ?_
          rintro e w33 ⟨rfl, bb33⟩
          have b33 := belLit0 b32 bb33
          replace s_f := slLit0 s_f bb33
          replace s_g := slLit0 s_g bb33
          replace s_s := slLit0 s_s bb33
          replace s_l := slLit0 s_l bb33
          clear b32 bb33
          clear s_f s_g s_s s_l
          go_wp2_with fail
          go_ret
          exact ⟨rfl, b33⟩
end Go.Proofs.Ytidmncoakockkaa
