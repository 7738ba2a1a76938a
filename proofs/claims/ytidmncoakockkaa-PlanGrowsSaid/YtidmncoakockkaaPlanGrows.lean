/- PlanGrows: the smallest rate is monotonic in backlog and arrivals and antitonic in the time. -/
import Derived.Test.YtidmncoakockkaaPlanA
import Derived.Test.YtidmncoakockkaaLawKit
set_option linter.unusedVariables false
namespace Go.Proofs.Ytidmncoakockkaa
open Go.RowKit
/-- The answer (w, e) is no less than (c, e1), or there is none. -/
def NoLess (c e1 w e : Int) : Prop := (e = 0 ∧ e1 = 0 ∧ c ≤ w) ∨ e = 5
theorem rateV_mono {n : Nat} {f g : List Int} {a b : Int} {k m : Nat} (hf : IsC n f) (hg : IsC n g) (h : ∀ i, i < n → gi f i ≤ gi g i) (ha : 0 ≤ a) (hab : a ≤ b) (hmk : m ≤ k) (hk : k < n) {c e1 w e : Int} (h1 : rateV f a k = (c, e1)) (h2 : rateV g b m = (w, e)) : NoLess c e1 w e := by
  have f0 := hf.lo 0 hf.pos
  have g0 := h 0 hf.pos
  unfold rateV at h1 h2
  by_cases z2 : b + gi g 0 = 0
  · rw [if_pos z2] at h2
    rw [if_pos (show a + gi f 0 = 0 by omega)] at h1
    injection h1 with h1 h3
    injection h2 with h2 h4
    subst h1 h2 h3 h4
    exact .inl ⟨rfl, rfl, Int.le_refl _⟩
  · rw [if_neg z2] at h2
    by_cases n2 : rb (gi g) b m < 0 ∨ 10000 < rb (gi g) b m
    · rw [if_pos n2] at h2
      injection h2 with h2 h4
      exact .inr h4.symm
    · rw [if_neg n2] at h2
      injection h2 with h2 h4
      subst h2 h4
      obtain ⟨i0, i1, i2, i3⟩ := rb_spec (show 0 ≤ b by omega) hg.lo m (by omega)
      obtain ⟨j0, j1, j2, j3⟩ := rb_spec ha hf.lo k hk
      have mp : 0 < m := by
        rcases Nat.eq_zero_or_pos m with h' | h'
        · have := i0 h'; omega
        · exact h'
      obtain ⟨t, t1, t2, t3⟩ := i3 mp
      have a1 := j2 t t1 (by omega)
      have a2 : rt (gi f) a t ≤ rt (gi g) b t := (rt_le t1).2 (by
        have x := (rt_le t1).1 (Int.le_refl (rt (gi g) b t))
        have y := h t (by omega)
        omega)
      by_cases z1 : a + gi f 0 = 0
      · rw [if_pos z1] at h1
        injection h1 with h1 h3
        subst h1 h3
        exact .inl ⟨rfl, rfl, by have := i1 mp; omega⟩
      · rw [if_neg z1, if_neg (by have := j1 (by omega); omega)] at h1
        injection h1 with h1 h3
        subst h1 h3
        exact .inl ⟨rfl, rfl, by omega⟩
set_option maxRecDepth 100000 in
set_option maxHeartbeats 3200000 in
theorem planGrows_walk (A_f : Option Addr) (n_f c_f : Nat) (f : List Int) (A_g : Option Addr) (n_g c_g : Nat) (g : List Int) (lag : Int) (more : Int) (d : Int) (less : Int) (W : World) (w_f : InInts W A_f n_f c_f f) (w_g : InInts W A_g n_g c_g g) (w_lag : -9223372036854775808 ≤ lag ∧ lag ≤ 9223372036854775807) (w_more : -9223372036854775808 ≤ more ∧ more ≤ 9223372036854775807) (w_d : -9223372036854775808 ≤ d ∧ d ≤ 9223372036854775807) (w_less : -9223372036854775808 ≤ less ∧ less ≤ 9223372036854775807) :
    Calls Try.prog 7 #[.slice A_f n_f c_f, .slice A_g n_g c_g, .int .i64 lag, .int .i64 more, .int .i64 d, .int .i64 less] W fun e w' => e = .returned (.bool true) ∧ Below W.heap.size W w' := by
  obtain ⟨s_f, l_f, r_f, _⟩ := w_f
  obtain ⟨s_g, l_g, r_g, _⟩ := w_g
  have b0 := Below.refl W.heap.size W
  go_enter Try.func7, Try.ntmps7
  go_wp2_with fail
  refine (rate_any _ 2 _ [0, 5] (0) (0) _ (Sl.built_ _ (ints [0, 5]) 3 _ rfl rfl) (by omega) (isC_iff.2 ⟨by decide +kernel, rfl⟩) (by omega) (by omega) (by omega) (by omega) (0) (0) (by decide +kernel)).mono ?_
  rintro e w1 ⟨rfl, bb1⟩
  have b1 := belLit1 b0 bb1
  replace s_f := slLit1 s_f bb1
  replace s_g := slLit1 s_g bb1
  clear b0 bb1
  go_wp2_with fail
  refine (rate_any _ 2 _ [0, 5] (2) (1) _ (Sl.built_ _ (ints [0, 5]) 3 _ rfl rfl) (by omega) (isC_iff.2 ⟨by decide +kernel, rfl⟩) (by omega) (by omega) (by omega) (by omega) (7) (0) (by decide +kernel)).mono ?_
  rintro e w2 ⟨rfl, bb2⟩
  have b2 := belLit1 b1 bb2
  replace s_f := slLit1 s_f bb2
  replace s_g := slLit1 s_g bb2
  clear b1 bb2
  have hl_f := s_f.int_len
  have hl_g := s_g.int_len
  by_cases hok : bothB f g = true
  case neg =>
    have HOK := Lib.hid (Bool.eq_false_iff.2 hok)
    clear hok hl_f hl_g
    go_wp2_with fail
    refine (hboth_t A_f (n_f) c_f (f) A_g (n_g) c_g (g) _ (s_f) (s_g) (by omega) (by omega)  (false) (HOK.out)).mono ?_
    rintro e w3 ⟨rfl, bb3⟩
    have b3 := belLit0 b2 bb3
    replace s_f := slLit0 s_f bb3
    replace s_g := slLit0 s_g bb3
    clear b2 bb3
    clear s_f s_g
    go_wp2_with fail
    go_ret
    exact ⟨rfl, b3⟩
  obtain ⟨e1, c_1, c_2⟩ := both_C hok hl_f hl_g
  subst e1
  have HOK := Lib.hid hok
  have C_f := Lib.hid c_1
  have t_f := c_1.top
  have C_g := Lib.hid c_2
  have t_g := c_2.top
  clear hok c_1 c_2 hl_f hl_g
  go_wp2_with fail
  refine (hboth_t A_f (n_f) c_f (f) A_g (n_f) c_g (g) _ (s_f) (s_g) (by omega) (by omega)  (true) (HOK.out)).mono ?_
  rintro e w4 ⟨rfl, bb4⟩
  have b4 := belLit0 b2 bb4
  replace s_f := slLit0 s_f bb4
  replace s_g := slLit0 s_g bb4
  clear b2 bb4
  by_cases hle : leT f g = true
  case neg =>
    have HL := Lib.hid (Bool.eq_false_iff.2 hle)
    clear hle
    go_wp2_with fail
    refine (hle_t A_f (n_f) c_f (f) A_g (n_f) c_g (g) _ (s_f) (s_g) (by omega) (by omega)  (false) (HL.out)).mono ?_
    rintro e w5 ⟨rfl, bb5⟩
    have b5 := belLit0 b4 bb5
    replace s_f := slLit0 s_f bb5
    replace s_g := slLit0 s_g bb5
    clear b4 bb5
    clear s_f s_g
    go_wp2_with fail
    go_ret
    exact ⟨rfl, b5⟩
  have HL := Lib.hid hle
  have HF := Lib.hid ((leT_iff C_f.out C_g.out).1 hle)
  clear hle
  go_wp2_with fail
  refine (hle_t A_f (n_f) c_f (f) A_g (n_f) c_g (g) _ (s_f) (s_g) (by omega) (by omega)  (true) (HL.out)).mono ?_
  rintro e w6 ⟨rfl, bb6⟩
  have b6 := belLit0 b4 bb6
  replace s_f := slLit0 s_f bb6
  replace s_g := slLit0 s_g bb6
  clear b4 bb6
  have u_f := C_f.out.pos
  go_wp2_with fail
  refine (within_t (lag) (1000) _   (by omega) (by omega) (within lag 1000) (rfl)).mono ?_
  rintro e w7 ⟨rfl, rfl⟩
  go_wp2_with fail
  refine (within_t (more) (1000) _   (by omega) (by omega) (within more 1000) (rfl)).mono ?_
  rintro e w8 ⟨rfl, rfl⟩
  go_wp2_with fail
  refine (within_t (d) (((n_f : Nat) : Int)) _   (by omega) (by omega) (within d ((n_f : Nat) : Int)) (rfl)).mono ?_
  rintro e w9 ⟨rfl, rfl⟩
  go_wp2_with fail
  refine (within_t (less) (61) _   (by omega) (by omega) (within less 61) (rfl)).mono ?_
  rintro e w10 ⟨rfl, rfl⟩
  have lag0 := within_lo lag 1000 (by omega)
  have lag1 := within_hi lag 1000 (by omega)
  generalize within lag 1000 = lag' at *
  have more0 := within_lo more 1000 (by omega)
  have more1 := within_hi more 1000 (by omega)
  generalize within more 1000 = more' at *
  have d0 := within_lo d ((n_f : Nat) : Int) (by omega)
  have d1 := within_hi d ((n_f : Nat) : Int) (by omega)
  generalize within d ((n_f : Nat) : Int) = d' at *
  have less0 := within_lo less 61 (by omega)
  have less1 := within_hi less 61 (by omega)
  generalize within less 61 = less' at *
  obtain ⟨k, rfl⟩ := Int.eq_ofNat_of_zero_le d0
  obtain ⟨m, hm⟩ : ∃ m, (if less' < (k : Int) then (k : Int) - less' else 0) = m := ⟨_, rfl⟩
  have m0 : 0 ≤ m := by rw [← hm]; split <;> omega
  have m1 : m ≤ k := by rw [← hm]; split <;> omega
  have fa : IntKind.i64.wrap (lag' + more') = lag' + more' := IntWalk.i64_in _ ⟨by omega, by omega⟩
  have fs : IntKind.i64.wrap ((k : Int) - less') = (k : Int) - less' := IntWalk.i64_in _ ⟨by omega, by omega⟩
  obtain ⟨c, e1, hc⟩ : ∃ c e, rateV f lag' k = (c, e) := ⟨_, _, rfl⟩
  obtain ⟨x, e2, hx⟩ : ∃ c e, rateV f (lag' + more') k = (c, e) := ⟨_, _, rfl⟩
  obtain ⟨y, e3, hy⟩ : ∃ c e, rateV f lag' m.toNat = (c, e) := ⟨_, _, rfl⟩
  obtain ⟨z, e4, hz⟩ : ∃ c e, rateV g lag' k = (c, e) := ⟨_, _, rfl⟩
  have N2 := Lib.hid (rateV_mono C_f.out C_f.out (fun i _ => Int.le_refl _) lag0 (show lag' ≤ lag' + more' by omega) (Nat.le_refl k) (by omega) hc hx)
  have N3 := Lib.hid (rateV_mono C_f.out C_f.out (fun i _ => Int.le_refl _) lag0 (Int.le_refl lag') (show m.toNat ≤ k by omega) (by omega) hc hy)
  have N4 := Lib.hid (rateV_mono C_f.out C_g.out HF.out lag0 (Int.le_refl lag') (Nat.le_refl k) (by omega) hc hz)
  have HC := Lib.hid hc
  have HX := Lib.hid hx
  have HY := Lib.hid hy
  have HZ := Lib.hid hz
  clear hc hx hy hz
  go_wp2_with fail
  refine (rate_any A_f (n_f) c_f (f) (lag') ((k : Int)) _ (s_f) (by omega) C_f.out lag0 (by omega) (by omega) d1 (c) (e1) (HC.out)).mono ?_
  rintro e w11 ⟨rfl, bb11⟩
  have b11 := belLit0 b6 bb11
  replace s_f := slLit0 s_f bb11
  replace s_g := slLit0 s_g bb11
  clear b6 bb11
  go_wp2_with fail
  refine (rate_any A_f (n_f) c_f (f) (lag' + more') ((k : Int)) _ (s_f) (by omega) C_f.out (by omega) (by omega) (by omega) d1 (x) (e2) (HX.out)).mono ?_
  rintro e w12 ⟨rfl, bb12⟩
  have b12 := belLit0 b11 bb12
  replace s_f := slLit0 s_f bb12
  replace s_g := slLit0 s_g bb12
  clear b11 bb12
  go_wp2_with fail
  refine (rate_any A_f (n_f) c_f (f) (lag') (m) _ (s_f) (by omega) C_f.out lag0 (by omega) m0 (by omega) (y) (e3) (HY.out)).mono ?_
  rintro e w13 ⟨rfl, bb13⟩
  have b13 := belLit0 b12 bb13
  replace s_f := slLit0 s_f bb13
  replace s_g := slLit0 s_g bb13
  clear b12 bb13
  go_wp2_with fail
  refine (rate_any A_g (n_f) c_g (g) (lag') ((k : Int)) _ (s_g) (by omega) C_g.out lag0 (by omega) (by omega) d1 (z) (e4) (HZ.out)).mono ?_
  rintro e w14 ⟨rfl, bb14⟩
  have b14 := belLit0 b13 bb14
  replace s_f := slLit0 s_f bb14
  replace s_g := slLit0 s_g bb14
  clear b13 bb14
  clear s_f s_g hm
  have BB := Lib.hid b14
  clear b14
  go_wp2_with fail
  go_loopw [109, 26] (fun i _ wr => ∃ k : Nat, k ≤ 3 ∧ i = .int .i64 k ∧ Below (w14.heap.size + 1) (w14.alloc (.cells #[.int .i64 x, .int .i64 e2, .int .i64 y, .int .i64 e3, .int .i64 z, .int .i64 e4] 53)) wr) (fun i _ _ => 3 - (intOf i).toNat)
  case atStart => exact ⟨0, by omega, rfl, (by have := Below.refl (w14.alloc (.cells #[.int .i64 x, .int .i64 e2, .int .i64 y, .int .i64 e3, .int .i64 z, .int .i64 e4] 53)).heap.size (w14.alloc (.cells #[.int .i64 x, .int .i64 e2, .int .i64 y, .int .i64 e3, .int .i64 z, .int .i64 e4] 53)); simpa using this)⟩
  case round =>
    obtain ⟨k, hk, rfl, hb⟩ := hrel
    have cel : ∀ q, wr.cell? ⟨w14.heap.size, q, none⟩ = (#[.int .i64 x, .int .i64 e2, .int .i64 y, .int .i64 e3, .int .i64 z, .int .i64 e4] : Array Value)[q]? := fun q => by
      rw [hb.cell (p := ⟨w14.heap.size, q, none⟩) (show w14.heap.size < w14.heap.size + 1 by omega)]
      exact World.cell?_alloc_at _ _ _ _ rfl
    have hz : w14.heap.size + 1 ≤ wr.heap.size := by have := hb.size; simpa using this
    have HB := Lib.hid hb
    match k, hk with
  
    | 0, _ =>
      have c0 := cel 0
      have c1 := cel 1
      simp only [List.getElem?_toArray, List.getElem?_cons_zero, List.getElem?_cons_succ] at c0 c1
      rcases N2.out with ⟨h1, h2, h3⟩ | h1
      · have b1 : (e2 == 0) = true := by simpa using h1
        have b2 : (e1 != 0) = false := by simpa using h2
        have b3 : (e2 != 0) = false := by simpa using h1
        have b4 : decide (x < c) = false := by simpa using h3
        clear cel hb h1 h2 h3
        go_wp2_with fail
        go_roundw
        case rel => exact ⟨1, by omega, rfl, HB.out.alloc hz _⟩
        case measure => simp [intOf]
      · have b1 : (e2 == 0) = false := by rw [h1]; rfl
        have b3 : (e2 != 0) = true := by rw [h1]; rfl
        have b4 : (e2 != 5) = false := by rw [h1]; rfl
        clear cel hb h1
        go_wp2_with fail
        go_roundw
        case rel => exact ⟨1, by omega, rfl, HB.out.alloc hz _⟩
        case measure => simp [intOf]
    | 1, _ =>
      have c0 := cel 2
      have c1 := cel 3
      simp only [List.getElem?_toArray, List.getElem?_cons_zero, List.getElem?_cons_succ] at c0 c1
      rcases N3.out with ⟨h1, h2, h3⟩ | h1
      · have b1 : (e3 == 0) = true := by simpa using h1
        have b2 : (e1 != 0) = false := by simpa using h2
        have b3 : (e3 != 0) = false := by simpa using h1
        have b4 : decide (y < c) = false := by simpa using h3
        clear cel hb h1 h2 h3
        go_wp2_with fail
        go_roundw
        case rel => exact ⟨2, by omega, rfl, HB.out.alloc hz _⟩
        case measure => simp [intOf]
      · have b1 : (e3 == 0) = false := by rw [h1]; rfl
        have b3 : (e3 != 0) = true := by rw [h1]; rfl
        have b4 : (e3 != 5) = false := by rw [h1]; rfl
        clear cel hb h1
        go_wp2_with fail
        go_roundw
        case rel => exact ⟨2, by omega, rfl, HB.out.alloc hz _⟩
        case measure => simp [intOf]
    | 2, _ =>
      have c0 := cel 4
      have c1 := cel 5
      simp only [List.getElem?_toArray, List.getElem?_cons_zero, List.getElem?_cons_succ] at c0 c1
      rcases N4.out with ⟨h1, h2, h3⟩ | h1
      · have b1 : (e4 == 0) = true := by simpa using h1
        have b2 : (e1 != 0) = false := by simpa using h2
        have b3 : (e4 != 0) = false := by simpa using h1
        have b4 : decide (z < c) = false := by simpa using h3
        clear cel hb h1 h2 h3
        go_wp2_with fail
        go_roundw
        case rel => exact ⟨3, by omega, rfl, HB.out.alloc hz _⟩
        case measure => simp [intOf]
      · have b1 : (e4 == 0) = false := by rw [h1]; rfl
        have b3 : (e4 != 0) = true := by rw [h1]; rfl
        have b4 : (e4 != 5) = false := by rw [h1]; rfl
        clear cel hb h1
        go_wp2_with fail
        go_roundw
        case rel => exact ⟨3, by omega, rfl, HB.out.alloc hz _⟩
        case measure => simp [intOf]
    | 3, _ =>
      clear cel hb
      go_wp2_with fail
      go_ret
      exact ⟨rfl, BB.out.trans ((Below.refl _ _).alloc (Nat.le_refl _) _ |>.trans (HB.out.mono (by have := BB.out.size; omega)) |>.mono BB.out.size)⟩
end Go.Proofs.Ytidmncoakockkaa
