/- LineJoins: later arrivals do not affect earlier results, and simulation can be resumed from the buffer content. -/
import Derived.Test.YtihhldphpoddhaaLineK
import Derived.Test.YtihhldphpoddhaaConcat
import Derived.Test.YtihhldphpoddhaaCloneInt
import Derived.Test.YtihhldphpoddhaaKit0
import Derived.StillTailTactics
set_option linter.unusedVariables false
namespace Go.Proofs.Ytihhldphpoddhaa
open Go.RowKit
theorem gi_app_l {l m : List Int} {k : Nat} (h : k < l.length) : gi (l ++ m) k = gi l k := by unfold gi; rw [List.getD_eq_getElem?_getD, List.getD_eq_getElem?_getD, List.getElem?_append_left h]
theorem gi_app_r {l m : List Int} {k : Nat} : gi (l ++ m) (l.length + k) = gi m k := by unfold gi; rw [List.getD_eq_getElem?_getD, List.getD_eq_getElem?_getD, List.getElem?_append_right (by omega), Nat.add_sub_cancel_left]
theorem tab_take (n m : Nat) (f : Nat → Int) (h : m ≤ n) : (tab n f).take m = tab m f := by
  refine gi_ext (by rw [List.length_take, tab_len, tab_len]; omega) fun i hi => ?_
  rw [List.length_take, tab_len] at hi
  rw [gi_take (by omega), tab_get _ (by omega), tab_get _ (by omega)]
theorem tab_drop (n m : Nat) (f : Nat → Int) (h : m ≤ n) : (tab n f).drop m = tab (n - m) fun k => f (m + k) := by
  refine gi_ext (by rw [List.length_drop, tab_len, tab_len]) fun i hi => ?_
  rw [List.length_drop, tab_len] at hi
  rw [tab_get _ hi]
  unfold gi
  rw [List.getD_eq_getElem?_getD, List.getElem?_drop, ← List.getD_eq_getElem?_getD]
  exact tab_get f (show m + i < n by omega)
theorem lbuf_l (a b : List Int) (r : Int) (k : Nat) (hk : k ≤ a.length) : lbuf (a ++ b) r k = lbuf a r k := by
  induction k with
  | zero => rfl
  | succ k ih =>
    rw [lbuf_succ, lbuf_succ]
    unfold ldep
    rw [ih (by omega), gi_app_l (by omega)]
theorem ldep_l (a b : List Int) (r : Int) (k : Nat) (hk : k < a.length) : ldep (a ++ b) r k = ldep a r k := by
  unfold ldep
  rw [lbuf_l a b r k (by omega), gi_app_l hk]
/-- b with what waits put upon its first. -/
def restL (b : List Int) (p : Int) : List Int := b.set 0 (gi b 0 + p)
theorem rest_gi (b : List Int) (p : Int) (hb : 0 < b.length) (k : Nat) : gi (restL b p) k = if k = 0 then gi b 0 + p else gi b k := gi_set b 0 k _ hb
theorem lbuf_r (a b : List Int) (r : Int) (hb : 0 < b.length) (k : Nat) (hk : k < b.length) : ldep (restL b (lbuf a r a.length)) r k = ldep (a ++ b) r (a.length + k) ∧ lbuf (restL b (lbuf a r a.length)) r (k + 1) = lbuf (a ++ b) r (a.length + k + 1) := by
  induction k with
  | zero =>
    have e : ldep (restL b (lbuf a r a.length)) r 0 = ldep (a ++ b) r (a.length + 0) := by
      unfold ldep
      rw [Nat.add_zero, lbuf_l a b r a.length (Nat.le_refl _), rest_gi _ _ hb, if_pos rfl]
      have := gi_app_r (l := a) (m := b) (k := 0)
      rw [Nat.add_zero] at this
      rw [this, show lbuf (restL b (lbuf a r a.length)) r 0 = 0 from rfl]
      rw [show (0 : Int) + (gi b 0 + lbuf a r a.length) = lbuf a r a.length + gi b 0 by omega]
    refine ⟨e, ?_⟩
    rw [lbuf_succ, lbuf_succ, e, rest_gi _ _ hb, if_pos rfl, show lbuf (restL b (lbuf a r a.length)) r 0 = 0 from rfl]
    rw [Nat.add_zero, lbuf_l a b r a.length (Nat.le_refl _)]
    have := gi_app_r (l := a) (m := b) (k := 0)
    rw [Nat.add_zero] at this
    rw [this]
    omega
  | succ k ih =>
    obtain ⟨-, i2⟩ := ih (by omega)
    have g : gi (restL b (lbuf a r a.length)) (k + 1) = gi (a ++ b) (a.length + (k + 1)) := by rw [rest_gi _ _ hb, if_neg (by omega), gi_app_r]
    have e : ldep (restL b (lbuf a r a.length)) r (k + 1) = ldep (a ++ b) r (a.length + (k + 1)) := by
      unfold ldep
      rw [i2, g]; rfl
    refine ⟨e, ?_⟩
    rw [lbuf_succ, lbuf_succ (a ++ b) r (a.length + (k + 1)), e, g, i2]; rfl
set_option maxRecDepth 100000 in
set_option maxHeartbeats 6400000 in
theorem lineJoins_walk (A : Option Addr) (n c : Nat) (a : List Int) (B : Option Addr) (m d : Nat) (b : List Int) (r : Int) (W : World) (w0 : InInts W A n c a) (w1 : InInts W B m d b) (_ : -9223372036854775808 ≤ r ∧ r ≤ 9223372036854775807) (hk : n ≤ 1048576 ∧ m ≤ 1048576) :
    Calls Try.prog 7 #[.slice A n c, .slice B m d, .int .i64 r] W fun e w' => e = .returned (.bool true) ∧ Below W.heap.size W w' := by
  obtain ⟨s0, l0, r0, _⟩ := w0
  obtain ⟨sm, lm, rm, _⟩ := w1
  obtain ⟨kn, km⟩ := hk
  go_enter Try.func7, Try.ntmps7
  go_wp2_with fail
  refine (lrun_t _ 2 _ [4, 0] 1 _ (Sl.built_ _ (ints [4, 0]) 3 _ rfl rfl) (by omega) ⟨⟨by decide, by decide⟩, by omega, by omega⟩ _ _ 0 2 rfl rfl).mono ?_
  rintro e w1 ⟨A1, c1, A2, c2, rfl, s1, s2, bb1⟩
  rw [show tab 2 (fun k => lbuf [4, 0] 1 (k + 1)) = [3, 2] by decide] at s2
  have b1 := belLit1 (Below.refl W.heap.size W) bb1
  replace s0 := slLit1 s0 bb1
  replace sm := slLit1 sm bb1
  clear bb1 s1
  go_wp2_with fail
  refine (equal_t A2 2 c2 [3, 2] _ 2 _ [3, 2] _ (slMore s2 _) (Sl.built_ _ (ints [3, 2]) 3 _ rfl rfl) (by omega) (by omega) true (by decide)).mono ?_
  rintro e w2 ⟨rfl, bb2⟩
  have b2 := belLit1 b1 bb2
  replace s0 := slLit1 s0 bb2
  replace sm := slLit1 sm bb2
  clear b1 s2 bb2
  have HLA := Lib.hid s0.int_len
  have HLB := Lib.hid sm.int_len
  have hlab := Lib.hid (show (a ++ b).length = n + m by rw [List.length_append, HLA.out, HLB.out])
  by_cases hok : lineOk a r
  case neg =>
    have hne := lineErr_ne a r
    have HOK := Lib.hid hok
    clear hok
    go_wp2_with fail
    refine (lrun_n A n c a r _ s0 (by omega) HOK.out [] [] (lineErr a r) 0 rfl rfl).mono ?_
    rintro e w3 ⟨A3, c3, A4, c4, rfl, s3, s4, bb3⟩
    have b3 := belLit0 b2 bb3
    replace s0 := slLit0 s0 bb3
    replace sm := slLit0 sm bb3
    clear b2 bb3 s3 s4
    go_wp2_with fail
    refine (concat_two w3.heap.size 2 A n c (ints a) B m d (ints b) _ (by simp) (World.cell?_alloc_at _ _ _ _ rfl) (World.cell?_alloc_at _ _ _ _ rfl) (slMore s0 _) (slMore sm _) (ints_one _) (ints_one _) (by omega)).mono ?_
    rintro e w4 ⟨v4, rfl, own4, bb4, z4⟩
    have b4 := belLit1 b3 bb4
    obtain ⟨A5, c5, rfl, l5⟩ := own_form own4
    have s5 := Sl.of_own own4
    rw [ints_app] at s5
    clear b3 bb4 s0 sm own4
    by_cases hok2 : lineOk (a ++ b) r
    · have HOK2 := Lib.hid hok2
      clear hok2
      go_wp2_with fail
      refine (lrun_t A5 (n + m) c5 (a ++ b) r _ s5 (by omega) HOK2.out _ _ 0 (n + m) rfl rfl).mono ?_
      rintro e w6 ⟨A6, c6, A7, c7, rfl, s6, s7, bb6⟩
      have b6 := belLit0 b4 bb6
      clear b4 bb6 s5 s6 s7
      go_wp2_with fail
      go_ret
      exact ⟨rfl, b6⟩
    · have hne2 := lineErr_ne (a ++ b) r
      have HOK2 := Lib.hid hok2
      clear hok2
      go_wp2_with fail
      refine (lrun_n A5 (n + m) c5 (a ++ b) r _ s5 (by omega) HOK2.out [] [] (lineErr (a ++ b) r) 0 rfl rfl).mono ?_
      rintro e w6 ⟨A6, c6, A7, c7, rfl, s6, s7, bb6⟩
      have b6 := belLit0 b4 bb6
      clear b4 bb6 s5 s6 s7
      go_wp2_with fail
      go_ret
      exact ⟨rfl, b6⟩
  have HOK := Lib.hid hok
  have na : n ≤ 60 := by have := hok.1.1; rw [HLA.out] at this; exact this
  have r0' := hok.2.1
  have r1' := hok.2.2
  clear hok
  go_wp2_with fail
  refine (lrun_t A n c a r _ s0 (by omega) HOK.out _ _ 0 n rfl rfl).mono ?_
  rintro e w3 ⟨A3, c3, A4, c4, rfl, s3, s4, bb3⟩
  have b3 := belLit0 b2 bb3
  replace s0 := slLit0 s0 bb3
  replace sm := slLit0 sm bb3
  clear b2 bb3
  go_wp2_with fail
  refine (concat_two w3.heap.size 2 A n c (ints a) B m d (ints b) _ (by simp) (World.cell?_alloc_at _ _ _ _ rfl) (World.cell?_alloc_at _ _ _ _ rfl) (slMore s0 _) (slMore sm _) (ints_one _) (ints_one _) (by omega)).mono ?_
  rintro e w4 ⟨v4, rfl, own4, bb4, z4⟩
  have b4 := belLit1 b3 bb4
  replace sm := slLit1 sm bb4
  replace s3 := slLit1 s3 bb4
  replace s4 := slLit1 s4 bb4
  obtain ⟨A5, c5, rfl, l5⟩ := own_form own4
  have s5 := Sl.of_own own4
  rw [ints_app] at s5
  clear b3 bb4 s0 own4
  by_cases hok2 : lineOk (a ++ b) r
  case neg =>
    have hne2 := lineErr_ne (a ++ b) r
    have HOK2 := Lib.hid hok2
    clear hok2
    go_wp2_with fail
    refine (lrun_n A5 (n + m) c5 (a ++ b) r _ s5 (by omega) HOK2.out [] [] (lineErr (a ++ b) r) 0 rfl rfl).mono ?_
    rintro e w6 ⟨A6, c6, A7, c7, rfl, s6, s7, bb6⟩
    have b6 := belLit0 b4 bb6
    clear b4 bb6 s5 s6 s7 s3 s4 sm
    go_wp2_with fail
    go_ret
    exact ⟨rfl, b6⟩
  have HOK2 := Lib.hid hok2
  have nm60 : n + m ≤ 60 := by have := hok2.1.1; rw [hlab.out] at this; exact this
  clear hok2
  go_wp2_with fail
  refine (lrun_ok A5 (n + m) c5 (a ++ b) r _ HOK2.out s5).mono ?_
  rintro e w6 ⟨A6, c6, A7, c7, rfl, s6, s7, bb6, l6, l7⟩
  have b6 := belLit0 b4 bb6
  replace sm := slLit0 sm bb6
  replace s3 := slLit0 s3 bb6
  replace s4 := slLit0 s4 bb6
  clear b4 bb6 s5
  have g0 : ((n : Int) != n) = false := by simp
  have g0' : (((n + m : Nat) : Int) != (n : Int) + m) = false := by simp
  have g0'' : (((n + m : Nat) : Int) != ((n + m : Nat) : Int)) = false := by simp
  have f0 : IntKind.i64.wrap ((n : Int) + m) = (n : Int) + m := IntWalk.i64_in _ ⟨by omega, by omega⟩
  have g2 : (n : Int) ≤ c6 := by omega
  have g2' : (n : Int) ≤ c7 := by omega
  have g3 : (0 : Int) ≤ n := by omega
  have t6 : Sl w6 w6.heap.size A6 n (ints (tab n (ldep a r))) := by
    have := s6.take (k := n) (by omega)
    rwa [ints_take, tab_take _ _ _ (by omega), tab_congr fun i hi => ldep_l a b r i (by rw [HLA.out]; omega)] at this
  have t7 : Sl w6 w6.heap.size A7 n (ints (tab n fun k => lbuf a r (k + 1))) := by
    have := s7.take (k := n) (by omega)
    rwa [ints_take, tab_take _ _ _ (by omega), tab_congr fun i hi => lbuf_l a b r (i + 1) (by rw [HLA.out]; omega)] at this
  go_wp2_with fail
  refine (equal_t A3 n c3 (tab n (ldep a r)) A6 n c6 (tab n (ldep a r)) _ s3 t6 (by omega) (by omega) true (by simp)).mono ?_
  rintro e w7 ⟨rfl, bb7⟩
  have b7 := belLit0 b6 bb7
  replace sm := slLit0 sm bb7
  replace s4 := slLit0 s4 bb7
  replace s6 := slLit0 s6 bb7
  replace s7 := slLit0 s7 bb7
  replace t7 := slLit0 t7 bb7
  clear b6 bb7 s3 t6
  go_wp2_with fail
  refine (equal_t A4 n c4 (tab n fun k => lbuf a r (k + 1)) A7 n c7 (tab n fun k => lbuf a r (k + 1)) _ s4 t7 (by omega) (by omega) true (by simp)).mono ?_
  rintro e w8 ⟨rfl, bb8⟩
  have b8 := belLit0 b7 bb8
  replace sm := slLit0 sm bb8
  replace s4 := slLit0 s4 bb8
  replace s6 := slLit0 s6 bb8
  replace s7 := slLit0 s7 bb8
  clear b7 bb8 t7
  by_cases hn0 : n = 0
  case pos =>
    have e0 : ((n : Int) == 0) = true := by simp; omega
    clear sm s4 s6 s7 hn0
    go_wp2_with fail
    go_ret
    exact ⟨rfl, b8⟩
  have e0 : ((n : Int) == 0) = false := by simp; omega
  have np : 0 < n := by omega
  clear hn0
  by_cases hm0 : m = 0
  case pos =>
    have e0' : ((m : Int) == 0) = true := by simp; omega
    clear sm s4 s6 s7 hm0
    go_wp2_with fail
    go_ret
    exact ⟨rfl, b8⟩
  have e0' : ((m : Int) == 0) = false := by simp; omega
  have mp : 0 < m := by omega
  clear hm0
  go_wp2_with fail
  refine (cloneInt B m d (ints b) _ sm (ints_one _) (by omega)).mono ?_
  rintro e w9 ⟨v, rfl, own9, bb9, z9⟩
  have b9 := belLit0 b8 bb9
  replace s4 := slLit0 s4 bb9
  have S6 := Lib.hid s6
  have S7 := Lib.hid s7
  clear s6 s7
  obtain ⟨g, cap, rfl, hg1, hg2⟩ := own9.form mp
  have hcj := own9.cellAt 0 (by omega)
  rw [ints_get (by rw [HLB.out]; omega)] at hcj
  have hfj := own9.frozenAt 0
  obtain ⟨j, hj⟩ : ∃ j, n = j + 1 := ⟨n - 1, by omega⟩
  obtain ⟨bp, op, rfl, q4, hcp⟩ := s4.int_at (k := j) (by omega)
  rw [tab_get _ (by omega), ← hj] at hcp
  have hP := lbuf_bd HOK.out n (by rw [HLA.out]; exact Nat.le_refl _)
  have hG := trace_bd HOK2.out.1 (i := n + 0) (by rw [hlab.out]; omega)
  rw [show gi (a ++ b) (n + 0) = gi b 0 by rw [← HLA.out]; exact gi_app_r] at hG
  have f1 : IntKind.i64.wrap ((n : Int) - 1) = (j : Int) := by rw [IntWalk.i64_in _ ⟨by omega, by omega⟩]; omega
  have f3 : (0 : Int) ≤ j := by omega
  have f4 : (j : Int) < n := by omega
  have f4' : j < n := by omega
  have HJ := Lib.hid hj
  clear hj
  have f5 : IntKind.i64.wrap (gi b 0 + lbuf a r n) = gi b 0 + lbuf a r n := IntWalk.i64_in _ ⟨by omega, by omega⟩
  have f6 : (0 : Int) < m := by omega
  have ho := Lib.hid own9
  have hb := Lib.hid b9
  have hbb := Lib.hid bb9
  have hb8 := Lib.hid b8
  clear b8 b9 bb9 s4 sm own9
  go_wp2_with fail
  refine wp_region_still_tail 11 (by kernel_rfl) (by kernel_rfl) ?_
  simp only [List.take_succ_cons, List.take_zero, List.drop_succ_cons, List.drop_zero]
  repeat still_step
  refine wpStill_nil ?_
  change wpList _ _ _ _ _ w9.drew
  have hown := (ho.out.stored 0 (.int .i64 (gi b 0 + lbuf a r n))).1
  rw [ints_set] at hown
  have st : Sl (w9.setCell ⟨g, 0, none⟩ (.int .i64 (gi b 0 + lbuf a r n))).drew (w9.setCell ⟨g, 0, none⟩ (.int .i64 (gi b 0 + lbuf a r n))).drew.heap.size (some ⟨g, 0, none⟩) m (ints (restL b (lbuf a r n))) := Sl.of_own hown
  have bT : Below W.heap.size W (w9.setCell ⟨g, 0, none⟩ (.int .i64 (gi b 0 + lbuf a r n))).drew := (hb.out.setCell (p := ⟨g, 0, none⟩) (Nat.le_trans hb8.out.size hg1) _).drew
  have b8T : Below w8.heap.size w8 (w9.setCell ⟨g, 0, none⟩ (.int .i64 (gi b 0 + lbuf a r n))).drew := (hbb.out.setCell (p := ⟨g, 0, none⟩) hg1 _).drew
  have BT := Lib.hid bT
  have ST := Lib.hid st
  have B8T := Lib.hid b8T
  clear hown st bT b8T ho
  rcases hdec : decide (10000 < gi b 0 + lbuf a r n) with _ | _
  case true =>
    go_wp2_with fail
    go_ret
    exact ⟨rfl, BT.out⟩
  have hX : gi b 0 + lbuf a r n ≤ 10000 := by have := of_decide_eq_false hdec; omega
  go_wp2_with fail
  generalize (w9.setCell ⟨g, 0, none⟩ (.int .i64 (gi b 0 + lbuf a r n))).drew = wT at ST BT B8T ⊢
  have hokr : lineOk (restL b (lbuf a r n)) r := by
    refine ⟨⟨by unfold restL; rw [List.length_set, HLB.out]; omega, fun z hz => ?_⟩, r0', r1'⟩
    rcases List.mem_or_eq_of_mem_set hz with h | h
    · exact HOK2.out.1.2 z (List.mem_append_right _ h)
    · rw [h]; omega
  have HR := Lib.hid hokr
  clear hokr hcj hcp
  have s6 := slLit0 S6.out B8T.out
  have s7 := slLit0 S7.out B8T.out
  refine (lrun_t _ m cap _ r _ ST.out (by omega) HR.out _ _ 0 m rfl rfl).mono ?_
  rintro e w10 ⟨A10, c10, A11, c11, rfl, s10, s11, bb10⟩
  have b10 := belLit0 BT.out bb10
  replace s6 := slLit0 s6 bb10
  replace s7 := slLit0 s7 bb10
  obtain ⟨b6, o6, rfl, q6, _⟩ := s6.int_at (k := 0) (by omega)
  obtain ⟨b7, o7, rfl, q7, _⟩ := s7.int_at (k := 0) (by omega)
  have t6 : Sl w10 w10.heap.size (some ⟨b6, o6 + n, none⟩) m (ints (tab m (ldep (restL b (lbuf a r n)) r))) := by
    have := s6.drop_at (k := n) (by omega)
    rw [ints_drop, tab_drop _ _ _ (by omega), show n + m - n = m by omega] at this
    rwa [tab_congr (g := ldep (restL b (lbuf a r n)) r) fun i hi => ?_] at this
    have := (lbuf_r a b r (by rw [HLB.out]; omega) i (by rw [HLB.out]; omega)).1
    rw [HLA.out] at this
    exact this.symm
  have t7 : Sl w10 w10.heap.size (some ⟨b7, o7 + n, none⟩) m (ints (tab m fun k => lbuf (restL b (lbuf a r n)) r (k + 1))) := by
    have := s7.drop_at (k := n) (by omega)
    rw [ints_drop, tab_drop _ _ _ (by omega), show n + m - n = m by omega] at this
    rwa [tab_congr (g := fun k => lbuf (restL b (lbuf a r n)) r (k + 1)) fun i hi => ?_] at this
    have := (lbuf_r a b r (by rw [HLB.out]; omega) i (by rw [HLB.out]; omega)).2
    rw [HLA.out] at this
    exact this.symm
  have h6 : (n : Int) ≤ (n + m : Nat) := by omega
  have h6' : n ≤ n + m := by omega
  have h6'' : ¬ c6 = n := by omega
  have h7'' : ¬ c7 = n := by omega
  have hs : n + m - n = m := by omega
  clear s6 s7 bb10
  go_wp2_with fail
  refine (equal_t A10 m c10 _ _ m (c6 - n) _ _ s10 t6 (by omega) (by omega) true (by simp)).mono ?_
  rintro e w11 ⟨rfl, bb11⟩
  have b11 := belLit0 b10 bb11
  replace s11 := slLit0 s11 bb11
  replace t7 := slLit0 t7 bb11
  clear bb11 b10 t6 s10
  go_wp2_with fail
  refine (equal_t A11 m c11 _ _ m (c7 - n) _ _ s11 t7 (by omega) (by omega) true (by simp)).mono ?_
  rintro e w12 ⟨rfl, bb12⟩
  have b12 := belLit0 b11 bb12
  clear bb12 b11 t7 s11
  go_wp2_with fail
  go_ret
  exact ⟨rfl, b12⟩
end Go.Proofs.Ytihhldphpoddhaa
