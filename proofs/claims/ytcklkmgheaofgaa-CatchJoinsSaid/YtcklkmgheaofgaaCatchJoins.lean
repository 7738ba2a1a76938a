/- CatchJoins: one may stop at any time and go on from there. -/
import Derived.Test.YtcklkmgheaofgaaCatchFaster
import Derived.Test.YtcklkmgheaofgaaConcat
set_option linter.unusedVariables false
namespace Go.Proofs.Ytcklkmgheaofgaa
open Go.RowKit
theorem gi_app_l {l m : List Int} {k : Nat} (h : k < l.length) : gi (l ++ m) k = gi l k := by unfold gi; rw [List.getD_eq_getElem?_getD, List.getD_eq_getElem?_getD, List.getElem?_append_left h]
theorem gi_app_r {l m : List Int} {k : Nat} : gi (l ++ m) (l.length + k) = gi m k := by unfold gi; rw [List.getD_eq_getElem?_getD, List.getD_eq_getElem?_getD, List.getElem?_append_right (by omega), Nat.add_sub_cancel_left]
theorem clag_app_l {l m : List Int} (r g : Int) (k : Nat) (h : k ≤ l.length) : clag (l ++ m) r g k = clag l r g k := by
  induction k with
  | zero => rfl
  | succ k ih => rw [clag_succ, clag_succ, ih (by omega), gi_app_l (by omega)]
theorem clag_app_r {l m : List Int} (r g : Int) (k : Nat) : clag (l ++ m) r g (l.length + k) = clag m r (clag l r g l.length) k := by
  induction k with
  | zero => exact clag_app_l r g _ (Nat.le_refl _)
  | succ k ih => rw [← Nat.add_assoc, clag_succ, clag_succ, ih, gi_app_r]
theorem tab_take (n m : Nat) (f : Nat → Int) (h : m ≤ n) : (tab n f).take m = tab m f := by
  refine gi_ext (by rw [List.length_take, tab_len, tab_len]; omega) fun i hi => ?_
  rw [List.length_take, tab_len] at hi
  rw [gi_take (by omega), tab_get _ (by omega), tab_get _ (by omega)]
theorem tab_drop (n m : Nat) (f : Nat → Int) (h : m ≤ n) : (tab n f).drop m = tab (n - m) fun k => f (m + k) := by
  refine gi_ext (by rw [List.length_drop, tab_len, tab_len]) fun i hi => ?_
  rw [List.length_drop, tab_len] at hi
  rw [tab_get _ hi]
  have : gi ((tab n f).drop m) i = gi (tab n f) (m + i) := by simp [gi]
  rw [this, tab_get _ (by omega)]
set_option maxRecDepth 100000 in
set_option maxHeartbeats 3200000 in
theorem catchJoins_walk (A : Option Addr) (n c : Nat) (l : List Int) (M : Option Addr) (n' c' : Nat) (m : List Int) (r g : Int) (W : World) (w0 : InInts W A n c l) (w0' : InInts W M n' c' m) (_ : -9223372036854775808 ≤ r ∧ r ≤ 9223372036854775807) (_ : -9223372036854775808 ≤ g ∧ g ≤ 9223372036854775807) :
    Calls Try.prog 3 #[.slice A n c, .slice M n' c', .int .i64 r, .int .i64 g] W fun e w' => e = .returned (.bool true) ∧ Below W.heap.size W w' := by
  obtain ⟨s1, l1, r1, _⟩ := w0
  obtain ⟨t1, l1', r1', _⟩ := w0'
  go_enter Try.func3, Try.ntmps3
  go_wp2_with fail
  refine (clag_ex [0, 0] 2 5 [5, 3, 1] 2 3 rfl rfl ⟨⟨by decide, by decide⟩, by decide, by decide, by decide, by decide⟩ (by decide) _ _ _ (by exact Sl.built_ _ (ints [0, 0]) _ _ rfl rfl)).mono ?_
  rintro e w1 ⟨A1, c1, rfl, hs1, hb1'⟩
  have hb1 : Below W.heap.size W w1 := (below_alloc (Below.refl _ W) (.cells (ints [0, 0]).toArray 3)).trans (hb1'.mono (by simp))
  clear hb1'
  go_wp2_with fail
  refine (equal_any _ _ _ _ _ _ _ [5, 3, 1] _ _ _ (hs1.alloc (Nat.le_refl _) _) (Sl.built w1 (ints [5, 3, 1]) _ rfl) (by decide)).mono ?_
  rintro e w2 ⟨rfl, q, rfl⟩
  have hb2 := bel_drewN (below_alloc hb1 (.cells (ints [5, 3, 1]).toArray 3)) q
  have s2 := s1.on hb2
  have t2 := t1.on hb2
  have hlen := s2.int_len
  have hlen' := t2.int_len
  clear hs1 hb1 s1 t1
  go_wp2_with fail
  by_cases h : catchOk l r g
  · refine (clag_ok A n c l r g _ h s2).mono ?_
    rintro e w3 ⟨A3, c3, rfl, hx, hb3', hcap⟩
    have hb3 : Below W.heap.size W w3 := hb2.trans (hb3'.mono hb2.size)
    have s4 := s2.on hb3'
    have t4 := t2.on hb3'
    have H := Lib.hid h
    have HL := Lib.hid hlen
    have HL' := Lib.hid hlen'
    have hn : n ≤ 60 := by have := h.1.1; omega
    obtain ⟨r2, r3, g2, g3⟩ := h.2
    have hnn : (((n + 1 : Nat) : Int) != (n : Int) + 1) = false := by simp
    clear hb2 hb3' s2 t2 hlen hlen' h
    go_wp2_with fail
    have hbt := Sl.built w3 [.slice A n c, .slice M n' c'] 22 rfl
    refine (concat_two w3.heap.size 2 A n c (ints l) M n' c' (ints m) _ (by simp) (hbt.cell_ (k := 0) rfl) (hbt.cell_ (k := 1) rfl) ((s4.alloc (Nat.le_refl _) _).more (by simp)) ((t4.alloc (Nat.le_refl _) _).more (by simp)) (ints_one _) (ints_one _) (by omega)).mono ?_
    rintro e w5 ⟨v5, rfl, hown5, hb5', hz5⟩
    have hb5 : Below W.heap.size W w5 := hb3.trans ((((Below.refl _ w3).alloc (Nat.le_refl _) _).trans (hb5'.mono (by simp))).mono hb3.size)
    have hb35 : Below w3.heap.size w3 w5 := ((Below.refl _ w3).alloc (Nat.le_refl _) _).trans (hb5'.mono (by simp))
    obtain ⟨A5, c5, rfl, hcap5⟩ := own_form hown5
    have s6 := s4.on hb35
    have t6 := t4.on hb35
    have hx6 := hx.on hb35
    have hS := Sl.of_own hown5
    rw [ints_app] at hS
    clear hown5 hb5' hb35 hbt s4 t4 hx hb3 hz5
    go_wp2_with fail
    by_cases hj : catchOk (l ++ m) r g
    · refine (clag_ok A5 (n + n') c5 (l ++ m) r g _ hj hS).mono ?_
      rintro e w7 ⟨A7, c7, rfl, hy, hb7', hcap7⟩
      have hb7 : Below W.heap.size W w7 := hb5.trans (hb7'.mono hb5.size)
      have t7 := t6.on hb7'
      have hx7 := hx6.on hb7'
      have HJ := Lib.hid hj
      have hn2 : n + n' ≤ 60 := by have := hj.1.1; rw [List.length_append, HL.out, HL'.out] at this; exact this
      have hmok : traceOk m := ⟨by rw [HL'.out]; omega, fun z hz => HJ.out.1.2 z (List.mem_append_right _ hz)⟩
      have hnn2 : (((n + n' + 1 : Nat) : Int) != (n : Int) + n' + 1) = false := by simp
      have hnn3 : (((n + n' + 1 : Nat) : Int) == (n : Int) + n' + 1) = true := by simp
      have hbl := clag_bd H.out n (by rw [HL.out]; exact Nat.le_refl _)
      obtain ⟨b1, o1, rfl, q1, hc1⟩ := hx7.int_at (show n < n + 1 by omega)
      rw [tab_get _ (by omega)] at hc1
      have hm1 : (n : Int) < (n + 1 : Nat) := by omega
      have hm0 : (0 : Int) ≤ n := by omega
      have HX := Lib.hid hx7
      have HY := Lib.hid hy
      have HT := Lib.hid t7
      clear hb5 hb7' hj s6 t6 hx6 hS hx7 hy t7
      by_cases hbig : 1000000 < clag l r g n
      · clear HX HY HT
        go_wp2_with fail
        go_ret
        exact ⟨rfl, hb7⟩
      · go_wp2_with fail
        refine (clag_ok M n' c' m r (clag l r g n) _ ⟨hmok, r2, r3, hbl.1, by omega⟩ HT.out).mono ?_
        rintro e w8 ⟨A8, c8, rfl, hz, hb8', hcap8⟩
        have hb8 : Below W.heap.size W w8 := hb7.trans (hb8'.mono hb7.size)
        have hx8 := HX.out.on hb8'
        have hy8 := HY.out.on hb8'
        clear hb7 hb8' HX HY HT
        obtain ⟨b2, o2, rfl, q2, _⟩ := hy8.int_at (show 0 < n + n' + 1 by omega)
        have htk := hy8.take (k := n + 1) (by omega)
        rw [ints_take, tab_take _ _ _ (by omega), tab_congr fun i hi => clag_app_l r g i (by rw [HL.out]; omega)] at htk
        have hdp := hy8.drop_at (k := n) (by omega)
        have e2 : ∀ i, clag (l ++ m) r g (n + i) = clag m r (clag l r g n) i := fun i => by
          have := clag_app_r (l := l) (m := m) r g i
          rw [HL.out] at this
          exact this
        rw [ints_drop, tab_drop _ _ _ (by omega), tab_congr (g := clag m r (clag l r g n)) fun i _ => e2 i] at hdp
        have hdp2 : Sl w8 w8.heap.size (some ⟨b2, o2 + n, none⟩) (n + n' + 1 - n) (ints (tab (n' + 1) (clag m r (clag l r g n)))) := by
          have e3 : n + n' + 1 - n = n' + 1 := by omega
          rw [e3]
          rw [e3] at hdp
          exact hdp
        clear e2
        have HDP := Lib.hid hdp2
        have HZ := Lib.hid hz
        clear hdp hdp2 hz hy8
        go_wp2_with fail
        refine (equal_any _ _ _ _ _ _ _ _ _ _ _ hx8 htk (by omega)).mono ?_
        rintro e w9 ⟨rfl, q9, rfl⟩
        clear hx8 htk
        go_wp2_with fail
        refine (equal_any _ _ _ _ _ _ _ _ _ _ _ (HZ.out.drewN q9) (HDP.out.drewN q9) (by omega)).mono ?_
        rintro e w10 ⟨rfl, q10, rfl⟩
        clear HZ HDP
        go_wp2_with fail
        go_ret
        exact ⟨rfl, bel_drewN hb8 _⟩
    · refine (clag_bad A5 (n + n') c5 (l ++ m) r g _ _ hj hS (by omega)).mono ?_
      rintro e w7 ⟨rfl, rfl⟩
      have hne := catchErr_ne (l ++ m)
      clear s6 t6 hx6 hS hj
      go_wp2_with fail
      go_ret
      exact ⟨rfl, hb5⟩
  · refine (clag_bad A n c l r g _ _ h s2 (by omega)).mono ?_
    rintro e w3 ⟨rfl, rfl⟩
    have hne := catchErr_ne l
    clear s2 t2 h hlen hlen'
    go_wp2_with fail
    go_ret
    exact ⟨rfl, hb2⟩
end Go.Proofs.Ytcklkmgheaofgaa
