/- CatchFaster: at more rate, with less lag and less that comes, one lags by no more. -/
import Derived.Test.YtbadhngjkjoiiaaCatchA
import Derived.Test.YtbadhngjkjoiiaaOpen
import Derived.Test.YtbadhngjkjoiiaaEqual
import Derived.Test.YtbadhngjkjoiiaaWithin
import Derived.Test.YtbadhngjkjoiiaaCloneInt
import Derived.StillTailTactics
set_option linter.unusedVariables false
namespace Go.Proofs.Ytbadhngjkjoiiaa
open Go.RowKit
theorem clag_ex (l : List Int) (r g : Int) (o : List Int) (n m : Nat) (hl : l.length = n) (hm : m = n + 1) (hok : catchOk l r g) (h1 : tab m (clag l r g) = o) (A : Option Addr) (c : Nat) (W : World) (hs : Sl W W.heap.size A n (ints l)) :
    Calls Try.prog 16 #[.slice A n c, .int .i64 r, .int .i64 g] W fun e w' => ∃ A1 c1, e = .returned (.tuple #[.slice A1 m c1, .int .i64 0]) ∧
      Sl w' w'.heap.size A1 m (ints o) ∧ Below W.heap.size W w' := by
  subst hm
  exact (clag_ok A n c l r g W hok hs).mono fun _ _ ⟨A1, c1, e, k1, k2, _⟩ => ⟨A1, c1, e, h1 ▸ k1, k2⟩
def bmin (a m : List Int) (k : Nat) : List Int := tab a.length fun j => if j < k then mn (gi a j) (gi m j) else gi a j
theorem bmin_zero (a m : List Int) : bmin a m 0 = a := by
  unfold bmin
  rw [tab_congr (g := gi a) fun i _ => if_neg (Nat.not_lt_zero i)]
  exact tab_of a
theorem bmin_len (a m : List Int) (k : Nat) : (bmin a m k).length = a.length := tab_len _ _
theorem bmin_at {a m : List Int} {k : Nat} (h : k < a.length) : gi (bmin a m k) k = gi a k := by
  unfold bmin
  rw [tab_get _ h, if_neg (Nat.lt_irrefl k)]
theorem bmin_set {a m : List Int} {k : Nat} (h : k < a.length) : (bmin a m k).set k (mn (gi a k) (gi m k)) = bmin a m (k + 1) := by
  unfold bmin
  rw [tab_set _ _ _ h]
  refine tab_congr fun i _ => ?_
  rcases Nat.lt_trichotomy i k with h1 | h1 | h1
  · rw [if_neg (by omega), if_pos h1, if_pos (by omega)]
  · subst h1; rw [if_pos rfl, if_pos (by omega)]
  · rw [if_neg (by omega), if_neg (by omega), if_neg (by omega)]
theorem bmin_full {a m : List Int} {k : Nat} (h : k < a.length) : gi (bmin a m a.length) k = mn (gi a k) (gi m k) := by
  unfold bmin
  rw [tab_get _ h, if_pos h]
theorem bmin_ok {a m : List Int} (ha : traceOk a) (hm : traceOk m) (he : m.length = a.length) : traceOk (bmin a m a.length) := by
  refine ⟨by rw [bmin_len]; exact ha.1, fun z hz => ?_⟩
  obtain ⟨i, hi, rfl⟩ := mem_tab hz
  have h1 := trace_bd ha hi
  have h2 := trace_bd hm (show i < m.length by omega)
  have h3 := mn_le (gi a i) (gi m i)
  rw [if_pos hi]
  omega
theorem clag_less (a b : List Int) (r s g g' : Int) (hs : 0 ≤ s) (hg : g' ≤ g) (n : Nat) (h : ∀ k, k < n → gi b k ≤ gi a k) (k : Nat) (hk : k ≤ n) : clag b (r + s) g' k ≤ clag a r g k := by
  induction k with
  | zero => exact hg
  | succ k ih =>
    have i1 := ih (by omega)
    have i2 := h k (by omega)
    rw [clag_succ, clag_succ]
    unfold mx
    split <;> split <;> omega
set_option maxRecDepth 100000 in
set_option maxHeartbeats 3200000 in
theorem catchFaster_walk (A : Option Addr) (n c : Nat) (l : List Int) (M : Option Addr) (n' c' : Nat) (m : List Int) (r more g less : Int) (W : World) (w0 : InInts W A n c l) (w0' : InInts W M n' c' m) (_ : -9223372036854775808 ≤ r ∧ r ≤ 9223372036854775807) (_ : -9223372036854775808 ≤ more ∧ more ≤ 9223372036854775807) (_ : -9223372036854775808 ≤ g ∧ g ≤ 9223372036854775807) (_ : -9223372036854775808 ≤ less ∧ less ≤ 9223372036854775807) :
    Calls Try.prog 4 #[.slice A n c, .slice M n' c', .int .i64 r, .int .i64 more, .int .i64 g, .int .i64 less] W fun e w' => e = .returned (.bool true) ∧ Below W.heap.size W w' := by
  obtain ⟨s1, l1, r1, _⟩ := w0
  obtain ⟨t1, l1', r1', _⟩ := w0'
  go_enter Try.func4, Try.ntmps4
  go_wp2_with fail
  refine (clag_ex [3, 1] 2 1 [1, 2, 1] 2 3 rfl rfl ⟨⟨by decide, by decide⟩, by decide, by decide, by decide, by decide⟩ (by decide) _ _ _ (by exact Sl.built_ _ (ints [3, 1]) _ _ rfl rfl)).mono ?_
  rintro e w1 ⟨A1, c1, rfl, hs1, hb1'⟩
  have hb1 : Below W.heap.size W w1 := (below_alloc (Below.refl _ W) (.cells (ints [3, 1]).toArray 3)).trans (hb1'.mono (by simp))
  clear hb1'
  go_wp2_with fail
  refine (equal_any _ _ _ _ _ _ _ [1, 2, 1] _ _ _ (hs1.alloc (Nat.le_refl _) _) (Sl.built w1 (ints [1, 2, 1]) _ rfl) (by decide)).mono ?_
  rintro e w2 ⟨rfl, q, rfl⟩
  have hb2 := bel_drewN (below_alloc hb1 (.cells (ints [1, 2, 1]).toArray 3)) q
  have s2 := s1.on hb2
  have t2 := t1.on hb2
  have hlen := s2.int_len
  have hlen' := t2.int_len
  clear hs1 hb1 s1 t1
  go_wp2_with fail
  by_cases h : catchOk l r g
  · refine (clag_ok A n c l r g _ h s2).mono ?_
    rintro e w3 ⟨A3, c3, rfl, hx, hb3', hcap⟩
    have hb3 : Below W.heap.size W w3 := hb2.trans (hb3'.mono hb2.size)
    have s4 := s2.on hb3'
    have t4 := t2.on hb3'
    have H := Lib.hid h
    have HL := Lib.hid hlen
    have HL' := Lib.hid hlen'
    have hn : n ≤ 60 := by have := h.1.1; omega
    obtain ⟨r2, r3, g2, g3⟩ := h.2
    have hnn : (((n + 1 : Nat) : Int) != (n : Int) + 1) = false := by simp
    clear hb2 hb3' s2 t2 hlen hlen' h
    go_wp2_with fail
    by_cases hm : traceOk m
    · refine (tcheck_ok M n' c' m _ _ hm t4).mono ?_
      rintro e w' ⟨rfl, rfl⟩
      rcases Nat.decEq n' n with hne | rfl
      · have hd : ((n' : Int) != n) = true := by simp; omega
        clear s4 t4 hx
        go_wp2_with fail
        go_ret
        exact ⟨rfl, hb3⟩
      · have HM := Lib.hid hm
        have hnn' : ((n' : Int) != n') = false := by simp
        clear hm
        go_wp2_with fail
        refine (cloneInt A n' c _ _ s4 (ints_one _) (by omega)).mono ?_
        rintro e w5 ⟨v5, rfl, hown5, hb5', hz5⟩
        obtain ⟨B5, d5, rfl, hcap5⟩ := own_form hown5
        have hkeep := Lib.hid hx
        have T4 := Lib.hid t4
        have O5 := Lib.hid hown5
        have HB5 := Lib.hid hb5'
        have HB4 := Lib.hid hb3
        clear s4 t4 hx hown5 hb5' hb3
        go_wp2_with fail
        go_loopw [72, 18] (fun i _ wr => ∃ k : Nat, k ≤ n' ∧ i = .int .i64 k ∧ Below w3.heap.size w3 wr ∧ wr.ownsRow w3.heap.size 3 1 (.slice B5 n' d5) n' (ints (bmin l m k))) (fun i _ _ => n' - (intOf i).toNat)
        case atStart => exact ⟨0, Nat.zero_le _, rfl, HB5.out, by rw [bmin_zero]; exact O5.out⟩
        case round =>
          obtain ⟨k, hk, rfl, hbr, hor⟩ := hrel
          by_cases hlt : k < n'
          · obtain ⟨b, cap, hv, hg1, hg2⟩ := hor.form (by omega)
            cases hv
            have hcj := hor.cellAt k (by omega)
            have hkl : k < l.length := by rw [HL.out]; exact hlt
            rw [ints_get (by rw [bmin_len]; exact hkl), bmin_at hkl] at hcj
            have hfj := hor.frozenAt k
            have tr := T4.out.on hbr
            obtain ⟨b1, o1, rfl, q1, hc1⟩ := tr.int_at hlt
            have f2 : (if gi m k < gi l k then gi m k else gi l k) = mn (gi l k) (gi m k) := rfl
            have m1 : (k : Int) < n' := by omega
            have m0 : (0 : Int) ≤ k := by omega
            have hor' := Lib.hid hor
            have hbr' := Lib.hid hbr
            clear hor hbr tr
            go_wp2_with fail
            refine wp_region_still_tail 12 (by kernel_rfl) (by kernel_rfl) ?_
            simp only [List.take_succ_cons, List.take_zero, List.drop_succ_cons, List.drop_zero]
            repeat still_step
            refine wpStill_nil ?_
            change wpList _ _ _ _ _ _
            go_wp2_with fail
            go_roundw
            case rel =>
              have hst := (hor'.out.stored k (.int .i64 (mn (gi l k) (gi m k)))).1
              rw [ints_set, bmin_set hkl] at hst
              exact ⟨k + 1, by omega, by go_num, (hbr'.out.setCell (p := ⟨b, k, none⟩) hg1 _).drew, hst⟩
            case measure => simp [intOf]; omega
          · have hkn : k = n' := by omega
            subst hkn
            have hbw : Below W.heap.size W wr := HB4.out.trans (hbr.mono HB4.out.size)
            have hx5 := hkeep.out.on hbr
            have hS := Sl.of_own hor
            have hbk : bmin l m k = bmin l m l.length := by rw [HL.out]
            rw [hbk] at hS
            have hok6 := bmin_ok H.out.1 HM.out (by rw [HL.out, HL'.out])
            have hge : ∀ i, i < l.length → gi (bmin l m l.length) i ≤ gi l i := fun i hi => by
              rw [bmin_full hi]
              exact (mn_le (gi l i) (gi m i)).1
            clear hor hbr hbk
            have hlb := Lib.hid (show (bmin l m l.length).length = k by rw [bmin_len]; exact HL.out)
            generalize bmin l m l.length = b at *
            have HG := Lib.hid hge
            clear hge
            have f1 : IntKind.i64.wrap (g + 1) = g + 1 := IntWalk.i64_in _ ⟨by omega, by omega⟩
            have f2 : IntKind.i64.wrap (10000 - r + 1) = 10000 - r + 1 := IntWalk.i64_in _ ⟨by omega, by omega⟩
            go_wp2_with fail
            refine (within_any more (10000 - r + 1) _ (by omega) (by omega)).mono ?_
            rintro e w' ⟨rfl, rfl⟩
            have k1 := within_lo more (10000 - r + 1) (by omega)
            have k2 := within_hi more (10000 - r + 1) (by omega)
            generalize within more (10000 - r + 1) = p at *
            go_wp2_with fail
            refine (within_any less (g + 1) _ (by omega) (by omega)).mono ?_
            rintro e w' ⟨rfl, rfl⟩
            have k3 := within_lo less (g + 1) (by omega)
            have k4 := within_hi less (g + 1) (by omega)
            generalize within less (g + 1) = t at *
            go_wp2_with fail
            refine (clag_ok B5 k d5 b (r + p) t _ ⟨hok6, by omega, by omega, k3, by omega⟩ hS).mono ?_
            rintro e w6 ⟨A6, c6, rfl, hz, hb6', hcap6⟩
            have hb6 : Below W.heap.size W w6 := hbw.trans (hb6'.mono hbw.size)
            have hx6 := hx5.on hb6'
            clear hbw hb6' hx5 hS
            go_wp2_with fail
            go_loopw [115, 20] (fun i _ wr => ∃ j : Nat, j ≤ k + 1 ∧ i = .int .i64 j ∧ ∃ q, wr = w6.drewN q) (fun i _ _ => k + 1 - (intOf i).toNat)
            case atStart => exact ⟨0, Nat.zero_le _, rfl, 0, rfl⟩
            case round =>
              obtain ⟨j, hj, rfl, q, rfl⟩ := hrel
              by_cases hlt : j < k + 1
              · obtain ⟨b1, o1, rfl, q1, hc1⟩ := hx6.int_at hlt
                obtain ⟨b3, o3, rfl, q3, hc3⟩ := hz.int_at hlt
                rw [tab_get _ hlt] at hc1 hc3
                have hm1 : (j : Int) < (k + 1 : Nat) := by omega
                have hm0 : (0 : Int) ≤ j := by omega
                have e1 := clag_less l b r p g t k1 (by omega) l.length HG.out j (by rw [HL.out]; omega)
                have t1 : decide (clag l r g j < clag b (r + p) t j) = false := by simp; omega
                clear hx6 hz e1
                go_wp2_with fail
                go_quiet (fail)
                go_wp2_with fail
                go_roundw
                case rel => exact ⟨j + 1, by omega, by go_num, _, rfl⟩
                case measure => simp [intOf]; omega
              · have hkn : j = k + 1 := by omega
                subst hkn
                clear hx6 hz
                go_wp2_with fail
                go_ret
                exact ⟨rfl, bel_drewN hb6 _⟩
    · refine (tcheck_bad M n' c' m _ _ hm t4 (by omega)).mono ?_
      rintro e w' ⟨rfl, rfl⟩
      have hne2 := traceErr_ne m
      clear s4 t4 hx hm
      go_wp2_with fail
      go_ret
      exact ⟨rfl, hb3⟩
  · refine (clag_bad A n c l r g _ _ h s2 (by omega)).mono ?_
    rintro e w3 ⟨rfl, rfl⟩
    have hne := catchErr_ne l
    clear s2 t2 h hlen hlen'
    go_wp2_with fail
    go_ret
    exact ⟨rfl, hb2⟩
end Go.Proofs.Ytbadhngjkjoiiaa
