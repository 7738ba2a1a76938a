/- LineGrows: a faster link leaves no more, more arrivals no less. -/
import Derived.Test.YtihhldphpoddhaaLineTwo
import Derived.Test.YtihhldphpoddhaaCloneInt
import Derived.StillTailTactics
set_option linter.unusedVariables false
namespace Go.Proofs.Ytihhldphpoddhaa
open Go.RowKit
def badd (a m : List Int) (k : Nat) : List Int := tab a.length fun j => if j < k then mn 10000 (gi a j + gi m j) else gi a j
theorem badd_zero (a m : List Int) : badd a m 0 = a := by
  unfold badd
  rw [tab_congr (g := gi a) fun i _ => if_neg (Nat.not_lt_zero i)]
  exact tab_of a
theorem badd_len (a m : List Int) (k : Nat) : (badd a m k).length = a.length := tab_len _ _
theorem badd_at {a m : List Int} {k : Nat} (h : k < a.length) : gi (badd a m k) k = gi a k := by
  unfold badd
  rw [tab_get _ h, if_neg (Nat.lt_irrefl k)]
theorem badd_set {a m : List Int} {k : Nat} (h : k < a.length) : (badd a m k).set k (mn 10000 (gi a k + gi m k)) = badd a m (k + 1) := by
  unfold badd
  rw [tab_set _ _ _ h]
  refine tab_congr fun i _ => ?_
  rcases Nat.lt_trichotomy i k with h1 | h1 | h1
  · rw [if_neg (by omega), if_pos h1, if_pos (by omega)]
  · subst h1; rw [if_pos rfl, if_pos (by omega)]
  · rw [if_neg (by omega), if_neg (by omega), if_neg (by omega)]
theorem badd_full {a m : List Int} {k : Nat} (h : k < a.length) : gi (badd a m a.length) k = mn 10000 (gi a k + gi m k) := by
  unfold badd
  rw [tab_get _ h, if_pos h]
theorem badd_ok {a m : List Int} (ha : traceOk a) (hm : traceOk m) (he : m.length = a.length) : traceOk (badd a m a.length) := by
  refine ⟨by rw [badd_len]; exact ha.1, fun z hz => ?_⟩
  obtain ⟨i, hi, rfl⟩ := mem_tab hz
  have h1 := trace_bd ha hi
  have h2 := trace_bd hm (show i < m.length by omega)
  have h3 := mn_le 10000 (gi a i + gi m i)
  rw [if_pos hi]
  omega
theorem lbuf_rate (a : List Int) (r s : Int) (hs : 0 ≤ s) (k : Nat) : lbuf a (r + s) k ≤ lbuf a r k := by
  induction k with
  | zero => exact Int.le_refl _
  | succ k ih =>
    rw [lbuf_succ, lbuf_succ, ldep_def, ldep_def]
    unfold mn
    split <;> split <;> omega
theorem lbuf_more (a b : List Int) (r : Int) (n : Nat) (h : ∀ k, k < n → gi a k ≤ gi b k) (k : Nat) (hk : k ≤ n) : lbuf a r k ≤ lbuf b r k := by
  induction k with
  | zero => exact Int.le_refl _
  | succ k ih =>
    have i1 := ih (by omega)
    have i2 := h k (by omega)
    rw [lbuf_succ, lbuf_succ, ldep_def, ldep_def]
    unfold mn
    split <;> split <;> omega
set_option maxRecDepth 100000 in
set_option maxHeartbeats 3200000 in
theorem lineGrows_walk (A : Option Addr) (n c : Nat) (l : List Int) (M : Option Addr) (n' c' : Nat) (m : List Int) (r s : Int) (W : World) (w0 : InInts W A n c l) (w0' : InInts W M n' c' m) (_ : -9223372036854775808 ≤ r ∧ r ≤ 9223372036854775807) (_ : -9223372036854775808 ≤ s ∧ s ≤ 9223372036854775807) :
    Calls Try.prog 5 #[.slice A n c, .slice M n' c', .int .i64 r, .int .i64 s] W fun e w' => e = .returned (.bool true) ∧ Below W.heap.size W w' := by
  obtain ⟨s1, l1, r1, _⟩ := w0
  obtain ⟨t1, l1', r1', _⟩ := w0'
  go_enter Try.func5, Try.ntmps5
  go_wp2_with fail
  refine (lrun_ex [5] 4 [4] [1] 1 rfl ⟨⟨by decide, by decide⟩, by decide, by decide⟩ (by decide) (by decide) _ _ _ (by exact Sl.built_ _ (ints [5]) _ _ rfl rfl)).mono ?_
  rintro e w1 ⟨A1, c1, A1', c1', rfl, _, hs1, hb1'⟩
  have hb1 : Below W.heap.size W w1 := (below_alloc (Below.refl _ W) (.cells (ints [5]).toArray 3)).trans (hb1'.mono (by simp))
  clear hb1'
  go_wp2_with fail
  refine (equal_any _ _ _ _ _ _ _ [1] _ _ _ (hs1.alloc (Nat.le_refl _) _) (Sl.built w1 (ints [1]) _ rfl) (by decide)).mono ?_
  rintro e w2 ⟨rfl, q, rfl⟩
  have hb2 := bel_drewN (below_alloc hb1 (.cells (ints [1]).toArray 3)) q
  have s2 := s1.on hb2
  have t2 := t1.on hb2
  have hlen := s2.int_len
  have hlen' := t2.int_len
  clear hs1 hb1 s1 t1
  go_wp2_with fail
  refine (within_any r 5001 _ (by omega) (by omega)).mono ?_
  rintro e w' ⟨rfl, rfl⟩
  go_wp2_with fail
  refine (within_any s 5001 _ (by omega) (by omega)).mono ?_
  rintro e w' ⟨rfl, rfl⟩
  have k1 := within_lo r 5001 (by omega)
  have k2 := within_hi r 5001 (by omega)
  have k3 := within_lo s 5001 (by omega)
  have k4 := within_hi s 5001 (by omega)
  generalize within r 5001 = p at *
  generalize within s 5001 = t at *
  go_wp2_with fail
  by_cases h : traceOk l
  · have hok : lineOk l p := ⟨h, k1, by omega⟩
    refine (lrun_ok A n c l p _ hok s2).mono ?_
    rintro e w3 ⟨A3, c3, A3', c3', rfl, _, hx, hb3', _, hcap⟩
    have hb3 : Below W.heap.size W w3 := hb2.trans (hb3'.mono hb2.size)
    have s3 := s2.on hb3'
    have t3 := t2.on hb3'
    have H := Lib.hid hok
    have HL := Lib.hid hlen
    have HL' := Lib.hid hlen'
    have hn : n ≤ 60 := by have := h.1; omega
    clear hb2 hb3' s2 t2 hlen hlen' h hok
    go_wp2_with fail
    have hok2 : lineOk l (p + t) := ⟨H.out.1, by omega, by omega⟩
    refine (lrun_ok A n c l (p + t) _ hok2 s3).mono ?_
    rintro e w4 ⟨A4, c4, A4', c4', rfl, _, hy, hb4', _, hcap4⟩
    have hb4 : Below W.heap.size W w4 := hb3.trans (hb4'.mono hb3.size)
    have s4 := s3.on hb4'
    have t4 := t3.on hb4'
    have hx4 := hx.on hb4'
    have hnn : ((n : Int) != n) = false := by simp
    clear hb3 hb4' s3 t3 hx hok2
    go_wp2_with fail
    by_cases hm : traceOk m
    · refine (tcheck_ok M n' c' m _ _ hm t4).mono ?_
      rintro e w' ⟨rfl, rfl⟩
      rcases Nat.decEq n' n with hne | rfl
      · have hd : ((n' : Int) != n) = true := by simp; omega
        clear s4 t4 hx4 hy
        go_wp2_with fail
        go_ret
        exact ⟨rfl, hb4⟩
      · have HM := Lib.hid hm
        clear hm
        go_wp2_with fail
        refine (cloneInt A n' c _ _ s4 (ints_one _) (by omega)).mono ?_
        rintro e w5 ⟨v5, rfl, hown5, hb5', hz5⟩
        have hb5 : Below W.heap.size W w5 := hb4.trans (hb5'.mono hb4.size)
        have t5 := t4.on hb5'
        obtain ⟨B5, d5, rfl, hcap5⟩ := own_form hown5
        have hkeep := Lib.hid (And.intro hx4 hy)
        have T4 := Lib.hid t4
        have O5 := Lib.hid hown5
        have HB5 := Lib.hid hb5'
        have HB4 := Lib.hid hb4
        clear s4 t4 hx4 hy hown5 hb5 hb5' hb4 t5
        go_wp2_with fail
        go_loopw [100, 19] (fun i _ wr => ∃ k : Nat, k ≤ n' ∧ i = .int .i64 k ∧ Below w4.heap.size w4 wr ∧ wr.ownsRow w4.heap.size 3 1 (.slice B5 n' d5) n' (ints (badd l m k))) (fun i _ _ => n' - (intOf i).toNat)
        case atStart => exact ⟨0, Nat.zero_le _, rfl, HB5.out, by rw [badd_zero]; exact O5.out⟩
        case round =>
          obtain ⟨k, hk, rfl, hbr, hor⟩ := hrel
          by_cases hlt : k < n'
          · obtain ⟨g, cap, hv, hg1, hg2⟩ := hor.form (by omega)
            cases hv
            have hcj := hor.cellAt k (by omega)
            have hkl : k < l.length := by rw [HL.out]; exact hlt
            rw [ints_get (by rw [badd_len]; exact hkl), badd_at hkl] at hcj
            have hfj := hor.frozenAt k
            have tr := T4.out.on hbr
            obtain ⟨b1, o1, rfl, q1, hc1⟩ := tr.int_at hlt
            have h1 := trace_bd H.out.1 hkl
            have h2 := trace_bd HM.out (show k < m.length by rw [HL'.out]; exact hlt)
            have f1 : IntKind.i64.wrap (gi l k + gi m k) = gi l k + gi m k := IntWalk.i64_in _ ⟨by omega, by omega⟩
            have f2 : (if gi l k + gi m k < 10000 then gi l k + gi m k else 10000) = mn 10000 (gi l k + gi m k) := rfl
            have m1 : (k : Int) < n' := by omega
            have m0 : (0 : Int) ≤ k := by omega
            have hor' := Lib.hid hor
            have hbr' := Lib.hid hbr
            clear hor hbr tr
            go_wp2_with fail
            refine wp_region_still_tail 13 (by kernel_rfl) (by kernel_rfl) ?_
            simp only [List.take_succ_cons, List.take_zero, List.drop_succ_cons, List.drop_zero]
            repeat still_step
            refine wpStill_nil ?_
            change wpList _ _ _ _ _ _
            go_wp2_with fail
            go_roundw
            case rel =>
              have hst := (hor'.out.stored k (.int .i64 (mn 10000 (gi l k + gi m k)))).1
              rw [ints_set, badd_set hkl] at hst
              exact ⟨k + 1, by omega, by go_num, (hbr'.out.setCell (p := ⟨g, k, none⟩) hg1 _).drew, hst⟩
            case measure => simp [intOf]; omega
          · have hkn : k = n' := by omega
            subst hkn
            have hbw : Below W.heap.size W wr := HB4.out.trans (hbr.mono HB4.out.size)
            have hx5 := hkeep.out.1.on hbr
            have hy5 := hkeep.out.2.on hbr
            have hS := Sl.of_own hor
            have hbk : badd l m k = badd l m l.length := by rw [HL.out]
            rw [hbk] at hS
            have hok6 := badd_ok H.out.1 HM.out (by rw [HL.out, HL'.out])
            have hge : ∀ i, i < l.length → gi l i ≤ gi (badd l m l.length) i := fun i hi => by
              rw [badd_full hi]
              have h1 := trace_bd H.out.1 hi
              have h2 := trace_bd HM.out (show i < m.length by rw [HL'.out, ← HL.out]; exact hi)
              have h3 := mn_le 10000 (gi l i + gi m i)
              omega
            clear hor hbr hbk
            have hlb := Lib.hid (show (badd l m l.length).length = k by rw [badd_len]; exact HL.out)
            generalize badd l m l.length = b at *
            have HG := Lib.hid hge
            clear hge
            go_wp2_with fail
            refine (lrun_ok B5 k d5 b p _ ⟨hok6, k1, by omega⟩ hS).mono ?_
            rintro e w6 ⟨A6, c6, A6', c6', rfl, _, hz, hb6', _, hcap6⟩
            have hb6 : Below W.heap.size W w6 := hbw.trans (hb6'.mono hbw.size)
            have hx6 := hx5.on hb6'
            have hy6 := hy5.on hb6'
            clear hbw hb6' hx5 hy5 hS
            go_wp2_with fail
            go_loopw [135, 23] (fun i _ wr => ∃ j : Nat, j ≤ k ∧ i = .int .i64 j ∧ ∃ q, wr = w6.drewN q) (fun i _ _ => k - (intOf i).toNat)
            case atStart => exact ⟨0, Nat.zero_le _, rfl, 0, rfl⟩
            case round =>
              obtain ⟨j, hj, rfl, q, rfl⟩ := hrel
              by_cases hlt : j < k
              · obtain ⟨b1, o1, rfl, q1, hc1⟩ := hx6.int_at hlt
                obtain ⟨b2, o2, rfl, q2, hc2⟩ := hy6.int_at hlt
                obtain ⟨b3, o3, rfl, q3, hc3⟩ := hz.int_at hlt
                rw [tab_get _ hlt] at hc1 hc2 hc3
                have hm1 : (j : Int) < k := by omega
                have hm0 : (0 : Int) ≤ j := by omega
                have e1 := lbuf_rate l p t k3 (j + 1)
                have e2 := lbuf_more l b p l.length HG.out (j + 1) (by rw [HL.out]; exact hlt)
                have t1 : decide (lbuf l p (j + 1) < lbuf l (p + t) (j + 1)) = false := by simp; omega
                have t2 : decide (lbuf b p (j + 1) < lbuf l p (j + 1)) = false := by simp; omega
                clear hx6 hy6 hz e1 e2
                go_wp2_with fail
                go_quiet (fail)
                go_wp2_with fail
                go_roundw
                case rel => exact ⟨j + 1, by omega, by go_num, _, rfl⟩
                case measure => simp [intOf]; omega
              · have hkn : j = k := by omega
                subst hkn
                clear hx6 hy6 hz
                go_wp2_with fail
                go_ret
                exact ⟨rfl, bel_drewN hb6 _⟩
    · refine (tcheck_bad M n' c' m _ _ hm t4 (by omega)).mono ?_
      rintro e w' ⟨rfl, rfl⟩
      have hne2 := traceErr_ne m
      clear s4 t4 hx4 hy hm
      go_wp2_with fail
      go_ret
      exact ⟨rfl, hb4⟩
  · refine (lrun_bad A n c l p _ _ (fun hh => h hh.1) s2 (by omega)).mono ?_
    rintro e w3 ⟨rfl, rfl⟩
    go_wp2_with fail
    refine (lrun_bad A n c l (p + t) _ _ (fun hh => h hh.1) s2 (by omega)).mono ?_
    rintro e w3 ⟨rfl, rfl⟩
    have hne := traceErr_ne l
    have he : lineErr l p = traceErr l := rfl
    have he' : lineErr l (p + t) = traceErr l := rfl
    have hq : (traceErr l == traceErr l) = true := by simp
    rw [he, he']
    clear s2 t2 h he he' hlen hlen'
    go_wp2_with fail
    go_ret
    exact ⟨rfl, hb2⟩
end Go.Proofs.Ytihhldphpoddhaa
