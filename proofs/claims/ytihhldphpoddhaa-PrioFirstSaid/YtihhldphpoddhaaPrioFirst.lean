/- PrioFirst: the first is served as if it were alone, both together as one. -/
import Derived.Test.YtihhldphpoddhaaPrioA
import Derived.Test.YtihhldphpoddhaaLineGrows
set_option linter.unusedVariables false
namespace Go.Proofs.Ytihhldphpoddhaa
open Go.RowKit
theorem prun_ex (l m : List Int) (r : Int) (o1 o2 : List Int) (n : Nat) (hok : prioOk l m r) (h1 : tab n (ldep l r) = o1) (h2 : tab n (pout l m r) = o2) (A B : Option Addr) (c d : Nat) (W : World) (hs : Sl W W.heap.size A n (ints l)) (ht : Sl W W.heap.size B n (ints m)) :
    Calls Try.prog 26 #[.slice A n c, .slice B n d, .int .i64 r] W fun e w' => ∃ A1 c1 A2 c2, e = .returned (.tuple #[.slice A1 n c1, .slice A2 n c2, .int .i64 0]) ∧
      Sl w' w'.heap.size A1 n (ints o1) ∧ Sl w' w'.heap.size A2 n (ints o2) ∧ Below W.heap.size W w' :=
  (prun_ok A n c l B d m r W hok hs ht).mono fun _ _ ⟨A1, c1, A2, c2, e, k1, k2, k3⟩ => ⟨A1, c1, A2, c2, e, h1 ▸ k1, h2 ▸ k2, k3⟩
def bsum (a m : List Int) (k : Nat) : List Int := tab a.length fun j => if j < k then gi a j + gi m j else gi a j
theorem bsum_zero (a m : List Int) : bsum a m 0 = a := by
  unfold bsum
  rw [tab_congr (g := gi a) fun i _ => if_neg (Nat.not_lt_zero i)]
  exact tab_of a
theorem bsum_len (a m : List Int) (k : Nat) : (bsum a m k).length = a.length := tab_len _ _
theorem bsum_at {a m : List Int} {k : Nat} (h : k < a.length) : gi (bsum a m k) k = gi a k := by
  unfold bsum
  rw [tab_get _ h, if_neg (Nat.lt_irrefl k)]
theorem bsum_set {a m : List Int} {k : Nat} (h : k < a.length) : (bsum a m k).set k (gi a k + gi m k) = bsum a m (k + 1) := by
  unfold bsum
  rw [tab_set _ _ _ h]
  refine tab_congr fun i _ => ?_
  rcases Nat.lt_trichotomy i k with h1 | h1 | h1
  · rw [if_neg (by omega), if_pos h1, if_pos (by omega)]
  · subst h1; rw [if_pos rfl, if_pos (by omega)]
  · rw [if_neg (by omega), if_neg (by omega), if_neg (by omega)]
theorem bsum_full {a m : List Int} {k : Nat} (h : k < a.length) : gi (bsum a m a.length) k = gi a k + gi m k := by
  unfold bsum
  rw [tab_get _ h, if_pos h]
theorem mn_two (p q x y r : Int) (h : 0 ≤ q + y) : mn (p + q + (x + y)) r = mn (p + x) r + mn (q + y) (r - mn (p + x) r) := by
  unfold mn
  split <;> split <;> split <;> omega
theorem prio_sum {a b s : List Int} {r : Int} (h : prioOk a b r) (hs : ∀ i, i < a.length → gi s i = gi a i + gi b i) (k : Nat) (hk : k ≤ a.length) : lbuf s r k = lbuf a r k + pq a b r k := by
  induction k with
  | zero => rfl
  | succ k ih =>
    have i := ih (by omega)
    have t := trace_bd h.2.1 (show k < b.length by have := h.2.2; omega)
    have q := pq_bd h k (by omega)
    have e := mn_two (lbuf a r k) (pq a b r k) (gi a k) (gi b k) r (by omega)
    rw [lbuf_succ, lbuf_succ, pq_succ, ldep_def s, i, hs k (by omega), e]
    unfold pout
    rw [ldep_def a]
    omega
theorem prio_dep {a b s : List Int} {r : Int} (h : prioOk a b r) (hs : ∀ i, i < a.length → gi s i = gi a i + gi b i) (k : Nat) (hk : k < a.length) : ldep s r k = ldep a r k + pout a b r k := by
  have t := trace_bd h.2.1 (show k < b.length by have := h.2.2; omega)
  have q := pq_bd h k (by omega)
  have e := mn_two (lbuf a r k) (pq a b r k) (gi a k) (gi b k) r (by omega)
  rw [ldep_def s, prio_sum h hs k (by omega), hs k hk, e]
  rfl
set_option maxRecDepth 100000 in
set_option maxHeartbeats 3200000 in
theorem prioFirst_walk (A : Option Addr) (n c : Nat) (l : List Int) (M : Option Addr) (n' c' : Nat) (m : List Int) (r : Int) (W : World) (w0 : InInts W A n c l) (w0' : InInts W M n' c' m) (_ : -9223372036854775808 ≤ r ∧ r ≤ 9223372036854775807) :
    Calls Try.prog 11 #[.slice A n c, .slice M n' c', .int .i64 r] W fun e w' => e = .returned (.bool true) ∧ Below W.heap.size W w' := by
  obtain ⟨s1, l1, r1, _⟩ := w0
  obtain ⟨t1, l1', r1', _⟩ := w0'
  go_enter Try.func11, Try.ntmps11
  go_wp2_with fail
  have bt1 := Sl.built_ W (ints [3, 0]) 3 _ rfl rfl
  have bt2 := Sl.built_ (W.alloc (.cells (ints [3, 0]).toArray 3)) (ints [1, 1]) 3 (W.heap.size + 1) (by simp) rfl
  refine (prun_ex [3, 0] [1, 1] 2 [2, 1] [0, 1] 2 ⟨⟨⟨by decide, by decide⟩, by decide, by decide⟩, ⟨by decide, by decide⟩, rfl⟩ (by decide) (by decide) _ _ _ _ _ (by exact (bt1.alloc (Nat.le_refl _) _).more (by simp)) (by exact bt2)).mono ?_
  rintro e w1 ⟨A1, c1, A1', c1', rfl, hs1, hs1', hb1'⟩
  have hb1 : Below W.heap.size W w1 := (below_alloc (below_alloc (Below.refl _ W) (.cells (ints [3, 0]).toArray 3)) (.cells (ints [1, 1]).toArray 3)).trans (hb1'.mono (by simp; omega))
  clear hb1' bt1 bt2
  go_wp2_with fail
  refine (equal_any _ _ _ _ _ _ _ [2, 1] _ _ _ (hs1.alloc (Nat.le_refl _) _) (Sl.built w1 (ints [2, 1]) _ rfl) (by decide)).mono ?_
  rintro e w2 ⟨rfl, q, rfl⟩
  have hb2 := bel_drewN (below_alloc hb1 (.cells (ints [2, 1]).toArray 3)) q
  have hs2' : Sl ((w1.alloc (.cells (ints [2, 1]).toArray 3)).drewN q) ((w1.alloc (.cells (ints [2, 1]).toArray 3)).drewN q).heap.size A1' 2 (ints [0, 1]) := ((hs1'.alloc (Nat.le_refl _) (.cells (ints [2, 1]).toArray 3)).more (by simp)).drewN q
  obtain ⟨w2, hw2⟩ : ∃ w2, w2 = (w1.alloc (.cells (ints [2, 1]).toArray 3)).drewN q := ⟨_, rfl⟩
  have hz2 : w2.heap.size = w1.heap.size + 1 := by rw [hw2]; show (w1.alloc _).heap.size = _; simp
  rw [← hw2] at hb2 hs2'
  clear hs1 hs1' hb1
  go_wp2_with fail
  rw [← hw2]
  refine (equal_any _ _ _ _ _ _ _ [0, 1] _ _ _ (hs2'.alloc (Nat.le_refl _) _) (Sl.built_ w2 (ints [0, 1]) _ _ hz2.symm rfl) (by decide)).mono ?_
  rintro e w3 ⟨rfl, q', rfl⟩
  have hb3 := bel_drewN (below_alloc hb2 (.cells (ints [0, 1]).toArray 3)) q'
  have s3 := s1.on hb3
  have t3 := t1.on hb3
  have hlen := s3.int_len
  have hlen' := t3.int_len
  clear hb2 hs2' hw2 hz2 s1 t1
  go_wp2_with fail
  by_cases h : prioOk l m r
  · have hnn' : n' = n := by have := h.2.2; omega
    subst hnn'
    refine (prun_ok A n' c l M c' m r _ h s3 t3).mono ?_
    rintro e w4 ⟨A4, c4, A5, c5, rfl, hx, hy, hb4'⟩
    have hb4 : Below W.heap.size W w4 := hb3.trans (hb4'.mono hb3.size)
    have s4 := s3.on hb4'
    have t4 := t3.on hb4'
    have H := Lib.hid h
    have HL := Lib.hid hlen
    have HL' := Lib.hid hlen'
    have hn : n' ≤ 60 := by have := h.1.1.1; omega
    have hr1 := h.1.2.1
    have hr2 := h.1.2.2
    have hnn : ((n' : Int) != n') = false := by simp
    clear hb3 hb4' s3 t3 hlen hlen' h
    go_wp2_with fail
    refine (lrun_ok A n' c l r _ H.out.1 s4).mono ?_
    rintro e w5 ⟨A6, c6, A7, c7, rfl, hz, _, hb5', _⟩
    have hb5 : Below W.heap.size W w5 := hb4.trans (hb5'.mono hb4.size)
    have s5 := s4.on hb5'
    have t5 := t4.on hb5'
    have hx5 := hx.on hb5'
    have hy5 := hy.on hb5'
    clear hb4 hb5' s4 t4 hx hy
    go_wp2_with fail
    refine (equal_any _ _ _ _ _ _ _ _ _ _ _ hx5 hz (by omega)).mono ?_
    rintro e w6 ⟨rfl, q6, rfl⟩
    have hb6 := bel_drewN hb5 q6
    have s6 : Sl (w5.drewN q6) (w5.drewN q6).heap.size A n' (ints l) := s5.drewN q6
    have t6 : Sl (w5.drewN q6) (w5.drewN q6).heap.size M n' (ints m) := t5.drewN q6
    have hx6 : Sl (w5.drewN q6) (w5.drewN q6).heap.size A4 n' (ints (tab n' (ldep l r))) := hx5.drewN q6
    have hy6 : Sl (w5.drewN q6) (w5.drewN q6).heap.size A5 n' (ints (tab n' (pout l m r))) := hy5.drewN q6
    generalize w5.drewN q6 = w6 at *
    clear hz hb5 s5 t5 hx5 hy5
    go_wp2_with fail
    refine (cloneInt A n' c _ _ s6 (ints_one _) (by omega)).mono ?_
    rintro e w7 ⟨v7, rfl, hown7, hb7', hz7⟩
    obtain ⟨B7, d7, rfl, hcap7⟩ := own_form hown7
    have hkeep := Lib.hid (And.intro hx6 hy6)
    have T6 := Lib.hid t6
    have O7 := Lib.hid hown7
    have HB7 := Lib.hid hb7'
    have HB6 := Lib.hid hb6
    clear s6 t6 hx6 hy6 hown7 hb7' hb6
    go_wp2_with fail
    go_loopw [85, 16] (fun i _ wr => ∃ k : Nat, k ≤ n' ∧ i = .int .i64 k ∧ Below w6.heap.size w6 wr ∧ wr.ownsRow w6.heap.size 3 1 (.slice B7 n' d7) n' (ints (bsum l m k)) ∧ ∀ j, j < k → gi l j + gi m j ≤ 10000) (fun i _ _ => n' - (intOf i).toNat)
    case atStart => exact ⟨0, Nat.zero_le _, rfl, HB7.out, by rw [bsum_zero]; exact O7.out, fun j hj => by omega⟩
    case round =>
      obtain ⟨k, hk, rfl, hbr, hor, hall⟩ := hrel
      by_cases hlt : k < n'
      · obtain ⟨g, cap, hv, hg1, hg2⟩ := hor.form (by omega)
        cases hv
        have hcj := hor.cellAt k (by omega)
        have hkl : k < l.length := by rw [HL.out]; exact hlt
        rw [ints_get (by rw [bsum_len]; exact hkl), bsum_at hkl] at hcj
        have hfj := hor.frozenAt k
        have tr := T6.out.on hbr
        obtain ⟨b1, o1, rfl, q1, hc1⟩ := tr.int_at hlt
        have h1 := trace_bd H.out.1.1 hkl
        have h2 := trace_bd H.out.2.1 (show k < m.length by rw [HL'.out]; exact hlt)
        have f1 : IntKind.i64.wrap (gi l k + gi m k) = gi l k + gi m k := IntWalk.i64_in _ ⟨by omega, by omega⟩
        have m1 : (k : Int) < n' := by omega
        have m0 : (0 : Int) ≤ k := by omega
        have hst := (hor.stored k (.int .i64 (gi l k + gi m k))).1
        rw [ints_set, bsum_set hkl] at hst
        have hst' : ((wr.setCell ⟨g, k, none⟩ (.int .i64 (gi l k + gi m k))).drew).ownsRow w6.heap.size 3 1 (.slice (some ⟨g, 0, none⟩) n' d7) n' (ints (bsum l m (k + 1))) := hst
        have hbs : Below w6.heap.size w6 ((wr.setCell ⟨g, k, none⟩ (.int .i64 (gi l k + gi m k))).drew) := (hbr.setCell (p := ⟨g, k, none⟩) hg1 _).drew
        have hcs := hst'.cellAt k (by omega)
        rw [ints_get (by rw [bsum_len]; exact hkl), show gi (bsum l m (k + 1)) k = gi l k + gi m k by unfold bsum; rw [tab_get _ hkl, if_pos (by omega)]] at hcs
        have HS := Lib.hid hst'
        have HBS := Lib.hid hbs
        have HA := Lib.hid hall
        clear hor hbr tr hst hst' hbs hall
        go_wp2_with fail
        refine wp_region_still_tail 10 (by kernel_rfl) (by kernel_rfl) ?_
        simp only [List.take_succ_cons, List.take_zero, List.drop_succ_cons, List.drop_zero]
        repeat still_step
        refine wpStill_nil ?_
        change wpList _ _ _ _ _ _
        by_cases hbig : 10000 < gi l k + gi m k
        · go_wp2_with fail
          go_ret
          exact ⟨rfl, HB6.out.trans (HBS.out.mono HB6.out.size)⟩
        · go_wp2_with fail
          go_roundw
          case rel =>
            refine ⟨k + 1, by omega, by go_num, HBS.out, HS.out, fun j hj => ?_⟩
            rcases Nat.lt_or_ge j k with h' | h'
            · exact HA.out j h'
            · obtain rfl : j = k := by omega
              omega
          case measure => simp [intOf]; omega
      · have hkn : k = n' := by omega
        subst hkn
        have hbw : Below W.heap.size W wr := HB6.out.trans (hbr.mono HB6.out.size)
        have hx7 := hkeep.out.1.on hbr
        have hy7 := hkeep.out.2.on hbr
        have hS := Sl.of_own hor
        have hbk : bsum l m k = bsum l m l.length := by rw [HL.out]
        rw [hbk] at hS
        have heq : ∀ i, i < l.length → gi (bsum l m l.length) i = gi l i + gi m i := fun i hi => bsum_full hi
        have hok : traceOk (bsum l m l.length) := by
          refine ⟨by rw [bsum_len, HL.out]; exact hn, fun z hz => ?_⟩
          obtain ⟨i, hi, rfl⟩ := mem_tab hz
          have h1 := trace_bd H.out.1.1 hi
          have h2 := trace_bd H.out.2.1 (show i < m.length by rw [HL'.out, ← HL.out]; exact hi)
          have h3 := hall i (by rw [← HL.out]; exact hi)
          rw [if_pos hi]
          omega
        clear hor hbr hbk hall
        generalize bsum l m l.length = b at *
        have HG := Lib.hid heq
        have HO := Lib.hid hok
        clear heq hok
        go_wp2_with fail
        refine (lrun_ok B7 k d7 b r _ ⟨HO.out, hr1, hr2⟩ hS).mono ?_
        rintro e w8 ⟨A8, c8, A9, c9, rfl, hz, _, hb8', _⟩
        have hb8 : Below W.heap.size W w8 := hbw.trans (hb8'.mono hbw.size)
        have hx8 := hx7.on hb8'
        have hy8 := hy7.on hb8'
        clear hbw hb8' hx7 hy7 hS
        go_wp2_with fail
        go_loopw [122, 19] (fun i _ wr => ∃ j : Nat, j ≤ k ∧ i = .int .i64 j ∧ ∃ q, wr = w8.drewN q) (fun i _ _ => k - (intOf i).toNat)
        case atStart => exact ⟨0, Nat.zero_le _, rfl, 0, rfl⟩
        case round =>
          obtain ⟨j, hj, rfl, q, rfl⟩ := hrel
          by_cases hlt : j < k
          · obtain ⟨b1, o1, rfl, q1, hc1⟩ := hx8.int_at hlt
            obtain ⟨b2, o2, rfl, q2, hc2⟩ := hy8.int_at hlt
            obtain ⟨b3, o3, rfl, q3, hc3⟩ := hz.int_at hlt
            rw [tab_get _ hlt] at hc1 hc2 hc3
            have hjl : j < l.length := by rw [HL.out]; exact hlt
            have e1 := prio_dep H.out HG.out j hjl
            have d1 := ldep_bd H.out.1 j hjl
            have d2 := pout_bd H.out j hjl
            have hm1 : (j : Int) < k := by omega
            have hm0 : (0 : Int) ≤ j := by omega
            have f1 : IntKind.i64.wrap (ldep l r j + pout l m r j) = ldep b r j := by rw [IntWalk.i64_in _ ⟨by omega, by omega⟩]; exact e1.symm
            have f2 : wrap64 (ldep l r j + pout l m r j) = ldep b r j := by rw [IntWalk.wrap64_in _ ⟨by omega, by omega⟩]; exact e1.symm
            have f3 : (ldep b r j != ldep b r j) = false := by simp
            have f4 : (ldep b r j != ldep l r j + pout l m r j) = false := by rw [e1]; simp
            clear hx8 hy8 hz e1 d1 d2
            go_wp2_with fail
            go_quiet (fail)
            go_wp2_with fail
            go_roundw
            case rel => exact ⟨j + 1, by omega, by go_num, _, rfl⟩
            case measure => simp [intOf]; omega
          · have hkn : j = k := by omega
            subst hkn
            clear hx8 hy8 hz
            go_wp2_with fail
            go_ret
            exact ⟨rfl, bel_drewN hb8 _⟩
  · refine (prun_bad A n c l M n' c' m r _ h s3 t3 (by omega) (by omega)).mono ?_
    rintro e w4 ⟨⟨k, hk, rfl⟩, hb4'⟩
    have hb4 : Below W.heap.size W w4 := hb3.trans (hb4'.mono hb3.size)
    have hne : (k != 0) = true := by simpa using hk
    clear s3 t3 hlen hlen' h hk hb3 hb4'
    go_wp2_with fail
    go_ret
    exact ⟨rfl, hb4⟩
end Go.Proofs.Ytihhldphpoddhaa
