/- FifoMore: removing a packet delays no other one, and greater sizes complete nothing earlier. -/
import Derived.Test.YtihhldphpoddhaaPackA
import Derived.Test.YtihhldphpoddhaaDelPacket
import Derived.Test.YtihhldphpoddhaaKit0
set_option linter.unusedVariables false
namespace Go.Proofs.Ytihhldphpoddhaa
open Go.RowKit
theorem ffree_cong {xs ys : List Int} (n : Nat) (h : ∀ i, i < n → fd xs i 0 = fd ys i 0 ∧ fd xs i 1 = fd ys i 1) (k : Nat) (hk : k ≤ n) : ffree xs k = ffree ys k := by
  induction k with
  | zero => rfl
  | succ k ih => rw [ffree_succ, ffree_succ, ih (by omega), (h k (by omega)).1, (h k (by omega)).2]
theorem packs_mk {zs : List Int} {n : Nat} (h : n ≤ 60) (h0 : ∀ i, i < n → 0 ≤ fd zs i 0 ∧ fd zs i 0 ≤ 200) (h1 : ∀ i, i < n → 1 ≤ fd zs i 1 ∧ fd zs i 1 ≤ 1000) (h2 : ∀ i, i < n → 0 ≤ fd zs i 2 ∧ fd zs i 2 < 8) (h3 : ∀ i, i + 1 < n → fd zs i 0 ≤ fd zs (i + 1) 0) : packErr zs n = 0 := by
  unfold packErr
  rw [if_neg (by omega)]
  refine (pfirst_zero _ _).2 fun i hi => ?_
  have a := h0 i hi
  have b := h1 i hi
  have c := h2 i hi
  have hA : ¬ pArg zs i := by unfold pArg; omega
  unfold pbad
  rw [if_neg hA]
  refine if_neg fun hh => ?_
  have hp := hh.1
  have hq := hh.2
  have u := h3 (i - 1) (by omega)
  rw [show i - 1 + 1 = i by omega] at u
  omega
theorem packs_le {zs : List Int} {n : Nat} (h : Packs zs n) {i k : Nat} (hik : i ≤ k) (hk : k < n) : fd zs i 0 ≤ fd zs k 0 := by
  induction k with
  | zero => obtain rfl : i = 0 := by omega
            exact Int.le_refl _
  | succ k ih =>
    rcases Nat.lt_or_ge k i with h' | h'
    · obtain rfl : i = k + 1 := by omega
      exact Int.le_refl _
    · exact Int.le_trans (ih h' (by omega)) (h.up k hk)
theorem del_packs {zs : List Int} {n i : Nat} (h : Packs zs n) (hi : i < n) : packErr (delT zs n i) (n - 1) = 0 := by
  refine packs_mk (by have := h.top; omega) (fun a ha => ?_) (fun a ha => ?_) (fun a ha => ?_) fun a ha => ?_
  · rw [delT_fd ha (by omega)]; exact h.at0 _ (by split <;> omega)
  · rw [delT_fd ha (by omega)]; exact h.sz _ (by split <;> omega)
  · rw [delT_fd ha (by omega)]; exact h.fl _ (by split <;> omega)
  · rw [delT_fd (by omega) (by omega), delT_fd ha (by omega)]
    refine packs_le h ?_ (by split <;> omega)
    split <;> split <;> omega
theorem del_before {zs : List Int} {n i : Nat} (hi : i < n) (k : Nat) (hk : k ≤ i) : ffree (delT zs n i) k = ffree zs k :=
  ffree_cong i (fun a ha => by rw [delT_fd (by omega) (by omega), delT_fd (by omega) (by omega), if_pos ha]; exact ⟨rfl, rfl⟩) k hk
theorem del_after {zs : List Int} {n i : Nat} (h : Packs zs n) (hi : i < n) (j : Nat) (hj : i ≤ j) (hn : j < n) : ffree (delT zs n i) j ≤ ffree zs (j + 1) := by
  induction j with
  | zero =>
    obtain rfl : i = 0 := by omega
    have m := mx_le (ffree zs 0) (fd zs 0 0)
    have s := h.sz 0 hi
    rw [ffree_succ, del_before hi 0 (Nat.le_refl _)]
    omega
  | succ j ih =>
    rcases Nat.lt_or_ge j i with h' | h'
    · obtain rfl : i = j + 1 := by omega
      rw [del_before hi (j + 1) (Nat.le_refl _)]
      have m := mx_le (ffree zs (j + 1)) (fd zs (j + 1) 0)
      have s := h.sz (j + 1) hi
      rw [ffree_succ zs (j + 1)]
      omega
    · have a := ih h' (by omega)
      rw [ffree_succ (delT zs n i) j, ffree_succ zs (j + 1), delT_fd (by omega) (by omega), delT_fd (by omega) (by omega), if_neg (by omega)]
      unfold mx
      split <;> split <;> omega
/-- Packet i greater. -/
def moreT (zs : List Int) (n i : Nat) (v : Int) : List Int := flat3 n (fun a b => if a = i ∧ b = 1 then v else fd zs a b)
theorem moreT_eq {zs : List Int} {n i : Nat} (hl : zs.length = n * 3) (hi : i < n) (v : Int) : zs.set (i * 3 + 1) v = moreT zs n i v := by
  have := flat3_set (n := n) (f := fd zs) hi (show 1 < 3 by omega) v
  rw [flat3_of hl] at this
  exact this
theorem moreT_fd {zs : List Int} {n i : Nat} {v : Int} {a b : Nat} (ha : a < n) (hb : b < 3) : fd (moreT zs n i v) a b = if a = i ∧ b = 1 then v else fd zs a b := fd_flat3 ha hb
theorem more_packs {zs : List Int} {n i : Nat} {v : Int} (h : Packs zs n) (hi : i < n) (h1 : 1 ≤ v) (h2 : v ≤ 1000) : packErr (moreT zs n i v) n = 0 := by
  refine packs_mk h.top (fun a ha => ?_) (fun a ha => ?_) (fun a ha => ?_) fun a ha => ?_
  · rw [moreT_fd ha (by omega), if_neg (by omega)]; exact h.at0 a ha
  · rw [moreT_fd ha (by omega)]
    split
    · omega
    · exact h.sz a ha
  · rw [moreT_fd ha (by omega), if_neg (by omega)]; exact h.fl a ha
  · rw [moreT_fd (by omega) (by omega), moreT_fd ha (by omega), if_neg (by omega), if_neg (by omega)]; exact h.up a ha
theorem more_free {zs : List Int} {n i : Nat} {v : Int} (hi : i < n) (hv : fd zs i 1 ≤ v) (k : Nat) (hk : k ≤ n) : ffree zs k ≤ ffree (moreT zs n i v) k := by
  induction k with
  | zero => exact Int.le_refl _
  | succ k ih =>
    have a := ih (by omega)
    rw [ffree_succ, ffree_succ, moreT_fd (by omega) (by omega), moreT_fd (by omega) (by omega), if_neg (by omega)]
    by_cases e : k = i
    · subst e
      rw [if_pos ⟨rfl, rfl⟩]
      unfold mx
      split <;> split <;> omega
    · rw [if_neg (by omega)]
      unfold mx
      split <;> split <;> omega
set_option maxRecDepth 100000 in
set_option maxHeartbeats 6400000 in
theorem fifoMore_walk (A : Option Addr) (n c : Nat) (zs : List Int) (i by' : Int) (W : World) (w0 : In3 W A n c zs) (_ : -9223372036854775808 ≤ i ∧ i ≤ 9223372036854775807) (_ : -9223372036854775808 ≤ by' ∧ by' ≤ 9223372036854775807) :
    Calls Try.prog 9 #[.slice A n c, .int .i64 i, .int .i64 by'] W fun e w' => e = .returned (.bool true) ∧ Below W.heap.size W w' := by
  obtain ⟨s0, l0, r0, _⟩ := w0
  go_enter Try.func9, Try.ntmps9
  go_wp2_with fail
  refine (fifo_any _ 2 _ [0, 1, 0, 0, 1, 0] _ (Sl.built_ _ (ints [0, 1, 0, 0, 1, 0]) 40 _ rfl rfl) (by omega) [1, 2] 0 2 (by decide +kernel) rfl).mono ?_
  rintro e w1 ⟨A1, c1, rfl, s1, l1, bb1⟩
  have b1 := belLit1 (Below.refl W.heap.size W) bb1
  replace s0 := slLit1 s0 bb1
  clear bb1
  go_wp2_with fail
  refine (equal_t A1 2 c1 [1, 2] _ 2 _ [1, 2] _ (slMore s1 _) (Sl.built_ _ (ints [1, 2]) 3 _ rfl rfl) (by omega) (by omega) true (by decide)).mono ?_
  rintro e w2 ⟨rfl, bb2⟩
  have b2 := belLit1 b1 bb2
  replace s0 := slLit1 s0 bb2
  clear b1 s1 bb2
  by_cases h0 : packErr zs n = 0
  case neg =>
    have hne : (packErr zs n != 0) = true := by simpa using h0
    have H0 := Lib.hid h0
    clear h0
    go_wp2_with fail
    refine (fifo_any A n c zs _ s0 (by omega) [] (packErr zs n) 0 (if_neg H0.out) rfl).mono ?_
    rintro e w3 ⟨A3, c3, rfl, s3, l3, bb3⟩
    have b3 := belLit0 b2 bb3
    clear b2 s0 s3 bb3
    by_cases hz : n = 0
    · have e0 : ((0 : Int) == n) = true := by simp; omega
      have e1 : ((0 : Nat) == n) = true := by simp; omega
      clear hz
      go_wp2_with fail
      all_goals (go_ret; exact ⟨rfl, b3⟩)
    · have e0 : ((0 : Int) == n) = false := by simp; omega
      have e1 : ((0 : Nat) == n) = false := by simp; omega
      clear hz
      go_wp2_with fail
      all_goals (go_ret; exact ⟨rfl, b3⟩)
  have P := Lib.hid (packs_of h0)
  have H0 := Lib.hid h0
  have n60 := P.out.top
  have HL := Lib.hid s0.int_len
  clear h0
  have hnn : ((n : Int) != n) = false := by simp
  have hnn2 : ((n : Int) == n) = true := by simp
  go_wp2_with fail
  refine (fifo_any A n c zs _ s0 (by omega) (fdone zs n) 0 n (if_pos H0.out) (tab_len _ _)).mono ?_
  rintro e w3 ⟨A3, c3, rfl, s3, l3, bb3⟩
  have b3 := belLit0 b2 bb3
  replace s0 := slLit0 s0 bb3
  clear b2 bb3
  by_cases hn0 : n = 0
  case pos =>
    have e0 : ((n : Int) == 0) = true := by simp; omega
    clear s0 s3 hn0
    go_wp2_with fail
    go_ret
    exact ⟨rfl, b3⟩
  have e0 : ((n : Int) == 0) = false := by simp; omega
  have np : 0 < n := by omega
  clear hn0
  go_wp2_with fail
  refine (within_t i n _ (by omega) (by omega) _ rfl).mono ?_
  rintro e _ ⟨rfl, rfl⟩
  go_wp2_with fail
  refine (within_t by' 500 _ (by omega) (by omega) _ rfl).mono ?_
  rintro e _ ⟨rfl, rfl⟩
  have i0 := within_lo i n (by omega)
  have i1 := within_hi i n (by omega)
  have d0 := within_lo by' 500 (by omega)
  have d1 := within_hi by' 500 (by omega)
  generalize within i n = i' at *
  generalize within by' 500 = u at *
  obtain ⟨k, rfl⟩ := Int.eq_ofNat_of_zero_le i0
  have hk : k < n := by omega
  have hk0 : (0 : Int) ≤ k := by omega
  go_wp2_with fail
  refine (clonePacket A n c (ints zs) _ s0 (ints_one _) (by omega)).mono ?_
  rintro e w4 ⟨x, rfl, own4, bb4, z4⟩
  obtain ⟨g, cap, rfl, hg1, hg2⟩ := own4.form np
  have hcap : n ≤ cap := by
    obtain ⟨A', c', e, h⟩ := own_form own4
    injection e with e1 e2 e3
    omega
  have hcm : cap ≤ 9223372036854775807 := by
    rcases own4.2 with ⟨e, _⟩ | ⟨g', cap', cur, e, _, _, _, hm, _⟩
    · cases e
    · injection e with e1 e2 e3
      subst e3
      exact hm
  have f1 : IntKind.i64.wrap ((k : Int) + 1) = (k : Int) + 1 := IntWalk.i64_in _ ⟨by omega, by omega⟩
  have O4 := Lib.hid own4
  have S3 := Lib.hid s3
  have S0 := Lib.hid s0
  have B3 := Lib.hid b3
  have BB4 := Lib.hid bb4
  clear s3 s0 b3 bb4 own4
  go_wp2_with fail
  refine (delPacket w3.heap.size g n cap k zs _ O4.out HL.out hk hcap hcm hg1).mono ?_
  rintro e w5 ⟨rfl, own5, bb5⟩
  have BB5 := Lib.hid (BB4.out.trans bb5)
  have S5 := Lib.hid (Sl.of_own3 own5)
  have s05 := S0.out.on BB5.out
  clear own5 bb5
  go_wp2_with fail
  refine (clonePacket A n c (ints zs) _ s05 (ints_one _) (by omega)).mono ?_
  rintro e w6 ⟨x, rfl, own6, bb6, z6⟩
  obtain ⟨g6, cap6, rfl, hg3, hg4⟩ := own6.form np
  have hcap6 : n ≤ cap6 := by
    obtain ⟨A', c', e, h⟩ := own_form own6
    injection e with e1 e2 e3
    omega
  have hcj := own6.cellAt (k * 3 + 1) (by omega)
  rw [ints_get (by rw [HL.out]; omega), show gi zs (k * 3 + 1) = fd zs k 1 from rfl] at hcj
  have hfj := own6.frozenAt (k * 3 + 1)
  have sz := P.out.sz k hk
  have f2 : IntKind.i64.wrap (fd zs k 1 + u) = fd zs k 1 + u := IntWalk.i64_in _ ⟨by omega, by omega⟩
  obtain ⟨v, hv⟩ : ∃ v, (if fd zs k 1 + u < 1000 then fd zs k 1 + u else 1000) = v := ⟨_, rfl⟩
  have v0 : fd zs k 1 ≤ v := by rw [← hv]; split <;> omega
  have v1 : v ≤ 1000 := by rw [← hv]; split <;> omega
  have o7 := (own6.stored (k * 3 + 1) (.int .i64 v)).1
  rw [ints_set, moreT_eq HL.out hk] at o7
  have b7 : Below w5.heap.size w5 (w6.setCell ⟨g6, k * 3 + 1, none⟩ (.int .i64 v)) := bb6.setCell (p := ⟨g6, k * 3 + 1, none⟩) hg3 _
  have S7 := Lib.hid (Sl.of_own3 o7)
  have B7 := Lib.hid b7
  clear own6 o7 b7 bb6 s05
  go_wp2_with fail
  generalize w6.setCell ⟨g6, k * 3 + 1, none⟩ (.int .i64 v) = w7 at S7 B7 ⊢
  have s57 := S5.out.on B7.out
  have HN1 := Lib.hid (del_packs P.out hk)
  have HN2 := Lib.hid (more_packs P.out hk (by omega) v1)
  refine (fifo_any _ (n - 1) cap (delT zs n k) _ s57 (by omega) (fdone (delT zs n k) (n - 1)) 0 (n - 1) (if_pos HN1.out) (tab_len _ _)).mono ?_
  rintro e w8 ⟨A8, c8, rfl, s8, l8, bb8⟩
  have s78 := S7.out.on bb8
  have B8 := Lib.hid (belLit0 B7.out bb8)
  clear s57 bb8 hcj hfj hv
  go_wp2_with fail
  refine (fifo_any _ n cap6 (moreT zs n k v) _ s78 (by omega) (fdone (moreT zs n k v) n) 0 n (if_pos HN2.out) (tab_len _ _)).mono ?_
  rintro e w9 ⟨A9, c9, rfl, s9, l9, bb9⟩
  have S8 := Lib.hid (s8.on bb9)
  have S9 := Lib.hid s9
  have B9 := Lib.hid (belLit0 B8.out bb9)
  have S39 := Lib.hid (S3.out.on (belLit0 BB5.out B9.out))
  have BW := Lib.hid (belLit0 B3.out (belLit0 BB5.out B9.out))
  have f3 : IntKind.i64.wrap ((n : Int) - 1) = (n : Int) - 1 := IntWalk.i64_in _ ⟨by omega, by omega⟩
  have f4 : (((n - 1 : Nat) : Int) != (n : Int) - 1) = false := by simp; omega
  clear s78 s8 s9 bb9
  go_wp2_with fail
  go_loopw [120, 17] (fun i _ wr => ∃ j : Nat, j ≤ n ∧ i = .int .i64 j ∧ ∃ q, wr = w9.drewN q) (fun i _ _ => n - (intOf i).toNat)
  case atStart => exact ⟨0, Nat.zero_le _, rfl, 0, rfl⟩
  case round =>
    obtain ⟨j, hj, rfl, q, rfl⟩ := hrel
    have hj0 : (0 : Int) ≤ j := by omega
    by_cases hlt : j < n
    · have hn1 : (j : Int) < n := by omega
      obtain ⟨b9, o9, hA9, hb9, hc9⟩ := S9.out.int_at hlt
      subst hA9
      obtain ⟨b3, o3, hA3, hb3, hc3⟩ := S39.out.int_at hlt
      subst hA3
      rw [show gi (fdone (moreT zs n k v) n) j = ffree (moreT zs n k v) (j + 1) from tab_get _ hlt] at hc9
      rw [show gi (fdone zs n) j = ffree zs (j + 1) from tab_get _ hlt] at hc3
      have mf := more_free (v := v) hk v0 (j + 1) (by omega)
      have r1 : decide (ffree (moreT zs n k v) (j + 1) < ffree zs (j + 1)) = false := decide_eq_false (by omega)
      rcases Nat.lt_trichotomy j k with h | h | h
      · obtain ⟨b8, o8, hA8, hb8, hc8⟩ := S8.out.int_at (k := j) (by omega)
        subst hA8
        rw [show gi (fdone (delT zs n k) (n - 1)) j = ffree (delT zs n k) (j + 1) from tab_get _ (by omega), del_before hk (j + 1) (by omega)] at hc8
        have hj8 : (j : Int) < ((n - 1 : Nat) : Int) := by omega
        have hj8' : j < n - 1 := by omega
        generalize ffree zs (j + 1) = D at *
        generalize ffree (moreT zs n k v) (j + 1) = Y at *
        have g1 : decide (j < k) = true := decide_eq_true h
        have g2 : decide (k < j) = false := decide_eq_false (by omega)
        have g3 : (D != D) = false := by simp
        clear mf
        go_wp2_with fail
        go_quiet (fail)
        go_wp2_with fail
        go_roundw
        case rel => exact ⟨j + 1, by omega, by go_num, _, rfl⟩
        case measure => simp [intOf]; omega
      · subst h
        generalize ffree zs (j + 1) = D at *
        generalize ffree (moreT zs n j v) (j + 1) = Y at *
        clear mf
        go_wp2_with fail
        go_quiet (fail)
        go_wp2_with fail
        go_roundw
        case rel => exact ⟨j + 1, by omega, by go_num, _, rfl⟩
        case measure => simp [intOf]; omega
      · obtain ⟨b8, o8, hA8, hb8, hc8⟩ := S8.out.int_at (k := j - 1) (by omega)
        subst hA8
        have da := del_after P.out hk j (by omega) hlt
        rw [show gi (fdone (delT zs n k) (n - 1)) (j - 1) = ffree (delT zs n k) (j - 1 + 1) from tab_get _ (by omega), show j - 1 + 1 = j by omega] at hc8
        generalize ffree (delT zs n k) j = X at *
        generalize ffree zs (j + 1) = D at *
        generalize ffree (moreT zs n k v) (j + 1) = Y at *
        have g1 : decide (j < k) = false := decide_eq_false (by omega)
        have g2 : decide (k < j) = true := decide_eq_true h
        have g3 : decide (D < X) = false := decide_eq_false (by omega)
        have g4 : IntKind.i64.wrap ((j : Int) - 1) = (j : Int) - 1 := IntWalk.i64_in _ ⟨by omega, by omega⟩
        have g5 : ((j : Int) - 1).toNat = j - 1 := by omega
        have g6 : 0 ≤ (j : Int) - 1 := by omega
        have g7 : (j : Int) - 1 < ((n - 1 : Nat) : Int) := by omega
        have g8 : (1 : Int) ≤ j := by omega
        have g9 : 1 ≤ j := by omega
        have g10 : (j : Int) < ((n - 1 : Nat) : Int) + 1 := by omega
        have g11 : (j : Int) ≤ ((n - 1 : Nat) : Int) := by omega
        have g12 : j < n - 1 + 1 := by omega
        have g13 : j ≤ n - 1 := by omega
        have g14 : j - 1 < n - 1 := by omega
        clear mf da
        go_wp2_with fail
        go_quiet (fail)
        go_wp2_with fail
        go_roundw
        case rel => exact ⟨j + 1, by omega, by go_num, _, rfl⟩
        case measure => simp [intOf]; omega
    · have hn1 : ¬ (j : Int) < n := by omega
      go_wp2_with fail
      go_ret
      exact ⟨rfl, bel_drewN BW.out _⟩
end Go.Proofs.Ytihhldphpoddhaa
