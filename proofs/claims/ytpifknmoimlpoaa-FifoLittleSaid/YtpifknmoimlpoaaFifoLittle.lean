/- FifoLittle: all times in which packets are there, together, are as many as there are packets in each time, together. -/
import Derived.Test.YtpifknmoimlpoaaCountA
import Derived.Test.YtpifknmoimlpoaaSortI
import Derived.Test.YtpifknmoimlpoaaKit0
import Derived.Deep.RegionLaw
import Derived.StillTailTactics
set_option linter.unusedVariables false
namespace Go.Proofs.Ytpifknmoimlpoaa
open Go.RowKit
def ltimes (zs : List Int) : Nat → List Int
  | 0 => []
  | k + 1 => ltimes zs k ++ [fd zs k 0, ffree zs (k + 1)]
theorem ltimes_len (zs : List Int) (k : Nat) : (ltimes zs k).length = 2 * k := by
  induction k with
  | zero => rfl
  | succ k ih => show (ltimes zs k ++ _).length = _; rw [List.length_append, ih]; simp; omega
theorem ltimes_mem (zs : List Int) (n k : Nat) (hk : k < n) : fd zs k 0 ∈ ltimes zs n ∧ ffree zs (k + 1) ∈ ltimes zs n := by
  induction n with
  | zero => omega
  | succ n ih =>
    show _ ∈ ltimes zs n ++ _ ∧ _ ∈ ltimes zs n ++ _
    rcases Nat.lt_or_ge k n with h | h
    · have := ih h
      exact ⟨List.mem_append_left _ this.1, List.mem_append_left _ this.2⟩
    · have : k = n := by omega
      subst this
      exact ⟨List.mem_append_right _ (by simp), List.mem_append_right _ (by simp)⟩
theorem ltimes_bd {zs : List Int} {n : Nat} (h : Packs zs n) : ∀ k, k ≤ n → ∀ z ∈ ltimes zs k, 0 ≤ z ∧ z ≤ 60200 := by
  intro k
  induction k with
  | zero => intro _ z hz; cases hz
  | succ k ih =>
    intro hk z hz
    have hz' : z ∈ ltimes zs k ++ [fd zs k 0, ffree zs (k + 1)] := hz
    rcases List.mem_append.1 hz' with h1 | h1
    · exact ih (by omega) z h1
    · have a := h.at0 k (by omega)
      have f := ffree_bd h (k + 1) hk
      have t := h.top
      simp at h1
      rcases h1 with rfl | rfl
      · omega
      · push_cast at f; omega
theorem sorted_ok {zs : List Int} {n : Nat} (h : Packs zs n) {T : List Int} (hT : (ltimes zs n).mergeSort (fun x y => decide (x ≤ y)) = T) :
    T.length = 2 * n ∧ (∀ i, i < 2 * n → 0 ≤ gi T i ∧ gi T i ≤ 60200) ∧ LOk (fun k => fd zs k 0) (fun k => ffree zs (k + 1)) n (gi T) (2 * n) := by
  have hp : T.Perm (ltimes zs n) := by rw [← hT]; exact List.mergeSort_perm _ _
  have hl : T.length = 2 * n := by rw [hp.length_eq, ltimes_len]
  have hs : T.Pairwise fun x y => (decide (x ≤ y)) = true := by
    rw [← hT]
    exact List.pairwise_mergeSort (fun a b c h1 h2 => by simp only [decide_eq_true_eq] at *; omega) (fun a b => by simp only [Bool.or_eq_true, decide_eq_true_eq]; omega) _
  have inT : ∀ z, z ∈ ltimes zs n → ∃ i, i < 2 * n ∧ gi T i = z := fun z hz => by
    obtain ⟨i, hi, e⟩ := List.mem_iff_getElem.1 (hp.mem_iff.2 hz)
    exact ⟨i, by omega, by rw [gi_eq hi]; exact e⟩
  refine ⟨hl, fun i hi => ltimes_bd h n (Nat.le_refl _) _ (hp.mem_iff.1 (gi_mem (by omega))), ⟨fun k hk => ?_, fun i j hij hj => ?_, fun k hk => inT _ (ltimes_mem zs n k hk).1, fun k hk => inT _ (ltimes_mem zs n k hk).2⟩⟩
  · show fd zs k 0 ≤ mx (ffree zs k) (fd zs k 0) + fd zs k 1
    have := (mx_le (ffree zs k) (fd zs k 0)).2.1
    have := (h.sz k hk).1
    omega
  · rcases Nat.eq_or_lt_of_le hij with e | e
    · rw [e]; exact Int.le_refl _
    · have := List.pairwise_iff_getElem.1 hs i j (by omega) (by omega) e
      rw [gi_eq (by omega), gi_eq (by omega)]
      exact of_decide_eq_true this
theorem lsum_bd {zs : List Int} {n : Nat} (h : Packs zs n) (k : Nat) (hk : k ≤ n) : 0 ≤ lsum (fun k => fd zs k 0) (fun k => ffree zs (k + 1)) k ∧ lsum (fun k => fd zs k 0) (fun k => ffree zs (k + 1)) k ≤ 60200 * (k : Int) := by
  induction k with
  | zero => exact ⟨Int.le_refl _, by show (0 : Int) ≤ _; simp⟩
  | succ k ih =>
    have := ih (by omega)
    have a := h.at0 k (by omega)
    have f := ffree_bd h (k + 1) hk
    have t := h.top
    have d : fd zs k 0 ≤ ffree zs (k + 1) := by
      show fd zs k 0 ≤ mx (ffree zs k) (fd zs k 0) + fd zs k 1
      have := (mx_le (ffree zs k) (fd zs k 0)).2.1
      have := (h.sz k (by omega)).1
      omega
    show 0 ≤ lsum _ _ k + (ffree zs (k + 1) - fd zs k 0) ∧ lsum _ _ k + (ffree zs (k + 1) - fd zs k 0) ≤ _
    push_cast at *
    omega
theorem lit_cell2 (w : World) (x y : Value) (e : TypeId) (ad : Addr) (h : some (⟨w.heap.size, 0, none⟩ : Addr) = some ad) (i : Nat) (u : Value) (hu : [x, y][i]? = some u) : (w.alloc (.cells #[x, y] e)).cell? (ad.add i) = some u := by
  injection h with h
  subst h
  match i, hu with
  | 0, hu => simp at hu; subst hu; rw [Addr.add_lit, World.cell?_alloc_at _ _ _ _ rfl]; rfl
  | 1, hu => simp at hu; subst hu; rw [Addr.add_lit, World.cell?_alloc_at _ _ _ _ rfl]; rfl
set_option maxRecDepth 100000 in
set_option maxHeartbeats 6400000 in
theorem fifoLittle_walk (A : Option Addr) (n c : Nat) (zs : List Int) (W : World) (w0 : In3 W A n c zs) :
    Calls Try.prog 12 #[.slice A n c] W fun e w' => e = .returned (.bool true) ∧ Below W.heap.size W w' := by
  obtain ⟨sz, lz, rz, _⟩ := w0
  have SZ := Lib.hid sz
  have hnn : n ≤ 9223372036854775807 := by omega
  clear sz lz rz
  go_enter Try.func12, Try.ntmps12
  go_wp2_with fail
  have S1 := Lib.hid (Sl.built_ W (ints [0, 3, 0, 1, 2, 0]) 59 _ rfl (n := 2 * 3) rfl)
  have B1 : Hid (Below W.heap.size W (W.alloc (.cells (ints [0, 3, 0, 1, 2, 0]).toArray 59))) := Lib.hid ((Below.refl _ _).alloc (Nat.le_refl _) _)
  refine (fifo_any _ 2 2 [0, 3, 0, 1, 2, 0] _ S1.out (by omega) [3, 5] 0 2 (by decide +kernel) rfl).mono ?_
  rintro e w2 ⟨A2, c2, rfl, s2, l2, b2, -⟩
  have B2 := Lib.hid (B1.out.trans (b2.mono B1.out.size))
  have S2 := Lib.hid s2
  have S12 := Lib.hid (S1.out.on b2)
  clear s2 b2 S1 B1
  go_wp2_with fail
  refine (equal_t A2 2 c2 [3, 5] _ 2 _ [3, 5] _ (slMore S2.out _) (Sl.built_ _ (ints [3, 5]) 3 _ rfl rfl) (by omega) (by omega) true (by decide)).mono ?_
  rintro e w3 ⟨rfl, b3⟩
  have B3 := Lib.hid (belLit1 B2.out b3)
  have S13 := Lib.hid (slLit1 S12.out b3)
  clear b3 S2 S12 B2
  go_wp2_with fail
  refine (count_ok _ 2 2 [0, 3, 0, 1, 2, 0] 2 _ S13.out (by omega) (by decide +kernel) 2 (by decide +kernel)).mono ?_
  rintro e w4 ⟨rfl, b4⟩
  have B4 := Lib.hid (B3.out.trans (b4.mono B3.out.size))
  have SZ4 := Lib.hid ((SZ.out.below B4.out).more B4.out.size)
  clear b4 S13 B3
  go_wp2_with fail
  by_cases h0 : packErr zs n = 0
  case neg =>
    refine (fifo_any A n c zs _ SZ4.out hnn [] (packErr zs n) 0 (if_neg h0) rfl).mono ?_
    rintro e w5 ⟨A5, c5, rfl, s5, l5, b5, -⟩
    have B5 := Lib.hid (B4.out.trans (b5.mono B4.out.size))
    have hne : (packErr zs n != 0) = true := by simpa using h0
    clear s5 b5 h0
    go_wp2_with fail
    go_ret
    exact ⟨rfl, B5.out⟩
  have PK := Lib.hid (packs_of h0)
  have H0 := Lib.hid h0
  have n60 := PK.out.top
  refine (fifo_any A n c zs _ SZ4.out hnn (fdone zs n) 0 n (if_pos h0) (by rw [fdone, tab_len])).mono ?_
  rintro e w5 ⟨A5, c5, rfl, s5, l5, b5, -⟩
  have B5 := Lib.hid (B4.out.trans (b5.mono B4.out.size))
  have S5 := Lib.hid s5
  have SZ5 := Lib.hid (SZ4.out.on b5)
  clear s5 b5 h0 SZ4
  go_wp2_with fail
  go_loopw [68, 10, 11] (fun vi vt vs wr => ∃ k : Nat, k ≤ n ∧ vi = .int .i64 (k : Int) ∧ vs = .int .i64 (lsum (fun k => fd zs k 0) (fun k => ffree zs (k + 1)) k) ∧ Hid (wr.ownsRow w5.heap.size 3 1 vt (2 * k) (ints (ltimes zs k))) ∧ Hid (Below w5.heap.size w5 wr)) (fun vi _ _ _ => n - (intOf vi).toNat)
  case atStart => exact ⟨0, Nat.zero_le _, rfl, rfl, Lib.hid (World.ownsRow_nil _ _ _ _), Lib.hid (Below.refl _ _)⟩
  case round =>
    obtain ⟨k, hk, rfl, rfl, hO, hB⟩ := hrel
    have hz := hB.out.size
    have hk0 : (0 : Int) ≤ k := by omega
    have sb := lsum_bd PK.out k hk
    by_cases hlt : k < n
    · have hn1 : (k : Int) < n := by omega
      obtain ⟨b, off, rfl, hbl, -⟩ := (SZ5.out.below hB.out).int_at (k := k * 3) (by omega)
      obtain ⟨c0, c1', c2'⟩ := (SZ5.out.below hB.out).three hlt
      obtain ⟨bd, od, rfl, hbd, cd⟩ := (S5.out.below hB.out).int_at hlt
      rw [fdone, tab_get _ hlt] at cd
      have LT : Hid (ltimes zs (k + 1) = ltimes zs k ++ [fd zs k 0, ffree zs (k + 1)]) := Lib.hid rfl
      have LS : Hid (lsum (fun k => fd zs k 0) (fun k => ffree zs (k + 1)) (k + 1) = lsum (fun k => fd zs k 0) (fun k => ffree zs (k + 1)) k + (ffree zs (k + 1) - fd zs k 0)) := Lib.hid rfl
      have xb := PK.out.at0 k hlt
      have db := ffree_bd PK.out (k + 1) (by omega)
      obtain ⟨x, hx⟩ : ∃ x, fd zs k 0 = x := ⟨_, rfl⟩
      obtain ⟨y, hy⟩ : ∃ x, fd zs k 1 = x := ⟨_, rfl⟩
      obtain ⟨z, hz'⟩ : ∃ x, fd zs k 2 = x := ⟨_, rfl⟩
      obtain ⟨d, hd⟩ : ∃ x, ffree zs (k + 1) = x := ⟨_, rfl⟩
      obtain ⟨m, hm⟩ : ∃ x, lsum (fun k => fd zs k 0) (fun k => ffree zs (k + 1)) k = x := ⟨_, rfl⟩
      rw [hx] at c0 LS LT xb
      rw [hy] at c1'
      rw [hz'] at c2'
      rw [hd] at cd LS LT db
      rw [hm] at LS sb ⊢
      obtain ⟨g, hg⟩ : ∃ g, wr.heap.size = g := ⟨_, rfl⟩
      have dd : (wr.alloc (.cells #[.int .i64 x, .int .i64 y, .int .i64 z] 59)).cell? ⟨bd, od + k, none⟩ = some (.int .i64 d) := by
        rw [World.cell?_alloc_lt _ _ _ (show bd < wr.heap.size by omega)]; exact cd
      have px : (wr.alloc (.cells #[.int .i64 x, .int .i64 y, .int .i64 z] 59)).cell? ⟨g, 0, none⟩ = some (.int .i64 x) := by subst hg; exact World.cell?_alloc_at _ _ _ _ rfl
      have BA := Lib.hid (hB.out.alloc hz (.cells #[.int .i64 x, .int .i64 y, .int .i64 z] 59))
      have OA := Lib.hid (hO.out.alloc (.cells #[.int .i64 x, .int .i64 y, .int .i64 z] 59))
      clear hx hy hz' hd hm
      go_wp2_with fail
      try rw [hg]
      obtain ⟨wa, hwa⟩ : ∃ wa, wr.alloc (.cells #[.int .i64 x, .int .i64 y, .int .i64 z] 59) = wa := ⟨_, rfl⟩
      rw [hwa] at dd px BA OA ⊢
      clear hwa c0 c1' c2' cd hg
      go_quiet (fail)
      have BQ := Lib.hid (bel_drewN BA.out nq)
      have OQ : Hid ((wa.drewN nq).ownsRow w5.heap.size 3 1 u10 (2 * k) (ints (ltimes zs k))) := OA
      have dq : (wa.drewN nq).cell? ⟨bd, od + k, none⟩ = some (.int .i64 d) := dd
      have pq : (wa.drewN nq).cell? ⟨g, 0, none⟩ = some (.int .i64 x) := px
      generalize wa.drewN nq = w6 at BQ OQ dq pq ⊢
      clear dd px BA OA
      have Z6 := BQ.out.size
      go_wp2_with fail
      go_region_law (first
        | (refine step_cat (by rfl) (.tmp 82) (.tmp 89) _ (by rfl) elemInt w5.heap.size u10 (2 * k) _ (some ⟨w6.heap.size, 0, none⟩) 2 2 [.int .i64 x, .int .i64 d] (by rfl) (by rfl) (OQ.out.alloc _) (by first | exact (BQ.out.alloc Z6 _).drew | exact BQ.out.drew.alloc Z6 _) (by simp; omega) (by rfl) (by intro h; cases h) (fun ad h i u hu => lit_cell2 w6 _ _ 3 ad h i u hu) (by intro u hu; simp at hu; rcases hu with rfl | rfl <;> rfl) (by unfold maxLen; omega) (by omega) ?_; rintro v3 w7 hown3 hb3 hz3 -))
      all_goals
        have O3 := Lib.hid hown3
        have B3 := Lib.hid hb3
        clear hown3 hb3
        go_wp2_with fail
        go_roundw
        case rel => exact ⟨k + 1, by omega, by go_num, by rw [LS.out], Lib.hid (by have := O3.out; rw [LT.out, show 2 * (k + 1) = 2 * k + 2 by omega, ← ints_app]; exact this), B3⟩
        case measure => simp [intOf]; omega
    · have hkn : k = n := by omega
      subst hkn
      have hn1 : ¬ (k : Int) < k := by omega
      go_wp2_with fail
      refine (sort_own w5.heap.size _ (2 * k) (ltimes zs k) _ hO.out (by omega)).mono ?_
      rintro e w9 ⟨rfl, o9, g9⟩
      have BW9 := Lib.hid (B5.out.trans ((hB.out.grown g9 hz (fun b hb => (hO.out.lt b hb).1)).mono B5.out.size))
      have B9 := Lib.hid (hB.out.grown g9 hz (fun b hb => (hO.out.lt b hb).1))
      obtain ⟨T, hT⟩ : ∃ T, (ltimes zs k).mergeSort (fun x y => decide (x ≤ y)) = T := ⟨_, rfl⟩
      rw [hT] at o9
      obtain ⟨tl, tb, lo⟩ := sorted_ok PK.out hT
      obtain ⟨N, hN⟩ : ∃ N, 2 * k = N := ⟨_, rfl⟩
      rw [hN] at o9 tl tb lo
      obtain ⟨At, ct, rfl, hct⟩ := own_form o9
      have HN := Lib.hid hN
      have ST := Lib.hid (Sl.of_own o9)
      have TB := Lib.hid tb
      have LO := Lib.hid lo
      have SZ9 := Lib.hid ((SZ.out.below BW9.out).more BW9.out.size)
      have FIN : Hid (0 < k → lall (fun k => fd zs k 0) (fun k => ffree zs (k + 1)) k (gi T) (N - 1) = lsum (fun k => fd zs k 0) (fun k => ffree zs (k + 1)) k) := Lib.hid fun h => little lo (by omega)
      have NB := Lib.hid (fun d hd => lall_bd (a := fun k => fd zs k 0) (b := fun k => ffree zs (k + 1)) (n := k) n60 lo.up tb d hd)
      have n120 : N ≤ 120 := by omega
      clear o9 g9 hT tl tb lo hB hO hN
      obtain ⟨sm, hsm⟩ : ∃ x, lsum (fun k => fd zs k 0) (fun k => ffree zs (k + 1)) k = x := ⟨_, rfl⟩
      have HSM := Lib.hid hsm
      rw [hsm] at FIN sb ⊢
      clear hsm
      go_wp2_with fail
      go_loopw [15, 14] (fun vi va wr => ∃ d : Nat, (d = 0 ∨ d + 1 ≤ N) ∧ vi = .int .i64 ((d : Int) + 1) ∧ va = .int .i64 (lall (fun k => fd zs k 0) (fun k => ffree zs (k + 1)) k (gi T) d) ∧ Hid (Below w9.heap.size w9 wr)) (fun vi _ _ => N - (intOf vi).toNat)
      case atStart => exact ⟨0, .inl rfl, rfl, rfl, Lib.hid (Below.refl _ _)⟩
      case round =>
        obtain ⟨d, hd, rfl, rfl, hB⟩ := hrel
        have hz := hB.out.size
        have BW := Lib.hid (BW9.out.trans (hB.out.mono BW9.out.size))
        by_cases hlt : d + 1 < N
        · have hnI : (d : Int) + 1 < N := by omega
          obtain ⟨bt, ot, rfl, hbt, ca⟩ := (ST.out.below hB.out).int_at (k := d) (by omega)
          have cb := (ST.out.below hB.out).int_cell (k := d + 1) hlt
          have e1 : IntKind.i64.wrap (d : Int) = d := IntWalk.i64_in _ ⟨by omega, by omega⟩
          have e2 : (d : Int) + 1 - 1 = d := by omega
          have e3 : ((d : Int) + 1).toNat = d + 1 := by omega
          have e4 : (0 : Int) ≤ (d : Int) + 1 := by omega
          have e5 : (0 : Int) ≤ d := by omega
          have e6 : (d : Int) < N := by omega
          have t0 := TB.out d (by omega)
          have t1 := TB.out (d + 1) hlt
          have up := LO.out.up d (d + 1) (by omega) hlt
          have lb := NB.out d (by omega)
          have cbd := lcnt_bd (fun k => fd zs k 0) (fun k => ffree zs (k + 1)) (gi T d) k
          have LS : Hid (lall (fun k => fd zs k 0) (fun k => ffree zs (k + 1)) k (gi T) (d + 1) = lall (fun k => fd zs k 0) (fun k => ffree zs (k + 1)) k (gi T) d + lcnt (fun k => fd zs k 0) (fun k => ffree zs (k + 1)) (gi T d) k * (gi T (d + 1) - gi T d)) := Lib.hid rfl
          have pb := lprod_bd cbd.1 (by omega : lcnt (fun k => fd zs k 0) (fun k => ffree zs (k + 1)) (gi T d) k ≤ 60) (u := gi T (d + 1) - gi T d) (B := 60200) (by omega) (by omega)
          obtain ⟨al, hal⟩ : ∃ x, lall (fun k => fd zs k 0) (fun k => ffree zs (k + 1)) k (gi T) d = x := ⟨_, rfl⟩
          obtain ⟨cv, hcv⟩ : ∃ x, lcnt (fun k => fd zs k 0) (fun k => ffree zs (k + 1)) (gi T d) k = x := ⟨_, rfl⟩
          obtain ⟨ta, hta⟩ : ∃ x, gi T d = x := ⟨_, rfl⟩
          obtain ⟨tb, htb⟩ : ∃ x, gi T (d + 1) = x := ⟨_, rfl⟩
          rw [hal] at lb LS
          rw [hal]
          rw [hcv] at cbd LS pb
          rw [hta] at ca t0 up LS pb hcv
          rw [htb] at cb t1 up LS pb
          have HCV := Lib.hid hcv
          obtain ⟨P, hP⟩ : ∃ x, cv * (tb - ta) = x := ⟨_, rfl⟩
          rw [hP] at LS pb
          have hw : IntKind.i64.wrap (cv * (tb - ta)) = P := by rw [hP]; exact IntWalk.i64_in _ ⟨by omega, by omega⟩
          have hw2 : wrap64 (cv * (tb - ta)) = P := by rw [hP]; exact IntWalk.wrap64_in _ ⟨by omega, by omega⟩
          have CA := Lib.hid ca
          have CB := Lib.hid cb
          have HBT := Lib.hid hbt
          have SZk := Lib.hid ((SZ9.out.below hB.out).more hz)
          clear hal hcv hta htb hP cb
          go_wp2_with fail
          refine (count_ok A k c zs ta _ SZk.out hnn H0.out cv HCV.out).mono ?_
          rintro e w10 ⟨rfl, b10⟩
          have B10 := Lib.hid (hB.out.trans (b10.mono hz))
          have ca' : w10.cell? ⟨bt, ot + d, none⟩ = some (.int .i64 ta) := (b10.cell (p := ⟨bt, ot + d, none⟩) (show bt < wr.heap.size by omega)).trans CA.out
          have cb' : w10.cell? ⟨bt, ot + (d + 1), none⟩ = some (.int .i64 tb) := (b10.cell (p := ⟨bt, ot + (d + 1), none⟩) (show bt < wr.heap.size by omega)).trans CB.out
          clear b10 ca
          go_wp2_with fail
          go_quiet (fail)
          go_wp2_with fail
          go_roundw
          case rel => exact ⟨d + 1, .inr (by omega), by go_num, by rw [LS.out], Lib.hid (bel_drewN B10.out _)⟩
          case measure => simp [intOf]; omega
        · have hnI : ¬ (d : Int) + 1 < N := by omega
          have EQ : Hid (lall (fun k => fd zs k 0) (fun k => ffree zs (k + 1)) k (gi T) d = sm) := Lib.hid (by
            have hN := HN.out
            rcases Nat.eq_zero_or_pos k with h | h
            · have : d = 0 := by omega
              subst this
              subst h
              exact HSM.out
            · rw [← FIN.out h, show N - 1 = d by omega])
          rw [EQ.out]
          go_wp2_with fail
          go_ret
          exact ⟨by simp, BW.out⟩
end Go.Proofs.Ytpifknmoimlpoaa
