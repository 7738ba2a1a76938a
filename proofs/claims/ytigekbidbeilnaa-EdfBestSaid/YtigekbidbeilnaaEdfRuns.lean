/- EdfRuns: no job runs before its release or longer than its work, and the processor is never idle while a job is pending. -/
import Derived.Test.YtigekbidbeilnaaEdfS
import Derived.Test.YtigekbidbeilnaaOpen3
set_option linter.unusedVariables false
namespace Go.Proofs.Ytigekbidbeilnaa
open Go.RowKit
/-- One table that is made in world w0. -/
structure OneT (w0 wr : World) (n gl : Nat) (u : Nat → Int) : Prop where
  l : wr.ownsRow w0.heap.size 3 1 (.slice (some ⟨gl, 0, none⟩) n n) n (ints (tab n u))
  bel : Below w0.heap.size w0 wr
  lo : w0.heap.size ≤ gl
  hi : gl < wr.heap.size
theorem OneT.on {w0 wr w' : World} {n gl : Nat} {u : Nat → Int} (h : OneT w0 wr n gl u) (hb : Below wr.heap.size wr w') : OneT w0 w' n gl u :=
  ⟨own_keep h.l hb h.hi, h.bel.trans (hb.mono h.bel.size), h.lo, Nat.lt_of_lt_of_le h.hi hb.size⟩
theorem OneT.congr {w0 wr : World} {n gl : Nat} {u u' : Nat → Int} (h : OneT w0 wr n gl u) (hu : ∀ i, i < n → u i = u' i) : OneT w0 wr n gl u' :=
  ⟨by rw [← tab_congr hu]; exact h.l, h.bel, h.lo, h.hi⟩
theorem OneT.set {w0 wr : World} {n gl : Nat} {u : Nat → Int} (h : OneT w0 wr n gl u) {i : Nat} (hi : i < n) (x : Int) : OneT w0 (wr.setCell ⟨gl, i, none⟩ (.int .i64 x)) n gl (fun k => if k = i then x else u k) := by
  refine ⟨?_, h.bel.setCell (p := ⟨gl, i, none⟩) h.lo _, h.lo, by simpa using h.hi⟩
  have := (h.l.stored i (.int .i64 x)).1
  rwa [ints_set, tab_set _ _ _ hi] at this
theorem OneT.cl {w0 wr : World} {n gl : Nat} {u : Nat → Int} (h : OneT w0 wr n gl u) {k : Nat} (hk : k < n) : wr.cell? ⟨gl, k, none⟩ = some (.int .i64 (u k)) ∧ wr.frozen? ⟨gl, k, none⟩ = false := by
  have := h.l.cellAt k (by omega)
  rw [ints_get (by rw [tab_len]; exact hk), tab_get _ hk] at this
  exact ⟨this, h.l.frozenAt k⟩
theorem oneT_made (w : World) (n : Nat) (hn : n ≤ 12) : OneT w (w.alloc (zeroObj n)) n w.heap.size (fun _ => 0) := by
  have hl : (ints (tab n fun _ => 0)).toArray.size = n * 1 := by simp [ints, tab]
  exact ⟨World.ownsRow_lit w (ints (tab n fun _ => 0)).toArray n (Nat.le_refl _) (by unfold maxLen; omega) hl, (Below.refl _ _).alloc (Nat.le_refl _) _, Nat.le_refl _, by simp⟩
set_option maxRecDepth 100000 in
set_option maxHeartbeats 12800000 in
theorem edfRuns_walk (A : Option Addr) (n c : Nat) (zs : List Int) (W : World) (w0 : In3 W A n c zs) :
    Calls Try.prog 5 #[.slice A n c] W fun e w' => e = .returned (.bool true) ∧ Below W.heap.size W w' := by
  obtain ⟨s0, l0, r0, _⟩ := w0
  go_enter Try.func5, Try.ntmps5
  go_wp2_with fail
  refine (erun_ok _ 2 _ [1, 2, 9, 2, 1, 4] _ (Sl.built_ _ (ints [1, 2, 9, 2, 1, 4]) 28 _ rfl rfl) (by decide) 4 [-1, 0, 1, 0] busy_ex.1 busy_ex.2).mono ?_
  rintro e w1 ⟨A1, c1, rfl, s1, bb1⟩
  have b1 := belLit1 (Below.refl W.heap.size W) bb1
  replace s0 := slLit1 s0 bb1
  clear bb1
  go_wp2_with fail
  refine (equal_t A1 4 c1 [-1, 0, 1, 0] _ 4 _ [-1, 0, 1, 0] _ (slMore s1 _) (Sl.built_ _ (ints [-1, 0, 1, 0]) 3 _ rfl rfl) (by omega) (by omega) true (by decide)).mono ?_
  rintro e w2 ⟨rfl, bb2⟩
  have b2 := belLit1 b1 bb2
  replace s0 := slLit1 s0 bb2
  clear bb2 s1 b1
  by_cases hok : edfOk zs n
  case neg =>
    have HO := Lib.hid hok
    have hne := edfErr_ne n
    have hee : (edfErr n == edfErr n) = true := by simp
    clear hok
    go_wp2_with fail
    refine (erun_bad A n c zs _ s0 HO.out (by omega)).mono ?_
    rintro e w3 ⟨A3, c3, rfl, s3, bb3⟩
    have b3 := belLit0 b2 bb3
    replace s0 := slLit0 s0 bb3
    clear bb3 s3 b2
    go_wp2_with fail
    refine (echeck_bad A n c zs _ HO.out s0 (by omega)).mono ?_
    rintro e w4 ⟨rfl, bb4⟩
    have b4 := belLit0 b3 bb4
    clear bb4 b3 s0
    go_wp2_with fail
    go_ret
    exact ⟨rfl, b4⟩
  have HO := Lib.hid hok
  have h12 := hok.1
  clear hok
  obtain ⟨B, hB⟩ : ∃ B, ebusy zs n 200 = B := ⟨_, rfl⟩
  have HB := Lib.hid hB
  have B200 : B ≤ 200 := by rw [← hB]; exact ebusy_le zs n 200
  clear hB
  go_wp2_with fail
  refine (erun_ok A n c zs _ s0 HO.out B _ HB.out rfl).mono ?_
  rintro e w3 ⟨A3, c3, rfl, s3, bb3⟩
  have b3 := Lib.hid (belLit0 b2 bb3)
  have S0 := Lib.hid (slLit0 s0 bb3)
  have S3 := Lib.hid s3
  have hmk := makeInts_any n (by omega)
  have TM := Lib.hid (oneT_made w3 n h12)
  clear bb3 s3 b2 s0
  go_wp2_with fail
  have T0 := TM.out
  unfold zeroObj at T0
  revert T0
  generalize w3.alloc (.cells (ints (tab n fun _ => 0)).toArray 3) = w4
  intro T0
  obtain ⟨gl, hgl⟩ : ∃ gl, w3.heap.size = gl := ⟨_, rfl⟩
  go_loopw [50] (fun i wr => ∃ k : Nat, k ≤ n ∧ i = .int .i64 k ∧ OneT w3 wr n w3.heap.size (fun i => if i < k then fd zs i 1 else 0)) (fun i _ => n - (intOf i).toNat)
  case atStart => exact ⟨0, Nat.zero_le _, rfl, T0.congr (fun i _ => by rw [if_neg (Nat.not_lt_zero i)])⟩
  case round =>
    clear T0
    obtain ⟨k, hk, rfl, T⟩ := hrel
    by_cases hlt : k < n
    · obtain ⟨ba, oa, rfl, qa, -⟩ := S0.out.int_at (k := k * 3) (by omega)
      obtain ⟨a0, a1, a2⟩ := (S0.out.below T.bel).three hlt
      obtain ⟨oj, hoj⟩ : ∃ oj, Obj.cells #[.int .i64 (fd zs k 0), .int .i64 (fd zs k 1), .int .i64 (fd zs k 2)] 28 = oj := ⟨_, rfl⟩
      have TA := T.on ((Below.refl _ wr).alloc (Nat.le_refl _) oj)
      obtain ⟨cc, cf⟩ := TA.cl hlt
      have TS := Lib.hid (TA.set hlt (fd zs k 1))
      subst hoj
      have hn1 : (k : Int) < n := by omega
      have hk0 : (0 : Int) ≤ k := by omega
      clear T TA hgl
      go_wp2_with fail
      go_roundw
      case rel =>
        refine ⟨k + 1, by omega, by go_num, TS.out.congr (fun i hi => ?_)⟩
        by_cases h1 : i = k
        · rw [if_pos h1, if_pos (show i < k + 1 by omega), h1]
        · rw [if_neg h1]
          by_cases h2 : i < k
          · rw [if_pos h2, if_pos (show i < k + 1 by omega)]
          · rw [if_neg h2, if_neg (show ¬ i < k + 1 by omega)]
      case measure => simp [intOf]; omega
    · have hkn : k = n := by omega
      subst hkn
      have T1 := Lib.hid (T.congr (u' := elf zs k 0) (fun i hi => by rw [if_pos hi]; rfl))
      clear T hmk TM hgl hlt hk
      go_wp2_with fail
      go_loopw [63] (fun i wr => ∃ t : Nat, t ≤ B ∧ i = .int .i64 t ∧ OneT w3 wr k w3.heap.size (elf zs k t)) (fun i _ => B - (intOf i).toNat)
      case atStart => exact ⟨0, Nat.zero_le _, rfl, T1.out⟩
      case round =>
        clear T1
        obtain ⟨t, ht, rfl, T⟩ := hrel
        by_cases hlt : t < B
        · have hn1 : (t : Int) < B := by omega
          have hk0 : (0 : Int) ≤ t := by omega
          obtain ⟨bx, ox, rfl, qx, -⟩ := S3.out.int_at hlt
          have hx := (S3.out.below T.bel).int_cell (k := t) hlt
          rw [tab_get _ hlt] at hx
          have hpc := pickJ_cases zs (elf zs k t) t k
          have hbest := Lib.hid (pickJ_best zs (elf zs k t) t k)
          have hep : Hid (epick zs k t = pickJ zs (elf zs k t) t k) := rfl
          rw [← hep.out] at hpc
          have HPC := Lib.hid hpc
          obtain ⟨p, hp⟩ : ∃ p, epick zs k t = p := ⟨_, rfl⟩
          have HP := Lib.hid hp
          rw [hp] at hx hpc
          have d1 : decide (p < -1) = false := decide_eq_false (by rcases hpc with h | ⟨j, h1, h2, _⟩ <;> omega)
          have d2 : decide ((k : Int) ≤ p) = false := decide_eq_false (by rcases hpc with h | ⟨j, h1, h2, _⟩ <;> omega)
          have TT := Lib.hid T
          clear T hp hpc
          go_wp2_with fail
          go_loopw [78] (fun i wr' => ∃ m : Nat, m ≤ k ∧ i = .int .i64 m ∧ OneT w3 wr' k w3.heap.size (elf zs k t)) (fun i _ => k - (intOf i).toNat)
          case atStart => exact ⟨0, Nat.zero_le _, rfl, TT.out⟩
          case round =>
            clear TT hx
            obtain ⟨m, hm, rfl, T⟩ := hrel
            by_cases hmk : m < k
            · obtain ⟨ba, oa, rfl, qa, -⟩ := S0.out.int_at (k := m * 3) (by omega)
              obtain ⟨a0, a1, a2⟩ := (S0.out.below T.bel).three hmk
              obtain ⟨oj, hoj⟩ : ∃ oj, Obj.cells #[.int .i64 (fd zs m 0), .int .i64 (fd zs m 1), .int .i64 (fd zs m 2)] 28 = oj := ⟨_, rfl⟩
              have TA := T.on ((Below.refl _ _).alloc (Nat.le_refl _) oj)
              have SA := Lib.hid (S0.out.below TA.bel)
              obtain ⟨cc, cf⟩ := TA.cl hmk
              have TS := Lib.hid TA
              subst hoj
              have hm1 : (m : Int) < k := by omega
              have hm0 : (0 : Int) ≤ m := by omega
              clear T TA
              by_cases c1 : fd zs m 0 ≤ t
              case neg =>
                have e1 : decide (fd zs m 0 ≤ t) = false := decide_eq_false c1
                clear c1
                go_wp2_with fail
                go_quiet (fail)
                go_wp2_with fail
                go_roundw
                case rel => exact ⟨m + 1, by omega, by go_num, TS.out.on (below_drewN (Below.refl _ _) _)⟩
                case measure => simp [intOf]; omega
              have e1 : decide (fd zs m 0 ≤ t) = true := decide_eq_true c1
              by_cases c2 : 0 < elf zs k t m
              case neg =>
                have e2 : decide (0 < elf zs k t m) = false := decide_eq_false c2
                clear c1 c2
                go_wp2_with fail
                go_quiet (fail)
                go_wp2_with fail
                go_roundw
                case rel => exact ⟨m + 1, by omega, by go_num, TS.out.on (below_drewN (Below.refl _ _) _)⟩
                case measure => simp [intOf]; omega
              have e2 : decide (0 < elf zs k t m) = true := decide_eq_true c2
              obtain ⟨j, hj, hpj, hdu⟩ := hbest.out m hmk c1 c2
              rw [← hep.out, HP.out] at hpj
              subst hpj
              obtain ⟨j0, j1, j2⟩ := SA.out.three (k := j) hj
              have hj1 : (j : Int) < k := by omega
              have hj0 : (0 : Int) ≤ j := by omega
              have e3 : decide ((j : Int) < 0) = false := decide_eq_false (by omega)
              have e4 : decide (fd zs m 2 < fd zs j 2) = false := decide_eq_false (by omega)
              clear c1 c2 hdu
              go_wp2_with fail
              go_quiet (fail)
              go_wp2_with fail
              go_roundw
              case rel => exact ⟨m + 1, by omega, by go_num, TS.out.on (below_drewN (Below.refl _ _) _)⟩
              case measure => simp [intOf]; omega
            · have hmn : ¬ (m : Int) < k := by omega
              rcases HPC.out with hp1 | ⟨j, hj, hpj, hja, hjl⟩
              · have HQ := Lib.hid hp1
                rw [HP.out] at hp1
                subst hp1
                have e3 : decide ((0 : Int) ≤ -1) = false := by decide
                have TS := Lib.hid T
                clear T
                go_wp2_with fail
                go_roundw
                case rel => exact ⟨t + 1, by omega, by go_num, TS.out.congr (fun i hi => by rw [elf_succ, HQ.out, if_neg (by omega)])⟩
                case measure => simp [intOf]; omega
              · have HQ := Lib.hid hpj
                rw [HP.out] at hpj
                subst hpj
                obtain ⟨ba, oa, rfl, qa, -⟩ := S0.out.int_at (k := j * 3) (by omega)
                obtain ⟨a0, a1, a2⟩ := (S0.out.below T.bel).three hj
                obtain ⟨cc, cf⟩ := T.cl hj
                have TS := Lib.hid (T.set hj (elf zs k t j - 1))
                have hxb := elf_bd HO.out t j hj
                have f1 : IntKind.i64.wrap (elf zs k t j - 1) = elf zs k t j - 1 := IntWalk.i64_in _ ⟨by omega, by omega⟩
                have hj1 : (j : Int) < k := by omega
                have hj0 : (0 : Int) ≤ j := by omega
                have e3 : decide ((0 : Int) ≤ j) = true := decide_eq_true hj0
                have e4 : decide ((t : Int) < fd zs j 0) = false := decide_eq_false (by omega)
                have e5 : (elf zs k t j == 0) = false := by simp; omega
                clear T hja hjl hxb
                go_wp2_with fail
                go_roundw
                case rel =>
                  refine ⟨t + 1, by omega, by go_num, TS.out.congr (fun i hi => ?_)⟩
                  rw [elf_succ, HQ.out]
                  by_cases hij : i = j
                  · subst hij; rw [if_pos rfl, if_pos rfl]
                  · rw [if_neg hij, if_neg (by omega)]
                case measure => simp [intOf]; omega
        · have htB : t = B := by omega
          subst htB
          have bF := Lib.hid (b3.out.trans (T.bel.mono b3.out.size))
          by_cases hB0 : t = 0
          · have e0 : ((t : Int) == 0) = true := by simp; omega
            clear T hB0
            go_wp2_with fail
            go_ret
            exact ⟨rfl, bF.out⟩
          · have e0 : ((t : Int) == 0) = false := by simp; omega
            obtain ⟨q, hq⟩ : ∃ q, t = q + 1 := ⟨t - 1, by omega⟩
            obtain ⟨bx, ox, rfl, qx, -⟩ := S3.out.int_at (k := q) (by omega)
            have hx := (S3.out.below T.bel).int_cell (k := q) (by omega)
            rw [tab_get _ (by omega)] at hx
            have hbl := busy_last zs k 200 (by rw [HB.out]; omega)
            rw [HB.out, show t - 1 = q by omega] at hbl
            have e6 : decide (0 ≤ epick zs k q) = true := decide_eq_true hbl
            have f1 : IntKind.i64.wrap ((t : Int) - 1) = (q : Int) := by rw [IntWalk.i64_in _ ⟨by omega, by omega⟩]; omega
            have hq0 : (0 : Int) ≤ q := by omega
            have hq1 : (q : Int) < t := by omega
            clear T hB0 hq hbl
            go_wp2_with fail
            go_ret
            exact ⟨rfl, bF.out⟩
end Go.Proofs.Ytigekbidbeilnaa
