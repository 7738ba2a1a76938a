/- BucketFits: packets that pass a token bucket conform to its curve in every interval. -/
import Derived.Test.YtihhldphpoddhaaBucketP
import Derived.Test.YtihhldphpoddhaaEqualB
import Derived.Test.YtihhldphpoddhaaKit0
set_option linter.unusedVariables false
namespace Go.Proofs.Ytihhldphpoddhaa
open Go.RowKit
theorem BBox.lit1 {w w1 : World} {g : Nat} {R B F : Int} {o : Obj} (h : BBox w g R B F) (hg : g < w.heap.size) (k : Below (w.alloc o).heap.size (w.alloc o) w1) : BBox w1 g R B F ∧ g < w1.heap.size :=
  ⟨(h.on ((Below.refl _ _).alloc (Nat.le_refl _) _) hg).on (k.mono (by simp)) hg, by have := k.size; simp at this; omega⟩
theorem BBox.lit0 {w w1 : World} {g : Nat} {R B F : Int} (h : BBox w g R B F) (hg : g < w.heap.size) (k : Below w.heap.size w w1) : BBox w1 g R B F ∧ g < w1.heap.size :=
  ⟨h.on k hg, by have := k.size; omega⟩
theorem equalB_t (A : Option Addr) (n c : Nat) (f : List Bool) (M : Option Addr) (m d : Nat) (g : List Bool) (W : World) (hs : Sl W W.heap.size A n (bools f)) (ht : Sl W W.heap.size M m (bools g)) (hn : n ≤ 9223372036854775807) (hm : m ≤ 9223372036854775807) (v : Bool) (hv : decide (f = g) = v) :
    Calls Try.prog 28 #[.slice A n c, .slice M m d] W fun e w' => e = .returned (.bool v) ∧ Below W.heap.size W w' := by
  subst hv
  exact (equalB_any A M n c m d f g W _ _ hs ht hn).mono fun e w' ⟨h1, q, h2⟩ => ⟨h1, h2 ▸ below_drewN (Below.refl _ _) q⟩
theorem rmul_bd {R t : Int} (h0 : 0 ≤ R) (h1 : R ≤ 10000) (t0 : 0 ≤ t) (t1 : t ≤ 200) : 0 ≤ R * t ∧ R * t ≤ 2000000 := by
  have a := Int.mul_nonneg h0 t0
  have b := Int.mul_le_mul h1 t1 t0 (by omega)
  omega
theorem packs_up {zs : List Int} {n : Nat} (h : Packs zs n) {i k : Nat} (hik : i ≤ k) (hk : k < n) : fd zs i 0 ≤ fd zs k 0 := by
  induction k with
  | zero => obtain rfl : i = 0 := by omega
            exact Int.le_refl _
  | succ k ih =>
    rcases Nat.lt_or_ge k i with h' | h'
    · obtain rfl : i = k + 1 := by omega
      exact Int.le_refl _
    · exact Int.le_trans (ih h' (by omega)) (h.up k hk)
set_option maxRecDepth 100000 in
set_option maxHeartbeats 3200000 in
theorem bucketFits_walk (R B F : Int) (A : Option Addr) (n c : Nat) (zs : List Int) (W : World) (w0 : In3 W A n c zs) :
    Calls Try.prog 12 #[.agg #[.int .i64 R, .int .i64 B, .int .i64 F], .slice A n c] W fun e w' => e = .returned (.bool true) ∧ Below W.heap.size W w' := by
  obtain ⟨s0, l0, r0, _⟩ := w0
  go_enter Try.func12, Try.ntmps12
  go_wp2_with fail
  refine (brun_ok 1 2 2 _ 3 _ [0, 2, 0, 0, 1, 0, 1, 1, 0] _ (Sl.built_ _ (ints [0, 2, 0, 0, 1, 0, 1, 1, 0]) 40 _ (by simp) rfl) (by omega) ⟨by omega, by omega, by omega, by omega, by omega, by omega⟩ (by decide +kernel)).mono ?_
  rintro e w1 ⟨A1, c1, rfl, s1, l1, bb1⟩
  rw [show btab 3 (bpass 1 2 2 [0, 2, 0, 0, 1, 0, 1, 1, 0]) = [true, false, true] by decide +kernel] at s1
  have b1 := belLit2 (Below.refl W.heap.size W) bb1
  replace s0 := slLit2 s0 bb1
  obtain ⟨x1, g1⟩ := BBox.lit1 (g := W.heap.size) (R := R) (B := B) (F := F) ⟨World.cell?_alloc_at _ _ _ _ rfl, World.cell?_alloc_at _ _ _ _ rfl, World.cell?_alloc_at _ _ _ _ rfl, fun q => by simp [go_sem]⟩ (by simp) bb1
  clear bb1
  go_wp2_with fail
  refine (equalB_t A1 3 c1 [true, false, true] _ 3 _ [true, false, true] _ (slMore s1 _) (Sl.built_ _ (bools [true, false, true]) 4 _ rfl rfl) (by omega) (by omega) true (by decide)).mono ?_
  rintro e w2 ⟨rfl, bb2⟩
  have b2 := belLit1 b1 bb2
  replace s0 := slLit1 s0 bb2
  obtain ⟨x2, g2⟩ := x1.lit1 g1 bb2
  clear b1 s1 bb2 x1 g1
  have X2 := Lib.hid x2
  obtain ⟨d0, d1, d2, df⟩ := x2
  by_cases hb : bktOk R B F
  case neg =>
    have HB := Lib.hid hb
    clear hb
    go_wp2_with fail
    refine (brun_arg R B F A n c zs _ HB.out).mono ?_
    rintro e w3 ⟨A3, c3, rfl, s3, l3, bb3⟩
    have b3 := belLit0 b2 bb3
    clear b2 s0 s3 bb3 d0 d1 d2 df
    go_wp2_with fail
    go_ret
    exact ⟨rfl, b3⟩
  by_cases h0 : packErr zs n = 0
  case neg =>
    have hne : (packErr zs n != 0) = true := by simpa using h0
    have H0 := Lib.hid h0
    have HB := Lib.hid hb
    clear h0 hb
    go_wp2_with fail
    refine (brun_bad R B F A n c zs _ s0 (by omega) HB.out H0.out).mono ?_
    rintro e w3 ⟨A3, c3, rfl, s3, l3, bb3⟩
    have b3 := belLit0 b2 bb3
    clear b2 s0 s3 bb3 d0 d1 d2 df
    go_wp2_with fail
    go_ret
    exact ⟨rfl, b3⟩
  have P := Lib.hid (packs_of h0)
  have H0 := Lib.hid h0
  have HB := Lib.hid hb
  have n60 := P.out.top
  obtain ⟨k1, k2, k3, k4, k5, k6⟩ := hb
  clear h0
  go_wp2_with fail
  refine (brun_ok R B F A n c zs _ s0 (by omega) HB.out H0.out).mono ?_
  rintro e w3 ⟨A3, c3, rfl, s3, l3, bb3⟩
  have b3 := belLit0 b2 bb3
  replace s0 := slLit0 s0 bb3
  obtain ⟨x3, g3⟩ := X2.out.lit0 g2 bb3
  have S3 := Lib.hid s3
  have S0 := Lib.hid s0
  have B3 := Lib.hid b3
  have X3 := Lib.hid x3
  have hnn : ((n : Int) != n) = false := by simp
  clear b2 s0 s3 bb3 b3 x3 d0 d1 d2 df
  go_wp2_with fail
  go_loopw [47, 9, 10, 11] (fun i _ _ _ wr => ∃ k : Nat, k ≤ n ∧ i = .int .i64 k ∧ Below w3.heap.size w3 wr) (fun i _ _ _ _ => n - (intOf i).toNat)
  case atStart => exact ⟨0, Nat.zero_le _, rfl, Below.refl _ _⟩
  case round =>
    obtain ⟨i, hi, rfl, hb⟩ := hrel
    have HBo := Lib.hid hb
    have hi0 : (0 : Int) ≤ i := by omega
    by_cases hlt : i < n
    · have hn1 : (i : Int) < n := by omega
      clear hb
      go_wp2_with fail
      go_loopw [11, 10] (fun k s wr' => ∃ d : Nat, ∃ j : Nat, i + d = j ∧ j ≤ n ∧ k = .int .i64 j ∧ s = .int .i64 (pSent R B F zs i d) ∧ Below w3.heap.size w3 wr') (fun k _ _ => n - (intOf k).toNat)
      case atStart => exact ⟨0, i, rfl, hi, rfl, rfl, HBo.out⟩
      case round =>
        obtain ⟨d, j, hj, hjn, rfl, rfl, hb⟩ := hrel
        have HBI := Lib.hid hb
        have hj0 : (0 : Int) ≤ j := by omega
        by_cases hlt2 : j < n
        · obtain ⟨b, off, hA, hbl, -⟩ := S0.out.int_at (k := j * 3) (by omega)
          subst hA
          obtain ⟨bx, ox, hA3, hbl3, hx⟩ := S3.out.bool_at hlt2
          subst hA3
          rw [btab_get _ hlt2] at hx
          have hx := (hb.cell (p := ⟨bx, ox + j, none⟩) hbl3).trans hx
          obtain ⟨c0, c1, c2⟩ := (S0.out.below hb).three hlt2
          obtain ⟨e0, e1, e2⟩ := (S0.out.below hb).three (k := i) (by omega)
          obtain ⟨y0, y1, y2, yf⟩ := X3.out.on hb g3
          have ps := pSent_bd P.out (R := R) (B := B) (F := F) i d (by omega)
          have PF := Lib.hid (pass_fits P.out HB.out i d (by omega))
          have SU := Lib.hid (pSent_succ R B F zs i d)
          rw [hj] at PF SU
          have q0 := P.out.at0 j hlt2
          have q1 := P.out.sz j hlt2
          have qi := P.out.at0 i hlt
          have qu := packs_up P.out (show i ≤ j by omega) hlt2
          have mb := rmul_bd k1 k2 (show 0 ≤ fd zs j 0 - fd zs i 0 by omega) (by omega)
          have hm1 : (j : Int) < n := by omega
          have f1 : wrap64 (fd zs j 0 - fd zs i 0) = fd zs j 0 - fd zs i 0 := IntWalk.wrap64_in _ ⟨by omega, by omega⟩
          have f2 : wrap64 (R * (fd zs j 0 - fd zs i 0)) = R * (fd zs j 0 - fd zs i 0) := IntWalk.wrap64_in _ ⟨by omega, by omega⟩
          have f3 : wrap64 (B + R * (fd zs j 0 - fd zs i 0)) = B + R * (fd zs j 0 - fd zs i 0) := IntWalk.wrap64_in _ ⟨by omega, by omega⟩
          obtain ⟨q, hq⟩ : ∃ q, pSent R B F zs i d = q := ⟨_, rfl⟩
          rw [hq] at ps ⊢
          have HQ := Lib.hid hq
          clear hb hq
          rcases hp : bpass R B F zs j with _ | _
          · rw [hp] at hx
            have N1 : Hid (pSent R B F zs i (d + 1) = q) := by show _ = _; rw [SU.out, hp, HQ.out]; rfl
            have r1 : decide (B + R * (fd zs j 0 - fd zs i 0) < q) = false := decide_eq_false (by have := PF.out; rw [N1.out] at this; omega)
            clear hp
            go_wp2_with fail
            go_quiet (fail)
            go_wp2_with fail
            go_roundw
            case rel => exact ⟨d + 1, j + 1, by omega, by omega, by go_num, by rw [N1.out], bel_drewN HBI.out _⟩
            case measure => simp [intOf]; omega
          · rw [hp] at hx
            have N1 : Hid (pSent R B F zs i (d + 1) = q + fd zs j 1) := by show _ = _; rw [SU.out, hp, HQ.out]; rfl
            have r1 : decide (B + R * (fd zs j 0 - fd zs i 0) < q + fd zs j 1) = false := decide_eq_false (by have := PF.out; rw [N1.out] at this; omega)
            clear hp
            go_wp2_with fail
            go_quiet (fail)
            go_wp2_with fail
            go_roundw
            case rel => exact ⟨d + 1, j + 1, by omega, by omega, by go_num, by rw [N1.out], bel_drewN HBI.out _⟩
            case measure => simp [intOf]; omega
        · have hm1 : ¬ (j : Int) < n := by omega
          clear hb
          go_wp2_with fail
          go_roundw
          case rel => exact ⟨i + 1, by omega, by go_num, HBI.out⟩
          case measure => simp [intOf]; omega
    · have hn1 : ¬ (i : Int) < n := by omega
      clear hb
      go_wp2_with fail
      go_ret
      exact ⟨rfl, B3.out.trans (HBo.out.mono B3.out.size)⟩
end Go.Proofs.Ytihhldphpoddhaa
