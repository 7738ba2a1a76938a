/- RanksMeet (Liu, Layland): if all tasks fit, no job responds later than the first one of its task. -/
import Derived.Test.YtigekbidbeilnaaFinA
import Derived.Test.YtigekbidbeilnaaRanksF
import Derived.Test.YtigekbidbeilnaaKit0
set_option linter.unusedVariables false
namespace Go.Proofs.Ytigekbidbeilnaa
open Go.RowKit
theorem meet_ok {zs : List Int} {n k : Nat} {R N : Int} (h : ranksOk zs n) (hk : k < n) (hR : respIs zs k R) (hd : R ≤ fd zs k 2) (j : Nat) (hj : ((j : Int) + 1) * fd zs k 0 ≤ 200) (hN : ((j : Int) + 1) * fd zs k 1 = N) : finD (rwho zs n) k N 200 ≠ 0 ∧ finD (rwho zs n) k N 200 ≤ (j : Int) * fd zs k 0 + R := by
  obtain ⟨t0, t1, t2, t3, t4⟩ := h.2 k hk
  obtain ⟨r1, r2, r3, r4⟩ := hR
  obtain ⟨r, rfl⟩ := Int.eq_ofNat_of_zero_le (show 0 ≤ R by omega)
  obtain ⟨P, hP⟩ := Int.eq_ofNat_of_zero_le (show 0 ≤ fd zs k 0 by omega)
  have jd := jobs_done h hk r P hP (by rw [r3 hd]; exact Int.le_refl _) (by omega) j
  rw [← fcnt_rcn] at jd
  push_cast at jd
  rw [hN] at jd
  have N1 : 1 ≤ N := by
    rw [← hN]
    have := Int.mul_le_mul (show (1 : Int) ≤ (j : Int) + 1 by omega) t2 (by omega) (by omega)
    omega
  rw [hP] at hj ⊢
  have e : ((j : Int) + 1) * (P : Int) = (j : Int) * P + P := by rw [Int.add_mul, Int.one_mul]
  have e2 : ((j * P : Nat) : Int) = (j : Int) * P := by push_cast; rfl
  rcases finD_cases (u := rwho zs n) (i := k) N1 200 with ⟨_, hf⟩ | ⟨t, ht, e3, f1, f2⟩
  · have := fcnt_mono (u := rwho zs n) (i := k) (show j * P + r ≤ 200 by omega); omega
  · have a : t + 1 ≤ j * P + r := by
      rcases Nat.lt_or_ge t (j * P + r) with h' | h'
      · omega
      · have := fcnt_mono (u := rwho zs n) (i := k) h'; omega
    rw [e3]
    omega
theorem meet_resp {zs : List Int} {n k : Nat} {v er : Int} (h : ranksOk zs n) (hf : fitsR zs n) (hk : k < n) (hr : RespX zs n k v er) : er = 0 ∧ respIs zs k v ∧ v ≤ fd zs k 2 := by
  cases hr with
  | bad h' => exact absurd h h'
  | out h' hi => omega
  | late h' q hq hi R hR hd =>
    obtain rfl : q = k := by omega
    have := (resp_okT h hk hR).2 (hf q hk)
    omega
  | fits h' q hq hi R hR hd =>
    obtain rfl : q = k := by omega
    exact ⟨rfl, hR, hd⟩
theorem lit_okM : ranksOk [4, 1, 4, 6, 3, 6] 2 := ⟨by omega, fun i hi => by
  match i, hi with
  | 0, _ => decide
  | 1, _ => decide⟩
theorem lit_fits : fitsR [4, 1, 4, 6, 3, 6] 2 := fun i hi => by
  match i, hi with
  | 0, _ => exact ⟨1, by decide, by decide, by decide⟩
  | 1, _ => exact ⟨4, by decide, by decide, by decide⟩
set_option maxRecDepth 100000 in
set_option maxHeartbeats 3200000 in
theorem ranksMeet_walk (A : Option Addr) (n c : Nat) (zs : List Int) (W : World) (w0 : In3 W A n c zs) :
    Calls Try.prog 11 #[.slice A n c] W fun e w' => e = .returned (.bool true) ∧ Below W.heap.size W w' := by
  obtain ⟨s0, l0, r0, _⟩ := w0
  go_enter Try.func11, Try.ntmps11
  go_wp2_with fail
  refine (rank_any W).mono ?_
  rintro e w1 ⟨rfl, s1, b1⟩
  have s01 := s0.on b1
  go_wp2_with fail
  refine (fits_ok _ 2 2 [4, 1, 4, 6, 3, 6] _ lit_okM (by omega) s1 true ⟨fun _ => lit_fits, fun _ => rfl⟩).mono ?_
  rintro e w2 ⟨rfl, b2⟩
  have S2 := Lib.hid (slLit0 s01 b2)
  have B2 := Lib.hid (belLit0 b1 b2)
  clear s0 s1 s01 b1 b2
  go_wp2_with fail
  by_cases h : ranksOk zs n
  case neg =>
    have NO := Lib.hid h
    have hne := ranksErr_ne n
    clear h
    refine (fits_bad A n c zs _ NO.out S2.out (by omega)).mono ?_
    rintro e w3 ⟨rfl, b3⟩
    have S3 := Lib.hid (slLit0 S2.out b3)
    have B3 := Lib.hid (belLit0 B2.out b3)
    clear b3
    go_wp2_with fail
    refine (rrun_bad A n c zs _ NO.out S3.out (by omega)).mono ?_
    rintro e w4 ⟨rfl, b4⟩
    have B4 := Lib.hid (belLit0 B3.out b4)
    clear b4
    go_wp2_with fail
    go_ret
    exact ⟨rfl, B4.out⟩
  have OK := Lib.hid h
  have n5 := h.1
  obtain ⟨v, hv⟩ : ∃ v, v = true ↔ fitsR zs n := ⟨@decide (fitsR zs n) (Classical.propDecidable _), by simp⟩
  have HV := Lib.hid hv
  clear h hv
  refine (fits_ok A n c zs _ OK.out l0 S2.out v HV.out).mono ?_
  rintro e w3 ⟨rfl, b3⟩
  have S3 := Lib.hid (slLit0 S2.out b3)
  have B3 := Lib.hid (belLit0 B2.out b3)
  clear b3
  go_wp2_with fail
  refine (rrun_ok A n c zs _ S3.out OK.out).mono ?_
  rintro e w4 ⟨A4, c4, rfl, s4, b4⟩
  have S4 := Lib.hid (slLit0 S3.out b4)
  have B4 := Lib.hid (belLit0 B3.out b4)
  have SX := Lib.hid s4
  clear b4 s4
  cases v
  · go_wp2_with fail
    go_ret
    exact ⟨rfl, B4.out⟩
  have FIT := Lib.hid (HV.out.1 rfl)
  go_wp2_with fail
  go_loopw [51] (fun vi wr => ∃ i : Nat, i ≤ n ∧ vi = .int .i64 i ∧ Below w4.heap.size w4 wr) (fun vi _ => n - (intOf vi).toNat)
  case atStart => exact ⟨0, Nat.zero_le _, rfl, Below.refl _ _⟩
  case round =>
    obtain ⟨i, hi, rfl, hb⟩ := hrel
    have HB := Lib.hid hb
    have hi0 : (0 : Int) ≤ i := by omega
    by_cases hlt : i < n
    · have hn1 : (i : Int) < n := by omega
      obtain ⟨ba, oa, rfl, qa, -⟩ := S4.out.int_at (k := i * 3) (by omega)
      obtain ⟨a0, a1, a2⟩ := (S4.out.below hb).three hlt
      obtain ⟨p0, p1, p2, p3, p4⟩ := OK.out.2 i hlt
      have SA : Hid (Sl (wr.alloc (.cells #[.int .i64 (fd zs i 0), .int .i64 (fd zs i 1), .int .i64 (fd zs i 2)] 48)) (wr.alloc (.cells #[.int .i64 (fd zs i 0), .int .i64 (fd zs i 1), .int .i64 (fd zs i 2)] 48)).heap.size (some ⟨ba, oa, none⟩) (n * 3) (ints zs)) := Lib.hid (slMore (S4.out.on hb) _)
      clear hb
      go_wp2_with fail
      refine (response_x _ n c zs i _ l0 (by omega) SA.out).mono ?_
      rintro e w5 ⟨⟨R, er, rfl, hR⟩, b5⟩
      obtain ⟨rfl, hR1, hR2⟩ := meet_resp OK.out FIT.out hlt hR
      have k0 : w5.cell? ⟨wr.heap.size, 0, none⟩ = some (.int .i64 (fd zs i 0)) := (b5.cell (p := ⟨wr.heap.size, 0, none⟩) (by simp)).trans (World.cell?_alloc_at _ _ _ _ rfl)
      have k1 : w5.cell? ⟨wr.heap.size, 1, none⟩ = some (.int .i64 (fd zs i 1)) := (b5.cell (p := ⟨wr.heap.size, 1, none⟩) (by simp)).trans (World.cell?_alloc_at _ _ _ _ rfl)
      have B5 := Lib.hid (HB.out.trans ((((Below.refl wr.heap.size wr).alloc (Nat.le_refl _) _).trans (b5.mono (by simp))).mono HB.out.size))
      have R0 : 1 ≤ R := by have := hR1.1; omega
      have HR1 := Lib.hid hR1
      have HR2 := Lib.hid hR2
      have SX5 := Lib.hid (SX.out.below (B5.out))
      clear hR hR1 a0 a1 a2 b5
      go_wp2_with fail
      go_loopw [13] (fun vj w' => ∃ j : Nat, j ≤ 200 ∧ vj = .int .i64 j ∧ w' = w5) (fun vj _ => 201 - (intOf vj).toNat)
      case atStart => exact ⟨0, Nat.zero_le _, rfl, rfl⟩
      case round =>
        obtain ⟨j, hj, rfl, rfl⟩ := hrel
        have hj0 : (0 : Int) ≤ j := by omega
        obtain ⟨y, hy⟩ : ∃ y, ((j : Int) + 1) * fd zs i 0 = y := ⟨_, rfl⟩
        obtain ⟨z, hz⟩ : ∃ z, (j : Int) * fd zs i 0 = z := ⟨_, rfl⟩
        have yz : y = z + fd zs i 0 := by rw [← hy, ← hz, Int.add_mul, Int.one_mul]
        have z0 : 0 ≤ z := by rw [← hz]; exact Int.mul_nonneg hj0 (by omega)
        have z1 : z ≤ 200 * 60 := by rw [← hz]; exact Int.mul_le_mul (by omega) p1 (by omega) (by omega)
        have zj : (j : Int) ≤ z := by rw [← hz]; have := Int.mul_le_mul_of_nonneg_left p0 hj0; omega
        have f1 : IntKind.i64.wrap ((j : Int) + 1) = (j : Int) + 1 := IntWalk.i64_in _ ⟨by omega, by omega⟩
        have f2 : IntKind.i64.wrap (((j : Int) + 1) * fd zs i 0) = y := by rw [hy]; exact IntWalk.i64_in _ ⟨by omega, by omega⟩
        have f3 : IntKind.i64.wrap ((j : Int) * fd zs i 0) = z := by rw [hz]; exact IntWalk.i64_in _ ⟨by omega, by omega⟩
        have f4 : IntKind.i64.wrap (z + R) = z + R := IntWalk.i64_in _ ⟨by omega, by omega⟩
        have HY := Lib.hid hy
        have HZ := Lib.hid hz
        clear hy hz
        by_cases hle : y ≤ 200
        · obtain ⟨N, hN⟩ : ∃ N, ((j : Int) + 1) * fd zs i 1 = N := ⟨_, rfl⟩
          obtain ⟨g1, g2⟩ := meet_ok OK.out hlt HR1.out HR2.out j (by rw [HY.out]; exact hle) hN
          rw [HZ.out] at g2
          have HN := Lib.hid hN
          obtain ⟨F, hF⟩ : ∃ F, finD (rwho zs n) i N 200 = F := ⟨_, rfl⟩
          rw [hF] at g1 g2
          have HF := Lib.hid hF
          have e1 : (F == 0) = false := by simpa using g1
          have e2 : decide (z + R < F) = false := decide_eq_false (by omega)
          clear hN hF g1 g2
          go_wp2_with fail
          refine (fin_ok A4 200 c4 _ (rwho zs n) i (fd zs i 1) j N _ ⟨by omega, by omega⟩ ⟨p2, by omega⟩ (by rw [Int.mul_comm]; exact HN.out) (by omega) SX5.out).mono ?_
          rintro e w6 ⟨rfl, rfl⟩
          rw [HF.out]
          go_wp2_with fail
          go_roundw
          case rel => exact ⟨j + 1, by omega, by go_num, by first | trivial | rfl⟩
          case measure => simp [intOf]; omega
        · go_wp2_with fail
          go_roundw
          case rel => exact ⟨i + 1, by omega, by go_num, B5.out⟩
          case measure => simp [intOf]; omega
    · have hin : i = n := by omega
      subst hin
      have hn1 : ¬ (i : Int) < i := by omega
      clear hb
      go_wp2_with fail
      go_ret
      exact ⟨rfl, B4.out.trans (HB.out.mono B4.out.size)⟩
end Go.Proofs.Ytigekbidbeilnaa
