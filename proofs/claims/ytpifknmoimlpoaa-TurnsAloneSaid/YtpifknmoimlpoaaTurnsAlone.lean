/- TurnsAlone: what a flow has sent after some rounds hangs on no other flow; a flow alone is sent in order. -/
import Derived.Test.YtpifknmoimlpoaaTurnF
import Derived.Test.YtpifknmoimlpoaaTurnL1
import Derived.Test.YtpifknmoimlpoaaMaxMin
import Derived.Test.YtpifknmoimlpoaaIdx2
import Derived.Deep.RegionWith
set_option linter.unusedVariables false
namespace Go.Proofs.Ytpifknmoimlpoaa
open Go.RowKit
set_option maxRecDepth 100000 in
set_option maxHeartbeats 6400000 in
theorem turnsAlone_walk (A : Option Addr) (n c : Nat) (q : Nat → Int) (hd : Nat → Option Addr × Nat × Nat) (ls : Nat → List Int) (a i : Int) (W : World) (w0 : InFl W A n c q hd ls) (w1 : -9223372036854775808 ≤ a ∧ a ≤ 9223372036854775807) (w2 : -9223372036854775808 ≤ i ∧ i ≤ 9223372036854775807) :
    Calls Try.prog 7 #[.slice A n c, .int .i64 a, .int .i64 i] W fun e w' => e = .returned (.bool true) ∧ Below W.heap.size W w' := by
  obtain ⟨sl, lc, rc, nums, inn⟩ := w0
  have FS := Lib.hid (FlS.mk sl fun i hi => (inn i hi).1)
  have hdb : ∀ i, i < n → (hd i).2.1 ≤ 9223372036854775807 := fun i hi => Nat.le_trans (inn i hi).2.1 (inn i hi).2.2.1
  have DB := Lib.hid hdb
  have hnn : n ≤ 9223372036854775807 := by omega
  have hcc : c ≤ 4611686018427387904 := by omega
  have hnc : n ≤ c := lc
  clear sl lc rc nums inn hdb
  clear w1 w2
  go_enter Try.func7, Try.ntmps7
  go_wp2_with fail
  refine (flow_any 9 _ 1 1 _).mono ?_
  rintro e wa0 ⟨rfl, rfl⟩
  go_wp2_with fail
  refine (flow_any 2 _ 2 2 _).mono ?_
  rintro e wb0 ⟨rfl, rfl⟩
  go_wp2_with fail
  refine (after_i _ 2 _ (fun i => if i = 0 then 9 else 2) (fun i => if i = 0 then (some ⟨_, 0, none⟩, 1, 1) else (some ⟨_, 0, none⟩, 2, 2)) (fun i => if i = 0 then [1] else [3, 1]) 2 _ (FlS.two 9 2 [1] [3, 1] _ _ _ (slMore (slMore (slMore (Sl.built_ W (ints [1]) 3 _ rfl rfl) _) _) _) (slMore (Sl.built_ _ (ints [3, 1]) 3 _ (by simp) rfl) _) 1 2 _ (by simp)) (by decide) (by omega) 2 rfl).mono ?_
  rintro e u0 ⟨D0, d0, rfl, s0, bb0, l0⟩
  rw [show (tab 2 fun i => tpre ((fun i => if i = 0 then [1] else [3, 1]) i) (tst ((fun i => if i = 0 then 9 else 2) i) ((fun i => if i = 0 then [1] else [3, 1]) i) 2).1) = [1, 4] from (by decide +kernel)] at s0
  have U0 := Lib.hid (belLit2 (below_alloc (below_alloc (below_alloc (Below.refl W.heap.size W) _) _) _) bb0)
  have S0 := Lib.hid s0
  clear bb0 s0
  go_wp2_with fail
  refine (equal_t D0 2 d0 [1, 4] _ 2 _ [1, 4] _ (slMore S0.out _) (Sl.built_ _ (ints [1, 4]) 3 _ rfl rfl) (by omega) (by omega) true (by decide)).mono ?_
  rintro e v0 ⟨rfl, bb0⟩
  have V0 := Lib.hid (belLit1 U0.out bb0)
  clear bb0 S0 U0
  go_wp2_with fail
  have p0 := within_lo a 61 (by omega)
  have p1 := within_hi a 61 (by omega)
  obtain ⟨a1, ha'⟩ : ∃ x, within a 61 = x := ⟨_, rfl⟩
  rw [ha'] at p0 p1
  have HA := Lib.hid ha'
  clear ha'
  refine (within_t a 61 _ (by omega) (by omega) a1 HA.out).mono ?_
  rintro e _ ⟨rfl, rfl⟩
  obtain ⟨r, hr⟩ := Int.eq_ofNat_of_zero_le p0
  have HR := Lib.hid hr
  have r60 : r ≤ 60 := by omega
  clear hr p0 p1
  have FS2 := Lib.hid ((FS.out.below V0.out).more V0.out.size)
  obtain ⟨ck, hck⟩ : ∃ ck, tchk n q ls = ck := ⟨_, rfl⟩
  have HCK := Lib.hid hck
  clear hck
  go_wp2_with fail
  by_cases h0 : ck = 0
  case neg =>
    have hne : (ck != 0) = true := by simpa using h0
    have H0 := Lib.hid h0
    clear h0
    refine (turns_bad A n c q hd ls a1 _ FS2.out hnn DB.out ck HCK.out H0.out).mono ?_
    rintro e w5 ⟨rfl, bb5⟩
    have B5 := Lib.hid (V0.out.trans (bb5.mono V0.out.size))
    clear bb5
    go_wp2_with fail
    go_ret
    exact ⟨rfl, B5.out⟩
  subst h0
  obtain ⟨n8, qok⟩ := tchk_ok HCK.out
  have QO := Lib.hid qok
  clear qok
  refine (after_i A n c q hd ls r _ FS2.out HCK.out (by omega) a1 HR.out).mono ?_
  rintro e w5 ⟨X, cx, rfl, sx, bb5, lx⟩
  have B5 := Lib.hid (V0.out.trans (bb5.mono V0.out.size))
  have FS5 := Lib.hid (FS2.out.on bb5)
  have SX := Lib.hid sx
  clear bb5 sx
  rcases Nat.eq_zero_or_pos n with hn0 | hn0
  · subst hn0
    go_wp2_with fail
    go_ret
    exact ⟨rfl, B5.out⟩
  have hnz : ((n : Int) == 0) = false := by simp; omega
  go_wp2_with fail
  have p0 := within_lo i n (by omega)
  have p1 := within_hi i n (by omega)
  obtain ⟨k, hk'⟩ := Int.eq_ofNat_of_zero_le p0
  have klt : k < n := by omega
  have HK := Lib.hid hk'
  clear p0 p1 hk'
  refine (within_t i n _ (by omega) (by omega) k HK.out).mono ?_
  rintro e _ ⟨rfl, rfl⟩
  obtain ⟨b, off, hAe, hbl, -⟩ := FS5.out.at_ hn0
  subst hAe
  have F1 := Lib.hid (FS5.out.sub klt)
  have OK := Lib.hid (QO.out k klt)
  have T1 := Lib.hid (tchk_one OK.out)
  have e1 : ((k : Int) + 1).toNat = k + 1 := by omega
  have e2 : (0 : Int) ≤ (k : Int) + 1 := by omega
  have e3 : (k : Int) + 1 ≤ c := by omega
  have e4 : (k : Int) ≤ (k : Int) + 1 := by omega
  have e5 : (0 : Int) ≤ k := by omega
  have e6 : ¬ c = k := by omega
  have e7 : k + 1 - k = 1 := by omega
  have e8 : IntKind.i64.wrap ((k : Int) + 1) = (k : Int) + 1 := IntWalk.i64_in _ ⟨by omega, by omega⟩
  go_wp2_with fail
  refine (after_i _ 1 _ (fun _ => q k) (fun _ => hd k) (fun _ => ls k) r _ F1.out T1.out (by omega) a1 HR.out).mono ?_
  rintro e w6 ⟨Y, cy, rfl, sy, bb6, ly⟩
  have B6 := Lib.hid (B5.out.trans (bb6.mono B5.out.size))
  have FS6 := Lib.hid (FS5.out.on bb6)
  have F6 := Lib.hid (F1.out.on bb6)
  have SX6 := Lib.hid (SX.out.on bb6)
  have SY := Lib.hid sy
  clear bb6 sy SX
  go_wp2_with fail
  refine (run_ok _ 1 _ (fun _ => q k) (fun _ => hd k) (fun _ => ls k) _ F6.out T1.out).mono ?_
  rintro e w7 ⟨Z, cz, os, rfl, oo, rr, bb7⟩
  have B7 := Lib.hid (B6.out.trans (bb7.mono B6.out.size))
  have FS7 := Lib.hid (FS6.out.on bb7)
  have SX7 := Lib.hid (SX6.out.on bb7)
  have SY7 := Lib.hid (SY.out.on bb7)
  have SZ := Lib.hid (Sl.of_own2 rr)
  obtain ⟨ol, oa⟩ := oo.one
  have OA := Lib.hid oa
  have lk := FS7.out.len klt
  rw [lk] at ol
  have l60 : os.length ≤ 60 := by have := OK.out.len; omega
  obtain ⟨bx, ox, rfl, hbx, cx1⟩ := SX7.out.int_at klt
  obtain ⟨by_, oy, rfl, hby, cy1⟩ := SY7.out.int_at (show 0 < 1 by omega)
  rw [tab_get _ klt] at cx1
  rw [tab_get _ (by omega), Nat.add_zero] at cy1
  obtain ⟨c0, c1⟩ := FS7.out.cells klt rfl
  obtain ⟨x, hx⟩ : ∃ x, tpre (ls k) (tst (q k) (ls k) r).1 = x := ⟨_, rfl⟩
  obtain ⟨sa, hsa⟩ : ∃ x, (hd k).1 = x := ⟨_, rfl⟩
  obtain ⟨sn, hsn⟩ : ∃ x, (hd k).2.1 = x := ⟨_, rfl⟩
  obtain ⟨sc, hsc⟩ : ∃ x, (hd k).2.2 = x := ⟨_, rfl⟩
  rw [hx] at cx1
  have cy2 : w7.cell? ⟨by_, oy, none⟩ = some (.int .i64 x) := by rw [← hx]; exact cy1
  rw [hsa, hsn, hsc] at c1
  rw [hsn] at ol
  have HOL := Lib.hid ol
  rw [ol] at SZ l60
  rw [ol]
  have nx : (x != x) = false := by simp
  have ns : ((sn : Int) != (sn : Int)) = false := by simp
  have k0 : (k : Int) < n := by omega
  clear bb7 rr oo oa ol hx hsa hsn hsc lk cy1 c0 e1 e2 e3 e4 e6 e7 e8
  go_wp2_with fail
  go_quiet (fail)
  have BQ := Lib.hid (bel_drewN B7.out nq)
  have SZQ := Lib.hid (SZ.out.drewN nq)
  have ZQ : Hid (w7.heap.size ≤ (w7.drewN nq).heap.size) := Lib.hid (Nat.le_refl _)
  generalize w7.drewN nq = w8 at BQ SZQ ZQ ⊢
  clear cx1 cy2 c1 nx ns
  go_wp2_with fail
  go_loopw [125] (fun vi wr => ∃ j : Nat, j ≤ sn ∧ vi = .int .i64 (j : Int) ∧ Hid (Below w8.heap.size w8 wr)) (fun vi _ => sn - (intOf vi).toNat)
  case atStart => exact ⟨0, Nat.zero_le _, rfl, Lib.hid (Below.refl _ _)⟩
  case round =>
    obtain ⟨j, hj, rfl, hB⟩ := hrel
    have hz := hB.out.size
    have hj0 : (0 : Int) ≤ j := by omega
    by_cases hlt : j < sn
    · have hn1 : (j : Int) < sn := by omega
      have sg := sents_get (os := os) (j := j) (by rw [HOL.out]; exact hlt)
      rw [OA.out j (by rw [HOL.out]; exact hlt)] at sg
      have SZj := Lib.hid ((SZQ.out.more ZQ.out).below hB.out)
      obtain ⟨bz, oz, rfl, hbz, cz0⟩ := SZj.out.at_ (k := j * 2) (by omega) sg.1
      have cz1 := SZj.out.cell_ sg.2
      rw [← Nat.add_assoc] at cz1
      have BA := Lib.hid (hB.out.alloc hz (.cells #[.int .i64 ((0 : Nat) : Int), .int .i64 (j : Int)] 33))
      have BA' : Hid (Below w8.heap.size w8 (wr.alloc (.cells #[.int .i64 0, .int .i64 (j : Int)] 33))) := BA
      have cz0' : wr.cell? ⟨bz, oz + j * 2, none⟩ = some (.int .i64 0) := cz0
      clear sg cz0 BA
      go_wp2_with fail
      go_roundw
      case rel => exact ⟨j + 1, by omega, by go_num, BA'⟩
      case measure => simp [intOf]; omega
    · have hjn : j = sn := by omega
      subst hjn
      have hn1 : ¬ (j : Int) < j := by omega
      go_wp2_with fail
      go_ret
      exact ⟨rfl, BQ.out.trans (hB.out.mono BQ.out.size)⟩
end Go.Proofs.Ytpifknmoimlpoaa
