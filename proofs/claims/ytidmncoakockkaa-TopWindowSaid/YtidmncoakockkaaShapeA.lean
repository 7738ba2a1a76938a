/- shape.look, shape.made under each closure, Bucket, Line, Stair. -/
import Derived.Test.YtidmncoakockkaaCurveD
set_option linter.unusedVariables false
namespace Go.Proofs.Ytidmncoakockkaa
open Go.RowKit
theorem slook_ok (h r : Int) (W : World) (h0 : 0 ≤ h) (h1 : h ≤ 60) (r0 : 0 ≤ r) (r1 : r ≤ 10000) :
    Calls Try.prog 39 #[.int .i64 h, .int .i64 r] W fun e w' => e = .returned (.int .i64 0) ∧ W = w' := by
  go_enter Try.func39, Try.ntmps39
  go_wp2_with fail
  go_ret
  exact ⟨rfl, rfl⟩
theorem mul_bd {r t : Int} (r0 : 0 ≤ r) (r1 : r ≤ 10000) (t0 : 0 ≤ t) (t1 : t ≤ 120) : 0 ≤ r * t ∧ r * t ≤ 1200000 := by
  have a := Int.mul_nonneg r0 t0
  have b : r * t ≤ 10000 * t := Int.mul_le_mul_of_nonneg_right r1 t0
  omega
def bktU (r b : Int) (t : Nat) : Int := if t = 0 then 0 else b + r * t
def linU (r l : Int) (t : Nat) : Int := r * mx 0 (t - l)
def staU (s p : Int) (t : Nat) : Int := s * ((t + p - 1) / p)
theorem sbucket1 (g : Nat) (r b : Int) (t : Nat) (W : World) (ht : t ≤ 60) (r0 : 0 ≤ r) (r1 : r ≤ 10000) (b0 : 0 ≤ b) (b1 : b ≤ 1000000) (hr : W.cell? ⟨g, 0, none⟩ = some (.int .i64 r)) (hb : W.cell? ⟨g + 1, 0, none⟩ = some (.int .i64 b)) :
    Calls Try.prog 50 #[.int .i64 t, .pointer (some ⟨g + 1, 0, none⟩), .pointer (some ⟨g, 0, none⟩)] W fun e w' => e = .returned (.int .i64 (bktU r b t)) ∧ ∃ q, w' = W.drewN q := by
  by_cases h0 : t = 0
  · have e0 : Hid (bktU r b t = 0) := by show _ = _; unfold bktU; rw [if_pos h0]
    subst h0
    clear hr hb
    go_enter Try.func50, Try.ntmps50
    go_wp2_with fail
    go_ret
    exact ⟨by rw [e0.out]; rfl, 0, rfl⟩
  · have e0 : Hid (bktU r b t = b + r * t) := by show _ = _; unfold bktU; rw [if_neg h0]
    have t0 : ((t : Int) == 0) = false := by simp; omega
    have m := mul_bd r0 r1 (t := t) (by omega) (by omega)
    have f0 : wrap64 (r * t) = r * t := IntWalk.wrap64_in _ ⟨by omega, by omega⟩
    have f1 : wrap64 (b + r * t) = b + r * t := IntWalk.wrap64_in _ ⟨by omega, by omega⟩
    go_enter Try.func50, Try.ntmps50
    go_wp2_with fail
    go_ret
    exact ⟨by rw [e0.out]; rfl, 0, rfl⟩
set_option maxHeartbeats 1600000 in
theorem sbucket_made (g : Nat) (r b : Int) (hh : Nat) (W0 W : World) (ht : hh ≤ 60) (r0 : 0 ≤ r) (r1 : r ≤ 10000) (b0 : 0 ≤ b) (b1 : b ≤ 1000000) (hr : W.cell? ⟨g, 0, none⟩ = some (.int .i64 r)) (hb : W.cell? ⟨g + 1, 0, none⟩ = some (.int .i64 b)) (hg : g + 1 < W.heap.size) (hB : Below W0.heap.size W0 W)
    (zs : List Int) (er : Int) (k : Nat) (h : fit (tab (hh + 1) (bktU r b)) = (zs, er)) (hk : zs.length = k) :
    Calls Try.prog 40 #[.int .i64 hh, .func (.func 50) #[] #[.pointer (some ⟨g + 1, 0, none⟩), .pointer (some ⟨g, 0, none⟩)]] W (RetSl W0 k zs er) := by
  have HF := Lib.hid h
  have HK := Lib.hid hk
  have HR := Lib.hid hr
  have HB := Lib.hid hb
  have HBB := Lib.hid hB
  obtain ⟨n, hn⟩ : ∃ n, hh + 1 = n := ⟨_, rfl⟩
  have HN := Lib.hid hn
  have hn1 : n ≤ 61 := by omega
  have hnI : ((hh : Int) + 1) = n := by omega
  clear h hk hr hb hB hn
  go_enter Try.func40, Try.ntmps40
  go_wp2_with (at_make; refine wpList_makeInts rfl _ _ rfl (n : Int) (n : Int) n rfl rfl rfl rfl (by omega) ?_; intro w1 hown)
  clear hnI
  go_loopw [13, 7] (fun i _ wr => ∃ k : Nat, k ≤ n ∧ i = .int .i64 k ∧ Own W wr n (fun j => if j < k then bktU r b j else 0)) (fun i _ _ => n - (intOf i).toNat)
  case atStart => exact ⟨0, Nat.zero_le _, rfl, hown.congr fun i _ => by rw [if_neg (by omega)]⟩
  case round =>
    obtain ⟨k, hk, rfl, ho⟩ := hrel
    by_cases hlt : k < n
    · have hn1 : (k : Int) < n := by omega
      have hk0 : (0 : Int) ≤ k := by omega
      have hck := ho.cell hlt
      have hfr := ho.frozen k
      have c1 : Hid (wr.cell? ⟨g, 0, none⟩ = some (.int .i64 r)) := (ho.bel.cell (p := ⟨g, 0, none⟩) (by show g < W.heap.size; omega)).trans HR.out
      have c2 : Hid (wr.cell? ⟨g + 1, 0, none⟩ = some (.int .i64 b)) := (ho.bel.cell (p := ⟨g + 1, 0, none⟩) (by show g + 1 < W.heap.size; omega)).trans HB.out
      have HO := Lib.hid ho
      clear ho hown
      go_wp2_with fail
      refine (sbucket1 g r b k wr (by omega) r0 r1 b0 b1 c1.out c2.out).mono ?_
      rintro e w' ⟨rfl, q, rfl⟩
      have ST := Lib.hid ((HO.out.drewN q).store (x := bktU r b k) (v := fun j => if j < k + 1 then bktU r b j else 0) hlt fun i hi => by
        by_cases h1 : i = k
        · subst h1; rw [if_pos (by omega), if_pos rfl]
        · rw [if_neg h1]
          by_cases h2 : i < k
          · rw [if_pos h2, if_pos (by omega)]
          · rw [if_neg h2, if_neg (by omega)])
      go_wp2_with fail
      go_roundw
      case rel => exact ⟨k + 1, by omega, by go_num, ST.out⟩
      case measure => simp [intOf]; omega
    · have hkn : k = n := by omega
      subst hkn
      have O := Lib.hid (ho.congr (v := bktU r b) fun i hi => by rw [if_pos hi])
      clear ho hown
      go_wp2_with fail
      refine (fit_any (some ⟨W.heap.size, 0, none⟩) k k _ W0 wr O.out.sl (Below.to HBB.out O.out.bel) (Nat.le_refl _) (by omega) _ _ _ (by rw [← HF.out, HN.out]) HK.out).mono ?_
      rintro e w2 ⟨A2, c2, rfl, s2⟩
      have S2 := Lib.hid s2
      clear s2
      go_wp2_with fail
      go_ret2
      exact ⟨A2, c2, rfl, S2.out⟩
theorem sbucket_any (h r b : Int) (W : World) (h0 : 0 ≤ h) (h1 : h ≤ 60) (r0 : 0 ≤ r) (r1 : r ≤ 10000) (b0 : 0 ≤ b) (b1 : b ≤ 1000000) (zs : List Int) (er : Int) (k : Nat) (hz : fit (tab (h.toNat + 1) (bktU r b)) = (zs, er)) (hk : zs.length = k) :
    Calls Try.prog 25 #[.int .i64 h, .int .i64 r, .int .i64 b] W (RetSl W k zs er) := by
  obtain ⟨hh, rfl⟩ := Int.eq_ofNat_of_zero_le h0
  rw [Int.toNat_natCast] at hz
  have HZ := Lib.hid hz
  have HK := Lib.hid hk
  have BB := Lib.hid (((Below.refl W.heap.size W).alloc (Nat.le_refl _) (.cells #[.int .i64 r] 3)).alloc (by simp) (.cells #[.int .i64 b] 3))
  clear hz hk
  go_enter Try.func25, Try.ntmps25
  go_wp2_with fail
  refine (slook_ok hh r _ (by omega) h1 r0 r1).mono ?_
  rintro e w' ⟨rfl, rfl⟩
  go_wp2_with fail
  refine (sbucket_made W.heap.size r b hh W _ (by omega) r0 r1 b0 b1 (by simp) (by simp) (by simp) BB.out zs er k HZ.out HK.out).mono ?_
  rintro e w2 ⟨A2, c2, rfl, s2⟩
  have S2 := Lib.hid s2
  clear s2
  go_wp2_with fail
  go_ret2
  exact ⟨A2, c2, rfl, S2.out⟩
theorem sline1 (g : Nat) (r b : Int) (t : Nat) (W : World) (ht : t ≤ 60) (r0 : 0 ≤ r) (r1 : r ≤ 10000) (b0 : 0 ≤ b) (b1 : b ≤ 60) (hr : W.cell? ⟨g, 0, none⟩ = some (.int .i64 r)) (hb : W.cell? ⟨g + 1, 0, none⟩ = some (.int .i64 b)) :
    Calls Try.prog 41 #[.int .i64 t, .pointer (some ⟨g, 0, none⟩), .pointer (some ⟨g + 1, 0, none⟩)] W fun e w' => e = .returned (.int .i64 (linU r b t)) ∧ ∃ q, w' = W.drewN q := by
  by_cases h : b < (t : Int)
  · have e0 : Hid (linU r b t = r * ((t : Int) - b)) := by show _ = _; unfold linU mx; rw [if_pos (by omega)]
    have m := mul_bd (t := (t : Int) - b) r0 r1 (by omega) (by omega)
    have f0 : wrap64 (r * ((t : Int) - b)) = r * ((t : Int) - b) := IntWalk.wrap64_in _ ⟨by omega, by omega⟩
    go_enter Try.func41, Try.ntmps41
    go_wp2_with fail
    go_ret
    exact ⟨by rw [e0.out]; rfl, 0, rfl⟩
  · have e0 : Hid (linU r b t = 0) := by show _ = _; unfold linU mx; rw [if_neg (by omega)]; omega
    go_enter Try.func41, Try.ntmps41
    go_wp2_with fail
    go_ret
    exact ⟨by rw [e0.out]; rfl, 0, rfl⟩
set_option maxHeartbeats 1600000 in
theorem sline_made (g : Nat) (r b : Int) (hh : Nat) (W0 W : World) (ht : hh ≤ 60) (r0 : 0 ≤ r) (r1 : r ≤ 10000) (b0 : 0 ≤ b) (b1 : b ≤ 60) (hr : W.cell? ⟨g, 0, none⟩ = some (.int .i64 r)) (hb : W.cell? ⟨g + 1, 0, none⟩ = some (.int .i64 b)) (hg : g + 1 < W.heap.size) (hB : Below W0.heap.size W0 W)
    (zs : List Int) (er : Int) (k : Nat) (h : fit (tab (hh + 1) (linU r b)) = (zs, er)) (hk : zs.length = k) :
    Calls Try.prog 40 #[.int .i64 hh, .func (.func 41) #[] #[.pointer (some ⟨g, 0, none⟩), .pointer (some ⟨g + 1, 0, none⟩)]] W (RetSl W0 k zs er) := by
  have HF := Lib.hid h
  have HK := Lib.hid hk
  have HR := Lib.hid hr
  have HB := Lib.hid hb
  have HBB := Lib.hid hB
  obtain ⟨n, hn⟩ : ∃ n, hh + 1 = n := ⟨_, rfl⟩
  have HN := Lib.hid hn
  have hn1 : n ≤ 61 := by omega
  have hnI : ((hh : Int) + 1) = n := by omega
  clear h hk hr hb hB hn
  go_enter Try.func40, Try.ntmps40
  go_wp2_with (at_make; refine wpList_makeInts rfl _ _ rfl (n : Int) (n : Int) n rfl rfl rfl rfl (by omega) ?_; intro w1 hown)
  clear hnI
  go_loopw [13, 7] (fun i _ wr => ∃ k : Nat, k ≤ n ∧ i = .int .i64 k ∧ Own W wr n (fun j => if j < k then linU r b j else 0)) (fun i _ _ => n - (intOf i).toNat)
  case atStart => exact ⟨0, Nat.zero_le _, rfl, hown.congr fun i _ => by rw [if_neg (by omega)]⟩
  case round =>
    obtain ⟨k, hk, rfl, ho⟩ := hrel
    by_cases hlt : k < n
    · have hn1 : (k : Int) < n := by omega
      have hk0 : (0 : Int) ≤ k := by omega
      have hck := ho.cell hlt
      have hfr := ho.frozen k
      have c1 : Hid (wr.cell? ⟨g, 0, none⟩ = some (.int .i64 r)) := (ho.bel.cell (p := ⟨g, 0, none⟩) (by show g < W.heap.size; omega)).trans HR.out
      have c2 : Hid (wr.cell? ⟨g + 1, 0, none⟩ = some (.int .i64 b)) := (ho.bel.cell (p := ⟨g + 1, 0, none⟩) (by show g + 1 < W.heap.size; omega)).trans HB.out
      have HO := Lib.hid ho
      clear ho hown
      go_wp2_with fail
      refine (sline1 g r b k wr (by omega) r0 r1 b0 b1 c1.out c2.out).mono ?_
      rintro e w' ⟨rfl, q, rfl⟩
      have ST := Lib.hid ((HO.out.drewN q).store (x := linU r b k) (v := fun j => if j < k + 1 then linU r b j else 0) hlt fun i hi => by
        by_cases h1 : i = k
        · subst h1; rw [if_pos (by omega), if_pos rfl]
        · rw [if_neg h1]
          by_cases h2 : i < k
          · rw [if_pos h2, if_pos (by omega)]
          · rw [if_neg h2, if_neg (by omega)])
      go_wp2_with fail
      go_roundw
      case rel => exact ⟨k + 1, by omega, by go_num, ST.out⟩
      case measure => simp [intOf]; omega
    · have hkn : k = n := by omega
      subst hkn
      have O := Lib.hid (ho.congr (v := linU r b) fun i hi => by rw [if_pos hi])
      clear ho hown
      go_wp2_with fail
      refine (fit_any (some ⟨W.heap.size, 0, none⟩) k k _ W0 wr O.out.sl (Below.to HBB.out O.out.bel) (Nat.le_refl _) (by omega) _ _ _ (by rw [← HF.out, HN.out]) HK.out).mono ?_
      rintro e w2 ⟨A2, c2, rfl, s2⟩
      have S2 := Lib.hid s2
      clear s2
      go_wp2_with fail
      go_ret2
      exact ⟨A2, c2, rfl, S2.out⟩
theorem sline_any (h r b : Int) (W : World) (h0 : 0 ≤ h) (h1 : h ≤ 60) (r0 : 0 ≤ r) (r1 : r ≤ 10000) (b0 : 0 ≤ b) (b1 : b ≤ 60) (zs : List Int) (er : Int) (k : Nat) (hz : fit (tab (h.toNat + 1) (linU r b)) = (zs, er)) (hk : zs.length = k) :
    Calls Try.prog 18 #[.int .i64 h, .int .i64 r, .int .i64 b] W (RetSl W k zs er) := by
  obtain ⟨hh, rfl⟩ := Int.eq_ofNat_of_zero_le h0
  rw [Int.toNat_natCast] at hz
  have HZ := Lib.hid hz
  have HK := Lib.hid hk
  have BB := Lib.hid (((Below.refl W.heap.size W).alloc (Nat.le_refl _) (.cells #[.int .i64 r] 3)).alloc (by simp) (.cells #[.int .i64 b] 3))
  clear hz hk
  go_enter Try.func18, Try.ntmps18
  go_wp2_with fail
  refine (slook_ok hh r _ (by omega) h1 r0 r1).mono ?_
  rintro e w' ⟨rfl, rfl⟩
  go_wp2_with fail
  refine (sline_made W.heap.size r b hh W _ (by omega) r0 r1 b0 b1 (by simp) (by simp) (by simp) BB.out zs er k HZ.out HK.out).mono ?_
  rintro e w2 ⟨A2, c2, rfl, s2⟩
  have S2 := Lib.hid s2
  clear s2
  go_wp2_with fail
  go_ret2
  exact ⟨A2, c2, rfl, S2.out⟩
end Go.Proofs.Ytidmncoakockkaa
