/- dual.Of, dual.Super. -/
import Derived.Test.YtpifknmoimlpoaaCurveD
import Derived.Test.YtpifknmoimlpoaaDualP
import Derived.StillTailTactics
set_option linter.unusedVariables false
namespace Go.Proofs.Ytpifknmoimlpoaa
open Go.RowKit
set_option maxRecDepth 100000 in
set_option maxHeartbeats 3200000 in
theorem super_any (A : Option Addr) (n c : Nat) (f : List Int) (W : World) (hs : Sl W W.heap.size A n (ints f)) (hn : n ≤ 9223372036854775807)
    (zs : List Int) (er : Int) (k : Nat) (h : of1 f (fit (superL f)) = (zs, er)) (hk : zs.length = k) :
    Calls Try.prog 54 #[.slice A n c] W (RetSl W k zs er) := by
  by_cases hb : curveErr f = 0
  · have cf := isC_of hb
    have hl := hs.int_len
    rw [hl] at cf
    have hn61 := cf.top
    have hp := cf.pos
    have h' : fit (tab n (sup (gi f))) = (zs, er) := by rw [of1_ok cf] at h; rw [← h, superL, hl]
    have HZ := Lib.hid h'
    have CF := Lib.hid cf
    have HB := Lib.hid hb
    have HK := Lib.hid hk
    clear h h' cf hb hk hl
    go_enter Try.func54, Try.ntmps54
    go_wp2_with fail
    refine (ccheck_any A n c f _ _ hs hn).mono ?_
    rintro e w' ⟨rfl, rfl⟩
    rw [HB.out]
    go_wp2_with (at_make; refine wpList_makeInts rfl _ _ rfl (n : Int) (n : Int) n rfl rfl rfl rfl (by omega) ?_; intro w1 hown)
    go_loopw [6, 7] (fun i _ wr => ∃ k : Nat, 0 < k ∧ k ≤ n ∧ i = .int .i64 k ∧ Own W wr n (fun j => if j < k then sup (gi f) j else 0)) (fun i _ _ => n - (intOf i).toNat)
    case atStart =>
      exact ⟨1, by omega, by omega, rfl, hown.congr fun i _ => by
        by_cases h : i < 1
        · obtain rfl : i = 0 := by omega
          rfl
        · rw [if_neg h]⟩
    case round =>
      obtain ⟨t, ht0, htn, rfl, ho⟩ := hrel
      by_cases hlt : t < n
      · have hn1 : (t : Int) < n := by omega
        have hk0 : (0 : Int) ≤ t := by omega
        have hc1 := (ho.old hs).int_at (k := t) hlt
        obtain ⟨b1, o1, rfl, q1, hc1⟩ := hc1
        have hck := ho.cell hlt
        have hfr := ho.frozen t
        have O := Lib.hid ho
        clear ho hown
        go_wp2_with fail
        have ho2 : Own W (wr.setCell ⟨W.heap.size, t, none⟩ (.int .i64 (gi f t))) n (spt (gi f) t 0) := O.out.store (x := gi f t) hlt fun i hi => by
          unfold spt
          by_cases h1 : i = t
          · subst h1; rw [if_neg (by omega), if_pos rfl, if_pos rfl]; rfl
          · rw [if_neg h1, if_neg h1]
        generalize (wr.setCell ⟨W.heap.size, t, none⟩ (.int .i64 (gi f t))) = w2 at ho2 ⊢
        clear hc1 hck hfr O hs
        go_loopw [7] (fun i wr => ∃ k : Nat, 0 < k ∧ k ≤ t ∧ i = .int .i64 k ∧ Own W wr n (spt (gi f) t (k - 1))) (fun i _ => t - (intOf i).toNat)
        case atStart => exact ⟨1, by omega, by omega, rfl, ho2⟩
        case round =>
          obtain ⟨k, hk1, hk, rfl, hi⟩ := hrel
          by_cases hkt : k < t
          · have hm1 : (k : Int) < (t : Int) := by omega
            have hm0 : (0 : Int) ≤ k := by omega
            have hm2 : (k : Int) < n := by omega
            have hm3 : (t : Int) - k < n := by omega
            have hm4 : 0 ≤ (t : Int) - k := by omega
            have hm5 : (k : Int) ≤ t := by omega
            have hm6 : k ≤ t := by omega
            have hc1 := hi.cell (k := k) (by omega)
            have hc2 := hi.cell (k := t - k) (by omega)
            have hck := hi.cell hlt
            have hfr := hi.frozen t
            rw [show spt (gi f) t (k - 1) k = sup (gi f) k by unfold spt; rw [if_pos (by omega)]] at hc1
            rw [show spt (gi f) t (k - 1) (t - k) = sup (gi f) (t - k) by unfold spt; rw [if_pos (by omega)]] at hc2
            have ff := sup_small CF.out (t := k) (by omega)
            have gg := sup_small CF.out (t := t - k) (by omega)
            have bb := sw_bd CF.out hlt (k := k - 1) (by omega)
            rw [show spt (gi f) t (k - 1) t = sw (gi f) (sup (gi f)) t (k - 1) by unfold spt; rw [if_neg (by omega), if_pos rfl]] at hck
            have hsu := sw_succ (gi f) (sup (gi f)) t (k - 1)
            rw [show k - 1 + 1 = k by omega] at hsu
            obtain ⟨cur, hcur⟩ : ∃ z, sw (gi f) (sup (gi f)) t (k - 1) = z := ⟨_, rfl⟩
            rw [hcur] at hck bb hsu
            obtain ⟨p, hp'⟩ : ∃ z, sup (gi f) k = z := ⟨_, rfl⟩
            obtain ⟨q, hq'⟩ : ∃ z, sup (gi f) (t - k) = z := ⟨_, rfl⟩
            rw [hp'] at hc1 ff hsu
            rw [hq'] at hc2 gg hsu
            obtain ⟨nv, hnv⟩ : ∃ z, (if cur < p + q then p + q else cur) = z := ⟨_, rfl⟩
            have hst : Own W (wr.setCell ⟨W.heap.size, t, none⟩ (.int .i64 nv)) n (spt (gi f) t k) := hi.store (x := nv) hlt fun i hi => by
              unfold spt
              by_cases h1 : i = t
              · subst h1; rw [if_neg (by omega), if_pos rfl, if_pos rfl, hsu, ← hnv]; rfl
              · rw [if_neg h1, if_neg h1, if_neg h1]
            have ST := Lib.hid hst
            have f1 : IntKind.i64.wrap (p + q) = p + q := IntWalk.i64_in _ ⟨by omega, by omega⟩
            have f2 : IntKind.i64.wrap ((t : Int) - k) = (t : Int) - k := IntWalk.i64_in _ ⟨by omega, by omega⟩
            have f3 : ((t : Int) - k).toNat = t - k := by omega
            clear hst hi hcur hsu ho2 hp' hq'
            go_wp2_with fail
            refine wp_region_still_tail 19 (by kernel_rfl) (by kernel_rfl) ?_
            simp only [List.take_succ_cons, List.take_zero, List.drop_succ_cons, List.drop_zero]
            repeat still_step
            refine wpStill_nil ?_
            change wpList _ _ _ _ _ wr.drew
            go_wp2_with fail
            go_roundw
            case rel => exact ⟨k + 1, by omega, by omega, by go_num, ST.out.drew⟩
            case measure => simp [intOf]; omega
          · have hkt' : k = t := by omega
            subst hkt'
            have O2 := Lib.hid (hi.congr fun i _ => spt_done (gi f) ht0 i)
            clear hi ho2
            go_wp2_with fail
            go_roundw
            case rel => exact ⟨k + 1, by omega, by omega, by go_num, O2.out⟩
            case measure => simp [intOf]; omega
      · have hkn : t = n := by omega
        subst hkn
        have O := Lib.hid (ho.congr (v := sup (gi f)) fun i hi => by rw [if_pos hi])
        clear hs ho hown
        go_wp2_with fail
        refine (fit_any (some ⟨W.heap.size, 0, none⟩) t t _ W wr O.out.sl O.out.bel O.out.row (Nat.le_refl _) (by omega) _ _ _ HZ.out HK.out).mono ?_
        rintro e w2 ⟨A2, c2, rfl, s2⟩
        have S2 := Lib.hid s2
        clear s2
        go_wp2_with fail
        go_ret2
        exact ⟨A2, c2, rfl, S2.out⟩
  · have hne : (curveErr f != 0) = true := by simpa using hb
    have HF := Lib.hid h
    have HK := Lib.hid hk
    have HB := Lib.hid hb
    clear h hk hb
    go_enter Try.func54, Try.ntmps54
    go_wp2_with fail
    refine (ccheck_any A n c f _ _ hs hn).mono ?_
    rintro e w' ⟨rfl, rfl⟩
    clear hs
    go_wp2_with fail
    go_ret2
    exact RetSl.nil HF.out HK.out (if_neg HB.out) (Below.refl _ _)
/-- The table while time t is under way, k of its distances tried. -/
def dut (f g : Nat → Int) (t k : Nat) (j : Nat) : Int := if j < t then dv f g j else if j = t then top (fun s => f s + g (t - s)) k else 0
theorem dut_done (f g : Nat → Int) (t j : Nat) : dut f g t (t + 1) j = if j < t + 1 then dv f g j else 0 := by
  unfold dut
  by_cases h : j < t
  · rw [if_pos h, if_pos (by omega)]
  · rw [if_neg h]
    by_cases h2 : j = t
    · subst h2; rw [if_pos rfl, if_pos (by omega)]; rfl
    · rw [if_neg h2, if_neg (by omega)]
theorem dut_start (f g : Nat → Int) (t j : Nat) : (if j < t then dv f g j else 0) = dut f g t 0 j := by
  unfold dut
  by_cases h : j < t
  · rw [if_pos h, if_pos h]
  · rw [if_neg h, if_neg h]
    by_cases h2 : j = t
    · rw [if_pos h2]; rfl
    · rw [if_neg h2]
theorem dtop_small {n : Nat} {f g : List Int} (hf : IsC n f) (hg : IsC n g) {t k : Nat} (ht : t < n) (hk : k ≤ t + 1) : 0 ≤ top (fun s => gi f s + gi g (t - s)) k ∧ top (fun s => gi f s + gi g (t - s)) k ≤ 2000000 :=
  ⟨top_nonneg _ _, top_le (by omega) fun i hi => by have := hf.hi i (by omega); have := hg.hi (t - i) (by omega); omega⟩
set_option maxRecDepth 100000 in
set_option maxHeartbeats 3200000 in
theorem dual_any (A : Option Addr) (n c : Nat) (f : List Int) (M : Option Addr) (m d : Nat) (g : List Int) (W : World) (hs : Sl W W.heap.size A n (ints f)) (ht : Sl W W.heap.size M m (ints g)) (hn : n ≤ 9223372036854775807) (hm : m ≤ 9223372036854775807)
    (zs : List Int) (er : Int) (k : Nat) (h : of2 f g (fit (dualL f g)) = (zs, er)) (hk : zs.length = k) :
    Calls Try.prog 53 #[.slice A n c, .slice M m d] W (RetSl W k zs er) := by
  by_cases hb : bothErr f g = 0
  · obtain ⟨cf, cg⟩ := both_isC hb
    have hl := hs.int_len
    have hl' := ht.int_len
    have hlg := cg.len
    obtain rfl : n = m := by omega
    rw [hl] at cf cg
    have hn61 := cf.top
    have hp := cf.pos
    have h' : fit (tab n (dv (gi f) (gi g))) = (zs, er) := by rw [of2_ok cf cg] at h; rw [← h, dualL, hl]
    have HZ := Lib.hid h'
    have CF := Lib.hid cf
    have CG := Lib.hid cg
    have HB := Lib.hid hb
    have HK := Lib.hid hk
    clear h h' cf cg hb hk hl hl' hlg
    go_enter Try.func53, Try.ntmps53
    go_wp2_with fail
    refine (both_any A n c f M n d g _ _ _ hs ht hn hn).mono ?_
    rintro e w' ⟨rfl, rfl⟩
    rw [HB.out]
    go_wp2_with (at_make; refine wpList_makeInts rfl _ _ rfl (n : Int) (n : Int) n rfl rfl rfl rfl (by omega) ?_; intro w1 hown)
    go_loopw [21, 8, 9, 26] (fun i _ _ _ wr => ∃ k : Nat, k ≤ n ∧ i = .int .i64 k ∧ Own W wr n (fun j => if j < k then dv (gi f) (gi g) j else 0)) (fun i _ _ _ _ => n - (intOf i).toNat)
    case atStart => exact ⟨0, Nat.zero_le _, rfl, hown.congr fun i _ => by rw [if_neg (by omega)]⟩
    case round =>
      obtain ⟨t, htn, rfl, ho⟩ := hrel
      by_cases hlt : t < n
      · have hn1 : (t : Int) < n := by omega
        have hk0 : (0 : Int) ≤ t := by omega
        have ho2 := ho.congr (fun j _ => dut_start (gi f) (gi g) t j)
        clear ho hown
        go_wp2_with fail
        go_loopw [26, 9] (fun i _ wr => ∃ k : Nat, k ≤ t + 1 ∧ i = .int .i64 k ∧ Own W wr n (dut (gi f) (gi g) t k)) (fun i _ _ => t + 1 - (intOf i).toNat)
        case atStart => exact ⟨0, Nat.zero_le _, rfl, ho2⟩
        case round =>
          obtain ⟨k, hk, rfl, hi⟩ := hrel
          by_cases hkt : k < t + 1
          · have hm1 : (k : Int) < (t : Int) + 1 := by omega
            have hm0 : (0 : Int) ≤ k := by omega
            have hm2 : (k : Int) < n := by omega
            have hm3 : (t : Int) - k < n := by omega
            have hm4 : 0 ≤ (t : Int) - k := by omega
            have hm5 : (k : Int) ≤ t := by omega
            have hm6 : k ≤ t := by omega
            obtain ⟨b1, o1, rfl, q1, hc1⟩ := (hi.old hs).int_at (k := k) (by omega)
            obtain ⟨b2, o2, rfl, q2, hc2⟩ := (hi.old ht).int_at (k := t - k) (by omega)
            have hck := hi.cell hlt
            have hfr := hi.frozen t
            have ff := CF.out.lo k (by omega)
            have ff' := CF.out.hi k (by omega)
            have gg := CG.out.lo (t - k) (by omega)
            have gg' := CG.out.hi (t - k) (by omega)
            have bb := dtop_small CF.out CG.out hlt (Nat.le_of_lt hkt)
            rw [show dut (gi f) (gi g) t k t = top (fun s => gi f s + gi g (t - s)) k by unfold dut; rw [if_neg (by omega), if_pos rfl]] at hck
            have hsu := top_succ (fun s => gi f s + gi g (t - s)) k
            obtain ⟨cur, hcur⟩ : ∃ z, top (fun s => gi f s + gi g (t - s)) k = z := ⟨_, rfl⟩
            rw [hcur] at hck bb hsu
            obtain ⟨nv, hnv⟩ : ∃ z, (if cur < gi f k + gi g (t - k) then gi f k + gi g (t - k) else cur) = z := ⟨_, rfl⟩
            have hst : Own W (wr.setCell ⟨W.heap.size, t, none⟩ (.int .i64 nv)) n (dut (gi f) (gi g) t (k + 1)) := hi.store (x := nv) hlt fun i hi => by
              unfold dut
              by_cases h1 : i = t
              · subst h1; rw [if_neg (by omega), if_pos rfl, if_pos rfl, hsu, ← hnv]; rfl
              · rw [if_neg h1, if_neg h1, if_neg h1]
            have ST := Lib.hid hst
            have f1 : IntKind.i64.wrap (gi f k + gi g (t - k)) = gi f k + gi g (t - k) := IntWalk.i64_in _ ⟨by omega, by omega⟩
            have f2 : IntKind.i64.wrap ((t : Int) - k) = (t : Int) - k := IntWalk.i64_in _ ⟨by omega, by omega⟩
            have f3 : ((t : Int) - k).toNat = t - k := by omega
            clear hst hi hcur hsu ho2 hs ht
            go_wp2_with fail
            refine wp_region_still_tail 19 (by kernel_rfl) (by kernel_rfl) ?_
            simp only [List.take_succ_cons, List.take_zero, List.drop_succ_cons, List.drop_zero]
            repeat still_step
            refine wpStill_nil ?_
            change wpList _ _ _ _ _ wr.drew
            go_wp2_with fail
            go_roundw
            case rel => exact ⟨k + 1, by omega, by go_num, ST.out.drew⟩
            case measure => simp [intOf]; omega
          · have hkt' : k = t + 1 := by omega
            subst hkt'
            have O2 := Lib.hid (hi.congr fun i _ => dut_done (gi f) (gi g) t i)
            clear hi ho2
            go_wp2_with fail
            go_roundw
            case rel => exact ⟨t + 1, by omega, by go_num, O2.out⟩
            case measure => simp [intOf]; omega
      · have hkn : t = n := by omega
        subst hkn
        have O := Lib.hid (ho.congr (v := dv (gi f) (gi g)) fun i hi => by rw [if_pos hi])
        clear hs ht ho hown
        go_wp2_with fail
        refine (fit_any (some ⟨W.heap.size, 0, none⟩) t t _ W wr O.out.sl O.out.bel O.out.row (Nat.le_refl _) (by omega) _ _ _ HZ.out HK.out).mono ?_
        rintro e w2 ⟨A2, c2, rfl, s2⟩
        have S2 := Lib.hid s2
        clear s2
        go_wp2_with fail
        go_ret2
        exact ⟨A2, c2, rfl, S2.out⟩
  · have hne : (bothErr f g != 0) = true := by simpa using hb
    have HF := Lib.hid h
    have HK := Lib.hid hk
    have HB := Lib.hid hb
    clear h hk hb
    go_enter Try.func53, Try.ntmps53
    go_wp2_with fail
    refine (both_any A n c f M m d g _ _ _ hs ht hn hm).mono ?_
    rintro e w' ⟨rfl, rfl⟩
    clear hs ht
    go_wp2_with fail
    go_ret2
    exact RetSl.nil HF.out HK.out (if_neg HB.out) (Below.refl _ _)
end Go.Proofs.Ytpifknmoimlpoaa
