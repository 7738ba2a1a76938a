/- closure.Of. -/
import Derived.Test.YtpifknmoimlpoaaCurveD
import Derived.Test.YtpifknmoimlpoaaClosP
import Derived.StillTailTactics
set_option linter.unusedVariables false
namespace Go.Proofs.Ytpifknmoimlpoaa
open Go.RowKit
set_option maxRecDepth 100000 in
set_option maxHeartbeats 3200000 in
theorem closure_any (A : Option Addr) (n c : Nat) (f : List Int) (W : World) (hs : Sl W W.heap.size A n (ints f)) (hn : n ≤ 9223372036854775807)
    (zs : List Int) (er : Int) (k : Nat) (h : of1 f (closureL f, 0) = (zs, er)) (hk : zs.length = k) :
    Calls Try.prog 52 #[.slice A n c] W (RetSl W k zs er) := by
  by_cases hb : curveErr f = 0
  · have cf := isC_of hb
    have hl := hs.int_len
    rw [hl] at cf
    have hn61 := cf.top
    have hp := cf.pos
    have h' : (tab n (clo (gi f)), (0 : Int)) = (zs, er) := by rw [of1_ok cf] at h; rw [← h, closureL, hl]
    have HZ := Lib.hid h'
    have CF := Lib.hid cf
    have HB := Lib.hid hb
    have HK := Lib.hid hk
    clear h h' cf hb hk hl
    go_enter Try.func52, Try.ntmps52
    go_wp2_with fail
    refine (ccheck_any A n c f _ _ hs hn).mono ?_
    rintro e w' ⟨rfl, rfl⟩
    rw [HB.out]
    go_wp2_with (at_make; refine wpList_makeInts rfl _ _ rfl (n : Int) (n : Int) n rfl rfl rfl rfl (by omega) ?_; intro w1 hown)
    go_loopw [6, 7] (fun i _ wr => ∃ k : Nat, 0 < k ∧ k ≤ n ∧ i = .int .i64 k ∧ Own W wr n (fun j => if j < k then clo (gi f) j else 0)) (fun i _ _ => n - (intOf i).toNat)
    case atStart =>
      exact ⟨1, by omega, by omega, rfl, hown.congr fun i _ => by
        by_cases h : i < 1
        · obtain rfl : i = 0 := by omega
          rfl
        · rw [if_neg h]⟩
    case round =>
      obtain ⟨t, ht0, htn, rfl, ho⟩ := hrel
      by_cases hlt : t < n
      · have hn1 : (t : Int) < n := by omega
        have hk0 : (0 : Int) ≤ t := by omega
        have hc1 := (ho.old hs).int_at (k := t) hlt
        obtain ⟨b1, o1, rfl, q1, hc1⟩ := hc1
        have hck := ho.cell hlt
        have hfr := ho.frozen t
        have O := Lib.hid ho
        clear ho hown
        go_wp2_with fail
        have ho2 : Own W (wr.setCell ⟨W.heap.size, t, none⟩ (.int .i64 (gi f t))) n (clt (gi f) t 0) := O.out.store (x := gi f t) hlt fun i hi => by
          unfold clt
          by_cases h1 : i = t
          · subst h1; rw [if_neg (by omega), if_pos rfl, if_pos rfl]; rfl
          · rw [if_neg h1, if_neg h1]
        generalize (wr.setCell ⟨W.heap.size, t, none⟩ (.int .i64 (gi f t))) = w2 at ho2 ⊢
        clear hc1 hck hfr O hs
        go_loopw [7] (fun i wr => ∃ k : Nat, 0 < k ∧ k ≤ t ∧ i = .int .i64 k ∧ Own W wr n (clt (gi f) t (k - 1))) (fun i _ => t - (intOf i).toNat)
        case atStart => exact ⟨1, by omega, by omega, rfl, ho2⟩
        case round =>
          obtain ⟨k, hk1, hk, rfl, hi⟩ := hrel
          by_cases hkt : k < t
          · have hm1 : (k : Int) < (t : Int) := by omega
            have hm0 : (0 : Int) ≤ k := by omega
            have hm2 : (k : Int) < n := by omega
            have hm3 : (t : Int) - k < n := by omega
            have hm4 : 0 ≤ (t : Int) - k := by omega
            have hm5 : (k : Int) ≤ t := by omega
            have hm6 : k ≤ t := by omega
            have hc1 := hi.cell (k := k) (by omega)
            have hc2 := hi.cell (k := t - k) (by omega)
            have hck := hi.cell hlt
            have hfr := hi.frozen t
            rw [show clt (gi f) t (k - 1) k = clo (gi f) k by unfold clt; rw [if_pos (by omega)]] at hc1
            rw [show clt (gi f) t (k - 1) (t - k) = clo (gi f) (t - k) by unfold clt; rw [if_pos (by omega)]] at hc2
            have ff := clo_nonneg CF.out.lo k (by omega)
            have ff' := (closure_C CF.out).hi k (by omega)
            have gg := clo_nonneg CF.out.lo (t - k) (by omega)
            have gg' := (closure_C CF.out).hi (t - k) (by omega)
            rw [closureL_get CF.out.len (by omega)] at ff' gg'
            have bb := cw_bd CF.out hlt (k := k - 1) (by omega)
            rw [show clt (gi f) t (k - 1) t = cw (gi f) (clo (gi f)) t (k - 1) by unfold clt; rw [if_neg (by omega), if_pos rfl]] at hck
            have hsu := cw_succ (gi f) (clo (gi f)) t (k - 1)
            rw [show k - 1 + 1 = k by omega] at hsu
            obtain ⟨cur, hcur⟩ : ∃ z, cw (gi f) (clo (gi f)) t (k - 1) = z := ⟨_, rfl⟩
            rw [hcur] at hck bb hsu
            obtain ⟨p, hp'⟩ : ∃ z, clo (gi f) k = z := ⟨_, rfl⟩
            obtain ⟨q, hq'⟩ : ∃ z, clo (gi f) (t - k) = z := ⟨_, rfl⟩
            rw [hp'] at hc1 ff ff' hsu
            rw [hq'] at hc2 gg gg' hsu
            obtain ⟨nv, hnv⟩ : ∃ z, (if p + q < cur then p + q else cur) = z := ⟨_, rfl⟩
            have hst : Own W (wr.setCell ⟨W.heap.size, t, none⟩ (.int .i64 nv)) n (clt (gi f) t k) := hi.store (x := nv) hlt fun i hi => by
              unfold clt
              by_cases h1 : i = t
              · subst h1; rw [if_neg (by omega), if_pos rfl, if_pos rfl, hsu, ← hnv]; rfl
              · rw [if_neg h1, if_neg h1, if_neg h1]
            have ST := Lib.hid hst
            have f1 : IntKind.i64.wrap (p + q) = p + q := IntWalk.i64_in _ ⟨by omega, by omega⟩
            have f2 : IntKind.i64.wrap ((t : Int) - k) = (t : Int) - k := IntWalk.i64_in _ ⟨by omega, by omega⟩
            have f3 : ((t : Int) - k).toNat = t - k := by omega
            clear hst hi hcur hsu ho2 hp' hq'
            go_wp2_with fail
            refine wp_region_still_tail 19 (by kernel_rfl) (by kernel_rfl) ?_
            simp only [List.take_succ_cons, List.take_zero, List.drop_succ_cons, List.drop_zero]
            repeat still_step
            refine wpStill_nil ?_
            change wpList _ _ _ _ _ wr.drew
            go_wp2_with fail
            go_roundw
            case rel => exact ⟨k + 1, by omega, by omega, by go_num, ST.out.drew⟩
            case measure => simp [intOf]; omega
          · have hkt' : k = t := by omega
            subst hkt'
            have O2 := Lib.hid (hi.congr fun i _ => clt_done (gi f) ht0 i)
            clear hi ho2
            go_wp2_with fail
            go_roundw
            case rel => exact ⟨k + 1, by omega, by omega, by go_num, O2.out⟩
            case measure => simp [intOf]; omega
      · have hkn : t = n := by omega
        subst hkn
        have O := Lib.hid (ho.congr (v := clo (gi f)) fun i hi => by rw [if_pos hi])
        clear hs ho hown
        go_wp2_with fail
        go_ret2
        have h1 := HZ.out
        injection h1 with h1 h2
        subst h1 h2
        have h3 := HK.out
        rw [tab_len] at h3
        subst h3
        exact ⟨_, _, rfl, O.out.sl, Nat.le_refl _, O.out.bel, O.out.row⟩
  · have hne : (curveErr f != 0) = true := by simpa using hb
    have HF := Lib.hid h
    have HK := Lib.hid hk
    have HB := Lib.hid hb
    clear h hk hb
    go_enter Try.func52, Try.ntmps52
    go_wp2_with fail
    refine (ccheck_any A n c f _ _ hs hn).mono ?_
    rintro e w' ⟨rfl, rfl⟩
    clear hs
    go_wp2_with fail
    go_ret2
    exact RetSl.nil HF.out HK.out (if_neg HB.out) (Below.refl _ _)
end Go.Proofs.Ytpifknmoimlpoaa
