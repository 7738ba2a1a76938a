/- deconv.Of. -/
import Derived.Test.YtpifknmoimlpoaaCurveD
import Derived.StillTailTactics
set_option linter.unusedVariables false
namespace Go.Proofs.Ytpifknmoimlpoaa
open Go.RowKit
/-- The table while time t is under way, k of its distances tried. -/
def dct (n : Nat) (f g : Nat → Int) (t k : Nat) (j : Nat) : Int := if j < t then dcv n f g j else if j = t then top (fun u => f (t + u) - g u) k else 0
theorem dct_done (n : Nat) (f g : Nat → Int) (t j : Nat) : dct n f g t (n - t) j = if j < t + 1 then dcv n f g j else 0 := by
  unfold dct
  by_cases h : j < t
  · rw [if_pos h, if_pos (by omega)]
  · rw [if_neg h]
    by_cases h2 : j = t
    · subst h2; rw [if_pos rfl, if_pos (by omega)]; rfl
    · rw [if_neg h2, if_neg (by omega)]
theorem dct_start (n : Nat) (f g : Nat → Int) (t j : Nat) : (if j < t then dcv n f g j else 0) = dct n f g t 0 j := by
  unfold dct
  by_cases h : j < t
  · rw [if_pos h, if_pos h]
  · rw [if_neg h, if_neg h]
    by_cases h2 : j = t
    · rw [if_pos h2]; rfl
    · rw [if_neg h2]
theorem dctop_bd {n : Nat} {f g : List Int} (hf : IsC n f) (hg : IsC n g) {t k : Nat} (hk : t + k ≤ n) : 0 ≤ top (fun u => gi f (t + u) - gi g u) k ∧ top (fun u => gi f (t + u) - gi g u) k ≤ 1000000 :=
  ⟨top_nonneg _ _, top_le (by omega) fun i hi => by have := hf.hi (t + i) (by omega); have := hg.lo i (by omega); omega⟩
set_option maxRecDepth 100000 in
set_option maxHeartbeats 3200000 in
theorem deconv_any (A : Option Addr) (n c : Nat) (f : List Int) (M : Option Addr) (m d : Nat) (g : List Int) (W : World) (hs : Sl W W.heap.size A n (ints f)) (ht : Sl W W.heap.size M m (ints g)) (hn : n ≤ 9223372036854775807) (hm : m ≤ 9223372036854775807)
    (zs : List Int) (er : Int) (k : Nat) (h : of2 f g (deconvL f g, 0) = (zs, er)) (hk : zs.length = k) :
    Calls Try.prog 51 #[.slice A n c, .slice M m d] W (RetSl W k zs er) := by
  by_cases hb : bothErr f g = 0
  · obtain ⟨cf, cg⟩ := both_isC hb
    have hl := hs.int_len
    have hl' := ht.int_len
    have hlg := cg.len
    obtain rfl : n = m := by omega
    rw [hl] at cf cg
    have hn61 := cf.top
    have hp := cf.pos
    have h' : (tab n (dcv n (gi f) (gi g)), (0 : Int)) = (zs, er) := by rw [of2_ok cf cg] at h; rw [← h, deconvL, hl]
    have HZ := Lib.hid h'
    have CF := Lib.hid cf
    have CG := Lib.hid cg
    have HB := Lib.hid hb
    have HK := Lib.hid hk
    clear h h' cf cg hb hk hl hl' hlg
    go_enter Try.func51, Try.ntmps51
    go_wp2_with fail
    refine (both_any A n c f M n d g _ _ _ hs ht hn hn).mono ?_
    rintro e w' ⟨rfl, rfl⟩
    rw [HB.out]
    go_wp2_with (at_make; refine wpList_makeInts rfl _ _ rfl (n : Int) (n : Int) n rfl rfl rfl rfl (by omega) ?_; intro w1 hown)
    go_loopw [21, 8, 9, 28] (fun i _ _ _ wr => ∃ k : Nat, k ≤ n ∧ i = .int .i64 k ∧ Own W wr n (fun j => if j < k then dcv n (gi f) (gi g) j else 0)) (fun i _ _ _ _ => n - (intOf i).toNat)
    case atStart => exact ⟨0, Nat.zero_le _, rfl, hown.congr fun i _ => by rw [if_neg (by omega)]⟩
    case round =>
      obtain ⟨t, htn, rfl, ho⟩ := hrel
      by_cases hlt : t < n
      · have hn1 : (t : Int) < n := by omega
        have hk0 : (0 : Int) ≤ t := by omega
        have ho2 := ho.congr (fun j _ => dct_start n (gi f) (gi g) t j)
        clear ho hown
        go_wp2_with fail
        go_loopw [28, 9] (fun i _ wr => ∃ k : Nat, k ≤ n - t ∧ i = .int .i64 k ∧ Own W wr n (dct n (gi f) (gi g) t k)) (fun i _ _ => n - t - (intOf i).toNat)
        case atStart => exact ⟨0, Nat.zero_le _, rfl, ho2⟩
        case round =>
          obtain ⟨k, hk, rfl, hi⟩ := hrel
          by_cases hkt : k < n - t
          · have hm1 : (k : Int) < (n : Int) - t := by omega
            have hm0 : (0 : Int) ≤ k := by omega
            have hm2 : (k : Int) < n := by omega
            have hm3 : (t : Int) + k < n := by omega
            have hm4 : 0 ≤ (t : Int) + k := by omega
            have hc1 := (hi.old hs).int_at (k := t + k) (by omega)
            obtain ⟨b1, o1, rfl, q1, hc1⟩ := hc1
            obtain ⟨b2, o2, rfl, q2, hc2⟩ := (hi.old ht).int_at (k := k) (by omega)
            have hck := hi.cell hlt
            have hfr := hi.frozen t
            have ff := CF.out.lo (t + k) (by omega)
            have ff' := CF.out.hi (t + k) (by omega)
            have gg := CG.out.lo k (by omega)
            have gg' := CG.out.hi k (by omega)
            have bb := dctop_bd CF.out CG.out (t := t) (k := k) (by omega)
            rw [show dct n (gi f) (gi g) t k t = top (fun u => gi f (t + u) - gi g u) k by unfold dct; rw [if_neg (by omega), if_pos rfl]] at hck
            have hsu := top_succ (fun u => gi f (t + u) - gi g u) k
            obtain ⟨cur, hcur⟩ : ∃ z, top (fun u => gi f (t + u) - gi g u) k = z := ⟨_, rfl⟩
            rw [hcur] at hck bb hsu
            obtain ⟨nv, hnv⟩ : ∃ z, (if cur < gi f (t + k) - gi g k then gi f (t + k) - gi g k else cur) = z := ⟨_, rfl⟩
            have hst : Own W (wr.setCell ⟨W.heap.size, t, none⟩ (.int .i64 nv)) n (dct n (gi f) (gi g) t (k + 1)) := hi.store (x := nv) hlt fun i hi => by
              unfold dct
              by_cases h1 : i = t
              · subst h1; rw [if_neg (by omega), if_pos rfl, if_pos rfl, hsu, ← hnv]; rfl
              · rw [if_neg h1, if_neg h1, if_neg h1]
            have ST := Lib.hid hst
            have f1 : IntKind.i64.wrap (gi f (t + k) - gi g k) = gi f (t + k) - gi g k := IntWalk.i64_in _ ⟨by omega, by omega⟩
            have f2 : IntKind.i64.wrap ((t : Int) + k) = (t : Int) + k := IntWalk.i64_in _ ⟨by omega, by omega⟩
            have f3 : ((t : Int) + k).toNat = t + k := by omega
            clear hst hi hcur hsu ho2 hs ht
            go_wp2_with fail
            refine wp_region_still_tail 19 (by kernel_rfl) (by kernel_rfl) ?_
            simp only [List.take_succ_cons, List.take_zero, List.drop_succ_cons, List.drop_zero]
            repeat still_step
            refine wpStill_nil ?_
            change wpList _ _ _ _ _ wr.drew
            go_wp2_with fail
            go_roundw
            case rel => exact ⟨k + 1, by omega, by go_num, ST.out.drew⟩
            case measure => simp [intOf]; omega
          · have hkt' : k = n - t := by omega
            subst hkt'
            have O2 := Lib.hid (hi.congr fun i _ => dct_done n (gi f) (gi g) t i)
            have hz1 : ¬ (((n - t : Nat) : Int) < (n : Int) - t) := by omega
            clear hi ho2
            go_wp2_with fail
            go_roundw
            case rel => exact ⟨t + 1, by omega, by go_num, O2.out⟩
            case measure => simp [intOf]; omega
      · have hkn : t = n := by omega
        subst hkn
        have O := Lib.hid (ho.congr (v := dcv t (gi f) (gi g)) fun i hi => by rw [if_pos hi])
        clear hs ht ho hown
        go_wp2_with fail
        go_ret2
        have h1 := HZ.out
        injection h1 with h1 h2
        subst h1 h2
        have h3 := HK.out
        rw [tab_len] at h3
        subst h3
        exact ⟨_, _, rfl, O.out.sl, Nat.le_refl _, O.out.bel, O.out.row⟩
  · have hne : (bothErr f g != 0) = true := by simpa using hb
    have HF := Lib.hid h
    have HK := Lib.hid hk
    have HB := Lib.hid hb
    clear h hk hb
    go_enter Try.func51, Try.ntmps51
    go_wp2_with fail
    refine (both_any A n c f M m d g _ _ _ hs ht hn hm).mono ?_
    rintro e w' ⟨rfl, rfl⟩
    clear hs ht
    go_wp2_with fail
    go_ret2
    exact RetSl.nil HF.out HK.out (if_neg HB.out) (Below.refl _ _)
end Go.Proofs.Ytpifknmoimlpoaa
