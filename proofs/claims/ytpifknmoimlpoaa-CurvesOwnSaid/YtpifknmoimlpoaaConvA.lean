/- conv.plain and conv.Of. -/
import Derived.Test.YtpifknmoimlpoaaCurveD
import Derived.Test.YtpifknmoimlpoaaCurveQ
import Derived.StillTailTactics
set_option linter.unusedVariables false
namespace Go.Proofs.Ytpifknmoimlpoaa
open Go.RowKit
/-- The least so far. -/
def cvk (f g : Nat → Int) (t k : Nat) : Int := lo (fun s => f s + g (t - s)) (k - 1)
theorem cvk_zero (f g : Nat → Int) (t : Nat) : cvk f g t 0 = f 0 + g t := rfl
theorem cvk_succ (f g : Nat → Int) (t k : Nat) : cvk f g t (k + 1) = mn (cvk f g t k) (f k + g (t - k)) := by
  rcases Nat.eq_zero_or_pos k with rfl | hk
  · show f 0 + g (t - 0) = mn (f 0 + g (t - 0)) (f 0 + g (t - 0))
    unfold mn
    split <;> rfl
  · obtain ⟨j, rfl⟩ : ∃ j, k = j + 1 := ⟨k - 1, by omega⟩
    rfl
theorem cvk_full (f g : Nat → Int) (t : Nat) : cvk f g t (t + 1) = cv f g t := rfl
/-- Numbers that do not grow out of the machine. -/
def small (n : Nat) (f : List Int) : Prop := ∀ i, i < n → 0 ≤ gi f i ∧ gi f i ≤ 1000000000
theorem cvk_bd {n : Nat} {f g : List Int} (hf : small n f) (hg : small n g) {t k : Nat} (ht : t < n) (hk : k ≤ t + 1) : 0 ≤ cvk (gi f) (gi g) t k ∧ cvk (gi f) (gi g) t k ≤ 2000000000 := by
  obtain ⟨i, hi, e⟩ := lo_ex (fun s => gi f s + gi g (t - s)) (k - 1)
  have h1 := hf i (by omega)
  have h2 := hg (t - i) (by omega)
  unfold cvk
  rw [e]
  show 0 ≤ gi f i + gi g (t - i) ∧ gi f i + gi g (t - i) ≤ 2000000000
  omega
theorem small_C {n : Nat} {f : List Int} (h : IsC n f) : small n f := fun i hi => ⟨h.lo i hi, by have := h.hi i hi; omega⟩
/-- The table while time t is under way, k of its pairs tried. -/
def cvt (f g : Nat → Int) (t k : Nat) (j : Nat) : Int := if j < t then cv f g j else if j = t then cvk f g t k else 0
theorem cvt_done (f g : Nat → Int) (t j : Nat) : cvt f g t (t + 1) j = if j < t + 1 then cv f g j else 0 := by
  unfold cvt
  by_cases h : j < t
  · rw [if_pos h, if_pos (by omega)]
  · rw [if_neg h]
    by_cases h2 : j = t
    · subst h2; rw [if_pos rfl, if_pos (by omega)]; rfl
    · rw [if_neg h2, if_neg (by omega)]
set_option maxRecDepth 100000 in
set_option maxHeartbeats 3200000 in
theorem plain_any (A : Option Addr) (n c : Nat) (f : List Int) (M : Option Addr) (m d : Nat) (g : List Int) (W : World) (hs : Sl W W.heap.size A n (ints f)) (ht : Sl W W.heap.size M m (ints g)) (hp : 0 < n) (hn : n ≤ 61) (hnm : n = m) (hf : small n f) (hg : small n g)
    (zs : List Int) (h : tab n (cv (gi f) (gi g)) = zs) :
    Calls Try.prog 101 #[.slice A n c, .slice M m d] W fun e w' => e = .returned (.slice (some ⟨W.heap.size, 0, none⟩) n n) ∧ Sl w' w'.heap.size (some ⟨W.heap.size, 0, none⟩) n (ints zs) ∧ Below W.heap.size W w' ∧ w'.ownsRow W.heap.size 3 1 (.slice (some ⟨W.heap.size, 0, none⟩) n n) n (ints zs) := by
  subst hnm
  have HZ := Lib.hid h
  have HF := Lib.hid hf
  have HG := Lib.hid hg
  clear h hf hg
  go_enter Try.func101, Try.ntmps101
  go_wp2_with (at_make; refine wpList_makeInts rfl _ _ rfl (n : Int) (n : Int) n rfl rfl rfl rfl (by omega) ?_; intro w1 hown)
  go_loopw [13, 6, 7, 29] (fun i _ _ _ wr => ∃ k : Nat, k ≤ n ∧ i = .int .i64 k ∧ Own W wr n (fun j => if j < k then cv (gi f) (gi g) j else 0)) (fun i _ _ _ _ => n - (intOf i).toNat)
  case atStart => exact ⟨0, Nat.zero_le _, rfl, hown.congr fun i _ => by rw [if_neg (by omega)]⟩
  case round =>
    obtain ⟨t, htn, rfl, ho⟩ := hrel
    by_cases hlt : t < n
    · have hn1 : (t : Int) < n := by omega
      have hk0 : (0 : Int) ≤ t := by omega
      have hn0 : (0 : Int) < n := by omega
      have s1 := ho.old hs
      have t1 := ho.old ht
      obtain ⟨b1, o1, hA, q1, hc1⟩ := s1.int_at (k := 0) hp
      obtain ⟨b2, o2, hM, q2, hc2⟩ := t1.int_at (k := t) hlt
      subst hA hM
      rw [Nat.add_zero] at hc1
      have hck := ho.cell hlt
      have hfr := ho.frozen t
      have ff := HF.out 0 hp
      have gg := HG.out t hlt
      have f1 : IntKind.i64.wrap (gi f 0 + gi g t) = gi f 0 + gi g t := IntWalk.i64_in _ ⟨by omega, by omega⟩
      have O := Lib.hid ho
      have S1 := Lib.hid s1
      have T1 := Lib.hid t1
      clear ho s1 t1 hown
      go_wp2_with fail
      refine wp_region_still_tail 11 (by kernel_rfl) (by kernel_rfl) ?_
      simp only [List.take_succ_cons, List.take_zero, List.drop_succ_cons, List.drop_zero]
      repeat still_step
      refine wpStill_nil ?_
      change wpList _ _ _ _ _ wr.drew
      go_wp2_with fail
      have ho2 : Own W (wr.setCell ⟨W.heap.size, t, none⟩ (.int .i64 (gi f 0 + gi g t))).drew n (cvt (gi f) (gi g) t 0) := (O.out.store (x := gi f 0 + gi g t) hlt fun i hi => by
        unfold cvt
        by_cases h1 : i = t
        · subst h1; rw [if_neg (by omega), if_pos rfl, if_pos rfl]; rfl
        · rw [if_neg h1, if_neg h1]).drew
      generalize (wr.setCell ⟨W.heap.size, t, none⟩ (.int .i64 (gi f 0 + gi g t))).drew = w2 at ho2 ⊢
      clear hc1 hc2 hck hfr f1 ff gg O
      go_loopw [29, 7] (fun i _ wr => ∃ k : Nat, k ≤ t + 1 ∧ i = .int .i64 k ∧ Own W wr n (cvt (gi f) (gi g) t k)) (fun i _ _ => t + 1 - (intOf i).toNat)
      case atStart => exact ⟨0, Nat.zero_le _, rfl, ho2⟩
      case round =>
        obtain ⟨k, hk, rfl, hi⟩ := hrel
        by_cases hkt : k < t + 1
        · have hm1 : (k : Int) < (t : Int) + 1 := by omega
          have hm0 : (0 : Int) ≤ k := by omega
          have hm2 : (k : Int) < n := by omega
          have hm3 : (t : Int) - k < n := by omega
          have hm4 : 0 ≤ (t : Int) - k := by omega
          have hm5 : (k : Int) ≤ t := by omega
          have hm6 : k ≤ t := by omega
          have hc1 := (hi.old hs).int_cell (k := k) (by omega)
          have hc2 := (hi.old ht).int_cell (k := t - k) (by omega)
          have hck := hi.cell hlt
          have hfr := hi.frozen t
          have ff := HF.out k (by omega)
          have gg := HG.out (t - k) (by omega)
          have bb := cvk_bd HF.out HG.out hlt (Nat.le_of_lt hkt)
          rw [show cvt (gi f) (gi g) t k t = cvk (gi f) (gi g) t k by unfold cvt; rw [if_neg (by omega), if_pos rfl]] at hck
          have hsu := cvk_succ (gi f) (gi g) t k
          obtain ⟨cur, hcur⟩ : ∃ z, cvk (gi f) (gi g) t k = z := ⟨_, rfl⟩
          rw [hcur] at hck bb hsu
          obtain ⟨nv, hnv⟩ : ∃ z, (if gi f k + gi g (t - k) < cur then gi f k + gi g (t - k) else cur) = z := ⟨_, rfl⟩
          have hst : Own W (wr.setCell ⟨W.heap.size, t, none⟩ (.int .i64 nv)) n (cvt (gi f) (gi g) t (k + 1)) := hi.store (x := nv) hlt fun i hi => by
            unfold cvt
            by_cases h1 : i = t
            · subst h1; rw [if_neg (by omega), if_pos rfl, if_pos rfl, hsu, ← hnv]; rfl
            · rw [if_neg h1, if_neg h1, if_neg h1]
          have ST := Lib.hid hst
          have f1 : IntKind.i64.wrap (gi f k + gi g (t - k)) = gi f k + gi g (t - k) := IntWalk.i64_in _ ⟨by omega, by omega⟩
          have f2 : IntKind.i64.wrap ((t : Int) - k) = (t : Int) - k := IntWalk.i64_in _ ⟨by omega, by omega⟩
          have f3 : ((t : Int) - k).toNat = t - k := by omega
          clear hst hi hcur hsu ho2
          go_wp2_with fail
          refine wp_region_still_tail 19 (by kernel_rfl) (by kernel_rfl) ?_
          simp only [List.take_succ_cons, List.take_zero, List.drop_succ_cons, List.drop_zero]
          repeat still_step
          refine wpStill_nil ?_
          change wpList _ _ _ _ _ wr.drew
          go_wp2_with fail
          go_roundw
          case rel => exact ⟨k + 1, by omega, by go_num, ST.out.drew⟩
          case measure => simp [intOf]; omega
        · have hkt' : k = t + 1 := by omega
          subst hkt'
          have O2 := Lib.hid (hi.congr fun i _ => cvt_done (gi f) (gi g) t i)
          clear hi ho2
          go_wp2_with fail
          go_roundw
          case rel => exact ⟨t + 1, by omega, by go_num, O2.out⟩
          case measure => simp [intOf]; omega
    · have hkn : t = n := by omega
      subst hkn
      have O := Lib.hid (ho.congr (v := cv (gi f) (gi g)) fun i hi => by rw [if_pos hi])
      clear hs ht ho hown
      go_wp2_with fail
      go_ret
      exact ⟨rfl, HZ.out ▸ O.out.sl, O.out.bel, HZ.out ▸ O.out.row⟩
theorem conv_any (A : Option Addr) (n c : Nat) (f : List Int) (M : Option Addr) (m d : Nat) (g : List Int) (W : World) (hs : Sl W W.heap.size A n (ints f)) (ht : Sl W W.heap.size M m (ints g)) (hn : n ≤ 9223372036854775807) (hm : m ≤ 9223372036854775807)
    (zs : List Int) (er : Int) (k : Nat) (h : of2 f g (fit (convL f g)) = (zs, er)) (hk : zs.length = k) :
    Calls Try.prog 49 #[.slice A n c, .slice M m d] W (RetSl W k zs er) := by
  by_cases hb : bothErr f g = 0
  · obtain ⟨cf, cg⟩ := both_isC hb
    have hl := hs.int_len
    have hl' := ht.int_len
    have hlg := cg.len
    obtain rfl : n = m := by omega
    rw [hl] at cf cg
    have hn61 := cf.top
    have h' : fit (tab n (cv (gi f) (gi g))) = (zs, er) := by rw [of2_ok cf cg] at h; rw [← hl]; exact h
    have HF := Lib.hid h'
    have CF := Lib.hid cf
    have CG := Lib.hid cg
    have HB := Lib.hid hb
    have HK := Lib.hid hk
    clear h h' cf cg hb hk hl hl' hlg
    go_enter Try.func49, Try.ntmps49
    go_wp2_with fail
    refine (both_any A n c f M n d g _ _ _ hs ht hn hn).mono ?_
    rintro e w' ⟨rfl, rfl⟩
    rw [HB.out]
    go_wp2_with fail
    refine (plain_any A n c f M n d g _ hs ht CF.out.pos CF.out.top rfl (small_C CF.out) (small_C CG.out) _ rfl).mono ?_
    rintro e w1 ⟨rfl, s1, b1, o1⟩
    clear hs ht
    go_wp2_with fail
    refine (fit_any (some ⟨W.heap.size, 0, none⟩) n n _ W w1 s1 b1 o1 (Nat.le_refl _) (by omega) _ _ _ HF.out HK.out).mono ?_
    rintro e w2 ⟨A2, c2, rfl, s2⟩
    have S2 := Lib.hid s2
    clear s2 s1 b1 o1
    go_wp2_with fail
    go_ret2
    exact ⟨A2, c2, rfl, S2.out⟩
  · have hne : (bothErr f g != 0) = true := by simpa using hb
    have HF := Lib.hid h
    have HK := Lib.hid hk
    have HB := Lib.hid hb
    clear h hk hb
    go_enter Try.func49, Try.ntmps49
    go_wp2_with fail
    refine (both_any A n c f M m d g _ _ _ hs ht hn hm).mono ?_
    rintro e w' ⟨rfl, rfl⟩
    clear hs ht
    go_wp2_with fail
    go_ret2
    exact RetSl.nil HF.out HK.out (if_neg HB.out) (Below.refl _ _)
end Go.Proofs.Ytpifknmoimlpoaa
