/- bound.Back, bound.Delay, trace.Fits on curves. -/
import Derived.Test.YtidmncoakockkaaCurveB
import Derived.Test.YtidmncoakockkaaCurveQ
import Derived.Test.YtidmncoakockkaaOwnT
set_option linter.unusedVariables false
namespace Go.Proofs.Ytidmncoakockkaa
open Go.RowKit
theorem below_q {W : World} (q : Nat) : Below W.heap.size W (W.drewN q) := ⟨rfl, rfl, rfl, Nat.le_refl _, fun _ _ => rfl⟩
theorem below_qq {W : World} (q r : Nat) : Below W.heap.size W ((W.drewN q).drewN r) := ⟨rfl, rfl, rfl, Nat.le_refl _, fun _ _ => rfl⟩
theorem first_fail (p : Nat → Prop) (n : Nat) : (∀ i, i < n → p i) ∨ ∃ k, k < n ∧ (∀ i, i < k → p i) ∧ ¬ p k := by
  induction n with
  | zero => exact .inl fun i hi => by omega
  | succ n ih =>
    rcases ih with h | ⟨k, h1, h2, h3⟩
    · by_cases hn : p n
      · refine .inl fun i hi => ?_
        rcases Nat.lt_or_ge i n with h' | h'
        · exact h i h'
        · obtain rfl : i = n := by omega
          exact hn
      · exact .inr ⟨n, by omega, h, hn⟩
    · exact .inr ⟨k, by omega, h2, h3⟩
theorem back_bd {n : Nat} {f g : List Int} (hf : IsC n f) (hg : IsC n g) {k : Nat} (hk : k ≤ n) : 0 ≤ top (fun i => gi f i - gi g i) k ∧ top (fun i => gi f i - gi g i) k ≤ 1000000 :=
  ⟨top_nonneg _ _, top_le (by omega) fun i hi => by have := hf.hi i (by omega); have := hg.lo i (by omega); omega⟩
set_option maxHeartbeats 1600000 in
theorem back_any (A : Option Addr) (n c : Nat) (f : List Int) (M : Option Addr) (m d : Nat) (g : List Int) (W : World) (hs : Sl W W.heap.size A n (ints f)) (ht : Sl W W.heap.size M m (ints g)) (hn : n ≤ 9223372036854775807) (hm : m ≤ 9223372036854775807)
    (cf : IsC n f) (cg : IsC n g) (hnm : n = m) (v er : Int) (h : (top (fun i => gi f i - gi g i) n, (0 : Int)) = (v, er)) :
    Calls Try.prog 21 #[.slice A n c, .slice M m d] W fun e w' => e = .returned (.tuple #[.int .i64 v, .int .i64 er]) ∧ Below W.heap.size W w' := by
  subst hnm
  injection h with h1 h2
  subst h2
  have HV := Lib.hid h1
  have HB := Lib.hid (cf.both cg)
  have CF := Lib.hid cf
  have CG := Lib.hid cg
  have hn61 := cf.top
  clear h1 cf cg
  go_enter Try.func21, Try.ntmps21
  go_wp2_with fail
  refine (both_any A n c f M n d g _ _ _ hs ht hn hn).mono ?_
  rintro e w' ⟨rfl, rfl⟩
  rw [HB.out]
  go_wp2_with fail
  go_loopw [17, 7, 8] (fun i o _ wr => ∃ k : Nat, k ≤ n ∧ i = .int .i64 k ∧ o = .int .i64 (top (fun i => gi f i - gi g i) k) ∧ ∃ q, wr = W.drewN q) (fun i _ _ _ => n - (intOf i).toNat)
  case atStart => exact ⟨0, Nat.zero_le _, rfl, rfl, 0, rfl⟩
  case round =>
    obtain ⟨k, hk, rfl, rfl, q, rfl⟩ := hrel
    have hsu := top_succ (fun i => gi f i - gi g i) k
    have bb := back_bd CF.out CG.out hk
    by_cases hlt : k < n
    · obtain ⟨b1, o1, rfl, q1, hc1⟩ := hs.int_at hlt
      obtain ⟨b2, o2, rfl, q2, hc2⟩ := ht.int_at hlt
      have hn1 : (k : Int) < n := by omega
      have hk0 : (0 : Int) ≤ k := by omega
      have a1 := CF.out.lo k hlt
      have a2 := CF.out.hi k hlt
      have a3 := CG.out.lo k hlt
      have a4 := CG.out.hi k hlt
      obtain ⟨cur, hcur⟩ : ∃ z, top (fun i => gi f i - gi g i) k = z := ⟨_, rfl⟩
      rw [hcur] at bb hsu ⊢
      obtain ⟨nv, hnv⟩ : ∃ z, (if cur < gi f k - gi g k then gi f k - gi g k else cur) = z := ⟨_, rfl⟩
      have HS : Hid (top (fun i => gi f i - gi g i) (k + 1) = nv) := by show _ = _; rw [hsu, ← hnv]; rfl
      have f1 : IntKind.i64.wrap (gi f k - gi g k) = gi f k - gi g k := IntWalk.i64_in _ ⟨by omega, by omega⟩
      clear hsu hcur hs ht
      go_wp2_with fail
      go_quiet (fail)
      go_wp2_with fail
      go_roundw
      case rel => exact ⟨k + 1, by omega, by go_num, by rw [HS.out], _, rfl⟩
      case measure => simp [intOf]; omega
    · have hkn : k = n := by omega
      subst hkn
      clear hs ht hsu
      obtain ⟨cur, hcur⟩ : ∃ z, top (fun i => gi f i - gi g i) k = z := ⟨_, rfl⟩
      have HC := Lib.hid hcur
      rw [hcur] at bb ⊢
      clear hcur
      go_wp2_with fail
      go_ret2
      exact ⟨by rw [← HV.out, HC.out]; rfl, below_q _⟩
/-- What comes between two times is at most the limit there. -/
def fitP (n : Nat) (f l : Nat → Int) : Prop := ∀ t, t < n → ∀ s, s ≤ t → f t - f s ≤ l (t - s)
instance (n : Nat) (f l : Nat → Int) : Decidable (fitP n f l) := by
  have : Decidable (∀ t, t < n → ∀ s, s < t + 1 → f t - f s ≤ l (t - s)) := inferInstance
  exact decidable_of_iff (∀ t, t < n → ∀ s, s < t + 1 → f t - f s ≤ l (t - s)) ⟨fun h t ht s hs => h t ht s (by omega), fun h t ht s hs => h t ht s (by omega)⟩
def fitB (n : Nat) (f l : List Int) : Bool := decide (fitP n (gi f) (gi l))
set_option maxHeartbeats 1600000 in
theorem fits_any (A : Option Addr) (n c : Nat) (f : List Int) (M : Option Addr) (m d : Nat) (g : List Int) (W : World) (hs : Sl W W.heap.size A n (ints f)) (ht : Sl W W.heap.size M m (ints g)) (hn : n ≤ 9223372036854775807) (hm : m ≤ 9223372036854775807)
    (cf : IsC n f) (cg : IsC n g) (hnm : n = m) (v : Bool) (er : Int) (h : (fitB n f g, (0 : Int)) = (v, er)) :
    Calls Try.prog 26 #[.slice A n c, .slice M m d] W fun e w' => e = .returned (.tuple #[.bool v, .int .i64 er]) ∧ Below W.heap.size W w' := by
  subst hnm
  injection h with h1 h2
  subst h1 h2
  have HB := Lib.hid (cf.both cg)
  have CF := Lib.hid cf
  have hn61 := cf.top
  clear cf cg
  rcases first_fail (fun t => ∀ s, s ≤ t → gi f t - gi f s ≤ gi g (t - s)) n with h | ⟨j, hj, j1, j2⟩
  · have e1 : Hid (fitB n f g = true) := decide_eq_true h
    have H := Lib.hid h
    clear h
    go_enter Try.func26, Try.ntmps26
    go_wp2_with fail
    refine (both_any A n c f M n d g _ _ _ hs ht hn hn).mono ?_
    rintro e w' ⟨rfl, rfl⟩
    rw [HB.out]
    go_wp2_with fail
    go_loopw [17, 7, 8, 22] (fun i _ _ _ wr => ∃ k : Nat, k ≤ n ∧ i = .int .i64 k ∧ ∃ q, wr = W.drewN q) (fun i _ _ _ _ => n - (intOf i).toNat)
    case atStart => exact ⟨0, Nat.zero_le _, rfl, 0, rfl⟩
    case round =>
      obtain ⟨t, htn, rfl, q, rfl⟩ := hrel
      have hk0 : (0 : Int) ≤ t := by omega
      by_cases hlt : t < n
      · have hn1 : (t : Int) < n := by omega
        go_wp2_with fail
        go_loopw [22, 8] (fun i _ wr => ∃ k : Nat, k ≤ t + 1 ∧ i = .int .i64 k ∧ ∃ q, wr = W.drewN q) (fun i _ _ => t + 1 - (intOf i).toNat)
        case atStart => exact ⟨0, Nat.zero_le _, rfl, q, rfl⟩
        case round =>
          obtain ⟨s, hsn, rfl, q, rfl⟩ := hrel
          by_cases hst : s < t + 1
          · have hm1 : (s : Int) < (t : Int) + 1 := by omega
            have hm0 : (0 : Int) ≤ s := by omega
            have hm2 : (s : Int) < n := by omega
            have hm3 : (t : Int) - s < n := by omega
            have hm4 : 0 ≤ (t : Int) - s := by omega
            have hm5 : (s : Int) ≤ t := by omega
            have hm6 : s ≤ t := by omega
            obtain ⟨b1, o1, rfl, q1, hc1⟩ := hs.int_at (k := t) hlt
            have hc2 := hs.int_cell (k := s) (by omega)
            obtain ⟨b3, o3, rfl, q3, hc3⟩ := ht.int_at (k := t - s) (by omega)
            have a1 := CF.out.lo t hlt
            have a2 := CF.out.hi t hlt
            have a3 := CF.out.lo s (by omega)
            have a4 := CF.out.hi s (by omega)
            have f1 : IntKind.i64.wrap (gi f t - gi f s) = gi f t - gi f s := IntWalk.i64_in _ ⟨by omega, by omega⟩
            have f2 : IntKind.i64.wrap ((t : Int) - s) = (t : Int) - s := IntWalk.i64_in _ ⟨by omega, by omega⟩
            have f3 : ((t : Int) - s).toNat = t - s := by omega
            have t1 : decide (gi g (t - s) < gi f t - gi f s) = false := by have := H.out t hlt s hm6; simp; omega
            clear hs ht
            go_wp2_with fail
            go_quiet (fail)
            go_wp2_with fail
            go_roundw
            case rel => exact ⟨s + 1, by omega, by go_num, _, rfl⟩
            case measure => simp [intOf]; omega
          · have hse : s = t + 1 := by omega
            subst hse
            clear hs ht
            go_wp2_with fail
            go_roundw
            case rel => exact ⟨t + 1, by omega, by go_num, _, rfl⟩
            case measure => simp [intOf]; omega
      · have htn' : t = n := by omega
        subst htn'
        clear hs ht
        go_wp2_with fail
        go_ret2
        exact ⟨by rw [e1.out]; rfl, below_q _⟩
  · have e1 : Hid (fitB n f g = false) := decide_eq_false fun h => j2 (h j hj)
    rcases first_fail (fun s => gi f j - gi f s ≤ gi g (j - s)) (j + 1) with h | ⟨r, hr, r1, r2⟩
    · exact absurd (fun s hs => h s (by omega)) j2
    have H := Lib.hid j1
    have R1 := Lib.hid r1
    have R2 : Hid (gi g (j - r) < gi f j - gi f r) := by show gi g (j - r) < gi f j - gi f r; omega
    clear j1 j2 r1 r2
    go_enter Try.func26, Try.ntmps26
    go_wp2_with fail
    refine (both_any A n c f M n d g _ _ _ hs ht hn hn).mono ?_
    rintro e w' ⟨rfl, rfl⟩
    rw [HB.out]
    go_wp2_with fail
    go_loopw [17, 7, 8, 22] (fun i _ _ _ wr => ∃ k : Nat, k ≤ j ∧ i = .int .i64 k ∧ ∃ q, wr = W.drewN q) (fun i _ _ _ _ => j - (intOf i).toNat)
    case atStart => exact ⟨0, Nat.zero_le _, rfl, 0, rfl⟩
    case round =>
      obtain ⟨t, htn, rfl, q, rfl⟩ := hrel
      have hk0 : (0 : Int) ≤ t := by omega
      have hn1 : (t : Int) < n := by omega
      go_wp2_with fail
      go_loopw [22, 8] (fun i _ wr => ∃ k : Nat, (k ≤ t + 1 ∧ (t = j → k ≤ r)) ∧ i = .int .i64 k ∧ ∃ q, wr = W.drewN q) (fun i _ _ => t + 1 - (intOf i).toNat)
      case atStart => exact ⟨0, ⟨Nat.zero_le _, fun _ => Nat.zero_le _⟩, rfl, q, rfl⟩
      case round =>
        obtain ⟨s, ⟨hsn, hsr⟩, rfl, q, rfl⟩ := hrel
        by_cases hst : s < t + 1
        · have hm1 : (s : Int) < (t : Int) + 1 := by omega
          have hm0 : (0 : Int) ≤ s := by omega
          have hm2 : (s : Int) < n := by omega
          have hm3 : (t : Int) - s < n := by omega
          have hm4 : 0 ≤ (t : Int) - s := by omega
          have hm5 : (s : Int) ≤ t := by omega
          have hm6 : s ≤ t := by omega
          obtain ⟨b1, o1, rfl, q1, hc1⟩ := hs.int_at (k := t) (by omega)
          have hc2 := hs.int_cell (k := s) (by omega)
          obtain ⟨b3, o3, rfl, q3, hc3⟩ := ht.int_at (k := t - s) (by omega)
          have a1 := CF.out.lo t (by omega)
          have a2 := CF.out.hi t (by omega)
          have a3 := CF.out.lo s (by omega)
          have a4 := CF.out.hi s (by omega)
          have f1 : IntKind.i64.wrap (gi f t - gi f s) = gi f t - gi f s := IntWalk.i64_in _ ⟨by omega, by omega⟩
          have f2 : IntKind.i64.wrap ((t : Int) - s) = (t : Int) - s := IntWalk.i64_in _ ⟨by omega, by omega⟩
          have f3 : ((t : Int) - s).toNat = t - s := by omega
          by_cases hend : t = j ∧ s = r
          · obtain ⟨rfl, rfl⟩ := hend
            have t1 : decide (gi g (t - s) < gi f t - gi f s) = true := by have := R2.out; simp; omega
            clear hs ht hsr
            go_wp2_with fail
            go_quiet (fail)
            go_wp2_with fail
            go_ret2
            exact ⟨by rw [e1.out]; rfl, below_qq _ _⟩
          · have t1 : decide (gi g (t - s) < gi f t - gi f s) = false := by
              by_cases htj : t = j
              · subst htj
                have := R1.out s (by have := hsr rfl; omega)
                simp; omega
              · have := H.out t (by omega) s hm6
                simp; omega
            have hsr' : t = j → s + 1 ≤ r := fun h => by have := hsr h; omega
            have HSR := Lib.hid hsr'
            clear hs ht hsr hsr' hend
            go_wp2_with fail
            go_quiet (fail)
            go_wp2_with fail
            go_roundw
            case rel => exact ⟨s + 1, ⟨by omega, HSR.out⟩, by go_num, _, rfl⟩
            case measure => simp [intOf]; omega
        · have hse : s = t + 1 := by omega
          subst hse
          have htj : t < j := by
            rcases Nat.lt_or_ge t j with h | h
            · exact h
            · have := hsr (by omega); omega
          clear hs ht hsr
          go_wp2_with fail
          go_roundw
          case rel => exact ⟨t + 1, by omega, by go_num, _, rfl⟩
          case measure => simp [intOf]; omega
end Go.Proofs.Ytidmncoakockkaa
