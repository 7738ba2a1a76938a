/- closure.Is. -/
import Derived.Test.YtgeeomhceplemaaBoundA
set_option linter.unusedVariables false
namespace Go.Proofs.Ytgeeomhceplemaa
open Go.RowKit
/-- It holds in pieces, and is nothing at 0. -/
def subP (n : Nat) (f : Nat → Int) : Prop := ∀ t, t < n → ∀ s, s ≤ t → f t ≤ f s + f (t - s)
instance (n : Nat) (f : Nat → Int) : Decidable (subP n f) :=
  decidable_of_iff (∀ t, t < n → ∀ s, s < t + 1 → f t ≤ f s + f (t - s)) ⟨fun h t ht s hs => h t ht s (by omega), fun h t ht s hs => h t ht s (by omega)⟩
def subB (n : Nat) (f : List Int) : Bool := decide (subP n (gi f)) && (gi f 0 == 0)
theorem subB_yes {n : Nat} {f : List Int} (h : subP n (gi f)) : subB n f = (gi f 0 == 0) := by unfold subB; rw [decide_eq_true h, Bool.true_and]
theorem subB_no {n : Nat} {f : List Int} (h : ¬ subP n (gi f)) : subB n f = false := by unfold subB; rw [decide_eq_false h, Bool.false_and]
theorem subB_iff {n : Nat} {f : List Int} : subB n f = true ↔ subP n (gi f) ∧ gi f 0 = 0 := by unfold subB; rw [Bool.and_eq_true, decide_eq_true_iff, beq_iff_eq]
set_option maxHeartbeats 1600000 in
theorem cis_any (A : Option Addr) (n c : Nat) (f : List Int) (W : World) (hs : Sl W W.heap.size A n (ints f)) (hn : n ≤ 9223372036854775807)
    (cf : IsC n f) (v : Bool) (er : Int) (h : (subB n f, (0 : Int)) = (v, er)) :
    Calls Try.prog 18 #[.slice A n c] W fun e w' => e = .returned (.tuple #[.bool v, .int .i64 er]) ∧ Below W.heap.size W w' := by
  injection h with h1 h2
  subst h1 h2
  have HB := Lib.hid cf.err
  have CF := Lib.hid cf
  have hn61 := cf.top
  have hp := cf.pos
  clear cf
  rcases first_fail (fun t => ∀ s, s ≤ t → gi f t ≤ gi f s + gi f (t - s)) n with h | ⟨j, hj, j1, j2⟩
  · have e1 : Hid (subB n f = (gi f 0 == 0)) := subB_yes h
    have H := Lib.hid h
    clear h
    go_enter Try.func18, Try.ntmps18
    go_wp2_with fail
    refine (ccheck_any A n c f _ _ hs hn).mono ?_
    rintro e w' ⟨rfl, rfl⟩
    rw [HB.out]
    go_wp2_with fail
    go_loopw [14, 5, 6, 19] (fun i _ _ _ wr => ∃ k : Nat, k ≤ n ∧ i = .int .i64 k ∧ ∃ q, wr = W.drewN q) (fun i _ _ _ _ => n - (intOf i).toNat)
    case atStart => exact ⟨0, Nat.zero_le _, rfl, 0, rfl⟩
    case round =>
      obtain ⟨t, htn, rfl, q, rfl⟩ := hrel
      have hk0 : (0 : Int) ≤ t := by omega
      by_cases hlt : t < n
      · have hn1 : (t : Int) < n := by omega
        go_wp2_with fail
        go_loopw [19, 6] (fun i _ wr => ∃ k : Nat, k ≤ t + 1 ∧ i = .int .i64 k ∧ ∃ q, wr = W.drewN q) (fun i _ _ => t + 1 - (intOf i).toNat)
        case atStart => exact ⟨0, Nat.zero_le _, rfl, q, rfl⟩
        case round =>
          obtain ⟨s, hsn, rfl, q, rfl⟩ := hrel
          by_cases hst : s < t + 1
          · have hm1 : (s : Int) < (t : Int) + 1 := by omega
            have hm0 : (0 : Int) ≤ s := by omega
            have hm2 : (s : Int) < n := by omega
            have hm3 : (t : Int) - s < n := by omega
            have hm4 : 0 ≤ (t : Int) - s := by omega
            have hm5 : (s : Int) ≤ t := by omega
            have hm6 : s ≤ t := by omega
            obtain ⟨b1, o1, rfl, q1, hc1⟩ := hs.int_at (k := t) hlt
            have hc2 := hs.int_cell (k := s) (by omega)
            have hc3 := hs.int_cell (k := t - s) (by omega)
            have a1 := CF.out.lo (t - s) (by omega)
            have a2 := CF.out.hi (t - s) (by omega)
            have a3 := CF.out.lo s (by omega)
            have a4 := CF.out.hi s (by omega)
            have f1 : IntKind.i64.wrap (gi f s + gi f (t - s)) = gi f s + gi f (t - s) := IntWalk.i64_in _ ⟨by omega, by omega⟩
            have f2 : IntKind.i64.wrap ((t : Int) - s) = (t : Int) - s := IntWalk.i64_in _ ⟨by omega, by omega⟩
            have f3 : ((t : Int) - s).toNat = t - s := by omega
            have t1 : decide (gi f s + gi f (t - s) < gi f t) = false := by have := H.out t hlt s hm6; simp; omega
            clear hs
            go_wp2_with fail
            go_quiet (fail)
            go_wp2_with fail
            go_roundw
            case rel => exact ⟨s + 1, by omega, by go_num, _, rfl⟩
            case measure => simp [intOf]; omega
          · have hse : s = t + 1 := by omega
            subst hse
            clear hs
            go_wp2_with fail
            go_roundw
            case rel => exact ⟨t + 1, by omega, by go_num, _, rfl⟩
            case measure => simp [intOf]; omega
      · have htn' : t = n := by omega
        subst htn'
        obtain ⟨b1, o1, rfl, q1, hc1⟩ := hs.int_at hp
        rw [Nat.add_zero] at hc1
        have hpI : (0 : Int) < t := by omega
        clear hs
        go_wp2_with fail
        go_ret2
        exact ⟨by rw [e1.out]; rfl, below_q _⟩
  · have e1 : Hid (subB n f = false) := subB_no fun h => j2 (h j hj)
    rcases first_fail (fun s => gi f j ≤ gi f s + gi f (j - s)) (j + 1) with h | ⟨r, hr, r1, r2⟩
    · exact absurd (fun s hs => h s (by omega)) j2
    have H := Lib.hid j1
    have R1 := Lib.hid r1
    have R2 : Hid (gi f r + gi f (j - r) < gi f j) := by show gi f r + gi f (j - r) < gi f j; omega
    clear j1 j2 r1 r2
    go_enter Try.func18, Try.ntmps18
    go_wp2_with fail
    refine (ccheck_any A n c f _ _ hs hn).mono ?_
    rintro e w' ⟨rfl, rfl⟩
    rw [HB.out]
    go_wp2_with fail
    go_loopw [14, 5, 6, 19] (fun i _ _ _ wr => ∃ k : Nat, k ≤ j ∧ i = .int .i64 k ∧ ∃ q, wr = W.drewN q) (fun i _ _ _ _ => j - (intOf i).toNat)
    case atStart => exact ⟨0, Nat.zero_le _, rfl, 0, rfl⟩
    case round =>
      obtain ⟨t, htn, rfl, q, rfl⟩ := hrel
      have hk0 : (0 : Int) ≤ t := by omega
      have hn1 : (t : Int) < n := by omega
      go_wp2_with fail
      go_loopw [19, 6] (fun i _ wr => ∃ k : Nat, (k ≤ t + 1 ∧ (t = j → k ≤ r)) ∧ i = .int .i64 k ∧ ∃ q, wr = W.drewN q) (fun i _ _ => t + 1 - (intOf i).toNat)
      case atStart => exact ⟨0, ⟨Nat.zero_le _, fun _ => Nat.zero_le _⟩, rfl, q, rfl⟩
      case round =>
        obtain ⟨s, ⟨hsn, hsr⟩, rfl, q, rfl⟩ := hrel
        by_cases hst : s < t + 1
        · have hm1 : (s : Int) < (t : Int) + 1 := by omega
          have hm0 : (0 : Int) ≤ s := by omega
          have hm2 : (s : Int) < n := by omega
          have hm3 : (t : Int) - s < n := by omega
          have hm4 : 0 ≤ (t : Int) - s := by omega
          have hm5 : (s : Int) ≤ t := by omega
          have hm6 : s ≤ t := by omega
          obtain ⟨b1, o1, rfl, q1, hc1⟩ := hs.int_at (k := t) (by omega)
          have hc2 := hs.int_cell (k := s) (by omega)
          have hc3 := hs.int_cell (k := t - s) (by omega)
          have a1 := CF.out.lo (t - s) (by omega)
          have a2 := CF.out.hi (t - s) (by omega)
          have a3 := CF.out.lo s (by omega)
          have a4 := CF.out.hi s (by omega)
          have f1 : IntKind.i64.wrap (gi f s + gi f (t - s)) = gi f s + gi f (t - s) := IntWalk.i64_in _ ⟨by omega, by omega⟩
          have f2 : IntKind.i64.wrap ((t : Int) - s) = (t : Int) - s := IntWalk.i64_in _ ⟨by omega, by omega⟩
          have f3 : ((t : Int) - s).toNat = t - s := by omega
          by_cases hend : t = j ∧ s = r
          · obtain ⟨rfl, rfl⟩ := hend
            have t1 : decide (gi f s + gi f (t - s) < gi f t) = true := by have := R2.out; simp; omega
            clear hs hsr
            go_wp2_with fail
            go_quiet (fail)
            go_wp2_with fail
            go_ret2
            exact ⟨by rw [e1.out]; rfl, below_qq _ _⟩
          · have t1 : decide (gi f s + gi f (t - s) < gi f t) = false := by
              by_cases htj : t = j
              · subst htj
                have := R1.out s (by have := hsr rfl; omega)
                simp; omega
              · have := H.out t (by omega) s hm6
                simp; omega
            have hsr' : t = j → s + 1 ≤ r := fun h => by have := hsr h; omega
            have HSR := Lib.hid hsr'
            clear hs hsr hsr' hend
            go_wp2_with fail
            go_quiet (fail)
            go_wp2_with fail
            go_roundw
            case rel => exact ⟨s + 1, ⟨by omega, HSR.out⟩, by go_num, _, rfl⟩
            case measure => simp [intOf]; omega
        · have hse : s = t + 1 := by omega
          subst hse
          have htj : t < j := by
            rcases Nat.lt_or_ge t j with h | h
            · exact h
            · have := hsr (by omega); omega
          clear hs hsr
          go_wp2_with fail
          go_roundw
          case rel => exact ⟨t + 1, by omega, by go_num, _, rfl⟩
          case measure => simp [intOf]; omega
end Go.Proofs.Ytgeeomhceplemaa
