/- Packets, fair shares, turns: whatever comes in, the answer is the call's own. -/
import Derived.Test.YtpifknmoimlpoaaBucketR
import Derived.Test.YtpifknmoimlpoaaFairA
import Derived.Test.YtpifknmoimlpoaaTurnQ
set_option linter.unusedVariables false
namespace Go.Proofs.Ytpifknmoimlpoaa
open Go.RowKit
/-- An answer of bools. -/
def FrB (W : World) (e : Ending) (w' : World) : Prop := ∃ A k c bs er, e = .returned (.tuple #[.slice A k c, .int .i64 er]) ∧ w'.ownsRow W.heap.size 4 1 (.slice A k c) k (bools bs) ∧ k ≤ 1000 ∧ Below W.heap.size W w'
/-- An answer of numbers. -/
def FrI (W : World) (e : Ending) (w' : World) : Prop := ∃ A k c zs er, e = .returned (.tuple #[.slice A k c, .int .i64 er]) ∧ w'.ownsRow W.heap.size 3 1 (.slice A k c) k (ints zs) ∧ k ≤ 1000 ∧ Below W.heap.size W w'
/-- An answer of sends. -/
def FrS (W : World) (e : Ending) (w' : World) : Prop := ∃ A k c zs er, e = .returned (.tuple #[.slice A k c, .int .i64 er]) ∧ w'.ownsRow W.heap.size 33 2 (.slice A k c) k (ints zs) ∧ k ≤ 1000 ∧ Below W.heap.size W w'
section
variable (A : Option Addr) (n c : Nat) (zs : List Int) (W : World) (hs : Sl W W.heap.size A (n * 3) (ints zs)) (hnn : n ≤ 9223372036854775807)
include hs hnn
theorem fr_brun (R B F : Int) : Calls Try.prog 31 #[.agg #[.int .i64 R, .int .i64 B, .int .i64 F], .slice A n c] W (FrB W) := by
  by_cases hb : bktOk R B F
  · by_cases h0 : packErr zs n = 0
    · have ht := (packs_of h0).top
      refine (brun_oko R B F A n c zs W hs hnn hb h0).mono ?_
      rintro e w' ⟨A1, c1, rfl, _, _, hb, ho⟩
      exact ⟨A1, n, c1, _, _, rfl, ho, by omega, hb⟩
    · refine (brun_bado R B F A n c zs W hs hnn hb h0).mono ?_
      rintro e w' ⟨A1, c1, rfl, _, _, hb, ho⟩
      exact ⟨A1, 0, c1, _, _, rfl, ho, by omega, hb⟩
  · refine (brun_argo R B F A n c zs W hb).mono ?_
    rintro e w' ⟨A1, c1, rfl, _, _, hb, ho⟩
    exact ⟨A1, 0, c1, _, _, rfl, ho, by omega, hb⟩
theorem fr_fifo : Calls Try.prog 28 #[.slice A n c] W (FrI W) := by
  by_cases h0 : packErr zs n = 0
  · have ht := (packs_of h0).top
    refine (fifo_any A n c zs W hs hnn (fdone zs n) 0 n (if_pos h0) (by rw [fdone, tab_len])).mono ?_
    rintro e w' ⟨A1, c1, rfl, _, _, hb, ho⟩
    exact ⟨A1, n, c1, _, _, rfl, ho, by omega, hb⟩
  · refine (fifo_any A n c zs W hs hnn [] (packErr zs n) 0 (if_neg h0) rfl).mono ?_
    rintro e w' ⟨A1, c1, rfl, _, _, hb, ho⟩
    exact ⟨A1, 0, c1, _, _, rfl, ho, by omega, hb⟩
theorem fr_fair (Aw : Option Addr) (wn wc : Nat) (ws : List Int) (hw : Sl W W.heap.size Aw wn (ints ws)) (hwn : wn ≤ 9223372036854775807) : Calls Try.prog 32 #[.slice Aw wn wc, .slice A n c] W (FrI W) := by
  by_cases h0 : fchk ws zs wn n = 0
  · have ht := (packs_of (wok_of h0 hw.int_len).2.2).top
    refine (frun_own Aw wn wc ws A n c zs W hw hs h0).mono ?_
    rintro e w' ⟨A1, c1, os, rfl, _, _, _, hb, _, ho⟩
    exact ⟨A1, n, c1, _, _, rfl, ho, by omega, hb⟩
  · refine (frun_bad Aw wn wc ws A n c zs W hw hwn hs hnn _ rfl h0).mono ?_
    rintro e w' ⟨rfl, hb⟩
    exact ⟨none, 0, 0, [], _, rfl, World.ownsRow_nil _ _ _ _, by omega, hb⟩
end
theorem sents_ints (os : List (Nat × Nat)) : ∃ zs, sents os = ints zs := by
  induction os with
  | nil => exact ⟨[], rfl⟩
  | cons x r ih =>
    obtain ⟨zs, h⟩ := ih
    exact ⟨(x.1 : Int) :: (x.2 : Int) :: zs, by simp [sents, ints] at h ⊢; exact h⟩
theorem fr_turns (A : Option Addr) (n c : Nat) (q : Nat → Int) (hd : Nat → Option Addr × Nat × Nat) (ls : Nat → List Int) (W : World) (hs : FlS W W.heap.size A n q hd ls) (hnn : n ≤ 9223372036854775807) (hdb : ∀ i, i < n → (hd i).2.1 ≤ 9223372036854775807) :
    Calls Try.prog 13 #[.slice A n c] W (FrS W) := by
  by_cases h0 : tchk n q ls = 0
  · refine (run_ok A n c q hd ls W hs h0).mono ?_
    rintro e w' ⟨B, cb, os, rfl, oo, ho, hb⟩
    have hl : os.length ≤ 1000 := by
      rw [oo.len]
      obtain ⟨n8, qok⟩ := tchk_ok h0
      have := lenTo_le qok n (Nat.le_refl _)
      omega
    obtain ⟨zs, hz⟩ := sents_ints os
    rw [hz] at ho
    exact ⟨B, os.length, cb, _, _, rfl, ho, hl, hb⟩
  · refine (run_bad A n c q hd ls W hs hnn hdb _ rfl h0).mono ?_
    rintro e w' ⟨rfl, hb⟩
    exact ⟨none, 0, 0, [], _, rfl, World.ownsRow_nil _ _ _ _, by omega, hb⟩
end Go.Proofs.Ytpifknmoimlpoaa
