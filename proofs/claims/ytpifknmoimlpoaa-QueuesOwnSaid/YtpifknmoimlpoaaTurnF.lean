/- headkeep.flow, and lists of flows that a law lays. -/
import Derived.Test.YtpifknmoimlpoaaTurnB
import Derived.Test.YtpifknmoimlpoaaKit0
import Derived.Test.YtpifknmoimlpoaaMaxMin
set_option linter.unusedVariables false
namespace Go.Proofs.Ytpifknmoimlpoaa
open Go.RowKit
theorem flow_any (q : Int) (S : Option Addr) (n c : Nat) (W : World) :
    Calls Try.prog 14 #[.int .i64 q, .slice S n c] W fun e w' => e = .returned (.agg #[.int .i64 q, .slice S n c]) ∧ w' = W.alloc (.cells #[.int .i64 q, .slice S n c] 29) := by
  go_enter Try.func14, Try.ntmps14
  go_wp2_with fail
  refine bodyPost_ret (results_cell_row rfl _ _ W.heap.size 29 #[.int .i64 q, .slice S n c] (0, 0) _ rfl (heap_alloc_new W _) Try.underlying29 rfl (by kernel_rfl)) rfl ⟨rfl, rfl⟩
/-- The greatest of a list. -/
def isMax (l : List Int) (v : Int) : Prop := (∃ j, j < l.length ∧ gi l j = v) ∧ ∀ j, j < l.length → gi l j ≤ v
theorem isMax_ex : ∀ {l : List Int}, 0 < l.length → ∃ v, isMax l v := by
  intro l h
  have key : ∀ n, 0 < n → n ≤ l.length → ∃ v, (∃ j, j < n ∧ gi l j = v) ∧ ∀ j, j < n → gi l j ≤ v := by
    intro n
    induction n with
    | zero => intro h; omega
    | succ n ih =>
      intro _ hn
      rcases Nat.eq_zero_or_pos n with h0 | h0
      · subst h0
        exact ⟨gi l 0, ⟨0, by omega, rfl⟩, fun j hj => by rw [show j = 0 by omega]; exact Int.le_refl _⟩
      · obtain ⟨v, ⟨j, hj, e⟩, ha⟩ := ih h0 (by omega)
        rcases (show v < gi l n ∨ gi l n ≤ v by omega) with h1 | h1
        · refine ⟨gi l n, ⟨n, by omega, rfl⟩, fun k hk => ?_⟩
          rcases Nat.lt_or_ge k n with h2 | h2
          · have := ha k h2; omega
          · rw [show k = n by omega]; exact Int.le_refl _
        · refine ⟨v, ⟨j, by omega, e⟩, fun k hk => ?_⟩
          rcases Nat.lt_or_ge k n with h2 | h2
          · exact ha k h2
          · rw [show k = n by omega]; omega
  exact key l.length h (Nat.le_refl _)
theorem smax_t (A : Option Addr) (n c B : Nat) (l : List Int) (W : World) (hs : Sl W B A n (ints l)) (hn : n ≤ 9223372036854775807) (hp : 0 < n) (v : Int) (hv : isMax l v) :
    Calls Try.prog 20 #[.slice A n c] W fun e w' => e = .returned (.int .i64 v) ∧ w' = W := by
  refine (smaxP A n c B l W hs hn hp).mono ?_
  rintro e w' ⟨⟨v', rfl, ⟨j, hj, e⟩, ha⟩, rfl⟩
  have hl := hs.int_len
  obtain ⟨⟨k, hk, e2⟩, hb⟩ := hv
  have h1 := ha k (by omega)
  have h2 := hb j (by omega)
  have : v' = v := by omega
  rw [this]
  exact ⟨rfl, rfl⟩
/-- One flow that a law lays. -/
theorem FlS.one (q : Int) (zs : List Int) (W1 : World) (g : Nat) (hg : g < W1.heap.size) (hz : Sl W1 W1.heap.size (some ⟨g, 0, none⟩) zs.length (ints zs)) (c g1 : Nat) (hg1 : g1 = W1.heap.size) :
    FlS (W1.alloc (.cells #[.int .i64 q, .slice (some ⟨g, 0, none⟩) zs.length c] 29)) (W1.alloc (.cells #[.int .i64 q, .slice (some ⟨g, 0, none⟩) zs.length c] 29)).heap.size (some ⟨g1, 0, none⟩) 1 (fun _ => q) (fun _ => (some ⟨g, 0, none⟩, zs.length, c)) (fun _ => zs) := by
  refine ⟨?_, fun i _ => slMore hz _⟩
  have := Sl.built_ W1 (flv (fun _ => q) (fun _ => (some ⟨g, 0, none⟩, zs.length, c)) 1) 29 g1 hg1 (flv_len _ _ _)
  exact this
theorem FlS.two (q q' : Int) (zs zs' : List Int) (W1 : World) (g g' : Nat) (hz : Sl W1 W1.heap.size (some ⟨g, 0, none⟩) zs.length (ints zs)) (hz' : Sl W1 W1.heap.size (some ⟨g', 0, none⟩) zs'.length (ints zs')) (c c' g1 : Nat) (hg1 : g1 = W1.heap.size) :
    FlS (W1.alloc (.cells #[.int .i64 q, .slice (some ⟨g, 0, none⟩) zs.length c, .int .i64 q', .slice (some ⟨g', 0, none⟩) zs'.length c'] 29)) (W1.alloc (.cells #[.int .i64 q, .slice (some ⟨g, 0, none⟩) zs.length c, .int .i64 q', .slice (some ⟨g', 0, none⟩) zs'.length c'] 29)).heap.size (some ⟨g1, 0, none⟩) 2
      (fun i => if i = 0 then q else q') (fun i => if i = 0 then (some ⟨g, 0, none⟩, zs.length, c) else (some ⟨g', 0, none⟩, zs'.length, c')) (fun i => if i = 0 then zs else zs') := by
  refine ⟨?_, fun i _ => ?_⟩
  · have := Sl.built_ W1 (flv (fun i => if i = 0 then q else q') (fun i => if i = 0 then (some ⟨g, 0, none⟩, zs.length, c) else (some ⟨g', 0, none⟩, zs'.length, c')) 2) 29 g1 hg1 (flv_len _ _ _)
    exact this
  · by_cases h : i = 0
    · simp only [if_pos h]; exact slMore hz _
    · simp only [if_neg h]; exact slMore hz' _
theorem after_i (A : Option Addr) (n c : Nat) (q : Nat → Int) (hd : Nat → Option Addr × Nat × Nat) (ls : Nat → List Int) (r : Nat) (W : World) (hs : FlS W W.heap.size A n q hd ls) (hck : tchk n q ls = 0) (hr : r ≤ 1000) (ri : Int) (hri : ri = r) :
    Calls Try.prog 17 #[.slice A n c, .int .i64 ri] W fun e w' => ∃ B cb, e = .returned (.tuple #[.slice B n cb, .int .i64 0]) ∧ Sl w' w'.heap.size B n (ints (tab n fun i => tpre (ls i) (tst (q i) (ls i) r).1)) ∧ Below W.heap.size W w' ∧ n ≤ cb := by
  subst hri
  exact after_ok A n c q hd ls r W hs hck hr
theorem qok_of {q : Int} {l : List Int} (h : 1 ≤ q ∧ q ≤ 1000 ∧ l.length ≤ 60 ∧ szOk l = true) : QOk q l := ⟨h.1, h.2.1, h.2.2.1, fun i hi => (szOk_iff.1 h.2.2.2 i hi).1, fun i hi => (szOk_iff.1 h.2.2.2 i hi).2⟩
theorem tst_lit1 : (tab 1 fun i => tpre ((fun _ => [1000]) i) (tst ((fun _ => 1) i) ((fun _ => [1000]) i) 1000).1) = [1000] := by
  have ok : QOk 1 [1000] := qok_of (by decide)
  have t := tst_ok ok 1000
  have e : (tst 1 [1000] 1000).1 = 1 := by
    rcases Nat.lt_or_ge (tst 1 [1000] 1000).1 1 with h | h
    · have h0 : (tst 1 [1000] 1000).1 = 0 := by omega
      obtain ⟨g1, g2⟩ := t.go h
      rw [h0] at g1 g2
      have g1' : (tst 1 [1000] 1000).2 < 1000 := g1
      have g2' : (0 : Int) + (tst 1 [1000] 1000).2 = ((1000 : Nat) : Int) * 1 := g2
      omega
    · have := t.le
      have : (tst 1 [1000] 1000).1 ≤ 1 := this
      omega
  show [tpre [1000] (tst 1 [1000] 1000).1] = [1000]
  rw [e]
  rfl
end Go.Proofs.Ytpifknmoimlpoaa
