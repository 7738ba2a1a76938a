/- BucketParts: ticks add up, tokens can be taken in parts, and the fill never exceeds the burst. -/
import Derived.Test.YtopldjklmjkcmaaBucketA
import Derived.Test.YtopldjklmjkcmaaWithin
set_option linter.unusedVariables false
namespace Go.Proofs.Ytopldjklmjkcmaa
open Go.RowKit
theorem tick_ex (W : World) : Calls Try.prog 28 #[.agg #[.int .i64 2, .int .i64 5, .int .i64 2], .int .i64 2] W fun e w' =>
      e = .returned (.tuple #[.agg #[.int .i64 2, .int .i64 5, .int .i64 5], .int .i64 0]) ∧ Below W.heap.size W w' :=
  tick_ok 2 5 2 2 W (by unfold bktOk; decide) (by decide) (by decide)
theorem take_ex (W : World) : Calls Try.prog 29 #[.agg #[.int .i64 0, .int .i64 5, .int .i64 2], .int .i64 2] W fun e w' =>
      e = .returned (.tuple #[.agg #[.int .i64 0, .int .i64 5, .int .i64 0], .int .i64 0]) ∧ Below W.heap.size W w' :=
  take_ok 0 5 2 2 W (by unfold bktOk; decide) (by decide) (by decide)
/-- Block g holds a bucket. -/
def B3 (w : World) (g : Nat) (a b c : Int) : Prop := w.cell? ⟨g, 0, none⟩ = some (.int .i64 a) ∧ w.cell? ⟨g, 1, none⟩ = some (.int .i64 b) ∧ w.cell? ⟨g, 2, none⟩ = some (.int .i64 c) ∧ g < w.heap.size
theorem B3.new (w : World) (a b c : Int) (t : TypeId) : B3 (w.alloc (.cells #[.int .i64 a, .int .i64 b, .int .i64 c] t)) w.heap.size a b c := by
  refine ⟨?_, ?_, ?_, by simp⟩ <;> rw [World.cell?_alloc_at _ _ _ _ rfl] <;> rfl
theorem B3.alloc {w : World} {g : Nat} {a b c : Int} (h : B3 w g a b c) (o : Obj) : B3 (w.alloc o) g a b c := by
  obtain ⟨h1, h2, h3, h4⟩ := h
  refine ⟨?_, ?_, ?_, by simp; omega⟩ <;> rw [World.cell?_alloc_lt w o _ h4] <;> assumption
theorem B3.below {w w' : World} {g : Nat} {a b c : Int} (h : B3 w g a b c) (hb : Below w.heap.size w w') : B3 w' g a b c := by
  obtain ⟨h1, h2, h3, h4⟩ := h
  have := hb.size
  refine ⟨?_, ?_, ?_, by omega⟩ <;> rw [hb.cell (by exact h4)] <;> assumption
theorem bel_next {W w w' : World} (o : Obj) (h : Below W.heap.size W w) (hb : Below (w.alloc o).heap.size (w.alloc o) w') : Below W.heap.size W w' :=
  (below_alloc h o).trans (hb.mono (below_alloc h o).size)
set_option maxRecDepth 100000 in
set_option maxHeartbeats 3200000 in
theorem bucketParts_walk (R B F m n : Int) (W : World) (_ : -9223372036854775808 ≤ m ∧ m ≤ 9223372036854775807) (_ : -9223372036854775808 ≤ n ∧ n ≤ 9223372036854775807) :
    Calls Try.prog 14 #[.agg #[.int .i64 R, .int .i64 B, .int .i64 F], .int .i64 m, .int .i64 n] W fun e w' => e = .returned (.bool true) ∧ Below W.heap.size W w' := by
  go_enter Try.func14, Try.ntmps14
  go_wp2_with fail
  refine (tick_ex _).mono ?_
  rintro e w1 ⟨rfl, hb1⟩
  have p1 := (B3.new W R B F 47).below hb1
  have W1 : Below W.heap.size W w1 := bel_next _ (Below.refl _ W) hb1
  clear hb1
  go_wp2_with fail
  refine (take_ex _).mono ?_
  rintro e w2 ⟨rfl, hb2⟩
  have p2 := (p1.alloc _).below hb2
  have W2 : Below W.heap.size W w2 := bel_next _ W1 hb2
  have s2 := W2.size
  obtain ⟨q1, q2, q3, q4⟩ := p2
  have p2 := Lib.hid (show B3 w2 W.heap.size R B F from ⟨q1, q2, q3, q4⟩)
  clear hb2 p1 W1
  go_wp2_with fail
  by_cases hok : bktOk R B F
  · refine (bcheck_ok R B F _ hok).mono ?_
    rintro e w3 ⟨rfl, hb3⟩
    have p3 := (p2.out.alloc _).below hb3
    have W3 : Below W.heap.size W w3 := bel_next _ W2 hb3
    have s3 := W3.size
    clear hb3 p2 W2 q1 q2 q3 q4 s2
    obtain ⟨q1, q2, q3, q4⟩ := p3
    have p3 := Lib.hid (show B3 w3 W.heap.size R B F from ⟨q1, q2, q3, q4⟩)
    have OK := Lib.hid hok
    obtain ⟨o1, o2, o3, o4, o5, o6⟩ := hok
    go_wp2_with fail
    refine (within_any m 101 _ (by omega) (by omega)).mono ?_
    rintro e w' ⟨rfl, rfl⟩
    go_wp2_with fail
    refine (within_any n 101 _ (by omega) (by omega)).mono ?_
    rintro e w' ⟨rfl, rfl⟩
    have k1 := within_lo m 101 (by omega)
    have k2 := within_hi m 101 (by omega)
    have k3 := within_lo n 101 (by omega)
    have k4 := within_hi n 101 (by omega)
    generalize within m 101 = a at *
    generalize within n 101 = b at *
    go_wp2_with fail
    refine (tick_ok R B F a _ OK.out k1 (by omega)).mono ?_
    rintro e w4 ⟨rfl, hb4⟩
    have p4 := p3.out.below hb4
    have W4 : Below W.heap.size W w4 := W3.trans (hb4.mono W3.size)
    have s4 := W4.size
    have t4 := tickF_bd OK.out k1
    clear hb4 p3 W3 q1 q2 q3 q4 s3
    obtain ⟨q1, q2, q3, q4⟩ := p4
    have p4 := Lib.hid (show B3 w4 W.heap.size R B F from ⟨q1, q2, q3, q4⟩)
    generalize hX : tickF R B F a = X at *
    have HX := Lib.hid hX
    clear hX
    go_wp2_with fail
    refine (tick_ok R B X b _ t4 k3 (by omega)).mono ?_
    rintro e w5 ⟨rfl, hb5⟩
    have p5 := (p4.out.alloc _).below hb5
    have W5 : Below W.heap.size W w5 := bel_next _ W4 hb5
    have s5 := W5.size
    clear hb5 p4 W4 q1 q2 q3 q4 s4
    obtain ⟨q1, q2, q3, q4⟩ := p5
    have p5 := Lib.hid (show B3 w5 W.heap.size R B F from ⟨q1, q2, q3, q4⟩)
    have HY : Hid (tickF R B X b = tickF R B F (a + b)) := by rw [← HX.out]; exact tickF_add OK.out k1 k3
    rw [HY.out]
    go_wp2_with fail
    refine (tick_ok R B F (a + b) _ OK.out (by omega) (by omega)).mono ?_
    rintro e w6 ⟨rfl, hb6⟩
    have t6 := tickF_bd OK.out (show 0 ≤ a + b by omega)
    generalize tickF R B F (a + b) = Z at *
    have p6 := (p5.out.alloc _).below hb6
    have y6 := (B3.new w5 R B Z 47).below hb6
    have W6 : Below W.heap.size W w6 := bel_next _ W5 hb6
    have s6 := W6.size
    clear hb6 p5 W5 q1 q2 q3 q4
    obtain ⟨q1, q2, q3, q4⟩ := p6
    have p6 := Lib.hid (show B3 w6 W.heap.size R B F from ⟨q1, q2, q3, q4⟩)
    obtain ⟨y1, y2, y3, y4⟩ := y6
    have z1 : decide (B < Z) = false := by have := t6.2.2.2.2.2; simp; omega
    go_wp2_with fail
    refine (bcheck_ok R B Z _ t6).mono ?_
    rintro e w7 ⟨rfl, hb7⟩
    have p7 := (p6.out.alloc _).below hb7
    have W7 : Below W.heap.size W w7 := bel_next _ W6 hb7
    have s7 := W7.size
    clear hb7 p6 W6 q1 q2 q3 q4 y1 y2 y3 y4 s6 z1
    obtain ⟨q1, q2, q3, q4⟩ := p7
    have p7 := Lib.hid (show B3 w7 W.heap.size R B F from ⟨q1, q2, q3, q4⟩)
    go_wp2_with fail
    by_cases ha : a ≤ F
    · refine (take_ok R B F a _ OK.out k1 ha).mono ?_
      rintro e w8 ⟨rfl, hb8⟩
      have p8 := p7.out.below hb8
      have W8 : Below W.heap.size W w8 := W7.trans (hb8.mono W7.size)
      have s8 := W8.size
      clear hb8 p7 W7 q1 q2 q3 q4 s7
      obtain ⟨q1, q2, q3, q4⟩ := p8
      have p8 := Lib.hid (show B3 w8 W.heap.size R B F from ⟨q1, q2, q3, q4⟩)
      go_wp2_with fail
      by_cases hb : b ≤ F - a
      · refine (take_ok R B (F - a) b _ ⟨o1, o2, o3, o4, by omega, by omega⟩ k3 hb).mono ?_
        rintro e w9 ⟨rfl, hb9⟩
        have p9 := (p8.out.alloc _).below hb9
        have W9 : Below W.heap.size W w9 := bel_next _ W8 hb9
        have s9 := W9.size
        clear hb9 p8 W8 q1 q2 q3 q4 s8
        obtain ⟨q1, q2, q3, q4⟩ := p9
        have p9 := Lib.hid (show B3 w9 W.heap.size R B F from ⟨q1, q2, q3, q4⟩)
        go_wp2_with fail
        refine (take_ok R B F (a + b) _ OK.out (by omega) (by omega)).mono ?_
        rintro e w10 ⟨rfl, hb10⟩
        have e10 : F - (a + b) = F - a - b := by omega
        rw [e10]
        have y10 := (B3.new w9 R B (F - a - b) 47).below hb10
        have W10 : Below W.heap.size W w10 := bel_next _ W9 hb10
        have s10 := W10.size
        have s11 := hb10.size
        clear hb10 p9 q1 q2 q3 q4 W9 e10
        obtain ⟨y1, y2, y3, y4⟩ := y10
        go_wp2_with fail
        go_ret
        exact ⟨rfl, below_alloc W10 _⟩
      · refine (take_full R B (F - a) b _ ⟨o1, o2, o3, o4, by omega, by omega⟩ k3 (by omega)).mono ?_
        rintro e w9 ⟨rfl, hb9⟩
        have p9 := (p8.out.alloc _).below hb9
        have W9 : Below W.heap.size W w9 := bel_next _ W8 hb9
        have s9 := W9.size
        clear hb9 p8 W8 q1 q2 q3 q4 s8
        obtain ⟨q1, q2, q3, q4⟩ := p9
        have p9 := Lib.hid (show B3 w9 W.heap.size R B F from ⟨q1, q2, q3, q4⟩)
        go_wp2_with fail
        refine (take_full R B F (a + b) _ OK.out (by omega) (by omega)).mono ?_
        rintro e w10 ⟨rfl, hb10⟩
        have y10 := (B3.new w9 0 0 0 47).below hb10
        have W10 : Below W.heap.size W w10 := bel_next _ W9 hb10
        have s10 := W10.size
        have s11 := hb10.size
        clear hb10 p9 q1 q2 q3 q4 W9
        obtain ⟨y1, y2, y3, y4⟩ := y10
        go_wp2_with fail
        go_ret
        exact ⟨rfl, below_alloc W10 _⟩
    · refine (take_full R B F a _ OK.out k1 (by omega)).mono ?_
      rintro e w8 ⟨rfl, hb8⟩
      have p8 := p7.out.below hb8
      have W8 : Below W.heap.size W w8 := W7.trans (hb8.mono W7.size)
      have s8 := W8.size
      clear hb8 p7 W7 q1 q2 q3 q4 s7
      obtain ⟨q1, q2, q3, q4⟩ := p8
      have p8 := Lib.hid (show B3 w8 W.heap.size R B F from ⟨q1, q2, q3, q4⟩)
      go_wp2_with fail
      have hany : ∀ w : World, Calls Try.prog 29 #[.agg #[.int .i64 0, .int .i64 0, .int .i64 0], .int .i64 b] w fun e w' => ∃ x, e = .returned (.tuple #[.agg #[.int .i64 0, .int .i64 0, .int .i64 0], .int .i64 x]) ∧ Below w.heap.size w w' := by
        intro w
        by_cases hb0 : b ≤ 0
        · have hb0' : b = 0 := by omega
          subst hb0'
          exact (take_ok 0 0 0 0 w (by unfold bktOk; decide) (by decide) (by decide)).mono fun _ _ ⟨h1, h2⟩ => ⟨0, h1, h2⟩
        · exact (take_full 0 0 0 b w (by unfold bktOk; decide) k3 (by omega)).mono fun _ _ ⟨h1, h2⟩ => ⟨6, h1, h2⟩
      refine (hany _).mono ?_
      rintro e w9 ⟨x, rfl, hb9⟩
      have p9 := (p8.out.alloc _).below hb9
      have W9 : Below W.heap.size W w9 := bel_next _ W8 hb9
      have s9 := W9.size
      clear hany hb9 p8 W8 q1 q2 q3 q4 s8
      obtain ⟨q1, q2, q3, q4⟩ := p9
      have p9 := Lib.hid (show B3 w9 W.heap.size R B F from ⟨q1, q2, q3, q4⟩)
      go_wp2_with fail
      refine (take_full R B F (a + b) _ OK.out (by omega) (by omega)).mono ?_
      rintro e w10 ⟨rfl, hb10⟩
      have W10 : Below W.heap.size W w10 := bel_next _ W9 hb10
      have s10 := W10.size
      clear hb10 p9 q1 q2 q3 q4 W9
      go_wp2_with fail
      go_ret
      exact ⟨rfl, below_alloc W10 _⟩
  · refine (bcheck_bad R B F _ hok).mono ?_
    rintro e w3 ⟨rfl, hb3⟩
    have W3 : Below W.heap.size W w3 := bel_next _ W2 hb3
    clear hok hb3
    go_wp2_with fail
    go_ret
    exact ⟨rfl, W3⟩
end Go.Proofs.Ytopldjklmjkcmaa
