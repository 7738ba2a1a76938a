/- Leases, ranks, stages: whatever comes in, the answer is the call's own. -/
import Derived.Test.YtpifknmoimlpoaaTakeA
import Derived.Test.YtpifknmoimlpoaaRanksW
import Derived.Test.YtpifknmoimlpoaaStageP
set_option linter.unusedVariables false
namespace Go.Proofs.Ytpifknmoimlpoaa
open Go.RowKit
/-- An answer of structs of three numbers, no more than n of them and one. -/
def Fr3 (t : TypeId) (n : Nat) (W : World) (e : Ending) (w' : World) : Prop := ∃ A k c zs er, e = .returned (.tuple #[.slice A k c, .int .i64 er]) ∧ w'.ownsRow W.heap.size t 3 (.slice A k c) k (ints zs) ∧ k ≤ 100 ∧ Below W.heap.size W w'
section
variable (A : Option Addr) (n c : Nat) (zs : List Int) (W : World) (hs : Sl W W.heap.size A (n * 3) (ints zs)) (hnn : n ≤ 9223372036854775807)
include hs hnn
theorem fr_live (now : Int) : Calls Try.prog 63 #[.slice A n c, .int .i64 now] W (Fr3 87 n W) := by
  by_cases h0 : lfirst zs n = 0
  · have n8 := leases_8 (leases_of h0)
    have := live_le zs now n
    refine (live_ok A n c zs now W hs hnn h0).mono ?_
    rintro e w' ⟨A1, c1, rfl, _, _, hb, ho⟩
    exact ⟨A1, _, c1, _, _, rfl, ho, by omega, hb⟩
  · refine (live_bad A n c zs now W hs hnn h0).mono ?_
    rintro e w' ⟨A1, c1, rfl, _, _, hb, ho⟩
    exact ⟨A1, _, c1, _, _, rfl, ho, by omega, hb⟩
theorem fr_lcut (now : Int) : Calls Try.prog 64 #[.slice A n c, .int .i64 now, .int .i64 0] W (Fr3 87 n W) := by
  by_cases h0 : lfirst zs n = 0
  · have n8 := leases_8 (leases_of h0)
    have ll := live_le zs now n
    have hk : (cutR zs n now 0).1 ≤ 100 := by
      unfold cutR
      split
      · show liveC zs now n ≤ 100; omega
      · show 0 ≤ 100; omega
    refine (cut_any A n c zs now 0 W hs hnn h0 (by omega) (by omega) _ _ _ rfl).mono ?_
    rintro e w' ⟨A1, c1, rfl, _, _, hb, ho⟩
    exact ⟨A1, _, c1, _, _, rfl, ho, hk, hb⟩
  · refine (cut_bad A n c zs now 0 W hs hnn h0).mono ?_
    rintro e w' ⟨A1, c1, rfl, _, _, hb, ho⟩
    exact ⟨A1, _, c1, _, _, rfl, ho, by omega, hb⟩
theorem fr_take (x0 x1 x2 : Int) : Calls Try.prog 59 #[.slice A n c, .agg #[.int .i64 x0, .int .i64 x1, .int .i64 x2]] W (Fr3 87 n W) := by
  by_cases h0 : lfirst zs n = 0
  · by_cases hx : oneOk x0 x1 x2
    · have n8 := leases_8 (leases_of h0)
      obtain ⟨l, hl, hfl⟩ := flatT_of n zs hs.int_len
      subst hfl
      have hlt : leaseT l := (leaseT_iff l).2 (by rw [hl]; exact h0)
      have hk : (takeT l (x0, x1, x2)).length ≤ 100 := by
        by_cases hp : posT x0 l < n
        · by_cases he : fd (flatT l) (posT x0 l) 0 = x0
          · rw [takeT_hit l (x0, x1, x2) (by rw [hl]; exact hp) he]
            simp
            omega
          · rw [takeT_miss l (x0, x1, x2) (fun _ => he)]
            simp
            omega
        · rw [takeT_miss l (x0, x1, x2) (fun h => absurd h (by rw [hl]; exact hp))]
          simp
          omega
      refine (ltake_ok A n c l (x0, x1, x2) W hl hlt hx hs).mono ?_
      rintro e w' ⟨A1, c1, rfl, _, _, hb, ho⟩
      exact ⟨A1, _, c1, _, _, rfl, ho, hk, hb⟩
    · refine (take_arg A n c zs x0 x1 x2 W hs hnn h0 hx).mono ?_
      rintro e w' ⟨rfl, hb⟩
      exact ⟨none, 0, 0, [], _, rfl, World.ownsRow_nil _ _ _ _, by omega, hb⟩
  · refine (take_bad A n c zs x0 x1 x2 _ W hs hnn rfl h0).mono ?_
    rintro e w' ⟨rfl, hb⟩
    exact ⟨none, 0, 0, [], _, rfl, World.ownsRow_nil _ _ _ _, by omega, hb⟩
theorem fr_order : Calls Try.prog 65 #[.slice A n c] W (Fr3 93 n W) := by
  by_cases h : ranksOk zs n
  · have n5 := h.1
    refine (order_ok (fun ys => ranksOk ys n) A n c zs W h (fun ys j h hj hd => swap_ranks hj h) (fun ys h => h) hs).mono ?_
    rintro e w' ⟨A1, c1, ys, rfl, _, _, _, _, hb, ho⟩
    exact ⟨A1, n, c1, ys, 0, rfl, ho, by omega, hb⟩
  · refine (order_bad A n c zs W h hs hnn).mono ?_
    rintro e w' ⟨rfl, hb⟩
    exact ⟨none, 0, 0, [], _, rfl, World.ownsRow_nil _ _ _ _, by omega, hb⟩
end
/-- An answer that is a stage. -/
def FrP (W : World) (e : Ending) (w' : World) : Prop := ∃ s u A k c bs er, e = .returned (.tuple #[.agg #[.int .i64 s, .int .i64 u, .slice A k c], .int .i64 er]) ∧ w'.ownsRow W.heap.size 4 1 (.slice A k c) k (bools bs) ∧ k ≤ 1000 ∧ Below W.heap.size W w'
set_option maxHeartbeats 3200000 in
theorem fr_put (s u : Int) (A : Option Addr) (n c : Nat) (bs : List Bool) (i : Int) (W : World) (hs : Sl W W.heap.size A n (bools bs)) (hn : n ≤ 9223372036854775807) : Calls Try.prog 66 #[.agg #[.int .i64 s, .int .i64 u, .slice A n c], .int .i64 i] W (FrP W) := by
  by_cases h : stageOk s u n
  · have hlen := stage_len h
    by_cases hi : 0 ≤ i ∧ i < n
    · obtain ⟨j, rfl⟩ := Int.eq_ofNat_of_zero_le hi.1
      refine (put_ok s u A n c bs j W hs h (by omega)).mono ?_
      rintro e w' ⟨A1, c1, rfl, _, _, hb, _, ho⟩
      exact ⟨s, u, A1, n, c1, _, 0, rfl, ho, by omega, hb⟩
    · have H := Lib.hid h
      have hcase : i < 0 ∨ (0 ≤ i ∧ (n : Int) ≤ i) := by omega
      clear h hi
      rcases hcase with hc | ⟨hc, hc2⟩
      all_goals
        go_enter Try.func66, Try.ntmps66
        go_wp2_with fail
        refine (scheck_ok s u A n c _ H.out).mono ?_
        rintro e w1 ⟨rfl, b1⟩
        have B1 := Lib.hid (belLit2 (Below.refl W.heap.size W) b1)
        have X1 : VBox w1 W.heap.size (.int .i64 s) (.int .i64 u) (.slice A n c) := ((VBox.made W _ _ _ _).on ((Below.refl _ _).alloc (Nat.le_refl _) _) (by simp)).on b1 (by simp; omega)
        have Y1 : VBox w1 (W.heap.size + 1) (.int .i64 0) (.int .i64 0) (.slice none 0 0) := by
          have := (VBox.made (W.alloc (.cells #[.int .i64 s, .int .i64 u, .slice A n c] 84)) (.int .i64 0) (.int .i64 0) (.slice none 0 0) 84).on b1 (by simp)
          simpa using this
        have Y2 := ((Y1.set0 (v := .int .i64 0)).set1 (v := .int .i64 0)).set2 (v := .slice none 0 0)
        have Ya := Y1.set0 (v := .int .i64 0)
        have Yb := Ya.set1 (v := .int .i64 0)
        have BF := Lib.hid (((B1.out.setCell (p := ⟨W.heap.size + 1, 0, none⟩) (show W.heap.size ≤ W.heap.size + 1 by omega) (.int .i64 0)).setCell (p := ⟨W.heap.size + 1, 1, none⟩) (show W.heap.size ≤ W.heap.size + 1 by omega) (.int .i64 0)).setCell (p := ⟨W.heap.size + 1, 2, none⟩) (show W.heap.size ≤ W.heap.size + 1 by omega) (.slice none 0 0))
        obtain ⟨x0, x1, x2, xf⟩ := X1
        obtain ⟨a0, a1, a2, af⟩ := Y1
        obtain ⟨b0, b1', b2, bf⟩ := Ya
        obtain ⟨d0, d1, d2, df⟩ := Yb
        obtain ⟨e0, e1, e2, ef⟩ := Y2
        clear b1
        go_wp2_with fail
        (try simp only [Exit.inBlock, Exit.then])
        refine bodyPost_ret (v := .tuple #[.agg #[.int .i64 0, .int .i64 0, .slice none 0 0], .int .i64 1]) ?_ rfl ⟨0, 0, none, 0, 0, [], _, rfl, World.ownsRow_nil _ _ _ _, by omega, BF.out⟩
        rw [results_cell_tmp rfl]
        simp [asAddr, Result.andThen, go_sem, e0, e1, e2]
  · have H := Lib.hid h
    clear h hs
    go_enter Try.func66, Try.ntmps66
    go_wp2_with fail
    refine (scheck_bad s u A n c _ H.out).mono ?_
    rintro e w1 ⟨er, hne, rfl, b1⟩
    have hne' : (er != 0) = true := by simpa using hne
    have B1 := Lib.hid (belLit2 (Below.refl W.heap.size W) b1)
    have Y1 : VBox w1 (W.heap.size + 1) (.int .i64 0) (.int .i64 0) (.slice none 0 0) := by
      have := (VBox.made (W.alloc (.cells #[.int .i64 s, .int .i64 u, .slice A n c] 84)) (.int .i64 0) (.int .i64 0) (.slice none 0 0) 84).on b1 (by simp)
      simpa using this
    have Ya := Y1.set0 (v := .int .i64 0)
    have Yb := Ya.set1 (v := .int .i64 0)
    have Y2 := Yb.set2 (v := .slice none 0 0)
    have BF := Lib.hid (((B1.out.setCell (p := ⟨W.heap.size + 1, 0, none⟩) (show W.heap.size ≤ W.heap.size + 1 by omega) (.int .i64 0)).setCell (p := ⟨W.heap.size + 1, 1, none⟩) (show W.heap.size ≤ W.heap.size + 1 by omega) (.int .i64 0)).setCell (p := ⟨W.heap.size + 1, 2, none⟩) (show W.heap.size ≤ W.heap.size + 1 by omega) (.slice none 0 0))
    obtain ⟨a0, a1, a2, af⟩ := Y1
    obtain ⟨b0, b1', b2, bf⟩ := Ya
    obtain ⟨d0, d1, d2, df⟩ := Yb
    obtain ⟨e0, e1, e2, ef⟩ := Y2
    clear b1 hne
    go_wp2_with fail
    (try simp only [Exit.inBlock, Exit.then])
    refine bodyPost_ret (v := .tuple #[.agg #[.int .i64 0, .int .i64 0, .slice none 0 0], .int .i64 er]) ?_ rfl ⟨0, 0, none, 0, 0, [], _, rfl, World.ownsRow_nil _ _ _ _, by omega, BF.out⟩
    rw [results_cell_tmp rfl]
    simp [asAddr, Result.andThen, go_sem, e0, e1, e2]
end Go.Proofs.Ytpifknmoimlpoaa
