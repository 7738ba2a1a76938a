/- CurveOrder: Le is a partial order. -/
import Derived.Test.YtmdoecegmdkigaaCurveC
import Derived.Test.YtmdoecegmdkigaaOpen
import Derived.Test.YtmdoecegmdkigaaEqual
set_option linter.unusedVariables false
namespace Go.Proofs.Ytmdoecegmdkigaa
open Go.RowKit
theorem leB_iff (f g : List Int) (n : Nat) : leB f g n = true ↔ leTo f g n := by unfold leB; exact decide_eq_true_iff
theorem leB_refl (f : List Int) (n : Nat) : leB f f n = true := (leB_iff f f n).2 fun i _ => Int.le_refl _
theorem leB_anti {f g : List Int} {n : Nat} (hf : f.length = n) (hg : g.length = n) (h1 : leB f g n = true) : leB g f n = decide (f = g) := by
  by_cases h : f = g
  · subst h; simp [leB_refl]
  · rw [decide_eq_false h]
    cases h2 : leB g f n with
    | false => rfl
    | true =>
      exact absurd (gi_ext (by omega) fun i hi => Int.le_antisymm ((leB_iff _ _ _).1 h1 i (by omega)) ((leB_iff _ _ _).1 h2 i (by omega))) h
theorem leB_ne {f g : List Int} {n : Nat} (h1 : leB f g n = false) : decide (f = g) = false := by
  refine decide_eq_false fun e => ?_
  subst e
  rw [leB_refl] at h1
  cases h1
theorem leB_trans {f g h : List Int} {n : Nat} (h1 : leB f g n = true) (h2 : leB g h n = true) : leB f h n = true :=
  (leB_iff _ _ _).2 fun i hi => Int.le_trans ((leB_iff _ _ _).1 h1 i hi) ((leB_iff _ _ _).1 h2 i hi)
theorem bothB_len {f g : List Int} (h : bothB f g = true) : bothErr f g = 0 ∧ curveErr f = 0 ∧ curveErr g = 0 ∧ f.length = g.length := by
  have e := of_decide_eq_true h
  refine ⟨e, ?_⟩
  unfold bothErr at e
  split at e
  · rename_i h1
    split at e
    · rename_i h2
      split at e
      · rename_i h3; exact ⟨h1, h2, h3⟩
      · cases e
    · rename_i h2; exact absurd e h2
  · rename_i h1; exact absurd e h1
theorem both_of {f g : List Int} (h1 : curveErr f = 0) (h2 : curveErr g = 0) (h3 : f.length = g.length) : bothErr f g = 0 := by
  unfold bothErr
  rw [if_pos h1, if_pos h2, if_pos h3]
set_option maxRecDepth 100000 in
set_option maxHeartbeats 1600000 in
theorem curveOrder_walk (A : Option Addr) (n c : Nat) (f : List Int) (M : Option Addr) (m d : Nat) (g : List Int) (L : Option Addr) (p b : Nat) (h : List Int) (W : World) (w0 : InInts W A n c f) (w1 : InInts W M m d g) (w2 : InInts W L p b h) :
    Calls Try.prog 3 #[.slice A n c, .slice M m d, .slice L p b] W fun e w' => e = .returned (.bool true) ∧ Below W.heap.size W w' := by
  obtain ⟨s1, l1, r1, _⟩ := w0
  obtain ⟨t1, l2, r2, _⟩ := w1
  obtain ⟨u1, l3, r3, _⟩ := w2
  go_enter Try.func3, Try.ntmps3
  go_wp2_with fail
  refine (hle_any _ 2 _ [0, 1] _ _ [0, 2] _ _ _ ((Sl.built_ W (ints [0, 1]) 3 _ rfl rfl).alloc (Nat.le_refl _) _) (Sl.built_ _ (ints [0, 2]) 3 (W.heap.size + 1) (by simp) rfl) (by decide) (by decide)).mono ?_
  rintro e w1 ⟨rfl, q, rfl⟩
  rw [show leB [0, 1] [0, 2] 2 = true by decide]
  have hb1 := bel_drewN (below_alloc (below_alloc (Below.refl W.heap.size W) (.cells (ints [0, 1]).toArray 3)) (.cells (ints [0, 2]).toArray 3)) q
  obtain ⟨w1, hw1⟩ : ∃ w1, w1 = ((W.alloc (.cells (ints [0, 1]).toArray 3)).alloc (.cells (ints [0, 2]).toArray 3)).drewN q := ⟨_, rfl⟩
  have hz1 : w1.heap.size = W.heap.size + 2 := by rw [hw1]; show ((W.alloc _).alloc _).heap.size = _; simp
  rw [← hw1] at hb1
  go_wp2_with fail
  rw [← hw1]
  clear hw1
  refine (hle_any _ 2 _ [0, 2] _ _ [0, 1] _ _ _ ((Sl.built_ w1 (ints [0, 2]) 3 (W.heap.size + 1 + 1) (by omega) rfl).alloc (Nat.le_refl _) _) (Sl.built_ _ (ints [0, 1]) 3 (W.heap.size + 1 + 1 + 1) (by simp; omega) rfl) (by decide) (by decide)).mono ?_
  rintro e w2 ⟨rfl, q2, rfl⟩
  rw [show leB [0, 2] [0, 1] 2 = false by decide]
  have hb2 := bel_drewN (below_alloc (below_alloc hb1 (.cells (ints [0, 2]).toArray 3)) (.cells (ints [0, 1]).toArray 3)) q2
  obtain ⟨w2, hw2⟩ : ∃ w2, w2 = ((w1.alloc (.cells (ints [0, 2]).toArray 3)).alloc (.cells (ints [0, 1]).toArray 3)).drewN q2 := ⟨_, rfl⟩
  rw [← hw2] at hb2
  have s2 := s1.on hb2
  have t2 := t1.on hb2
  have u2 := u1.on hb2
  have hlf := s2.int_len
  have hlg := t2.int_len
  have hlh := u2.int_len
  clear hb1 hz1 s1 t1 u1
  go_wp2_with fail
  rw [← hw2]
  clear hw2
  refine (hthree_any A n c f M m d g L p b h _ _ _ _ s2 t2 u2 (by omega) (by omega) (by omega)).mono ?_
  rintro e w3 ⟨rfl, rfl⟩
  by_cases hok : (bothB f g && bothB g h) = true
  · rw [hok]
    rw [Bool.and_eq_true] at hok
    obtain ⟨x1, x2, x3, x4⟩ := bothB_len hok.1
    obtain ⟨y1, y2, y3, y4⟩ := bothB_len hok.2
    have hmn : m = n := by omega
    have hpn : p = n := by omega
    subst hmn hpn
    have Bff := Lib.hid (both_of x2 x2 rfl)
    have Bfg := Lib.hid x1
    have Bgf := Lib.hid (both_of x3 x2 x4.symm)
    have Bgh := Lib.hid y1
    have Bfh := Lib.hid (both_of x2 y3 (by omega))
    clear x1 x2 x3 x4 y1 y2 y3 y4 hok
    go_wp2_with fail
    refine (hle_any A p c f A c f _ _ _ s2 s2 Bff.out (by omega)).mono ?_
    rintro e w3 ⟨rfl, q3, rfl⟩
    rw [leB_refl]
    go_wp2_with fail
    refine (hle_any A p c f M d g _ _ _ (s2.drewN _) (t2.drewN _) Bfg.out (by omega)).mono ?_
    rintro e w3 ⟨rfl, q4, rfl⟩
    cases hfg : leB f g p with
    | false =>
      have E := Lib.hid (leB_ne hfg)
      have EF := Lib.hid hfg
      clear hfg
      go_wp2_with fail
      refine (equal_any A M p c p d f g _ _ _ (s2.drewN _) (t2.drewN _) (by omega)).mono ?_
      rintro e w3 ⟨rfl, q5, rfl⟩
      rw [E.out]
      go_wp2_with fail
      refine (hle_any A p c f M d g _ _ _ (s2.drewN _) (t2.drewN _) Bfg.out (by omega)).mono ?_
      rintro e w3 ⟨rfl, q6, rfl⟩
      rw [EF.out]
      clear s2 t2 u2
      go_wp2_with fail
      go_ret
      exact ⟨rfl, bel_drewN hb2 _⟩
    | true =>
      have E := Lib.hid (leB_anti hlf hlg hfg)
      have EF := Lib.hid hfg
      clear hfg
      go_wp2_with fail
      refine (hle_any M p d g A c f _ _ _ (t2.drewN _) (s2.drewN _) Bgf.out (by omega)).mono ?_
      rintro e w3 ⟨rfl, q5, rfl⟩
      rw [E.out]
      have hbb : (decide (f = g) == decide (f = g)) = true := by simp
      go_wp2_with fail
      refine (equal_any A M p c p d f g _ _ _ (s2.drewN _) (t2.drewN _) (by omega)).mono ?_
      rintro e w3 ⟨rfl, q6, rfl⟩
      go_wp2_with fail
      refine (hle_any A p c f M d g _ _ _ (s2.drewN _) (t2.drewN _) Bfg.out (by omega)).mono ?_
      rintro e w3 ⟨rfl, q7, rfl⟩
      rw [EF.out]
      go_wp2_with fail
      refine (hle_any M p d g L b h _ _ _ (t2.drewN _) (u2.drewN _) Bgh.out (by omega)).mono ?_
      rintro e w3 ⟨rfl, q8, rfl⟩
      cases hgh : leB g h p with
      | false =>
        clear s2 t2 u2 hgh
        go_wp2_with fail
        go_ret
        exact ⟨rfl, bel_drewN hb2 _⟩
      | true =>
        have ET := Lib.hid (leB_trans EF.out hgh)
        clear hgh
        go_wp2_with fail
        refine (hle_any A p c f L b h _ _ _ (s2.drewN _) (u2.drewN _) Bfh.out (by omega)).mono ?_
        rintro e w3 ⟨rfl, q9, rfl⟩
        rw [ET.out]
        clear s2 t2 u2
        go_wp2_with fail
        go_ret
        exact ⟨rfl, bel_drewN hb2 _⟩
  · rw [Bool.not_eq_true] at hok
    rw [hok]
    clear hok s2 t2 u2 hlf hlg hlh
    go_wp2_with fail
    go_ret
    exact ⟨rfl, hb2⟩
end Go.Proofs.Ytmdoecegmdkigaa
