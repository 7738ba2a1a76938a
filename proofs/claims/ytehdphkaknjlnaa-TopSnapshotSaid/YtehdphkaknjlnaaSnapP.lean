/- Plain laws of a snapshot that is sent in pieces. -/
import Derived.Test.YtehdphkaknjlnaaResumeBy
import Derived.Test.YtehdphkaknjlnaaPieceOnce
set_option linter.unusedVariables false
namespace Go.Proofs.Ytehdphkaknjlnaa
open Go.RowKit
theorem crashes_mono (bs : List Bool) {k m : Nat} (h : k ≤ m) : crashes bs k ≤ crashes bs m := by
  obtain ⟨d, rfl⟩ : ∃ d, m = k + d := ⟨m - k, by omega⟩
  induction d with
  | zero => exact Nat.le_refl _
  | succ d ih =>
    have := ih (by omega)
    rw [show k + (d + 1) = k + d + 1 from rfl, crashes_succ]
    omega
theorem rneed_mono {s u c c' : Int} (hu : 1 ≤ u) (h : c ≤ c') : rneed s u c ≤ rneed s u c' := by
  unfold rneed
  split
  · have := Int.mul_le_mul_of_nonneg_right h (show 0 ≤ u - 1 by omega)
    omega
  · exact Int.le_refl _
/-- All is there by the time that was reckoned for all crashes. -/
theorem snap_done {s u r : Int} (h : resumeOk s u r) (bs : List Bool) (m : Nat) (hr : r ≠ 0) (k : Nat) (hk : (rneed s u (crashes bs m) + r - 1) / r = k) (hkm : k ≤ m) : rgot s u r bs k = s := by
  refine resume_done h bs k hr ?_
  have a := rneed_mono (s := s) h.2.2.1 (show (crashes bs k : Int) ≤ crashes bs m by have := crashes_mono bs hkm; omega)
  have r1 : 0 < r := by have := h.2.2.2.2.1; omega
  rw [← hk]
  exact Int.ediv_le_ediv r1 (by omega)
/-- How many pieces are whole. -/
def wholeN (s u : Int) (N : Nat) (last : Int) : Int := if last = s then N else last / u
theorem whole_bd {s u : Int} {N : Nat} (h : stageOk s u N) {last : Int} (l0 : 0 ≤ last) (l1 : last ≤ s) : 0 ≤ wholeN s u N last ∧ wholeN s u N last ≤ N ∧ (last ≠ s → wholeN s u N last < N) := by
  have u1 := h.1.1.2.2.1
  unfold wholeN
  by_cases e : last = s
  · rw [if_pos e]; exact ⟨by omega, Int.le_refl _, fun h' => absurd e h'⟩
  · rw [if_neg e]
    have a : 0 ≤ last / u := Int.ediv_nonneg l0 (by omega)
    have b := Int.ediv_mul_le last (show u ≠ 0 by omega)
    have c := ceil_lo (d := s) u1
    rw [← h.2] at c
    have d : last / u < N := by
      rcases Int.lt_or_le (last / u) N with h' | h'
      · exact h'
      · have := Int.mul_le_mul_of_nonneg_right h' (show 0 ≤ u by omega)
        omega
    exact ⟨a, by omega, fun _ => d⟩
theorem psize_midS {s u : Int} {n : Nat} (h : stageOk s u n) {k : Nat} (hk : k + 1 < n) : psize s u k = u := by
  have a := piece_mid h.1 (i := k + 1) (by have := h.2; omega)
  have e : ((k + 1 : Nat) : Int) * u = (k : Int) * u + u := by rw [show ((k + 1 : Nat) : Int) = (k : Int) + 1 by omega, Int.add_mul, Int.one_mul]
  rw [e] at a
  unfold psize mn
  rw [if_neg (by omega)]
/-- The first wh pieces, all of them whole ones. -/
theorem gsum_first {s u : Int} {n wh : Nat} (h : stageOk s u n) {bs : List Bool} (hw : wh < n) (hb : ∀ i, i < n → (gb bs i = true ↔ i < wh)) (k : Nat) (hk : k ≤ n) : gsum s u bs k = ((if k ≤ wh then k else wh : Nat) : Int) * u := by
  induction k with
  | zero => rw [if_pos (Nat.zero_le _)]; show (0 : Int) = ((0 : Nat) : Int) * u; simp
  | succ k ih =>
    rw [gsum_succ, ih (by omega)]
    by_cases hkw : k < wh
    · rw [if_pos ((hb k (by omega)).2 hkw), psize_midS h (by omega), if_pos (by omega), if_pos (by omega)]
      push_cast
      rw [Int.add_mul, Int.one_mul]
    · have : ¬ gb bs k = true := fun h' => hkw ((hb k (by omega)).1 h')
      rw [if_neg this, if_neg (show ¬ k + 1 ≤ wh by omega)]
      by_cases hk2 : k ≤ wh
      · rw [if_pos hk2, show k = wh by omega]; omega
      · rw [if_neg hk2]; omega
theorem gb_setS (bs : List Bool) {i : Nat} (hi : i < bs.length) (k : Nat) : gb (bs.set i true) k = if k = i then true else gb bs k := by
  unfold gb
  rw [List.getD_eq_getElem?_getD, List.getD_eq_getElem?_getD, List.getElem?_set]
  by_cases h : i = k
  · subst h; rw [if_pos rfl, if_pos hi, if_pos rfl]; rfl
  · rw [if_neg h, if_neg (fun h' => h h'.symm)]
/-- What is left to put, and what is there. -/
structure Snap (wh N : Nat) (ls : List Int) (bs : List Bool) : Prop where
  len : bs.length = N
  rng : ∀ z ∈ ls, 0 ≤ z ∧ z < wh
  sub : ∀ i, gb bs i = true → i < wh
  sup : ∀ i, i < wh → gb bs i = true ∨ (i : Int) ∈ ls
theorem Snap.start {wh N : Nat} (ls : List Int) (hr : ∀ z ∈ ls, 0 ≤ z ∧ z < wh) (hs : ∀ i, i < wh → (i : Int) ∈ ls) : Snap wh N ls (List.replicate N false) :=
  ⟨by simp, hr, fun i h => by unfold gb at h; rw [List.getD_eq_getElem?_getD, List.getElem?_replicate] at h; split at h <;> simp at h, fun i hi => .inr (hs i hi)⟩
theorem Snap.put {wh N : Nat} {ls : List Int} {bs : List Bool} (h : Snap wh N ls bs) (hw : wh ≤ N) {j x : Nat} (hj : j < ls.length) (hx : gi ls j = x) : Snap wh N (ls.take j ++ ls.drop (j + 1)) (bs.set x true) := by
  have hm : (x : Int) ∈ ls := by rw [← hx]; exact gi_mem hj
  have hxw : x < wh := by have := h.rng _ hm; omega
  have hxl : x < bs.length := by rw [h.len]; omega
  have hls : ls = ls.take j ++ gi ls j :: ls.drop (j + 1) := by
    rw [gi_eq hj, List.getElem_cons_drop, List.take_append_drop]
  refine ⟨by rw [List.length_set]; exact h.len, fun z hz => h.rng z ?_, fun i hi => ?_, fun i hi => ?_⟩
  · rcases List.mem_append.1 hz with h' | h'
    · exact List.mem_of_mem_take h'
    · exact List.mem_of_mem_drop h'
  · rw [gb_setS bs hxl] at hi
    by_cases e : i = x
    · omega
    · rw [if_neg e] at hi; exact h.sub i hi
  · rw [gb_setS bs hxl]
    by_cases e : i = x
    · rw [if_pos e]; exact .inl rfl
    · rw [if_neg e]
      rcases h.sup i hi with h' | h'
      · exact .inl h'
      · right
        rw [hls, hx] at h'
        rcases List.mem_append.1 h' with h2 | h2
        · exact List.mem_append.2 (.inl h2)
        · rcases List.mem_cons.1 h2 with h3 | h3
          · exact absurd (by omega) e
          · exact List.mem_append.2 (.inr h3)
theorem Snap.done {wh N : Nat} {bs : List Bool} (h : Snap wh N [] bs) (i : Nat) : gb bs i = true ↔ i < wh :=
  ⟨h.sub i, fun hi => by rcases h.sup i hi with h' | h'; exact h'; exact absurd h' (by simp)⟩
end Go.Proofs.Ytehdphkaknjlnaa
