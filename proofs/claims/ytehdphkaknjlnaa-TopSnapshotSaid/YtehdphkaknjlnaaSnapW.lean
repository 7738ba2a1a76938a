/- What TopSnapshot leans on: the bound, blocks that stay, and the end of the pieces. -/
import Derived.Test.YtehdphkaknjlnaaSnapP
import Derived.Test.YtehdphkaknjlnaaStageN
import Derived.Test.YtehdphkaknjlnaaTopA
import Derived.Test.YtehdphkaknjlnaaOneR
import Derived.Test.YtehdphkaknjlnaaDelInt
set_option linter.unusedVariables false
namespace Go.Proofs.Ytehdphkaknjlnaa
open Go.RowKit
theorem bound_snap (s u r : Int) (bs : List Bool) (n : Nat) (w : World) (h : resumeOk s u r) (hn : n ≤ 200) :
    Calls Try.prog 41 #[.int .i64 s, .int .i64 u, .int .i64 r, .int .i64 (crashes bs n : Int)] w fun e w' => ∃ n' e', e = .returned (.tuple #[.int .i64 n', .int .i64 e']) ∧ (e' = 5 ∨ (e' = 0 ∧ (n' ≤ 0 ∨ (n : Int) < n' ∨ ∃ k : Nat, n' = (k : Int) + 1 ∧ k < n ∧ rgot s u r bs (k + 1) = s))) ∧ w = w' := by
  have cl := crashes_le bs n
  by_cases h0 : rneed s u (crashes bs n) = 0
  · refine (bound_zero s u r _ w h (by omega) (by omega) h0).mono ?_
    rintro e w' ⟨rfl, rfl⟩
    exact ⟨0, 0, rfl, .inr ⟨rfl, .inl (Int.le_refl _)⟩, rfl⟩
  · by_cases hr0 : r = 0
    · refine (bound_none s u r _ w h (by omega) (by omega) h0 hr0).mono ?_
      rintro e w' ⟨rfl, rfl⟩
      exact ⟨0, 5, rfl, .inl rfl, rfl⟩
    · refine (bound_some s u r _ w h (by omega) (by omega) h0 hr0).mono ?_
      rintro e w' ⟨rfl, rfl⟩
      obtain ⟨x, hx⟩ : ∃ x, (rneed s u (crashes bs n) + r - 1) / r = x := ⟨_, rfl⟩
      rw [hx]
      refine ⟨x, 0, rfl, .inr ⟨rfl, ?_⟩, rfl⟩
      by_cases x0 : x ≤ 0
      · exact .inl x0
      · by_cases x1 : (n : Int) < x
        · exact .inr (.inl x1)
        · obtain ⟨k, hk⟩ := Int.eq_ofNat_of_zero_le (show 0 ≤ x - 1 by omega)
          refine .inr (.inr ⟨k, by omega, by omega, ?_⟩)
          exact snap_done h bs n hr0 (k + 1) (by rw [hx]; push_cast; omega) (by omega)
theorem VBox.onD {w w' : World} {g gl : Nat} {x y z : Value} (h : VBox w g x y z) (hb : OnlyD gl w w') (hg : g < w.heap.size) (hne : g ≠ gl) : VBox w' g x y z :=
  ⟨(World.cell?_of_block (w := w) (hb.block g hg hne)).trans h.c0, (World.cell?_of_block (w := w) (hb.block g hg hne)).trans h.c1, (World.cell?_of_block (w := w) (hb.block g hg hne)).trans h.c2, fun q => (World.frozen?_of_block (w := w) (hb.block g hg hne)).trans (h.f q)⟩
theorem Sl.onD {w w' : World} {gh gl N : Nat} {xs : List Value} (h : Sl w w.heap.size (some ⟨gh, 0, none⟩) N xs) (hb : OnlyD gl w w') (hne : 0 < N → gh ≠ gl) : Sl w' w'.heap.size (some ⟨gh, 0, none⟩) N xs := by
  refine ⟨h.1, fun hn => ?_⟩
  obtain ⟨b, off, e, hlt, hc⟩ := h.2 hn
  have e' := e
  injection e' with e'
  injection e' with e1 e2
  subst e1 e2
  exact ⟨gh, 0, rfl, Nat.lt_of_lt_of_le hlt hb.size, fun i v hv => (World.cell?_of_block (w := w) (hb.block gh hlt (hne hn))).trans (hc i v hv)⟩
/-- The answer of the whole: what is got, and what is next. -/
theorem snap_end {s u : Int} {N wh : Nat} {bs : List Bool} (h : stageOk s u N) (hs : Snap wh N [] bs) (hw : wh ≤ N) : (wh = N → gsum s u bs N = s ∧ ∀ x er, NextFst bs N x er → er = 5) ∧ (wh ≠ N → gsum s u bs N = (wh : Int) * u ∧ ∀ x er, NextFst bs N x er → er = 0 ∧ x = wh) := by
  have d := hs.done
  constructor
  · rintro rfl
    refine ⟨gsum_full h fun k hk => (d k).2 hk, fun x er hx => ?_⟩
    rcases hx with ⟨_, k, _, hk, hf, _⟩ | ⟨e, _⟩
    · rw [(d k).2 hk] at hf; cases hf
    · exact e
  · intro hne
    refine ⟨?_, fun x er hx => ?_⟩
    · rw [gsum_first h (by omega) (fun i _ => d i) N (Nat.le_refl _), if_neg (by omega)]
    · rcases hx with ⟨e, k, hk, hkn, hf, ha⟩ | ⟨_, _, ha⟩
      · refine ⟨e, ?_⟩
        have h1 : ¬ k < wh := fun h' => by rw [(d k).2 h'] at hf; cases hf
        have h2 : ¬ wh < k := fun h' => by have := (d wh).1 (ha wh h'); omega
        rw [hk]; omega
      · have := (d wh).1 (ha wh (by omega)); omega
theorem gb_getS {bs : List Bool} {i : Nat} (h : i < bs.length) : (bools bs)[i]? = some (.bool (gb bs i)) := bools_get h
theorem delInt0 (base g n cap : Nat) (zs : List Int) (w : World) (h : w.ownsRow base 3 1 (.slice (some ⟨g, 0, none⟩) n cap) n (ints zs)) (hl : zs.length = n) (hi : 0 < n) (hcap : n ≤ cap) (hcm : cap ≤ 9223372036854775807) (hbg : base ≤ g) :
    Calls Try.prog 42 #[.slice (some ⟨g, 0, none⟩) n cap, .int .i64 0, .int .i64 1] w fun e w' => e = .returned (.slice (some ⟨g, 0, none⟩) (n - 1) cap) ∧ w'.ownsRow base 3 1 (.slice (some ⟨g, 0, none⟩) (n - 1) cap) (n - 1) (ints (zs.take 0 ++ zs.drop (0 + 1))) ∧ OnlyD g w w' := delInt base g n cap 0 zs w h hl hi hcap hcm hbg
end Go.Proofs.Ytehdphkaknjlnaa
