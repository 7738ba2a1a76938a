/- Curves, traces, lines: whatever comes in, the answer is the call's own. -/
import Derived.Test.YtpifknmoimlpoaaPointA
import Derived.Test.YtpifknmoimlpoaaPointL
import Derived.Test.YtpifknmoimlpoaaPointU
import Derived.Test.YtpifknmoimlpoaaTimesA
import Derived.Test.YtpifknmoimlpoaaDualA
import Derived.Test.YtpifknmoimlpoaaShaperA
import Derived.Test.YtpifknmoimlpoaaSlotsA
import Derived.Test.YtpifknmoimlpoaaLineB
set_option linter.unusedVariables false
namespace Go.Proofs.Ytpifknmoimlpoaa
open Go.RowKit
def Fr1 (W : World) (e : Ending) (w' : World) : Prop := ∃ A n c zs er, e = .returned (.tuple #[.slice A n c, .int .i64 er]) ∧ w'.ownsRow W.heap.size 3 1 (.slice A n c) n (ints zs) ∧ n ≤ 61 ∧ n ≤ c ∧ Below W.heap.size W w'
theorem RetSl.fr {W w' : World} {k : Nat} {zs : List Int} {er : Int} {e : Ending} (h : RetSl W k zs er e w') (hk : k ≤ 61) : Fr1 W e w' := by
  obtain ⟨A, c, rfl, hs, hc, hb, ho⟩ := h
  exact ⟨A, k, c, zs, er, rfl, ho, hk, hc, hb⟩
theorem Fr1.nil {W w' : World} {er : Int} (hb : Below W.heap.size W w') : Fr1 W (.returned (.tuple #[.slice none 0 0, .int .i64 er])) w' := ⟨none, 0, 0, [], er, rfl, World.ownsRow_nil _ _ _ _, by omega, Nat.le_refl _, hb⟩
theorem both_c {f g : List Int} (h : bothErr f g = 0) : curveErr f = 0 ∧ curveErr g = 0 ∧ f.length = g.length := by
  unfold bothErr at h
  by_cases h1 : curveErr f = 0
  · rw [if_pos h1] at h
    by_cases h2 : curveErr g = 0
    · rw [if_pos h2] at h
      by_cases h3 : f.length = g.length
      · exact ⟨h1, h2, h3⟩
      · rw [if_neg h3] at h; cases h
    · rw [if_neg h2] at h; exact absurd h h2
  · rw [if_neg h1] at h; exact absurd h h1
theorem fit_len1 (l : List Int) : (fit l).1.length ≤ l.length := by
  unfold fit
  split
  · exact Nat.le_refl _
  · exact Nat.zero_le _
theorem of2_len {f g : List Int} {r : List Int × Int} (h : r.1.length ≤ f.length) : (of2 f g r).1.length ≤ 61 := by
  unfold of2
  split
  · rename_i hb
    have := (isC_of (both_c hb).1).top
    omega
  · exact Nat.zero_le _
theorem of1_len {f : List Int} {r : List Int × Int} (h : r.1.length ≤ f.length) : (of1 f r).1.length ≤ 61 := by
  unfold of1
  split
  · rename_i hb
    have := (isC_of hb).top
    omega
  · exact Nat.zero_le _
section
variable (A : Option Addr) (n c : Nat) (f : List Int) (M : Option Addr) (m d : Nat) (g : List Int) (W : World)
variable (hs : Sl W W.heap.size A n (ints f)) (ht : Sl W W.heap.size M m (ints g)) (hn : n ≤ 9223372036854775807) (hm : m ≤ 9223372036854775807)
include hs hn
include ht hm in
theorem fr_min : Calls Try.prog 25 #[.slice A n c, .slice M m d] W (Fr1 W) :=
  (pmin_any A n c f M m d g W hs ht hn hm _ _ _ rfl rfl).mono fun e w' h => h.fr (of2_len (Nat.le_trans (fit_len1 _) (by simp [cminL, tab_len])))
include ht hm in
theorem fr_max : Calls Try.prog 45 #[.slice A n c, .slice M m d] W (Fr1 W) :=
  (pmax_any A n c f M m d g W hs ht hn hm _ _ _ rfl rfl).mono fun e w' h => h.fr (of2_len (Nat.le_trans (fit_len1 _) (by simp [cmaxL, tab_len])))
include ht hm in
theorem fr_sum : Calls Try.prog 46 #[.slice A n c, .slice M m d] W (Fr1 W) :=
  (psum_any A n c f M m d g W hs ht hn hm _ _ _ rfl rfl).mono fun e w' h => h.fr (of2_len (Nat.le_trans (fit_len1 _) (by simp [csumL, tab_len])))
include ht hm in
theorem fr_conv : Calls Try.prog 49 #[.slice A n c, .slice M m d] W (Fr1 W) :=
  (conv_any A n c f M m d g W hs ht hn hm _ _ _ rfl rfl).mono fun e w' h => h.fr (of2_len (Nat.le_trans (fit_len1 _) (by simp [convL, tab_len])))
include ht hm in
theorem fr_deconv : Calls Try.prog 51 #[.slice A n c, .slice M m d] W (Fr1 W) :=
  (deconv_any A n c f M m d g W hs ht hn hm _ _ _ rfl rfl).mono fun e w' h => h.fr (of2_len (by simp [deconvL, tab_len]))
include ht hm in
theorem fr_dual : Calls Try.prog 53 #[.slice A n c, .slice M m d] W (Fr1 W) :=
  (dual_any A n c f M m d g W hs ht hn hm _ _ _ rfl rfl).mono fun e w' h => h.fr (of2_len (Nat.le_trans (fit_len1 _) (by simp [dualL, tab_len])))
theorem fr_late : Calls Try.prog 42 #[.slice A n c, .int .i64 0] W (Fr1 W) :=
  (plate_any A n c f 0 W hs hn (by omega) (by omega) _ _ _ rfl rfl).mono fun e w' h => h.fr (of1_len (by simp [clateL, tab_len]))
theorem fr_up : Calls Try.prog 48 #[.slice A n c, .int .i64 0] W (Fr1 W) :=
  (pup_any A n c f 0 W hs hn (by omega) (by omega) _ _ _ rfl rfl).mono fun e w' h => h.fr (of1_len (Nat.le_trans (fit_len1 _) (by simp [cupL, tab_len])))
theorem fr_clos : Calls Try.prog 52 #[.slice A n c] W (Fr1 W) :=
  (closure_any A n c f W hs hn _ _ _ rfl rfl).mono fun e w' h => h.fr (of1_len (by simp [closureL, tab_len]))
theorem fr_super : Calls Try.prog 54 #[.slice A n c] W (Fr1 W) :=
  (super_any A n c f W hs hn _ _ _ rfl rfl).mono fun e w' h => h.fr (of1_len (Nat.le_trans (fit_len1 _) (by simp [superL, tab_len])))
theorem fr_tsum : Calls Try.prog 23 #[.slice A n c] W (Fr1 W) := by
  have hl := hs.int_len
  by_cases h : traceOk f
  · exact (tsum_ok A n c f W hs hn h _ _ _ rfl rfl).mono fun e w' k => k.fr (by rw [cumul_len]; have := h.1; omega)
  · exact (tsum_no A n c f W hs hn h _ _ _ rfl rfl).mono fun e w' k => k.fr (Nat.zero_le _)
theorem fr_slots : Calls Try.prog 55 #[.slice A n c] W (Fr1 W) := by
  rcases slotsIs_ex f with ⟨h, _⟩ | h | h | ⟨h, h0, _⟩
  · exact (slots_any A n c f W hs hn _ _ _ h rfl).mono fun e w' k => k.fr (Nat.zero_le _)
  · exact (slots_any A n c f W hs hn _ _ _ h rfl).mono fun e w' k => k.fr (Nat.zero_le _)
  · exact (slots_any A n c f W hs hn _ _ _ h rfl).mono fun e w' k => k.fr (Nat.zero_le _)
  · exact (slots_any A n c f W hs hn _ _ _ h rfl).mono fun e w' k => k.fr (by rw [diffs_len]; have := (isC_of h0).top; omega)
theorem fr_env : Calls Try.prog 56 #[.slice A n c] W (Fr1 W) := by
  have SS := Lib.hid hs
  clear hs
  go_enter Try.func56, Try.ntmps56
  go_wp2_with fail
  refine (fr_deconv A n c f A n c f _ SS.out SS.out hn hn).mono ?_
  rintro e w2 ⟨A2, n2, c2, z2, er, rfl, s2⟩
  have S2 := Lib.hid s2
  clear s2
  go_wp2_with fail
  go_ret2
  exact ⟨A2, n2, c2, z2, er, rfl, S2.out⟩
theorem fr_times : Calls Try.prog 50 #[.slice A n c, .int .i64 1] W (Fr1 W) := by
  have hl := hs.int_len
  by_cases h : curveErr f = 0
  · have cf := isC_of h
    rw [hl] at cf
    exact (times_any A n c f 1 W hs hn cf (by omega) (by omega) _ _ _ rfl rfl).mono fun e w' k => k.fr (Nat.le_trans (fit_len1 _) (by rw [pwL_len, hl]; exact cf.top))
  · have hne : (curveErr f != 0) = true := by simpa using h
    have SS := Lib.hid hs
    clear h hs hl
    go_enter Try.func50, Try.ntmps50
    go_wp2_with fail
    refine (ccheck_any A n c f _ _ SS.out hn).mono ?_
    rintro e w' ⟨rfl, rfl⟩
    go_wp2_with fail
    go_ret2
    exact Fr1.nil (Below.refl _ _)
theorem fr_cut (hc : n ≤ c) : Calls Try.prog 44 #[.slice A n c, .int .i64 ((n : Int) - 1)] W (Fr1 W) := by
  have hl := hs.int_len
  by_cases h : curveErr f = 0
  · have cf := isC_of h
    rw [hl] at cf
    have hp := cf.pos
    have ht := cf.top
    exact (ccut_t A n c f ((n : Int) - 1) W hs hn (by omega) (by omega) cf hc _ _ _ rfl rfl).mono fun e w' k => k.fr (by rw [ccutL, List.length_take]; omega)
  · have hne : (curveErr f != 0) = true := by simpa using h
    have SS := Lib.hid hs
    clear h hs hl
    go_enter Try.func44, Try.ntmps44
    go_wp2_with fail
    refine (ccheck_any A n c f _ _ SS.out hn).mono ?_
    rintro e w' ⟨rfl, rfl⟩
    go_wp2_with fail
    go_ret2
    exact Fr1.nil (Below.refl _ _)
include ht hm in
theorem fr_shaper : Calls Try.prog 57 #[.slice A n c, .slice M m d] W (Fr1 W) := by
  have hl := hs.int_len
  have hl2 := ht.int_len
  by_cases h : bothErr f g = 0
  · obtain ⟨h1, h2, h3⟩ := both_c h
    have cf := isC_of h1
    have cg := isC_of h2
    rw [← h3] at cg
    rw [hl] at cf cg
    exact (shaper_any A n c f M m d g W hs ht hn hm cf cg (by omega) _ _ _ rfl rfl).mono fun e w' k => k.fr (by simp [shaperL, convL, tab_len]; rw [hl]; exact cf.top)
  · have hne : (bothErr f g != 0) = true := by simpa using h
    have SS := Lib.hid hs
    have TT := Lib.hid ht
    clear h hs ht hl hl2
    go_enter Try.func57, Try.ntmps57
    go_wp2_with fail
    refine (both_any A n c f M m d g _ _ _ SS.out TT.out hn hm).mono ?_
    rintro e w' ⟨rfl, rfl⟩
    go_wp2_with fail
    go_ret2
    exact Fr1.nil (Below.refl _ _)
include ht hm in
theorem fr_less : Calls Try.prog 47 #[.slice A n c, .slice M m d] W (Fr1 W) := by
  have hl := hs.int_len
  have hl2 := ht.int_len
  by_cases h : bothErr f g = 0
  · obtain ⟨h1, h2, h3⟩ := both_c h
    have cf := isC_of h1
    have cg := isC_of h2
    rw [← h3] at cg
    rw [hl] at cf cg
    exact (pless_any A n c f M m d g W hs ht hn hm cf cg (by omega) _ _ _ rfl rfl).mono fun e w' k => k.fr (Nat.le_trans (fit_len1 _) (by rw [clessL, tab_len, hl]; exact cf.top))
  · have hne : (bothErr f g != 0) = true := by simpa using h
    have S := Lib.hid (slMore hs (.cells #[.int .i64 0] 3))
    have T := Lib.hid (slMore ht (.cells #[.int .i64 0] 3))
    have BB := Lib.hid ((Below.refl W.heap.size W).alloc (Nat.le_refl _) (.cells #[.int .i64 0] 3))
    have each : Hid (∀ w, Sl w w.heap.size A n (ints f) → Sl w w.heap.size M m (ints g) → Calls Try.prog 87 #[.slice A n c, .slice M m d, .func (.func 99) #[] #[.pointer (some ⟨W.heap.size, 0, none⟩)]] w fun e w' => e = .returned (.tuple #[.slice none 0 0, .int .i64 (bothErr f g)]) ∧ w' = w) := Lib.hid fun w s t => by
      have SS := Lib.hid s
      have TT := Lib.hid t
      clear s t
      go_enter Try.func87, Try.ntmps87
      go_wp2_with fail
      refine (both_any A n c f M m d g _ _ _ SS.out TT.out hn hm).mono ?_
      rintro e w' ⟨rfl, rfl⟩
      go_wp2_with fail
      go_ret2
      exact ⟨rfl, rfl⟩
    clear h hs ht hl hl2 hne
    go_enter Try.func47, Try.ntmps47
    go_wp2_with fail
    refine (each.out _ S.out T.out).mono ?_
    rintro e w2 ⟨rfl, rfl⟩
    go_wp2_with fail
    go_ret2
    exact Fr1.nil BB.out
end
end Go.Proofs.Ytpifknmoimlpoaa
