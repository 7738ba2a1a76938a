/- ConvNeutral: the identity element of min-plus convolution. -/
import Derived.Test.YtidmncoakockkaaConvA
import Derived.Test.YtidmncoakockkaaLawKit
import Derived.Test.YtidmncoakockkaaRepeatI
set_option linter.unusedVariables false
namespace Go.Proofs.Ytidmncoakockkaa
open Go.RowKit
/-- The identity: nought at 0, the greatest value else. -/
def neutU (i : Nat) : Int := if i = 0 then 0 else 1000000
theorem neut_C {n : Nat} (h0 : 0 < n) (h1 : n ≤ 61) : IsC n (tab n neutU) :=
  isC_tab h0 h1 (fun i hi => by unfold neutU; split <;> omega) (fun i hi => by unfold neutU; split <;> omega) fun i hi => by unfold neutU; split <;> split <;> omega
theorem conv_neut {n : Nat} {f : List Int} (hf : IsC n f) : convL f (tab n neutU) = f := by
  refine gi_ext (by rw [convL_len]) fun i hi => ?_
  rw [convL_len, hf.len] at hi
  rw [convL_get hf.len hi]
  refine Int.le_antisymm ?_ ?_
  · have a := cv_le (gi f) (gi (tab n neutU)) (Nat.le_refl i)
    rw [Nat.sub_self, tab_get _ (by omega), show neutU 0 = 0 from rfl] at a
    omega
  · obtain ⟨s, hs, e⟩ := cv_ex (gi f) (gi (tab n neutU)) i
    rw [e, tab_get _ (by omega)]
    have h1 := hf.hi i hi
    have h2 := hf.lo s (by omega)
    unfold neutU
    split
    · rw [show s = i by omega]; omega
    · omega
theorem neut_conv {n : Nat} {f : List Int} (hf : IsC n f) : convL (tab n neutU) f = f := by
  refine gi_ext (by rw [convL_len, tab_len, hf.len]) fun i hi => ?_
  rw [convL_len, tab_len] at hi
  rw [convL_get (tab_len _ _) hi]
  refine Int.le_antisymm ?_ ?_
  · have a := cv_le (gi (tab n neutU)) (gi f) (Nat.zero_le i)
    rw [Nat.sub_zero, tab_get _ (by omega), show neutU 0 = 0 from rfl] at a
    omega
  · obtain ⟨s, hs, e⟩ := cv_ex (gi (tab n neutU)) (gi f) i
    rw [e, tab_get _ (by omega)]
    have h1 := hf.hi i hi
    have h2 := hf.lo (i - s) (by omega)
    unfold neutU
    split
    · rename_i h; rw [h, Nat.sub_zero]; omega
    · omega
theorem own_set' {W wr : World} {n : Nat} {u : Nat → Int} (h : Own W wr n u) {k : Nat} {x : Int} {v : Nat → Int} (hk : k < n) (hv : ∀ i, i < n → v i = if i = k then x else u i) : Own W (wr.setCell ⟨W.heap.size, k, none⟩ (.int .i64 x)) n v := h.store hk hv
set_option maxRecDepth 100000 in
set_option maxHeartbeats 6400000 in
theorem convNeutral_walk (A_f : Option Addr) (n_f c_f : Nat) (f : List Int) (W : World) (w_f : InInts W A_f n_f c_f f) :
    Calls Try.prog 8 #[.slice A_f n_f c_f] W fun e w' => e = .returned (.bool true) ∧ Below W.heap.size W w' := by
  obtain ⟨s_f, l_f, r_f, _⟩ := w_f
  have b0 := Below.refl W.heap.size W
  go_enter Try.func8, Try.ntmps8
  go_wp2_with fail
  refine (conv_any _ 2 _ [3, 5] _ 2 _ [0, 1000000] _ (slMore (Sl.built_ _ (ints [3, 5]) 3 _ rfl rfl) _) (Sl.built_ _ (ints [0, 1000000]) 3 _ (by simp) rfl) (by omega) (by omega)  ([3, 5]) (0) (2) (by decide +kernel) (rfl)).mono ?_
  rintro e w1 ⟨A_t0, c_t0, rfl, s_t0, l_t0, bb1⟩
  have b1 := belLit2 b0 bb1
  replace s_f := slLit2 s_f bb1
  clear b0 bb1
  go_wp2_with fail
  refine (equal_t A_t0 (2) c_t0 ([3, 5]) _ 2 _ [3, 5] _ (slMore (s_t0) _) (Sl.built_ _ (ints [3, 5]) 3 _ rfl rfl) (by omega) (by omega)  (true) (by decide)).mono ?_
  rintro e w2 ⟨rfl, bb2⟩
  have b2 := belLit1 b1 bb2
  replace s_f := slLit1 s_f bb2
  replace s_t0 := slLit1 s_t0 bb2
  clear b1 bb2
  clear s_t0 l_t0
  have hl_f := s_f.int_len
  by_cases hc : curveErr f = 0
  case neg =>
    have hne : (curveErr f != 0) = true := by simpa using hc
    clear hc hl_f
    go_wp2_with fail
    refine (ccheck_t A_f (n_f) c_f (f) _ (s_f) (by omega)  (curveErr f) (rfl)).mono ?_
    rintro e w3 ⟨rfl, rfl⟩
    clear s_f
    go_wp2_with fail
    go_ret
    exact ⟨rfl, b2⟩
  have HC := Lib.hid hc
  have hcl := isC_of hc
  rw [hl_f] at hcl
  have C_f := Lib.hid hcl
  have t_f := hcl.top
  have u_f := hcl.pos
  clear hc hcl hl_f
  go_wp2_with fail
  refine (ccheck_t A_f (n_f) c_f (f) _ (s_f) (by omega)  (0) (HC.out)).mono ?_
  rintro e w4 ⟨rfl, rfl⟩
  have S_f := Lib.hid s_f
  have BB := Lib.hid b2
  clear s_f b2
  go_wp2_with fail
  refine (repeat_one 1000000 w2.heap.size 1 n_f _ u_f t_f (by simp) (World.cell?_alloc_at _ _ _ _ rfl)).mono ?_
  rintro e w3 ⟨rfl, ho⟩
  have HO := Lib.hid ho
  have hcell := ho.cell u_f
  have hfz := ho.frozen 0
  have z4 : (w2.alloc (.cells #[.int .i64 1000000] 3)).heap.size = w2.heap.size + 1 := by simp
  have OS := Lib.hid (own_set' ho u_f (x := 0) (v := neutU) fun i hi => rfl)
  rw [z4] at hcell hfz OS
  have S_f2 := Lib.hid (slMore S_f.out (.cells #[.int .i64 1000000] 3))
  have hg0 : (0 : Int) < n_f := by omega
  clear ho
  go_wp2_with fail
  have s_g := OS.out.sl
  rw [z4] at s_g
  have s_f := slLit0 S_f2.out OS.out.bel
  have b20 := belLit0 (BB.out.alloc BB.out.size _) OS.out.bel
  have l_g : n_f ≤ n_f := Nat.le_refl _
  have C_g := Lib.hid (neut_C u_f t_f)
  have E1 := Lib.hid (conv_neut C_f.out)
  have E2 := Lib.hid (neut_conv C_f.out)
  clear OS S_f2 HO hcell hfz
  generalize w3.setCell _ _ = w4 at s_g s_f b20 ⊢
  go_wp2_with fail
  refine (conv_any A_f (n_f) c_f (f) (some ⟨w2.heap.size + 1, 0, none⟩) (n_f) n_f (tab n_f neutU) _ (s_f) (s_g) (by omega) (by omega)  (f) (0) (n_f) (conv_yes C_f.out C_g.out (by rw [E1.out]; exact fits_C C_f.out) E1.out) (C_f.out.len)).mono ?_
  rintro e w21 ⟨A_x, c_x, rfl, s_x, l_x, bb21⟩
  have b21 := belLit0 b20 bb21
  replace s_f := slLit0 s_f bb21
  replace s_g := slLit0 s_g bb21
  clear b20 bb21
  go_wp2_with fail
  refine (conv_any (some ⟨w2.heap.size + 1, 0, none⟩) (n_f) n_f (tab n_f neutU) A_f (n_f) c_f (f) _ (s_g) (s_f) (by omega) (by omega)  (f) (0) (n_f) (conv_yes C_g.out C_f.out (by rw [E2.out]; exact fits_C C_f.out) E2.out) (C_f.out.len)).mono ?_
  rintro e w22 ⟨A_y, c_y, rfl, s_y, l_y, bb22⟩
  have b22 := belLit0 b21 bb22
  replace s_f := slLit0 s_f bb22
  replace s_g := slLit0 s_g bb22
  replace s_x := slLit0 s_x bb22
  clear b21 bb22
  go_wp2_with fail
  refine (equal_t A_x (n_f) c_x (f) A_f (n_f) c_f (f) _ (s_x) (s_f) (by omega) (by omega)  (true) (dec_true (rfl))).mono ?_
  rintro e w23 ⟨rfl, bb23⟩
  have b23 := belLit0 b22 bb23
  replace s_f := slLit0 s_f bb23
  replace s_g := slLit0 s_g bb23
  replace s_x := slLit0 s_x bb23
  replace s_y := slLit0 s_y bb23
  clear b22 bb23
  go_wp2_with fail
  refine (equal_t A_y (n_f) c_y (f) A_f (n_f) c_f (f) _ (s_y) (s_f) (by omega) (by omega)  (true) (dec_true (rfl))).mono ?_
  rintro e w24 ⟨rfl, bb24⟩
  have b24 := belLit0 b23 bb24
  replace s_f := slLit0 s_f bb24
  replace s_g := slLit0 s_g bb24
  replace s_x := slLit0 s_x bb24
  replace s_y := slLit0 s_y bb24
  clear b23 bb24
  clear s_f s_g s_x s_y
  go_wp2_with fail
  go_ret
  exact ⟨rfl, b24⟩
end Go.Proofs.Ytidmncoakockkaa
