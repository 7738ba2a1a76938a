/- BoundBack: the backlog bound from arrival and service curves. -/
import Derived.Test.YtgenfiokplmgoaaServedA
import Derived.Test.YtgenfiokplmgoaaBoundA
import Derived.Test.YtgenfiokplmgoaaLawKit
set_option linter.unusedVariables false
namespace Go.Proofs.Ytgenfiokplmgoaa
open Go.RowKit
theorem served_le {n : Nat} {f b more : List Int} (hf : IsC n f) {i : Nat} (hi : i < n) : gi (servedL f b more) i ≤ gi f i := by unfold servedL; rw [cmin_get hf.len hi]; exact (mn_le _ _).1
theorem served_ge {n : Nat} {f b more : List Int} (hf : IsC n f) (h : leT (convL f b) (servedL f b more) = true) (cx : IsC n (convL f b)) (cz : IsC n (servedL f b more)) {i : Nat} (hi : i < n) : cv (gi f) (gi b) i ≤ gi (servedL f b more) i := by
  have := (leT_iff cx cz).1 h i hi
  rwa [convL_get hf.len hi] at this
theorem served_C {n : Nat} {f b more : List Int} (hf : IsC n f) (hb : IsC n b) (h1 : fits (convL f b) = true) (h2 : bothB f more = true) (h3 : fits (csumL (convL f b) more) = true) : IsC n (convL f b) ∧ IsC n (servedL f b more) := by
  have cx := conv_C hf hb h1
  have cm : IsC n more := (bothB_isC h2 hf.len).2
  exact ⟨cx, cmin_C hf (csum_C cx cm h3)⟩
theorem bound_back {n : Nat} {f l b more : List Int} (hf : IsC n f) (h1 : fitB n f l = true) (h : leT (convL f b) (servedL f b more) = true) (cx : IsC n (convL f b)) (cz : IsC n (servedL f b more)) : top (fun i => gi f i - gi (servedL f b more) i) n ≤ top (fun i => gi l i - gi b i) n := by
  refine top_le (top_nonneg _ _) fun i hi => ?_
  have a := served_ge hf h cx cz hi
  obtain ⟨s, hs, e⟩ := cv_ex (gi f) (gi b) i
  have c := of_decide_eq_true h1 i hi s hs
  have d : gi l (i - s) - gi b (i - s) ≤ top (fun i => gi l i - gi b i) n := le_top (fun i => gi l i - gi b i) (by omega)
  omega
set_option maxRecDepth 100000 in
set_option maxHeartbeats 3200000 in
theorem boundBack_walk (A_f : Option Addr) (n_f c_f : Nat) (f : List Int) (A_l : Option Addr) (n_l c_l : Nat) (l : List Int) (A_b : Option Addr) (n_b c_b : Nat) (b : List Int) (A_m : Option Addr) (n_m c_m : Nat) (m : List Int) (W : World) (w_f : InInts W A_f n_f c_f f) (w_l : InInts W A_l n_l c_l l) (w_b : InInts W A_b n_b c_b b) (w_m : InInts W A_m n_m c_m m) :
    Calls Try.prog 5 #[.slice A_f n_f c_f, .slice A_l n_l c_l, .slice A_b n_b c_b, .slice A_m n_m c_m] W fun e w' => e = .returned (.bool true) ∧ Below W.heap.size W w' := by
  obtain ⟨s_f, l_f, r_f, _⟩ := w_f
  obtain ⟨s_l, l_l, r_l, _⟩ := w_l
  obtain ⟨s_b, l_b, r_b, _⟩ := w_b
  obtain ⟨s_m, l_m, r_m, _⟩ := w_m
  have b0 := Below.refl W.heap.size W
  go_enter Try.func5, Try.ntmps5
  go_wp2_with fail
  refine (back_any _ 3 _ [0, 5, 6] _ 3 _ [0, 1, 4] _ (slMore (Sl.built_ _ (ints [0, 5, 6]) 3 _ rfl rfl) _) (Sl.built_ _ (ints [0, 1, 4]) 3 _ (by simp) rfl) (by omega) (by omega) (isC_iff.2 ⟨by decide +kernel, rfl⟩) (isC_iff.2 ⟨by decide +kernel, rfl⟩) rfl (4) (0) (by decide)).mono ?_
  rintro e w1 ⟨rfl, bb1⟩
  have b1 := belLit2 b0 bb1
  replace s_f := slLit2 s_f bb1
  replace s_l := slLit2 s_l bb1
  replace s_b := slLit2 s_b bb1
  replace s_m := slLit2 s_m bb1
  clear b0 bb1
  have hl_f := s_f.int_len
  have hl_l := s_l.int_len
  have hl_b := s_b.int_len
  by_cases hok : (bothB f l && bothB l b) = true
  case neg =>
    have HOK := Lib.hid (Bool.eq_false_iff.2 hok)
    clear hok hl_f hl_l hl_b
    go_wp2_with fail
    refine (hthree_t A_f (n_f) c_f (f) A_l (n_l) c_l (l) A_b (n_b) c_b (b) _ (s_f) (s_l) (s_b) (by omega) (by omega) (by omega)  (false) (HOK.out)).mono ?_
    rintro e w2 ⟨rfl, bb2⟩
    have b2 := belLit0 b1 bb2
    replace s_f := slLit0 s_f bb2
    replace s_l := slLit0 s_l bb2
    replace s_b := slLit0 s_b bb2
    replace s_m := slLit0 s_m bb2
    clear b1 bb2
    clear s_f s_l s_b s_m
    go_wp2_with fail
    go_ret
    exact ⟨rfl, b2⟩
  obtain ⟨e1, e2, c_1, c_2, c_3⟩ := three_C hok hl_f hl_l hl_b
  subst e1 e2
  have HOK := Lib.hid hok
  have C_f := Lib.hid c_1
  have t_f := c_1.top
  have C_l := Lib.hid c_2
  have t_l := c_2.top
  have C_b := Lib.hid c_3
  have t_b := c_3.top
  clear hok c_1 c_2 c_3 hl_f hl_l hl_b
  go_wp2_with fail
  refine (hthree_t A_f (n_f) c_f (f) A_l (n_f) c_l (l) A_b (n_f) c_b (b) _ (s_f) (s_l) (s_b) (by omega) (by omega) (by omega)  (true) (HOK.out)).mono ?_
  rintro e w3 ⟨rfl, bb3⟩
  have b3 := belLit0 b1 bb3
  replace s_f := slLit0 s_f bb3
  replace s_l := slLit0 s_l bb3
  replace s_b := slLit0 s_b bb3
  replace s_m := slLit0 s_m bb3
  clear b1 bb3
  by_cases h1 : fitB n_f f l = true
  · have H1 := Lib.hid h1
    clear h1
    go_wp2_with fail
    refine (fits_any A_f (n_f) c_f (f) A_l (n_f) c_l (l) _ (s_f) (s_l) (by omega) (by omega) C_f.out C_l.out rfl (true) (0) (by rw [H1.out])).mono ?_
    rintro e w4 ⟨rfl, bb4⟩
    have b4 := belLit0 b3 bb4
    replace s_f := slLit0 s_f bb4
    replace s_l := slLit0 s_l bb4
    replace s_b := slLit0 s_b bb4
    replace s_m := slLit0 s_m bb4
    clear b3 bb4
    rcases servedIs_ex f b m with hs | ⟨h1, h2, h3, hs⟩
    · have SV := Lib.hid hs
      clear hs
      go_wp2_with fail
      refine (served_any A_f (n_f) c_f (f) A_b (n_f) c_b (b) A_m (n_m) c_m (m) _ (s_f) (s_b) (s_m) (by omega) (by omega) (by omega) C_f.out C_b.out rfl ([]) (false) (0) (SV.out) (rfl)).mono ?_
      rintro e w5 ⟨A_d, c_d, rfl, s_d, l_d, bb5⟩
      have b5 := belLit0 b4 bb5
      replace s_f := slLit0 s_f bb5
      replace s_l := slLit0 s_l bb5
      replace s_b := slLit0 s_b bb5
      replace s_m := slLit0 s_m bb5
      clear b4 bb5
      obtain ⟨n, hv_n⟩ : ∃ z, top (fun i => gi l i - gi b i) n_f = z := ⟨_, rfl⟩
      have V_n := Lib.hid hv_n
      clear hv_n
      go_wp2_with fail
      refine (back_any A_l (n_f) c_l (l) A_b (n_f) c_b (b) _ (s_l) (s_b) (by omega) (by omega) C_l.out C_b.out rfl (n) (0) (by rw [V_n.out])).mono ?_
      rintro e w6 ⟨rfl, bb6⟩
      have b6 := belLit0 b5 bb6
      replace s_f := slLit0 s_f bb6
      replace s_l := slLit0 s_l bb6
      replace s_b := slLit0 s_b bb6
      replace s_m := slLit0 s_m bb6
      replace s_d := slLit0 s_d bb6
      clear b5 bb6
      clear s_f s_l s_b s_m s_d
      go_wp2_with fail
      go_ret
      exact ⟨rfl, b6⟩
    · obtain ⟨cx, cz⟩ := served_C C_f.out C_b.out h1 h2 h3
      have SV := Lib.hid hs
      have C_x := Lib.hid cx
      have C_d := Lib.hid cz
      clear hs h1 h2 h3 cx cz
      cases hle : leT (convL f b) (servedL f b m) with
      | false =>
        have HL := Lib.hid hle
        clear hle
        go_wp2_with fail
        refine (served_any A_f (n_f) c_f (f) A_b (n_f) c_b (b) A_m (n_m) c_m (m) _ (s_f) (s_b) (s_m) (by omega) (by omega) (by omega) C_f.out C_b.out rfl (servedL f b m) (false) (n_f) (by rw [← HL.out]; exact SV.out) (C_d.out.len)).mono ?_
        rintro e w7 ⟨A_d, c_d, rfl, s_d, l_d, bb7⟩
        have b7 := belLit0 b4 bb7
        replace s_f := slLit0 s_f bb7
        replace s_l := slLit0 s_l bb7
        replace s_b := slLit0 s_b bb7
        replace s_m := slLit0 s_m bb7
        clear b4 bb7
        obtain ⟨n, hv_n⟩ : ∃ z, top (fun i => gi l i - gi b i) n_f = z := ⟨_, rfl⟩
        have V_n := Lib.hid hv_n
        clear hv_n
        go_wp2_with fail
        refine (back_any A_l (n_f) c_l (l) A_b (n_f) c_b (b) _ (s_l) (s_b) (by omega) (by omega) C_l.out C_b.out rfl (n) (0) (by rw [V_n.out])).mono ?_
        rintro e w8 ⟨rfl, bb8⟩
        have b8 := belLit0 b7 bb8
        replace s_f := slLit0 s_f bb8
        replace s_l := slLit0 s_l bb8
        replace s_b := slLit0 s_b bb8
        replace s_m := slLit0 s_m bb8
        replace s_d := slLit0 s_d bb8
        clear b7 bb8
        clear s_f s_l s_b s_m s_d
        go_wp2_with fail
        go_ret
        exact ⟨rfl, b8⟩
      | true =>
        have HL := Lib.hid hle
        clear hle
        go_wp2_with fail
        refine (served_any A_f (n_f) c_f (f) A_b (n_f) c_b (b) A_m (n_m) c_m (m) _ (s_f) (s_b) (s_m) (by omega) (by omega) (by omega) C_f.out C_b.out rfl (servedL f b m) (true) (n_f) (by rw [← HL.out]; exact SV.out) (C_d.out.len)).mono ?_
        rintro e w9 ⟨A_d, c_d, rfl, s_d, l_d, bb9⟩
        have b9 := belLit0 b4 bb9
        replace s_f := slLit0 s_f bb9
        replace s_l := slLit0 s_l bb9
        replace s_b := slLit0 s_b bb9
        replace s_m := slLit0 s_m bb9
        clear b4 bb9
        obtain ⟨n, hv_n⟩ : ∃ z, top (fun i => gi l i - gi b i) n_f = z := ⟨_, rfl⟩
        have V_n := Lib.hid hv_n
        clear hv_n
        go_wp2_with fail
        refine (back_any A_l (n_f) c_l (l) A_b (n_f) c_b (b) _ (s_l) (s_b) (by omega) (by omega) C_l.out C_b.out rfl (n) (0) (by rw [V_n.out])).mono ?_
        rintro e w10 ⟨rfl, bb10⟩
        have b10 := belLit0 b9 bb10
        replace s_f := slLit0 s_f bb10
        replace s_l := slLit0 s_l bb10
        replace s_b := slLit0 s_b bb10
        replace s_m := slLit0 s_m bb10
        replace s_d := slLit0 s_d bb10
        clear b9 bb10
        obtain ⟨k, hv_k⟩ : ∃ z, top (fun i => gi f i - gi (servedL f b m) i) n_f = z := ⟨_, rfl⟩
        have V_k := Lib.hid hv_k
        clear hv_k
        have hkn : k ≤ n := by rw [← V_k.out, ← V_n.out]; exact bound_back C_f.out H1.out HL.out C_x.out C_d.out
        go_wp2_with fail
        refine (back_any A_f (n_f) c_f (f) A_d (n_f) c_d (servedL f b m) _ (s_f) (s_d) (by omega) (by omega) C_f.out C_d.out rfl (k) (0) (by rw [V_k.out])).mono ?_
        rintro e w11 ⟨rfl, bb11⟩
        have b11 := belLit0 b10 bb11
        replace s_f := slLit0 s_f bb11
        replace s_l := slLit0 s_l bb11
        replace s_b := slLit0 s_b bb11
        replace s_m := slLit0 s_m bb11
        replace s_d := slLit0 s_d bb11
        clear b10 bb11
        clear s_f s_l s_b s_m s_d
        go_wp2_with fail
        go_ret
        exact ⟨rfl, b11⟩
  · have H1 := Lib.hid h1
    clear h1
    have B1 := Lib.hid (Bool.eq_false_iff.2 H1.out)
    go_wp2_with fail
    refine (fits_any A_f (n_f) c_f (f) A_l (n_f) c_l (l) _ (s_f) (s_l) (by omega) (by omega) C_f.out C_l.out rfl (false) (0) (by rw [B1.out])).mono ?_
    rintro e w12 ⟨rfl, bb12⟩
    have b12 := belLit0 b3 bb12
    replace s_f := slLit0 s_f bb12
    replace s_l := slLit0 s_l bb12
    replace s_b := slLit0 s_b bb12
    replace s_m := slLit0 s_m bb12
    clear b3 bb12
    rcases servedIs_ex f b m with hs | ⟨h1, h2, h3, hs⟩
    · have SV := Lib.hid hs
      clear hs
      go_wp2_with fail
      refine (served_any A_f (n_f) c_f (f) A_b (n_f) c_b (b) A_m (n_m) c_m (m) _ (s_f) (s_b) (s_m) (by omega) (by omega) (by omega) C_f.out C_b.out rfl ([]) (false) (0) (SV.out) (rfl)).mono ?_
      rintro e w13 ⟨A_d, c_d, rfl, s_d, l_d, bb13⟩
      have b13 := belLit0 b12 bb13
      replace s_f := slLit0 s_f bb13
      replace s_l := slLit0 s_l bb13
      replace s_b := slLit0 s_b bb13
      replace s_m := slLit0 s_m bb13
      clear b12 bb13
      obtain ⟨n, hv_n⟩ : ∃ z, top (fun i => gi l i - gi b i) n_f = z := ⟨_, rfl⟩
      have V_n := Lib.hid hv_n
      clear hv_n
      go_wp2_with fail
      refine (back_any A_l (n_f) c_l (l) A_b (n_f) c_b (b) _ (s_l) (s_b) (by omega) (by omega) C_l.out C_b.out rfl (n) (0) (by rw [V_n.out])).mono ?_
      rintro e w14 ⟨rfl, bb14⟩
      have b14 := belLit0 b13 bb14
      replace s_f := slLit0 s_f bb14
      replace s_l := slLit0 s_l bb14
      replace s_b := slLit0 s_b bb14
      replace s_m := slLit0 s_m bb14
      replace s_d := slLit0 s_d bb14
      clear b13 bb14
      clear s_f s_l s_b s_m s_d
      go_wp2_with fail
      go_ret
      exact ⟨rfl, b14⟩
    · obtain ⟨cx, cz⟩ := served_C C_f.out C_b.out h1 h2 h3
      have SV := Lib.hid hs
      have C_x := Lib.hid cx
      have C_d := Lib.hid cz
      clear hs h1 h2 h3 cx cz
      cases hle : leT (convL f b) (servedL f b m) with
      | false =>
        have HL := Lib.hid hle
        clear hle
        go_wp2_with fail
        refine (served_any A_f (n_f) c_f (f) A_b (n_f) c_b (b) A_m (n_m) c_m (m) _ (s_f) (s_b) (s_m) (by omega) (by omega) (by omega) C_f.out C_b.out rfl (servedL f b m) (false) (n_f) (by rw [← HL.out]; exact SV.out) (C_d.out.len)).mono ?_
        rintro e w15 ⟨A_d, c_d, rfl, s_d, l_d, bb15⟩
        have b15 := belLit0 b12 bb15
        replace s_f := slLit0 s_f bb15
        replace s_l := slLit0 s_l bb15
        replace s_b := slLit0 s_b bb15
        replace s_m := slLit0 s_m bb15
        clear b12 bb15
        obtain ⟨n, hv_n⟩ : ∃ z, top (fun i => gi l i - gi b i) n_f = z := ⟨_, rfl⟩
        have V_n := Lib.hid hv_n
        clear hv_n
        go_wp2_with fail
        refine (back_any A_l (n_f) c_l (l) A_b (n_f) c_b (b) _ (s_l) (s_b) (by omega) (by omega) C_l.out C_b.out rfl (n) (0) (by rw [V_n.out])).mono ?_
        rintro e w16 ⟨rfl, bb16⟩
        have b16 := belLit0 b15 bb16
        replace s_f := slLit0 s_f bb16
        replace s_l := slLit0 s_l bb16
        replace s_b := slLit0 s_b bb16
        replace s_m := slLit0 s_m bb16
        replace s_d := slLit0 s_d bb16
        clear b15 bb16
        clear s_f s_l s_b s_m s_d
        go_wp2_with fail
        go_ret
        exact ⟨rfl, b16⟩
      | true =>
        have HL := Lib.hid hle
        clear hle
        go_wp2_with fail
        refine (served_any A_f (n_f) c_f (f) A_b (n_f) c_b (b) A_m (n_m) c_m (m) _ (s_f) (s_b) (s_m) (by omega) (by omega) (by omega) C_f.out C_b.out rfl (servedL f b m) (true) (n_f) (by rw [← HL.out]; exact SV.out) (C_d.out.len)).mono ?_
        rintro e w17 ⟨A_d, c_d, rfl, s_d, l_d, bb17⟩
        have b17 := belLit0 b12 bb17
        replace s_f := slLit0 s_f bb17
        replace s_l := slLit0 s_l bb17
        replace s_b := slLit0 s_b bb17
        replace s_m := slLit0 s_m bb17
        clear b12 bb17
        obtain ⟨n, hv_n⟩ : ∃ z, top (fun i => gi l i - gi b i) n_f = z := ⟨_, rfl⟩
        have V_n := Lib.hid hv_n
        clear hv_n
        go_wp2_with fail
        refine (back_any A_l (n_f) c_l (l) A_b (n_f) c_b (b) _ (s_l) (s_b) (by omega) (by omega) C_l.out C_b.out rfl (n) (0) (by rw [V_n.out])).mono ?_
        rintro e w18 ⟨rfl, bb18⟩
        have b18 := belLit0 b17 bb18
        replace s_f := slLit0 s_f bb18
        replace s_l := slLit0 s_l bb18
        replace s_b := slLit0 s_b bb18
        replace s_m := slLit0 s_m bb18
        replace s_d := slLit0 s_d bb18
        clear b17 bb18
        clear s_f s_l s_b s_m s_d
        go_wp2_with fail
        go_ret
        exact ⟨rfl, b18⟩
end Go.Proofs.Ytgenfiokplmgoaa
