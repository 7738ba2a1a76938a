/- TraceBack: Slots and Sum are inverse. -/
import Derived.Test.YtmdoecegmdkigaaSlotsA
import Derived.Test.YtmdoecegmdkigaaCurveQ
import Derived.Test.YtmdoecegmdkigaaLawKit
set_option linter.unusedVariables false
namespace Go.Proofs.Ytmdoecegmdkigaa
open Go.RowKit
set_option maxRecDepth 100000 in
set_option maxHeartbeats 3200000 in
theorem traceBack_walk (A_a : Option Addr) (n_a c_a : Nat) (a : List Int) (A_f : Option Addr) (n_f c_f : Nat) (f : List Int) (W : World) (w_a : InInts W A_a n_a c_a a) (w_f : InInts W A_f n_f c_f f) :
    Calls Try.prog 11 #[.slice A_a n_a c_a, .slice A_f n_f c_f] W fun e w' => e = .returned (.bool true) ∧ Below W.heap.size W w' := by
  obtain ⟨s_a, l_a, r_a, _⟩ := w_a
  obtain ⟨s_f, l_f, r_f, _⟩ := w_f
  have b0 := Below.refl W.heap.size W
  go_enter Try.func11, Try.ntmps11
  go_wp2_with fail
  refine (tsum_ok _ 3 _ [2, 0, 3] _ (Sl.built_ _ (ints [2, 0, 3]) 3 _ rfl rfl) (by omega) ⟨by decide, by decide⟩ ([0, 2, 2, 5]) (0) (4) (by decide +kernel) (rfl)).mono ?_
  rintro e w1 ⟨A_t0, c_t0, rfl, s_t0, l_t0, bb1⟩
  have b1 := belLit1 b0 bb1
  replace s_a := slLit1 s_a bb1
  replace s_f := slLit1 s_f bb1
  clear b0 bb1
  go_wp2_with fail
  refine (equal_t A_t0 (4) c_t0 ([0, 2, 2, 5]) _ 4 _ [0, 2, 2, 5] _ (slMore (s_t0) _) (Sl.built_ _ (ints [0, 2, 2, 5]) 3 _ rfl rfl) (by omega) (by omega)  (true) (by decide)).mono ?_
  rintro e w2 ⟨rfl, bb2⟩
  have b2 := belLit1 b1 bb2
  replace s_a := slLit1 s_a bb2
  replace s_f := slLit1 s_f bb2
  replace s_t0 := slLit1 s_t0 bb2
  clear b1 bb2
  clear s_t0 l_t0
  have hl_a := s_a.int_len
  have hl_f := s_f.int_len
  by_cases hok : traceOk a
  case neg =>
    have hne := traceErr_ne a
    have hee : (traceErr a == traceErr a) = true := by simp
    have HOK := Lib.hid hok
    clear hok hl_a hl_f
    go_wp2_with fail
    refine (tsum_no A_a (n_a) c_a (a) _ (s_a) (by omega) HOK.out ([]) (traceErr a) (0) (rfl) (rfl)).mono ?_
    rintro e w3 ⟨A_x, c_x, rfl, s_x, l_x, bb3⟩
    have b3 := belLit0 b2 bb3
    replace s_a := slLit0 s_a bb3
    replace s_f := slLit0 s_f bb3
    clear b2 bb3
    go_wp2_with fail
    refine (tcheck_any A_a (n_a) c_a (a) _ (s_a) (by omega) HOK.out (traceErr a) (rfl)).mono ?_
    rintro e w4 ⟨rfl, rfl⟩
    clear s_a s_f s_x
    go_wp2_with fail
    go_ret
    exact ⟨rfl, b3⟩
  have HOK := Lib.hid hok
  have t_a := hok.1
  rw [hl_a] at t_a
  have c_1 := cumul_C hok
  rw [hl_a] at c_1
  have C_x := Lib.hid c_1
  have E1 := Lib.hid (diffs_cumul a)
  have HLA := Lib.hid hl_a
  clear hok hl_a hl_f c_1
  go_wp2_with fail
  refine (tsum_ok A_a (n_a) c_a (a) _ (s_a) (by omega) HOK.out (cumul a) (0) (n_a + 1) (rfl) (C_x.out.len)).mono ?_
  rintro e w5 ⟨A_x, c_x, rfl, s_x, l_x, bb5⟩
  have b5 := belLit0 b2 bb5
  replace s_a := slLit0 s_a bb5
  replace s_f := slLit0 s_f bb5
  clear b2 bb5
  go_wp2_with fail
  refine (slots_any A_x (n_a + 1) c_x (cumul a) _ (s_x) (by omega)  (a) (0) (n_a) (by
      have k := SlotsIs.ok (f := cumul a) C_x.out.err (cumul_zero a) fun i hi => by
        rw [cumul_len] at hi
        rw [cumul_get (by omega), cumul_get (by omega), psum_succ]
        have := trace_bd HOK.out (i := i) (by omega)
        omega
      rw [E1.out] at k
      exact k) (HLA.out)).mono ?_
  rintro e w6 ⟨A_y, c_y, rfl, s_y, l_y, bb6⟩
  have b6 := belLit0 b5 bb6
  replace s_a := slLit0 s_a bb6
  replace s_f := slLit0 s_f bb6
  replace s_x := slLit0 s_x bb6
  clear b5 bb6
  go_wp2_with fail
  refine (equal_t A_y (n_a) c_y (a) A_a (n_a) c_a (a) _ (s_y) (s_a) (by omega) (by omega)  (true) (dec_true (rfl))).mono ?_
  rintro e w7 ⟨rfl, bb7⟩
  have b7 := belLit0 b6 bb7
  replace s_a := slLit0 s_a bb7
  replace s_f := slLit0 s_f bb7
  replace s_x := slLit0 s_x bb7
  replace s_y := slLit0 s_y bb7
  clear b6 bb7
  go_wp2_with fail
  refine (ccheck_t A_x (n_a + 1) c_x (cumul a) _ (s_x) (by omega)  (0) (C_x.out.err)).mono ?_
  rintro e w8 ⟨rfl, rfl⟩
  clear s_x l_x
  clear s_y l_y
  rcases slotsIs_ex f with ⟨h, hne⟩ | h | h | ⟨h, h1, h2, h3⟩
  · have HS := Lib.hid h
    have hne2 : (curveErr f != 0) = true := by simpa using hne
    clear hne
    clear h
    go_wp2_with fail
    refine (slots_any A_f (n_f) c_f (f) _ (s_f) (by omega)  ([]) (curveErr f) (0) (HS.out) (rfl)).mono ?_
    rintro e w9 ⟨A_z, c_z, rfl, s_z, l_z, bb9⟩
    have b9 := belLit0 b7 bb9
    replace s_a := slLit0 s_a bb9
    replace s_f := slLit0 s_f bb9
    clear b7 bb9
    clear s_a s_f s_z
    go_wp2_with fail
    go_ret
    exact ⟨rfl, b9⟩
  · have HS := Lib.hid h
    clear h
    go_wp2_with fail
    refine (slots_any A_f (n_f) c_f (f) _ (s_f) (by omega)  ([]) (3) (0) (HS.out) (rfl)).mono ?_
    rintro e w10 ⟨A_z, c_z, rfl, s_z, l_z, bb10⟩
    have b10 := belLit0 b7 bb10
    replace s_a := slLit0 s_a bb10
    replace s_f := slLit0 s_f bb10
    clear b7 bb10
    clear s_a s_f s_z
    go_wp2_with fail
    go_ret
    exact ⟨rfl, b10⟩
  · have HS := Lib.hid h
    clear h
    go_wp2_with fail
    refine (slots_any A_f (n_f) c_f (f) _ (s_f) (by omega)  ([]) (2) (0) (HS.out) (rfl)).mono ?_
    rintro e w11 ⟨A_z, c_z, rfl, s_z, l_z, bb11⟩
    have b11 := belLit0 b7 bb11
    replace s_a := slLit0 s_a bb11
    replace s_f := slLit0 s_f bb11
    clear b7 bb11
    clear s_a s_f s_z
    go_wp2_with fail
    go_ret
    exact ⟨rfl, b11⟩
  · have HS := Lib.hid h
    have CF := Lib.hid (isC_of h1)
    have t_f := (isC_of h1).top
    have HD := Lib.hid (diffs_ok h1 h3)
    have HE := Lib.hid (cumul_diffs h1 h2)
    have hl := s_f.int_len
    have HL := Lib.hid hl
    have hp := (isC_of h1).pos
    rw [hl] at t_f hp
    clear h h1 h2 h3 hl
    go_wp2_with fail
    refine (slots_any A_f (n_f) c_f (f) _ (s_f) (by omega)  (diffs f) (0) (n_f - 1) (HS.out) (by rw [diffs_len, HL.out])).mono ?_
    rintro e w12 ⟨A_z, c_z, rfl, s_z, l_z, bb12⟩
    have b12 := belLit0 b7 bb12
    replace s_a := slLit0 s_a bb12
    replace s_f := slLit0 s_f bb12
    clear b7 bb12
    go_wp2_with fail
    refine (tsum_ok A_z (n_f - 1) c_z (diffs f) _ (s_z) (by omega) HD.out (f) (0) (n_f) (by rw [HE.out]) (HL.out)).mono ?_
    rintro e w13 ⟨A_w, c_w, rfl, s_w, l_w, bb13⟩
    have b13 := belLit0 b12 bb13
    replace s_a := slLit0 s_a bb13
    replace s_f := slLit0 s_f bb13
    replace s_z := slLit0 s_z bb13
    clear b12 bb13
    go_wp2_with fail
    refine (equal_t A_w (n_f) c_w (f) A_f (n_f) c_f (f) _ (s_w) (s_f) (by omega) (by omega)  (true) (dec_true (rfl))).mono ?_
    rintro e w14 ⟨rfl, bb14⟩
    have b14 := belLit0 b13 bb14
    replace s_a := slLit0 s_a bb14
    replace s_f := slLit0 s_f bb14
    replace s_z := slLit0 s_z bb14
    replace s_w := slLit0 s_w bb14
    clear b13 bb14
    clear s_a s_f s_z s_w
    go_wp2_with fail
    go_ret
    exact ⟨rfl, b14⟩
end Go.Proofs.Ytmdoecegmdkigaa
