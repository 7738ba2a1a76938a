/- FairOne: packets of one flow are served in order, whatever the weights are. -/
import Derived.Test.YtehdphkaknjlnaaFairL
import Derived.Test.YtehdphkaknjlnaaClonePacket
set_option linter.unusedVariables false
namespace Go.Proofs.Ytehdphkaknjlnaa
open Go.RowKit
/-- The packets, all of flow 0 ahead of packet k. -/
def oneT (zs : List Int) (n k : Nat) : List Int := flat3 n fun a b => if b = 2 ∧ a < k then 0 else fd zs a b
theorem oneT_zero {zs : List Int} {n : Nat} (h : zs.length = n * 3) : oneT zs n 0 = zs := by
  rw [← flat3_of h]
  unfold oneT
  rw [flat3_of h]
  exact (flat3_congr fun i hi j hj => if_neg (by omega)).trans (flat3_of h)
theorem oneT_succ {zs : List Int} {n k : Nat} (hk : k < n) : (ints (oneT zs n k)).set (k * 3 + 2) (.int .i64 0) = ints (oneT zs n (k + 1)) := by
  unfold oneT
  rw [ints_set, flat3_set hk (by omega)]
  congr 1
  refine flat3_congr fun i hi j hj => ?_
  by_cases h1 : i = k ∧ j = 2
  · rw [if_pos h1, if_pos (by omega)]
  · rw [if_neg h1]
    by_cases h2 : j = 2 ∧ i < k
    · rw [if_pos h2, if_pos (by omega)]
    · rw [if_neg h2, if_neg (by omega)]
theorem oneT_len (zs : List Int) (n k : Nat) : (oneT zs n k).length = n * 3 := flat3_len _ _
theorem oneT_flw {zs : List Int} {n i : Nat} (hi : i < n) : flw (oneT zs n n) i = 0 := by
  unfold flw oneT
  rw [fd_flat3 hi (by omega), if_pos ⟨rfl, hi⟩]
  rfl
theorem onat_get {os : List Nat} {q : Nat} (h : q < os.length) : gi (onat os) q = ((os.getD q 0 : Nat) : Int) := by
  unfold gi onat
  rw [List.getD_eq_getElem?_getD, List.getElem?_map, List.getElem?_eq_getElem h, List.getD_eq_getElem?_getD, List.getElem?_eq_getElem h]
  rfl
theorem one_up {ws zs : List Int} {n : Nat} {os : List Nat} (h : FOut ws (oneT zs n n) n os) (q : Nat) (hq : q + 1 < n) : gi (onat os) q ≤ gi (onat os) (q + 1) := by
  have hl := h.len
  rw [onat_get (by omega), onat_get (by omega)]
  have ho := List.pairwise_iff_getElem.1 h.ord q (q + 1) (by omega) (by omega) (by omega)
  have e1 : os.getD q 0 = os[q]'(by omega) := by rw [List.getD_eq_getElem?_getD, List.getElem?_eq_getElem (by omega)]; rfl
  have e2 : os.getD (q + 1) 0 = os[q + 1]'(by omega) := by rw [List.getD_eq_getElem?_getD, List.getElem?_eq_getElem (by omega)]; rfl
  rw [e1, e2]
  have l1 := h.lt (List.getElem_mem (l := os) (n := q) (by omega))
  have l2 := h.lt (List.getElem_mem (l := os) (n := q + 1) (by omega))
  have := ho (by rw [oneT_flw l1, oneT_flw l2])
  omega
set_option maxRecDepth 100000 in
set_option maxHeartbeats 3200000 in
theorem fairOne_walk (Aw : Option Addr) (wn wc : Nat) (ws : List Int) (A : Option Addr) (n c : Nat) (zs : List Int) (W : World) (w0 : InInts W Aw wn wc ws) (w1 : In3 W A n c zs) :
    Calls Try.prog 9 #[.slice Aw wn wc, .slice A n c] W fun e w' => e = .returned (.bool true) ∧ Below W.heap.size W w' := by
  obtain ⟨sw, lw, rw_, _⟩ := w0
  obtain ⟨sz, lz, rz, _⟩ := w1
  have SW := Lib.hid sw
  have SZ := Lib.hid sz
  have hwn : wn ≤ 9223372036854775807 := by omega
  have hnn : n ≤ 9223372036854775807 := by omega
  have hn24 : n * 24 ≤ 140737488355328 := by omega
  clear sw sz lw rw_ lz rz
  go_enter Try.func9, Try.ntmps9
  go_wp2_with fail
  refine (weights_any _).mono ?_
  rintro e wa ⟨rfl, rfl⟩
  go_wp2_with fail
  refine (frun_ok _ 8 _ [1, 1, 1, 1, 1, 1, 1, 1] _ 2 _ [0, 9, 0, 0, 1, 0] _ (slMore (Sl.built_ W (ints [1, 1, 1, 1, 1, 1, 1, 1]) 3 _ rfl rfl) _) (Sl.built_ _ (ints [0, 9, 0, 0, 1, 0]) 49 _ (by simp) rfl) (by decide +kernel)).mono ?_
  rintro e w1 ⟨B1, c1, os1, rfl, o1, l1, s1, bb1, le1⟩
  rw [fair_lit1 o1] at s1
  have B1' := Lib.hid (belLit2 (Below.refl W.heap.size W) bb1)
  have S1 := Lib.hid s1
  clear bb1 o1 s1
  go_wp2_with fail
  refine (equal_t B1 2 c1 [0, 1] _ 2 _ [0, 1] _ (slMore S1.out _) (Sl.built_ _ (ints [0, 1]) 3 _ rfl rfl) (by omega) (by omega) true (by decide)).mono ?_
  rintro e w2 ⟨rfl, bb2⟩
  have B2 := Lib.hid (belLit1 B1'.out bb2)
  clear bb2
  have SZ2 := Lib.hid ((SZ.out.below B2.out).more B2.out.size)
  have SW2 := Lib.hid ((SW.out.below B2.out).more B2.out.size)
  have HZ := Lib.hid SZ.out.int_len
  have hone : Hid (∀ u ∈ ints zs, u.oneCell' = true) := Lib.hid fun u hu => ints_one zs u hu
  go_wp2_with fail
  refine (clonePacket A n c (ints zs) _ SZ2.out hone.out hn24).mono ?_
  rintro e w3 ⟨v, rfl, own3, bb3, z3⟩
  obtain ⟨A3, c3, rfl, hc3⟩ := own_form own3
  have B3 := Lib.hid (B2.out.trans (bb3.mono B2.out.size))
  have O3 := Lib.hid own3
  have Z3 := Lib.hid z3
  have hWz : Hid (W.heap.size ≤ w2.heap.size) := B2.out.size
  clear own3 bb3 z3
  go_wp2_with fail
  go_loopw [31] (fun vi wr => ∃ k : Nat, k ≤ n ∧ vi = .int .i64 (k : Int) ∧ Hid (wr.ownsRow w2.heap.size 49 3 (.slice A3 n c3) n (ints (oneT zs n k))) ∧ Hid (Below W.heap.size W wr) ∧ Hid (w2.heap.size ≤ wr.heap.size)) (fun vi _ => n - (intOf vi).toNat)
  case atStart => exact ⟨0, Nat.zero_le _, rfl, Lib.hid (by rw [oneT_zero HZ.out]; exact O3.out), B3, Z3⟩
  case round =>
    obtain ⟨k, hk, rfl, hO, hB, hS⟩ := hrel
    have hk0 : (0 : Int) ≤ k := by omega
    by_cases hlt : k < n
    · have hn1 : (k : Int) < n := by omega
      obtain ⟨g, cap, hgv, hgw1, hgw2⟩ := hO.out.form (by omega)
      injection hgv with hgv h2 h3
      subst hgv
      clear h2 h3
      have cl : wr.cell? ⟨g, k * 3 + 2, none⟩ = some (.int .i64 (gi (oneT zs n k) (k * 3 + 2))) := by
        have := hO.out.cellAt (k * 3 + 2) (by omega)
        rw [ints_get (by rw [oneT_len]; omega)] at this
        exact this
      have cf := hO.out.frozenAt (k * 3 + 2)
      have NO := Lib.hid (hO.out.stored (k * 3 + 2) (.int .i64 0)).1
      rw [oneT_succ hlt] at NO
      have NB := Lib.hid (hB.out.setCell (p := ⟨g, k * 3 + 2, none⟩) (Nat.le_trans hWz.out hgw1) (.int .i64 0))
      have NS : Hid (w2.heap.size ≤ (wr.setCell ⟨g, k * 3 + 2, none⟩ (.int .i64 0)).heap.size) := Lib.hid (by simpa using hS.out)
      go_wp2_with fail
      go_roundw
      case rel => exact ⟨k + 1, by omega, by go_num, NO, NB, NS⟩
      case measure => simp [intOf]; omega
    · have hkn : k = n := by omega
      subst hkn
      have hn1 : ¬ (k : Int) < k := by omega
      have S4 := Lib.hid (Sl.of_own3 hO.out)
      have SW4 := Lib.hid ((SW.out.below hB.out).more hB.out.size)
      obtain ⟨ck, hck⟩ : ∃ ck, fchk ws (oneT zs k k) wn k = ck := ⟨_, rfl⟩
      have HCK := Lib.hid hck
      clear hck
      by_cases h0 : ck = 0
      · subst h0
        go_wp2_with fail
        refine (frun_ok Aw wn wc ws A3 k c3 (oneT zs k k) _ SW4.out S4.out HCK.out).mono ?_
        rintro e w5 ⟨B5, c5, os5, rfl, o5, l5, s5, bb5, le5⟩
        have B5' := Lib.hid (hB.out.trans (bb5.mono hB.out.size))
        have S5 := Lib.hid s5
        have O5 := Lib.hid o5
        clear bb5 o5 s5
        go_wp2_with fail
        refine (sorted_ok B5 k c5 (onat os5) _ S5.out hnn (one_up O5.out)).mono ?_
        rintro e w6 ⟨rfl, bb6⟩
        have B6 := Lib.hid (B5'.out.trans (bb6.mono B5'.out.size))
        clear bb6
        go_wp2_with fail
        go_ret
        exact ⟨rfl, B6.out⟩
      · have hne : (ck != 0) = true := by simpa using h0
        have H0 := Lib.hid h0
        clear h0
        go_wp2_with fail
        refine (frun_bad Aw wn wc ws A3 k c3 (oneT zs k k) _ SW4.out hwn S4.out hnn ck HCK.out H0.out).mono ?_
        rintro e w5 ⟨rfl, bb5⟩
        have B5' := Lib.hid (hB.out.trans (bb5.mono hB.out.size))
        have SW5 := Lib.hid (SW4.out.on bb5)
        have S5 := Lib.hid (S4.out.on bb5)
        clear bb5
        go_wp2_with fail
        refine (fcheck_any Aw wn wc ws A3 k c3 (oneT zs k k) _ SW5.out hwn S5.out hnn ck HCK.out).mono ?_
        rintro e w6 ⟨rfl, bb6⟩
        have B6 := Lib.hid (B5'.out.trans (bb6.mono B5'.out.size))
        clear bb6
        have hee : (ck == ck) = true := by simp
        go_wp2_with fail
        go_ret
        exact ⟨rfl, B6.out⟩
end Go.Proofs.Ytehdphkaknjlnaa
