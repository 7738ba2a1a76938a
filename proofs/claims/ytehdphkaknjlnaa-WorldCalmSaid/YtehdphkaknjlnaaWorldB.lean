/- world: next, Tick. -/
import Derived.Test.YtehdphkaknjlnaaWorldA
set_option linter.unusedVariables false
namespace Go.Proofs.Ytehdphkaknjlnaa
open Go.RowKit
def nextV : Option Nat → Value
  | some i => .tuple #[.int .i64 (i : Int), .bool true]
  | none => .tuple #[.int .i64 0, .bool false]
set_option maxHeartbeats 1600000 in
theorem wnext_ok (w : World) (bw bp n : Nat) (rate unit : Int) (L P : Nat → Int) (t : Nat) (h : WB w bw bp n rate unit L P (fun i => L i == 0) t) (hn : 0 < n) (hn8 : n ≤ 8) (ht : t < n) (s : WS) (hs : s = ⟨L, P, t⟩) :
    Calls Try.prog 43 #[.pointer (some ⟨bw, 0, none⟩)] w fun e w' => e = .returned (nextV (wscan n s n)) ∧ ∃ q, w' = w.drewN q := by
  have H := Lib.hid h
  have c2 := h.c2
  have c3 := h.c3
  have hS := Lib.hid hs
  clear h hs
  go_enter Try.func43, Try.ntmps43
  go_wp2_with fail
  go_loopw [11] (fun vi wr => ∃ k : Nat, k ≤ n ∧ vi = .int .i64 k ∧ Hid (wscan n s k = none) ∧ ∃ q, wr = w.drewN q) (fun vi _ => n - (intOf vi).toNat)
  case atStart => exact ⟨0, Nat.zero_le _, rfl, Lib.hid rfl, 0, rfl⟩
  case round =>
    obtain ⟨k, hk, rfl, hsc, q, rfl⟩ := hrel
    have hk0 : (0 : Int) ≤ k := by omega
    by_cases hlt : k < n
    · have hn1 : (k : Int) < n := by omega
      obtain ⟨m, hm⟩ : ∃ m, (t + k) % n = m := ⟨_, rfl⟩
      have hmn : m < n := by rw [← hm]; exact Nat.mod_lt _ hn
      have hm1 : (m : Int) < n := by omega
      have hm0 : (0 : Int) ≤ m := by omega
      have f1 : IntKind.i64.wrap ((t : Int) + (k : Int)) = (t : Int) + (k : Int) := IntWalk.i64_in _ ⟨by omega, by omega⟩
      have gn : ((n : Int) == 0) = false := by simp; omega
      have gn2 : (n : Int) ≠ 0 := by omega
      have htm : ((t : Int) + (k : Int)).tmod (n : Int) = (m : Int) := by
        rw [Int.tmod_eq_emod_of_nonneg (by omega), ← hm]
        push_cast
        rfl
      have f2 : IntKind.i64.wrap (m : Int) = (m : Int) := IntWalk.i64_in _ ⟨by omega, by omega⟩
      have f3 : wrap64 (m : Int) = (m : Int) := IntWalk.wrap64_in _ ⟨by omega, by omega⟩
      have d2 := H.out.p2 m hmn
      have SC := Lib.hid (wscan_none hsc.out)
      have HM := Lib.hid hm
      clear hm
      by_cases hL : L m = 0
      · have e0 : (L m == 0) = true := by simpa using hL
        rw [e0] at d2
        have SN : Hid (wscan n s (k + 1) = none) := by show _ = _; rw [SC.out, hS.out]; show (if L ((t + k) % n) = 0 then _ else _) = _; rw [HM.out, if_pos hL]
        clear hL e0
        go_wp2_with fail
        go_quiet (fail)
        go_wp2_with fail
        go_roundw
        case rel => exact ⟨k + 1, by omega, by go_num, SN, _, rfl⟩
        case measure => simp [intOf]; omega
      · have e0 : (L m == 0) = false := by simpa using hL
        rw [e0] at d2
        have SN : Hid (wscan n s n = some m) := by
          show _ = _
          rcases wscan_cases n s k with ⟨_, ha⟩ | ⟨j, _, h', _⟩
          · have := wscan_later (n := n) (s := s) hlt ha (by rw [hS.out]; show L ((t + k) % n) ≠ 0; rw [HM.out]; exact hL)
            rw [this, hS.out]
            show some ((t + k) % n) = _
            rw [HM.out]
          · rw [hsc.out] at h'; cases h'
        clear hL e0
        go_wp2_with fail
        go_quiet (fail)
        go_wp2_with fail
        go_ret2
        exact ⟨by rw [SN.out]; rfl, _, rfl⟩
    · have hkn : k = n := by omega
      subst hkn
      have hn1 : ¬ (k : Int) < k := by omega
      clear c2 c3
      go_wp2_with fail
      go_ret2
      exact ⟨by rw [hsc.out]; rfl, _, rfl⟩
set_option maxRecDepth 100000 in
set_option maxHeartbeats 6400000 in
theorem wtick_ok (w : World) (bw bp n r : Nat) (unit : Int) (s : WS) (h : WOk w bw bp n (r : Int) unit s) (hn8 : n ≤ 8) (hr : r ≤ 1000) (hu : unit ≤ 1000) :
    Calls Try.prog 19 #[.pointer (some ⟨bw, 0, none⟩)] w fun e w' => e = .returned (.int .i64 (wgot n s r)) ∧ WOk w' bw bp n r unit (wit n unit s r) ∧ Only bw bp w w' := by
  have HI := Lib.hid h.2
  have hn : 0 < n := by have := h.2.turn; omega
  have HW := Lib.hid h.1
  have c0 := h.1.c0
  clear h
  go_enter Try.func19, Try.ntmps19
  go_wp2_with fail
  clear c0
  go_loopw [11] (fun vi wr => ∃ q : Nat, q ≤ r ∧ vi = .int .i64 q ∧ Hid ((q : Int) ≤ wtot s n) ∧ WB wr bw bp n r unit (wit n unit s q).L (wit n unit s q).P (fun i => (wit n unit s q).L i == 0) (wit n unit s q).t ∧ Only bw bp w wr) (fun vi _ => r - (intOf vi).toNat)
  case atStart => exact ⟨0, Nat.zero_le _, rfl, Lib.hid (tot_nonneg HI.out n (Nat.le_refl _)).1, HW.out, Only.refl _ _ _⟩
  case round =>
    obtain ⟨q, hq, rfl, hqt, hwb, hon⟩ := hrel
    have hq0 : (0 : Int) ≤ q := by omega
    have INV := Lib.hid (inv_wit HI.out q)
    have EN := Lib.hid (fun h1 h2 => wgot_end HI.out (q := q) (r := r) hqt.out h1 h2)
    have NX := Lib.hid (fun i h1 => wit_next HI.out (q := q) (i := i) hqt.out h1)
    have WS1 := Lib.hid (wit_succ n unit s q)
    obtain ⟨L, P, t, hst⟩ : ∃ L P t, wit n unit s q = ⟨L, P, t⟩ := ⟨_, _, _, rfl⟩
    rw [hst] at hwb INV EN NX WS1
    have HST := Lib.hid hst
    have HB := Lib.hid hwb
    have HO := Lib.hid hon
    have ht := INV.out.turn
    clear hst
    simp only at hwb ht
    by_cases hlt : q < r
    · have hn1 : (q : Int) < r := by omega
      have NC := Lib.hid (wnext_ok wr bw bp n r unit L P t hwb hn hn8 ht ⟨L, P, t⟩ rfl)
      clear hwb hon
      go_wp2_with fail
      refine NC.out.mono ?_
      rintro e w1 ⟨rfl, k, rfl⟩
      have hw1 := HB.out.drewN k
      have ho1 := HO.out.drewN k
      generalize wr.drewN k = w1 at hw1 ho1 ⊢
      have HB1 := Lib.hid hw1
      have HO1 := Lib.hid ho1
      clear hw1 ho1 NC
      cases hsc : wscan n ⟨L, P, t⟩ n with
      | none =>
        obtain ⟨g1, g2⟩ := EN.out hlt hsc
        have G1 := Lib.hid g1
        have G2 := Lib.hid g2
        clear g1 g2 hsc
        unfold nextV
        go_wp2_with fail
        go_ret
        exact ⟨ret_int G1.out.symm, ⟨by rw [G2.out]; exact HB1.out, by rw [G2.out]; exact INV.out⟩, HO1.out⟩
      | some i =>
        obtain ⟨hi, hLi⟩ := scan_lt hn hsc
        have NQ := Lib.hid (NX.out i hsc)
        have W1 := Lib.hid (WS1.out.trans (wone_some hsc))
        have lag := INV.out.lag i hi
        have part := INV.out.part i hi
        simp only at hLi lag part
        have hii : (i : Int) < n := by omega
        have hi0 : (0 : Int) ≤ i := by omega
        obtain ⟨m, hm⟩ : ∃ m, (i + 1) % n = m := ⟨_, rfl⟩
        have hmn : m < n := by rw [← hm]; exact Nat.mod_lt _ hn
        have f1 : IntKind.i64.wrap ((i : Int) + 1) = (i : Int) + 1 := IntWalk.i64_in _ ⟨by omega, by omega⟩
        have gn : ((n : Int) == 0) = false := by simp; omega
        have gn2 : (n : Int) ≠ 0 := by omega
        have htm : ((i : Int) + 1).tmod (n : Int) = (m : Int) := by
          rw [Int.tmod_eq_emod_of_nonneg (by omega), ← hm]
          push_cast
          rfl
        have f2 : IntKind.i64.wrap (m : Int) = (m : Int) := IntWalk.i64_in _ ⟨by omega, by omega⟩
        have f3 : wrap64 (m : Int) = (m : Int) := IntWalk.wrap64_in _ ⟨by omega, by omega⟩
        have f4 : IntKind.i64.wrap (P i + 1) = P i + 1 := IntWalk.i64_in _ ⟨by omega, by omega⟩
        have f5 : IntKind.i64.wrap (L i - (P i + 1)) = L i - (P i + 1) := IntWalk.i64_in _ ⟨by omega, by omega⟩
        have hne := HB1.out.ne
        have hne2 : bp ≠ bw := hne.symm
        have d2 := HB1.out.c2
        have dp1 := HB1.out.p1 i hi
        have fw := HB1.out.fw
        have fp := HB1.out.fp
        have HM := Lib.hid hm
        have wb2 := (HB1.out.setT m).setP hi (P i + 1)
        have on2 := (HO1.out.set ⟨bw, 3, none⟩ (.inl rfl) (.int .i64 m)).set ⟨bp, i * 3 + 1, none⟩ (.inr rfl) (.int .i64 (P i + 1))
        have d3 := HB1.out.c3
        clear hm hsc
        unfold nextV
        go_wp2_with fail
        clear d2 d3 dp1 fw fp
        generalize (w1.setCell ⟨bw, 3, none⟩ (.int .i64 (m : Int))).setCell ⟨bp, i * 3 + 1, none⟩ (.int .i64 (P i + 1)) = w2 at wb2 on2 ⊢
        have WB2 := Lib.hid wb2
        have ON2 := Lib.hid on2
        have d1 := wb2.c1
        have dp0 := wb2.p0 i hi
        have dp1 := wb2.p1 i hi
        rw [updN_same] at dp1
        clear wb2 on2 f1 gn gn2 htm f2 f3
        by_cases hc : P i + 1 = unit ∨ P i + 1 = L i
        · have ADV : Hid (wit n unit s (q + 1) = ⟨updN L i (L i - (P i + 1)), updN P i 0, m⟩) := by
            show _ = _
            rw [W1.out]
            unfold wadv
            rw [if_pos (show (WS.mk L P t).P i + 1 = unit ∨ (WS.mk L P t).P i + 1 = (WS.mk L P t).L i from hc)]
            show WS.mk _ _ ((i + 1) % n) = _
            rw [HM.out]
          have hc2 : (P i + 1 == unit) = true ∨ ((P i + 1 == unit) = false ∧ (P i + 1 == L i) = true) := by
            by_cases h1 : P i + 1 = unit
            · exact .inl (by simpa using h1)
            · exact .inr ⟨by simpa using h1, by simp; omega⟩
          clear hc
          rcases hc2 with hc | ⟨hc, hc'⟩
          all_goals
            go_wp2_with fail
            go_quiet (fail)
            go_wp2_with fail
            have wb3 := WB2.out.drewN nq
            have on3 := ON2.out.drewN nq
            clear d1 dp0 dp1
            generalize w2.drewN nq = w3 at wb3 on3 ⊢
            have dp0 := wb3.p0 i hi
            have dp1 := wb3.p1 i hi
            rw [updN_same] at dp1
            have fp := wb3.fp
            have wb4 := (wb3.setL hi (L i - (P i + 1))).drew
            have on4 := (on3.set ⟨bp, i * 3, none⟩ (.inr rfl) (.int .i64 (L i - (P i + 1)))).drew
            have WB4 := Lib.hid wb4
            have ON4 := Lib.hid on4
            clear wb3 on3 wb4 on4
            go_region_law (fail)
            all_goals
              clear dp0 dp1 fp
              obtain ⟨w4, hw4⟩ : ∃ w4, (w3.setCell ⟨bp, i * 3, none⟩ (.int .i64 (L i - (P i + 1)))).drew = w4 := ⟨_, rfl⟩
              rw [hw4] at WB4 ON4 ⊢
              clear hw4
              have dp0 := WB4.out.p0 i hi
              have dp1 := WB4.out.p1 i hi
              have dp2 := WB4.out.p2 i hi
              rw [updN_same] at dp0 dp1
              have fp := WB4.out.fp
              have WB6 := Lib.hid ((WB4.out.setP hi 0).setD hi (L i - (P i + 1) == 0))
              have ON6 := Lib.hid ((ON4.out.set ⟨bp, i * 3 + 1, none⟩ (.inr rfl) (.int .i64 0)).set ⟨bp, i * 3 + 2, none⟩ (.inr rfl) (.bool (L i - (P i + 1) == 0)))
              go_wp2_with fail
              go_roundw
              case rel =>
                refine ⟨q + 1, by omega, by go_num, NQ, ?_, ON6.out⟩
                rw [ADV.out]
                refine WB6.out.congr (fun k hk => rfl) (fun k hk => ?_) (fun k hk => ?_)
                · by_cases hki : k = i
                  · subst hki; rw [updN_same]; exact (updN_same _ _ _).symm
                  · rw [updN_other hki, updN_other hki]; exact (updN_other hki).symm
                · show _ = (updN L i (L i - (P i + 1)) k == 0)
                  by_cases hki : k = i
                  · subst hki; rw [if_pos rfl, updN_same]
                  · rw [if_neg hki, updN_other hki]
              case measure => simp [intOf]; omega
        · have ADV : Hid (wit n unit s (q + 1) = ⟨L, updN P i (P i + 1), m⟩) := by
            show _ = _
            rw [W1.out]
            unfold wadv
            rw [if_neg (show ¬ ((WS.mk L P t).P i + 1 = unit ∨ (WS.mk L P t).P i + 1 = (WS.mk L P t).L i) from hc)]
            show WS.mk _ _ ((i + 1) % n) = _
            rw [HM.out]
          have hc1 : (P i + 1 == unit) = false := by simp; omega
          have hc2 : (P i + 1 == L i) = false := by simp; omega
          clear hc
          go_wp2_with fail
          go_quiet (fail)
          go_wp2_with fail
          go_roundw
          case rel =>
            refine ⟨q + 1, by omega, by go_num, NQ, ?_, ON2.out.drewN _⟩
            rw [ADV.out]
            exact WB2.out.drewN _
          case measure => simp [intOf]; omega
    · have hqr : q = r := by omega
      subst hqr
      have hn1 : ¬ (q : Int) < q := by omega
      have c0 := HB.out.c0
      have G : Hid (wgot n s q = q) := if_pos hqt.out
      clear hwb hon
      go_wp2_with fail
      go_ret
      exact ⟨ret_int G.out.symm, ⟨by rw [HST.out]; exact HB.out, by rw [HST.out]; exact INV.out⟩, HO.out⟩
end Go.Proofs.Ytehdphkaknjlnaa
