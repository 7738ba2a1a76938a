/- TopSnapshot where nothing is sent. -/
import Derived.Test.YtehdphkaknjlnaaSnapW
set_option linter.unusedVariables false
namespace Go.Proofs.Ytehdphkaknjlnaa
open Go.RowKit
set_option maxRecDepth 100000 in
set_option maxHeartbeats 12800000 in
theorem snap_none (s u r : Int) (A : Option Addr) (n c : Nat) (bs : List Bool) (O : Option Addr) (m d : Nat) (ord : List Int) (W : World) (w3 : InBools W A n c bs) (w4 : InInts W O m d ord) (hok : pieceOk s u) (hr : resumeOk s u r ∧ n ≤ 200) (hnn : n = 0) :
    Calls Try.prog 13 #[.int .i64 s, .int .i64 u, .int .i64 r, .slice A n c, .slice O m d] W fun e w' => e = .returned (.bool true) ∧ Below W.heap.size W w' := by
  have HNN := Lib.hid hnn
  clear hnn
  obtain ⟨sb, lb, rb⟩ := w3
  obtain ⟨so, lo, ro, zo⟩ := w4
  have SB := Lib.hid sb
  have SO := Lib.hid so
  have HLB := Lib.hid sb.bool_len
  have HLO := Lib.hid so.int_len
  have ZO := Lib.hid zo
  clear sb so zo
  go_enter Try.func13, Try.ntmps13
  go_wp2_with fail
  obtain ⟨N, hN⟩ : ∃ N : Nat, ceil s u = N := ⟨(ceil s u).toNat, by have := ceil_nonneg (d := s) hok.1.2.2.1 hok.1.1; omega⟩
  have HP : Hid (stageOk s u N) := ⟨hok, hN.symm⟩
  have HO := Lib.hid hok
  have HN := Lib.hid hN
  have n200 := stage_len HP.out
  clear hok hN
  refine (psizes_ok s u N _ HO.out HN.out).mono ?_
  rintro e w4 ⟨A4, c4, rfl, s4, bb4, l4⟩
  have B4 := Lib.hid bb4
  clear bb4 s4
  go_wp2_with fail
  refine (new_ok s u N _ HO.out HN.out).mono ?_
  rintro e w5 ⟨g5, rfl, s5, bb5, hg5⟩
  have B5 := Lib.hid (B4.out.trans (bb5.mono B4.out.size))
  have hz5 : Hid (W.heap.size ≤ w5.heap.size) := B5.out.size
  have X5 := Lib.hid (VBox.made w5 (.int .i64 s) (.int .i64 u) (.slice (some ⟨g5, 0, none⟩) N N) 59)
  have S5 := Lib.hid (slMore s5 (.cells #[.int .i64 s, .int .i64 u, .slice (some ⟨g5, 0, none⟩) N N] 59))
  have B5a := Lib.hid (B5.out.alloc B5.out.size (.cells #[.int .i64 s, .int .i64 u, .slice (some ⟨g5, 0, none⟩) N N] 59))
  have hsz : Hid (w5.heap.size < (w5.alloc (.cells #[.int .i64 s, .int .i64 u, .slice (some ⟨g5, 0, none⟩) N N] 59)).heap.size) := by show _ < _; simp
  have hg5b : Hid (0 < N → g5 < w5.heap.size) := Lib.hid fun h => by
    obtain ⟨b, off, hA, hb, -⟩ := s5.bool_at (k := 0) h
    injection hA with hA
    injection hA with hA
    omega
  clear s5 bb5
  go_wp2_with fail
  obtain ⟨w6, hw6⟩ : ∃ w6, w5.alloc (.cells #[.int .i64 s, .int .i64 u, .slice (some ⟨g5, 0, none⟩) N N] 59) = w6 := ⟨_, rfl⟩
  rw [hw6] at X5 S5 B5a hsz ⊢
  clear hw6
  refine (begun_any _ true rfl).mono ?_
  rintro e w7 ⟨rfl, b7⟩
  have X7 := Lib.hid (X5.out.on b7 hsz.out)
  have S7 := Lib.hid (S5.out.on b7)
  have B7 := Lib.hid (B5a.out.trans (b7.mono B5a.out.size))
  have hz7 : Hid (w5.heap.size < w7.heap.size) := Nat.lt_of_lt_of_le hsz.out b7.size
  clear b7
  go_wp2_with fail
  have HR := Lib.hid hr.1
  have hn2 := hr.2
  clear hr
  refine (run_ok s u r A n c bs _ HR.out hn2 ((SB.out.below B7.out).more B7.out.size)).mono ?_
  rintro e w8 ⟨A8, c8, rfl, s8, b8, l8⟩
  have X8 := Lib.hid (X7.out.on b8 hz7.out)
  have S8 := Lib.hid (S7.out.on b8)
  have B8 := Lib.hid (B7.out.trans (b8.mono B7.out.size))
  have hz8 : Hid (w5.heap.size < w8.heap.size) := Nat.lt_of_lt_of_le hz7.out b8.size
  have R8 := Lib.hid s8
  clear s8 b8
  go_wp2_with fail
  go_loopw [67, 16] (fun vi vc wr => ∃ k : Nat, k ≤ n ∧ vi = .int .i64 k ∧ vc = .int .i64 (crashes bs k : Int) ∧ wr = w8) (fun vi _ _ => n - (intOf vi).toNat)
  case atStart => exact ⟨0, Nat.zero_le _, rfl, rfl, rfl⟩
  case round =>
    obtain ⟨k, hk, rfl, rfl, hwr⟩ := hrel
    have hwr' := hwr.symm
    subst hwr'
    have hk0 : (0 : Int) ≤ k := by omega
    by_cases hlt : k < n
    · obtain ⟨b, off, rfl, hbl, hcb⟩ := (SB.out.below B8.out).bool_at hlt
      have hn1 : (k : Int) < n := by omega
      have hcl := crashes_le bs k
      have CS := Lib.hid (crashes_succ bs k)
      cases hgb : gb bs k with
      | true =>
        rw [hgb] at hcb
        have HGB := Lib.hid hgb
        clear hgb
        go_wp2_with fail
        go_roundw
        case rel => exact ⟨k + 1, by omega, by go_num, by rw [CS.out, HGB.out]; rfl, by first | trivial | rfl⟩
        case measure => simp [intOf]; omega
      | false =>
        rw [hgb] at hcb
        have HGB := Lib.hid hgb
        clear hgb
        go_wp2_with fail
        go_roundw
        case rel => exact ⟨k + 1, by omega, by go_num, by rw [CS.out, HGB.out]; rfl, by first | trivial | rfl⟩
        case measure => simp [intOf]; omega
    · have hkn : k = n := by omega
      subst hkn
      have hn1 : ¬ (k : Int) < k := by omega
      go_wp2_with fail
      refine (bound_snap s u r bs k _ HR.out hn2).mono ?_
      rintro e w9 ⟨n', e', rfl, hc, rfl⟩
      -- how many are whole
      obtain ⟨wh, hwh0, hwhN, hcase⟩ : ∃ wh : Nat, wh ≤ N ∧ (k = 0 → wh = 0 ∧ True) ∧ (0 < k → (wh : Int) = wholeN s u N (rgot s u r bs k)) := by
        by_cases h0 : k = 0
        · exact ⟨0, Nat.zero_le _, fun _ => ⟨rfl, trivial⟩, fun h => by omega⟩
        · have gb' := rgot_bd HR.out bs k
          obtain ⟨a1, a2, _⟩ := whole_bd HP.out gb'.1 gb'.2
          obtain ⟨x, hx⟩ := Int.eq_ofNat_of_zero_le a1
          exact ⟨x, by omega, fun h => absurd h h0, fun _ => hx.symm⟩

      have k0I : (0 : Int) ≤ k := by omega
      have hk0 : k = 0 := HNN.out
      obtain ⟨rfl, -⟩ := hwhN hk0
      subst hk0
      have hmk : ∀ w, (Instr.makeSlice 32 (.int .i64 0) (.int .i64 0)).run Try.prog w = .ok (.slice (some ⟨w.heap.size, 0, none⟩) 0 0) (w.alloc (.cells (ints (tab 0 fun _ => 0)).toArray 3)) := makeInts_R 0 (by omega)
      clear hcase hwhN
      rcases hc with rfl | ⟨rfl, hc | hc | ⟨j, rfl, hj, hx⟩⟩
      case' inr.inr.inr => exact absurd hj (by omega)
      case' inr.inl =>
        have q1 : n' ≤ 0 := by omega
        have q2 : ¬ 0 < n' := by omega
      case' inr.inr.inl =>
        have q1 : ¬ n' ≤ 0 := by omega
      all_goals
        go_wp2_with fail
        have T0 := Lib.hid (oneR_made w8 0 (by omega))
        have X10 := Lib.hid (X8.out.on ((Below.refl w8.heap.size w8).alloc (Nat.le_refl _) (.cells (ints (tab 0 fun _ => 0)).toArray 3)) hz8.out)
        have S10 := Lib.hid (slMore S8.out (.cells (ints (tab 0 fun _ => 0)).toArray 3))
        have B10 := Lib.hid (B8.out.alloc B8.out.size (.cells (ints (tab 0 fun _ => 0)).toArray 3))
        have hsz10 : Hid (w8.heap.size < (w8.alloc (.cells (ints (tab 0 fun _ => 0)).toArray 3)).heap.size) := by show _ < _; simp
        obtain ⟨w10, hw10⟩ : ∃ w10, w8.alloc (.cells (ints (tab 0 fun _ => 0)).toArray 3) = w10 := ⟨_, rfl⟩
        rw [hw10] at T0 X10 S10 B10 hsz10 ⊢
        obtain ⟨gl, hgl⟩ : ∃ gl, w8.heap.size = gl := ⟨_, rfl⟩
        have hglz : Hid (w5.heap.size < gl) := Lib.hid (by rw [← hgl]; exact hz8.out)
        have hWgl : Hid (W.heap.size ≤ gl) := Lib.hid (by rw [← hgl]; exact B8.out.size)
        have BASE := Lib.hid hgl
        rw [hgl] at T0 hsz10 ⊢
        clear hw10 hgl
        go_loopw [133] (fun vi wr => ∃ i : Nat, i ≤ 0 ∧ vi = .int .i64 i ∧ Hid (OneR w8 wr (gl + 1) 0 gl (fun q => if q < i then (q : Int) else 0)) ∧ Hid (OnlyD gl w10 wr)) (fun vi _ => 0 - (intOf vi).toNat)
        case atStart => exact ⟨0, Nat.zero_le _, rfl, Lib.hid (T0.out.congr fun q _ => by rw [if_neg (Nat.not_lt_zero q)]), Lib.hid (OnlyD.refl _ _)⟩
        case round =>
          obtain ⟨i, hi, rfl, hT, hO⟩ := hrel
          have hi0 : (0 : Int) ≤ i := by omega
          by_cases hlt : i < 0
          · exact absurd hlt (by omega)
          · have hin : Hid (i = 0) := by show i = 0; omega
            have hn1 : ¬ (i : Int) < 0 := by omega
            have LS : Hid (wr.ownsRow gl 3 1 (.slice (some ⟨gl, 0, none⟩) (tab 0 fun q => (q : Int)).length 0) (tab 0 fun q => (q : Int)).length (ints (tab 0 fun q => (q : Int)))) := by
              show World.ownsRow _ _ _ _ _ _ _
              have := (hT.out.congr (u' := fun q => (q : Int)) fun q hq => by rw [hin.out, if_pos hq]).l
              rw [BASE.out] at this
              rw [tab_len]
              exact this
            have SN0 : Hid (Snap 0 N (tab 0 fun q => (q : Int)) (List.replicate N false)) := Lib.hid (Snap.start _ (fun z hz => by
              obtain ⟨j, hj⟩ := List.getElem?_of_mem hz
              have hjl := (List.getElem?_eq_some_iff.1 hj).1
              rw [tab_len] at hjl
              have := tab_get (fun q => (q : Int)) hjl
              unfold gi at this
              rw [List.getD_eq_getElem?_getD, hj] at this
              simp at this
              omega) (fun q hq => by
              have := tab_get (fun q => (q : Int)) hq
              have h2 := gi_mem (zs := tab 0 fun q => (q : Int)) (k := q) (by rw [tab_len]; exact hq)
              rwa [this] at h2))
            have XR := Lib.hid (X10.out.onD hO.out (Nat.lt_trans hglz.out hsz10.out) (by have := hglz.out; omega))
            have SR := Lib.hid (S10.out.onD hO.out (fun h => by have := hg5b.out h; have := hglz.out; omega))
            have BR := Lib.hid (B10.out.trans (hO.out.below hWgl.out B10.out.size))
            have ZR : Hid (gl < wr.heap.size) := Nat.lt_of_lt_of_le hsz10.out hO.out.size
            have GR : Hid (0 < N → g5 ≠ gl) := Lib.hid fun h => by have := hg5b.out h; have := hglz.out; omega
            have L0 : (tab 0 fun q => (q : Int)).length = 0 := tab_len _ _
            clear hT hO hlt
            go_wp2_with fail
            go_loopw [23, 21] (fun vi vl wr' => ∃ (t : Nat) (ls : List Int) (bs' : List Bool) (gh ch : Nat), vi = .int .i64 t ∧ vl = .slice (some ⟨gl, 0, none⟩) ls.length 0 ∧ t + ls.length = 0 ∧ Hid (Snap 0 N ls bs') ∧ Hid (wr'.ownsRow gl 3 1 (.slice (some ⟨gl, 0, none⟩) ls.length 0) ls.length (ints ls)) ∧ Hid (VBox wr' w5.heap.size (.int .i64 s) (.int .i64 u) (.slice (some ⟨gh, 0, none⟩) N ch)) ∧ Hid (Sl wr' wr'.heap.size (some ⟨gh, 0, none⟩) N (bools bs')) ∧ Hid (0 < N → gh ≠ gl) ∧ Hid (Below W.heap.size W wr') ∧ Hid (gl < wr'.heap.size)) (fun vi _ _ => 0 + 1 - (intOf vi).toNat)
            case atStart => exact ⟨0, _, _, _, _, rfl, by rw [L0], by omega, SN0, LS, XR, SR, GR, BR, ZR⟩
            case round =>
              obtain ⟨t, ls, bs', gh, ch, rfl, rfl, htl, hSn, hLs, hX, hS, hG, hB, hZ⟩ := hrel
              have ht0 : (0 : Int) ≤ t := by omega
              obtain ⟨x0, x1, x2, xf⟩ := hX.out
              by_cases hl0 : 0 < ls.length
              · exact absurd hl0 (by omega)
              · have hll : ls = [] := List.eq_nil_of_length_eq_zero (by omega)
                subst hll
                obtain ⟨e1, e2⟩ := snap_end HP.out hSn.out (by omega)
                have E1 := Lib.hid e1
                have E2 := Lib.hid e2
                clear e1 e2 hl0
                clear x0 x1 x2 xf
                by_cases hN0 : N = 0
                · obtain ⟨g1, g2⟩ := E1.out hN0.symm
                  have G2 := Lib.hid g2
                  subst hN0
                  clear g2
                  obtain ⟨x0, x1, x2, xf⟩ := hX.out
                  go_wp2_with fail
                  refine (got_ok s u _ 0 ch _ _ hS.out HP.out s g1).mono ?_
                  rintro e wa ⟨rfl, ba⟩
                  have BA := Lib.hid (hB.out.trans (ba.mono hB.out.size))
                  have SA := Lib.hid (hS.out.on ba)
                  have XA := hX.out.on ba (Nat.lt_trans hglz.out hZ.out)
                  clear x0 x1 x2 xf
                  obtain ⟨x0, x1, x2, xf⟩ := XA
                  clear ba g1
                  go_wp2_with fail
                  refine (next_first s u _ 0 ch _ _ SA.out HP.out).mono ?_
                  rintro e wb ⟨x, er, rfl, hans, bb⟩
                  have BB := Lib.hid (BA.out.trans (bb.mono BA.out.size))
                  obtain rfl := G2.out x er hans
                  clear bb hans x0 x1 x2 xf
                  go_wp2_with fail
                  go_ret
                  exact ⟨rfl, BB.out⟩
                · obtain ⟨g1, g2⟩ := E2.out (fun h => hN0 h.symm)
                  have G2 := Lib.hid g2
                  have hwN : ((0 : Int) == (N : Int)) = false := by simp; omega
                  have hN1 : (0 : Int) ≠ N := by omega
                  rw [show ((0 : Nat) : Int) * u = 0 from Int.zero_mul u] at g1
                  clear g2 hN0
                  obtain ⟨x0, x1, x2, xf⟩ := hX.out
                  go_wp2_with fail
                  refine (got_ok s u _ N ch _ _ hS.out HP.out 0 g1).mono ?_
                  rintro e wa ⟨rfl, ba⟩
                  have BA := Lib.hid (hB.out.trans (ba.mono hB.out.size))
                  have SA := Lib.hid (hS.out.on ba)
                  have XA := hX.out.on ba (Nat.lt_trans hglz.out hZ.out)
                  clear x0 x1 x2 xf
                  obtain ⟨x0, x1, x2, xf⟩ := XA
                  clear ba g1
                  go_wp2_with fail
                  refine (next_first s u _ N ch _ _ SA.out HP.out).mono ?_
                  rintro e wb ⟨x, er, rfl, hans, bb⟩
                  have BB := Lib.hid (BA.out.trans (bb.mono BA.out.size))
                  obtain ⟨rfl, hx0⟩ := G2.out x er hans
                  have hx0' : x = 0 := hx0
                  subst hx0'
                  clear bb hans x0 x1 x2 xf hx0
                  go_wp2_with fail
                  go_ret
                  exact ⟨rfl, BB.out⟩
end Go.Proofs.Ytehdphkaknjlnaa
