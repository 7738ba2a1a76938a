/- TopSnapshot where all of it was sent. -/
import Derived.Test.YtehdphkaknjlnaaSnapW
set_option linter.unusedVariables false
namespace Go.Proofs.Ytehdphkaknjlnaa
open Go.RowKit
set_option maxRecDepth 100000 in
set_option maxHeartbeats 12800000 in
theorem snap_all (s u r : Int) (A : Option Addr) (n c : Nat) (bs : List Bool) (O : Option Addr) (m d : Nat) (ord : List Int) (W : World) (w3 : InBools W A n c bs) (w4 : InInts W O m d ord) (hok : pieceOk s u) (hr : resumeOk s u r ∧ n ≤ 200) (hnn : 0 < n) (hls : rgot s u r bs n = s) :
    Calls Try.prog 13 #[.int .i64 s, .int .i64 u, .int .i64 r, .slice A n c, .slice O m d] W fun e w' => e = .returned (.bool true) ∧ Below W.heap.size W w' := by
  obtain ⟨sb, lb, rb⟩ := w3
  obtain ⟨so, lo, ro, zo⟩ := w4
  have SB := Lib.hid sb
  have SO := Lib.hid so
  have HLB := Lib.hid sb.bool_len
  have HLO := Lib.hid so.int_len
  have ZO := Lib.hid zo
  clear sb so zo
  go_enter Try.func13, Try.ntmps13
  go_wp2_with fail
  obtain ⟨N, hN⟩ : ∃ N : Nat, ceil s u = N := ⟨(ceil s u).toNat, by have := ceil_nonneg (d := s) hok.1.2.2.1 hok.1.1; omega⟩
  have HP : Hid (stageOk s u N) := ⟨hok, hN.symm⟩
  have HO := Lib.hid hok
  have HN := Lib.hid hN
  have n200 := stage_len HP.out
  clear hok hN
  refine (psizes_ok s u N _ HO.out HN.out).mono ?_
  rintro e w4 ⟨A4, c4, rfl, s4, bb4, l4⟩
  have B4 := Lib.hid bb4
  clear bb4 s4
  go_wp2_with fail
  refine (new_ok s u N _ HO.out HN.out).mono ?_
  rintro e w5 ⟨g5, rfl, s5, bb5, hg5⟩
  have B5 := Lib.hid (B4.out.trans (bb5.mono B4.out.size))
  have hz5 : Hid (W.heap.size ≤ w5.heap.size) := B5.out.size
  have X5 := Lib.hid (VBox.made w5 (.int .i64 s) (.int .i64 u) (.slice (some ⟨g5, 0, none⟩) N N) 59)
  have S5 := Lib.hid (slMore s5 (.cells #[.int .i64 s, .int .i64 u, .slice (some ⟨g5, 0, none⟩) N N] 59))
  have B5a := Lib.hid (B5.out.alloc B5.out.size (.cells #[.int .i64 s, .int .i64 u, .slice (some ⟨g5, 0, none⟩) N N] 59))
  have hsz : Hid (w5.heap.size < (w5.alloc (.cells #[.int .i64 s, .int .i64 u, .slice (some ⟨g5, 0, none⟩) N N] 59)).heap.size) := by show _ < _; simp
  have hg5b : Hid (0 < N → g5 < w5.heap.size) := Lib.hid fun h => by
    obtain ⟨b, off, hA, hb, -⟩ := s5.bool_at (k := 0) h
    injection hA with hA
    injection hA with hA
    omega
  clear s5 bb5
  go_wp2_with fail
  obtain ⟨w6, hw6⟩ : ∃ w6, w5.alloc (.cells #[.int .i64 s, .int .i64 u, .slice (some ⟨g5, 0, none⟩) N N] 59) = w6 := ⟨_, rfl⟩
  rw [hw6] at X5 S5 B5a hsz ⊢
  clear hw6
  refine (begun_any _ true rfl).mono ?_
  rintro e w7 ⟨rfl, b7⟩
  have X7 := Lib.hid (X5.out.on b7 hsz.out)
  have S7 := Lib.hid (S5.out.on b7)
  have B7 := Lib.hid (B5a.out.trans (b7.mono B5a.out.size))
  have hz7 : Hid (w5.heap.size < w7.heap.size) := Nat.lt_of_lt_of_le hsz.out b7.size
  clear b7
  go_wp2_with fail
  have HR := Lib.hid hr.1
  have hn2 := hr.2
  clear hr
  refine (run_ok s u r A n c bs _ HR.out hn2 ((SB.out.below B7.out).more B7.out.size)).mono ?_
  rintro e w8 ⟨A8, c8, rfl, s8, b8, l8⟩
  have X8 := Lib.hid (X7.out.on b8 hz7.out)
  have S8 := Lib.hid (S7.out.on b8)
  have B8 := Lib.hid (B7.out.trans (b8.mono B7.out.size))
  have hz8 : Hid (w5.heap.size < w8.heap.size) := Nat.lt_of_lt_of_le hz7.out b8.size
  have R8 := Lib.hid s8
  clear s8 b8
  go_wp2_with fail
  go_loopw [67, 16] (fun vi vc wr => ∃ k : Nat, k ≤ n ∧ vi = .int .i64 k ∧ vc = .int .i64 (crashes bs k : Int) ∧ wr = w8) (fun vi _ _ => n - (intOf vi).toNat)
  case atStart => exact ⟨0, Nat.zero_le _, rfl, rfl, rfl⟩
  case round =>
    obtain ⟨k, hk, rfl, rfl, hwr⟩ := hrel
    have hwr' := hwr.symm
    subst hwr'
    have hk0 : (0 : Int) ≤ k := by omega
    by_cases hlt : k < n
    · obtain ⟨b, off, rfl, hbl, hcb⟩ := (SB.out.below B8.out).bool_at hlt
      have hn1 : (k : Int) < n := by omega
      have hcl := crashes_le bs k
      have CS := Lib.hid (crashes_succ bs k)
      cases hgb : gb bs k with
      | true =>
        rw [hgb] at hcb
        have HGB := Lib.hid hgb
        clear hgb
        go_wp2_with fail
        go_roundw
        case rel => exact ⟨k + 1, by omega, by go_num, by rw [CS.out, HGB.out]; rfl, by first | trivial | rfl⟩
        case measure => simp [intOf]; omega
      | false =>
        rw [hgb] at hcb
        have HGB := Lib.hid hgb
        clear hgb
        go_wp2_with fail
        go_roundw
        case rel => exact ⟨k + 1, by omega, by go_num, by rw [CS.out, HGB.out]; rfl, by first | trivial | rfl⟩
        case measure => simp [intOf]; omega
    · have hkn : k = n := by omega
      subst hkn
      have hn1 : ¬ (k : Int) < k := by omega
      go_wp2_with fail
      refine (bound_snap s u r bs k _ HR.out hn2).mono ?_
      rintro e w9 ⟨n', e', rfl, hc, rfl⟩
      -- how many are whole
      obtain ⟨wh, hwh0, hwhN, hcase⟩ : ∃ wh : Nat, wh ≤ N ∧ (k = 0 → wh = 0 ∧ True) ∧ (0 < k → (wh : Int) = wholeN s u N (rgot s u r bs k)) := by
        by_cases h0 : k = 0
        · exact ⟨0, Nat.zero_le _, fun _ => ⟨rfl, trivial⟩, fun h => by omega⟩
        · have gb' := rgot_bd HR.out bs k
          obtain ⟨a1, a2, _⟩ := whole_bd HP.out gb'.1 gb'.2
          obtain ⟨x, hx⟩ := Int.eq_ofNat_of_zero_le a1
          exact ⟨x, by omega, fun h => absurd h h0, fun _ => hx.symm⟩

      have k0I : (0 : Int) ≤ k := by omega
      have hk0 : 0 < k := hnn
      obtain ⟨kp, hkp⟩ : ∃ kp, k = kp + 1 := ⟨k - 1, by omega⟩
      have w1 : IntKind.i64.wrap ((k : Int) - 1) = (kp : Int) := by rw [hkp]; push_cast; exact (IntWalk.i64_in _ ⟨by omega, by omega⟩).trans (by omega)
      have w2 : (kp : Int) < k := by omega
      have w3 : (0 : Int) ≤ kp := by omega
      have w4' : (0 : Int) < k := by omega
      have HKP := Lib.hid hkp
      obtain ⟨b8, o8, rfl, hb8, -⟩ := R8.out.int_at (k := kp) (by omega)
      have hwI := hcase hk0
      have lastb := rgot_bd HR.out bs k
      have cl : w8.cell? ⟨b8, o8 + kp, none⟩ = some (.int .i64 (rgot s u r bs k)) := by
        have := R8.out.int_cell (k := kp) (by omega)
        rw [rres_get _ _ _ _ (by omega), ← hkp] at this
        exact this
      have WB' := Lib.hid (whole_bd HP.out lastb.1 lastb.2)
      have u1 := HO.out.1.2.2.1
      have u2 : (u == 0) = false := by simp; omega
      have u3 : u ≠ 0 := by omega
      have s1 := HO.out.1.2.1
      obtain ⟨last, hlast⟩ : ∃ last, rgot s u r bs k = last := ⟨_, rfl⟩
      rw [hlast] at hls hwI lastb cl WB'
      obtain ⟨Z, hZ, hZ0, hZ1⟩ : ∃ Z, last.tdiv u = Z ∧ 0 ≤ Z ∧ Z ≤ 1000000 := ⟨_, rfl, by rw [Int.tdiv_eq_ediv_of_nonneg lastb.1]; exact Int.ediv_nonneg lastb.1 (by omega), by rw [Int.tdiv_eq_ediv_of_nonneg lastb.1]; exact Int.le_trans (Int.ediv_le_self _ lastb.1) (by omega)⟩
      have HZ := Lib.hid hZ
      have XCELL := Lib.hid (fun (j : Nat) (hj : j < k) => (R8.out.int_cell (k := j) hj))
      clear hkp hcase hwhN
      have hmk := makeInts_R N (by omega)
      have HLS := Lib.hid hls
      clear hwI hlast hZ
      have hls' := hls.symm
      subst hls'
      rcases hc with rfl | ⟨rfl, hc | hc | ⟨j, rfl, hj, hx⟩⟩
      case' inr.inl =>
        have q1 : n' ≤ (k : Int) := by omega
        have q2 : ¬ 0 < n' := by omega
      case' inr.inr.inl =>
        have q1 : ¬ n' ≤ (k : Int) := by omega
      case' inr.inr.inr =>
        have q1 : (j : Int) + 1 ≤ (k : Int) := by omega
        have q2 : (0 : Int) < (j : Int) + 1 := by omega
        have q3 : (j : Int) < k := by omega
        have q4 : (0 : Int) ≤ j := by omega
        have q5 : w8.cell? ⟨b8, o8 + j, none⟩ = some (.int .i64 s) := by rw [XCELL.out j hj, rres_get _ _ _ _ hj, hx]
      all_goals
        go_wp2_with fail
        have T0 := Lib.hid (oneR_made w8 N (by omega))
        have X10 := Lib.hid (X8.out.on ((Below.refl w8.heap.size w8).alloc (Nat.le_refl _) (.cells (ints (tab N fun _ => 0)).toArray 3)) hz8.out)
        have S10 := Lib.hid (slMore S8.out (.cells (ints (tab N fun _ => 0)).toArray 3))
        have B10 := Lib.hid (B8.out.alloc B8.out.size (.cells (ints (tab N fun _ => 0)).toArray 3))
        have hsz10 : Hid (w8.heap.size < (w8.alloc (.cells (ints (tab N fun _ => 0)).toArray 3)).heap.size) := by show _ < _; simp
        obtain ⟨w10, hw10⟩ : ∃ w10, w8.alloc (.cells (ints (tab N fun _ => 0)).toArray 3) = w10 := ⟨_, rfl⟩
        rw [hw10] at T0 X10 S10 B10 hsz10 ⊢
        obtain ⟨gl, hgl⟩ : ∃ gl, w8.heap.size = gl := ⟨_, rfl⟩
        have hglz : Hid (w5.heap.size < gl) := Lib.hid (by rw [← hgl]; exact hz8.out)
        have hWgl : Hid (W.heap.size ≤ gl) := Lib.hid (by rw [← hgl]; exact B8.out.size)
        have BASE := Lib.hid hgl
        rw [hgl] at T0 hsz10 ⊢
        clear hw10 hgl
        go_loopw [133] (fun vi wr => ∃ i : Nat, i ≤ N ∧ vi = .int .i64 i ∧ Hid (OneR w8 wr (gl + 1) N gl (fun q => if q < i then (q : Int) else 0)) ∧ Hid (OnlyD gl w10 wr)) (fun vi _ => N - (intOf vi).toNat)
        case atStart => exact ⟨0, Nat.zero_le _, rfl, Lib.hid (T0.out.congr fun q _ => by rw [if_neg (Nat.not_lt_zero q)]), Lib.hid (OnlyD.refl _ _)⟩
        case round =>
          obtain ⟨i, hi, rfl, hT, hO⟩ := hrel
          have hi0 : (0 : Int) ≤ i := by omega
          by_cases hlt : i < N
          · have hn1 : (i : Int) < N := by omega
            obtain ⟨cc, cf⟩ := hT.out.cl hlt
            have TS := Lib.hid (hT.out.set hlt (i : Int))
            have OS := Lib.hid (hO.out.set i (.int .i64 (i : Int)))
            go_wp2_with fail
            go_roundw
            case rel =>
              refine ⟨i + 1, by omega, by go_num, Lib.hid (TS.out.congr fun q hq => ?_), OS⟩
              by_cases h1 : q = i
              · rw [if_pos h1, if_pos (show q < i + 1 by omega), h1]
              · rw [if_neg h1]
                by_cases h2 : q < i
                · rw [if_pos h2, if_pos (show q < i + 1 by omega)]
                · rw [if_neg h2, if_neg (show ¬ q < i + 1 by omega)]
            case measure => simp [intOf]; omega
          · have hin : Hid (i = N) := by show i = N; omega
            have hn1 : ¬ (i : Int) < N := by omega
            have LS : Hid (wr.ownsRow gl 3 1 (.slice (some ⟨gl, 0, none⟩) (tab N fun q => (q : Int)).length N) (tab N fun q => (q : Int)).length (ints (tab N fun q => (q : Int)))) := by
              show World.ownsRow _ _ _ _ _ _ _
              have := (hT.out.congr (u' := fun q => (q : Int)) fun q hq => by rw [hin.out, if_pos hq]).l
              rw [BASE.out] at this
              rw [tab_len]
              exact this
            have SN0 : Hid (Snap N N (tab N fun q => (q : Int)) (List.replicate N false)) := Lib.hid (Snap.start _ (fun z hz => by
              obtain ⟨j, hj⟩ := List.getElem?_of_mem hz
              have hjl := (List.getElem?_eq_some_iff.1 hj).1
              rw [tab_len] at hjl
              have := tab_get (fun q => (q : Int)) hjl
              unfold gi at this
              rw [List.getD_eq_getElem?_getD, hj] at this
              simp at this
              omega) (fun q hq => by
              have := tab_get (fun q => (q : Int)) hq
              have h2 := gi_mem (zs := tab N fun q => (q : Int)) (k := q) (by rw [tab_len]; exact hq)
              rwa [this] at h2))
            have XR := Lib.hid (X10.out.onD hO.out (Nat.lt_trans hglz.out hsz10.out) (by have := hglz.out; omega))
            have SR := Lib.hid (S10.out.onD hO.out (fun h => by have := hg5b.out h; have := hglz.out; omega))
            have BR := Lib.hid (B10.out.trans (hO.out.below hWgl.out B10.out.size))
            have ZR : Hid (gl < wr.heap.size) := Nat.lt_of_lt_of_le hsz10.out hO.out.size
            have GR : Hid (0 < N → g5 ≠ gl) := Lib.hid fun h => by have := hg5b.out h; have := hglz.out; omega
            have L0 : (tab N fun q => (q : Int)).length = N := tab_len _ _
            clear hT hO hlt
            go_wp2_with fail
            go_loopw [23, 21] (fun vi vl wr' => ∃ (t : Nat) (ls : List Int) (bs' : List Bool) (gh ch : Nat), vi = .int .i64 t ∧ vl = .slice (some ⟨gl, 0, none⟩) ls.length N ∧ t + ls.length = N ∧ Hid (Snap N N ls bs') ∧ Hid (wr'.ownsRow gl 3 1 (.slice (some ⟨gl, 0, none⟩) ls.length N) ls.length (ints ls)) ∧ Hid (VBox wr' w5.heap.size (.int .i64 s) (.int .i64 u) (.slice (some ⟨gh, 0, none⟩) N ch)) ∧ Hid (Sl wr' wr'.heap.size (some ⟨gh, 0, none⟩) N (bools bs')) ∧ Hid (0 < N → gh ≠ gl) ∧ Hid (Below W.heap.size W wr') ∧ Hid (gl < wr'.heap.size)) (fun vi _ _ => N + 1 - (intOf vi).toNat)
            case atStart => exact ⟨0, _, _, _, _, rfl, by rw [L0], by omega, SN0, LS, XR, SR, GR, BR, ZR⟩
            case round =>
              obtain ⟨t, ls, bs', gh, ch, rfl, rfl, htl, hSn, hLs, hX, hS, hG, hB, hZ⟩ := hrel
              have ht0 : (0 : Int) ≤ t := by omega
              obtain ⟨x0, x1, x2, xf⟩ := hX.out
              by_cases hl0 : 0 < ls.length
              · have hl1 : (0 : Int) < ls.length := by omega
                have hlw : ls.length ≤ N := by omega
                have BD : Hid (Below wr.heap.size wr wr.drew) := Lib.hid (Below.refl _ _).drew
                have gsz : Hid (w5.heap.size < wr.heap.size) := Nat.lt_trans hglz.out hZ.out
                have SD : Hid (Sl wr.drew wr.drew.heap.size (some ⟨gh, 0, none⟩) N (bools bs')) := Lib.hid hS.out.drew
                by_cases htm : t < m
                · obtain ⟨J, hJ, HJ⟩ : ∃ J : Nat, J < ls.length ∧ Hid (within (gi ord t) ls.length = J) := by
                    have a := within_lo (gi ord t) ls.length (by omega)
                    have b := within_hi (gi ord t) ls.length (by omega)
                    obtain ⟨J, hJ⟩ := Int.eq_ofNat_of_zero_le a
                    exact ⟨J, by omega, hJ⟩
                  obtain ⟨X, hX'⟩ := Int.eq_ofNat_of_zero_le (hSn.out.rng _ (gi_mem hJ)).1
                  have hXw : X < N := by have := (hSn.out.rng _ (gi_mem hJ)).2; omega
                  have hXN : X < N := by omega
                  have lc : wr.drew.cell? ⟨gl, J, none⟩ = some (.int .i64 (X : Int)) := by
                    have := hLs.out.cellAt J (by omega)
                    rw [ints_get hJ, hX'] at this
                    exact this
                  have SNP := Lib.hid (hSn.out.put (by omega) hJ hX')
                  have hJI : (J : Int) < ls.length := by omega
                  have hJ0 : (0 : Int) ≤ J := by omega
                  have hXI : (X : Int) < N := by omega
                  clear hX'
                  have hJ1 : IntKind.i64.wrap ((J : Int) + 1) = (J : Int) + 1 := IntWalk.i64_in _ ⟨by omega, by omega⟩
                  have ht1 : (t : Int) < m := by omega
                  obtain ⟨bo, oo, rfl, hbo, hco⟩ := (SO.out.below hB.out).int_at htm
                  have zb := ZO.out _ (gi_mem (zs := ord) (k := t) (by rw [HLO.out]; exact htm))
                  clear htm
                  go_wp2_with fail
                  refine (within_t (gi ord t) ls.length _ (by omega) (by omega) J HJ.out).mono ?_
                  rintro e _ ⟨rfl, rfl⟩
                  clear hco
                  go_wp2_with fail
                  clear x0 x1 x2 xf
                  obtain ⟨x0, x1, x2, xf⟩ := hX.out.on BD.out gsz.out
                  go_region_law (go_simp; go_at_call 34; refine (put_ok s u _ N _ _ X _ SD.out HP.out hXN).mono ?_; rintro e wp ⟨Ap, cp, rfl, sp, lp, bbp, gp, rfl, hgp⟩; have hszp := bbp.size; have V0 := (hX.out.on BD.out gsz.out).on bbp gsz.out; have V1 := V0.set0 (v := .int .i64 s); have V2 := V1.set1 (v := .int .i64 u); have V3 := Lib.hid (V2.set2 (v := .slice (some ⟨gp, 0, none⟩) N cp)); have BBP := Lib.hid bbp; have SPP := Lib.hid sp; have HGP := Lib.hid hgp; obtain ⟨p0, p1, p2, pf⟩ := V0; obtain ⟨q0', q1', q2', qf'⟩ := V1; obtain ⟨r0', r1', r2', rf'⟩ := V2; clear sp bbp hgp)
                  all_goals go_simp
                  all_goals
                    have OS := Lib.hid (ownsRow_setCell_below (ownsRow_setCell_below (ownsRow_setCell_below (own_keepR hLs.out (BD.out.trans BBP.out) hZ.out) (a := ⟨w5.heap.size, 0, none⟩) hglz.out (.int .i64 s)) (a := ⟨w5.heap.size, 1, none⟩) hglz.out (.int .i64 u)) (a := ⟨w5.heap.size, 2, none⟩) hglz.out (.slice (some ⟨gp, 0, none⟩) N cp))
                    have hgpz : gl < gp := Nat.lt_of_lt_of_le hZ.out HGP.out
                    have SP := Lib.hid (sput_sl (x := .int .i64 s) (y := .int .i64 u) (z := .slice (some ⟨gp, 0, none⟩) N cp) SPP.out (g := w5.heap.size) (by have := hglz.out; omega))
                    have BP := Lib.hid ((hB.out.trans ((BD.out.trans BBP.out).mono hB.out.size)).trans ((sput_b wp w5.heap.size (.int .i64 s) (.int .i64 u) (.slice (some ⟨gp, 0, none⟩) N cp)).mono hz5.out))
                    have ZP : Hid (gl < (sput wp w5.heap.size (.int .i64 s) (.int .i64 u) (.slice (some ⟨gp, 0, none⟩) N cp)).heap.size) := by show _ < _; rw [sput_s]; exact Nat.lt_of_lt_of_le hZ.out (BD.out.trans BBP.out).size
                    unfold sput at SP BP ZP
                    obtain ⟨ws, hws⟩ : ∃ ws, ((wp.setCell ⟨w5.heap.size, 0, none⟩ (.int .i64 s)).setCell ⟨w5.heap.size, 1, none⟩ (.int .i64 u)).setCell ⟨w5.heap.size, 2, none⟩ (.slice (some ⟨gp, 0, none⟩) N cp) = ws := ⟨_, rfl⟩
                    rw [hws] at OS V3 SP BP ZP ⊢
                    clear hws p0 p1 p2 pf q0' q1' q2' qf' r0' r1' r2' rf' x0 x1 x2 xf lc
                    go_wp2_with fail
                    refine (delInt gl gl ls.length N J ls ws OS.out rfl hJ hlw (by omega) (Nat.le_refl _)).mono ?_
                    rintro e wd ⟨rfl, od, onD⟩
                    have hll : (ls.take J ++ ls.drop (J + 1)).length = ls.length - 1 := by rw [List.length_append, List.length_take, List.length_drop]; omega
                    rw [← hll] at od
                    have OD := Lib.hid od
                    have XD := Lib.hid (V3.out.onD onD (Nat.lt_trans hglz.out ZP.out) (by have := hglz.out; omega))
                    have SDD := Lib.hid (SP.out.onD onD (fun _ => by omega))
                    have BDD := Lib.hid (BP.out.trans (onD.below hWgl.out BP.out.size))
                    have ZD : Hid (gl < wd.heap.size) := Nat.lt_of_lt_of_le ZP.out onD.size
                    have GD : Hid (0 < N → gp ≠ gl) := Lib.hid fun _ => by omega
                    clear od onD
                    go_wp2_with fail
                    go_roundw
                    case rel => exact ⟨t + 1, _, _, gp, cp, by go_num, by rw [hll], by omega, SNP, OD, XD, SDD, GD, BDD, ZD⟩
                    case measure => simp [intOf]; omega
                · have ht1 : ¬ (t : Int) < m := by omega
                  have hJ : 0 < ls.length := hl0
                  obtain ⟨X, hX'⟩ := Int.eq_ofNat_of_zero_le (hSn.out.rng _ (gi_mem hJ)).1
                  have hXw : X < N := by have := (hSn.out.rng _ (gi_mem hJ)).2; omega
                  have hXN : X < N := by omega
                  have lc : wr.drew.cell? ⟨gl, 0, none⟩ = some (.int .i64 (X : Int)) := by
                    have := hLs.out.cellAt 0 (by omega)
                    rw [ints_get hJ, hX'] at this
                    exact this
                  have SNP := Lib.hid (hSn.out.put (by omega) hJ hX')
                  have hXI : (X : Int) < N := by omega
                  clear hX'
                  clear htm
                  go_wp2_with fail
                  clear x0 x1 x2 xf
                  obtain ⟨x0, x1, x2, xf⟩ := hX.out.on BD.out gsz.out
                  go_region_law (go_simp; go_at_call 34; refine (put_ok s u _ N _ _ X _ SD.out HP.out hXN).mono ?_; rintro e wp ⟨Ap, cp, rfl, sp, lp, bbp, gp, rfl, hgp⟩; have hszp := bbp.size; have V0 := (hX.out.on BD.out gsz.out).on bbp gsz.out; have V1 := V0.set0 (v := .int .i64 s); have V2 := V1.set1 (v := .int .i64 u); have V3 := Lib.hid (V2.set2 (v := .slice (some ⟨gp, 0, none⟩) N cp)); have BBP := Lib.hid bbp; have SPP := Lib.hid sp; have HGP := Lib.hid hgp; obtain ⟨p0, p1, p2, pf⟩ := V0; obtain ⟨q0', q1', q2', qf'⟩ := V1; obtain ⟨r0', r1', r2', rf'⟩ := V2; clear sp bbp hgp)
                  all_goals go_simp
                  all_goals
                    have OS := Lib.hid (ownsRow_setCell_below (ownsRow_setCell_below (ownsRow_setCell_below (own_keepR hLs.out (BD.out.trans BBP.out) hZ.out) (a := ⟨w5.heap.size, 0, none⟩) hglz.out (.int .i64 s)) (a := ⟨w5.heap.size, 1, none⟩) hglz.out (.int .i64 u)) (a := ⟨w5.heap.size, 2, none⟩) hglz.out (.slice (some ⟨gp, 0, none⟩) N cp))
                    have hgpz : gl < gp := Nat.lt_of_lt_of_le hZ.out HGP.out
                    have SP := Lib.hid (sput_sl (x := .int .i64 s) (y := .int .i64 u) (z := .slice (some ⟨gp, 0, none⟩) N cp) SPP.out (g := w5.heap.size) (by have := hglz.out; omega))
                    have BP := Lib.hid ((hB.out.trans ((BD.out.trans BBP.out).mono hB.out.size)).trans ((sput_b wp w5.heap.size (.int .i64 s) (.int .i64 u) (.slice (some ⟨gp, 0, none⟩) N cp)).mono hz5.out))
                    have ZP : Hid (gl < (sput wp w5.heap.size (.int .i64 s) (.int .i64 u) (.slice (some ⟨gp, 0, none⟩) N cp)).heap.size) := by show _ < _; rw [sput_s]; exact Nat.lt_of_lt_of_le hZ.out (BD.out.trans BBP.out).size
                    unfold sput at SP BP ZP
                    obtain ⟨ws, hws⟩ : ∃ ws, ((wp.setCell ⟨w5.heap.size, 0, none⟩ (.int .i64 s)).setCell ⟨w5.heap.size, 1, none⟩ (.int .i64 u)).setCell ⟨w5.heap.size, 2, none⟩ (.slice (some ⟨gp, 0, none⟩) N cp) = ws := ⟨_, rfl⟩
                    rw [hws] at OS V3 SP BP ZP ⊢
                    clear hws p0 p1 p2 pf q0' q1' q2' qf' r0' r1' r2' rf' x0 x1 x2 xf lc
                    go_wp2_with fail
                    refine (delInt0 gl gl ls.length N ls ws OS.out rfl hJ hlw (by omega) (Nat.le_refl _)).mono ?_
                    rintro e wd ⟨rfl, od, onD⟩
                    have hll : (ls.take 0 ++ ls.drop (0 + 1)).length = ls.length - 1 := by rw [List.length_append, List.length_take, List.length_drop]; omega
                    rw [← hll] at od
                    have OD := Lib.hid od
                    have XD := Lib.hid (V3.out.onD onD (Nat.lt_trans hglz.out ZP.out) (by have := hglz.out; omega))
                    have SDD := Lib.hid (SP.out.onD onD (fun _ => by omega))
                    have BDD := Lib.hid (BP.out.trans (onD.below hWgl.out BP.out.size))
                    have ZD : Hid (gl < wd.heap.size) := Nat.lt_of_lt_of_le ZP.out onD.size
                    have GD : Hid (0 < N → gp ≠ gl) := Lib.hid fun _ => by omega
                    clear od onD
                    go_wp2_with fail
                    go_roundw
                    case rel => exact ⟨t + 1, _, _, gp, cp, by go_num, by rw [hll], by omega, SNP, OD, XD, SDD, GD, BDD, ZD⟩
                    case measure => simp [intOf]; omega
              · have hll : ls = [] := List.eq_nil_of_length_eq_zero (by omega)
                subst hll
                obtain ⟨e1, e2⟩ := snap_end HP.out hSn.out (by omega)
                have E1 := Lib.hid e1
                have E2 := Lib.hid e2
                clear e1 e2 hl0
                obtain ⟨g1, g2⟩ := E1.out rfl
                have G2 := Lib.hid g2
                clear g2
                go_wp2_with fail
                refine (got_ok s u _ N ch _ _ hS.out HP.out s g1).mono ?_
                rintro e wa ⟨rfl, ba⟩
                have BA := Lib.hid (hB.out.trans (ba.mono hB.out.size))
                have SA := Lib.hid (hS.out.on ba)
                have XA := hX.out.on ba (Nat.lt_trans hglz.out hZ.out)
                clear x0 x1 x2 xf
                obtain ⟨x0, x1, x2, xf⟩ := XA
                clear ba g1
                go_wp2_with fail
                refine (next_first s u _ N ch _ _ SA.out HP.out).mono ?_
                rintro e wb ⟨x, er, rfl, hans, bb⟩
                have BB := Lib.hid (BA.out.trans (bb.mono BA.out.size))
                obtain rfl := G2.out x er hans
                clear bb hans x0 x1 x2 xf
                go_wp2_with fail
                go_ret
                exact ⟨rfl, BB.out⟩
end Go.Proofs.Ytehdphkaknjlnaa
