/- PieceAll: the pieces add up to the object, and putting all of them in any order completes it. -/
import Derived.Test.YtjgkcokffpbgnaaStageN
import Derived.Test.YtjgkcokffpbgnaaPieceOnce
set_option linter.unusedVariables false
namespace Go.Proofs.Ytjgkcokffpbgnaa
open Go.RowKit
/-- How many of the pieces ahead of k are not there. -/
def cfalse (bs : List Bool) : Nat → Nat
  | 0 => 0
  | k + 1 => cfalse bs k + if gb bs k = true then 0 else 1
theorem cfalse_succ (bs : List Bool) (k : Nat) : cfalse bs (k + 1) = cfalse bs k + if gb bs k = true then 0 else 1 := rfl
theorem cfalse_le (bs : List Bool) (k : Nat) : cfalse bs k ≤ k := by
  induction k with
  | zero => exact Nat.le_refl _
  | succ k ih => rw [cfalse_succ]; split <;> omega
theorem gb_set_eq (bs : List Bool) {i : Nat} (hi : i < bs.length) (k : Nat) : gb (bs.set i true) k = if k = i then true else gb bs k := by
  unfold gb
  rw [List.getD_eq_getElem?_getD, List.getD_eq_getElem?_getD, List.getElem?_set]
  by_cases h : i = k
  · subst h; rw [if_pos rfl, if_pos hi, if_pos rfl]; rfl
  · rw [if_neg h, if_neg (fun h' => h h'.symm)]
theorem cfalse_set (bs : List Bool) {i : Nat} (hi : i < bs.length) (hb : gb bs i = false) (k : Nat) : cfalse (bs.set i true) k + (if i < k then 1 else 0) = cfalse bs k := by
  induction k with
  | zero => simp [cfalse]
  | succ k ih =>
    rw [cfalse_succ, cfalse_succ, gb_set_eq bs hi k]
    by_cases h : k = i
    · subst h
      rw [if_neg (Nat.lt_irrefl k)] at ih
      rw [if_pos rfl, if_pos rfl, if_pos (Nat.lt_succ_self k), hb]
      simp
      omega
    · rw [if_neg h]
      generalize (if gb bs k = true then 0 else 1) = z
      by_cases h2 : i < k
      · rw [if_pos h2] at ih
        rw [if_pos (show i < k + 1 by omega)]
        omega
      · rw [if_neg h2] at ih
        rw [if_neg (show ¬ i < k + 1 by omega)]
        omega
theorem cfalse_zero {bs : List Bool} {n : Nat} (h : cfalse bs n = 0) (k : Nat) (hk : k < n) : gb bs k = true := by
  induction n with
  | zero => omega
  | succ n ih =>
    rw [cfalse_succ] at h
    by_cases hb : gb bs n = true
    · rcases Nat.lt_or_ge k n with h' | h'
      · exact ih (by omega) h'
      · obtain rfl : k = n := by omega
        exact hb
    · rw [if_neg hb] at h
      omega
theorem gb_rep {n k : Nat} (h : k < n) : gb (List.replicate n true) k = true := by simp [gb, h]
theorem psize_mid {s u : Int} {n : Nat} (h : stageOk s u n) {k : Nat} (hk : k + 1 < n) : psize s u k = u := by
  have a := piece_mid h.1 (i := k + 1) (by have := h.2; omega)
  have e : ((k + 1 : Nat) : Int) * u = (k : Int) * u + u := by rw [show ((k + 1 : Nat) : Int) = (k : Int) + 1 by omega, Int.add_mul, Int.one_mul]
  rw [e] at a
  unfold psize mn
  rw [if_neg (by omega)]
set_option maxRecDepth 100000 in
set_option maxHeartbeats 12800000 in
theorem pieceAll_walk (s u : Int) (O : Option Addr) (m d : Nat) (ord : List Int) (W : World) (_ : -9223372036854775808 ≤ s ∧ s ≤ 9223372036854775807) (_ : -9223372036854775808 ≤ u ∧ u ≤ 9223372036854775807) (w0 : InInts W O m d ord) :
    Calls Try.prog 8 #[.int .i64 s, .int .i64 u, .slice O m d] W fun e w' => e = .returned (.bool true) ∧ Below W.heap.size W w' := by
  obtain ⟨so, lo, ro, _⟩ := w0
  have SO := Lib.hid so
  have HLO := Lib.hid so.int_len
  clear so
  go_enter Try.func8, Try.ntmps8
  go_wp2_with fail
  refine (psizes_ok 7 3 3 _ ⟨⟨by omega, by omega, by omega, by omega⟩, by decide⟩ (by decide)).mono ?_
  rintro e w1 ⟨A1, c1, rfl, s1, bb1, l1⟩
  rw [show tab 3 (psize 7 3) = [3, 3, 1] by decide] at s1
  have b1 := belLit0 (Below.refl W.heap.size W) bb1
  clear bb1
  go_wp2_with fail
  refine (equal_t A1 3 c1 [3, 3, 1] _ 3 _ [3, 3, 1] _ (slMore s1 _) (Sl.built_ _ (ints [3, 3, 1]) 3 _ (by simp) rfl) (by omega) (by omega) true (by decide)).mono ?_
  rintro e w2 ⟨rfl, bb2⟩
  have b2 := belLit1 b1 bb2
  clear bb2 s1 b1
  by_cases hok : pieceOk s u
  case neg =>
    have HO := Lib.hid hok
    have hne := lookE_ne s u
    clear hok
    go_wp2_with fail
    refine (psizes_e s u _ HO.out).mono ?_
    rintro e w3 ⟨rfl, rfl⟩
    go_wp2_with fail
    refine (new_e s u _ HO.out).mono ?_
    rintro e w4 ⟨rfl, bb4⟩
    have b4 := belLit0 b2 bb4
    have b5 := b4.alloc b4.size (.cells #[.int .i64 0, .int .i64 0, .slice none 0 0] 43)
    clear bb4 b2 b4
    have hee : (lookE s u == lookE s u) = true := by simp
    go_wp2_with fail
    go_ret
    exact ⟨rfl, b5⟩
  obtain ⟨N, hN⟩ : ∃ N : Nat, ceil s u = N := ⟨(ceil s u).toNat, by have := ceil_nonneg (d := s) hok.1.2.2.1 hok.1.1; omega⟩
  have HP : Hid (stageOk s u N) := ⟨hok, hN.symm⟩
  have HO := Lib.hid hok
  have HN := Lib.hid hN
  have n200 := stage_len HP.out
  clear hok hN
  go_wp2_with fail
  refine (psizes_ok s u N _ HO.out HN.out).mono ?_
  rintro e w4 ⟨A4, c4, rfl, s4, bb4, l4⟩
  have b4 := belLit0 b2 bb4
  clear bb4 b2
  go_wp2_with fail
  refine (new_ok s u N _ HO.out HN.out).mono ?_
  rintro e w5 ⟨g5, rfl, s5, bb5, hg5⟩
  have b5 := belLit0 b4 bb5
  have s4' := slLit0 s4 bb5
  have hall := sbox_b w5 43 (.int .i64 s) (.int .i64 u) (.slice (some ⟨g5, 0, none⟩) N N)
  have hsz : Hid ((sbox w5 43 (.int .i64 s) (.int .i64 u) (.slice (some ⟨g5, 0, none⟩) N N)).heap.size = w5.heap.size + 1) := sbox_s _ _ _ _ _
  have hV : Hid (sbox w5 43 (.int .i64 s) (.int .i64 u) (.slice (some ⟨g5, 0, none⟩) N N) = w5.alloc (.cells #[.int .i64 s, .int .i64 u, .slice (some ⟨g5, 0, none⟩) N N] 43)) := Lib.hid rfl
  have X5 := Lib.hid (sbox_3 w5 43 (.int .i64 s) (.int .i64 u) (.slice (some ⟨g5, 0, none⟩) N N))
  have S5 := Lib.hid (slLit0 s5 hall)
  have S4 := Lib.hid (slLit0 s4' hall)
  have B5 := Lib.hid (belLit0 b5 hall)
  have hW : Hid (W.heap.size ≤ w5.heap.size) := b5.size
  clear s4 s4' s5 bb5 b4 b5 hall
  go_wp2_with fail
  rw [← hV.out]
  clear hV
  generalize sbox w5 43 (.int .i64 s) (.int .i64 u) (.slice (some ⟨g5, 0, none⟩) N N) = w6 at *
  go_loopw [60, 13, 14, 15] (fun i v _ _ wr => ∃ k : Nat, k ≤ N ∧ i = .int .i64 k ∧ v = .int .i64 (gsum s u (List.replicate N true) k) ∧ ∃ q, wr = w6.drewN q) (fun i _ _ _ _ => N - (intOf i).toNat)
  case atStart => exact ⟨0, Nat.zero_le _, rfl, rfl, 0, rfl⟩
  case round =>
    obtain ⟨k, hk, rfl, rfl, q, rfl⟩ := hrel
    by_cases hlt : k < N
    · obtain ⟨b, off, rfl, q1, hcb⟩ := S4.out.int_at hlt
      rw [tab_get _ hlt] at hcb
      have hn1 : (k : Int) < N := by omega
      have hk0 : (0 : Int) ≤ k := by omega
      have hp := psize_bd HO.out (i := k) (by rw [HN.out]; omega)
      have hg := gsum_bd HP.out (List.replicate N true) k hk
      have hu := HO.out.1.2.2.2
      have f1 : IntKind.i64.wrap (gsum s u (List.replicate N true) k + psize s u k) = gsum s u (List.replicate N true) k + psize s u k := IntWalk.i64_in _ ⟨by omega, by omega⟩
      have f2 : IntKind.i64.wrap ((N : Int) - 1) = (N : Int) - 1 := IntWalk.i64_in _ ⟨by omega, by omega⟩
      have HS : Hid (gsum s u (List.replicate N true) (k + 1) = gsum s u (List.replicate N true) k + psize s u k) := by show _ = _; rw [gsum_succ, if_pos (gb_rep hlt)]
      have hm := Lib.hid (fun h => psize_mid HP.out (k := k) h)
      generalize gsum s u (List.replicate N true) k = gk at *
      generalize psize s u k = pk at *
      have t1 : decide (pk < 1) = false := decide_eq_false (by omega)
      have t2 : decide (u < pk) = false := decide_eq_false (by omega)
      by_cases hl : k + 1 < N
      · have t3 : (pk != u) = false := by rw [hm.out hl]; simp
        have t4 : decide ((k : Int) < (N : Int) - 1) = true := decide_eq_true (by omega)
        clear hl hp hg hu
        go_wp2_with fail
        go_roundw
        case rel => exact ⟨k + 1, by omega, by go_num, by rw [HS.out], _, rfl⟩
        case measure => simp [intOf]; omega
      · have t4 : decide ((k : Int) < (N : Int) - 1) = false := decide_eq_false (by omega)
        clear hl hp hg hu
        go_wp2_with fail
        go_roundw
        case rel => exact ⟨k + 1, by omega, by go_num, by rw [HS.out], _, rfl⟩
        case measure => simp [intOf]; omega
    · have hkn : k = N := by omega
      subst hkn
      rw [gsum_full HP.out (fun i hi => gb_rep hi)]
      have e1 : (s != s) = false := by simp
      have e2 : ((k : Int) != k) = false := by simp
      obtain ⟨x0, x1, x2, xf⟩ := X5.out
      clear hlt hk
      go_wp2_with fail
      have XQ := Lib.hid (X5.out.on (below_drewN (Below.refl w6.heap.size w6) q) (by rw [hsz.out]; omega))
      have SQ : Hid (Sl (w6.drewN q) (w6.drewN q).heap.size (some ⟨g5, 0, none⟩) k (bools (List.replicate k false))) := Lib.hid (S5.out.drewN q)
      have BQ := Lib.hid (below_drewN B5.out q)
      have ZQ : Hid (w5.heap.size < (w6.drewN q).heap.size) := by show w5.heap.size < w6.heap.size; rw [hsz.out]; omega
      have LQ : Hid ((List.replicate k false).length = k) := by show _ = _; simp
      clear X5 S5 B5 hsz S4 x0 x1 x2 xf e1 e2
      go_loopw [105, 16, 17, 10] (fun i _ _ _ wr => ∃ t : Nat, t ≤ k ∧ i = .int .i64 t ∧ ∃ A' c' bs', VBox wr w5.heap.size (.int .i64 s) (.int .i64 u) (.slice A' k c') ∧ Sl wr wr.heap.size A' k (bools bs') ∧ Below W.heap.size W wr ∧ w5.heap.size < wr.heap.size) (fun i _ _ _ _ => k - (intOf i).toNat)
      case atStart => exact ⟨0, Nat.zero_le _, rfl, _, _, _, XQ.out, SQ.out, BQ.out, ZQ.out⟩
      case round =>
        obtain ⟨t, ht, rfl, A', c', bs', hx, hsl, bel, hz⟩ := hrel
        have XX := Lib.hid hx
        have SX := Lib.hid hsl
        have hn0 : (0 : Int) ≤ t := by omega
        by_cases htk : t < k
        · have h1 : (t : Int) < k := by omega
          have h2 : (0 : Int) < k := by omega
          have h2n : 0 < k := by omega
          have kk1 : 1 ≤ (k : Int) := by omega
          by_cases htm : t < m
          · have h3 : (t : Int) < m := by omega
            obtain ⟨b, off, hO, q1, hcb⟩ := (SO.out.below bel).int_at htm
            obtain ⟨z, hz'⟩ : ∃ z, gi ord t = z := ⟨_, rfl⟩
            rw [hz'] at hcb
            have i0 := within_lo z k kk1
            have i1 := within_hi z k kk1
            obtain ⟨J, hJ⟩ : ∃ J : Nat, within z k = J := ⟨(within z k).toNat, by omega⟩
            have HJ := Lib.hid hJ
            rw [hJ] at i0 i1
            have hJk : J < k := by omega
            subst hO
            obtain ⟨x0, x1, x2, xf⟩ := hx
            clear hsl hJ hz'
            go_wp2_with fail
            refine (within_t z k _ kk1 (by omega) J HJ.out).mono ?_
            rintro e _ ⟨rfl, rfl⟩
            go_wp2_with fail
            refine (put_ok s u _ k _ _ J _ SX.out HP.out hJk).mono ?_
            rintro e wp ⟨Ap, cp, rfl, sp, lp, bbp, gp, rfl, hgp⟩
            have hszp := bbp.size
            have V0 := XX.out.on bbp hz
            have V1 := V0.set0 (v := .int .i64 s)
            have V2 := V1.set1 (v := .int .i64 u)
            have V3 := Lib.hid (V2.set2 (v := .slice (some ⟨gp, 0, none⟩) k cp))
            have SP := Lib.hid (sput_sl (x := .int .i64 s) (y := .int .i64 u) (z := .slice (some ⟨gp, 0, none⟩) k cp) sp (g := w5.heap.size) (by omega))
            have BP := Lib.hid ((belLit0 bel bbp).trans ((sput_b wp w5.heap.size (.int .i64 s) (.int .i64 u) (.slice (some ⟨gp, 0, none⟩) k cp)).mono hW.out))
            have ZP : Hid (w5.heap.size < (sput wp w5.heap.size (.int .i64 s) (.int .i64 u) (.slice (some ⟨gp, 0, none⟩) k cp)).heap.size) := by show _ < _; rw [sput_s]; omega
            obtain ⟨p0, p1, p2, pf⟩ := V0
            obtain ⟨q0, q1, q2, qf⟩ := V1
            obtain ⟨r0, r1, r2, rf⟩ := V2
            clear sp bbp hgp bel
            clear x0 x1 x2 xf hcb
            go_wp2_with fail
            go_roundw
            case rel => exact ⟨t + 1, by omega, by go_num, _, _, _, V3.out, SP.out, BP.out, ZP.out⟩
            case measure => simp [intOf]; omega
          · have h3 : ¬ (t : Int) < m := by omega
            obtain ⟨x0, x1, x2, xf⟩ := hx
            clear hsl
            go_wp2_with fail
            refine (put_ok s u _ k _ _ t _ SX.out HP.out htk).mono ?_
            rintro e wp ⟨Ap, cp, rfl, sp, lp, bbp, gp, rfl, hgp⟩
            have hszp := bbp.size
            have V0 := XX.out.on bbp hz
            have V1 := V0.set0 (v := .int .i64 s)
            have V2 := V1.set1 (v := .int .i64 u)
            have V3 := Lib.hid (V2.set2 (v := .slice (some ⟨gp, 0, none⟩) k cp))
            have SP := Lib.hid (sput_sl (x := .int .i64 s) (y := .int .i64 u) (z := .slice (some ⟨gp, 0, none⟩) k cp) sp (g := w5.heap.size) (by omega))
            have BP := Lib.hid ((belLit0 bel bbp).trans ((sput_b wp w5.heap.size (.int .i64 s) (.int .i64 u) (.slice (some ⟨gp, 0, none⟩) k cp)).mono hW.out))
            have ZP : Hid (w5.heap.size < (sput wp w5.heap.size (.int .i64 s) (.int .i64 u) (.slice (some ⟨gp, 0, none⟩) k cp)).heap.size) := by show _ < _; rw [sput_s]; omega
            obtain ⟨p0, p1, p2, pf⟩ := V0
            obtain ⟨q0, q1, q2, qf⟩ := V1
            obtain ⟨r0, r1, r2, rf⟩ := V2
            clear sp bbp hgp bel
            clear x0 x1 x2 xf
            go_wp2_with fail
            go_roundw
            case rel => exact ⟨t + 1, by omega, by go_num, _, _, _, V3.out, SP.out, BP.out, ZP.out⟩
            case measure => simp [intOf]; omega
        · have htk' : t = k := by omega
          subst htk'
          have BX := Lib.hid bel
          have ZX := Lib.hid hz
          have C0 := Lib.hid (cfalse_le bs' t)
          clear XQ SQ BQ ZQ LQ hx hsl bel hz htk ht
          go_wp2_with fail
          go_loopw [136, 18, 19] (fun i _ _ wr => ∃ r : Nat, r ≤ t ∧ i = .int .i64 r ∧ ∃ A' c' bs', cfalse bs' t + r ≤ t ∧ VBox wr w5.heap.size (.int .i64 s) (.int .i64 u) (.slice A' t c') ∧ Sl wr wr.heap.size A' t (bools bs') ∧ Below W.heap.size W wr ∧ w5.heap.size < wr.heap.size) (fun i _ _ _ => t - (intOf i).toNat)
          case atStart => exact ⟨0, Nat.zero_le _, rfl, _, _, _, C0.out, XX.out, SX.out, BX.out, ZX.out⟩
          case round =>
            clear XX SX BX ZX C0
            obtain ⟨r, hr, rfl, A'', c'', bs'', hcf, hx, hsl, bel, hz⟩ := hrel
            have XX := Lib.hid hx
            have SX := Lib.hid hsl
            obtain ⟨x0, x1, x2, xf⟩ := hx
            clear hsl
            by_cases hrt : r < t
            · have h1 : (r : Int) < t := by omega
              have HCF := Lib.hid hcf
              clear hcf
              go_wp2_with fail
              refine (next_ok s u _ t _ _ _ SX.out HP.out).mono ?_
              rintro e wn ⟨x, er, rfl, hans, bbn⟩
              replace XX := Lib.hid (XX.out.on bbn hz)
              replace SX := Lib.hid (slLit0 SX.out bbn)
              replace hz : w5.heap.size < wn.heap.size := Nat.lt_of_lt_of_le hz bbn.size
              replace bel := belLit0 bel bbn
              clear x0 x1 x2 xf bbn
              obtain ⟨x0, x1, x2, xf⟩ := XX.out
              rcases hans with ⟨rfl, k', rfl, hk', hbk'⟩ | ⟨rfl, rfl, hfull⟩
              · obtain ⟨b', off', hA, q1, hcb⟩ := SX.out.bool_at hk'
                rw [hbk'] at hcb
                subst hA
                have j0 : (0 : Int) ≤ k' := by omega
                have j1 : (k' : Int) < t := by omega
                have j2 : decide ((k' : Int) < 0) = false := by simp
                have CS : Hid (cfalse (bs''.set k' true) t + 1 = cfalse bs'' t) := by
                  have := cfalse_set bs'' (i := k') (by rw [SX.out.bool_len]; exact hk') hbk' t
                  rw [if_pos hk'] at this
                  exact this
                clear hbk'
                go_wp2_with fail
                refine (put_ok s u _ t _ _ k' _ SX.out HP.out hk').mono ?_
                rintro e wp ⟨Ap, cp, rfl, sp, lp, bbp, gp, rfl, hgp⟩
                have hszp := bbp.size
                have V0 := XX.out.on bbp hz
                have V1 := V0.set0 (v := .int .i64 s)
                have V2 := V1.set1 (v := .int .i64 u)
                have V3 := Lib.hid (V2.set2 (v := .slice (some ⟨gp, 0, none⟩) t cp))
                have SP := Lib.hid (sput_sl (x := .int .i64 s) (y := .int .i64 u) (z := .slice (some ⟨gp, 0, none⟩) t cp) sp (g := w5.heap.size) (by omega))
                have BP := Lib.hid ((belLit0 bel bbp).trans ((sput_b wp w5.heap.size (.int .i64 s) (.int .i64 u) (.slice (some ⟨gp, 0, none⟩) t cp)).mono hW.out))
                have ZP : Hid (w5.heap.size < (sput wp w5.heap.size (.int .i64 s) (.int .i64 u) (.slice (some ⟨gp, 0, none⟩) t cp)).heap.size) := by show _ < _; rw [sput_s]; omega
                obtain ⟨p0, p1, p2, pf⟩ := V0
                obtain ⟨q0, q1, q2, qf⟩ := V1
                obtain ⟨r0, r1, r2, rf⟩ := V2
                clear sp bbp hgp bel
                clear x0 x1 x2 xf hcb
                go_wp2_with fail
                go_roundw
                case rel => exact ⟨r + 1, by omega, by go_num, _, _, _, by have a1 := HCF.out; have a2 := CS.out; omega, V3.out, SP.out, BP.out, ZP.out⟩
                case measure => simp [intOf]; omega
              · have gfull := gsum_full HP.out hfull
                go_wp2_with fail
                refine (got_ok s u _ t _ _ _ SX.out HP.out s gfull).mono ?_
                rintro e wa ⟨rfl, bba⟩
                have ba := belLit0 bel bba
                have SA := slLit0 SX.out bba
                have XA := XX.out.on bba hz
                obtain ⟨t0, t1, t2, tf⟩ := XA
                clear bba bel gfull
                go_wp2_with fail
                refine (next_ok s u _ t _ _ _ SA HP.out).mono ?_
                rintro e wb ⟨x, er, rfl, hans, bbb⟩
                have bb := belLit0 ba bbb
                clear ba SA t0 t1 t2 tf bbb
                rcases hans with ⟨rfl, k', rfl, hk', hbk'⟩ | ⟨rfl, rfl, -⟩
                · rw [hfull k' hk'] at hbk'
                  cases hbk'
                · clear hfull
                  go_wp2_with fail
                  go_ret
                  exact ⟨rfl, bb⟩
            · have hfull : ∀ i, i < t → gb bs'' i = true := fun i hi => cfalse_zero (by omega) i hi
              have gfull := gsum_full HP.out hfull
              clear hcf
              go_wp2_with fail
              refine (got_ok s u _ t _ _ _ SX.out HP.out s gfull).mono ?_
              rintro e wa ⟨rfl, bba⟩
              have ba := belLit0 bel bba
              have SA := slLit0 SX.out bba
              have XA := XX.out.on bba hz
              obtain ⟨t0, t1, t2, tf⟩ := XA
              clear bba bel gfull
              go_wp2_with fail
              refine (next_ok s u _ t _ _ _ SA HP.out).mono ?_
              rintro e wb ⟨x, er, rfl, hans, bbb⟩
              have bb := belLit0 ba bbb
              clear ba SA t0 t1 t2 tf bbb
              rcases hans with ⟨rfl, k', rfl, hk', hbk'⟩ | ⟨rfl, rfl, -⟩
              · rw [hfull k' hk'] at hbk'
                cases hbk'
              · clear hfull
                go_wp2_with fail
                go_ret
                exact ⟨rfl, bb⟩
end Go.Proofs.Ytjgkcokffpbgnaa
