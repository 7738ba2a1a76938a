/- ranks.Run. -/
import Derived.Test.YtigekbidbeilnaaRunP
import Derived.Test.YtigekbidbeilnaaOneR
import Derived.Deep.RegionLaw
set_option linter.unusedVariables false
namespace Go.Proofs.Ytigekbidbeilnaa
open Go.RowKit
/-- What each task has left at t, behind what comes at t. -/
def rleft (zs : List Int) (n t q : Nat) : Int := rarr zs q (t + 1) - rcn zs n t q
theorem rwho_left (zs : List Int) (n t : Nat) : rwho zs n t = rfirst (rleft zs n t) n := rfl
theorem rleft_step {zs : List Int} {n t q : Nat} (h : taskOk zs q) : rleft zs n t q = (rarr zs q t - rcn zs n t q) + if (t : Int) % fd zs q 0 = 0 then fd zs q 1 else 0 := by
  unfold rleft
  rw [rarr_step h]
  omega
theorem rleft_bd {zs : List Int} {n : Nat} (h : ∀ i, i < n → taskOk zs i) {t q : Nat} (hq : q < n) (ht : t ≤ 200) : 0 ≤ rleft zs n t q ∧ rleft zs n t q ≤ 20000 ∧ 0 ≤ rarr zs q t - rcn zs n t q ∧ rarr zs q t - rcn zs n t q ≤ 20000 := by
  obtain ⟨a, b⟩ := rcn_bd h t q hq
  have c := rarr_mono1 (h q hq) t
  obtain ⟨t0, t1, t2, t3, t4⟩ := h q hq
  have u := upv_bd (r := ((t + 1 : Nat) : Int)) (by omega) t0
  have v := Int.mul_le_mul (show upv ((t + 1 : Nat) : Int) (fd zs q 0) ≤ 261 by push_cast at u ⊢; omega) (show fd zs q 1 ≤ 60 by omega) (by omega) (by omega)
  unfold rleft
  have e : rarr zs q (t + 1) = upv ((t + 1 : Nat) : Int) (fd zs q 0) * fd zs q 1 := rfl
  omega
theorem ret_who {a b : Int} (h : b = a) : Value.int .i64 a = Value.int .i64 b := by rw [h]
set_option maxHeartbeats 12800000 in
theorem rrun_ok (A : Option Addr) (n c : Nat) (zs : List Int) (W : World) (hs : Sl W W.heap.size A (n * 3) (ints zs)) (h : ranksOk zs n) :
    Calls Try.prog 27 #[.slice A n c, .int .i64 200] W fun e w' => ∃ A1 c1, e = .returned (.tuple #[.slice A1 200 c1, .int .i64 0]) ∧
      Sl w' w'.heap.size A1 200 (ints (tab 200 (rwho zs n))) ∧ Below W.heap.size W w' := by
  have OK := Lib.hid h
  have n5 := h.1
  have hmk := makeInts_R n (by omega)
  clear h
  go_enter Try.func27, Try.ntmps27
  go_wp2_with fail
  refine (rcheck_ok A n c zs _ OK.out hs).mono ?_
  rintro e w1 ⟨rfl, b1⟩
  have SS := Lib.hid (hs.on b1)
  have B1 := Lib.hid b1
  have TM := Lib.hid (oneR_made w1 n (by omega))
  clear hs b1
  go_wp2_with fail
  have T0 := TM.out
  revert T0
  generalize w1.alloc (.cells (ints (tab n fun _ => 0)).toArray 3) = w2
  intro T0
  obtain ⟨gl, hgl⟩ : ∃ gl, w1.heap.size = gl := ⟨_, rfl⟩
  have HGL := Lib.hid hgl
  rw [hgl] at T0 ⊢
  clear TM hgl hmk
  go_loopw [28, 8] (fun i o wr => ∃ t : Nat, t ≤ 200 ∧ i = .int .i64 t ∧ wr.ownsRow (gl + 1) 3 1 o t (ints (tab t (rwho zs n))) ∧ OneR w1 wr (gl + 1) n gl (fun q => rarr zs q t - rcn zs n t q)) (fun i _ _ => 200 - (intOf i).toNat)
  case atStart =>
    refine ⟨0, Nat.zero_le _, rfl, World.ownsRow_nil _ _ _ _, T0.congr fun i hi => ?_⟩
    have := rcn_bd OK.out.2 0 i hi
    rw [rcn_zero] at *
    unfold rarr
    rw [show ((0 : Nat) : Int) = 0 from rfl, upv_zero (OK.out.2 i hi).1]
    simp
  case round =>
    clear T0
    obtain ⟨t, ht, rfl, hown, T⟩ := hrel
    have OO := Lib.hid hown
    have TT := Lib.hid T
    by_cases hlt : t < 200
    · have hn1 : (t : Int) < 200 := by omega
      have hk0 : (0 : Int) ≤ t := by omega
      clear hown T
      go_wp2_with fail
      go_loopw [33, 10] (fun i w wr' => ∃ k : Nat, k ≤ n ∧ i = .int .i64 k ∧ w = .int .i64 (rfirst (rleft zs n t) k) ∧ wr'.ownsRow (gl + 1) 3 1 u8 t (ints (tab t (rwho zs n))) ∧ OneR w1 wr' (gl + 1) n gl (fun q => if q < k then rleft zs n t q else rarr zs q t - rcn zs n t q)) (fun i _ _ => n - (intOf i).toNat)
      case atStart => exact ⟨0, Nat.zero_le _, rfl, rfl, OO.out, TT.out.congr fun i hi => by rw [if_neg (Nat.not_lt_zero i)]⟩
      case round =>
        clear OO TT
        obtain ⟨k, hk, rfl, rfl, hown, T⟩ := hrel
        obtain ⟨z, hz⟩ : ∃ z, rfirst (rleft zs n t) k = z := ⟨_, rfl⟩
        have HZ := Lib.hid hz
        rw [hz]
        have hk0' : (0 : Int) ≤ k := by omega
        by_cases hkn : k < n
        · have hn2 : (k : Int) < n := by omega
          obtain ⟨ba, oa, rfl, qa, -⟩ := SS.out.int_at (k := k * 3) (by omega)
          obtain ⟨a0, a1, a2⟩ := (SS.out.below T.bel).three hkn
          obtain ⟨oj, hoj⟩ : ∃ oj, Obj.cells #[.int .i64 (fd zs k 0), .int .i64 (fd zs k 1), .int .i64 (fd zs k 2)] 48 = oj := ⟨_, rfl⟩
          have TA := T.on ((Below.refl _ wr).alloc T.sz oj)
          have O2 := own_onR hown ((Below.refl _ wr).alloc (Nat.le_refl _) oj)
          obtain ⟨cc, cf⟩ := TA.cl hkn
          obtain ⟨p0, p1, p2, p3, p4⟩ := OK.out.2 k hkn
          have bd := rleft_bd OK.out.2 (t := t) hkn (by omega)
          have st := rleft_step (n := n) (t := t) (OK.out.2 k hkn)
          have RF := Lib.hid (rfirst_succ (rleft zs n t) k)
          rw [if_neg (Nat.lt_irrefl k)] at cc
          obtain ⟨v, hv⟩ : ∃ v, rarr zs k t - rcn zs n t k = v := ⟨_, rfl⟩
          obtain ⟨x, hx⟩ : ∃ x, rleft zs n t k = x := ⟨_, rfl⟩
          rw [hv] at bd cc st
          rw [hx] at bd st
          have HX := Lib.hid hx
          have HV := Lib.hid hv
          have gP : (fd zs k 0 == 0) = false := by simp; omega
          have gP2 : fd zs k 0 ≠ 0 := by omega
          have htm : (t : Int).tmod (fd zs k 0) = (t : Int) % fd zs k 0 := Int.tmod_eq_emod_of_nonneg (by omega)
          obtain ⟨r, hr⟩ : ∃ r, (t : Int) % fd zs k 0 = r := ⟨_, rfl⟩
          rw [hr] at htm st
          have r0 : 0 ≤ r := by rw [← hr]; exact Int.emod_nonneg _ gP2
          have r1 : r < 60 := by rw [← hr]; exact Int.lt_of_lt_of_le (Int.emod_lt_of_pos _ (by omega)) p1
          have f0 : IntKind.i64.wrap r = r := IntWalk.i64_in _ ⟨by omega, by omega⟩
          have f0' : wrap64 r = r := IntWalk.wrap64_in _ ⟨by omega, by omega⟩
          have gl1 : gl < gl + 1 := by omega
          clear hown hz hx hv hr T
          by_cases hr0 : r = 0
          · subst hr0
            rw [if_pos rfl] at st
            have f1 : IntKind.i64.wrap (v + fd zs k 1) = x := by rw [← st]; exact IntWalk.i64_in _ ⟨by omega, by omega⟩
            have TS := (TA.set hkn x).drew
            have OS := (ownsRow_setCell_below O2 (a := ⟨gl, k, none⟩) gl1 (.int .i64 x)).drew
            subst hoj
            have TSH := Lib.hid TS
            have OSH := Lib.hid OS
            clear TS OS TA O2 st
            go_wp2_with fail
            go_region_law (fail)
            all_goals
              obtain ⟨wz, hwz⟩ : ∃ wz, ((wr.alloc (.cells #[.int .i64 (fd zs k 0), .int .i64 (fd zs k 1), .int .i64 (fd zs k 2)] 48)).setCell ⟨gl, k, none⟩ (.int .i64 x)).drew = wz := ⟨_, rfl⟩
              rw [hwz] at TSH OSH ⊢
              clear hwz cc cf a0 a1 a2
              have cx := (TSH.out.cl hkn).1
              rw [if_pos rfl] at cx
              have TN := Lib.hid (TSH.out.congr (u' := fun q => if q < k + 1 then rleft zs n t q else rarr zs q t - rcn zs n t q) fun q hq => by
              by_cases h1 : q = k
              · rw [if_pos h1, if_pos (show q < k + 1 by omega), h1, HX.out]
              · rw [if_neg h1]
                by_cases h2 : q < k
                · rw [if_pos h2, if_pos (show q < k + 1 by omega)]
                · rw [if_neg h2, if_neg (show ¬ q < k + 1 by omega)])
              clear TSH
              have BX := bd
              by_cases hz0 : z < 0
              · have dz : decide (z < 0) = true := decide_eq_true hz0
                by_cases hx0 : 0 < x
                · have dx : decide (0 < x) = true := decide_eq_true hx0
                  have HZ0 := Lib.hid hz0
                  clear hz0
                  go_wp2_with fail
                  go_roundw
                  case rel => exact ⟨k + 1, by omega, by go_num, ret_who (by rw [RF.out, HX.out, HZ.out, if_pos ⟨HZ0.out, hx0⟩]), OSH.out, TN.out⟩
                  case measure => simp [intOf]; omega
                · have dx : decide (0 < x) = false := decide_eq_false hx0
                  have HX0 := Lib.hid hx0
                  clear hz0
                  go_wp2_with fail
                  go_roundw
                  case rel => exact ⟨k + 1, by omega, by go_num, ret_who (by rw [RF.out, HX.out, HZ.out, if_neg (fun h => by have := h.2; have := HX0.out; omega)]), OSH.out, TN.out⟩
                  case measure => simp [intOf]; omega
              · have dz : decide (z < 0) = false := decide_eq_false hz0
                have HZ0 := Lib.hid hz0
                clear hz0
                go_wp2_with fail
                go_roundw
                case rel => exact ⟨k + 1, by omega, by go_num, ret_who (by rw [RF.out, HX.out, HZ.out, if_neg (fun h => by have := h.1; have := HZ0.out; omega)]), OSH.out, TN.out⟩
                case measure => simp [intOf]; omega
          · rw [if_neg hr0] at st
            have hxv : x = v := by omega
            subst hxv
            have er : (r == 0) = false := by simpa using hr0
            have TN := Lib.hid (TA.congr (u' := fun q => if q < k + 1 then rleft zs n t q else rarr zs q t - rcn zs n t q) fun q hq => by
              by_cases h1 : q = k
              · rw [h1, if_neg (Nat.lt_irrefl k), if_pos (Nat.lt_succ_self k), HV.out, HX.out]
              · by_cases h2 : q < k
                · rw [if_pos h2, if_pos (show q < k + 1 by omega)]
                · rw [if_neg h2, if_neg (show ¬ q < k + 1 by omega)])
            have OSH := Lib.hid O2
            have hrr := Lib.hid hr0
            subst hoj
            clear TA O2 st hr0
            have BX := bd
            by_cases hz0 : z < 0
            · have dz : decide (z < 0) = true := decide_eq_true hz0
              by_cases hx0 : 0 < x
              · have dx : decide (0 < x) = true := decide_eq_true hx0
                have HZ0 := Lib.hid hz0
                clear hz0
                go_wp2_with fail
                go_roundw
                case rel => exact ⟨k + 1, by omega, by go_num, ret_who (by rw [RF.out, HX.out, HZ.out, if_pos ⟨HZ0.out, hx0⟩]), OSH.out, TN.out⟩
                case measure => simp [intOf]; omega
              · have dx : decide (0 < x) = false := decide_eq_false hx0
                have HX0 := Lib.hid hx0
                clear hz0
                go_wp2_with fail
                go_roundw
                case rel => exact ⟨k + 1, by omega, by go_num, ret_who (by rw [RF.out, HX.out, HZ.out, if_neg (fun h => by have := h.2; have := HX0.out; omega)]), OSH.out, TN.out⟩
                case measure => simp [intOf]; omega
            · have dz : decide (z < 0) = false := decide_eq_false hz0
              have HZ0 := Lib.hid hz0
              clear hz0
              go_wp2_with fail
              go_roundw
              case rel => exact ⟨k + 1, by omega, by go_num, ret_who (by rw [RF.out, HX.out, HZ.out, if_neg (fun h => by have := h.1; have := HZ0.out; omega)]), OSH.out, TN.out⟩
              case measure => simp [intOf]; omega
        · have hkn' : k = n := by omega
          subst hkn'
          have hn2 : ¬ (k : Int) < k := by omega
          have TN := Lib.hid (T.congr (u' := rleft zs k t) fun q hq => by rw [if_pos hq])
          have OSH := Lib.hid hown
          have HW : Hid (rwho zs k t = z) := hz
          have hsz : gl + 1 ≤ wr.heap.size := T.sz
          rcases rwho_cases zs k t with ⟨e, _⟩ | ⟨j, hj, e, e1, _⟩
          · have ez : z = -1 := by rw [← HW.out]; exact e
            subst ez
            have E := Lib.hid e
            clear T hown hz e
            go_wp2_with (at_builtin; refine wpList_push rfl (.tmp 62) (.tmp 64) _ rfl elemInt (gl + 1) _ t _ _ rfl rfl OSH.out (Below.refl (gl + 1) wr) hsz rfl (by omega) ?_; intro v1 w3 hown3 hb3 hz3)
            go_roundw
            case rel =>
              refine ⟨t + 1, by omega, by go_num, ?_, (TN.out.on hb3).congr fun q hq => ?_⟩
              · rw [← E.out, tab_push] at hown3; exact hown3
              · rw [rcn_succ, if_neg (by rw [E.out]; omega)]; unfold rleft; omega
            case measure => simp [intOf]; omega
          · have ez : z = (j : Int) := by rw [← HW.out]; exact e
            subst ez
            have E := Lib.hid e
            have bd := rleft_bd OK.out.2 (t := t) hj (by omega)
            obtain ⟨x, hx⟩ : ∃ x, rleft zs k t j = x := ⟨_, rfl⟩
            have HX := Lib.hid hx
            rw [hx] at bd
            have f1 : IntKind.i64.wrap (x - 1) = x - 1 := IntWalk.i64_in _ ⟨by omega, by omega⟩
            have hj0 : (0 : Int) ≤ j := by omega
            have hj1 : (j : Int) < k := by omega
            clear T hown hz e hx e1
            go_wp2_with (
              at_builtin
              refine wpList_push rfl (.tmp 62) (.tmp 64) _ rfl elemInt (gl + 1) _ t _ _ rfl rfl OSH.out (Below.refl (gl + 1) wr) hsz rfl (by omega) ?_
              intro v1 w3 hown3 hb3 hz3
              have T3 := TN.out.on hb3
              have T4 := Lib.hid (T3.set hj (x - 1))
              have O5 := Lib.hid (ownsRow_setCell_below hown3 (a := ⟨gl, j, none⟩) (Nat.lt_succ_self gl) (.int .i64 (x - 1)))
              obtain ⟨m1, m2⟩ := T3.cl hj
              rw [HX.out] at m1
              clear T3 hown3 hb3)
            go_roundw
            case rel =>
              refine ⟨t + 1, by omega, by go_num, ?_, T4.out.congr fun q hq => ?_⟩
              · have := O5.out; rw [← E.out, tab_push] at this; exact this
              · rw [rcn_succ, E.out]
                by_cases hqj : q = j
                · subst hqj; rw [if_pos rfl, if_pos rfl, ← HX.out]; unfold rleft; omega
                · rw [if_neg hqj, if_neg (by omega)]; unfold rleft; omega
            case measure => simp [intOf]; omega
    · have htt : t = 200 := by omega
      subst htt
      obtain ⟨Ao, co, rfl, hco⟩ := own_form hown
      have SO := Lib.hid (Sl.of_own hown)
      have BT := Lib.hid (B1.out.trans (T.bel.mono B1.out.size))
      clear hown T OO TT
      go_wp2_with fail
      go_ret2
      exact ⟨_, _, rfl, SO.out, BT.out⟩
end Go.Proofs.Ytigekbidbeilnaa
