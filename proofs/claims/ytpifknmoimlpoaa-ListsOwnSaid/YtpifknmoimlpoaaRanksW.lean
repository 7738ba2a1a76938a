/- slices.SortStableFunc of a few tasks by their Dues. -/
import Derived.Test.YtpifknmoimlpoaaOwnT
import Derived.Test.YtpifknmoimlpoaaRanksO
import Derived.Test.YtpifknmoimlpoaaCloneTask
import Derived.Deep.RegionHeld3
import Derived.Deep.RegionLaw
set_option linter.unusedVariables false
namespace Go.Proofs.Ytpifknmoimlpoaa
open Go.RowKit
theorem own_keepO {w w' : World} {base size n cap g D : Nat} {e : TypeId} {xs : List Value} (h : w.ownsRow base e size (.slice (some ⟨g, 0, none⟩) n cap) n xs) (hb : Below D w w') (hg : g < D) : w'.ownsRow base e size (.slice (some ⟨g, 0, none⟩) n cap) n xs := by
  refine ⟨h.1, ?_⟩
  rcases h.2 with ⟨h', _⟩ | ⟨g', cap', cur, h', h1, h2, h3⟩
  · simp at h'
  · refine .inr ⟨g', cap', cur, h', h1, ?_, h3⟩
    injection h' with h4
    injection h4 with h4
    injection h4 with h4
    subst h4
    exact (hb.block g hg).trans h2
theorem cmpT (x0 x1 x2 y0 y1 y2 : Int) (W : World) (hx : 1 ≤ x2 ∧ x2 ≤ 60) (hy : 1 ≤ y2 ∧ y2 ≤ 60) :
    Calls Try.prog 108 #[.agg #[.int .i64 x0, .int .i64 x1, .int .i64 x2], .agg #[.int .i64 y0, .int .i64 y1, .int .i64 y2]] W fun e w' => e = .returned (.int .i64 (x2 - y2)) ∧ Below W.heap.size W w' := by
  obtain ⟨hx0, hx1⟩ := hx
  obtain ⟨hy0, hy1⟩ := hy
  have f1 : IntKind.i64.wrap (x2 - y2) = x2 - y2 := IntWalk.i64_in _ ⟨by omega, by omega⟩
  go_enter Try.func108, Try.ntmps108
  go_wp2_with fail
  go_ret
  exact ⟨rfl, ((Below.refl _ _).alloc (Nat.le_refl _) _).alloc (by simp) _⟩
set_option maxHeartbeats 3200000 in
theorem insT (I : List Int → Prop) (g n cap : Nat) (zs : List Int) (W : World) (B0 : Nat) (hI0 : I zs) (hIs : ∀ ys j, I ys → j + 1 < n → fd ys (j + 1) 2 < fd ys j 2 → I (swapT ys n (j + 1) j)) (hIr : ∀ ys, I ys → ranksOk ys n) (hl : zs.length = n * 3) (hn : 0 < n)
    (hown : W.ownsRow B0 93 3 (.slice (some ⟨g, 0, none⟩) n cap) n (ints zs)) (hg : B0 ≤ g) (hgW : g < W.heap.size) :
    Calls Try.prog 129 #[.slice (some ⟨g, 0, none⟩) n cap, .int .i64 0, .int .i64 n, .func (.func 108) #[] #[]] W fun e w' => e = .returned (.tuple #[]) ∧ ∃ ys, I ys ∧ ys.length = n * 3 ∧ sortTo ys (n - 1) 0 ∧ w'.ownsRow B0 93 3 (.slice (some ⟨g, 0, none⟩) n cap) n (ints ys) ∧ Below B0 W w' := by
  have HIS := Lib.hid hIs
  have HIR := Lib.hid hIr
  have HI0 := Lib.hid hI0
  have HO := Lib.hid hown
  have n5 := (hIr zs hI0).1
  clear hIs hIr hI0 hown
  go_enter Try.func129, Try.ntmps129
  go_wp2_with fail
  go_loopw [8] (fun vi wr => ∃ i : Nat, ∃ ys : List Int, 1 ≤ i ∧ i ≤ n ∧ vi = .int .i64 i ∧ Hid (I ys) ∧ Hid (ys.length = n * 3) ∧ Hid (sortTo ys (i - 1) 0) ∧ Hid (wr.ownsRow B0 93 3 (.slice (some ⟨g, 0, none⟩) n cap) n (ints ys)) ∧ Below B0 W wr) (fun vi _ => n - (intOf vi).toNat)
  case atStart => exact ⟨1, zs, Nat.le_refl _, by omega, rfl, HI0, hl, Lib.hid (fun p q h1 h2 h3 => by omega), HO, Below.refl _ _⟩
  case round =>
    obtain ⟨i, ys, hi1, hin, rfl, hI, hyl, hst, hO, hb⟩ := hrel
    have HB := Lib.hid hb
    by_cases hlt : i < n
    · have hltz : (i : Int) < n := by omega
      clear hb
      go_wp2_with fail
      go_loopw [9] (fun vj w2 => ∃ j : Nat, ∃ xs : List Int, j ≤ i ∧ vj = .int .i64 j ∧ Hid (I xs) ∧ Hid (xs.length = n * 3) ∧ Hid (sortTo xs i j) ∧ Hid (w2.ownsRow B0 93 3 (.slice (some ⟨g, 0, none⟩) n cap) n (ints xs)) ∧ Below B0 W w2) (fun vj _ => (intOf vj).toNat)
      case atStart =>
        refine ⟨i, ys, Nat.le_refl _, rfl, hI, hyl, Lib.hid ?_, hO, HB.out⟩
        obtain ⟨k, rfl⟩ : ∃ k, i = k + 1 := ⟨i - 1, by omega⟩
        exact sortTo_start hst.out
      case round =>
        obtain ⟨j, xs, hji, rfl, hX, hxl, hsx, hOx, hb⟩ := hrel
        have HB2 := Lib.hid hb
        by_cases hj0 : 0 < j
        · obtain ⟨jp, rfl⟩ : ∃ jp, j = jp + 1 := ⟨j - 1, by omega⟩
          have hji' : jp + 1 < n := by omega
          have cell : ∀ r q, r < n → q < 3 → wr.drew.cell? ⟨g, r * 3 + q, none⟩ = some (.int .i64 (fd xs r q)) := fun r q hr hq => by
            have := hOx.out.cellAt (r * 3 + q) (by omega)
            rwa [ints_get (by rw [hxl.out]; omega)] at this
          have ca0 := cell (jp + 1) 0 hji' (by omega)
          have ca1 := cell (jp + 1) 1 hji' (by omega)
          have ca2 := cell (jp + 1) 2 hji' (by omega)
          have cb0 := cell jp 0 (by omega) (by omega)
          have cb1 := cell jp 1 (by omega) (by omega)
          have cb2 := cell jp 2 (by omega) (by omega)
          rw [Nat.add_zero] at ca0 cb0
          have hgw : g < wr.heap.size := Nat.lt_of_lt_of_le hgW hb.size
          have OK := Lib.hid (HIR.out xs hX.out)
          obtain ⟨p0, p1, p2, p3, p4⟩ := OK.out.2 jp (by omega)
          obtain ⟨q0, q1, q2, q3, q4⟩ := OK.out.2 (jp + 1) hji'
          have hwp : IntKind.i64.wrap (jp : Int) = (jp : Int) := IntWalk.i64_in _ ⟨by omega, by omega⟩
          have jz : (jp : Int) + 1 < n := by omega
          have jz1 : (jp : Int) < n := by omega
          have jz0 : (0 : Int) ≤ jp := by omega
          have jz2 : (0 : Int) < (jp : Int) + 1 := by omega
          have jz3 : (0 : Int) ≤ (jp : Int) + 1 := by omega
          have e0 : ((jp : Int) + 1).toNat = jp + 1 := by omega
          have ed : decide (0 < (jp : Int) + 1) = true := decide_eq_true jz2
          have hbd : Below wr.heap.size wr wr.drew := (Below.refl _ _).drew
          have CA : Hid (∀ w', Below wr.heap.size wr w' → ∀ r q, r < n → q < 3 → w'.cell? ⟨g, r * 3 + q, none⟩ = some (.int .i64 (fd xs r q))) := Lib.hid fun w' hb' r q hr hq => (hb'.cell (p := ⟨g, r * 3 + q, none⟩) hgw).trans (cell r q hr hq)
          clear cell hb
          by_cases hlv : fd xs (jp + 1) 2 < fd xs jp 2
          · have ev : decide (fd xs (jp + 1) 2 - fd xs jp 2 < 0) = true := decide_eq_true (by omega)
            have HLV := Lib.hid hlv
            clear hlv
            go_wp2_with fail
            go_region_held3 (fun w' => Below wr.heap.size wr w' ∧ w'.cell? ⟨g, (jp + 1) * 3, none⟩ = some (.int .i64 (fd xs (jp + 1) 0)) ∧ w'.cell? ⟨g, (jp + 1) * 3 + 1, none⟩ = some (.int .i64 (fd xs (jp + 1) 1)) ∧ w'.cell? ⟨g, (jp + 1) * 3 + 2, none⟩ = some (.int .i64 (fd xs (jp + 1) 2)) ∧ w'.cell? ⟨g, jp * 3, none⟩ = some (.int .i64 (fd xs jp 0)) ∧ w'.cell? ⟨g, jp * 3 + 1, none⟩ = some (.int .i64 (fd xs jp 1)) ∧ w'.cell? ⟨g, jp * 3 + 2, none⟩ = some (.int .i64 (fd xs jp 2))) (go_keep)
              (first | (go_at_call 108; refine (cmpT _ _ _ _ _ _ _ ⟨by omega, by omega⟩ ⟨by omega, by omega⟩).mono ?_; rintro e w' ⟨rfl, hbb⟩; have hb1 : Below wr.heap.size wr w' := hbd.trans (hbb.mono hbd.size); have ha0 := CA.out w' hb1 (jp + 1) 0 (by omega) (by omega); have ha1 := CA.out w' hb1 (jp + 1) 1 (by omega) (by omega); have ha2 := CA.out w' hb1 (jp + 1) 2 (by omega) (by omega); have hb0 := CA.out w' hb1 jp 0 (by omega) (by omega); have hb4 := CA.out w' hb1 jp 1 (by omega) (by omega); have hb2 := CA.out w' hb1 jp 2 (by omega) (by omega); rw [Nat.add_zero] at ha0 hb0))
            have B2 := Lib.hid (HB2.out.trans (hb1.mono (Nat.le_trans (Nat.le_trans hg (Nat.le_of_lt hgW)) HB2.out.size)))
            have HO := Lib.hid (own_keepO hOx.out hb1 hgw)
            clear hbb hb1 ha0 ha1 ha2 hb0 hb4 hb2 hbd ca0 ca1 ca2 cb0 cb1 cb2 CA
            rename_i hHeld_
            clear hHeld_
            generalize w' = wq at B2 HO ⊢
            have ci : ∀ q, q < 3 → wq.cell? ⟨g, (jp + 1) * 3 + q, none⟩ = some (.int .i64 (fd xs (jp + 1) q)) := fun q hq => by
              have := HO.out.cellAt ((jp + 1) * 3 + q) (by omega)
              rwa [ints_get (by rw [hxl.out]; omega)] at this
            have ck : ∀ q, q < 3 → wq.cell? ⟨g, jp * 3 + q, none⟩ = some (.int .i64 (fd xs jp q)) := fun q hq => by
              have := HO.out.cellAt (jp * 3 + q) (by omega)
              rwa [ints_get (by rw [hxl.out]; omega)] at this
            have ci0 := ci 0 (by omega)
            have ci1 := ci 1 (by omega)
            have ci2 := ci 2 (by omega)
            have ck0 := ck 0 (by omega)
            have ck1 := ck 1 (by omega)
            have ck2 := ck 2 (by omega)
            rw [Nat.add_zero] at ci0 ck0
            have q3 : ∀ q, wq.frozen? ⟨g, q, none⟩ = false := HO.out.frozenAt
            have o3 := (((HO.out.stored ((jp + 1) * 3 + 0) (.int .i64 (fd xs jp 0))).1.stored ((jp + 1) * 3 + 1) (.int .i64 (fd xs jp 1))).1.stored ((jp + 1) * 3 + 2) (.int .i64 (fd xs jp 2))).1
            rw [ints_set, ints_set, ints_set] at o3
            have o3' : (((wq.setCell ⟨g, (jp + 1) * 3, none⟩ (.int .i64 (fd xs jp 0))).setCell ⟨g, (jp + 1) * 3 + 1, none⟩ (.int .i64 (fd xs jp 1))).setCell ⟨g, (jp + 1) * 3 + 2, none⟩ (.int .i64 (fd xs jp 2))).ownsRow B0 93 3 (.slice (some ⟨g, 0, none⟩) n cap) n (ints (((xs.set ((jp + 1) * 3 + 0) (fd xs jp 0)).set ((jp + 1) * 3 + 1) (fd xs jp 1)).set ((jp + 1) * 3 + 2) (fd xs jp 2))) := o3
            have e1 := o3'.cellAt (jp * 3) (by omega)
            have e2 := o3'.cellAt (jp * 3 + 1) (by omega)
            have e3 := o3'.cellAt (jp * 3 + 2) (by omega)
            rw [ints_get (by simp [hxl.out]; omega)] at e1 e2 e3
            have o6 := (((o3'.stored (jp * 3 + 0) (.int .i64 (fd xs (jp + 1) 0))).1.stored (jp * 3 + 1) (.int .i64 (fd xs (jp + 1) 1))).1.stored (jp * 3 + 2) (.int .i64 (fd xs (jp + 1) 2))).1
            rw [ints_set, ints_set, ints_set, swap_stores hxl.out hji' (by omega)] at o6
            have b6 : Below B0 W ((((((wq.setCell ⟨g, (jp + 1) * 3, none⟩ (.int .i64 (fd xs jp 0))).setCell ⟨g, (jp + 1) * 3 + 1, none⟩ (.int .i64 (fd xs jp 1))).setCell ⟨g, (jp + 1) * 3 + 2, none⟩ (.int .i64 (fd xs jp 2))).setCell ⟨g, jp * 3, none⟩ (.int .i64 (fd xs (jp + 1) 0))).setCell ⟨g, jp * 3 + 1, none⟩ (.int .i64 (fd xs (jp + 1) 1))).setCell ⟨g, jp * 3 + 2, none⟩ (.int .i64 (fd xs (jp + 1) 2))).drew := ((((((B2.out.setCell (p := ⟨g, (jp + 1) * 3, none⟩) hg _).setCell (p := ⟨g, (jp + 1) * 3 + 1, none⟩) hg _).setCell (p := ⟨g, (jp + 1) * 3 + 2, none⟩) hg _).setCell (p := ⟨g, jp * 3, none⟩) hg _).setCell (p := ⟨g, jp * 3 + 1, none⟩) hg _).setCell (p := ⟨g, jp * 3 + 2, none⟩) hg _).drew
            have o7 := World.ownsRow.drew o6
            simp only [Nat.add_zero] at o7
            have O7 := Lib.hid o7
            have B7 := Lib.hid b6
            generalize gi (((xs.set ((jp + 1) * 3 + 0) (fd xs jp 0)).set ((jp + 1) * 3 + 1) (fd xs jp 1)).set ((jp + 1) * 3 + 2) (fd xs jp 2)) (jp * 3) = G1 at *
            generalize gi (((xs.set ((jp + 1) * 3 + 0) (fd xs jp 0)).set ((jp + 1) * 3 + 1) (fd xs jp 1)).set ((jp + 1) * 3 + 2) (fd xs jp 2)) (jp * 3 + 1) = G2 at *
            generalize gi (((xs.set ((jp + 1) * 3 + 0) (fd xs jp 0)).set ((jp + 1) * 3 + 1) (fd xs jp 1)).set ((jp + 1) * 3 + 2) (fd xs jp 2)) (jp * 3 + 2) = G3 at *
            clear o3 o3' o6 b6 o7 ci ck B2 HO
            go_wp2_with fail
            go_region_law (fail)
            all_goals
              clear e1 e2 e3 q3 ci0 ci1 ci2 ck0 ck1 ck2
              obtain ⟨wz, hwz⟩ : ∃ wz, ((((((wq.setCell ⟨g, (jp + 1) * 3, none⟩ (.int .i64 (fd xs jp 0))).setCell ⟨g, (jp + 1) * 3 + 1, none⟩ (.int .i64 (fd xs jp 1))).setCell ⟨g, (jp + 1) * 3 + 2, none⟩ (.int .i64 (fd xs jp 2))).setCell ⟨g, jp * 3, none⟩ (.int .i64 (fd xs (jp + 1) 0))).setCell ⟨g, jp * 3 + 1, none⟩ (.int .i64 (fd xs (jp + 1) 1))).setCell ⟨g, jp * 3 + 2, none⟩ (.int .i64 (fd xs (jp + 1) 2))).drew = wz := ⟨_, rfl⟩
              rw [hwz] at O7 B7 ⊢
              clear hwz
              go_wp2_with fail
              go_roundw
              case rel => exact ⟨jp, swapT xs n (jp + 1) jp, by omega, by go_num, Lib.hid (HIS.out xs jp hX.out hji' HLV.out), Lib.hid (swapT_len _ _ _ _), Lib.hid (sortTo_swap hlt (by omega) HLV.out hsx.out), O7, B7.out⟩
              case measure => simp [intOf]
          · have ev : decide (fd xs (jp + 1) 2 - fd xs jp 2 < 0) = false := decide_eq_false (by omega)
            have HLV := Lib.hid hlv
            clear hlv
            go_wp2_with fail
            go_region_held3 (fun w' => Below wr.heap.size wr w' ∧ w'.cell? ⟨g, (jp + 1) * 3, none⟩ = some (.int .i64 (fd xs (jp + 1) 0)) ∧ w'.cell? ⟨g, (jp + 1) * 3 + 1, none⟩ = some (.int .i64 (fd xs (jp + 1) 1)) ∧ w'.cell? ⟨g, (jp + 1) * 3 + 2, none⟩ = some (.int .i64 (fd xs (jp + 1) 2)) ∧ w'.cell? ⟨g, jp * 3, none⟩ = some (.int .i64 (fd xs jp 0)) ∧ w'.cell? ⟨g, jp * 3 + 1, none⟩ = some (.int .i64 (fd xs jp 1)) ∧ w'.cell? ⟨g, jp * 3 + 2, none⟩ = some (.int .i64 (fd xs jp 2))) (go_keep)
              (first | (go_at_call 108; refine (cmpT _ _ _ _ _ _ _ ⟨by omega, by omega⟩ ⟨by omega, by omega⟩).mono ?_; rintro e w' ⟨rfl, hbb⟩; have hb1 : Below wr.heap.size wr w' := hbd.trans (hbb.mono hbd.size); have ha0 := CA.out w' hb1 (jp + 1) 0 (by omega) (by omega); have ha1 := CA.out w' hb1 (jp + 1) 1 (by omega) (by omega); have ha2 := CA.out w' hb1 (jp + 1) 2 (by omega) (by omega); have hb0 := CA.out w' hb1 jp 0 (by omega) (by omega); have hb4 := CA.out w' hb1 jp 1 (by omega) (by omega); have hb2 := CA.out w' hb1 jp 2 (by omega) (by omega); rw [Nat.add_zero] at ha0 hb0))
            have B2 := Lib.hid (HB2.out.trans (hb1.mono (Nat.le_trans (Nat.le_trans hg (Nat.le_of_lt hgW)) HB2.out.size)))
            have HO := Lib.hid (own_keepO hOx.out hb1 hgw)
            clear hbb hb1 ha0 ha1 ha2 hb0 hb4 hb2 hbd ca0 ca1 ca2 cb0 cb1 cb2 CA
            rename_i hHeld_
            clear hHeld_
            generalize w' = wq at B2 HO ⊢
            go_wp2_with fail
            go_roundw
            case rel => exact ⟨i + 1, xs, by omega, by omega, by go_num, hX, hxl, Lib.hid (sortTo_done (by omega) (by have := HLV.out; omega) hsx.out), HO, B2.out⟩
            case measure => simp [intOf]; omega
        · obtain rfl : j = 0 := by omega
          have ed : decide ((0 : Int) < 0) = false := rfl
          clear hb
          go_wp2_with fail
          go_quiet (fail)
          go_wp2_with fail
          go_roundw
          case rel => exact ⟨i + 1, xs, by omega, by omega, by go_num, hX, hxl, hsx, Lib.hid (own_keepO hOx.out (bel_drewN (Below.refl wr.heap.size wr) _) (Nat.lt_of_lt_of_le hgW HB2.out.size)), bel_drewN HB2.out _⟩
          case measure => simp [intOf]; omega
    · obtain rfl : i = n := by omega
      have hltz : ¬ (i : Int) < i := by omega
      clear hb
      go_wp2_with fail
      go_end0
      exact ⟨rfl, ys, hI.out, hyl.out, hst.out, hO.out, HB.out⟩
theorem insT0 (A : Option Addr) (c : Nat) (W : World) :
    Calls Try.prog 129 #[.slice A 0 c, .int .i64 0, .int .i64 0, .func (.func 108) #[] #[]] W fun e w' => e = .returned (.tuple #[]) ∧ w' = W := by
  go_enter Try.func129, Try.ntmps129
  go_wp2_with fail
  go_loopw [8] (fun vi wr => vi = .int .i64 1 ∧ wr = W) (fun vi _ => 0)
  case atStart => exact ⟨rfl, rfl⟩
  case round =>
    obtain ⟨rfl, rfl⟩ := hrel
    go_wp2_with fail
    go_end0
    exact ⟨rfl, rfl⟩
set_option maxHeartbeats 1600000 in
theorem stabT (A : Option Addr) (n c : Nat) (W : World) (hn : n ≤ 5) (Q : Ending → World → Prop)
    (h : Calls Try.prog 129 #[.slice A n c, .int .i64 0, .int .i64 n, .func (.func 108) #[] #[]] W fun e w' => e = .returned (.tuple #[]) ∧ Q (.returned (.tuple #[])) w') :
    Calls Try.prog 107 #[.slice A n c, .func (.func 108) #[] #[]] W Q := by
  have H := Lib.hid h
  clear h
  have hn1 : ¬ (20 : Int) ≤ n := by omega
  have hn2 : ¬ (20 : Int) < n := by omega
  have st : Hid (Calls Try.prog 114 #[.slice A n c, .int .i64 n, .func (.func 108) #[] #[]] W fun e w' => e = .returned (.tuple #[]) ∧ Q (.returned (.tuple #[])) w') := by
    show Calls _ _ _ _ _
    go_enter Try.func114, Try.ntmps114
    go_wp2_with fail
    go_loopw [7, 8] (fun va vb wr => va = .int .i64 0 ∧ vb = .int .i64 20 ∧ wr = W) (fun _ vb _ => 0)
    case atStart => exact ⟨rfl, rfl, rfl⟩
    case round =>
      obtain ⟨rfl, rfl, rfl⟩ := hrel
      go_wp2_with fail
      refine H.out.mono ?_
      rintro e w' ⟨rfl, hq⟩
      have HQ := Lib.hid hq
      clear hq
      go_wp2_with fail
      go_loopw [6] (fun vb wr => vb = .int .i64 20 ∧ wr = w') (fun vb _ => 0)
      case atStart => exact ⟨rfl, rfl⟩
      case round =>
        obtain ⟨rfl, rfl⟩ := hrel
        go_wp2_with fail
        go_end0
        exact ⟨rfl, HQ.out⟩
  clear hn1 hn2 H
  go_enter Try.func107, Try.ntmps107
  go_wp2_with fail
  refine st.out.mono ?_
  rintro e w' ⟨rfl, hq⟩
  have HQ := Lib.hid hq
  clear hq
  go_wp2_with fail
  go_end0
  exact HQ.out
theorem sorted_le {ys : List Int} {n : Nat} (h : sortTo ys (n - 1) 0) (p q : Nat) (h1 : p < q) (h2 : q < n) : fd ys p 2 ≤ fd ys q 2 := h p q h1 (by omega) (by omega)
set_option maxHeartbeats 1600000 in
theorem order_ok (I : List Int → Prop) (A : Option Addr) (n c : Nat) (zs : List Int) (W : World) (hI0 : I zs) (hIs : ∀ ys j, I ys → j + 1 < n → fd ys (j + 1) 2 < fd ys j 2 → I (swapT ys n (j + 1) j)) (hIr : ∀ ys, I ys → ranksOk ys n) (hs : Sl W W.heap.size A (n * 3) (ints zs)) :
    Calls Try.prog 65 #[.slice A n c] W fun e w' => ∃ A' c' ys, e = .returned (.tuple #[.slice A' n c', .int .i64 0]) ∧ I ys ∧ (∀ p q, p < q → q < n → fd ys p 2 ≤ fd ys q 2) ∧ n ≤ c' ∧ Sl w' w'.heap.size A' (n * 3) (ints ys) ∧ Below W.heap.size W w' ∧ w'.ownsRow W.heap.size 93 3 (.slice A' n c') n (ints ys) := by
  have OK := Lib.hid (hIr zs hI0)
  have n5 := OK.out.1
  have HIS := Lib.hid hIs
  have HIR := Lib.hid hIr
  have HI0 := Lib.hid hI0
  have hl := hs.int_len
  clear hIs hIr hI0
  go_enter Try.func65, Try.ntmps65
  go_wp2_with fail
  refine (rcheck_ok A n c zs _ OK.out hs).mono ?_
  rintro e w1 ⟨rfl, b1⟩
  have s1 := hs.on b1
  have B1 := Lib.hid b1
  clear hs b1
  go_wp2_with fail
  refine (cloneTask A n c (ints zs) _ s1 (ints_one _) (by omega)).mono ?_
  rintro e w2 ⟨x, rfl, own2, b2, z2⟩
  have B2 := Lib.hid (B1.out.trans (b2.mono B1.out.size))
  rcases Nat.eq_zero_or_pos n with hn | hn
  · subst hn
    obtain ⟨A', c', rfl, hc'⟩ := own_form own2
    have S2 := Lib.hid (Sl.of_own3 own2)
    have OF := Lib.hid (own_lower own2 B1.out.size)
    clear s1 own2 b2
    go_wp2_with fail
    refine stabT A' 0 c' _ (by omega) (fun e w' => e = .returned (.tuple #[]) ∧ w' = w2) ((insT0 A' c' w2).mono ?_) |>.mono ?_
    · rintro e w' ⟨rfl, rfl⟩; exact ⟨rfl, rfl, rfl⟩
    rintro e w' ⟨rfl, rfl⟩
    go_wp2_with fail
    go_ret2
    exact ⟨A', c', zs, rfl, HI0.out, fun p q h1 h2 => by omega, hc', S2.out, B2.out, OF.out⟩
  · obtain ⟨g, cap, rfl, hg1, hg2⟩ := own2.form hn
    have hcap : n ≤ cap := by
      obtain ⟨A', c', e, h⟩ := own_form own2
      injection e with e1 e2 e3
      omega
    have O2 := Lib.hid own2
    clear s1 own2 b2
    go_wp2_with fail
    refine stabT _ n cap _ (by omega) (fun e w' => e = .returned (.tuple #[]) ∧ ∃ ys, I ys ∧ ys.length = n * 3 ∧ sortTo ys (n - 1) 0 ∧ w'.ownsRow w1.heap.size 93 3 (.slice (some ⟨g, 0, none⟩) n cap) n (ints ys) ∧ Below w1.heap.size w2 w') ((insT I g n cap zs w2 w1.heap.size HI0.out HIS.out HIR.out hl hn O2.out hg1 hg2).mono ?_) |>.mono ?_
    · rintro e w' ⟨rfl, h⟩; exact ⟨rfl, rfl, h⟩
    rintro e w' ⟨rfl, ys, hI, hyl, hst, hown, hb⟩
    have HI := Lib.hid hI
    have HST := Lib.hid hst
    have S2 := Lib.hid (Sl.of_own3 hown)
    have OF := Lib.hid (own_lower hown B1.out.size)
    have B3 := Lib.hid (B2.out.trans (hb.mono B1.out.size))
    clear hI hst hown hb
    go_wp2_with fail
    go_ret2
    exact ⟨_, cap, ys, rfl, HI.out, sorted_le HST.out, hcap, S2.out, B3.out, OF.out⟩
theorem order_bad (A : Option Addr) (n c : Nat) (zs : List Int) (W : World) (h : ¬ ranksOk zs n) (hs : Sl W W.heap.size A (n * 3) (ints zs)) (hnn : n ≤ 9223372036854775807) :
    Calls Try.prog 65 #[.slice A n c] W fun e w' => e = .returned (.tuple #[.slice none 0 0, .int .i64 (ranksErr n)]) ∧ Below W.heap.size W w' := by
  have hne := ranksErr_ne n
  have H := Lib.hid h
  clear h
  go_enter Try.func65, Try.ntmps65
  go_wp2_with fail
  refine (rcheck_bad A n c zs _ H.out hs hnn).mono ?_
  rintro e w1 ⟨rfl, b1⟩
  clear hs
  go_wp2_with fail
  go_ret2
  exact ⟨rfl, b1⟩
end Go.Proofs.Ytpifknmoimlpoaa
