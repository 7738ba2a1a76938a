/- headkeep.roomy, marked, spoil: headway/api.Packet. -/
import Derived.Test.YtpifknmoimlpoaaRoomG
import Derived.Test.YtpifknmoimlpoaaClonePacket
set_option linter.unusedVariables false
namespace Go.Proofs.Ytpifknmoimlpoaa
open Go.RowKit
theorem makePacketZ (c : Nat) (hc : c * 24 ≤ 140737488355328) (w : World) : (Instr.makeSlice 56 (.int .i64 0) (.int .i64 (c : Int))).run Try.prog w = .ok (.slice (some ⟨w.heap.size, 0, none⟩) 0 c) (w.alloc (.cells (madeCells #[Value.int .i64 0, .int .i64 0, .int .i64 0] (c * 3)) 59)) := by
  obtain ⟨ib, hib, hib0, hib1, hib2⟩ := elemPacket.info
  have h := run_make (P := Try.prog) w 56 59 ib (.agg #[.int .i64 0, .int .i64 0, .int .i64 0]) elemPacket.under hib hib0 .i64 .i64 0 c (by omega) (by omega) (by rw [hib2]; omega) (by omega)
  rw [hib1, Int.toNat_natCast] at h
  exact h
set_option maxRecDepth 100000 in
set_option maxHeartbeats 3200000 in
theorem roomyPacket (A : Option Addr) (n c : Nat) (xs : List Value) (W : World) (hs : Sl W W.heap.size A (n * 3) xs) (hu : ∀ u ∈ xs, u.oneCell' = true) (hn : (n + 3) * 24 ≤ 140737488355328) (x0 x1 x2 : Int) :
    Calls Try.prog 29 #[.slice A n c, .agg #[.int .i64 x0, .int .i64 x1, .int .i64 x2]] W fun e w' => ∃ g, e = .returned (.slice (some ⟨g, 0, none⟩) n (n + 3)) ∧ w'.ownsRow W.heap.size 59 3 (.slice (some ⟨g, 0, none⟩) (n + 3) (n + 3)) (n + 3) (xs ++ rep3 [.int .i64 x0, .int .i64 x1, .int .i64 x2] 3) ∧ Below W.heap.size W w' := by
  have hmk : ∀ w : World, (Instr.makeSlice 56 (.int .i64 0) (.int .i64 ((n : Int) + 3))).run Try.prog w = _ := fun w => by have := makePacketZ (n + 3) hn w; push_cast at this; exact this
  have SS := Lib.hid hs
  have HU := Lib.hid hu
  have n3 : (n : Int) + 3 ≤ 9223372036854775807 := by omega
  have HN := Lib.hid hn
  clear hs hu hn
  obtain ⟨w0, hw0⟩ : ∃ w0, (W.alloc (.cells #[.int .i64 x0, .int .i64 x1, .int .i64 x2] 59)) = w0 := ⟨_, rfl⟩
  obtain ⟨gb, hgb⟩ : ∃ gb, W.heap.size = gb := ⟨_, rfl⟩
  have zz : w0.heap.size = gb + 1 := by rw [← hw0, ← hgb]; simp
  have B0 : Hid (Below gb W w0) := Lib.hid (by rw [← hw0, ← hgb]; exact (Below.refl _ _).alloc (Nat.le_refl _) _)
  have x_0 : w0.cell? ⟨gb, 0, none⟩ = some (.int .i64 x0) := by rw [← hw0, ← hgb]; exact World.cell?_alloc_at _ _ _ _ rfl
  have x_1 : w0.cell? ⟨gb, 1, none⟩ = some (.int .i64 x1) := by rw [← hw0, ← hgb]; exact World.cell?_alloc_at _ _ _ _ rfl
  have x_2 : w0.cell? ⟨gb, 2, none⟩ = some (.int .i64 x2) := by rw [← hw0, ← hgb]; exact World.cell?_alloc_at _ _ _ _ rfl
  have OW : Hid ((w0.alloc (.cells (madeCells #[Value.int .i64 0, .int .i64 0, .int .i64 0] ((n + 3) * 3)) 59)).ownsRow (gb + 1) 59 3 (.slice (some ⟨gb + 1, 0, none⟩) (n + 3) (n + 3)) (n + 3) (madeCells #[Value.int .i64 0, .int .i64 0, .int .i64 0] ((n + 3) * 3)).toList) := Lib.hid (by
    rw [← zz]
    exact World.ownsRow_lit w0 _ (n + 3) (Nat.le_refl _) (by have := HN.out; unfold maxLen; omega) (by simp [madeCells]))
  have BW : Hid (Below (gb + 1) w0 (w0.alloc (.cells (madeCells #[Value.int .i64 0, .int .i64 0, .int .i64 0] ((n + 3) * 3)) 59))) := Lib.hid (by rw [← zz]; exact (Below.refl _ _).alloc (Nat.le_refl _) _)
  have SW : Hid (Sl w0 (gb + 1) A (n * 3) xs) := Lib.hid (by rw [← hgb]; exact ((by rw [← hgb] at B0; exact SS.out.below B0.out : Sl w0 W.heap.size A (n * 3) xs)).more (by omega))
  have ggb : gb < gb + 1 := by omega
  have HZ := Lib.hid hgb
  have HW0 := Lib.hid hw0
  have ZZ := Lib.hid zz
  clear hw0
  go_enter Try.func29, Try.ntmps29
  go_wp2_with (at_builtin; rw [HW0.out]; refine wpList_fill rfl (.tmp 10) (.tmp 11) _ rfl elemPacket (gb + 1) (gb + 1) (n + 3) _ OW.out A n c xs (by rfl) (by rfl) (SW.out.below BW.out) HU.out (by omega) ?_; intro w1 ys o1 t1 g1; have O1 := Lib.hid o1; have T1 := Lib.hid t1; have B1 := Lib.hid (BW.out.grown g1 (by rw [World.size_alloc, zz]; omega) (fun b hb => by injection hb with hb; omega)); clear o1 t1 g1)
  go_loopw [13] (fun vi wr => ∃ (j : Nat) (ys : List Value), j ≤ 3 ∧ vi = .int .i64 (j : Int) ∧ Hid (wr.ownsRow (gb + 1) 59 3 (.slice (some ⟨gb + 1, 0, none⟩) (n + 3) (n + 3)) (n + 3) ys) ∧ Hid (ys.take ((n + j) * 3) = xs ++ rep3 [.int .i64 x0, .int .i64 x1, .int .i64 x2] j) ∧ Hid (Below (gb + 1) w0 wr)) (fun vi _ => 3 - (intOf vi).toNat)
  case atStart => exact ⟨0, ys, by omega, rfl, O1, Lib.hid (by show _ = xs ++ []; rw [List.append_nil]; exact T1.out), B1⟩
  case round =>
    clear O1 T1 B1
    obtain ⟨j, ys, hj, rfl, hO, hT, hB⟩ := hrel
    have hj0 : (0 : Int) ≤ j := by omega
    have hl := hO.out.1
    by_cases hlt : j < 3
    · have hn1 : (j : Int) < 3 := by omega
      have NX := Lib.hid (mark_step (m := [.int .i64 x0, .int .i64 x1, .int .i64 x2]) (K := 3) rfl hl (show n + j < n + 3 by omega) hT.out)
      have e1 : ((n : Int) + j).toNat = n + j := by omega
      have e2 : (0 : Int) ≤ (n : Int) + j := by omega
      have e3 : (n : Int) + j < (n : Int) + 3 := by omega
      have e4 : ((n : Int) + 3).toNat = n + 3 := by omega
      have e5 : (0 : Int) ≤ (n : Int) + 3 := by omega
      have e6 : IntKind.i64.wrap ((n : Int) + 3) = (n : Int) + 3 := IntWalk.i64_in _ ⟨by omega, by omega⟩
      have e7 : IntKind.i64.wrap ((n : Int) + j) = (n : Int) + j := IntWalk.i64_in _ ⟨by omega, by omega⟩
      have c0 := hO.out.cellAt ((n + j) * 3) (by omega)
      have c1 := hO.out.cellAt ((n + j) * 3 + 1) (by omega)
      have c2 := hO.out.cellAt ((n + j) * 3 + 2) (by omega)
      rw [List.getElem?_eq_getElem (by omega)] at c0 c1 c2
      have cf : ∀ q, wr.frozen? ⟨gb + 1, q, none⟩ = false := fun q => hO.out.frozenAt q
      have O2 := Lib.hid (own_setC [.int .i64 x0, .int .i64 x1, .int .i64 x2] wr ys ((n + j) * 3) hO.out)
      have B2 := Lib.hid (below_setC [.int .i64 x0, .int .i64 x1, .int .i64 x2] wr ((n + j) * 3) hB.out (Nat.le_refl _))
      have y0 : wr.cell? ⟨gb, 0, none⟩ = some (.int .i64 x0) := (hB.out.cell (p := ⟨gb, 0, none⟩) ggb).trans x_0
      have y1 : wr.cell? ⟨gb, 1, none⟩ = some (.int .i64 x1) := (hB.out.cell (p := ⟨gb, 1, none⟩) ggb).trans x_1
      have y2 : wr.cell? ⟨gb, 2, none⟩ = some (.int .i64 x2) := (hB.out.cell (p := ⟨gb, 2, none⟩) ggb).trans x_2
      have C0 := Lib.hid c0
      have C1 := Lib.hid c1
      have C2 := Lib.hid c2
      have CF := Lib.hid cf
      clear c0 c1 c2 cf
      go_wp2_with fail
      refine wp_region_still_tail 11 (by kernel_rfl) (by kernel_rfl) ?_
      simp only [List.take_succ_cons, List.take_zero, List.drop_succ_cons, List.drop_zero]
      repeat still_step
      refine wpStill_nil ?_
      refine wpList_putPacket rfl (.tmp 26) (.tmp 25) rfl (gb + 1) ((n + j) * 3) x0 x1 x2 (by first | rfl | simp [Act.eval, Act.put]) (by first | rfl | simp [Act.eval, Act.put]) _ _ _ C0.out C1.out C2.out CF.out ?_
      go_wp2_with fail
      go_roundw
      case rel => exact ⟨j + 1, _, by omega, by go_num, Lib.hid O2.out.drew, NX, Lib.hid B2.out.drew⟩
      case measure => simp [intOf]; omega
    · have hj3 : j = 3 := by omega
      subst hj3
      have OF : Hid (wr.ownsRow (gb + 1) 59 3 (.slice (some ⟨gb + 1, 0, none⟩) (n + 3) (n + 3)) (n + 3) (xs ++ rep3 [.int .i64 x0, .int .i64 x1, .int .i64 x2] 3)) := Lib.hid (by
        have := hT.out
        rw [List.take_of_length_le (by omega)] at this
        rw [← this]
        exact hO.out)
      go_wp2_with fail
      go_ret
      exact ⟨gb + 1, rfl, own_lower OF.out (by have := HZ.out; omega), by have h1 := (B0.out.trans (hB.out.mono (by omega))); rw [← HZ.out] at h1; exact h1⟩
set_option maxRecDepth 100000 in
set_option maxHeartbeats 3200000 in
theorem markedPacket (g n base : Nat) (xs : List Value) (x0 x1 x2 : Int) (W : World) (ho : W.ownsRow base 59 3 (.slice (some ⟨g, 0, none⟩) (n + 3) (n + 3)) (n + 3) (xs ++ rep3 [.int .i64 x0, .int .i64 x1, .int .i64 x2] 3)) (hx : xs.length = n * 3) :
    Calls Try.prog 34 #[.slice (some ⟨g, 0, none⟩) n (n + 3), .agg #[.int .i64 x0, .int .i64 x1, .int .i64 x2]] W fun e w' => e = .returned (.bool true) ∧ Below W.heap.size W w' := by
  have gl := (ho.lt g rfl).2
  have hmx : n + 3 ≤ 9223372036854775807 := by
    obtain ⟨cur, _, _, _, hc, _⟩ := own_parts ho
    unfold maxLen at hc
    omega
  have CC : Hid (∀ t i, t < 3 → i < 3 → W.cell? ⟨g, n * 3 + t * 3 + i, none⟩ = [.int .i64 x0, .int .i64 x1, .int .i64 x2][i]?) := Lib.hid fun t i ht hi => by
    rw [ho.cellAt (n * 3 + t * 3 + i) (by omega), List.getElem?_append_right (by omega), show n * 3 + t * 3 + i - xs.length = t * 3 + i by omega]
    exact rep3_get rfl ht hi
  have e0 : ¬ n + 3 = n := by omega
  have e1 : n + 3 - n = 3 := by omega
  have e2 : (n : Int) ≤ (n : Int) + 3 := by omega
  have e3 : ((n : Int) + 3).toNat = n + 3 := by omega
  clear ho hx
  go_enter Try.func34, Try.ntmps34
  go_wp2_with fail
  obtain ⟨wb, hwb⟩ : ∃ wb, (W.alloc (.cells #[.int .i64 x0, .int .i64 x1, .int .i64 x2] 59)) = wb := ⟨_, rfl⟩
  obtain ⟨gb, hgb⟩ : ∃ gb, W.heap.size = gb := ⟨_, rfl⟩
  have x_0 : wb.cell? ⟨gb, 0, none⟩ = some (.int .i64 x0) := by rw [← hwb, ← hgb]; exact World.cell?_alloc_at _ _ _ _ rfl
  have x_1 : wb.cell? ⟨gb, 1, none⟩ = some (.int .i64 x1) := by rw [← hwb, ← hgb]; exact World.cell?_alloc_at _ _ _ _ rfl
  have x_2 : wb.cell? ⟨gb, 2, none⟩ = some (.int .i64 x2) := by rw [← hwb, ← hgb]; exact World.cell?_alloc_at _ _ _ _ rfl
  have zz : wb.heap.size = gb + 1 := by rw [← hwb, ← hgb]; simp
  have B0 : Hid (Below gb W wb) := Lib.hid (by rw [← hwb, ← hgb]; exact (Below.refl _ _).alloc (Nat.le_refl _) _)
  rw [hwb]
  rw [hgb] at gl ⊢
  clear hwb
  go_loopw [14] (fun vi wr => ∃ j : Nat, j ≤ 3 ∧ vi = .int .i64 (j : Int) ∧ Hid (Below (gb + 1) wb wr)) (fun vi _ => 3 - (intOf vi).toNat)
  case atStart => exact ⟨0, by omega, rfl, Lib.hid (Below.refl _ _)⟩
  case round =>
    obtain ⟨j, hj, rfl, hB⟩ := hrel
    have hz := hB.out.size
    have hj0 : (0 : Int) ≤ j := by omega
    have BF := Lib.hid (B0.out.trans (hB.out.mono (show gb ≤ gb + 1 by omega)))
    by_cases hlt : j < 3
    · have hn1 : (j : Int) < 3 := by omega
      have y0 : wr.cell? ⟨gb, 0, none⟩ = some (.int .i64 x0) := (hB.out.cell (p := ⟨gb, 0, none⟩) (show gb < gb + 1 by omega)).trans x_0
      have y1 : wr.cell? ⟨gb, 1, none⟩ = some (.int .i64 x1) := (hB.out.cell (p := ⟨gb, 1, none⟩) (show gb < gb + 1 by omega)).trans x_1
      have y2 : wr.cell? ⟨gb, 2, none⟩ = some (.int .i64 x2) := (hB.out.cell (p := ⟨gb, 2, none⟩) (show gb < gb + 1 by omega)).trans x_2
      have c0 : wr.cell? ⟨g, n * 3 + j * 3, none⟩ = some (.int .i64 x0) := (BF.out.cell (p := ⟨g, n * 3 + j * 3, none⟩) gl).trans (CC.out j 0 hlt (by omega))
      have c1 : wr.cell? ⟨g, n * 3 + j * 3 + 1, none⟩ = some (.int .i64 x1) := (BF.out.cell (p := ⟨g, n * 3 + j * 3 + 1, none⟩) gl).trans (CC.out j 1 hlt (by omega))
      have c2 : wr.cell? ⟨g, n * 3 + j * 3 + 2, none⟩ = some (.int .i64 x2) := (BF.out.cell (p := ⟨g, n * 3 + j * 3 + 2, none⟩) gl).trans (CC.out j 2 hlt (by omega))
      have BA := Lib.hid (hB.out.alloc (by omega) (.cells #[.int .i64 x0, .int .i64 x1, .int .i64 x2] 59))
      have gbl : gb < wr.heap.size := by omega
      have n0 : gb ≠ wr.heap.size := by omega
      clear x_0 x_1 x_2
      go_wp2_with fail
      go_roundw
      case rel => exact ⟨j + 1, by omega, by go_num, BA⟩
      case measure => simp [intOf]; omega
    · have hj3 : j = 3 := by omega
      subst hj3
      go_wp2_with fail
      go_ret
      exact ⟨rfl, by rw [hgb]; exact BF.out⟩
set_option maxRecDepth 100000 in
set_option maxHeartbeats 3200000 in
theorem spoilPacket (base : Nat) (v : Value) (n : Nat) (xs : List Value) (x0 x1 x2 : Int) (W : World) (ho : W.ownsRow base 59 3 v n xs) :
    Calls Try.prog 39 #[v, .agg #[.int .i64 x0, .int .i64 x1, .int .i64 x2]] W fun e w' => e = .returned (.tuple #[]) ∧ W.grownBy w' v.ownBlock := by
  rcases ho.2 with ⟨rfl, h0⟩ | ⟨g, cap, cur, rfl, hbase, hb, h1, h2, h3, h4⟩
  · clear ho
    go_enter Try.func39, Try.ntmps39
    go_wp2_with fail
    go_loopw [11] (fun vi wr => vi = .int .i64 0 ∧ W.grownBy wr none) (fun vi _ => 0)
    case atStart => exact ⟨rfl, by first | exact World.grownBy.refl _ _ | exact World.grownBy_alloc _ _ _⟩
    case round =>
      obtain ⟨rfl, hG⟩ := hrel
      have HG := Lib.hid hG
      clear hG
      go_wp2_with fail
      go_end0
      exact ⟨rfl, HG.out⟩
  · obtain ⟨ys, hf, _⟩ := own_full ho
    have gl := (ho.lt g rfl).2
    have hcap : cap ≤ 9223372036854775807 := by unfold maxLen at h2; omega
    have HF := Lib.hid hf
    clear ho hf hb h2 h3 h4 hbase
    obtain ⟨wb, hwb⟩ : ∃ wb, (W.alloc (.cells #[.int .i64 x0, .int .i64 x1, .int .i64 x2] 59)) = wb := ⟨_, rfl⟩
    obtain ⟨gb, hgb⟩ : ∃ gb, W.heap.size = gb := ⟨_, rfl⟩
    have x_0 : wb.cell? ⟨gb, 0, none⟩ = some (.int .i64 x0) := by rw [← hwb, ← hgb]; exact World.cell?_alloc_at _ _ _ _ rfl
    have x_1 : wb.cell? ⟨gb, 1, none⟩ = some (.int .i64 x1) := by rw [← hwb, ← hgb]; exact World.cell?_alloc_at _ _ _ _ rfl
    have x_2 : wb.cell? ⟨gb, 2, none⟩ = some (.int .i64 x2) := by rw [← hwb, ← hgb]; exact World.cell?_alloc_at _ _ _ _ rfl
    have OB : Hid (wb.ownsRow base 59 3 (.slice (some ⟨g, 0, none⟩) cap cap) cap ys) := Lib.hid (by rw [← hwb]; exact HF.out.alloc _)
    have GB : Hid (W.grownBy wb (some g)) := Lib.hid (by rw [← hwb]; exact World.grownBy_alloc _ _ _)
    have HW := Lib.hid hwb
    rw [hgb] at gl
    have HGB := Lib.hid hgb
    clear hwb
    go_enter Try.func39, Try.ntmps39
    go_wp2_with fail
    rw [HW.out]
    try rw [HGB.out]
    go_loopw [11] (fun vi wr => ∃ (j : Nat) (ys : List Value), j ≤ cap ∧ vi = .int .i64 (j : Int) ∧ Hid (wr.ownsRow base 59 3 (.slice (some ⟨g, 0, none⟩) cap cap) cap ys) ∧ Hid (wb.grownBy wr (some g))) (fun vi _ => cap - (intOf vi).toNat)
    case atStart => exact ⟨0, ys, Nat.zero_le _, rfl, OB, Lib.hid (World.grownBy.refl _ _)⟩
    case round =>
      obtain ⟨j, ys, hj, rfl, hO, hG⟩ := hrel
      have hj0 : (0 : Int) ≤ j := by omega
      have hl := hO.out.1
      by_cases hlt : j < cap
      · have hn1 : (j : Int) < cap := by omega
        have c0 : wr.cell? ⟨g, j * 3, none⟩ = some (ys[j * 3]'(by omega)) := by rw [hO.out.cellAt (j * 3) (by omega), List.getElem?_eq_getElem (by omega)]
        have c1 : wr.cell? ⟨g, j * 3 + 1, none⟩ = some (ys[j * 3 + 1]'(by omega)) := by rw [hO.out.cellAt (j * 3 + 1) (by omega), List.getElem?_eq_getElem (by omega)]
        have c2 : wr.cell? ⟨g, j * 3 + 2, none⟩ = some (ys[j * 3 + 2]'(by omega)) := by rw [hO.out.cellAt (j * 3 + 2) (by omega), List.getElem?_eq_getElem (by omega)]
        have cf : ∀ q, wr.frozen? ⟨g, q, none⟩ = false := fun q => hO.out.frozenAt q
        have y0 := hG.out.cell x_0 (by intro e; injection e with e; have e' : gb = g := e; omega)
        have y1 := hG.out.cell x_1 (by intro e; injection e with e; have e' : gb = g := e; omega)
        have y2 := hG.out.cell x_2 (by intro e; injection e with e; have e' : gb = g := e; omega)
        have O2 := Lib.hid (own_setC [.int .i64 x0, .int .i64 x1, .int .i64 x2] wr ys (j * 3) hO.out)
        have G2 := Lib.hid (grown_trans hG.out (grown_setC g [.int .i64 x0, .int .i64 x1, .int .i64 x2] wr (j * 3)))
        have C0 := Lib.hid c0
        have C1 := Lib.hid c1
        have C2 := Lib.hid c2
        have CF := Lib.hid cf
        clear c0 c1 c2 cf
        go_wp2_with (refine wpList_putPacket rfl (.tmp 17) (.tmp 16) rfl g (j * 3) x0 x1 x2 (by first | rfl | simp [Act.eval, Act.put]) (by first | rfl | simp [Act.eval, Act.put]) _ _ _ C0.out C1.out C2.out CF.out ?_)
        go_roundw
        case rel => exact ⟨j + 1, _, by omega, by go_num, O2, G2⟩
        case measure => simp [intOf]; omega
      · have hjc : j = cap := by omega
        subst hjc
        have hn1 : ¬ (j : Int) < j := by omega
        go_wp2_with fail
        go_end0
        exact ⟨rfl, grown_trans GB.out hG.out⟩
end Go.Proofs.Ytpifknmoimlpoaa
