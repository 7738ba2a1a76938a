/- headkeep.roomy, marked, spoil: int. -/
import Derived.Test.YtpifknmoimlpoaaRoomG
set_option linter.unusedVariables false
namespace Go.Proofs.Ytpifknmoimlpoaa
open Go.RowKit
theorem makeIntZ (c : Nat) (hc : c * 8 ≤ 140737488355328) (w : World) : (Instr.makeSlice 27 (.int .i64 0) (.int .i64 (c : Int))).run Try.prog w = .ok (.slice (some ⟨w.heap.size, 0, none⟩) 0 c) (w.alloc (.cells (madeCells #[Value.int .i64 0] c) 3)) := by
  obtain ⟨ib, hib, hib0, hib1, hib2⟩ := elemInt.info
  have h := run_make (P := Try.prog) w 27 3 ib (.int .i64 0) elemInt.under hib hib0 .i64 .i64 0 c (by omega) (by omega) (by rw [hib2]; omega) (by omega)
  rw [hib1, Int.toNat_natCast] at h
  rw [Nat.mul_one] at h
  exact h
set_option maxRecDepth 100000 in
set_option maxHeartbeats 3200000 in
theorem roomyInt (A : Option Addr) (n c : Nat) (xs : List Value) (W : World) (hs : Sl W W.heap.size A (n * 1) xs) (hu : ∀ u ∈ xs, u.oneCell' = true) (hn : (n + 3) * 8 ≤ 140737488355328) (x : Int) :
    Calls Try.prog 30 #[.slice A n c, .int .i64 x] W fun e w' => ∃ g, e = .returned (.slice (some ⟨g, 0, none⟩) n (n + 3)) ∧ w'.ownsRow W.heap.size 3 1 (.slice (some ⟨g, 0, none⟩) (n + 3) (n + 3)) (n + 3) (xs ++ rep3 [.int .i64 x] 3) ∧ Below W.heap.size W w' := by
  have hmk : ∀ w : World, (Instr.makeSlice 27 (.int .i64 0) (.int .i64 ((n : Int) + 3))).run Try.prog w = _ := fun w => by have := makeIntZ (n + 3) hn w; push_cast at this; exact this
  have SS := Lib.hid hs
  have HU := Lib.hid hu
  have n3 : (n : Int) + 3 ≤ 9223372036854775807 := by omega
  have HN := Lib.hid hn
  clear hs hu hn
  obtain ⟨g, hg⟩ : ∃ g, W.heap.size = g := ⟨_, rfl⟩
  have OW : Hid ((W.alloc (.cells (madeCells #[Value.int .i64 0] (n + 3)) 3)).ownsRow g 3 1 (.slice (some ⟨g, 0, none⟩) (n + 3) (n + 3)) (n + 3) (madeCells #[Value.int .i64 0] (n + 3)).toList) := Lib.hid (by
    rw [← hg]
    exact World.ownsRow_lit W _ (n + 3) (Nat.le_refl _) (by have := HN.out; unfold maxLen; omega) (by simp [madeCells]))
  have BW : Hid (Below g W (W.alloc (.cells (madeCells #[Value.int .i64 0] (n + 3)) 3))) := Lib.hid (by rw [← hg]; exact (Below.refl _ _).alloc (Nat.le_refl _) _)
  have SW : Hid (Sl W g A (n * 1) xs) := Lib.hid (by rw [← hg]; exact SS.out)
  go_enter Try.func30, Try.ntmps30
  go_wp2_with (at_builtin; refine wpList_fill rfl (.tmp 10) (.tmp 11) _ rfl elemInt g g (n + 3) _ OW.out A n c xs (by first | rfl | simp [hg]) (by rfl) (SW.out.below BW.out) HU.out (by omega) ?_; intro w1 ys o1 t1 g1; have O1 := Lib.hid o1; have T1 := Lib.hid t1; have B1 := Lib.hid (BW.out.grown g1 (by simp [hg]) (fun b hb => by injection hb with hb; omega)); clear o1 t1 g1)
  go_loopw [13] (fun vi wr => ∃ (j : Nat) (ys : List Value), j ≤ 3 ∧ vi = .int .i64 (j : Int) ∧ Hid (wr.ownsRow g 3 1 (.slice (some ⟨g, 0, none⟩) (n + 3) (n + 3)) (n + 3) ys) ∧ Hid (ys.take ((n + j) * 1) = xs ++ rep3 [.int .i64 x] j) ∧ Hid (Below g W wr)) (fun vi _ => 3 - (intOf vi).toNat)
  case atStart => exact ⟨0, ys, by omega, rfl, O1, Lib.hid (by show _ = xs ++ []; rw [List.append_nil]; exact T1.out), B1⟩
  case round =>
    clear O1 T1 B1
    obtain ⟨j, ys, hj, rfl, hO, hT, hB⟩ := hrel
    have hj0 : (0 : Int) ≤ j := by omega
    have hl := hO.out.1
    by_cases hlt : j < 3
    · have hn1 : (j : Int) < 3 := by omega
      have NX := Lib.hid (mark_step (m := [.int .i64 x]) (K := 1) rfl hl (show n + j < n + 3 by omega) hT.out)
      have e1 : ((n : Int) + j).toNat = n + j := by omega
      have e2 : (0 : Int) ≤ (n : Int) + j := by omega
      have e3 : (n : Int) + j < (n : Int) + 3 := by omega
      have e4 : ((n : Int) + 3).toNat = n + 3 := by omega
      have e5 : (0 : Int) ≤ (n : Int) + 3 := by omega
      have e6 : IntKind.i64.wrap ((n : Int) + 3) = (n : Int) + 3 := IntWalk.i64_in _ ⟨by omega, by omega⟩
      have e7 : IntKind.i64.wrap ((n : Int) + j) = (n : Int) + j := IntWalk.i64_in _ ⟨by omega, by omega⟩
      have cc : wr.cell? ⟨g, n + j, none⟩ = some (ys[n + j]'(by omega)) := by rw [hO.out.cellAt (n + j) (by omega), List.getElem?_eq_getElem (by omega)]
      have cf := hO.out.frozenAt (n + j)
      have O2 := Lib.hid (own_setC [.int .i64 x] wr ys (n + j) hO.out)
      have B2 := Lib.hid (hB.out.setCell (p := ⟨g, n + j, none⟩) (Nat.le_refl _) (.int .i64 x))
      go_wp2_with fail
      go_roundw
      case rel => exact ⟨j + 1, _, by omega, by go_num, O2, Lib.hid (by have := NX.out; simp only [Nat.mul_one] at this ⊢; exact this), B2⟩
      case measure => simp [intOf]; omega
    · have hj3 : j = 3 := by omega
      subst hj3
      have OF : Hid (wr.ownsRow g 3 1 (.slice (some ⟨g, 0, none⟩) (n + 3) (n + 3)) (n + 3) (xs ++ rep3 [.int .i64 x] 3)) := Lib.hid (by
        have := hT.out
        rw [List.take_of_length_le (by omega)] at this
        rw [← this]
        exact hO.out)
      go_wp2_with fail
      go_ret
      exact ⟨g, rfl, by rw [hg]; exact OF.out, by rw [hg]; exact hB.out⟩
set_option maxRecDepth 100000 in
set_option maxHeartbeats 3200000 in
theorem markedInt (g n base : Nat) (xs : List Value) (x : Int) (W : World) (ho : W.ownsRow base 3 1 (.slice (some ⟨g, 0, none⟩) (n + 3) (n + 3)) (n + 3) (xs ++ rep3 [.int .i64 x] 3)) (hx : xs.length = n * 1) :
    Calls Try.prog 35 #[.slice (some ⟨g, 0, none⟩) n (n + 3), .int .i64 x] W fun e w' => e = .returned (.bool true) ∧ Below W.heap.size W w' := by
  have gl := (ho.lt g rfl).2
  have hmx : n + 3 ≤ 9223372036854775807 := by
    obtain ⟨cur, _, _, _, hc, _⟩ := own_parts ho
    unfold maxLen at hc
    omega
  have CC : Hid (∀ t i, t < 3 → i < 1 → W.cell? ⟨g, n * 1 + t * 1 + i, none⟩ = [.int .i64 x][i]?) := Lib.hid fun t i ht hi => by
    rw [ho.cellAt (n * 1 + t * 1 + i) (by omega), List.getElem?_append_right (by omega), show n * 1 + t * 1 + i - xs.length = t * 1 + i by omega]
    exact rep3_get rfl ht hi
  have e0 : ¬ n + 3 = n := by omega
  have e1 : n + 3 - n = 3 := by omega
  have e2 : (n : Int) ≤ (n : Int) + 3 := by omega
  have e3 : ((n : Int) + 3).toNat = n + 3 := by omega
  clear ho hx
  go_enter Try.func35, Try.ntmps35
  go_wp2_with fail
  go_loopw [14] (fun vi wr => ∃ j : Nat, j ≤ 3 ∧ vi = .int .i64 (j : Int) ∧ wr = W) (fun vi _ => 3 - (intOf vi).toNat)
  case atStart => exact ⟨0, by omega, rfl, rfl⟩
  case round =>
    obtain ⟨j, hj, rfl, rfl⟩ := hrel
    have hj0 : (0 : Int) ≤ j := by omega
    by_cases hlt : j < 3
    · have hn1 : (j : Int) < 3 := by omega
      have cc := CC.out j 0 hlt (by omega)
      rw [Nat.mul_one, Nat.mul_one, Nat.add_zero] at cc
      have cc' : wr.cell? ⟨g, n + j, none⟩ = some (.int .i64 x) := cc
      clear cc
      go_wp2_with fail
      go_roundw
      case rel => exact ⟨j + 1, by omega, by go_num, by first | trivial | rfl⟩
      case measure => simp [intOf]; omega
    · have hj3 : j = 3 := by omega
      subst hj3
      go_wp2_with fail
      go_ret
      exact ⟨rfl, Below.refl _ _⟩
set_option maxRecDepth 100000 in
set_option maxHeartbeats 3200000 in
theorem spoilInt (base : Nat) (v : Value) (n : Nat) (xs : List Value) (x : Int) (W : World) (ho : W.ownsRow base 3 1 v n xs) :
    Calls Try.prog 40 #[v, .int .i64 x] W fun e w' => e = .returned (.tuple #[]) ∧ W.grownBy w' v.ownBlock := by
  rcases ho.2 with ⟨rfl, h0⟩ | ⟨g, cap, cur, rfl, hbase, hb, h1, h2, h3, h4⟩
  · clear ho
    go_enter Try.func40, Try.ntmps40
    go_wp2_with fail
    go_loopw [11] (fun vi wr => vi = .int .i64 0 ∧ W.grownBy wr none) (fun vi _ => 0)
    case atStart => exact ⟨rfl, by first | exact World.grownBy.refl _ _ | exact World.grownBy_alloc _ _ _⟩
    case round =>
      obtain ⟨rfl, hG⟩ := hrel
      have HG := Lib.hid hG
      clear hG
      go_wp2_with fail
      go_end0
      exact ⟨rfl, HG.out⟩
  · obtain ⟨ys, hf, _⟩ := own_full ho
    have gl := (ho.lt g rfl).2
    have hcap : cap ≤ 9223372036854775807 := by unfold maxLen at h2; omega
    have HF := Lib.hid hf
    clear ho hf hb h2 h3 h4 hbase
    go_enter Try.func40, Try.ntmps40
    go_wp2_with fail
    go_loopw [11] (fun vi wr => ∃ (j : Nat) (ys : List Value), j ≤ cap ∧ vi = .int .i64 (j : Int) ∧ Hid (wr.ownsRow base 3 1 (.slice (some ⟨g, 0, none⟩) cap cap) cap ys) ∧ Hid (W.grownBy wr (some g))) (fun vi _ => cap - (intOf vi).toNat)
    case atStart => exact ⟨0, ys, Nat.zero_le _, rfl, HF, Lib.hid (World.grownBy.refl _ _)⟩
    case round =>
      obtain ⟨j, ys, hj, rfl, hO, hG⟩ := hrel
      have hj0 : (0 : Int) ≤ j := by omega
      have hl := hO.out.1
      by_cases hlt : j < cap
      · have hn1 : (j : Int) < cap := by omega
        have cc : wr.cell? ⟨g, j, none⟩ = some (ys[j]'(by omega)) := by rw [hO.out.cellAt j (by omega), List.getElem?_eq_getElem (by omega)]
        have cf := hO.out.frozenAt j
        have O2 := Lib.hid (hO.out.stored j (.int .i64 x)).1
        have G2 := Lib.hid (grown_trans hG.out (grown_set wr g j (.int .i64 x)))
        go_wp2_with fail
        go_roundw
        case rel => exact ⟨j + 1, _, by omega, by go_num, O2, G2⟩
        case measure => simp [intOf]; omega
      · have hjc : j = cap := by omega
        subst hjc
        have hn1 : ¬ (j : Int) < j := by omega
        go_wp2_with fail
        go_end0
        exact ⟨rfl, hG.out⟩
end Go.Proofs.Ytpifknmoimlpoaa
