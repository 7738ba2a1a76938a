/- QueuesOwn: queues that are handed in stay as they are, and what is answered shares nothing with them. -/
import Derived.Test.YtpifknmoimlpoaaFamS
import Derived.Test.YtpifknmoimlpoaaFreshQ
import Derived.Test.YtpifknmoimlpoaaRoomPacket
import Derived.Test.YtpifknmoimlpoaaRoomInt
import Derived.Test.YtpifknmoimlpoaaSamePacket
import Derived.Test.YtpifknmoimlpoaaSameSent
import Derived.Test.YtpifknmoimlpoaaEqualB
import Derived.Test.YtpifknmoimlpoaaCloneInt
import Derived.Test.YtpifknmoimlpoaaCloneBool
import Derived.Test.YtpifknmoimlpoaaCloneSent
import Derived.Test.YtpifknmoimlpoaaOpenFr
import Derived.Test.YtpifknmoimlpoaaOpen3
import Derived.Deep.RegionHeld3
import Derived.Deep.RegionWith
set_option linter.unusedVariables false
namespace Go.Proofs.Ytpifknmoimlpoaa
open Go.RowKit
theorem equalB_same (A B : Option Addr) (n c d : Nat) (xs : List Bool) (W : World) (B1 B2 : Nat) (hx : Sl W B1 A n (bools xs)) (hy : Sl W B2 B n (bools xs)) (hn : n ≤ 9223372036854775807) :
    Calls Try.prog 41 #[.slice A n c, .slice B n d] W fun e w' => e = .returned (.bool true) ∧ Below W.heap.size W w' := by
  refine (equalB_any A B n c n d xs xs W B1 B2 hx hy hn).mono ?_
  rintro e w' ⟨rfl, q, rfl⟩
  exact ⟨by simp, bel_drewN (Below.refl _ _) q⟩
set_option maxRecDepth 100000 in
set_option maxHeartbeats 25600000 in
theorem queuesOwn_walk (a0 b0 c0 : Int) (A1 : Option Addr) (n1 c1 : Nat) (z1 : List Int) (A2 : Option Addr) (n2 c2 : Nat) (z2 : List Int) (A3 : Option Addr) (n3 c3 : Nat) (q3 : Nat → Int) (hd3 : Nat → Option Addr × Nat × Nat) (ls3 : Nat → List Int) (W : World)
    (w1 : InInts W A1 n1 c1 z1) (w2 : In3 W A2 n2 c2 z2) (w3 : InFl W A3 n3 c3 q3 hd3 ls3 ∧ ∀ i, i < n3 → (hd3 i).2.1 * 8 ≤ 140737488351232) :
    Calls Try.prog 9 #[.agg #[.int .i64 a0, .int .i64 b0, .int .i64 c0], .slice A1 n1 c1, .slice A2 n2 c2, .slice A3 n3 c3] W fun e w' => e = .returned (.bool true) ∧ Below W.heap.size W w' := by
  obtain ⟨s1, l1, r1, _⟩ := w1
  obtain ⟨s2, l2, r2, _⟩ := w2
  obtain ⟨⟨s3, l3, r3, _, i3⟩, r4⟩ := w3
  have S1 := Lib.hid s1
  have S2 := Lib.hid s2
  have FL : Hid (FlS W W.heap.size A3 n3 q3 hd3 ls3) := Lib.hid ⟨s3, fun i hi => (i3 i hi).1⟩
  have R4 : Hid (∀ i, i < n3 → ((hd3 i).2.1 + 3) * 8 ≤ 140737488355328) := Lib.hid (fun i hi => by have := r4 i hi; omega)
  have RN : Hid ((n1 + 3) * 8 ≤ 140737488355328 ∧ (n2 + 3) * 24 ≤ 140737488355328) := Lib.hid (by omega)
  have L1 := Lib.hid s1.int_len
  have L2 := Lib.hid s2.int_len
  have L3 : Hid (∀ i, i < n3 → (ls3 i).length = (hd3 i).2.1) := Lib.hid (fun i hi => (i3 i hi).1.int_len)
  have n1l : n1 + 3 ≤ 9223372036854775807 := by omega
  have n2l : n2 + 3 ≤ 9223372036854775807 := by omega
  have n3l : n3 ≤ 4398046510976 := by omega
  clear s1 l1 r1 s2 l2 r2 s3 l3 r3 i3 r4
  go_enter Try.func9, Try.ntmps9
  go_wp2_with fail
  refine (fifo_any _ 1 _ [0, 1, 0] _ (Sl.built_ (W.alloc (.cells #[.int .i64 a0, .int .i64 b0, .int .i64 c0] 55)) (ints [0, 1, 0]) 59 (W.heap.size + 1) (by simp) (n := 1 * 3) rfl) (by omega) [1] 0 1 (by decide +kernel) rfl).mono ?_
  rintro e x0 ⟨D0, d0, rfl, s0, -, bb, -⟩
  have U := Lib.hid (belLit2 (Below.refl W.heap.size W) bb)
  have BB : Hid (TBox x0 W.heap.size (.int .i64 a0) (.int .i64 b0) (.int .i64 c0)) := Lib.hid ⟨((VBox.made W _ _ _ _).on ((Below.refl _ _).alloc (Nat.le_refl _) _) (by simp)).on bb (by simp; omega), by have := bb.size; simp at this; omega⟩
  have S0 := Lib.hid s0
  clear bb s0
  go_wp2_with fail
  refine (equal_t D0 1 d0 [1] _ 1 _ [1] _ (slMore S0.out _) (Sl.built_ _ (ints [1]) 3 _ rfl rfl) (by omega) (by omega) true (by decide)).mono ?_
  rintro e x1 ⟨rfl, bb⟩
  replace BB := Lib.hid ((BB.out.on ((Below.refl _ _).alloc (Nat.le_refl _) _)).on bb)
  replace U := Lib.hid (belLit1 U.out bb)
  clear bb S0
  go_wp2_with fail
  have MK := Lib.hid (TBox.made x1 (.int .i64 (-5)) (.int .i64 0) (.int .i64 0) 59)
  have bb : Below x1.heap.size x1 (x1.alloc (.cells #[.int .i64 (-5), .int .i64 0, .int .i64 0] 59)) := (Below.refl _ _).alloc (Nat.le_refl _) _
  replace U := Lib.hid (U.out.trans (bb.mono U.out.size))
  replace BB := Lib.hid (BB.out.on bb)
  have SS := Lib.hid (Sep.nil (x1.alloc (.cells #[.int .i64 (-5), .int .i64 0, .int .i64 0] 59)) W.heap.size)
  clear bb
  refine (roomyPacket A2 n2 c2 (ints z2) _ ((S2.out.below U.out).more U.out.size) (ints_one _) RN.out.2 (-5) 0 0).mono ?_
  rintro e x2 ⟨gp, rfl, ow, bb⟩
  have SS' := Lib.hid (SS.out.add (r := ⟨59, 3, .slice (some ⟨gp, 0, none⟩) (n2 + 3) (n2 + 3), n2 + 3, ints z2 ++ rep3 [.int .i64 (-5), .int .i64 0, .int .i64 0] 3⟩) bb U.out.size ow)
  clear ow
  clear SS
  have SS := SS'
  clear SS'
  replace U := Lib.hid (U.out.trans (bb.mono U.out.size))
  replace BB := Lib.hid (BB.out.on bb)
  replace MK := Lib.hid (MK.out.on bb)
  clear bb
  go_wp2_with fail
  refine (roomyInt A1 n1 c1 (ints z1) _ (by rw [Nat.mul_one]; exact ((S1.out.below U.out).more U.out.size)) (ints_one _) RN.out.1 (-7)).mono ?_
  rintro e x3 ⟨gw, rfl, ow, bb⟩
  have SS' := Lib.hid (SS.out.add (r := ⟨3, 1, .slice (some ⟨gw, 0, none⟩) (n1 + 3) (n1 + 3), n1 + 3, ints z1 ++ rep3 [.int .i64 (-7)] 3⟩) bb U.out.size ow)
  clear ow
  clear SS
  have SS := SS'
  clear SS'
  replace U := Lib.hid (U.out.trans (bb.mono U.out.size))
  replace BB := Lib.hid (BB.out.on bb)
  replace MK := Lib.hid (MK.out.on bb)
  clear bb
  go_wp2_with fail
  obtain ⟨m, hm⟩ : ∃ m : Nat → Nat, (fun i => (hd3 i).2.1) = m := ⟨_, rfl⟩
  have MM : Hid (∀ i, m i = (hd3 i).2.1) := Lib.hid (fun i => by rw [← hm])
  clear hm
  obtain ⟨D, hD⟩ : ∃ D, x3.heap.size = D := ⟨_, rfl⟩
  have HD := Lib.hid hD
  have GP : Hid (gp < D ∧ gw < D ∧ W.heap.size ≤ D) := Lib.hid (by have a := (SS.out.own 1 _ rfl).lt gp rfl; have b := (SS.out.own 0 _ rfl).lt gw rfl; have c := U.out.size; rw [hD] at a b c; exact ⟨a.2, b.2, c⟩)
  clear hD
  go_loopw [55, 14] (fun vi vf wr => ∃ (k : Nat) (gi : Nat → Nat) (A : Option Addr) (c : Nat), k ≤ n3 ∧ vi = .int .i64 (k : Int) ∧ vf = .slice A k c ∧ k ≤ c ∧ Hid (Fam wr D (.slice A k c) 0 k q3 m gi ls3) ∧ Hid (Below D x3 wr)) (fun vi _ _ => n3 - (intOf vi).toNat)
  case atStart => exact ⟨0, fun _ => 0, none, 0, by omega, rfl, rfl, by omega, Lib.hid (Fam.start _ _ _ _ _ _), Lib.hid (Below.refl _ _)⟩
  case round =>
    obtain ⟨k, gi, A, c, hk, rfl, rfl, hc, hF, hB⟩ := hrel
    have hk0 : (0 : Int) ≤ k := by omega
    by_cases hlt : k < n3
    · have hn1 : (k : Int) < n3 := by omega
      have HB2 : Hid (Below W.heap.size W wr) := Lib.hid (U.out.trans ((HD.out ▸ hB.out : Below x3.heap.size x3 wr).mono U.out.size))
      obtain ⟨bq, oq, rfl, hbq, d0, d1⟩ := (FL.out.below HB2.out).at_ hlt
      have SX := Lib.hid (((FL.out.inner k hlt).below HB2.out).more HB2.out.size)
      have RK := Lib.hid (R4.out k hlt)
      have DW : Hid (D ≤ wr.heap.size) := Lib.hid (by have := hB.out.size; have := HD.out; omega)
      go_wp2_with fail
      obtain ⟨gx, hgx⟩ : ∃ g, wr.heap.size = g := ⟨_, rfl⟩
      have FA := Lib.hid (hF.out.on ((Below.refl wr.heap.size wr).alloc (Nat.le_refl _) (.cells #[.int .i64 (q3 k), .slice (hd3 k).1 (hd3 k).2.1 (hd3 k).2.2] 29)))
      have BA := Lib.hid (hB.out.alloc DW.out (.cells #[.int .i64 (q3 k), .slice (hd3 k).1 (hd3 k).2.1 (hd3 k).2.2] 29))
      have SY := Lib.hid ((SX.out.alloc (Nat.le_refl _) (.cells #[.int .i64 (q3 k), .slice (hd3 k).1 (hd3 k).2.1 (hd3 k).2.2] 29)).more (B' := wr.heap.size + 1) (by omega))
      have c0 : (wr.alloc (.cells #[.int .i64 (q3 k), .slice (hd3 k).1 (hd3 k).2.1 (hd3 k).2.2] 29)).cell? ⟨wr.heap.size, 0, none⟩ = some (.int .i64 (q3 k)) := World.cell?_alloc_at _ _ _ _ rfl
      have c1 : (wr.alloc (.cells #[.int .i64 (q3 k), .slice (hd3 k).1 (hd3 k).2.1 (hd3 k).2.2] 29)).cell? ⟨wr.heap.size, 1, none⟩ = some (.slice (hd3 k).1 (hd3 k).2.1 (hd3 k).2.2) := World.cell?_alloc_at _ _ _ _ rfl
      have FX : Hid (∀ b, (Value.slice A k c).ownBlock = some b → D ≤ b ∧ b < gx) := Lib.hid (fun b hb => by have := hF.out.row.lt b hb; omega)
      have YS : Hid ((wr.alloc (.cells #[.int .i64 (q3 k), .slice (hd3 k).1 (hd3 k).2.1 (hd3 k).2.2] 29)).heap.size = gx + 1) := Lib.hid (by simp [hgx])
      obtain ⟨y, hy⟩ : ∃ y, wr.alloc (.cells #[.int .i64 (q3 k), .slice (hd3 k).1 (hd3 k).2.1 (hd3 k).2.2] 29) = y := ⟨_, rfl⟩
      rw [hy] at FA BA SY c0 c1 YS ⊢
      rw [hgx] at c0 c1 SY ⊢
      have DY : Hid (D ≤ gx) := Lib.hid (by have := DW.out; omega)
      have SZ : Hid (Sl y.drew y.drew.heap.size (hd3 k).1 ((hd3 k).2.1 * 1) (ints (ls3 k))) := Lib.hid (by
        have h := SY.out
        rw [← YS.out] at h
        rw [Nat.mul_one]
        exact h.on (Below.refl y.heap.size y).drew)
      have FD := Lib.hid (FA.out.on (Below.refl y.heap.size y).drew)
      have BD : Hid (Below D x3 y.drew) := Lib.hid BA.out.drew
      have YD : Hid (y.drew.heap.size = gx + 1) := YS
      clear hy SX SY FA BA hF hB HB2 DW hbq d0 d1
      have e0 : y.drew.cell? ⟨gx, 0, none⟩ = some (.int .i64 (q3 k)) := c0
      have e1 : y.drew.cell? ⟨gx, 1, none⟩ = some (.slice (hd3 k).1 (hd3 k).2.1 (hd3 k).2.2) := c1
      clear c0 c1
      go_region_held3 (fun w' => w'.cell? ⟨gx, 0, none⟩ = some (.int .i64 (q3 k)) ∧ w'.cell? ⟨gx, 1, none⟩ = some (.slice (hd3 k).1 (hd3 k).2.1 (hd3 k).2.2)) (first | exact ⟨by assumption, by assumption⟩ | go_keep) (first
        | (go_at_call 30; refine (roomyInt (hd3 k).1 (hd3 k).2.1 (hd3 k).2.2 (ints (ls3 k)) _ SZ.out (ints_one _) RK.out (-9)).mono ?_; rintro e w5 ⟨g, rfl, ow, b5⟩; have FO := Lib.hid ow; have B5 := Lib.hid b5; have RW := Lib.hid (own_onR FD.out.row b5); have f0 := (b5.cell (p := ⟨gx, 0, none⟩) (by have := YD.out; show gx < _; omega)).trans e0; have f1 := (b5.cell (p := ⟨gx, 1, none⟩) (by have := YD.out; show gx < _; omega)).trans e1; clear ow b5)
        | (refine step_pushE rfl (.tmp 59) (.tmp 66) _ rfl elemFlow w5 [.int .i64 (q3 k), .slice (some ⟨g, 0, none⟩) (hd3 k).2.1 ((hd3 k).2.1 + 3)] rfl D 1 (.slice A k c) k (flv q3 (hdOf gi m) k) rfl (by intro u hu; simp at hu; rcases hu with rfl | rfl <;> rfl) (by rfl) (by rfl) RW.out (by have := B5.out.size; have := YD.out; have := DY.out; omega) (by unfold maxLen; omega) (by omega) ?_; intro v' w6 o1 g1 b1; have O6 := Lib.hid o1; have G6 := Lib.hid g1; have N6 := Lib.hid b1; have LT : gx < w5.heap.size := (by have := B5.out.size; have := YD.out; omega); have LT2 : gx < (w5.alloc (.cells [Value.int .i64 (q3 k), .slice (some ⟨g, 0, none⟩) (hd3 k).2.1 ((hd3 k).2.1 + 3)].toArray 29)).heap.size := (by simp; omega); have NE : some gx ≠ (Value.slice A k c).ownBlock := (fun h => by have := (FX.out gx h.symm).2; omega); have h0 := (g1.cell_far ⟨gx, 0, none⟩ LT2 NE).trans ((World.cell?_alloc_past _ gx 0 LT).trans f0); have h1 := (g1.cell_far ⟨gx, 1, none⟩ LT2 NE).trans ((World.cell?_alloc_past _ gx 1 LT).trans f1); clear LT LT2 NE; clear o1 g1 b1))
      all_goals
        have hz : D ≤ y.drew.heap.size := by have := YD.out; have := DY.out; omega
        have FO' := FO.out
        have O6' := O6.out
        rw [← MM.out k] at FO' O6'
        obtain ⟨A', c', rfl, hc'⟩ := own_form O6'
        have FMn := Lib.hid (FD.out.push hz B5.out FO' O6' G6.out N6.out)
        have BLn := Lib.hid (((BD.out.trans (B5.out.mono hz)).alloc (Nat.le_trans hz B5.out.size) (.cells [Value.int .i64 (q3 k), .slice (some ⟨g, 0, none⟩) (hd3 k).2.1 ((hd3 k).2.1 + 3)].toArray 29)).grown G6.out (by have := B5.out.size; simp; omega) (fun b hb => (FX.out b hb).1))
        clear FO' O6' FO O6 G6 N6 B5 RW FD BD FX YD DY YS SZ
        go_wp2_with fail
        go_roundw
        case rel => exact ⟨k + 1, _, A', c', by omega, by go_num, rfl, hc', FMn, BLn⟩
        case measure => simp [intOf]; omega
    · have hkn : k = n3 := by omega
      subst hkn
      have hn1 : ¬ (k : Int) < k := by omega
      have FM := hF
      have bb : Below x3.heap.size x3 wr := by rw [HD.out]; exact hB.out
      have OF := Lib.hid (Off.start SS.out FM.out HD.out)
      clear hF hB
      have SS' := Lib.hid (SS.out.on bb)
      clear SS
      have SS := SS'
      clear SS'
      replace U := Lib.hid (U.out.trans (bb.mono U.out.size))
      replace BB := Lib.hid (BB.out.on bb)
      replace MK := Lib.hid (MK.out.on bb)
      clear bb
      obtain ⟨⟨t0, t1, t2, tf⟩, tl⟩ := BB.out
      go_wp2_with fail
      clear t0 t1 t2 tf tl
      refine (fr_brun _ n2 (n2 + 3) z2 _ (Sl.of_own3 (room_own (SS.out.own 1 _ rfl) (by rw [ints_len, L2.out]))) (by omega) a0 b0 c0).mono ?_
      rintro e x4 ⟨Ax, kx, cx, zx, rx, rfl, ow, hk', bb⟩
      have Kx := Lib.hid hk'
      clear hk'
      have SS' := Lib.hid (SS.out.add (r := ⟨4, 1, .slice Ax kx cx, kx, bools zx⟩) bb U.out.size ow)
      have OF' := Lib.hid (OF.out.add (r := ⟨4, 1, .slice Ax kx cx, kx, bools zx⟩) FM.out ow)
      clear OF
      have OF := OF'
      clear OF'
      clear ow
      clear SS
      have SS := SS'
      clear SS'
      replace U := Lib.hid (U.out.trans (bb.mono U.out.size))
      replace FM := Lib.hid (FM.out.on bb)
      replace BB := Lib.hid (BB.out.on bb)
      replace MK := Lib.hid (MK.out.on bb)
      clear bb
      go_wp2_with fail
      refine (fr_fifo _ n2 (n2 + 3) z2 _ (Sl.of_own3 (room_own (SS.out.own 2 _ rfl) (by rw [ints_len, L2.out]))) (by omega)).mono ?_
      rintro e x5 ⟨Ay, ky, cy, zy, ry, rfl, ow, hk', bb⟩
      have Ky := Lib.hid hk'
      clear hk'
      have SS' := Lib.hid (SS.out.add (r := ⟨3, 1, .slice Ay ky cy, ky, ints zy⟩) bb U.out.size ow)
      have OF' := Lib.hid (OF.out.add (r := ⟨3, 1, .slice Ay ky cy, ky, ints zy⟩) FM.out ow)
      clear OF
      have OF := OF'
      clear OF'
      clear ow
      clear SS
      have SS := SS'
      clear SS'
      replace U := Lib.hid (U.out.trans (bb.mono U.out.size))
      replace FM := Lib.hid (FM.out.on bb)
      replace BB := Lib.hid (BB.out.on bb)
      replace MK := Lib.hid (MK.out.on bb)
      clear bb
      go_wp2_with fail
      refine (fr_fair _ n2 (n2 + 3) z2 _ (Sl.of_own3 (room_own (SS.out.own 3 _ rfl) (by rw [ints_len, L2.out]))) (by omega) _ n1 (n1 + 3) z1 (Sl.of_own (room_own (SS.out.own 2 _ rfl) (by rw [ints_len, L1.out, Nat.mul_one]))) (by omega)).mono ?_
      rintro e x6 ⟨Az, kz, cz, zz, rz, rfl, ow, hk', bb⟩
      have Kz := Lib.hid hk'
      clear hk'
      have SS' := Lib.hid (SS.out.add (r := ⟨3, 1, .slice Az kz cz, kz, ints zz⟩) bb U.out.size ow)
      have OF' := Lib.hid (OF.out.add (r := ⟨3, 1, .slice Az kz cz, kz, ints zz⟩) FM.out ow)
      clear OF
      have OF := OF'
      clear OF'
      clear ow
      clear SS
      have SS := SS'
      clear SS'
      replace U := Lib.hid (U.out.trans (bb.mono U.out.size))
      replace FM := Lib.hid (FM.out.on bb)
      replace BB := Lib.hid (BB.out.on bb)
      replace MK := Lib.hid (MK.out.on bb)
      clear bb
      go_wp2_with fail
      have LM : ∀ i, i < k → (ls3 i).length = m i := fun i hi => by rw [MM.out i]; exact L3.out i hi
      refine (fr_turns A k c q3 (hdOf gi m) ls3 _ (FM.out.fls LM) (by omega) (fun i hi => by show m i ≤ _; rw [MM.out i]; have := R4.out i hi; omega)).mono ?_
      rintro e x7 ⟨Au, ku, cu, zu, ru, rfl, ow, hk', bb⟩
      have Ku := Lib.hid hk'
      clear hk'
      have SS' := Lib.hid (SS.out.add (r := ⟨33, 2, .slice Au ku cu, ku, ints zu⟩) bb U.out.size ow)
      have OF' := Lib.hid (OF.out.add (r := ⟨33, 2, .slice Au ku cu, ku, ints zu⟩) FM.out ow)
      clear OF
      have OF := OF'
      clear OF'
      clear ow
      clear SS
      have SS := SS'
      clear SS'
      replace U := Lib.hid (U.out.trans (bb.mono U.out.size))
      replace FM := Lib.hid (FM.out.on bb)
      replace BB := Lib.hid (BB.out.on bb)
      replace MK := Lib.hid (MK.out.on bb)
      clear bb
      go_wp2_with fail
      refine (samePacket _ _ n2 (n2 + 3) c2 z2 _ _ _ (Sl.of_own3 (room_own (SS.out.own 5 _ rfl) (by rw [ints_len, L2.out]))) ((S2.out.below U.out).more U.out.size) (by omega)).mono ?_
      rintro e wq1 ⟨rfl, bb⟩
      have SS' := Lib.hid (SS.out.on bb)
      clear SS
      have SS := SS'
      clear SS'
      replace U := Lib.hid (U.out.trans (bb.mono U.out.size))
      replace FM := Lib.hid (FM.out.on bb)
      replace BB := Lib.hid (BB.out.on bb)
      replace MK := Lib.hid (MK.out.on bb)
      clear bb
      go_wp2_with fail
      refine (equal_t _ n1 (n1 + 3) z1 _ n1 c1 z1 _ (Sl.of_own (room_own (SS.out.own 4 _ rfl) (by rw [ints_len, L1.out, Nat.mul_one]))) ((S1.out.below U.out).more U.out.size) (by omega) (by omega) true (by simp)).mono ?_
      rintro e wq2 ⟨rfl, bb⟩
      have SS' := Lib.hid (SS.out.on bb)
      clear SS
      have SS := SS'
      clear SS'
      replace U := Lib.hid (U.out.trans (bb.mono U.out.size))
      replace FM := Lib.hid (FM.out.on bb)
      replace BB := Lib.hid (BB.out.on bb)
      replace MK := Lib.hid (MK.out.on bb)
      clear bb
      obtain ⟨⟨t0, t1, t2, tf⟩, tl⟩ := MK.out
      go_wp2_with fail
      clear t0 t1 t2 tf tl
      refine (markedPacket gp n2 _ (ints z2) (-5) 0 0 _ (SS.out.own 5 _ rfl) (by rw [ints_len, L2.out])).mono ?_
      rintro e wq3 ⟨rfl, bb⟩
      have SS' := Lib.hid (SS.out.on bb)
      clear SS
      have SS := SS'
      clear SS'
      replace U := Lib.hid (U.out.trans (bb.mono U.out.size))
      replace FM := Lib.hid (FM.out.on bb)
      replace BB := Lib.hid (BB.out.on bb)
      replace MK := Lib.hid (MK.out.on bb)
      clear bb
      go_wp2_with fail
      refine (markedInt gw n1 _ (ints z1) (-7) _ (SS.out.own 4 _ rfl) (by rw [ints_len, L1.out, Nat.mul_one])).mono ?_
      rintro e wq4 ⟨rfl, bb⟩
      have SS' := Lib.hid (SS.out.on bb)
      clear SS
      have SS := SS'
      clear SS'
      replace U := Lib.hid (U.out.trans (bb.mono U.out.size))
      replace FM := Lib.hid (FM.out.on bb)
      replace BB := Lib.hid (BB.out.on bb)
      replace MK := Lib.hid (MK.out.on bb)
      clear bb
      clear S1 S2 BB MK
      go_wp2_with fail
      go_loopw [114] (fun vi wr => ∃ j : Nat, j ≤ k ∧ vi = .int .i64 (j : Int) ∧ Hid (Below wq4.heap.size wq4 wr)) (fun vi _ => k - (intOf vi).toNat)
      case atStart => exact ⟨0, by omega, rfl, Lib.hid (Below.refl _ _)⟩
      case round =>
        obtain ⟨j, hj, rfl, hB⟩ := hrel
        have hj0 : (0 : Int) ≤ j := by omega
        by_cases hlt : j < k
        · have hn2 : (j : Int) < k := by omega
          have FW := Lib.hid (FM.out.on hB.out)
          have UW := Lib.hid (U.out.trans (hB.out.mono U.out.size))
          obtain ⟨bq, oq, rfl, hbq, d0, d1⟩ := (FW.out.fls LM).at_ hlt
          obtain ⟨b3, o3, rfl, hb3, g0, g1⟩ := (FL.out.below UW.out).at_ hlt
          have hdj : hdOf gi m j = (some ⟨gi j, 0, none⟩, m j, m j + 3) := rfl
          rw [hdj] at d1
          simp only at d1
          go_wp2_with fail
          obtain ⟨gx, hgx⟩ : ∃ g, wr.heap.size = g := ⟨_, rfl⟩
          have bA : Below wr.heap.size wr (wr.alloc (.cells #[.int .i64 (q3 j), .slice (some ⟨gi j, 0, none⟩) (m j) (m j + 3)] 29)) := (Below.refl _ _).alloc (Nat.le_refl _) _
          have HX : Hid (gx < (wr.alloc (.cells #[.int .i64 (q3 j), .slice (some ⟨gi j, 0, none⟩) (m j) (m j + 3)] 29)).heap.size ∧ b3 < (wr.alloc (.cells #[.int .i64 (q3 j), .slice (some ⟨gi j, 0, none⟩) (m j) (m j + 3)] 29)).heap.size) := Lib.hid (by have := UW.out.size; simp; omega)
          have FY := Lib.hid (FW.out.on bA)
          have UY := Lib.hid (UW.out.trans (bA.mono UW.out.size))
          have BY := Lib.hid (hB.out.trans (bA.mono hB.out.size))
          have c0 : (wr.alloc (.cells #[.int .i64 (q3 j), .slice (some ⟨gi j, 0, none⟩) (m j) (m j + 3)] 29)).cell? ⟨wr.heap.size, 0, none⟩ = some (.int .i64 (q3 j)) := World.cell?_alloc_at _ _ _ _ rfl
          have c1 : (wr.alloc (.cells #[.int .i64 (q3 j), .slice (some ⟨gi j, 0, none⟩) (m j) (m j + 3)] 29)).cell? ⟨wr.heap.size, 1, none⟩ = some (.slice (some ⟨gi j, 0, none⟩) (m j) (m j + 3)) := World.cell?_alloc_at _ _ _ _ rfl
          have c2 := (bA.cell (p := ⟨b3, o3 + j * 2, none⟩) (by have := UW.out.size; show b3 < _; omega)).trans g0
          have c3 := (bA.cell (p := ⟨b3, o3 + j * 2 + 1, none⟩) (by have := UW.out.size; show b3 < _; omega)).trans g1
          obtain ⟨y, hy⟩ : ∃ y, wr.alloc (.cells #[.int .i64 (q3 j), .slice (some ⟨gi j, 0, none⟩) (m j) (m j + 3)] 29) = y := ⟨_, rfl⟩
          rw [hy] at FY UY BY HX c0 c1 c2 c3 ⊢
          rw [hgx] at c0 c1 ⊢
          clear hy hgx bA FW UW hB hbq hb3 d0 d1 g0 g1 hdj
          have HCC : Hid (y.cell? ⟨gx, 0, none⟩ = some (.int .i64 (q3 j)) ∧ y.cell? ⟨gx, 1, none⟩ = some (.slice (some ⟨gi j, 0, none⟩) (m j) (m j + 3)) ∧ y.cell? ⟨b3, o3 + j * 2, none⟩ = some (.int .i64 (q3 j)) ∧ y.cell? ⟨b3, o3 + j * 2 + 1, none⟩ = some (.slice (hd3 j).1 (hd3 j).2.1 (hd3 j).2.2)) := Lib.hid ⟨c0, c1, c2, c3⟩
          have BW : Hid (Below y.heap.size y y.drew) := Lib.hid (Below.refl _ _).drew
          have e0 : y.drew.cell? ⟨gx, 0, none⟩ = some (.int .i64 (q3 j)) := c0
          have e1 : y.drew.cell? ⟨gx, 1, none⟩ = some (.slice (some ⟨gi j, 0, none⟩) (m j) (m j + 3)) := c1
          have e2 : y.drew.cell? ⟨b3, o3 + j * 2, none⟩ = some (.int .i64 (q3 j)) := c2
          have e3 : y.drew.cell? ⟨b3, o3 + j * 2 + 1, none⟩ = some (.slice (hd3 j).1 (hd3 j).2.1 (hd3 j).2.2) := c3
          clear c0 c1 c2 c3
          have MJ : Hid (m j = (hd3 j).2.1 ∧ m j ≤ 9223372036854775807) := Lib.hid ⟨MM.out j, by rw [MM.out j]; have := R4.out j hlt; omega⟩
          go_region_held3 (fun w' => w'.cell? ⟨gx, 0, none⟩ = some (.int .i64 (q3 j)) ∧ w'.cell? ⟨gx, 1, none⟩ = some (.slice (some ⟨gi j, 0, none⟩) (m j) (m j + 3)) ∧ w'.cell? ⟨b3, o3 + j * 2, none⟩ = some (.int .i64 (q3 j)) ∧ w'.cell? ⟨b3, o3 + j * 2 + 1, none⟩ = some (.slice (hd3 j).1 (hd3 j).2.1 (hd3 j).2.2)) (first | exact ⟨by assumption, by assumption, by assumption, by assumption⟩ | go_keep) (first
            | (go_at_call 18; refine (equal_t _ (m j) (m j + 3) (ls3 j) _ (hd3 j).2.1 (hd3 j).2.2 (ls3 j) _ (Sl.of_own ((FY.out.on BW.out).inn_ LM (Nat.zero_le _) hlt)) (((FL.out.inner j hlt).below (UY.out.trans (BW.out.mono UY.out.size))).more (Nat.le_trans UY.out.size BW.out.size)) MJ.out.2 (by rw [← MJ.out.1]; exact MJ.out.2) true (by simp)).mono ?_; rintro e w' ⟨rfl, bb⟩; replace BW := Lib.hid (BW.out.trans (bb.mono BW.out.size)); have h0 := (BW.out.cell (p := ⟨gx, 0, none⟩) HX.out.1).trans HCC.out.1; have h1 := (BW.out.cell (p := ⟨gx, 1, none⟩) HX.out.1).trans HCC.out.2.1; have h2 := (BW.out.cell (p := ⟨b3, o3 + j * 2, none⟩) HX.out.2).trans HCC.out.2.2.1; have h3 := (BW.out.cell (p := ⟨b3, o3 + j * 2 + 1, none⟩) HX.out.2).trans HCC.out.2.2.2; clear bb)
            | (go_at_call 35; refine (markedInt (gi j) (m j) _ (ints (ls3 j)) (-9) _ ((FY.out.on BW.out).inn j (Nat.zero_le _) hlt) (by rw [ints_len, LM j hlt, Nat.mul_one])).mono ?_; rintro e w' ⟨rfl, bb⟩; replace BW := Lib.hid (BW.out.trans (bb.mono BW.out.size)); have h0 := (BW.out.cell (p := ⟨gx, 0, none⟩) HX.out.1).trans HCC.out.1; have h1 := (BW.out.cell (p := ⟨gx, 1, none⟩) HX.out.1).trans HCC.out.2.1; have h2 := (BW.out.cell (p := ⟨b3, o3 + j * 2, none⟩) HX.out.2).trans HCC.out.2.2.1; have h3 := (BW.out.cell (p := ⟨b3, o3 + j * 2 + 1, none⟩) HX.out.2).trans HCC.out.2.2.2; clear bb))
          all_goals
            have BZ := Lib.hid (BY.out.trans (BW.out.mono BY.out.size))
            go_wp2_with fail
            go_roundw
            case rel => exact ⟨j + 1, by omega, by go_num, BZ⟩
            case measure => simp [intOf]; omega
        · have hjk : j = k := by omega
          subst hjk
          have bb : Below wq4.heap.size wq4 wr := hB.out
          clear hB
          have SS' := Lib.hid (SS.out.on bb)
          clear SS
          have SS := SS'
          clear SS'
          replace U := Lib.hid (U.out.trans (bb.mono U.out.size))
          replace FM := Lib.hid (FM.out.on bb)
          clear bb
          go_wp2_with fail
          refine (cloneBool Ax kx cx (bools zx) _ (Sl.of_own (SS.out.own 3 _ rfl)) (bools_one _) (by have := Kx.out; omega)).mono ?_
          rintro e x8 ⟨vp, rfl, ow, bb, -⟩
          obtain ⟨Ap, cp, rfl, -⟩ := own_form ow
          have SS' := Lib.hid (SS.out.add (r := ⟨4, 1, .slice Ap kx cp, kx, bools zx⟩) bb U.out.size ow)
          have OF' := Lib.hid (OF.out.add (r := ⟨4, 1, .slice Ap kx cp, kx, bools zx⟩) FM.out ow)
          clear OF
          have OF := OF'
          clear OF'
          clear ow
          clear SS
          have SS := SS'
          clear SS'
          replace U := Lib.hid (U.out.trans (bb.mono U.out.size))
          replace FM := Lib.hid (FM.out.on bb)
          clear bb
          go_wp2_with fail
          refine (cloneInt Ay ky cy (ints zy) _ (Sl.of_own (SS.out.own 3 _ rfl)) (ints_one _) (by have := Ky.out; omega)).mono ?_
          rintro e x9 ⟨vq, rfl, ow, bb, -⟩
          obtain ⟨Aq, cq, rfl, -⟩ := own_form ow
          have SS' := Lib.hid (SS.out.add (r := ⟨3, 1, .slice Aq ky cq, ky, ints zy⟩) bb U.out.size ow)
          have OF' := Lib.hid (OF.out.add (r := ⟨3, 1, .slice Aq ky cq, ky, ints zy⟩) FM.out ow)
          clear OF
          have OF := OF'
          clear OF'
          clear ow
          clear SS
          have SS := SS'
          clear SS'
          replace U := Lib.hid (U.out.trans (bb.mono U.out.size))
          replace FM := Lib.hid (FM.out.on bb)
          clear bb
          go_wp2_with fail
          refine (cloneInt Az kz cz (ints zz) _ (Sl.of_own (SS.out.own 3 _ rfl)) (ints_one _) (by have := Kz.out; omega)).mono ?_
          rintro e x10 ⟨vr, rfl, ow, bb, -⟩
          obtain ⟨Ar, cr, rfl, -⟩ := own_form ow
          have SS' := Lib.hid (SS.out.add (r := ⟨3, 1, .slice Ar kz cr, kz, ints zz⟩) bb U.out.size ow)
          have OF' := Lib.hid (OF.out.add (r := ⟨3, 1, .slice Ar kz cr, kz, ints zz⟩) FM.out ow)
          clear OF
          have OF := OF'
          clear OF'
          clear ow
          clear SS
          have SS := SS'
          clear SS'
          replace U := Lib.hid (U.out.trans (bb.mono U.out.size))
          replace FM := Lib.hid (FM.out.on bb)
          clear bb
          go_wp2_with fail
          refine (cloneSent Au ku cu (ints zu) _ (Sl.of_own2 (SS.out.own 3 _ rfl)) (ints_one _) (by have := Ku.out; omega)).mono ?_
          rintro e x11 ⟨vs, rfl, ow, bb, -⟩
          obtain ⟨As, cs, rfl, -⟩ := own_form ow
          have SS' := Lib.hid (SS.out.add (r := ⟨33, 2, .slice As ku cs, ku, ints zu⟩) bb U.out.size ow)
          have OF' := Lib.hid (OF.out.add (r := ⟨33, 2, .slice As ku cs, ku, ints zu⟩) FM.out ow)
          clear OF
          have OF := OF'
          clear OF'
          clear ow
          clear SS
          have SS := SS'
          clear SS'
          replace U := Lib.hid (U.out.trans (bb.mono U.out.size))
          replace FM := Lib.hid (FM.out.on bb)
          clear bb
          go_wp2_with fail
          refine (spoilPacket W.heap.size _ n2 (ints z2) 0 0 0 _ (room_own (SS.out.own 9 _ rfl) (by rw [ints_len, L2.out]))).mono ?_
          rintro e t1 ⟨rfl, g⟩
          replace FM := Lib.hid (FM.out.aside g (fun b hb => by have hb' : some gp = some b := hb; injection hb' with hb'; have := GP.out; omega))
          replace U := Lib.hid (SS.out.below 9 rfl U.out U.out.size g)
          have SS' := Lib.hid (SS.out.spoil 9 rfl g)
          have OF' := Lib.hid (OF.out.erase 9)
          clear SS OF g
          have SS := SS'
          have OF := OF'
          clear SS' OF'
          go_wp2_with fail
          refine (spoilInt W.heap.size _ n1 (ints z1) 0 _ (room_own (SS.out.own 8 _ rfl) (by rw [ints_len, L1.out, Nat.mul_one]))).mono ?_
          rintro e t2 ⟨rfl, g⟩
          replace FM := Lib.hid (FM.out.aside g (fun b hb => by have hb' : some gw = some b := hb; injection hb' with hb'; have := GP.out; omega))
          replace U := Lib.hid (SS.out.below 8 rfl U.out U.out.size g)
          have SS' := Lib.hid (SS.out.spoil 8 rfl g)
          have OF' := Lib.hid (OF.out.erase 8)
          clear SS OF g
          have SS := SS'
          have OF := OF'
          clear SS' OF'
          go_wp2_with fail
          go_loopw [160] (fun vi wr => ∃ i : Nat, i ≤ j ∧ vi = .int .i64 (i : Int) ∧ Hid (Fam wr D (.slice A j c) i j q3 m gi ls3) ∧ Hid (Sep wr W.heap.size [⟨33, 2, .slice As ku cs, ku, ints zu⟩, ⟨3, 1, .slice Ar kz cr, kz, ints zz⟩, ⟨3, 1, .slice Aq ky cq, ky, ints zy⟩, ⟨4, 1, .slice Ap kx cp, kx, bools zx⟩, ⟨33, 2, .slice Au ku cu, ku, ints zu⟩, ⟨3, 1, .slice Az kz cz, kz, ints zz⟩, ⟨3, 1, .slice Ay ky cy, ky, ints zy⟩, ⟨4, 1, .slice Ax kx cx, kx, bools zx⟩]) ∧ Hid (Below W.heap.size W wr)) (fun vi _ => j - (intOf vi).toNat)
          case atStart => exact ⟨0, by omega, rfl, FM, SS, U⟩
          case round =>
            have OF2 : Hid (Off [⟨33, 2, .slice As ku cs, ku, ints zu⟩, ⟨3, 1, .slice Ar kz cr, kz, ints zz⟩, ⟨3, 1, .slice Aq ky cq, ky, ints zy⟩, ⟨4, 1, .slice Ap kx cp, kx, bools zx⟩, ⟨33, 2, .slice Au ku cu, ku, ints zu⟩, ⟨3, 1, .slice Az kz cz, kz, ints zz⟩, ⟨3, 1, .slice Ay ky cy, ky, ints zy⟩, ⟨4, 1, .slice Ax kx cx, kx, bools zx⟩] gi j) := OF
            clear FM SS U OF
            obtain ⟨i, hi, rfl, hF, hS, hU⟩ := hrel
            have hi0 : (0 : Int) ≤ i := by omega
            by_cases hlt : i < j
            · have hn3 : (i : Int) < j := by omega
              obtain ⟨bq, oq, rfl, hbq, hcc⟩ := (Sl.of_own2 hF.out.row).2 (by omega)
              have d0 := hcc (i * 2) _ (flv_q hlt)
              have d1 := hcc (i * 2 + 1) _ (flv_s hlt)
              rw [← Nat.add_assoc] at d1
              have hdj : hdOf gi m i = (some ⟨gi i, 0, none⟩, m i, m i + 3) := rfl
              rw [hdj] at d1
              simp only at d1
              have OW := Lib.hid (hF.out.inn_ LM (Nat.le_refl _) hlt)
              go_wp2_with fail
              refine (spoilInt D _ (m i) (ints (ls3 i)) 0 _ (OW.out.alloc _)).mono ?_
              rintro e w' ⟨rfl, g⟩
              have bA : Below wr.heap.size wr (wr.alloc (.cells #[.int .i64 (q3 i), .slice (some ⟨gi i, 0, none⟩) (m i) (m i + 3)] 29)) := (Below.refl _ _).alloc (Nat.le_refl _) _
              have F2 := Lib.hid ((hF.out.on bA).spoil hlt g)
              have S2 := Lib.hid ((hS.out.on bA).aside OF2.out hlt g)
              have U2 := Lib.hid ((hU.out.trans (bA.mono hU.out.size)).grown g (by have := hU.out.size; simp; omega) (fun b hb => by have := (OW.out.lt b hb).1; have := GP.out; omega))
              clear g bA
              go_wp2_with fail
              go_roundw
              case rel => exact ⟨i + 1, by omega, by go_num, F2, S2, U2⟩
              case measure => simp [intOf]; omega
            · have hij : i = j := by omega
              subst hij
              have SS := hS
              have U := hU
              clear hF hS hU
              go_wp2_with fail
              refine (equalB_same _ _ kx cx cp zx _ _ _ (Sl.of_own (SS.out.own 7 _ rfl)) (Sl.of_own (SS.out.own 3 _ rfl)) (by have := Kx.out; omega)).mono ?_
              rintro e v1 ⟨rfl, bb⟩
              have SS' := Lib.hid (SS.out.on bb)
              clear SS
              have SS := SS'
              clear SS'
              replace U := Lib.hid (U.out.trans (bb.mono U.out.size))
              clear bb
              go_wp2_with fail
              refine (equal_t _ ky cy zy _ ky cq zy _ (Sl.of_own (SS.out.own 6 _ rfl)) (Sl.of_own (SS.out.own 2 _ rfl)) (by have := Ky.out; omega) (by have := Ky.out; omega) true (by simp)).mono ?_
              rintro e v2 ⟨rfl, bb⟩
              have SS' := Lib.hid (SS.out.on bb)
              clear SS
              have SS := SS'
              clear SS'
              replace U := Lib.hid (U.out.trans (bb.mono U.out.size))
              clear bb
              go_wp2_with fail
              refine (equal_t _ kz cz zz _ kz cr zz _ (Sl.of_own (SS.out.own 5 _ rfl)) (Sl.of_own (SS.out.own 1 _ rfl)) (by have := Kz.out; omega) (by have := Kz.out; omega) true (by simp)).mono ?_
              rintro e v3 ⟨rfl, bb⟩
              have SS' := Lib.hid (SS.out.on bb)
              clear SS
              have SS := SS'
              clear SS'
              replace U := Lib.hid (U.out.trans (bb.mono U.out.size))
              clear bb
              go_wp2_with fail
              refine (sameSent _ _ ku cu cs zu _ _ _ (Sl.of_own2 (SS.out.own 4 _ rfl)) (Sl.of_own2 (SS.out.own 0 _ rfl)) (by have := Ku.out; omega)).mono ?_
              rintro e v4 ⟨rfl, bb⟩
              have SS' := Lib.hid (SS.out.on bb)
              clear SS
              have SS := SS'
              clear SS'
              replace U := Lib.hid (U.out.trans (bb.mono U.out.size))
              clear bb
              go_wp2_with fail
              go_ret
              exact ⟨rfl, U.out⟩
end Go.Proofs.Ytpifknmoimlpoaa
