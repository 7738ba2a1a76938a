/- ListsOwn: lists, stages and leases that are handed in stay as they are, and what is answered shares nothing with them. -/
import Derived.Test.YtpifknmoimlpoaaSep
import Derived.Test.YtpifknmoimlpoaaFreshL
import Derived.Test.YtpifknmoimlpoaaRoomLease
import Derived.Test.YtpifknmoimlpoaaRoomTask
import Derived.Test.YtpifknmoimlpoaaRoomBool
import Derived.Test.YtpifknmoimlpoaaSameLease
import Derived.Test.YtpifknmoimlpoaaSameTask
import Derived.Test.YtpifknmoimlpoaaEqualB
import Derived.Test.YtpifknmoimlpoaaCloneLease
import Derived.Test.YtpifknmoimlpoaaCloneBool
import Derived.Test.YtpifknmoimlpoaaOpenR
import Derived.Test.YtpifknmoimlpoaaOpen3
import Derived.Deep.RegionHeld3
import Derived.Deep.RegionWith
set_option linter.unusedVariables false
namespace Go.Proofs.Ytpifknmoimlpoaa
open Go.RowKit
theorem equalB_same (A B : Option Addr) (n c d : Nat) (xs : List Bool) (W : World) (B1 B2 : Nat) (hx : Sl W B1 A n (bools xs)) (hy : Sl W B2 B n (bools xs)) (hn : n ≤ 9223372036854775807) :
    Calls Try.prog 41 #[.slice A n c, .slice B n d] W fun e w' => e = .returned (.bool true) ∧ Below W.heap.size W w' := by
  refine (equalB_any A B n c n d xs xs W B1 B2 hx hy hn).mono ?_
  rintro e w' ⟨rfl, q, rfl⟩
  exact ⟨by simp, bel_drewN (Below.refl _ _) q⟩
set_option maxRecDepth 100000 in
set_option maxHeartbeats 25600000 in
theorem listsOwn_walk (A0 : Option Addr) (n0 c0 : Nat) (z0 : List Int) (a1 b1 : Int) (A1 : Option Addr) (n1 c1 : Nat) (z1 : List Bool) (a2 : Int) (A3 : Option Addr) (n3 c3 : Nat) (z3 : List Int) (a4 b4 c4 a5 : Int) (W : World)
    (w0 : In3 W A0 n0 c0 z0) (w1 : Sl W W.heap.size A1 n1 (bools z1) ∧ n1 ≤ 140737488351232) (w2 : -9223372036854775808 ≤ a2 ∧ a2 ≤ 9223372036854775807) (w3 : In3 W A3 n3 c3 z3) (w5 : -9223372036854775808 ≤ a5 ∧ a5 ≤ 9223372036854775807) :
    Calls Try.prog 11 #[.slice A0 n0 c0, .agg #[.int .i64 a1, .int .i64 b1, .slice A1 n1 c1], .int .i64 a2, .slice A3 n3 c3, .agg #[.int .i64 a4, .int .i64 b4, .int .i64 c4], .int .i64 a5] W fun e w' => e = .returned (.bool true) ∧ Below W.heap.size W w' := by
  obtain ⟨s0, l0, r0, _⟩ := w0
  obtain ⟨s1, r1⟩ := w1
  obtain ⟨s3, l3, r3, _⟩ := w3
  have S0 := Lib.hid s0
  have S1 := Lib.hid s1
  have S3 := Lib.hid s3
  have RN : Hid ((n0 + 3) * 24 ≤ 140737488355328 ∧ (n1 + 3) * 1 ≤ 140737488355328 ∧ (n3 + 3) * 24 ≤ 140737488355328) := Lib.hid (by omega)
  have L0 := Lib.hid s0.int_len
  have L1 := Lib.hid s1.bool_len
  have L3 := Lib.hid s3.int_len
  have n0l : n0 + 3 ≤ 9223372036854775807 := by omega
  have n1l : n1 + 3 ≤ 9223372036854775807 := by omega
  have n3l : n3 + 3 ≤ 9223372036854775807 := by omega
  clear s0 l0 r0 s1 r1 s3 l3 r3 w2 w5
  go_enter Try.func11, Try.ntmps11
  go_wp2_with fail
  refine (ltake_ok none 0 0 [] (0, 0, 0) _ rfl ((leaseT_iff []).2 (by decide)) (by decide) Sl.nil).mono ?_
  rintro e x0 ⟨D0, d0, rfl, -, -, bb, -⟩
  have U0 := Lib.hid (belLit2 (Below.refl W.heap.size W) bb)
  have BS : Hid (TBox x0 W.heap.size (.int .i64 a1) (.int .i64 b1) (.slice A1 n1 c1)) := Lib.hid ⟨((VBox.made W _ _ _ _).on ((Below.refl _ _).alloc (Nat.le_refl _) _) (by simp)).on bb (by simp; omega), by have := bb.size; simp at this; omega⟩
  have BX : Hid (TBox x0 (W.heap.size + 1) (.int .i64 a4) (.int .i64 b4) (.int .i64 c4)) := Lib.hid ⟨by
    have := (VBox.made (W.alloc (.cells #[.int .i64 a1, .int .i64 b1, .slice A1 n1 c1] 84)) (.int .i64 a4) (.int .i64 b4) (.int .i64 c4) 87).on bb (by simp)
    simpa using this, by have := bb.size; simp at this; omega⟩
  have len1 : (takeT [] (0, 0, 0)).length = 1 := rfl
  rw [len1]
  clear bb len1
  go_wp2_with fail
  have MK := Lib.hid (TBox.made x0 (.int .i64 99) (.int .i64 0) (.int .i64 0) 87)
  have U1 := Lib.hid (below_alloc U0.out (.cells #[.int .i64 99, .int .i64 0, .int .i64 0] 87))
  replace BS := Lib.hid (BS.out.on ((Below.refl _ _).alloc (Nat.le_refl _) (.cells #[.int .i64 99, .int .i64 0, .int .i64 0] 87)))
  replace BX := Lib.hid (BX.out.on ((Below.refl _ _).alloc (Nat.le_refl _) (.cells #[.int .i64 99, .int .i64 0, .int .i64 0] 87)))
  have SS := Lib.hid (Sep.nil (x0.alloc (.cells #[.int .i64 99, .int .i64 0, .int .i64 0] 87)) W.heap.size)
  have U := U1
  clear U0 U1
  refine (roomyLease A3 n3 c3 (ints z3) _ ((S3.out.below U.out).more U.out.size) (ints_one _) RN.out.2.2 99 0 0).mono ?_
  rintro e x1 ⟨gl, rfl, ow, bb⟩
  have GL : Hid (gl < x1.heap.size) := Lib.hid (ow.lt gl rfl).2
  have SS' := Lib.hid (SS.out.add (r := ⟨87, 3, .slice (some ⟨gl, 0, none⟩) (n3 + 3) (n3 + 3), n3 + 3, ints z3 ++ rep3 [.int .i64 99, .int .i64 0, .int .i64 0] 3⟩) bb U.out.size ow)
  clear ow
  clear SS
  have SS := SS'
  clear SS'
  replace U := Lib.hid (U.out.trans (bb.mono U.out.size))
  replace BS := Lib.hid (BS.out.on bb)
  replace BX := Lib.hid (BX.out.on bb)
  replace MK := Lib.hid (MK.out.on bb)
  clear bb
  obtain ⟨⟨m0, m1, m2, mf⟩, ml⟩ := MK.out
  go_wp2_with fail
  clear m0 m1 m2 mf ml
  refine (roomyTask A0 n0 c0 (ints z0) _ ((S0.out.below U.out).more U.out.size) (ints_one _) RN.out.1 0 99 0).mono ?_
  rintro e x2 ⟨gt, rfl, ow, bb⟩
  replace GL : Hid (gl < x2.heap.size ∧ gt < x2.heap.size) := Lib.hid ⟨Nat.lt_of_lt_of_le GL.out bb.size, (ow.lt gt rfl).2⟩
  have SS' := Lib.hid (SS.out.add (r := ⟨93, 3, .slice (some ⟨gt, 0, none⟩) (n0 + 3) (n0 + 3), n0 + 3, ints z0 ++ rep3 [.int .i64 0, .int .i64 99, .int .i64 0] 3⟩) bb U.out.size ow)
  clear ow
  clear SS
  have SS := SS'
  clear SS'
  replace U := Lib.hid (U.out.trans (bb.mono U.out.size))
  replace BS := Lib.hid (BS.out.on bb)
  replace BX := Lib.hid (BX.out.on bb)
  replace MK := Lib.hid (MK.out.on bb)
  clear bb
  obtain ⟨⟨s0, s1, s2, sf⟩, sl⟩ := BS.out
  go_wp2_with fail
  clear s0 s1 s2 sf sl
  obtain ⟨gs, hgs⟩ : ∃ g, x2.heap.size = g := ⟨_, rfl⟩
  have GN : Hid (W.heap.size + 1 < gs ∧ x0.heap.size < gs) := Lib.hid (by have := BX.out.2; have := MK.out.2; omega)
  have BT := Lib.hid (TBox.made x2 (.int .i64 a1) (.int .i64 b1) (.slice A1 n1 c1) 84)
  have bb : Below x2.heap.size x2 (x2.alloc (.cells #[.int .i64 a1, .int .i64 b1, .slice A1 n1 c1] 84)) := (Below.refl _ _).alloc (Nat.le_refl _) _
  have HS : Hid (gs < (x2.alloc (.cells #[.int .i64 a1, .int .i64 b1, .slice A1 n1 c1] 84)).heap.size) := Lib.hid (by simp; omega)
  have SS' := Lib.hid (SS.out.on bb)
  clear SS
  have SS := SS'
  clear SS'
  replace U := Lib.hid (U.out.trans (bb.mono U.out.size))
  replace BS := Lib.hid (BS.out.on bb)
  replace BX := Lib.hid (BX.out.on bb)
  replace MK := Lib.hid (MK.out.on bb)
  rw [hgs] at BT GL ⊢
  clear bb hgs
  obtain ⟨y2, hy2⟩ : ∃ y, x2.alloc (.cells #[.int .i64 a1, .int .i64 b1, .slice A1 n1 c1] 84) = y := ⟨_, rfl⟩
  rw [hy2] at SS U BS BX MK BT HS ⊢
  clear hy2
  refine (roomyBool A1 n1 c1 (bools z1) _ (by rw [Nat.mul_one]; exact ((S1.out.below U.out).more U.out.size)) (bools_one _) RN.out.2.1 true).mono ?_
  rintro e x3 ⟨gb, rfl, ow, bb⟩
  replace GL : Hid (gl < gs ∧ gt < gs ∧ gs < gb) := Lib.hid ⟨GL.out.1, GL.out.2, Nat.lt_of_lt_of_le HS.out (ow.lt gb rfl).1⟩
  have SS' := Lib.hid (SS.out.add (r := ⟨4, 1, .slice (some ⟨gb, 0, none⟩) (n1 + 3) (n1 + 3), n1 + 3, bools z1 ++ rep3 [.bool true] 3⟩) bb U.out.size ow)
  clear ow
  clear SS
  have SS := SS'
  clear SS'
  replace U := Lib.hid (U.out.trans (bb.mono U.out.size))
  replace BS := Lib.hid (BS.out.on bb)
  replace BX := Lib.hid (BX.out.on bb)
  replace MK := Lib.hid (MK.out.on bb)
  replace BT := Lib.hid (BT.out.on bb)
  clear bb HS
  obtain ⟨⟨t0, t1, t2, tf⟩, tl⟩ := BT.out
  have BX' := Lib.hid (BX.out.off (b := gs) (o := 2) (v := .slice (some ⟨gb, 0, none⟩) n1 (n1 + 3)) (by have := GN.out; omega))
  obtain ⟨⟨k0, k1, k2, kf⟩, kl⟩ := BX'.out
  go_wp2_with fail
  clear t0 t1 t2 tf tl
  clear k0 k1 k2 kf kl
  have bset : W.heap.size ≤ gs := by have := GN.out; omega
  replace U := Lib.hid (U.out.setCell (p := ⟨gs, 2, none⟩) bset (.slice (some ⟨gb, 0, none⟩) n1 (n1 + 3)))
  replace BS := Lib.hid (BS.out.off (b := gs) (o := 2) (v := .slice (some ⟨gb, 0, none⟩) n1 (n1 + 3)) (by have := GN.out; omega))
  replace MK := Lib.hid (MK.out.off (b := gs) (o := 2) (v := .slice (some ⟨gb, 0, none⟩) n1 (n1 + 3)) (by have := GN.out; omega))
  replace BT := Lib.hid (BT.out.set2 (v := .slice (some ⟨gb, 0, none⟩) n1 (n1 + 3)))
  have SS' := Lib.hid (SS.out.setOff (g := gs) (o := 2) (u := .slice (some ⟨gb, 0, none⟩) n1 (n1 + 3)) (fun i r hr hb => by
    have := GL.out
    rcases i with _ | _ | _ | i
    · simp at hr; subst hr; have hb' : some gb = some gs := hb; injection hb' with hb'; omega
    · simp at hr; subst hr; have hb' : some gt = some gs := hb; injection hb' with hb'; omega
    · simp at hr; subst hr; have hb' : some gl = some gs := hb; injection hb' with hb'; omega
    · simp at hr))
  clear SS BX bset
  have SS := SS'
  have BX := BX'
  clear SS' BX'
  obtain ⟨y3, hy3⟩ : ∃ y, x3.setCell ⟨gs, 2, none⟩ (.slice (some ⟨gb, 0, none⟩) n1 (n1 + 3)) = y := ⟨_, rfl⟩
  rw [hy3] at SS U BS BX MK BT ⊢
  clear hy3
  refine (fr_take _ n3 (n3 + 3) z3 _ (Sl.of_own3 (room_own (SS.out.own 2 _ rfl) (by rw [ints_len, L3.out]))) (by omega) a4 b4 c4).mono ?_
  rintro e x4 ⟨Aa, ka, ca, za, ra, rfl, ow, hk, bb⟩
  have Ka := Lib.hid hk
  have SS' := Lib.hid (SS.out.add (r := ⟨87, 3, .slice Aa ka ca, ka, ints za⟩) bb U.out.size ow)
  clear ow
  clear SS
  have SS := SS'
  clear SS'
  replace U := Lib.hid (U.out.trans (bb.mono U.out.size))
  replace BS := Lib.hid (BS.out.on bb)
  replace BX := Lib.hid (BX.out.on bb)
  replace MK := Lib.hid (MK.out.on bb)
  replace BT := Lib.hid (BT.out.on bb)
  clear bb hk
  go_wp2_with fail
  refine (fr_live _ n3 (n3 + 3) z3 _ (Sl.of_own3 (room_own (SS.out.own 3 _ rfl) (by rw [ints_len, L3.out]))) (by omega) a5).mono ?_
  rintro e x5 ⟨Ab, kb, cb, zb, rb, rfl, ow, hk, bb⟩
  have Kb := Lib.hid hk
  have SS' := Lib.hid (SS.out.add (r := ⟨87, 3, .slice Ab kb cb, kb, ints zb⟩) bb U.out.size ow)
  clear ow
  clear SS
  have SS := SS'
  clear SS'
  replace U := Lib.hid (U.out.trans (bb.mono U.out.size))
  replace BS := Lib.hid (BS.out.on bb)
  replace BX := Lib.hid (BX.out.on bb)
  replace MK := Lib.hid (MK.out.on bb)
  replace BT := Lib.hid (BT.out.on bb)
  clear bb hk
  go_wp2_with fail
  refine (fr_lcut _ n3 (n3 + 3) z3 _ (Sl.of_own3 (room_own (SS.out.own 4 _ rfl) (by rw [ints_len, L3.out]))) (by omega) a5).mono ?_
  rintro e x6 ⟨Ac, kc, cc, zc, rc, rfl, ow, hk, bb⟩
  have Kc := Lib.hid hk
  have SS' := Lib.hid (SS.out.add (r := ⟨87, 3, .slice Ac kc cc, kc, ints zc⟩) bb U.out.size ow)
  clear ow
  clear SS
  have SS := SS'
  clear SS'
  replace U := Lib.hid (U.out.trans (bb.mono U.out.size))
  replace BS := Lib.hid (BS.out.on bb)
  replace BX := Lib.hid (BX.out.on bb)
  replace MK := Lib.hid (MK.out.on bb)
  replace BT := Lib.hid (BT.out.on bb)
  clear bb hk
  go_wp2_with fail
  refine (fr_order _ n0 (n0 + 3) z0 _ (Sl.of_own3 (room_own (SS.out.own 4 _ rfl) (by rw [ints_len, L0.out]))) (by omega)).mono ?_
  rintro e x7 ⟨Ad, kd, cd, zd, rd, rfl, ow, hk, bb⟩
  have Kd := Lib.hid hk
  have SS' := Lib.hid (SS.out.add (r := ⟨93, 3, .slice Ad kd cd, kd, ints zd⟩) bb U.out.size ow)
  clear ow
  clear SS
  have SS := SS'
  clear SS'
  replace U := Lib.hid (U.out.trans (bb.mono U.out.size))
  replace BS := Lib.hid (BS.out.on bb)
  replace BX := Lib.hid (BX.out.on bb)
  replace MK := Lib.hid (MK.out.on bb)
  replace BT := Lib.hid (BT.out.on bb)
  clear bb hk
  obtain ⟨⟨t0, t1, t2, tf⟩, tl⟩ := BT.out
  go_wp2_with fail
  clear t0 t1 t2 tf tl
  refine (fr_put a1 b1 _ n1 (n1 + 3) z1 a2 _ (Sl.of_own (room_own (SS.out.own 4 _ rfl) (by rw [bools_len, L1.out, Nat.mul_one]))) (by omega)).mono ?_
  rintro e x8 ⟨es, eu, Ae, ke, ce, ze, re, rfl, ow, hk, bb⟩
  have Ke := Lib.hid hk
  have SS' := Lib.hid (SS.out.add (r := ⟨4, 1, .slice Ae ke ce, ke, bools ze⟩) bb U.out.size ow)
  clear ow
  clear SS
  have SS := SS'
  clear SS'
  replace U := Lib.hid (U.out.trans (bb.mono U.out.size))
  replace BS := Lib.hid (BS.out.on bb)
  replace BX := Lib.hid (BX.out.on bb)
  replace MK := Lib.hid (MK.out.on bb)
  replace BT := Lib.hid (BT.out.on bb)
  clear bb hk
  obtain ⟨⟨s0, s1, s2, sf⟩, sl⟩ := BS.out
  obtain ⟨⟨t0, t1, t2, tf⟩, tl⟩ := BT.out
  go_wp2_with fail
  clear s0 s1 s2 sf sl
  clear t0 t1 t2 tf tl
  obtain ⟨ge, hge⟩ : ∃ g, x8.heap.size = g := ⟨_, rfl⟩
  have GE : Hid (gb < ge ∧ gs < ge) := Lib.hid ⟨by rw [← hge]; exact ((SS.out.own 5 _ rfl).lt gb rfl).2, by rw [← hge]; exact BT.out.2⟩
  have BE := Lib.hid (TBox.made x8 (.int .i64 es) (.int .i64 eu) (.slice Ae ke ce) 84)
  have bb : Below x8.heap.size x8 (x8.alloc (.cells #[.int .i64 es, .int .i64 eu, .slice Ae ke ce] 84)) := (Below.refl _ _).alloc (Nat.le_refl _) _
  have SS' := Lib.hid (SS.out.on bb)
  clear SS
  have SS := SS'
  clear SS'
  replace U := Lib.hid (U.out.trans (bb.mono U.out.size))
  replace BS := Lib.hid (BS.out.on bb)
  replace BX := Lib.hid (BX.out.on bb)
  replace MK := Lib.hid (MK.out.on bb)
  replace BT := Lib.hid (BT.out.on bb)
  clear bb
  rw [hge] at BE ⊢
  clear hge
  obtain ⟨y8, hy8⟩ : ∃ y, x8.alloc (.cells #[.int .i64 es, .int .i64 eu, .slice Ae ke ce] 84) = y := ⟨_, rfl⟩
  rw [hy8] at SS U BS BX MK BT BE ⊢
  clear hy8
  refine (sameLease _ _ n3 (n3 + 3) c3 z3 _ _ _ (Sl.of_own3 (room_own (SS.out.own 7 _ rfl) (by rw [ints_len, L3.out]))) ((S3.out.below U.out).more U.out.size) (by omega)).mono ?_
  rintro e q1 ⟨rfl, bb⟩
  have SS' := Lib.hid (SS.out.on bb)
  clear SS
  have SS := SS'
  clear SS'
  replace U := Lib.hid (U.out.trans (bb.mono U.out.size))
  replace BS := Lib.hid (BS.out.on bb)
  replace BX := Lib.hid (BX.out.on bb)
  replace MK := Lib.hid (MK.out.on bb)
  replace BT := Lib.hid (BT.out.on bb)
  replace BE := Lib.hid (BE.out.on bb)
  clear bb
  obtain ⟨⟨m0, m1, m2, mf⟩, ml⟩ := MK.out
  go_wp2_with fail
  clear m0 m1 m2 mf ml
  refine (markedLease gl n3 _ (ints z3) 99 0 0 _ (SS.out.own 7 _ rfl) (by rw [ints_len, L3.out])).mono ?_
  rintro e q2 ⟨rfl, bb⟩
  have SS' := Lib.hid (SS.out.on bb)
  clear SS
  have SS := SS'
  clear SS'
  replace U := Lib.hid (U.out.trans (bb.mono U.out.size))
  replace BS := Lib.hid (BS.out.on bb)
  replace BX := Lib.hid (BX.out.on bb)
  replace MK := Lib.hid (MK.out.on bb)
  replace BT := Lib.hid (BT.out.on bb)
  replace BE := Lib.hid (BE.out.on bb)
  clear bb
  go_wp2_with fail
  refine (sameTask _ _ n0 (n0 + 3) c0 z0 _ _ _ (Sl.of_own3 (room_own (SS.out.own 6 _ rfl) (by rw [ints_len, L0.out]))) ((S0.out.below U.out).more U.out.size) (by omega)).mono ?_
  rintro e q3 ⟨rfl, bb⟩
  have SS' := Lib.hid (SS.out.on bb)
  clear SS
  have SS := SS'
  clear SS'
  replace U := Lib.hid (U.out.trans (bb.mono U.out.size))
  replace BS := Lib.hid (BS.out.on bb)
  replace BX := Lib.hid (BX.out.on bb)
  replace MK := Lib.hid (MK.out.on bb)
  replace BT := Lib.hid (BT.out.on bb)
  replace BE := Lib.hid (BE.out.on bb)
  clear bb
  go_wp2_with fail
  refine (markedTask gt n0 _ (ints z0) 0 99 0 _ (SS.out.own 6 _ rfl) (by rw [ints_len, L0.out])).mono ?_
  rintro e q4 ⟨rfl, bb⟩
  have SS' := Lib.hid (SS.out.on bb)
  clear SS
  have SS := SS'
  clear SS'
  replace U := Lib.hid (U.out.trans (bb.mono U.out.size))
  replace BS := Lib.hid (BS.out.on bb)
  replace BX := Lib.hid (BX.out.on bb)
  replace MK := Lib.hid (MK.out.on bb)
  replace BT := Lib.hid (BT.out.on bb)
  replace BE := Lib.hid (BE.out.on bb)
  clear bb
  obtain ⟨⟨t0, t1, t2, tf⟩, tl⟩ := BT.out
  obtain ⟨⟨s0, s1, s2, sf⟩, sl⟩ := BS.out
  go_wp2_with fail
  clear t0 t1 t2 tf tl
  clear s0 s1 s2 sf sl
  refine (equalB_same _ _ n1 (n1 + 3) c1 z1 _ _ _ (Sl.of_own (room_own (SS.out.own 5 _ rfl) (by rw [bools_len, L1.out, Nat.mul_one]))) ((S1.out.below U.out).more U.out.size) (by omega)).mono ?_
  rintro e q5 ⟨rfl, bb⟩
  have SS' := Lib.hid (SS.out.on bb)
  clear SS
  have SS := SS'
  clear SS'
  replace U := Lib.hid (U.out.trans (bb.mono U.out.size))
  replace BS := Lib.hid (BS.out.on bb)
  replace BX := Lib.hid (BX.out.on bb)
  replace MK := Lib.hid (MK.out.on bb)
  replace BT := Lib.hid (BT.out.on bb)
  replace BE := Lib.hid (BE.out.on bb)
  clear bb
  obtain ⟨⟨t0, t1, t2, tf⟩, tl⟩ := BT.out
  go_wp2_with fail
  clear t0 t1 t2 tf tl
  refine (markedBool gb n1 _ (bools z1) true _ (SS.out.own 5 _ rfl) (by rw [bools_len, L1.out, Nat.mul_one])).mono ?_
  rintro e q6 ⟨rfl, bb⟩
  have SS' := Lib.hid (SS.out.on bb)
  clear SS
  have SS := SS'
  clear SS'
  replace U := Lib.hid (U.out.trans (bb.mono U.out.size))
  replace BS := Lib.hid (BS.out.on bb)
  replace BX := Lib.hid (BX.out.on bb)
  replace MK := Lib.hid (MK.out.on bb)
  replace BT := Lib.hid (BT.out.on bb)
  replace BE := Lib.hid (BE.out.on bb)
  clear bb
  clear BS BX MK S0 S1 S3
  have HC : Hid (q6.cell? ⟨ge, 2, none⟩ = some (.slice Ae ke ce)) := Lib.hid BE.out.1.c2
  have SR := Lib.hid ((SS.out.hole.hole.hole.hole.hole).on (Below.refl q6.heap.size q6).drew)
  have BR : Hid (Below q6.heap.size q6 q6.drew) := Lib.hid (Below.refl _ _).drew
  have ZQ : Hid (W.heap.size ≤ q6.heap.size ∧ ge < q6.heap.size) := Lib.hid ⟨U.out.size, BE.out.2⟩
  clear SS
  go_wp2_with fail
  have hce : q6.drew.cell? ⟨ge, 2, none⟩ = some (.slice Ae ke ce) := HC.out
  apply region_cut (fun w' vp vq vr vu vv => Hid (Sep w' W.heap.size [⟨87, 3, vp, ka, ints za⟩, ⟨87, 3, vq, kb, ints zb⟩, ⟨87, 3, vr, kc, ints zc⟩, ⟨93, 3, vu, kd, ints zd⟩, ⟨4, 1, vv, ke, bools ze⟩, ⟨4, 1, .slice Ae ke ce, ke, bools ze⟩, ⟨93, 3, .slice Ad kd cd, kd, ints zd⟩, ⟨87, 3, .slice Ac kc cc, kc, ints zc⟩, ⟨87, 3, .slice Ab kb cb, kb, ints zb⟩, ⟨87, 3, .slice Aa ka ca, ka, ints za⟩, ⟨4, 1, .slice (some ⟨gb, 0, none⟩) (n1 + 3) (n1 + 3), n1 + 3, bools z1 ++ rep3 [.bool true] 3⟩, ⟨93, 3, .slice (some ⟨gt, 0, none⟩) (n0 + 3) (n0 + 3), n0 + 3, ints z0 ++ rep3 [.int .i64 0, .int .i64 99, .int .i64 0] 3⟩, ⟨87, 3, .slice (some ⟨gl, 0, none⟩) (n3 + 3) (n3 + 3), n3 + 3, ints z3 ++ rep3 [.int .i64 99, .int .i64 0, .int .i64 0] 3⟩]) ∧ Hid (Below q6.heap.size q6 w'))
  · go_region_held3 (fun w' => w'.cell? ⟨ge, 2, none⟩ = some (.slice Ae ke ce)) (first | assumption | go_keep) (first
      | (go_at_call_of 72 (Value.slice Aa ka ca); refine (cloneLease Aa ka ca (ints za) _ (Sl.of_own3 (SR.out.own 9 _ rfl)) (ints_one _) (by have := Ka.out; omega)).mono ?_; rintro e w' ⟨vp, rfl, ow, bk, zk⟩; replace SR := Lib.hid (SR.out.fill (r := ⟨87, 3, vp, ka, ints za⟩) 0 bk (Nat.le_trans ZQ.out.1 BR.out.size) ow); replace BR := Lib.hid (BR.out.trans (bk.mono BR.out.size)); have hcN := (BR.out.cell (p := ⟨ge, 2, none⟩) ZQ.out.2).trans HC.out; clear ow bk zk)
      | (go_at_call_of 72 (Value.slice Ab kb cb); refine (cloneLease Ab kb cb (ints zb) _ (Sl.of_own3 (SR.out.own 8 _ rfl)) (ints_one _) (by have := Kb.out; omega)).mono ?_; rintro e w' ⟨vq, rfl, ow, bk, zk⟩; replace SR := Lib.hid (SR.out.fill (r := ⟨87, 3, vq, kb, ints zb⟩) 1 bk (Nat.le_trans ZQ.out.1 BR.out.size) ow); replace BR := Lib.hid (BR.out.trans (bk.mono BR.out.size)); have hcN := (BR.out.cell (p := ⟨ge, 2, none⟩) ZQ.out.2).trans HC.out; clear ow bk zk)
      | (go_at_call_of 73 (Value.slice Ad kd cd); refine (cloneTask Ad kd cd (ints zd) _ (Sl.of_own3 (SR.out.own 6 _ rfl)) (ints_one _) (by have := Kd.out; omega)).mono ?_; rintro e w' ⟨vu, rfl, ow, bk, zk⟩; replace SR := Lib.hid (SR.out.fill (r := ⟨93, 3, vu, kd, ints zd⟩) 3 bk (Nat.le_trans ZQ.out.1 BR.out.size) ow); replace BR := Lib.hid (BR.out.trans (bk.mono BR.out.size)); have hcN := (BR.out.cell (p := ⟨ge, 2, none⟩) ZQ.out.2).trans HC.out; clear ow bk zk)
      | (go_at_call_of 36 (Value.slice Ae ke ce); refine (cloneBool Ae ke ce (bools ze) _ (Sl.of_own (SR.out.own 5 _ rfl)) (bools_one _) (by have := Ke.out; omega)).mono ?_; rintro e w' ⟨vv, rfl, ow, bk, zk⟩; replace SR := Lib.hid (SR.out.fill (r := ⟨4, 1, vv, ke, bools ze⟩) 4 bk (Nat.le_trans ZQ.out.1 BR.out.size) ow); replace BR := Lib.hid (BR.out.trans (bk.mono BR.out.size)); have hcN := (BR.out.cell (p := ⟨ge, 2, none⟩) ZQ.out.2).trans HC.out; clear ow bk zk)
      | (go_at_call_of 72 (Value.slice Ac kc cc); refine (cloneLease Ac kc cc (ints zc) _ (Sl.of_own3 (SR.out.own 7 _ rfl)) (ints_one _) (by have := Kc.out; omega)).mono ?_; rintro e w' ⟨vr, rfl, ow, bk, zk⟩; replace SR := Lib.hid (SR.out.fill (r := ⟨87, 3, vr, kc, ints zc⟩) 2 bk (Nat.le_trans ZQ.out.1 BR.out.size) ow); replace BR := Lib.hid (BR.out.trans (bk.mono BR.out.size)); have hcN := (BR.out.cell (p := ⟨ge, 2, none⟩) ZQ.out.2).trans HC.out; clear ow bk zk))
    all_goals exact ⟨rfl, vp, vq, vr, vu, vv, rfl, Lib.hid SR.out, BR⟩
  intro wr vp vq vr vu vv hJ
  obtain ⟨SS, BR2⟩ := hJ
  obtain ⟨Ap, cp, hp, -⟩ : ∃ A c, vp = .slice A ka c ∧ ka ≤ c := own_form (SS.out.own 0 _ rfl)
  subst hp
  obtain ⟨Aq, cq, hq, -⟩ : ∃ A c, vq = .slice A kb c ∧ kb ≤ c := own_form (SS.out.own 1 _ rfl)
  subst hq
  obtain ⟨Ar, cr, hr, -⟩ : ∃ A c, vr = .slice A kc c ∧ kc ≤ c := own_form (SS.out.own 2 _ rfl)
  subst hr
  obtain ⟨Au, cu, hu, -⟩ : ∃ A c, vu = .slice A kd c ∧ kd ≤ c := own_form (SS.out.own 3 _ rfl)
  subst hu
  obtain ⟨Av, cv, hv, -⟩ : ∃ A c, vv = .slice A ke c ∧ ke ≤ c := own_form (SS.out.own 4 _ rfl)
  subst hv
  replace U := Lib.hid (U.out.trans (BR2.out.mono U.out.size))
  replace BT := Lib.hid (BT.out.on BR2.out)
  replace BE := Lib.hid (BE.out.on BR2.out)
  clear BR2 ZQ
  go_wp2_with fail
  refine (spoilLease W.heap.size _ n3 (ints z3) 0 0 5 _ (room_own (SS.out.own 12 _ rfl) (by rw [ints_len, L3.out]))).mono ?_
  rintro e t1 ⟨rfl, g⟩
  replace BT := Lib.hid (BT.out.grown g (fun h => by have h' : some gs = some gl := h; injection h' with h'; have := GL.out; have := GE.out; omega))
  replace BE := Lib.hid (BE.out.grown g (fun h => by have h' : some ge = some gl := h; injection h' with h'; have := GL.out; have := GE.out; omega))
  replace U := Lib.hid (SS.out.below 12 rfl U.out U.out.size g)
  have SS' := Lib.hid (SS.out.spoil 12 rfl g)
  clear SS g
  have SS := SS'
  clear SS'
  go_wp2_with fail
  refine (spoilTask W.heap.size _ n0 (ints z0) 0 0 0 _ (room_own (SS.out.own 11 _ rfl) (by rw [ints_len, L0.out]))).mono ?_
  rintro e t2 ⟨rfl, g⟩
  replace BT := Lib.hid (BT.out.grown g (fun h => by have h' : some gs = some gt := h; injection h' with h'; have := GL.out; have := GE.out; omega))
  replace BE := Lib.hid (BE.out.grown g (fun h => by have h' : some ge = some gt := h; injection h' with h'; have := GL.out; have := GE.out; omega))
  replace U := Lib.hid (SS.out.below 11 rfl U.out U.out.size g)
  have SS' := Lib.hid (SS.out.spoil 11 rfl g)
  clear SS g
  have SS := SS'
  clear SS'
  obtain ⟨⟨t0, t1, t2, tf⟩, tl⟩ := BT.out
  go_wp2_with fail
  clear t0 t1 t2 tf tl
  refine (spoilBool W.heap.size _ n1 (bools z1) false _ (room_own (SS.out.own 10 _ rfl) (by rw [bools_len, L1.out, Nat.mul_one]))).mono ?_
  rintro e t3 ⟨rfl, g⟩
  replace BE := Lib.hid (BE.out.grown g (fun h => by have h' : some ge = some gb := h; injection h' with h'; have := GL.out; have := GE.out; omega))
  replace U := Lib.hid (SS.out.below 10 rfl U.out U.out.size g)
  have SS' := Lib.hid (SS.out.spoil 10 rfl g)
  clear SS g
  have SS := SS'
  clear SS'
  clear BT
  go_wp2_with fail
  refine (sameLease _ _ ka ca cp za _ _ _ (Sl.of_own3 (SS.out.own 9 _ rfl)) (Sl.of_own3 (SS.out.own 0 _ rfl)) (by have := Ka.out; omega)).mono ?_
  rintro e t4 ⟨rfl, bb⟩
  have SS' := Lib.hid (SS.out.on bb)
  clear SS
  have SS := SS'
  clear SS'
  replace U := Lib.hid (U.out.trans (bb.mono U.out.size))
  replace BE := Lib.hid (BE.out.on bb)
  clear bb
  go_wp2_with fail
  refine (sameTask _ _ kd cd cu zd _ _ _ (Sl.of_own3 (SS.out.own 6 _ rfl)) (Sl.of_own3 (SS.out.own 3 _ rfl)) (by have := Kd.out; omega)).mono ?_
  rintro e t5 ⟨rfl, bb⟩
  have SS' := Lib.hid (SS.out.on bb)
  clear SS
  have SS := SS'
  clear SS'
  replace U := Lib.hid (U.out.trans (bb.mono U.out.size))
  replace BE := Lib.hid (BE.out.on bb)
  clear bb
  obtain ⟨⟨t0, t1, t2, tf⟩, tl⟩ := BE.out
  go_wp2_with fail
  clear t0 t1 t2 tf tl
  refine (equalB_same _ _ ke ce cv ze _ _ _ (Sl.of_own (SS.out.own 5 _ rfl)) (Sl.of_own (SS.out.own 4 _ rfl)) (by have := Ke.out; omega)).mono ?_
  rintro e t6 ⟨rfl, bb⟩
  have SS' := Lib.hid (SS.out.on bb)
  clear SS
  have SS := SS'
  clear SS'
  replace U := Lib.hid (U.out.trans (bb.mono U.out.size))
  replace BE := Lib.hid (BE.out.on bb)
  clear bb
  clear BE
  go_wp2_with fail
  refine (spoilLease W.heap.size _ ka (ints za) 0 0 0 _ (SS.out.own 9 _ rfl)).mono ?_
  rintro e t7 ⟨rfl, g⟩
  replace U := Lib.hid (SS.out.below 9 rfl U.out U.out.size g)
  have SS' := Lib.hid (SS.out.spoil 9 rfl g)
  clear SS g
  have SS := SS'
  clear SS'
  go_wp2_with fail
  refine (sameLease _ _ kb cb cq zb _ _ _ (Sl.of_own3 (SS.out.own 8 _ rfl)) (Sl.of_own3 (SS.out.own 1 _ rfl)) (by have := Kb.out; omega)).mono ?_
  rintro e t8 ⟨rfl, bb⟩
  have SS' := Lib.hid (SS.out.on bb)
  clear SS
  have SS := SS'
  clear SS'
  replace U := Lib.hid (U.out.trans (bb.mono U.out.size))
  clear bb
  go_wp2_with fail
  refine (spoilLease W.heap.size _ kb (ints zb) 0 0 0 _ (SS.out.own 8 _ rfl)).mono ?_
  rintro e t9 ⟨rfl, g⟩
  replace U := Lib.hid (SS.out.below 8 rfl U.out U.out.size g)
  have SS' := Lib.hid (SS.out.spoil 8 rfl g)
  clear SS g
  have SS := SS'
  clear SS'
  go_wp2_with fail
  refine (sameLease _ _ kc cc cr zc _ _ _ (Sl.of_own3 (SS.out.own 7 _ rfl)) (Sl.of_own3 (SS.out.own 2 _ rfl)) (by have := Kc.out; omega)).mono ?_
  rintro e t10 ⟨rfl, bb⟩
  have SS' := Lib.hid (SS.out.on bb)
  clear SS
  have SS := SS'
  clear SS'
  replace U := Lib.hid (U.out.trans (bb.mono U.out.size))
  clear bb
  go_wp2_with fail
  go_ret
  exact ⟨rfl, U.out⟩
end Go.Proofs.Ytpifknmoimlpoaa
