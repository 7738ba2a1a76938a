/- headkeep.act: what a step does to a world. -/
import Derived.Test.YtehdphkaknjlnaaWorldD
import Derived.Test.YtehdphkaknjlnaaWithin
set_option linter.unusedVariables false
namespace Go.Proofs.Ytehdphkaknjlnaa
open Go.RowKit
/-- The state behind an act, and by how many bytes it crashed. -/
def wact (n r : Nat) (u : Int) (s : WS) (l : List Int) : WS × Int :=
  if l.length = 0 then (s, 0)
  else if within (gi l 0) 3 = 0 then ((wapp n (within (if 1 < l.length then gi l 1 else 0) 100) s).1, 0)
  else if within (gi l 0) 3 = 1 then (wit n u s r, 0)
  else (⟨s.L, updN s.P (within (if 1 < l.length then gi l 1 else 0) n).toNat 0, s.t⟩, s.P (within (if 1 < l.length then gi l 1 else 0) n).toNat)
set_option maxRecDepth 100000 in
set_option maxHeartbeats 6400000 in
theorem wact_ok (w : World) (bw bp n r : Nat) (unit : Int) (s : WS) (A : Option Addr) (m c B : Nat) (l : List Int) (h : WOk w bw bp n (r : Int) unit s) (hn8 : n ≤ 8) (hr : r ≤ 1000) (hu : unit ≤ 1000) (hl : Sl w B A m (ints l)) (hm : m ≤ 9223372036854775807) (hz : ∀ z ∈ l, -9223372036854775808 ≤ z ∧ z ≤ 9223372036854775807) (v : Int) (hv : (wact n r unit s l).2 = v) :
    Calls Try.prog 20 #[.pointer (some ⟨bw, 0, none⟩), .int .i64 (n : Int), .slice A m c] w fun e w' => e = .returned (.int .i64 v) ∧ WOk w' bw bp n r unit (wact n r unit s l).1 ∧ Only bw bp w w' := by
  have hlen := hl.int_len
  have hn : 0 < n := by have := h.2.turn; omega
  have H := Lib.hid h
  have HV := Lib.hid hv
  clear h hv
  by_cases h0 : m = 0
  · subst h0
    have E : Hid (wact n r unit s l = (s, 0)) := if_pos hlen
    rw [E.out] at HV ⊢
    go_enter Try.func20, Try.ntmps20
    go_wp2_with fail
    go_ret
    exact ⟨ret_int HV.out, H.out, Only.refl _ _ _⟩
  obtain ⟨b, off, rfl, hb, d0⟩ := hl.int_at (k := 0) (by omega)
  have d1 : 1 < m → w.cell? ⟨b, off + 1, none⟩ = some (.int .i64 (gi l 1)) := fun h => hl.int_cell h
  rw [Nat.add_zero] at d0
  have m0 : (0 : Int) < m := by omega
  obtain ⟨k, hk⟩ : ∃ k, (if 1 < l.length then gi l 1 else 0) = k := ⟨_, rfl⟩
  have kb : -9223372036854775808 ≤ k ∧ k ≤ 9223372036854775807 := by
    rw [← hk]
    split
    · exact hz _ (gi_mem (by omega))
    · omega
  obtain ⟨q, hq⟩ : ∃ q, within (gi l 0) 3 = q := ⟨_, rfl⟩
  have q0 := within_lo (gi l 0) 3 (by omega)
  have q1 := within_hi (gi l 0) 3 (by omega)
  rw [hq] at q0 q1
  have E : Hid (wact n r unit s l = if q = 0 then ((wapp n (within k 100) s).1, 0) else if q = 1 then (wit n unit s r, 0) else (⟨s.L, updN s.P (within k n).toNat 0, s.t⟩, s.P (within k n).toNat)) := by
    show _ = _
    unfold wact
    rw [if_neg (by omega), hk, hq]
  have K := Lib.hid hk
  have Q := Lib.hid hq
  have WI : Hid (∀ w, Calls Try.prog 14 #[.int .i64 (gi l 0), .int .i64 3] w fun e w' => e = .returned (.int .i64 q) ∧ w = w') := by
    show ∀ w, _
    intro w
    rw [← Q.out]
    exact within_any _ 3 w (by omega) (by omega)
  have e00 : ((m : Int) == 0) = false := by simp; omega
  have key : (q = 0 ∧ wact n r unit s l = ((wapp n (within k 100) s).1, 0)) ∨ (q = 1 ∧ wact n r unit s l = (wit n unit s r, 0)) ∨ (q = 2 ∧ wact n r unit s l = (⟨s.L, updN s.P (within k n).toNat 0, s.t⟩, s.P (within k n).toNat)) := by
    rw [E.out]
    rcases (show q = 0 ∨ q = 1 ∨ q = 2 by omega) with rfl | rfl | rfl
    · exact .inl ⟨rfl, if_pos rfl⟩
    · exact .inr (.inl ⟨rfl, by rw [if_neg (by omega), if_pos rfl]⟩)
    · exact .inr (.inr ⟨rfl, by rw [if_neg (by omega), if_neg (by omega)]⟩)
  have hkc : (1 < m ∧ w.cell? ⟨b, off + 1, none⟩ = some (.int .i64 k)) ∨ (¬ 1 < m ∧ k = 0) := by
    by_cases h1 : 1 < m
    · left
      refine ⟨h1, ?_⟩
      rw [d1 h1, ← K.out, if_pos (by omega)]
    · right
      refine ⟨h1, ?_⟩
      rw [← K.out, if_neg (by omega)]
  obtain ⟨p, hp⟩ : ∃ p, within k 100 = p := ⟨_, rfl⟩
  have p0 := within_lo k 100 (by omega)
  have p1 := within_hi k 100 (by omega)
  obtain ⟨j, hj⟩ : ∃ j, within k n = j := ⟨_, rfl⟩
  have j0 := within_lo k n (by omega)
  have j1 := within_hi k n (by omega)
  rw [hp] at p0 p1 key
  rw [hj] at j0 j1 key
  obtain ⟨jn, rfl⟩ := Int.eq_ofNat_of_zero_le j0
  rw [Int.toNat_natCast] at key
  have WP : Hid (∀ w, Calls Try.prog 14 #[.int .i64 k, .int .i64 100] w fun e w' => e = .returned (.int .i64 p) ∧ w = w') := by
    show ∀ w, _
    intro w
    rw [← hp]
    exact within_any _ 100 w (by omega) (by omega)
  have WJ : Hid (∀ w, Calls Try.prog 14 #[.int .i64 k, .int .i64 (n : Int)] w fun e w' => e = .returned (.int .i64 (jn : Int)) ∧ w = w') := by
    show ∀ w, _
    intro w
    rw [← hj]
    exact within_any _ n w (by omega) (by omega)
  have hjn : jn < n := by omega
  clear hl hz hk hq d1 E hp hj K Q kb
  rcases key with ⟨rfl, E⟩ | ⟨rfl, E⟩ | ⟨rfl, E⟩
  · rw [E] at HV ⊢
    clear E
    rcases hkc with ⟨h1, e1⟩ | ⟨h1, rfl⟩
    case' inl => have m1 : (1 : Int) < m := by omega
    case' inr => have m1 : ¬ (1 : Int) < m := by omega
    all_goals
      go_enter Try.func20, Try.ntmps20
      go_wp2_with fail
      refine (WI.out _).mono ?_
      rintro e _ ⟨rfl, rfl⟩
      go_wp2_with fail
      refine (WP.out _).mono ?_
      rintro e _ ⟨rfl, rfl⟩
      go_wp2_with fail
      refine (wappend_ok w bw bp n r unit p s H.out hn8 p0 (by omega)).mono ?_
      rintro e w1 ⟨rfl, ok1, on1⟩
      have OK1 := Lib.hid ok1
      have ON1 := Lib.hid on1
      clear ok1 on1
      go_wp2_with fail
      go_ret
      exact ⟨ret_int HV.out, OK1.out, ON1.out⟩
  · rw [E] at HV ⊢
    clear E
    rcases hkc with ⟨h1, e1⟩ | ⟨h1, rfl⟩
    case' inl => have m1 : (1 : Int) < m := by omega
    case' inr => have m1 : ¬ (1 : Int) < m := by omega
    all_goals
      go_enter Try.func20, Try.ntmps20
      go_wp2_with fail
      refine (WI.out _).mono ?_
      rintro e _ ⟨rfl, rfl⟩
      go_wp2_with fail
      refine (wtick_ok w bw bp n r unit s H.out hn8 hr hu).mono ?_
      rintro e w1 ⟨rfl, ok1, on1⟩
      have OK1 := Lib.hid ok1
      have ON1 := Lib.hid on1
      clear ok1 on1
      go_wp2_with fail
      go_ret
      exact ⟨ret_int HV.out, OK1.out, ON1.out⟩
  · rw [E] at HV ⊢
    clear E
    have hjI : (jn : Int) < n := by omega
    rcases hkc with ⟨h1, e1⟩ | ⟨h1, rfl⟩
    case' inl => have m1 : (1 : Int) < m := by omega
    case' inr => have m1 : ¬ (1 : Int) < m := by omega
    all_goals
      go_enter Try.func20, Try.ntmps20
      go_wp2_with fail
      refine (WI.out _).mono ?_
      rintro e _ ⟨rfl, rfl⟩
      go_wp2_with fail
      refine (WJ.out _).mono ?_
      rintro e _ ⟨rfl, rfl⟩
      go_wp2_with fail
      refine (wpeers_ok w bw bp n r unit s H.out hn8).mono ?_
      rintro e w1 ⟨g, c1, rfl, hg, hown, hb1⟩
      have OK1 : Hid (WOk w1 bw bp n r unit s) := Lib.hid ⟨H.out.1.on hb1, H.out.2⟩
      have ON1 : Hid (Only bw bp w w1) := Lib.hid (Only.of_below hb1)
      have dp : w1.cell? ⟨g, jn * 3 + 1, none⟩ = some (.int .i64 (s.P jn)) := by rw [hown.cellAt _ (by omega)]; exact peersV_1 s hjn
      clear hown hb1
      go_wp2_with fail
      refine (wcrash_ok w1 bw bp n jn r unit s OK1.out hn8 hjn).mono ?_
      rintro e w2 ⟨rfl, ok2, on2⟩
      have OK2 := Lib.hid ok2
      have ON2 := Lib.hid (ON1.out.trans on2)
      clear ok2 on2 dp
      go_wp2_with fail
      go_ret
      exact ⟨ret_int HV.out, OK2.out, ON2.out⟩
end Go.Proofs.Ytehdphkaknjlnaa
