/- (*turns.queue).turn: what it sends, whatever it tells it to. -/
import Derived.Test.YtpifknmoimlpoaaTurnC
import Derived.Deep.LoopGhost
import Derived.StillTailTactics
set_option linter.unusedVariables false
namespace Go.Proofs.Ytpifknmoimlpoaa
open Go.RowKit
/-- A queue in block g. -/
structure QCell (w : World) (g : Nat) (q : Int) (sa : Option Addr) (sn sc : Nat) (at_ : Nat) (s : Int) : Prop where
  c0 : w.cell? ⟨g, 0, none⟩ = some (.int .i64 q)
  c1 : w.cell? ⟨g, 1, none⟩ = some (.slice sa sn sc)
  c2 : w.cell? ⟨g, 2, none⟩ = some (.int .i64 (at_ : Int))
  c3 : w.cell? ⟨g, 3, none⟩ = some (.int .i64 s)
  fr : ∀ k, w.frozen? ⟨g, k, none⟩ = false
section
variable {w w' : World} {g : Nat} {q : Int} {sa : Option Addr} {sn sc : Nat} {at_ : Nat} {s : Int}
theorem QCell.set2 (h : QCell w g q sa sn sc at_ s) (a' : Nat) : QCell (w.setCell ⟨g, 2, none⟩ (.int .i64 (a' : Int))) g q sa sn sc a' s :=
  ⟨(World.cell?_setCell_other _ _ _ _ (by simp)).trans h.c0, (World.cell?_setCell_other _ _ _ _ (by simp)).trans h.c1, World.cell?_setCell_same _ _ _ h.c2, (World.cell?_setCell_other _ _ _ _ (by simp)).trans h.c3, fun k => by rw [World.frozen?_setCell]; exact h.fr k⟩
theorem QCell.set3 (h : QCell w g q sa sn sc at_ s) (s' : Int) : QCell (w.setCell ⟨g, 3, none⟩ (.int .i64 s')) g q sa sn sc at_ s' :=
  ⟨(World.cell?_setCell_other _ _ _ _ (by simp)).trans h.c0, (World.cell?_setCell_other _ _ _ _ (by simp)).trans h.c1, (World.cell?_setCell_other _ _ _ _ (by simp)).trans h.c2, World.cell?_setCell_same _ _ _ h.c3, fun k => by rw [World.frozen?_setCell]; exact h.fr k⟩
theorem QCell.drew (h : QCell w g q sa sn sc at_ s) : QCell w.drew g q sa sn sc at_ s := ⟨h.c0, h.c1, h.c2, h.c3, h.fr⟩
theorem QCell.drewN (h : QCell w g q sa sn sc at_ s) (n : Nat) : QCell (w.drewN n) g q sa sn sc at_ s := ⟨h.c0, h.c1, h.c2, h.c3, h.fr⟩
theorem QCell.on {B : Nat} (h : QCell w g q sa sn sc at_ s) (hb : Below B w w') (hg : g < B) : QCell w' g q sa sn sc at_ s :=
  ⟨(hb.cell (p := ⟨g, 0, none⟩) hg).trans h.c0, (hb.cell (p := ⟨g, 1, none⟩) hg).trans h.c1, (hb.cell (p := ⟨g, 2, none⟩) hg).trans h.c2, (hb.cell (p := ⟨g, 3, none⟩) hg).trans h.c3, fun k => (hb.frozen (p := ⟨g, k, none⟩) hg).trans (h.fr k)⟩
end
theorem turn1_done {q : Int} {l : List Int} {s : Int} : turn1 q l (l.length, s) = (l.length, s) := if_pos rfl
theorem turn1_go {q : Int} {l : List Int} {a : Nat} {s : Int} (h : a < l.length) {c : Nat} {s' : Int} (he : eat (l.drop a) (s + q) = (c, s')) : turn1 q l (a, s) = (a + c, if a + c = l.length then 0 else s') := by
  unfold turn1
  rw [if_neg (show ¬ (a, s).1 = l.length by show ¬ a = _; omega)]
  show (a + (eat (l.drop a) (s + q)).1, if a + (eat (l.drop a) (s + q)).1 = l.length then 0 else (eat (l.drop a) (s + q)).2) = _
  rw [he]
set_option maxRecDepth 100000 in
set_option maxHeartbeats 6400000 in
theorem turn_after (g B at0 sn : Nat) (sa : Option Addr) (sc : Nat) (q s0 : Int) (l : List Int) (x y : Nat) (T : Nat → World → Prop) (W : World)
    (hQ : QCell W g q sa sn sc at0 s0) (hT : T 0 W) (hat : at0 ≤ sn) (hl : l.length = sn) (hok : QOk q l) (h0 : 0 ≤ s0) (h1 : s0 ≤ 1000) (hBg : B ≤ g)
    (tsl : ∀ c w, T c w → Sl w B sa sn (ints l)) (tset : ∀ c w k v, T c w → T c (w.setCell ⟨g, k, none⟩ v)) (tdr : ∀ c w n, T c w → T c (w.drewN n))
    (tcall : ∀ c w s, T c w → at0 + c < sn → QCell w g q sa sn sc (at0 + c) s → Calls Try.prog 81 #[.int .i64 ((at0 + c : Nat) : Int), .pointer (some ⟨x, 0, none⟩), .pointer (some ⟨y, 0, none⟩)] w fun e w' => e = .returned (.tuple #[]) ∧ T (c + 1) w' ∧ QCell w' g q sa sn sc (at0 + c) s)
    (st : Nat × Int) (hst : turn1 q l (at0, s0) = st) :
    Calls Try.prog 79 #[.pointer (some ⟨g, 0, none⟩), .func (.func 81) #[] #[.pointer (some ⟨x, 0, none⟩), .pointer (some ⟨y, 0, none⟩)]] W fun e w' => e = .returned (.tuple #[]) ∧ T (st.1 - at0) w' ∧ QCell w' g q sa sn sc st.1 st.2 := by
  have QQ := Lib.hid hQ
  have TT := Lib.hid hT
  have OK := Lib.hid hok
  have TSL := Lib.hid tsl
  have TSET := Lib.hid tset
  have TDR := Lib.hid tdr
  have TCALL := Lib.hid tcall
  have HST := Lib.hid hst
  have HL := Lib.hid hl
  have hsn : sn ≤ 60 := by have := hok.len; omega
  have q1 := hok.q1
  have q2 := hok.q2
  have c0 := hQ.c0
  have c1 := hQ.c1
  have c2 := hQ.c2
  have c3 := hQ.c3
  have fr := hQ.fr 3
  clear hQ hT hok tsl tset tdr tcall hst hl
  by_cases hd : at0 = sn
  · have hd' : ((at0 : Int) == (sn : Int)) = true := by simp; omega
    have hst : Hid (st = (at0, s0)) := by show _ = _; rw [← HST.out, hd, ← HL.out]; exact turn1_done
    go_enter Try.func79, Try.ntmps79
    go_wp2_with fail
    go_quiet (fail)
    go_wp2_with fail
    first | go_end0 | ((try simp only [Exit.inBlock, Exit.then]); refine bodyPost_ret (results_none rfl _ _ _) rfl ?_)
    have e := hst.out
    subst e
    exact ⟨rfl, by rw [Nat.sub_self]; exact TDR.out _ _ _ TT.out, QQ.out.drewN _⟩
  · have hd' : ((at0 : Int) == (sn : Int)) = false := by simp; omega
    have hlt : at0 < sn := by omega
    go_enter Try.func79, Try.ntmps79
    go_wp2_with fail
    go_quiet (fail)
    have Q1 := Lib.hid (QQ.out.drewN nq)
    have T1 := Lib.hid (TDR.out _ _ nq TT.out)
    have k0 := Q1.out.c0
    have k3 := Q1.out.c3
    have kf := Q1.out.fr 3
    generalize W.drewN nq = W1 at Q1 T1 k0 k3 kf ⊢
    clear c0 c1 c2 c3 fr
    go_wp2_with fail
    refine wp_region_still_tail 12 (by kernel_rfl) (by kernel_rfl) ?_
    simp only [List.take_succ_cons, List.take_zero, List.drop_succ_cons, List.drop_zero]
    repeat still_step
    refine wpStill_nil ?_
    change wpList _ _ _ _ _ W1.drew
    obtain ⟨W2, hW2⟩ : ∃ W2, W1.drew = W2 := ⟨_, rfl⟩
    have Q2 : Hid (QCell W2 g q sa sn sc at0 s0) := Lib.hid (by rw [← hW2]; exact Q1.out.drew)
    have T2 : Hid (T 0 W2) := Lib.hid (by rw [← hW2]; exact TDR.out _ _ 1 T1.out)
    rw [hW2]
    clear hW2 k0 k3 kf Q1 T1
    have k3 := Q2.out.c3
    have kf := Q2.out.fr 3
    have Q3 := Lib.hid (Q2.out.set3 (s0 + q))
    have T3 := Lib.hid (TSET.out _ _ 3 (.int .i64 (s0 + q)) T2.out)
    go_wp2_with fail
    generalize W2.setCell ⟨g, 3, none⟩ (.int .i64 (s0 + q)) = W3 at Q3 T3 ⊢
    clear k3 kf Q2 T2
    go_loopg [] (sn - at0 + 1) (fun k wr => ∃ (c : Nat) (s : Int), k = sn - (at0 + c) + 1 ∧ at0 + c ≤ sn ∧ 0 ≤ s ∧ s ≤ 2000 ∧ Hid (T c wr) ∧ Hid (QCell wr g q sa sn sc (at0 + c) s) ∧ Hid (eat (l.drop at0) (s0 + q) = (c + (eat (l.drop (at0 + c)) s).1, (eat (l.drop (at0 + c)) s).2)))
    case atStart => exact ⟨0, s0 + q, rfl, hat, by omega, by omega, T3, Q3, Lib.hid (by rw [Nat.zero_add]; rfl)⟩
    case round =>
      clear Q3 T3
      obtain ⟨c, s, rfl, hc, s0', s1', hT, hQ, hE⟩ := hrel
      have k0 := hQ.out.c0
      have k1 := hQ.out.c1
      have k2 := hQ.out.c2
      have k3 := hQ.out.c3
      obtain ⟨a, ha⟩ : ∃ a, at0 + c = a := ⟨_, rfl⟩
      have HA := Lib.hid ha
      rw [ha] at k2 hc
      have hQa : Hid (QCell wr g q sa sn sc a s) := Lib.hid (by rw [← ha]; exact hQ.out)
      have hEa : Hid (eat (l.drop at0) (s0 + q) = (c + (eat (l.drop a) s).1, (eat (l.drop a) s).2)) := Lib.hid (by rw [← ha]; exact hE.out)
      have hlow : at0 ≤ a := by omega
      clear ha hQ hE
      by_cases hcs : a < sn
      · have hcs' : decide ((a : Int) < (sn : Int)) = true := decide_eq_true (by omega)
        have hcsI : (a : Int) < sn := by omega
        have a0 : (0 : Int) ≤ a := by omega
        obtain ⟨b, off, rfl, hb, cz⟩ := (TSL.out _ _ hT.out).int_at hcs
        obtain ⟨z, hz⟩ : ∃ z, gi l a = z := ⟨_, rfl⟩
        have zlo := OK.out.lo a (by rw [HL.out]; exact hcs)
        have zhi := OK.out.hi a (by rw [HL.out]; exact hcs)
        rw [hz] at cz zlo zhi
        have HZ := Lib.hid hz
        clear hz
        by_cases hzs : z ≤ s
        · have hzs' : decide (z ≤ s) = true := decide_eq_true hzs
          go_wp2_with fail
          go_quiet (fail)
          have Q1 := Lib.hid (hQa.out.drewN nq)
          have T1 := Lib.hid (TDR.out _ _ nq hT.out)
          have r1 := Q1.out.c1
          have r2 := Q1.out.c2
          have r3 := Q1.out.c3
          have rz := (TSL.out _ _ T1.out).int_cell hcs
          rw [HZ.out] at rz
          generalize wr.drewN nq = W1 at Q1 T1 r1 r2 r3 rz ⊢
          clear k0 k1 k2 k3 cz hT hQa
          go_wp2_with fail
          refine wp_region_still_tail 18 (by kernel_rfl) (by kernel_rfl) ?_
          simp only [List.take_succ_cons, List.take_zero, List.drop_succ_cons, List.drop_zero]
          repeat still_step
          refine wpStill_nil ?_
          change wpList _ _ _ _ _ W1.drew
          obtain ⟨W2, hW2⟩ : ∃ W2, W1.drew = W2 := ⟨_, rfl⟩
          have Q2 : Hid (QCell W2 g q (some ⟨b, off, none⟩) sn sc a s) := Lib.hid (by rw [← hW2]; exact Q1.out.drew)
          have T2 : Hid (T c W2) := Lib.hid (by rw [← hW2]; exact TDR.out _ _ 1 T1.out)
          rw [hW2]
          clear hW2 r1 r2 r3 rz Q1 T1
          have r3 := Q2.out.c3
          have rf := Q2.out.fr 3
          have Q3 := Lib.hid (Q2.out.set3 (s - z))
          have T3 := Lib.hid (TSET.out _ _ 3 (.int .i64 (s - z)) T2.out)
          have r2 := Q3.out.c2
          go_wp2_with fail
          generalize W2.setCell ⟨g, 3, none⟩ (.int .i64 (s - z)) = W3 at Q3 T3 r2 ⊢
          clear r3 rf Q2 T2
          go_wp2_with fail
          have tc := TCALL.out c W3 (s - z) T3.out (by rw [HA.out]; exact hcs) (by rw [HA.out]; exact Q3.out)
          rw [HA.out] at tc
          refine tc.mono ?_
          clear tc
          rintro e W4 ⟨rfl, t4, q4⟩
          have T4 := Lib.hid t4
          have Q4 := Lib.hid q4
          have v2 := q4.c2
          have vf := q4.fr 2
          clear r2 t4 q4 T3 Q3
          have Q5 : Hid (QCell (W4.setCell ⟨g, 2, none⟩ (.int .i64 ((a : Int) + 1))) g q (some ⟨b, off, none⟩) sn sc (a + 1) (s - z)) := Lib.hid (by have := Q4.out.set2 (a + 1); push_cast at this; exact this)
          have T5 := Lib.hid (TSET.out _ _ 2 (.int .i64 ((a : Int) + 1)) T4.out)
          go_wp2_with fail
          go_roundg (sn - (at0 + (c + 1)) + 1)
          case rel =>
            refine ⟨c + 1, s - z, rfl, by have := HA.out; omega, by omega, by omega, T5, Lib.hid (by rw [← Nat.add_assoc, HA.out]; exact Q5.out), Lib.hid ?_⟩
            rw [hEa.out, eat_more (by rw [HL.out]; exact hcs) (by rw [HZ.out]; exact hzs), HZ.out, ← Nat.add_assoc at0 c 1, HA.out]
            show (c + (_ + 1), _) = (c + 1 + _, _)
            rw [show ∀ m : Nat, c + (m + 1) = c + 1 + m from fun m => by omega]
          case measure => have := HA.out; omega
        · have hzs' : decide (z ≤ s) = false := decide_eq_false hzs
          have hd2 : ((a : Int) == (sn : Int)) = false := by simp; omega
          have FIN : Hid (st = (a, s)) := by
            show _ = _
            have e := hEa.out
            rw [show eat (l.drop a) s = (0, s) from eat_stop (by rw [HL.out]; exact hcs) (by rw [HZ.out]; omega)] at e
            rw [← HST.out, turn1_go (by rw [HL.out]; exact hlt) e, if_neg (by rw [HL.out]; have := HA.out; show ¬ at0 + (c + 0) = _; omega)]
            show (at0 + (c + 0), s) = _
            rw [Nat.add_zero, HA.out]
          go_wp2_with fail
          go_quiet (fail)
          go_wp2_with fail
          go_quiet (fail)
          go_wp2_with fail
          go_end0
          have e := FIN.out
          subst e
          refine ⟨rfl, ?_, ?_⟩
          · show T (a - at0) _
            rw [show a - at0 = c by have := HA.out; omega]
            exact TDR.out _ _ _ (TDR.out _ _ _ hT.out)
          · exact (hQa.out.drewN _).drewN _
      · have hae : a = sn := by omega
        subst hae
        have hcs' : decide ((a : Int) < (a : Int)) = false := decide_eq_false (by omega)
        have hd2 : ((a : Int) == (a : Int)) = true := by simp
        have FIN : Hid (st = (a, 0)) := by
          show _ = _
          have e := hEa.out
          rw [show eat (l.drop a) s = (0, s) from eat_end (by rw [HL.out]; exact Nat.le_refl _)] at e
          rw [← HST.out, turn1_go (by rw [HL.out]; exact hlt) e, if_pos (by rw [HL.out]; have := HA.out; show at0 + (c + 0) = _; omega)]
          show (at0 + (c + 0), (0 : Int)) = _
          rw [Nat.add_zero, HA.out]
        go_wp2_with fail
        go_quiet (fail)
        have Q1 := Lib.hid (hQa.out.drewN nq)
        have T1 := Lib.hid (TDR.out _ _ nq hT.out)
        have r1 := Q1.out.c1
        have r2 := Q1.out.c2
        generalize wr.drewN nq = W1 at Q1 T1 r1 r2 ⊢
        clear k0 k1 k2 k3 hT hQa
        go_wp2_with fail
        go_quiet (fail)
        have Q2 := Lib.hid (Q1.out.drewN nq)
        have T2 := Lib.hid (TDR.out _ _ nq T1.out)
        have r3 := Q2.out.c3
        have rf := Q2.out.fr 3
        generalize W1.drewN nq = W2 at Q2 T2 r3 rf ⊢
        clear r1 r2 Q1 T1
        have Q3 := Lib.hid (Q2.out.set3 0)
        have T3 := Lib.hid (TSET.out _ _ 3 (.int .i64 0) T2.out)
        go_wp2_with fail
        go_end0
        have e := FIN.out
        subst e
        refine ⟨rfl, ?_, ?_⟩
        · show T (a - at0) _
          rw [show a - at0 = c by have := HA.out; omega]
          exact T3.out
        · exact Q3.out
set_option maxRecDepth 100000 in
set_option maxHeartbeats 6400000 in
theorem turn_run (g B at0 sn : Nat) (sa : Option Addr) (sc : Nat) (q s0 : Int) (l : List Int) (x y : Nat) (T : Nat → World → Prop) (W : World)
    (hQ : QCell W g q sa sn sc at0 s0) (hT : T 0 W) (hat : at0 ≤ sn) (hl : l.length = sn) (hok : QOk q l) (h0 : 0 ≤ s0) (h1 : s0 ≤ 1000) (hBg : B ≤ g)
    (tsl : ∀ c w, T c w → Sl w B sa sn (ints l)) (tset : ∀ c w k v, T c w → T c (w.setCell ⟨g, k, none⟩ v)) (tdr : ∀ c w n, T c w → T c (w.drewN n))
    (tcall : ∀ c w s, T c w → at0 + c < sn → QCell w g q sa sn sc (at0 + c) s → Calls Try.prog 80 #[.int .i64 ((at0 + c : Nat) : Int), .pointer (some ⟨x, 0, none⟩), .pointer (some ⟨y, 0, none⟩)] w fun e w' => e = .returned (.tuple #[]) ∧ T (c + 1) w' ∧ QCell w' g q sa sn sc (at0 + c) s)
    (st : Nat × Int) (hst : turn1 q l (at0, s0) = st) :
    Calls Try.prog 79 #[.pointer (some ⟨g, 0, none⟩), .func (.func 80) #[] #[.pointer (some ⟨x, 0, none⟩), .pointer (some ⟨y, 0, none⟩)]] W fun e w' => e = .returned (.tuple #[]) ∧ T (st.1 - at0) w' ∧ QCell w' g q sa sn sc st.1 st.2 := by
  have QQ := Lib.hid hQ
  have TT := Lib.hid hT
  have OK := Lib.hid hok
  have TSL := Lib.hid tsl
  have TSET := Lib.hid tset
  have TDR := Lib.hid tdr
  have TCALL := Lib.hid tcall
  have HST := Lib.hid hst
  have HL := Lib.hid hl
  have hsn : sn ≤ 60 := by have := hok.len; omega
  have q1 := hok.q1
  have q2 := hok.q2
  have c0 := hQ.c0
  have c1 := hQ.c1
  have c2 := hQ.c2
  have c3 := hQ.c3
  have fr := hQ.fr 3
  clear hQ hT hok tsl tset tdr tcall hst hl
  by_cases hd : at0 = sn
  · have hd' : ((at0 : Int) == (sn : Int)) = true := by simp; omega
    have hst : Hid (st = (at0, s0)) := by show _ = _; rw [← HST.out, hd, ← HL.out]; exact turn1_done
    go_enter Try.func79, Try.ntmps79
    go_wp2_with fail
    go_quiet (fail)
    go_wp2_with fail
    first | go_end0 | ((try simp only [Exit.inBlock, Exit.then]); refine bodyPost_ret (results_none rfl _ _ _) rfl ?_)
    have e := hst.out
    subst e
    exact ⟨rfl, by rw [Nat.sub_self]; exact TDR.out _ _ _ TT.out, QQ.out.drewN _⟩
  · have hd' : ((at0 : Int) == (sn : Int)) = false := by simp; omega
    have hlt : at0 < sn := by omega
    go_enter Try.func79, Try.ntmps79
    go_wp2_with fail
    go_quiet (fail)
    have Q1 := Lib.hid (QQ.out.drewN nq)
    have T1 := Lib.hid (TDR.out _ _ nq TT.out)
    have k0 := Q1.out.c0
    have k3 := Q1.out.c3
    have kf := Q1.out.fr 3
    generalize W.drewN nq = W1 at Q1 T1 k0 k3 kf ⊢
    clear c0 c1 c2 c3 fr
    go_wp2_with fail
    refine wp_region_still_tail 12 (by kernel_rfl) (by kernel_rfl) ?_
    simp only [List.take_succ_cons, List.take_zero, List.drop_succ_cons, List.drop_zero]
    repeat still_step
    refine wpStill_nil ?_
    change wpList _ _ _ _ _ W1.drew
    obtain ⟨W2, hW2⟩ : ∃ W2, W1.drew = W2 := ⟨_, rfl⟩
    have Q2 : Hid (QCell W2 g q sa sn sc at0 s0) := Lib.hid (by rw [← hW2]; exact Q1.out.drew)
    have T2 : Hid (T 0 W2) := Lib.hid (by rw [← hW2]; exact TDR.out _ _ 1 T1.out)
    rw [hW2]
    clear hW2 k0 k3 kf Q1 T1
    have k3 := Q2.out.c3
    have kf := Q2.out.fr 3
    have Q3 := Lib.hid (Q2.out.set3 (s0 + q))
    have T3 := Lib.hid (TSET.out _ _ 3 (.int .i64 (s0 + q)) T2.out)
    go_wp2_with fail
    generalize W2.setCell ⟨g, 3, none⟩ (.int .i64 (s0 + q)) = W3 at Q3 T3 ⊢
    clear k3 kf Q2 T2
    go_loopg [] (sn - at0 + 1) (fun k wr => ∃ (c : Nat) (s : Int), k = sn - (at0 + c) + 1 ∧ at0 + c ≤ sn ∧ 0 ≤ s ∧ s ≤ 2000 ∧ Hid (T c wr) ∧ Hid (QCell wr g q sa sn sc (at0 + c) s) ∧ Hid (eat (l.drop at0) (s0 + q) = (c + (eat (l.drop (at0 + c)) s).1, (eat (l.drop (at0 + c)) s).2)))
    case atStart => exact ⟨0, s0 + q, rfl, hat, by omega, by omega, T3, Q3, Lib.hid (by rw [Nat.zero_add]; rfl)⟩
    case round =>
      clear Q3 T3
      obtain ⟨c, s, rfl, hc, s0', s1', hT, hQ, hE⟩ := hrel
      have k0 := hQ.out.c0
      have k1 := hQ.out.c1
      have k2 := hQ.out.c2
      have k3 := hQ.out.c3
      obtain ⟨a, ha⟩ : ∃ a, at0 + c = a := ⟨_, rfl⟩
      have HA := Lib.hid ha
      rw [ha] at k2 hc
      have hQa : Hid (QCell wr g q sa sn sc a s) := Lib.hid (by rw [← ha]; exact hQ.out)
      have hEa : Hid (eat (l.drop at0) (s0 + q) = (c + (eat (l.drop a) s).1, (eat (l.drop a) s).2)) := Lib.hid (by rw [← ha]; exact hE.out)
      have hlow : at0 ≤ a := by omega
      clear ha hQ hE
      by_cases hcs : a < sn
      · have hcs' : decide ((a : Int) < (sn : Int)) = true := decide_eq_true (by omega)
        have hcsI : (a : Int) < sn := by omega
        have a0 : (0 : Int) ≤ a := by omega
        obtain ⟨b, off, rfl, hb, cz⟩ := (TSL.out _ _ hT.out).int_at hcs
        obtain ⟨z, hz⟩ : ∃ z, gi l a = z := ⟨_, rfl⟩
        have zlo := OK.out.lo a (by rw [HL.out]; exact hcs)
        have zhi := OK.out.hi a (by rw [HL.out]; exact hcs)
        rw [hz] at cz zlo zhi
        have HZ := Lib.hid hz
        clear hz
        by_cases hzs : z ≤ s
        · have hzs' : decide (z ≤ s) = true := decide_eq_true hzs
          go_wp2_with fail
          go_quiet (fail)
          have Q1 := Lib.hid (hQa.out.drewN nq)
          have T1 := Lib.hid (TDR.out _ _ nq hT.out)
          have r1 := Q1.out.c1
          have r2 := Q1.out.c2
          have r3 := Q1.out.c3
          have rz := (TSL.out _ _ T1.out).int_cell hcs
          rw [HZ.out] at rz
          generalize wr.drewN nq = W1 at Q1 T1 r1 r2 r3 rz ⊢
          clear k0 k1 k2 k3 cz hT hQa
          go_wp2_with fail
          refine wp_region_still_tail 18 (by kernel_rfl) (by kernel_rfl) ?_
          simp only [List.take_succ_cons, List.take_zero, List.drop_succ_cons, List.drop_zero]
          repeat still_step
          refine wpStill_nil ?_
          change wpList _ _ _ _ _ W1.drew
          obtain ⟨W2, hW2⟩ : ∃ W2, W1.drew = W2 := ⟨_, rfl⟩
          have Q2 : Hid (QCell W2 g q (some ⟨b, off, none⟩) sn sc a s) := Lib.hid (by rw [← hW2]; exact Q1.out.drew)
          have T2 : Hid (T c W2) := Lib.hid (by rw [← hW2]; exact TDR.out _ _ 1 T1.out)
          rw [hW2]
          clear hW2 r1 r2 r3 rz Q1 T1
          have r3 := Q2.out.c3
          have rf := Q2.out.fr 3
          have Q3 := Lib.hid (Q2.out.set3 (s - z))
          have T3 := Lib.hid (TSET.out _ _ 3 (.int .i64 (s - z)) T2.out)
          have r2 := Q3.out.c2
          go_wp2_with fail
          generalize W2.setCell ⟨g, 3, none⟩ (.int .i64 (s - z)) = W3 at Q3 T3 r2 ⊢
          clear r3 rf Q2 T2
          go_wp2_with fail
          have tc := TCALL.out c W3 (s - z) T3.out (by rw [HA.out]; exact hcs) (by rw [HA.out]; exact Q3.out)
          rw [HA.out] at tc
          refine tc.mono ?_
          clear tc
          rintro e W4 ⟨rfl, t4, q4⟩
          have T4 := Lib.hid t4
          have Q4 := Lib.hid q4
          have v2 := q4.c2
          have vf := q4.fr 2
          clear r2 t4 q4 T3 Q3
          have Q5 : Hid (QCell (W4.setCell ⟨g, 2, none⟩ (.int .i64 ((a : Int) + 1))) g q (some ⟨b, off, none⟩) sn sc (a + 1) (s - z)) := Lib.hid (by have := Q4.out.set2 (a + 1); push_cast at this; exact this)
          have T5 := Lib.hid (TSET.out _ _ 2 (.int .i64 ((a : Int) + 1)) T4.out)
          go_wp2_with fail
          go_roundg (sn - (at0 + (c + 1)) + 1)
          case rel =>
            refine ⟨c + 1, s - z, rfl, by have := HA.out; omega, by omega, by omega, T5, Lib.hid (by rw [← Nat.add_assoc, HA.out]; exact Q5.out), Lib.hid ?_⟩
            rw [hEa.out, eat_more (by rw [HL.out]; exact hcs) (by rw [HZ.out]; exact hzs), HZ.out, ← Nat.add_assoc at0 c 1, HA.out]
            show (c + (_ + 1), _) = (c + 1 + _, _)
            rw [show ∀ m : Nat, c + (m + 1) = c + 1 + m from fun m => by omega]
          case measure => have := HA.out; omega
        · have hzs' : decide (z ≤ s) = false := decide_eq_false hzs
          have hd2 : ((a : Int) == (sn : Int)) = false := by simp; omega
          have FIN : Hid (st = (a, s)) := by
            show _ = _
            have e := hEa.out
            rw [show eat (l.drop a) s = (0, s) from eat_stop (by rw [HL.out]; exact hcs) (by rw [HZ.out]; omega)] at e
            rw [← HST.out, turn1_go (by rw [HL.out]; exact hlt) e, if_neg (by rw [HL.out]; have := HA.out; show ¬ at0 + (c + 0) = _; omega)]
            show (at0 + (c + 0), s) = _
            rw [Nat.add_zero, HA.out]
          go_wp2_with fail
          go_quiet (fail)
          go_wp2_with fail
          go_quiet (fail)
          go_wp2_with fail
          go_end0
          have e := FIN.out
          subst e
          refine ⟨rfl, ?_, ?_⟩
          · show T (a - at0) _
            rw [show a - at0 = c by have := HA.out; omega]
            exact TDR.out _ _ _ (TDR.out _ _ _ hT.out)
          · exact (hQa.out.drewN _).drewN _
      · have hae : a = sn := by omega
        subst hae
        have hcs' : decide ((a : Int) < (a : Int)) = false := decide_eq_false (by omega)
        have hd2 : ((a : Int) == (a : Int)) = true := by simp
        have FIN : Hid (st = (a, 0)) := by
          show _ = _
          have e := hEa.out
          rw [show eat (l.drop a) s = (0, s) from eat_end (by rw [HL.out]; exact Nat.le_refl _)] at e
          rw [← HST.out, turn1_go (by rw [HL.out]; exact hlt) e, if_pos (by rw [HL.out]; have := HA.out; show at0 + (c + 0) = _; omega)]
          show (at0 + (c + 0), (0 : Int)) = _
          rw [Nat.add_zero, HA.out]
        go_wp2_with fail
        go_quiet (fail)
        have Q1 := Lib.hid (hQa.out.drewN nq)
        have T1 := Lib.hid (TDR.out _ _ nq hT.out)
        have r1 := Q1.out.c1
        have r2 := Q1.out.c2
        generalize wr.drewN nq = W1 at Q1 T1 r1 r2 ⊢
        clear k0 k1 k2 k3 hT hQa
        go_wp2_with fail
        go_quiet (fail)
        have Q2 := Lib.hid (Q1.out.drewN nq)
        have T2 := Lib.hid (TDR.out _ _ nq T1.out)
        have r3 := Q2.out.c3
        have rf := Q2.out.fr 3
        generalize W1.drewN nq = W2 at Q2 T2 r3 rf ⊢
        clear r1 r2 Q1 T1
        have Q3 := Lib.hid (Q2.out.set3 0)
        have T3 := Lib.hid (TSET.out _ _ 3 (.int .i64 0) T2.out)
        go_wp2_with fail
        go_end0
        have e := FIN.out
        subst e
        refine ⟨rfl, ?_, ?_⟩
        · show T (a - at0) _
          rw [show a - at0 = c by have := HA.out; omega]
          exact T3.out
        · exact Q3.out
end Go.Proofs.Ytpifknmoimlpoaa
