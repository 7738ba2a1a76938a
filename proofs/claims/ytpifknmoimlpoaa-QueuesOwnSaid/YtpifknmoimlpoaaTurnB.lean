/- turns.After. -/
import Derived.Test.YtpifknmoimlpoaaTurnA
import Derived.Test.YtpifknmoimlpoaaOneR
set_option linter.unusedVariables false
namespace Go.Proofs.Ytpifknmoimlpoaa
open Go.RowKit
/-- The closure of turns.After, and what it reads and writes: the flow's block g, the number's block g + 2. -/
structure AT (wr w : World) (g : Nat) (sa : Option Addr) (sn sc : Nat) (v : Int) : Prop where
  bl : Below g wr w
  y1 : w.cell? ⟨g, 1, none⟩ = some (.slice sa sn sc)
  xc : w.cell? ⟨g + 2, 0, none⟩ = some (.int .i64 v)
  xf : w.frozen? ⟨g + 2, 0, none⟩ = false
  sz : g + 2 < w.heap.size
section
variable {wr w : World} {g : Nat} {sa : Option Addr} {sn sc : Nat} {v : Int}
theorem AT.drewN (h : AT wr w g sa sn sc v) (n : Nat) : AT wr (w.drewN n) g sa sn sc v := ⟨⟨h.bl.os, h.bl.tape, h.bl.output, h.bl.size, h.bl.block⟩, h.y1, h.xc, h.xf, h.sz⟩
theorem AT.setQ (h : AT wr w g sa sn sc v) (k : Nat) (u : Value) : AT wr (w.setCell ⟨g + 1, k, none⟩ u) g sa sn sc v :=
  ⟨h.bl.setCell (p := ⟨g + 1, k, none⟩) (show g ≤ g + 1 by omega) _, (World.cell?_setCell_other _ _ _ _ (by simp)).trans h.y1, (World.cell?_setCell_other _ _ _ _ (by simp)).trans h.xc, by rw [World.frozen?_setCell]; exact h.xf, by simpa using h.sz⟩
theorem AT.setN (h : AT wr w g sa sn sc v) (u : Int) : AT wr (w.setCell ⟨g + 2, 0, none⟩ (.int .i64 u)) g sa sn sc u :=
  ⟨h.bl.setCell (p := ⟨g + 2, 0, none⟩) (show g ≤ g + 2 by omega) _, (World.cell?_setCell_other _ _ _ _ (by simp)).trans h.y1, World.cell?_setCell_same _ _ _ h.xc, by rw [World.frozen?_setCell]; exact h.xf, by simpa using h.sz⟩
theorem QCell.setX {w : World} {g : Nat} {q : Int} {sa : Option Addr} {sn sc at_ : Nat} {s : Int} (h : QCell w g q sa sn sc at_ s) {x : Nat} (hx : x ≠ g) (k : Nat) (u : Value) : QCell (w.setCell ⟨x, k, none⟩ u) g q sa sn sc at_ s :=
  ⟨(World.cell?_setCell_other _ _ _ _ (by simp <;> omega)).trans h.c0, (World.cell?_setCell_other _ _ _ _ (by simp <;> omega)).trans h.c1, (World.cell?_setCell_other _ _ _ _ (by simp <;> omega)).trans h.c2, (World.cell?_setCell_other _ _ _ _ (by simp <;> omega)).trans h.c3, fun j => by rw [World.frozen?_setCell]; exact h.fr j⟩
end
set_option maxRecDepth 100000 in
theorem afterC (wr W : World) (g i sn : Nat) (sa : Option Addr) (sc : Nat) (v z : Int) (l : List Int) (h : AT wr W g sa sn sc v) (hs : Sl wr g sa sn (ints l)) (hi : i < sn) (hsn : sn ≤ 60) (hz : gi l i = z) (h0 : 0 ≤ v) (h1 : v ≤ 1000000) (h2 : 0 ≤ z) (h3 : z ≤ 1000) :
    Calls Try.prog 81 #[.int .i64 (i : Int), .pointer (some ⟨g + 2, 0, none⟩), .pointer (some ⟨g, 0, none⟩)] W fun e w' => e = .returned (.tuple #[]) ∧ w' = W.drew.setCell ⟨g + 2, 0, none⟩ (.int .i64 (v + z)) := by
  have y1 := h.y1
  have xc := h.xc
  have xf : W.drew.frozen? ⟨g + 2, 0, none⟩ = false := h.xf
  obtain ⟨b, off, rfl, hb, cz⟩ := (hs.below h.bl).int_at hi
  rw [hz] at cz
  have i0 : (0 : Int) ≤ i := by omega
  have i1 : (i : Int) < sn := by omega
  clear h hs hz
  go_enter Try.func81, Try.ntmps81
  go_wp2_with fail
  refine wp_region_still_tail 7 (by kernel_rfl) (by kernel_rfl) ?_
  simp only [List.take_succ_cons, List.take_zero, List.drop_succ_cons, List.drop_zero]
  repeat still_step
  refine wpStill_nil ?_
  change wpList _ _ _ _ _ W.drew
  go_wp2_with fail
  go_end0
  exact ⟨rfl, rfl⟩
theorem AT.start (wr : World) (qk : Int) (sa : Option Addr) (sn sc : Nat) (g : Nat) (hg : wr.heap.size = g) : AT wr (((wr.alloc (.cells #[.int .i64 qk, .slice sa sn sc] 29)).alloc (.cells #[.int .i64 qk, .slice sa sn sc, .int .i64 0, .int .i64 0] 118)).alloc (.cells #[.int .i64 0] 3)) g sa sn sc 0 ∧ QCell (((wr.alloc (.cells #[.int .i64 qk, .slice sa sn sc] 29)).alloc (.cells #[.int .i64 qk, .slice sa sn sc, .int .i64 0, .int .i64 0] 118)).alloc (.cells #[.int .i64 0] 3)) (g + 1) qk sa sn sc 0 0 := by
  subst hg
  have z1 : (wr.alloc (.cells #[.int .i64 qk, .slice sa sn sc] 29)).heap.size = wr.heap.size + 1 := by simp
  have z2 : ((wr.alloc (.cells #[.int .i64 qk, .slice sa sn sc] 29)).alloc (.cells #[.int .i64 qk, .slice sa sn sc, .int .i64 0, .int .i64 0] 118)).heap.size = wr.heap.size + 2 := by simp
  have qc : ∀ j, ((((wr.alloc (.cells #[.int .i64 qk, .slice sa sn sc] 29)).alloc (.cells #[.int .i64 qk, .slice sa sn sc, .int .i64 0, .int .i64 0] 118)).alloc (.cells #[.int .i64 0] 3))).cell? ⟨wr.heap.size + 1, j, none⟩ = #[Value.int .i64 qk, .slice sa sn sc, .int .i64 0, .int .i64 0][j]? := fun j => by
    rw [World.cell?_alloc_lt _ _ _ (by rw [z2]; show wr.heap.size + 1 < _; omega)]
    exact World.cell?_alloc_at _ _ _ _ z1.symm
  refine ⟨⟨(((Below.refl _ _).alloc (Nat.le_refl _) _).alloc (by rw [z1]; omega) _).alloc (by rw [z2]; omega) _, ?_, ?_, ?_, ?_⟩, ⟨qc 0, qc 1, qc 2, qc 3, fun j => ?_⟩⟩
  · rw [World.cell?_alloc_lt _ _ _ (by rw [z2]; show wr.heap.size < _; omega), World.cell?_alloc_lt _ _ _ (by rw [z1]; show wr.heap.size < _; omega)]
    exact World.cell?_alloc_at _ _ _ _ rfl
  · exact World.cell?_alloc_at _ _ _ _ z2.symm
  · exact World.frozen?_alloc_at _ _ _ _ z2.symm
  · simp
  · rw [World.frozen?_alloc_past _ _ _ (by rw [z2]; show wr.heap.size + 1 < _; omega)]
    exact World.frozen?_alloc_at _ _ _ _ z1.symm
theorem turns_bad (A : Option Addr) (n c : Nat) (q : Nat → Int) (hd : Nat → Option Addr × Nat × Nat) (ls : Nat → List Int) (r : Int) (W : World) (hs : FlS W W.heap.size A n q hd ls) (hnn : n ≤ 9223372036854775807) (hdb : ∀ i, i < n → (hd i).2.1 ≤ 9223372036854775807) (ck : Int) (hck : tchk n q ls = ck) (h0 : ck ≠ 0) :
    Calls Try.prog 17 #[.slice A n c, .int .i64 r] W fun e w' => e = .returned (.tuple #[.slice none 0 0, .int .i64 ck]) ∧ Below W.heap.size W w' := by
  have hne : (ck != 0) = true := by simpa using h0
  have SS := Lib.hid hs
  have DB := Lib.hid hdb
  have HK := Lib.hid hck
  clear h0 hs hck hdb
  go_enter Try.func17, Try.ntmps17
  go_wp2_with fail
  refine (tcheck_t A n c q hd ls _ SS.out hnn DB.out).mono ?_
  rintro e w1 ⟨rfl, b1⟩
  have B1 := Lib.hid b1
  rw [HK.out]
  clear b1
  go_wp2_with fail
  go_ret2
  exact ⟨rfl, B1.out⟩
set_option maxRecDepth 100000 in
set_option maxHeartbeats 6400000 in
theorem after_ok (A : Option Addr) (n c : Nat) (q : Nat → Int) (hd : Nat → Option Addr × Nat × Nat) (ls : Nat → List Int) (r : Nat) (W : World) (hs : FlS W W.heap.size A n q hd ls) (hck : tchk n q ls = 0) (hr : r ≤ 1000) :
    Calls Try.prog 17 #[.slice A n c, .int .i64 (r : Int)] W fun e w' => ∃ B cb, e = .returned (.tuple #[.slice B n cb, .int .i64 0]) ∧ Sl w' w'.heap.size B n (ints (tab n fun i => tpre (ls i) (tst (q i) (ls i) r).1)) ∧ Below W.heap.size W w' ∧ n ≤ cb := by
  obtain ⟨n8, hqo⟩ := tchk_ok hck
  have hdb : ∀ i, i < n → (hd i).2.1 ≤ 9223372036854775807 := fun i hi => by have := (hqo i hi).len; have := hs.len hi; omega
  have SS := Lib.hid hs
  have DB := Lib.hid hdb
  have HK := Lib.hid hck
  have QO := Lib.hid hqo
  have r0 : ¬ (r : Int) < 0 := by omega
  have r1 : ¬ 1000 < (r : Int) := by omega
  clear hs hck hdb hqo
  go_enter Try.func17, Try.ntmps17
  go_wp2_with fail
  refine (tcheck_t A n c q hd ls _ SS.out (by omega) DB.out).mono ?_
  rintro e w1 ⟨rfl, b1⟩
  have B1 := Lib.hid b1
  rw [HK.out]
  clear b1
  go_wp2_with fail
  go_loopw [25, 7] (fun vi vo wr => ∃ k : Nat, k ≤ n ∧ vi = .int .i64 (k : Int) ∧ Hid (wr.ownsRow W.heap.size 3 1 vo k (ints (tab k fun i => tpre (ls i) (tst (q i) (ls i) r).1))) ∧ Hid (Below W.heap.size W wr)) (fun vi _ _ => n - (intOf vi).toNat)
  case atStart => exact ⟨0, Nat.zero_le _, rfl, Lib.hid (World.ownsRow_nil _ _ _ _), B1⟩
  case round =>
    clear B1
    obtain ⟨k, hk, rfl, hO, hB⟩ := hrel
    have hz := hB.out.size
    have hk0 : (0 : Int) ≤ k := by omega
    by_cases hlt : k < n
    · have hn1 : (k : Int) < n := by omega
      obtain ⟨b, off, rfl, hbl, c0, c1⟩ := (SS.out.below hB.out).at_ hlt
      have SI := Lib.hid (((SS.out.below hB.out).inner k hlt).more hz)
      have lk := (SS.out.below hB.out).len hlt
      have OK := Lib.hid (QO.out k hlt)
      have TP := Lib.hid (tab_push k fun i => tpre (ls i) (tst (q i) (ls i) r).1)
      obtain ⟨qk, hq⟩ : ∃ x, q k = x := ⟨_, rfl⟩
      obtain ⟨⟨sa, sn, sc⟩, hsd⟩ : ∃ x, hd k = x := ⟨_, rfl⟩
      obtain ⟨l, hl⟩ : ∃ x, ls k = x := ⟨_, rfl⟩
      rw [hsd] at SI c1 lk
      rw [hl] at SI lk OK TP
      rw [hq] at c0 OK TP
      have LK := Lib.hid lk
      have hsn : sn ≤ 60 := by have := OK.out.len; rw [lk] at this; exact this
      clear hq hsd hl lk
      dsimp only at c1
      obtain ⟨g, hg⟩ : ∃ g, wr.heap.size = g := ⟨_, rfl⟩
      obtain ⟨a0, q0⟩ := AT.start wr qk sa sn sc g hg
      have A0 := Lib.hid a0
      have Q0 := Lib.hid q0
      have HG := Lib.hid hg
      rw [hg] at SI hz
      have SI' : Hid (Sl wr g sa sn (ints l)) := SI
      clear a0 q0 SI
      go_wp2_with fail
      generalize (((wr.alloc (.cells #[.int .i64 qk, .slice sa sn sc] 29)).alloc (.cells #[.int .i64 qk, .slice sa sn sc, .int .i64 0, .int .i64 0] 118)).alloc (.cells #[.int .i64 0] 3)) = w3 at A0 Q0 ⊢
      try rw [hg]
      clear c0 c1 hg
      go_loopw [33] (fun vi w => ∃ m : Nat, m ≤ r ∧ vi = .int .i64 (m : Int) ∧ Hid (AT wr w g sa sn sc (tpre l (tst qk l m).1)) ∧ Hid (QCell w (g + 1) qk sa sn sc (tst qk l m).1 (tst qk l m).2)) (fun vi _ => r - (intOf vi).toNat)
      case atStart => exact ⟨0, Nat.zero_le _, rfl, A0, Q0⟩
      case round =>
        clear A0 Q0
        obtain ⟨m, hm, rfl, hA, hQ⟩ := hrel
        have hm0 : (0 : Int) ≤ m := by omega
        have st := tst_ok OK.out m
        have sle := st.le
        have bd := tpre_bd OK.out sle
        have ss := st.s0
        by_cases hml : m < r
        · have hmI : (m : Int) < r := by omega
          have sb : (tst qk l m).2 ≤ 1000 := by
            rcases Nat.lt_or_ge (tst qk l m).1 l.length with h | h
            · have := (st.go h).1; have := OK.out.hi _ h; omega
            · have := st.fin (by omega); omega
          have up := tst_up OK.out m
          have HUP := Lib.hid up
          have NX : Hid (turn1 qk l ((tst qk l m).1, (tst qk l m).2) = tst qk l (m + 1)) := Lib.hid rfl
          obtain ⟨⟨a0, s0⟩, hst⟩ : ∃ x, tst qk l m = x := ⟨_, rfl⟩
          rw [hst] at hA hQ sle bd ss sb NX HUP
          dsimp only at sle bd ss sb
          have HST := Lib.hid hst
          clear st up hst
          go_wp2_with fail
          refine (turn_after (g + 1) g a0 sn sa sc qk s0 l (g + 2) g (fun c w => AT _ w g sa sn sc (tpre l (a0 + c))) _ hQ.out hA.out (by rw [← LK.out]; exact sle) LK.out OK.out ss sb (by omega) (fun c w h => SI'.out.below h.bl) (fun c w k v h => h.setQ k v) (fun c w n h => h.drewN n) (fun c w s h hc hq => ?_) _ NX.out).mono ?_
          · have bz := tpre_bd OK.out (a := a0 + c) (by rw [LK.out]; omega)
            have b1 := OK.out.lo (a0 + c) (by rw [LK.out]; omega)
            have b2 := OK.out.hi (a0 + c) (by rw [LK.out]; omega)
            refine (afterC _ w g (a0 + c) sn sa sc _ _ l h SI'.out hc hsn rfl bz.1 (by omega) (by omega) b2).mono ?_
            rintro e w4 ⟨rfl, rfl⟩
            exact ⟨rfl, (h.drewN 1).setN _, (hq.drew).setX (by omega) _ _⟩
          · rintro e w4 ⟨rfl, t4, q4⟩
            have T4 := Lib.hid t4
            have Q4 := Lib.hid q4
            clear t4 q4 hA hQ
            go_wp2_with fail
            go_roundw
            case rel => exact ⟨m + 1, by omega, by go_num, Lib.hid (by have := T4.out; rw [show a0 + ((tst qk l (m + 1)).1 - a0) = (tst qk l (m + 1)).1 by have := HUP.out; omega] at this; exact this), Q4⟩
            case measure => simp [intOf]; omega
        · have hmr : m = r := by omega
          subst hmr
          have hmI : ¬ (m : Int) < m := by omega
          have xc := hA.out.xc
          have BB := Lib.hid hA.out.bl
          have OO : Hid (wr.ownsRow W.heap.size 3 1 u7 k (ints (tab k fun i => tpre (ls i) (tst (q i) (ls i) m).1))) := Lib.hid (own_onR hO.out (by rw [HG.out]; exact BB.out))
          have BW : Hid (Below W.heap.size W wr) := Lib.hid (hB.out.trans (BB.out.mono hz))
          obtain ⟨x, hx⟩ : ∃ x, tpre l (tst qk l m).1 = x := ⟨_, rfl⟩
          rw [hx] at xc TP
          clear hA hQ hx sle bd ss st
          have zz : W.heap.size ≤ wr.heap.size := BW.out.size
          go_wp2_with (at_builtin; refine wpList_push rfl (.tmp 39) (.tmp 41) _ rfl elemInt W.heap.size u7 k _ _ (by rfl) (by rfl) OO.out BW.out zz rfl (by omega) ?_; intro v1 w5 hown1 hb1 hz1; have O1 := Lib.hid hown1; have B5 := Lib.hid hb1; clear hown1 hb1)
          go_roundw
          case rel => exact ⟨k + 1, by omega, by go_num, Lib.hid (by rw [← TP.out]; exact O1.out), B5⟩
          case measure => simp [intOf]; omega
    · have hkn : k = n := by omega
      subst hkn
      have hn1 : ¬ (k : Int) < k := by omega
      obtain ⟨Ao, co, rfl, hco⟩ := own_form hO.out
      go_wp2_with fail
      go_ret2
      exact ⟨Ao, co, rfl, Sl.of_own hO.out, hB.out, hco⟩
end Go.Proofs.Ytpifknmoimlpoaa
