/- turns.Run: its walk. -/
import Derived.Test.YtpifknmoimlpoaaTurnR
import Derived.Deep.LoopGhost
set_option linter.unusedVariables false
namespace Go.Proofs.Ytpifknmoimlpoaa
open Go.RowKit
section
variable {W : World} {q : Nat → Int} {hd : Nat → Option Addr × Nat × Nat} {n : Nat} {gq : Nat → Nat} {D : Nat} {vq : Value} {st : Nat → Nat × Int} {os : List (Nat × Nat)} {k gk : Nat}
/-- What the closure leaves, when it has appended and stored. -/
theorem RT.sent {w w1 : World} (h : RT W w q hd n gq D vq st k gk os) (s : PS W n gq D vq) {A A' : Option Addr} {c c' : Nat} (i : Nat) (hc : w.cell? ⟨D, 0, none⟩ = some (.slice A os.length c)) (ho : w.ownsRow (D + 1) 33 2 (.slice A os.length c) os.length (sents os)) (hn : (Value.slice A os.length c).ownBlock ≠ some gk)
    {cs : Array Value} {e : TypeId} (h1 : w1.ownsRow (D + 1) 33 2 (.slice A' (os.length + 1) c') (os.length + 1) (sents os ++ [.int .i64 (k : Int), .int .i64 (i : Int)])) (g1 : (w.alloc (.cells cs e)).grownBy w1 (Value.slice A os.length c).ownBlock) (b1 : (Value.slice A' (os.length + 1) c').ownBlock = (Value.slice A os.length c).ownBlock ∨ (Value.slice A' (os.length + 1) c').ownBlock = some (w.heap.size + 1)) :
    w1.cell? ⟨D, 0, none⟩ = some (.slice A os.length c) ∧ w1.frozen? ⟨D, 0, none⟩ = false ∧ RT W (w1.setCell ⟨D, 0, none⟩ (.slice A' (os.length + 1) c')) q hd n gq D vq st k gk (os ++ [(k, i)]) ∧ ∀ g, g < D → (w1.setCell ⟨D, 0, none⟩ (.slice A' (os.length + 1) c')).heap[g]? = w.heap[g]? := by
  have dl : D < w.heap.size := World.block_lt_of_cell? w _ hc
  have gl : gk < w.heap.size := World.block_lt_of_cell? w _ h.kc
  have dk := h.dk
  have vD : ∀ g, g ≤ D → (Value.slice A os.length c).ownBlock ≠ some g := fun g hg e => by have := (ho.lt _ e).1; omega
  have keep : ∀ g, g < w.heap.size → (Value.slice A os.length c).ownBlock ≠ some g → w1.heap[g]? = w.heap[g]? := fun g hg hne => by
    rw [g1.block g (by simp; omega) (fun e => hne e.symm), heap_alloc_same _ _ hg]
  have c1 : w1.cell? ⟨D, 0, none⟩ = some (.slice A os.length c) := (World.cell?_of_block (keep D dl (vD D (Nat.le_refl _)))).trans hc
  have f1 : w1.frozen? ⟨D, 0, none⟩ = false := (World.frozen?_of_block (keep D dl (vD D (Nat.le_refl _)))).trans h.of
  have old : ∀ g, g < D → (w1.setCell ⟨D, 0, none⟩ (.slice A' (os.length + 1) c')).heap[g]? = w.heap[g]? := fun g hg => by
    rw [Below.heap_setCell _ _ _ g (by show g ≠ D; omega)]
    exact keep g (by omega) (vD g (by omega))
  refine ⟨c1, f1, ⟨?_, fun i hi e => (h.qc i hi e).same (old _ (s.lo i hi).2), ?_, ⟨A', c', ?_, ?_, fun e => ?_⟩, by rw [World.frozen?_setCell]; exact f1, ?_, dk⟩, old⟩
  · exact ((h.bl.alloc h.bl.size _).grown g1 (by have := h.bl.size; simp; omega) (fun b hb => by have := (ho.lt b hb).1; have := s.hD; omega)).setCell (p := ⟨D, 0, none⟩) s.hD _
  · refine own_set ((h.row.alloc _).kept g1 ?_) (fun e => by have := s.rd _ e; omega) _ _
    rcases hv : vq.ownBlock with _ | b
    · exact .inl rfl
    · exact .inr fun e => by have := s.rd _ hv; exact vD b (by omega) e.symm
  · rw [List.length_append]
    exact World.cell?_setCell_same _ _ _ c1
  · rw [List.length_append, sents_app]
    exact own_set h1 (fun e => by have := (h1.lt _ e).1; omega) _ _
  · have e' : (Value.slice A' (os.length + 1) c').ownBlock = some gk := by rw [List.length_append] at e; exact e
    rcases b1 with b1 | b1
    · rw [b1] at e'; exact hn e'
    · rw [b1] at e'
      injection e' with e'
      omega
  · exact (World.cell?_setCell_other _ _ _ _ (by intro e; injection e with e1; omega)).trans ((World.cell?_of_block (keep gk gl hn)).trans h.kc)
theorem runC {w : World} (h : RT W w q hd n gq D vq st k gk os) (s : PS W n gq D vq) (i : Nat) (hl : os.length ≤ 2000) :
    Calls Try.prog 80 #[.int .i64 (i : Int), .pointer (some ⟨D, 0, none⟩), .pointer (some ⟨gk, 0, none⟩)] w fun e w' => e = .returned (.tuple #[]) ∧ RT W w' q hd n gq D vq st k gk (os ++ [(k, i)]) ∧ ∀ g, g < D → w'.heap[g]? = w.heap[g]? := by
  have H := Lib.hid h
  have S := Lib.hid s
  obtain ⟨A, c, hc, ho, hn⟩ := h.out
  have kc := h.kc
  have of := h.of
  have HC := Lib.hid hc
  have HO := Lib.hid ho
  have HN := Lib.hid hn
  have dl : D < w.heap.size := World.block_lt_of_cell? w _ hc
  obtain ⟨m, hm⟩ : ∃ m, os.length = m := ⟨_, rfl⟩
  have HM := Lib.hid hm
  rw [hm] at hc hl
  have HO' : Hid (w.ownsRow (D + 1) 33 2 (.slice A m c) m (sents os)) := Lib.hid (by have := ho; rw [hm] at this; exact this)
  clear h s ho hn hm
  go_enter Try.func80, Try.ntmps80
  go_wp2_with (at_builtin; refine wpList_pushG rfl (.tmp 4) (.tmp 8) _ rfl elemSent _ (by first | rfl | simp) (D + 1) (.slice A m c) m (sents os) [.int .i64 (k : Int), .int .i64 (i : Int)] rfl (by intro u hu; simp at hu; rcases hu with rfl | rfl <;> rfl) (by rfl) (by rfl) HO'.out (by omega) (by unfold maxLen; omega) (by omega) ?_; intro v' w1 o1 g1 b1; obtain ⟨A', c', rfl, hc'⟩ := own_form o1; rw [← HM.out] at o1 g1 b1; obtain ⟨k1, k2, k3, k4⟩ := H.out.sent S.out i HC.out HO.out HN.out o1 g1 b1; have K3 := Lib.hid k3; have K4 := Lib.hid k4; clear k3 k4 o1 g1 b1)
  go_end0
  exact ⟨rfl, by have := K3.out; rw [HM.out] at this; exact this, by have := K4.out; rw [HM.out] at this; exact this⟩
end
theorem run_bad (A : Option Addr) (n c : Nat) (q : Nat → Int) (hd : Nat → Option Addr × Nat × Nat) (ls : Nat → List Int) (W : World) (hs : FlS W W.heap.size A n q hd ls) (hnn : n ≤ 9223372036854775807) (hdb : ∀ i, i < n → (hd i).2.1 ≤ 9223372036854775807) (ck : Int) (hck : tchk n q ls = ck) (h0 : ck ≠ 0) :
    Calls Try.prog 13 #[.slice A n c] W fun e w' => e = .returned (.tuple #[.slice none 0 0, .int .i64 ck]) ∧ Below W.heap.size W w' := by
  have hne : (ck != 0) = true := by simpa using h0
  have SS := Lib.hid hs
  have DB := Lib.hid hdb
  have HK := Lib.hid hck
  clear h0 hs hck hdb
  go_enter Try.func13, Try.ntmps13
  go_wp2_with fail
  refine (tcheck_t A n c q hd ls _ SS.out hnn DB.out).mono ?_
  rintro e w1 ⟨rfl, b1⟩
  have B1 := Lib.hid b1
  rw [HK.out]
  clear b1
  go_wp2_with fail
  go_ret2
  exact ⟨rfl, B1.out⟩
set_option maxRecDepth 100000 in
set_option maxHeartbeats 6400000 in
theorem run_ok (A : Option Addr) (n c : Nat) (q : Nat → Int) (hd : Nat → Option Addr × Nat × Nat) (ls : Nat → List Int) (W : World) (hs : FlS W W.heap.size A n q hd ls) (hck : tchk n q ls = 0) :
    Calls Try.prog 13 #[.slice A n c] W fun e w' => ∃ B cb os, e = .returned (.tuple #[.slice B os.length cb, .int .i64 0]) ∧ ROut q ls n os ∧ w'.ownsRow W.heap.size 33 2 (.slice B os.length cb) os.length (sents os) ∧ Below W.heap.size W w' := by
  obtain ⟨n8, hqo⟩ := tchk_ok hck
  have hdb : ∀ i, i < n → (hd i).2.1 ≤ 9223372036854775807 := fun i hi => by have := (hqo i hi).len; have := hs.len hi; omega
  have SS := Lib.hid hs
  have DB := Lib.hid hdb
  have HK := Lib.hid hck
  have QO := Lib.hid hqo
  clear hs hck hdb hqo
  go_enter Try.func13, Try.ntmps13
  go_wp2_with fail
  refine (tcheck_t A n c q hd ls _ SS.out (by omega) DB.out).mono ?_
  rintro e w1 ⟨rfl, b1⟩
  have B1 := Lib.hid (P1.start (q := q) (hd := hd) b1)
  rw [HK.out]
  clear b1
  go_wp2_with fail
  go_loopw [19, 5, 6] (fun vi vq vl wr => ∃ (k : Nat) (gq : Nat → Nat), k ≤ n ∧ vi = .int .i64 (k : Int) ∧ vl = .int .i64 ((lenTo ls k : Nat) : Int) ∧ Hid (P1 W wr q hd k k gq vq)) (fun vi _ _ _ => n - (intOf vi).toNat)
  case atStart => exact ⟨0, _, Nat.zero_le _, rfl, rfl, B1⟩
  case round =>
    clear B1
    obtain ⟨k, gq, hk, rfl, rfl, hP⟩ := hrel
    have hk0 : (0 : Int) ≤ k := by omega
    have ll := lenTo_le QO.out k hk
    by_cases hlt : k < n
    · have hn1 : (k : Int) < n := by omega
      obtain ⟨b, off, rfl, hbl, c0, c1⟩ := (SS.out.below hP.out.bl).at_ hlt
      have PB := Lib.hid hP.out.box
      have hz := hP.out.bl.size
      have lk : Hid (lenTo ls (k + 1) = lenTo ls k + (hd k).2.1) := Lib.hid (by show lenTo ls k + (ls k).length = _; rw [SS.out.len hlt])
      have l60 : (hd k).2.1 ≤ 60 := by have := (QO.out k hlt).len; rw [SS.out.len hlt] at this; exact this
      obtain ⟨L, hL⟩ : ∃ L, lenTo ls k = L := ⟨_, rfl⟩
      rw [hL] at ll lk ⊢
      obtain ⟨qk, hq⟩ : ∃ x, q k = x := ⟨_, rfl⟩
      obtain ⟨sa, hsa⟩ : ∃ x, (hd k).1 = x := ⟨_, rfl⟩
      obtain ⟨sn, hsn⟩ : ∃ x, (hd k).2.1 = x := ⟨_, rfl⟩
      obtain ⟨sc, hsc⟩ : ∃ x, (hd k).2.2 = x := ⟨_, rfl⟩
      have PB' := PB.out
      rw [hq, hsa, hsn, hsc] at PB'
      have PBH := Lib.hid PB'
      rw [hq] at c0
      rw [hsa, hsn, hsc] at c1
      rw [hsn] at lk l60
      clear hL hq hsa hsn hsc PB PB'
      have HW := Lib.hid (And.intro hz (Below.refl wr.heap.size wr))
      obtain ⟨g, hg⟩ : ∃ g, wr.heap.size = g := ⟨_, rfl⟩
      have HG := Lib.hid hg
      have z2 : ((wr.alloc (.cells #[.int .i64 qk, .slice sa sn sc] 29)).alloc (.cells #[.int .i64 qk, .slice sa sn sc, .int .i64 0, .int .i64 0] 118)).heap.size = g + 2 := by simp [hg]
      have FC : Hid (((wr.alloc (.cells #[.int .i64 qk, .slice sa sn sc] 29)).alloc (.cells #[.int .i64 qk, .slice sa sn sc, .int .i64 0, .int .i64 0] 118)).cell? ⟨g, 1, none⟩ = some (.slice sa sn sc)) := Lib.hid (by
        rw [World.cell?_alloc_lt _ _ _ (show g < _ by simp [hg])]
        subst hg
        exact World.cell?_alloc_at _ _ _ _ rfl)
      have FB : Hid (∀ e, u5.ownBlock = some e → e < g) := Lib.hid (fun e he => by rw [← hg]; exact (hP.out.row.lt e he).2)
      rw [hg] at PBH
      have hzW : W.heap.size ≤ g := by omega
      clear hP
      obtain ⟨w2, hw2⟩ : ∃ w2, ((wr.alloc (.cells #[.int .i64 qk, .slice sa sn sc] 29)).alloc (.cells #[.int .i64 qk, .slice sa sn sc, .int .i64 0, .int .i64 0] 118)) = w2 := ⟨_, rfl⟩
      have HW2 := Lib.hid hw2
      rw [hw2] at z2 FC PBH
      clear hw2
      go_wp2_with (at_builtin; (try rw [hg]); rw [HW2.out]; refine wpList_pushQ rfl (.tmp 23) (.tmp 27) rfl PBH.out (g + 1) (g + 2) (if_pos rfl) z2.symm (by rfl) (by rfl) (by omega) ?_; intro v' w3 p3 k3; have P3 := Lib.hid p3; have f1 : w3.cell? ⟨g, 1, none⟩ = some (.slice sa sn sc) := k3 _ _ FC.out (fun b hb e => by have := FB.out b hb; have e' : g = b := e; omega); clear p3 k3)
      go_roundw
      case rel => exact ⟨k + 1, _, by omega, by go_num, by rw [lk.out]; push_cast; rfl, P3⟩
      case measure => simp [intOf]; omega
    · have hkn : k = n := by omega
      subst hkn
      have hn1 : ¬ (k : Int) < k := by omega
      obtain ⟨ps, rs⟩ := hP.out.run
      have PS0 := Lib.hid ps
      have RS0 := Lib.hid rs
      obtain ⟨D, hD⟩ : ∃ D, wr.heap.size = D := ⟨_, rfl⟩
      rw [hD] at PS0 RS0
      have l480 := lenTo_le QO.out k (Nat.le_refl _)
      clear ps rs hP
      obtain ⟨Aq, cq, rfl, hcq⟩ := own_form RS0.out.row
      obtain ⟨L, hL⟩ : ∃ L, lenTo ls k = L := ⟨_, rfl⟩
      have HL := Lib.hid hL
      rw [hL] at l480 ⊢
      clear hL
      go_wp2_with fail
      try rw [hD]
      generalize wr.alloc (.cells #[.slice none 0 0] 23) = w4 at RS0 ⊢
      clear hD
      go_loopg [] 60001 (fun gh w => ∃ m : Nat, gh = 60001 - m ∧ m ≤ 60000 ∧ Hid (RS W w q hd k gq D (.slice Aq k cq) (fun i => tst (q i) (ls i) m) (outM q ls k m)) ∧ Hid (∀ m', m' < m → (outM q ls k m').length < L))
      case atStart => exact ⟨0, rfl, by omega, RS0, Lib.hid fun m' h => absurd h (by omega)⟩
      case round =>
        clear RS0
        obtain ⟨m, rfl, hm, hR, hM⟩ := hrel
        obtain ⟨Ao, co, hc, ho⟩ := hR.out.out
        have HO := Lib.hid ho
        obtain ⟨N, hN⟩ : ∃ N, (outM q ls k m).length = N := ⟨_, rfl⟩
        rw [hN] at hc
        have HN := Lib.hid hN
        clear ho hN
        by_cases hlt : N < L
        · have hnI : (N : Int) < L := by omega
          have m6 : m < 60000 := by
            have e := outM_len QO.out m
            obtain ⟨i, hi, hl⟩ := some_left QO.out m k (Nat.le_refl _) (by rw [← e, HN.out, HL.out]; exact hlt)
            exact tst_few (QO.out i hi) hl
          have HLT := Lib.hid hlt
          go_wp2_with fail
          clear hc hlt
          go_loopw [41] (fun vi w => ∃ j : Nat, j ≤ k ∧ vi = .int .i64 (j : Int) ∧ Hid (RS W w q hd k gq D (.slice Aq k cq) (fun i => if i < j then tst (q i) (ls i) (m + 1) else tst (q i) (ls i) m) (outM q ls k m ++ toldTo q ls m j))) (fun vi _ => k - (intOf vi).toNat)
          case atStart => exact ⟨0, Nat.zero_le _, rfl, Lib.hid (by have := hR.out; simpa [toldTo] using this)⟩
          case round =>
            clear hR HO
            obtain ⟨j, hj, rfl, hR⟩ := hrel
            have hj0 : (0 : Int) ≤ j := by omega
            by_cases hjl : j < k
            · have hjI : (j : Int) < k := by omega
              obtain ⟨rt, qt⟩ := hR.out.take PS0.out hjl
              have RT0 := Lib.hid rt
              have QT0 : Hid (QCell (wr.alloc (.cells #[.int .i64 (j : Int)] 3)) (gq j) (q j) (hd j).1 (hd j).2.1 (hd j).2.2 (tst (q j) (ls j) m).1 (tst (q j) (ls j) m).2) := Lib.hid (by
                have := qt
                simp only [if_neg (Nat.lt_irrefl j)] at this
                exact this)
              obtain ⟨bq, oq, rfl, hbq, cqj⟩ := (Sl.of_own hR.out.row).at_ hjl (ptrs_get gq hjl)
              obtain ⟨gk, hgk⟩ : ∃ g, wr.heap.size = g := ⟨_, rfl⟩
              rw [hgk] at RT0
              have OK := Lib.hid (QO.out j hjl)
              have st := tst_ok OK.out m
              have ss := st.s0
              have sb : (tst (q j) (ls j) m).2 ≤ 1000 := by
                rcases Nat.lt_or_ge (tst (q j) (ls j) m).1 (ls j).length with h | h
                · have := (st.go h).1; have := OK.out.hi _ h; omega
                · have := st.fin (by have := st.le; omega); omega
              have lb : Hid ((outM q ls k m ++ toldTo q ls m j).length ≤ 960) := Lib.hid (by
                have e1 := outM_len QO.out m
                have e2 := toldTo_len QO.out m j hj
                have e3 := atSum_le QO.out m k (Nat.le_refl _)
                have e4 := atSum_le QO.out (m + 1) j hj
                have e5 := lenTo_le QO.out j hj
                have e6 := HL.out
                rw [List.length_append]
                omega)
              have SLE := Lib.hid st.le
              have UP := Lib.hid (tst_up OK.out m)
              have SSH := Lib.hid (And.intro ss sb)
              clear rt qt st ss sb
              go_wp2_with fail
              try rw [hgk]
              clear cqj hgk
              refine (turn_run (gq j) W.heap.size (tst (q j) (ls j) m).1 (hd j).2.1 (hd j).1 (hd j).2.2 (q j) (tst (q j) (ls j) m).2 (ls j) D gk (fun c w => RT W w q hd k gq D (.slice (some ⟨bq, oq, none⟩) k cq) (fun i => if i < j then tst (q i) (ls i) (m + 1) else tst (q i) (ls i) m) j gk ((outM q ls k m ++ toldTo q ls m j) ++ (List.range c).map fun d => (j, (tst (q j) (ls j) m).1 + d))) _ QT0.out (by simpa using RT0.out) (by rw [← SS.out.len hjl]; exact SLE.out) (SS.out.len hjl) OK.out SSH.out.1 SSH.out.2 (PS0.out.lo j hjl).1 (fun c w h => (SS.out.inner j hjl).below h.bl) (fun c w i v h => h.setQ PS0.out hjl i v) (fun c w n h => h.drewN n) (fun c w s h hc hq => ?_) (tst (q j) (ls j) (m + 1)) rfl).mono ?_
              · have c60 : c ≤ 60 := by have := OK.out.len; have := SS.out.len hjl; omega
                refine (runC h PS0.out ((tst (q j) (ls j) m).1 + c) (by have := lb.out; rw [List.length_append, List.length_map, List.length_range]; omega)).mono ?_
                rintro e w5 ⟨rfl, r5, o5⟩
                refine ⟨rfl, ?_, hq.same (o5 _ (PS0.out.lo j hjl).2)⟩
                rw [List.range_succ, List.map_append, ← List.append_assoc]
                exact r5
              · rintro e w5 ⟨rfl, t5, q5⟩
                have R5 := Lib.hid (t5.give (s := tst (q j) (ls j) (m + 1)) q5 (st' := fun i => if i < j + 1 then tst (q i) (ls i) (m + 1) else tst (q i) (ls i) m) (fun i hi => by
                  show (if i < j + 1 then _ else _) = if i = j then _ else if i < j then _ else _
                  by_cases e : i = j
                  · rw [if_pos (by omega), if_pos e, e]
                  · rw [if_neg e]
                    by_cases e2 : i < j
                    · rw [if_pos (by omega), if_pos e2]
                    · rw [if_neg (by omega), if_neg e2]))
                clear t5 q5
                go_wp2_with fail
                go_roundw
                case rel => exact ⟨j + 1, by omega, by go_num, Lib.hid (by have := R5.out; rw [List.append_assoc] at this; exact this)⟩
                case measure => simp [intOf]; omega
            · have hjk : j = k := by omega
              subst hjk
              have hjI : ¬ (j : Int) < j := by omega
              go_wp2_with fail
              go_roundg (60001 - (m + 1))
              case rel =>
                refine ⟨m + 1, rfl, by omega, Lib.hid (hR.out.congr fun i hi => if_pos hi), Lib.hid fun m' h => ?_⟩
                rcases Nat.lt_or_ge m' m with h1 | h1
                · exact hM.out m' h1
                · have : m' = m := by omega
                  rw [this, HN.out]
                  exact HLT.out
              case measure => omega
        · have hnI : ¬ (N : Int) < L := by omega
          have FIN : Hid (ROut q ls k (outM q ls k m)) := Lib.hid ⟨QO.out, by
            have e1 := outM_len QO.out m
            have e3 := atSum_le QO.out m k (Nat.le_refl _)
            have := HN.out
            have := HL.out
            omega, m, rfl, by rw [HL.out]; exact hM.out⟩
          have OW := Lib.hid (own_lower HO.out (base' := W.heap.size) (by have := PS0.out.hD; omega))
          have BL := Lib.hid hR.out.bl
          go_wp2_with fail
          go_ret2
          exact ⟨Ao, co, outM q ls k m, by rw [HN.out]; rfl, FIN.out, OW.out, BL.out⟩
end Go.Proofs.Ytpifknmoimlpoaa
