/- fair.Run: its rows, its checks, and which of two tags is less. -/
import Derived.Test.YtpifknmoimlpoaaFairP
import Derived.Test.YtpifknmoimlpoaaDelInt
import Derived.Test.YtpifknmoimlpoaaOneR
set_option linter.unusedVariables false
namespace Go.Proofs.Ytpifknmoimlpoaa
open Go.RowKit
def onat (os : List Nat) : List Int := os.map fun i : Nat => (i : Int)
theorem onat_len (os : List Nat) : (onat os).length = os.length := by simp [onat]
theorem onat_push (os : List Nat) (i : Nat) : onat (os ++ [i]) = onat os ++ [(i : Int)] := by simp [onat]
def tg (ts : List (Int × Nat)) (q : Nat) : Int × Nat := ts.getD q (0, 0)
theorem tg_get {ts : List (Int × Nat)} {q : Nat} (h : q < ts.length) : ts[q]? = some (tg ts q) := by
  unfold tg
  rw [List.getD_eq_getElem?_getD, List.getElem?_eq_getElem h]
  rfl
theorem tg_mem {ts : List (Int × Nat)} {t : Int × Nat} (h : t ∈ ts) : ∃ q, q < ts.length ∧ tg ts q = t := by
  obtain ⟨q, hq⟩ := List.getElem?_of_mem h
  have hl := (List.getElem?_eq_some_iff.1 hq).1
  refine ⟨q, hl, ?_⟩
  have := tg_get hl
  rw [hq] at this
  injection this with this
  exact this.symm
theorem tg_split {ts : List (Int × Nat)} {q : Nat} (h : q < ts.length) : ts = ts.take q ++ tg ts q :: ts.drop (q + 1) := by
  have e := tg_get h
  rw [List.getElem?_eq_getElem h] at e
  injection e with e
  rw [← e, ← List.drop_eq_getElem_cons h, List.take_append_drop]
theorem elemTag : Elem Try.prog 134 136 (.agg #[.int .i64 0, .int .i64 0]) 2 16 := by
  obtain ⟨i, h1, h2, h3, h4⟩ := info_parts (P := Try.prog) (e := 136) (z := .agg #[.int .i64 0, .int .i64 0]) (size := 2) (bytes := 16) (by kernel_rfl)
  exact ⟨Try.underlying134, ⟨i, h1, h2, h3, h4⟩, rfl, by decide, by decide⟩
/-- The table of ends, the tags that wait and the order, in blocks of the call's own from g on. -/
structure FRow (W wr : World) (g : Nat) (E : Nat → Int) (vw : Value) (ts : List (Int × Nat)) (vo : Value) (os : List Nat) : Prop where
  a : wr.ownsRow g 133 1 (.slice (some ⟨g, 0, none⟩) 8 8) 8 (ints (tab 8 E))
  w : wr.ownsRow (g + 1) 136 2 vw ts.length (ints (fl2 ts))
  o : wr.ownsRow (g + 1) 3 1 vo os.length (ints (onat os))
  ap : Apart vw vo
  bl : Below W.heap.size W wr
  lo : W.heap.size ≤ g
  hi : g < wr.heap.size
section
variable {W wr : World} {g : Nat} {E : Nat → Int} {vw : Value} {ts : List (Int × Nat)} {vo : Value} {os : List Nat}
theorem FRow.on {w' : World} (h : FRow W wr g E vw ts vo os) (hb : Below wr.heap.size wr w') : FRow W w' g E vw ts vo os :=
  ⟨own_onR h.a hb, own_onR h.w hb, own_onR h.o hb, h.ap, h.bl.trans (hb.mono h.bl.size), h.lo, Nat.lt_of_lt_of_le h.hi hb.size⟩
theorem FRow.alloc (h : FRow W wr g E vw ts vo os) (x : Obj) : FRow W (wr.alloc x) g E vw ts vo os := h.on ((Below.refl _ _).alloc (Nat.le_refl _) _)
theorem FRow.drew (h : FRow W wr g E vw ts vo os) : FRow W wr.drew g E vw ts vo os := h.on (Below.refl _ _).drew
theorem FRow.cellE (h : FRow W wr g E vw ts vo os) {f : Nat} (hf : f < 8) : wr.cell? ⟨g, f, none⟩ = some (.int .i64 (E f)) ∧ wr.frozen? ⟨g, f, none⟩ = false := by
  have := h.a.cellAt f (by omega)
  rw [ints_get (by rw [tab_len]; exact hf), tab_get _ hf] at this
  exact ⟨this, h.a.frozenAt f⟩
theorem FRow.setE (h : FRow W wr g E vw ts vo os) {f : Nat} (hf : f < 8) (x : Int) : FRow W (wr.setCell ⟨g, f, none⟩ (.int .i64 x)) g (fun k => if k = f then x else E k) vw ts vo os := by
  have a := (h.a.stored f (.int .i64 x)).1
  rw [ints_set, tab_set _ _ _ hf] at a
  exact ⟨a, ownsRow_setCell_below h.w (a := ⟨g, f, none⟩) (by show g < g + 1; omega) _, ownsRow_setCell_below h.o (a := ⟨g, f, none⟩) (by show g < g + 1; omega) _, h.ap, h.bl.setCell (p := ⟨g, f, none⟩) h.lo _, h.lo, by simpa using h.hi⟩
theorem FRow.cellT {gw n cap : Nat} (h : FRow W wr g E (.slice (some ⟨gw, 0, none⟩) n cap) ts vo os) {q : Nat} (hq : q < ts.length) : wr.cell? ⟨gw, q * 2, none⟩ = some (.int .i64 (tg ts q).1) ∧ wr.cell? ⟨gw, q * 2 + 1, none⟩ = some (.int .i64 ((tg ts q).2 : Int)) := by
  have hn : n = ts.length := by
    rcases h.w.2 with ⟨e, _⟩ | ⟨g', c', cur, e, _⟩
    · cases e
    · injection e
  subst hn
  obtain ⟨e1, e2⟩ := fl2_get (tg_get hq)
  have l := fl2_len ts
  have c0 := h.w.cellAt (q * 2) (by omega)
  have c1 := h.w.cellAt (q * 2 + 1) (by omega)
  rw [ints_get (by omega), e1] at c0
  rw [ints_get (by omega), e2] at c1
  exact ⟨c0, c1⟩
theorem ne_block {v : Value} {n sz : Nat} {e : TypeId} {xs : List Value} (h : wr.ownsRow (g + 1) e sz v n xs) : (Value.slice (some ⟨g, 0, none⟩) 8 8).ownBlock = none ∨ (Value.slice (some ⟨g, 0, none⟩) 8 8).ownBlock ≠ v.ownBlock := by
  refine .inr fun e => ?_
  have := (h.lt g e.symm).1
  omega
end
/-- A tag is put behind those that wait. -/
theorem wpList_pushT {W wr : World} {ops : Array Oper} {rest : List Oper} {o : Oper} {a : Act} {Q : Exit → Act → World → Prop} (hgd : o.guard = none) (s x : Operand)
    (ho : o.op = .call { callee := .builtin .append, args := #[s, x], argTypes := #[134, 134] })
    {g : Nat} {E : Nat → Int} {vw : Value} {ts : List (Int × Nat)} {vo : Value} {os : List Nat} (H : FRow W wr g E vw ts vo os) (g0 : Nat) (hg0 : g0 = wr.heap.size) (hs : a.eval s = vw) (hx : a.eval x = .slice (some ⟨g0, 0, none⟩) 1 1) (st : Int) (i : Nat) (hn : ts.length ≤ 1000)
    (h : ∀ v' w1, FRow W w1 g E v' (ts ++ [(st, i)]) vo os → wpList Try.prog ops Q rest (a.put o.dst v') w1) :
    wpList Try.prog ops Q (o :: rest) a (wr.alloc (.cells #[.int .i64 st, .int .i64 i] 136)) := by
  subst hg0
  obtain ⟨ii, h1, h2, h3, h4⟩ := elemTag.info
  refine wpList_plain hgd fun K hK => ?_
  obtain ⟨v', w1, hrun, k1, k2, _, k4⟩ := run_append_own_at (P := Try.prog) (wr.alloc (.cells #[.int .i64 st, .int .i64 i] 136)) (g + 1) 134 o.type 136 ii (.agg #[.int .i64 0, .int .i64 0]) 2 16 elemTag.under h1 h2 h3 h4 elemTag.cells (by decide) vw ts.length _ (H.w.alloc _)
    ⟨wr.heap.size, 0, none⟩ 1 1 [.int .i64 st, .int .i64 i] rfl (by
      intro j y hj
      match j, hj with
      | 0, hj =>
        simp at hj
        subst hj
        rw [Addr.add_lit, World.cell?_alloc_at _ _ _ _ rfl]
        rfl
      | 1, hj =>
        simp at hj
        subst hj
        rw [Addr.add_lit, World.cell?_alloc_at _ _ _ _ rfl]
        rfl) (by
      intro y hy
      simp at hy
      rcases hy with rfl | rfl <;> rfl) (by unfold maxLen; omega) (by omega) (by have := H.hi; simp; omega)
  unfold Oper.wp
  simp [execOp, ho, resolve, invoke, builtin, hs, hx, hrun, Result.andThen]
  have hz := k2.size
  have hhi := H.hi
  have hlo := H.lo
  simp at hz
  have e : ints (fl2 ts) ++ [.int .i64 st, .int .i64 (i : Int)] = ints (fl2 (ts ++ [(st, i)])) := by rw [fl2_app, ← ints_app]; rfl
  rw [e] at k1
  refine hK _ _ (h v' w1 ⟨(H.a.alloc _).kept k2 (ne_block H.w), by rw [List.length_append]; exact k1, (H.o.alloc _).kept k2 ?_, ?_, (H.bl.alloc H.bl.size _).grown k2 (by have := H.bl.size; simp; omega) (fun k hk => by have := (H.w.lt k hk).1; omega), hlo, by omega⟩)
  · rcases hv2 : vo.ownBlock with _ | k
    · exact .inl rfl
    · exact .inr fun e => H.ap k e.symm hv2
  · intro k hk hk2
    rcases k4 with k4 | k4
    · exact H.ap k (k4 ▸ hk) hk2
    · have := (H.o.lt k hk2).2
      rw [k4] at hk
      injection hk with hk
      simp at hk
      omega
/-- A number is put behind the order. -/
theorem wpList_pushO {W wr : World} {ops : Array Oper} {rest : List Oper} {o : Oper} {a : Act} {Q : Exit → Act → World → Prop} (hgd : o.guard = none) (s x : Operand)
    (ho : o.op = .call { callee := .builtin .append, args := #[s, x], argTypes := #[27, 27] })
    {g : Nat} {E : Nat → Int} {vw : Value} {ts : List (Int × Nat)} {vo : Value} {os : List Nat} (H : FRow W wr g E vw ts vo os) (g0 : Nat) (hg0 : g0 = wr.heap.size) (hs : a.eval s = vo) (hx : a.eval x = .slice (some ⟨g0, 0, none⟩) 1 1) (i : Nat) (hn : os.length ≤ 1000)
    (h : ∀ v' w1, FRow W w1 g E vw ts v' (os ++ [i]) → (∀ p : Addr, ∀ u, wr.cell? p = some u → (∀ k, vo.ownBlock = some k → p.block ≠ k) → w1.cell? p = some u) → wpList Try.prog ops Q rest (a.put o.dst v') w1) :
    wpList Try.prog ops Q (o :: rest) a (wr.alloc (.cells #[.int .i64 i] 3)) := by
  subst hg0
  obtain ⟨ii, h1, h2, h3, h4⟩ := elemInt.info
  refine wpList_plain hgd fun K hK => ?_
  obtain ⟨v', w1, hrun, k1, k2, _, k4⟩ := run_append_own_at (P := Try.prog) (wr.alloc (.cells #[.int .i64 i] 3)) (g + 1) 27 o.type 3 ii (.int .i64 0) 1 8 elemInt.under h1 h2 h3 h4 elemInt.cells (by decide) vo os.length _ (H.o.alloc _)
    ⟨wr.heap.size, 0, none⟩ 1 1 [.int .i64 i] rfl (by
      intro j y hj
      match j, hj with
      | 0, hj =>
        simp at hj
        subst hj
        rw [Addr.add_lit, World.cell?_alloc_at _ _ _ _ rfl]
        rfl) (by
      intro y hy
      simp at hy
      subst hy
      rfl) (by unfold maxLen; omega) (by omega) (by have := H.hi; simp; omega)
  unfold Oper.wp
  simp [execOp, ho, resolve, invoke, builtin, hs, hx, hrun, Result.andThen]
  have hz := k2.size
  have hhi := H.hi
  have hlo := H.lo
  simp at hz
  have e : ints (onat os) ++ [.int .i64 (i : Int)] = ints (onat (os ++ [i])) := by rw [onat_push, ← ints_app]; rfl
  rw [e] at k1
  refine hK _ _ (h v' w1 ⟨(H.a.alloc _).kept k2 (ne_block H.o), (H.w.alloc _).kept k2 ?_, by rw [List.length_append]; exact k1, ?_, (H.bl.alloc H.bl.size _).grown k2 (by have := H.bl.size; simp; omega) (fun k hk => by have := (H.o.lt k hk).1; omega), hlo, by omega⟩ ?_)
  · rcases hv2 : vw.ownBlock with _ | k
    · exact .inl rfl
    · exact .inr fun e => H.ap k hv2 e.symm
  · intro k hk hk2
    rcases k4 with k4 | k4
    · exact H.ap k hk (k4 ▸ hk2)
    · have := (H.w.lt k hk).2
      rw [k4] at hk2
      injection hk2 with hk2
      simp at hk2
      omega
  · intro p u hp hne
    refine World.grownBy.cell k2 ?_ ?_
    · rw [World.cell?_alloc_lt _ _ _ (World.block_lt_of_cell? wr p hp)]; exact hp
    · intro e
      exact hne p.block e.symm rfl
theorem del2_list {ts : List (Int × Nat)} {b : Nat} (hb : b < ts.length) : (setC (ints (fl2 ts)) (b * 2) ((ints (fl2 ts)).drop ((b + 1) * 2))).take ((ts.length - 1) * 2) = ints (fl2 (ts.take b ++ ts.drop (b + 1))) := by
  have hz : (ints (fl2 ts)).length = ts.length * 2 := by rw [ints_len, fl2_len]
  have hd : ((ints (fl2 ts)).drop ((b + 1) * 2)).length = ts.length * 2 - (b + 1) * 2 := by rw [List.length_drop, hz]
  rw [setC_eq _ _ _ (by rw [hd, hz]; omega), List.take_append_of_le_length (by rw [List.length_append, List.length_take, hd, hz]; omega), List.take_of_length_le (by rw [List.length_append, List.length_take, hd, hz]; omega), fl2_app, fl2_take, fl2_drop]
  unfold ints
  simp only [List.map_append, List.map_take, List.map_drop]
/-- The tag b is taken out. -/
theorem FRow.del {W wr : World} {g : Nat} {E : Nat → Int} {gw cap : Nat} {ts : List (Int × Nat)} {vo : Value} {os : List Nat} (H : FRow W wr g E (.slice (some ⟨gw, 0, none⟩) ts.length cap) ts vo os) {b : Nat} (hb : b < ts.length) :
    FRow W (wr.setCells gw (b * 2) ((ints (fl2 ts)).drop ((b + 1) * 2))) g E (.slice (some ⟨gw, 0, none⟩) (ts.length - 1) cap) (ts.take b ++ ts.drop (b + 1)) vo os ∧ OnlyD gw wr (wr.setCells gw (b * 2) ((ints (fl2 ts)).drop ((b + 1) * 2))) := by
  have D := OnlyD.sets (g := gw) ((ints (fl2 ts)).drop ((b + 1) * 2)) wr (b * 2) (OnlyD.refl gw wr)
  have hgw := (H.w.lt gw rfl).1
  have hlo := H.lo
  have G : wr.grownBy (wr.setCells gw (b * 2) ((ints (fl2 ts)).drop ((b + 1) * 2))) (some gw) := ⟨D.os, D.tape, D.output, D.size, fun k hk hne => D.block k hk fun e => hne (by rw [e])⟩
  have O1 := own_setC ((ints (fl2 ts)).drop ((b + 1) * 2)) wr _ (b * 2) H.w
  have O2 := own_shrinkI O1 (show ts.length - 1 ≤ ts.length by omega)
  rw [del2_list hb] at O2
  have hl : (ts.take b ++ ts.drop (b + 1)).length = ts.length - 1 := by rw [List.length_append, List.length_take, List.length_drop]; omega
  refine ⟨⟨H.a.kept G (.inr fun e => ?_), by rw [hl]; exact O2, H.o.kept G ?_, fun k hk => H.ap k hk, H.bl.trans (D.below (Nat.le_trans hlo (by omega)) H.bl.size), hlo, Nat.lt_of_lt_of_le H.hi D.size⟩, D⟩
  · injection e with e
    simp at e
    omega
  · rcases hv2 : vo.ownBlock with _ | k
    · exact .inl rfl
    · refine .inr fun e => H.ap k ?_ hv2
      rw [e]; rfl
/-- Which of two tags is served first. -/
theorem less_any (a b : Int) (i j : Nat) (w : World) (r : Bool) (hr : decide (a < b ∨ a = b ∧ i < j) = r) :
    Calls Try.prog 95 #[.agg #[.int .i64 a, .int .i64 i], .agg #[.int .i64 b, .int .i64 j]] w fun e w' => e = .returned (.bool r) ∧ Below w.heap.size w w' := by
  subst hr
  rcases Int.lt_trichotomy a b with h | h | h
  · have g1 : decide (a < b ∨ a = b ∧ i < j) = true := by simp [h]
    rw [g1]
    clear g1
    go_enter Try.func95, Try.ntmps95
    go_wp2_with fail
    go_ret
    exact ⟨rfl, ((Below.refl _ _).alloc (Nat.le_refl _) _).alloc (by simp) _⟩
  · subst h
    by_cases hij : i < j
    · have g1 : decide (a < a ∨ a = a ∧ i < j) = true := by simp [hij]
      have g2 : (i : Int) < j := by omega
      rw [g1]
      clear g1 hij
      go_enter Try.func95, Try.ntmps95
      go_wp2_with fail
      go_ret
      exact ⟨rfl, ((Below.refl _ _).alloc (Nat.le_refl _) _).alloc (by simp) _⟩
    · have g1 : decide (a < a ∨ a = a ∧ i < j) = false := by simp; omega
      have g2 : ¬ (i : Int) < j := by omega
      rw [g1]
      clear g1 hij
      go_enter Try.func95, Try.ntmps95
      go_wp2_with fail
      go_ret
      exact ⟨rfl, ((Below.refl _ _).alloc (Nat.le_refl _) _).alloc (by simp) _⟩
  · have g1 : decide (a < b ∨ a = b ∧ i < j) = false := by simp; omega
    have g2 : ¬ a < b := by omega
    have g3 : (a == b) = false := by simp; omega
    have g4 : a ≠ b := by omega
    rw [g1]
    clear g1 h
    go_enter Try.func95, Try.ntmps95
    go_wp2_with fail
    go_ret
    exact ⟨rfl, ((Below.refl _ _).alloc (Nat.le_refl _) _).alloc (by simp) _⟩
/-- What Check says. -/
def wgood (ws : List Int) : Bool := (List.range 8).all fun k => decide (1 ≤ gi ws k ∧ gi ws k ≤ 8)
theorem wgood_iff (ws : List Int) : wgood ws = true ↔ ∀ k, k < 8 → 1 ≤ gi ws k ∧ gi ws k ≤ 8 := by
  unfold wgood
  rw [List.all_eq_true]
  simp only [List.mem_range, decide_eq_true_eq]
def fchk (ws zs : List Int) (wn n : Nat) : Int := if wn = 8 then if wgood ws = true then packErr zs n else 1 else 4
theorem fcheck_any (Aw : Option Addr) (wn wc : Nat) (ws : List Int) (A : Option Addr) (n c : Nat) (zs : List Int) (W : World) (hw : Sl W W.heap.size Aw wn (ints ws)) (hwn : wn ≤ 9223372036854775807) (hs : Sl W W.heap.size A (n * 3) (ints zs)) (hnn : n ≤ 9223372036854775807) (ck : Int) (hck : fchk ws zs wn n = ck) :
    Calls Try.prog 94 #[.slice Aw wn wc, .slice A n c] W fun e w' => e = .returned (.int .i64 ck) ∧ Below W.heap.size W w' := by
  subst hck
  by_cases h8 : wn = 8
  · subst h8
    have SW := Lib.hid hw
    have SS := Lib.hid hs
    have HF : Hid (fchk ws zs 8 n = if wgood ws = true then packErr zs n else 1) := Lib.hid (if_pos rfl)
    clear hw hs
    go_enter Try.func94, Try.ntmps94
    go_wp2_with fail
    go_loopw [12] (fun vi wr => ∃ k : Nat, k ≤ 8 ∧ vi = .int .i64 k ∧ Hid (∀ q, q < k → 1 ≤ gi ws q ∧ gi ws q ≤ 8) ∧ wr = W) (fun vi _ => 8 - (intOf vi).toNat)
    case atStart => exact ⟨0, by omega, rfl, Lib.hid fun q hq => absurd hq (by omega), rfl⟩
    case round =>
      obtain ⟨k, hk, rfl, hq, hwr⟩ := hrel
      have hwr' := hwr.symm
      subst hwr'
      have hk0 : (0 : Int) ≤ k := by omega
      by_cases hlt : k < 8
      · have hn1 : (k : Int) < 8 := by omega
        obtain ⟨b, off, rfl, hbl, hc⟩ := SW.out.int_at hlt
        obtain ⟨x, hx⟩ : ∃ x, gi ws k = x := ⟨_, rfl⟩
        rw [hx] at hc
        have HX := Lib.hid hx
        clear hx
        by_cases h1 : x < 1
        · go_wp2_with fail
          go_ret
          have : ¬ wgood ws = true := fun h => by have := (wgood_iff ws).1 h k hlt; rw [HX.out] at this; omega
          exact ⟨ret_int (by rw [HF.out, if_neg this]), Below.refl _ _⟩
        · by_cases h2 : 8 < x
          · go_wp2_with fail
            go_ret
            have : ¬ wgood ws = true := fun h => by have := (wgood_iff ws).1 h k hlt; rw [HX.out] at this; omega
            exact ⟨ret_int (by rw [HF.out, if_neg this]), Below.refl _ _⟩
          · go_wp2_with fail
            go_roundw
            case rel =>
              refine ⟨k + 1, by omega, by go_num, Lib.hid fun q h => ?_, by first | trivial | rfl⟩
              by_cases e : q = k
              · rw [e, HX.out]; omega
              · exact hq.out q (by omega)
            case measure => simp [intOf]; omega
      · have hkn : k = 8 := by omega
        subst hkn
        go_wp2_with fail
        refine (packets_any A n c zs _ SS.out hnn).mono ?_
        rintro e w1 ⟨rfl, b1⟩
        have B1 := Lib.hid b1
        clear b1
        go_wp2_with fail
        go_ret
        exact ⟨ret_int (by rw [HF.out, if_pos ((wgood_iff ws).2 hq.out)]), B1.out⟩
  · have hne : (wn : Int) ≠ 8 := by omega
    have h9 : ((wn : Int) == 8) = false := by simp; omega
    have HF : Hid (fchk ws zs wn n = 4) := Lib.hid (if_neg h8)
    clear h8 hw hs
    go_enter Try.func94, Try.ntmps94
    go_wp2_with fail
    go_ret
    exact ⟨ret_int (by rw [HF.out]), Below.refl _ _⟩
end Go.Proofs.Ytpifknmoimlpoaa
