/- turns.Run: its queues, and what it has sent. -/
import Derived.Test.YtpifknmoimlpoaaTurnB
set_option linter.unusedVariables false
namespace Go.Proofs.Ytpifknmoimlpoaa
open Go.RowKit
theorem elemPtr : Elem Try.prog 115 116 (.pointer none) 1 8 := by
  obtain ⟨i, h1, h2, h3, h4⟩ := info_parts (P := Try.prog) (e := 116) (z := .pointer none) (size := 1) (bytes := 8) (by kernel_rfl)
  exact ⟨Try.underlying115, ⟨i, h1, h2, h3, h4⟩, rfl, by decide, by decide⟩
theorem elemSent : Elem Try.prog 23 33 (.agg #[.int .i64 0, .int .i64 0]) 2 16 := by
  obtain ⟨i, h1, h2, h3, h4⟩ := info_parts (P := Try.prog) (e := 33) (z := .agg #[.int .i64 0, .int .i64 0]) (size := 2) (bytes := 16) (by kernel_rfl)
  exact ⟨Try.underlying23, ⟨i, h1, h2, h3, h4⟩, rfl, by decide, by decide⟩
def sents : List (Nat × Nat) → List Value
  | [] => []
  | p :: r => .int .i64 (p.1 : Int) :: .int .i64 (p.2 : Int) :: sents r
theorem sents_len (os : List (Nat × Nat)) : (sents os).length = os.length * 2 := by
  induction os with
  | nil => rfl
  | cons p r ih => simp only [sents, List.length_cons, ih]; omega
theorem sents_app (a b : List (Nat × Nat)) : sents (a ++ b) = sents a ++ sents b := by
  induction a with
  | nil => rfl
  | cons p r ih => simp only [sents, List.cons_append, ih]
theorem sents_get {os : List (Nat × Nat)} {j : Nat} (h : j < os.length) : (sents os)[j * 2]? = some (.int .i64 ((os.getD j (0, 0)).1 : Nat)) ∧ (sents os)[j * 2 + 1]? = some (.int .i64 ((os.getD j (0, 0)).2 : Nat)) := by
  induction os generalizing j with
  | nil => simp at h
  | cons p r ih =>
    match j, h with
    | 0, _ => exact ⟨rfl, rfl⟩
    | j + 1, h =>
      have := ih (j := j) (by simpa using h)
      rw [show (j + 1) * 2 = j * 2 + 1 + 1 by omega]
      exact this
def ptrs (gq : Nat → Nat) (n : Nat) : List Value := (List.range n).map fun i => .pointer (some ⟨gq i, 0, none⟩)
theorem ptrs_len (gq : Nat → Nat) (n : Nat) : (ptrs gq n).length = n := by simp [ptrs]
theorem ptrs_get (gq : Nat → Nat) {n i : Nat} (h : i < n) : (ptrs gq n)[i]? = some (.pointer (some ⟨gq i, 0, none⟩)) := by simp [ptrs, h]
theorem ptrs_succ (gq : Nat → Nat) (n : Nat) : ptrs gq (n + 1) = ptrs gq n ++ [.pointer (some ⟨gq n, 0, none⟩)] := by simp [ptrs, List.range_succ]
theorem ptrs_congr {gq g' : Nat → Nat} {n : Nat} (h : ∀ i, i < n → gq i = g' i) : ptrs gq n = ptrs g' n := List.map_congr_left fun i hi => by rw [h i (List.mem_range.1 hi)]
/-- 'append(out, x)', x of one element's cells: what grows, and where. -/
theorem wpList_pushG {P : Program} {wr : World} {ops : Array Oper} {rest : List Oper} {o : Oper} {a : Act} {Q : Exit → Act → World → Prop} (hgd : o.guard = none) (s x : Operand) (t : TypeId)
    (ho : o.op = .call { callee := .builtin .append, args := #[s, x], argTypes := #[t, t] }) {e : TypeId} {z : Value} {size bytes : Nat} (E : Elem P t e z size bytes)
    (g : Nat) (hg : g = wr.heap.size) (base : Nat) (v : Value) (n : Nat) (xs news : List Value) (hl : news.length = size) (h1 : ∀ u ∈ news, u.oneCell' = true) (hs : a.eval s = v) (hx : a.eval x = .slice (some ⟨g, 0, none⟩) 1 1)
    (hown : wr.ownsRow base e size v n xs) (hbase : base ≤ wr.heap.size) (hn : n + 1 ≤ maxLen) (hby : (n + 1) * bytes ≤ 140737488355328)
    (h : ∀ v' w1, w1.ownsRow base e size v' (n + 1) (xs ++ news) → (wr.alloc (.cells news.toArray e)).grownBy w1 v.ownBlock → (v'.ownBlock = v.ownBlock ∨ v'.ownBlock = some (g + 1)) → wpList P ops Q rest (a.put o.dst v') w1) :
    wpList P ops Q (o :: rest) a (wr.alloc (.cells news.toArray e)) := by
  subst hg
  obtain ⟨i, e1, e2, e3, e4⟩ := E.info
  refine wpList_plain hgd fun K hK => ?_
  obtain ⟨v', w1, hrun, k1, k2, _, k4⟩ := run_append_own_at (P := P) (wr.alloc (.cells news.toArray e)) base t o.type e i z size bytes E.under e1 e2 e3 e4 E.cells E.pos v n xs (hown.alloc _)
    ⟨wr.heap.size, 0, none⟩ 1 1 news (by omega) (by
      intro j y hj
      rw [Addr.add_lit, Nat.zero_add, World.cell?_alloc_at _ _ _ _ rfl]
      simpa using hj) h1 hn hby (by simp; omega)
  unfold Oper.wp
  simp [execOp, ho, resolve, invoke, builtin, hs, hx, hrun, Result.andThen]
  exact hK _ _ (h v' w1 k1 k2 (by rcases k4 with k4 | k4; exact .inl k4; exact .inr (by rw [k4]; simp)))
theorem own_set {w : World} {base : Nat} {e : TypeId} {size : Nat} {v : Value} {n : Nat} {xs : List Value} (h : w.ownsRow base e size v n xs) {g : Nat} (hne : v.ownBlock ≠ some g) (o : Nat) (u : Value) : (w.setCell ⟨g, o, none⟩ u).ownsRow base e size v n xs :=
  h.kept (row := some g) ⟨rfl, rfl, rfl, by simp [World.setCell], fun k _ hk => Below.heap_setCell _ _ _ k (fun e => hk (by rw [e]))⟩ (.inr hne)
theorem QCell.same {w w' : World} {g : Nat} {q : Int} {sa : Option Addr} {sn sc at_ : Nat} {s : Int} (h : QCell w g q sa sn sc at_ s) (hb : w'.heap[g]? = w.heap[g]?) : QCell w' g q sa sn sc at_ s :=
  ⟨(World.cell?_of_block hb).trans h.c0, (World.cell?_of_block hb).trans h.c1, (World.cell?_of_block hb).trans h.c2, (World.cell?_of_block hb).trans h.c3, fun k => (World.frozen?_of_block hb).trans (h.fr k)⟩
theorem QCell.lt {w : World} {g : Nat} {q : Int} {sa : Option Addr} {sn sc at_ : Nat} {s : Int} (h : QCell w g q sa sn sc at_ s) : g < w.heap.size := World.block_lt_of_cell? w _ h.c0
theorem heap_alloc_same (w : World) (o : Obj) {i : Nat} (h : i < w.heap.size) : (w.alloc o).heap[i]? = w.heap[i]? := heap_alloc_old w o h
section
variable {W : World} {q : Nat → Int} {hd : Nat → Option Addr × Nat × Nat}
/-- k queues are made, j of them in the row. -/
structure P1 (W w : World) (q : Nat → Int) (hd : Nat → Option Addr × Nat × Nat) (k j : Nat) (gq : Nat → Nat) (vq : Value) : Prop where
  bl : Below W.heap.size W w
  qc : ∀ i, i < k → QCell w (gq i) (q i) (hd i).1 (hd i).2.1 (hd i).2.2 0 0
  lo : ∀ i, i < k → W.heap.size ≤ gq i
  inj : ∀ i j, i < k → j < k → gq i = gq j → i = j
  row : w.ownsRow W.heap.size 116 1 vq j (ptrs gq j)
  rq : ∀ i, i < k → vq.ownBlock ≠ some (gq i)
theorem P1.start {w : World} (hb : Below W.heap.size W w) : P1 W w q hd 0 0 (fun _ => 0) (.slice none 0 0) :=
  ⟨hb, fun i hi => absurd hi (by omega), fun i hi => absurd hi (by omega), fun i j hi => absurd hi (by omega), World.ownsRow_nil _ _ _ _, fun i hi => absurd hi (by omega)⟩
theorem P1.box {w : World} {k : Nat} {gq : Nat → Nat} {vq : Value} (h : P1 W w q hd k k gq vq) :
    P1 W ((w.alloc (.cells #[.int .i64 (q k), .slice (hd k).1 (hd k).2.1 (hd k).2.2] 29)).alloc (.cells #[.int .i64 (q k), .slice (hd k).1 (hd k).2.1 (hd k).2.2, .int .i64 0, .int .i64 0] 118)) q hd (k + 1) k (fun i => if i = k then w.heap.size + 1 else gq i) vq := by
  have z1 : (w.alloc (.cells #[.int .i64 (q k), .slice (hd k).1 (hd k).2.1 (hd k).2.2] 29)).heap.size = w.heap.size + 1 := by simp
  have lt : ∀ i, i < k → gq i < w.heap.size := fun i hi => (h.qc i hi).lt
  have qn : ∀ j, ((w.alloc (.cells #[.int .i64 (q k), .slice (hd k).1 (hd k).2.1 (hd k).2.2] 29)).alloc (.cells #[.int .i64 (q k), .slice (hd k).1 (hd k).2.1 (hd k).2.2, .int .i64 0, .int .i64 0] 118)).cell? ⟨w.heap.size + 1, j, none⟩ = #[Value.int .i64 (q k), .slice (hd k).1 (hd k).2.1 (hd k).2.2, .int .i64 0, .int .i64 0][j]? := fun j => World.cell?_alloc_at _ _ _ _ z1.symm
  refine ⟨(h.bl.alloc h.bl.size _).alloc (by rw [z1]; have := h.bl.size; omega) _, fun i hi => ?_, fun i hi => ?_, fun i j hi hj e => ?_, ?_, fun i hi => ?_⟩
  · by_cases e : i = k
    · subst e
      simp only [if_true]
      exact ⟨qn 0, qn 1, qn 2, qn 3, fun j => World.frozen?_alloc_at _ _ _ _ z1.symm⟩
    · simp only [if_neg e]
      have l := lt i (by omega)
      refine (h.qc i (by omega)).same ?_
      rw [heap_alloc_same _ _ (by rw [z1]; omega), heap_alloc_same _ _ l]
  · show W.heap.size ≤ if i = k then _ else _
    have := h.bl.size
    by_cases e : i = k
    · rw [if_pos e]; omega
    · rw [if_neg e]; exact h.lo i (by omega)
  · have e : (if i = k then w.heap.size + 1 else gq i) = if j = k then w.heap.size + 1 else gq j := e
    by_cases e1 : i = k
    · by_cases e2 : j = k
      · omega
      · rw [if_pos e1, if_neg e2] at e
        have := lt j (by omega)
        omega
    · by_cases e2 : j = k
      · rw [if_neg e1, if_pos e2] at e
        have := lt i (by omega)
        omega
      · rw [if_neg e1, if_neg e2] at e
        exact h.inj i j (by omega) (by omega) e
  · rw [ptrs_congr (g' := gq) fun i hi => by rw [if_neg (by omega)]]
    exact (h.row.alloc _).alloc _
  · show _ ≠ some (if i = k then _ else _)
    by_cases e : i = k
    · rw [if_pos e]
      intro e2
      have := (h.row.lt _ e2).2
      omega
    · rw [if_neg e]; exact h.rq i (by omega)
theorem P1.push {w w1 : World} {k j : Nat} {gq : Nat → Nat} {vq v' : Value} {c : Array Value} {e : TypeId} (h : P1 W w q hd k j gq vq) {p : Nat} (hp : gq j = p) (hr : w1.ownsRow W.heap.size 116 1 v' (j + 1) (ptrs gq j ++ [.pointer (some ⟨p, 0, none⟩)])) (hg : (w.alloc (.cells c e)).grownBy w1 vq.ownBlock) (hv : v'.ownBlock = vq.ownBlock ∨ v'.ownBlock = some (w.heap.size + 1)) : P1 W w1 q hd k (j + 1) gq v' := by
  subst hp
  have lt : ∀ i, i < k → gq i < w.heap.size := fun i hi => (h.qc i hi).lt
  refine ⟨(h.bl.alloc h.bl.size _).grown hg (by have := h.bl.size; simp; omega) (fun b hb => (h.row.lt b hb).1), fun i hi => (h.qc i hi).same ?_, h.lo, h.inj, by rw [ptrs_succ]; exact hr, fun i hi => ?_⟩
  · rw [hg.block (gq i) (by have := lt i hi; simp; omega) (fun e => h.rq i hi e.symm), heap_alloc_same _ _ (lt i hi)]
  · rcases hv with e | e
    · rw [e]; exact h.rq i hi
    · rw [e]
      intro e2
      injection e2 with e2
      have := lt i hi
      omega
theorem wpList_pushQ {w : World} {ops : Array Oper} {rest : List Oper} {o : Oper} {a : Act} {Q : Exit → Act → World → Prop} (hgd : o.guard = none) (s x : Operand)
    (ho : o.op = .call { callee := .builtin .append, args := #[s, x], argTypes := #[115, 115] }) {k : Nat} {gq : Nat → Nat} {vq : Value} (H : P1 W w q hd (k + 1) k gq vq) (p g2 : Nat) (hp : gq k = p) (hg : g2 = w.heap.size)
    (hs : a.eval s = vq) (hx : a.eval x = .slice (some ⟨g2, 0, none⟩) 1 1) (hk : k ≤ 1000)
    (h : ∀ v' w1, P1 W w1 q hd (k + 1) (k + 1) gq v' → (∀ ad u, w.cell? ad = some u → (∀ b, vq.ownBlock = some b → ad.block ≠ b) → w1.cell? ad = some u) → wpList Try.prog ops Q rest (a.put o.dst v') w1) :
    wpList Try.prog ops Q (o :: rest) a (w.alloc (.cells #[.pointer (some ⟨p, 0, none⟩)] 116)) := by
  subst hg
  refine wpList_pushG hgd s x _ ho elemPtr w.heap.size rfl W.heap.size vq k (ptrs gq k) [.pointer (some ⟨p, 0, none⟩)] rfl (by intro u hu; simp at hu; subst hu; rfl) hs hx H.row H.bl.size (by unfold maxLen; omega) (by omega) ?_
  intro v' w1 o1 g1 b1
  exact h v' w1 (H.push hp o1 g1 b1) fun ad u hc hb => g1.cell ((World.cell?_alloc_lt _ _ _ (World.block_lt_of_cell? w _ hc)).trans hc) fun e => hb _ e.symm rfl
/-- What stays while the run sends. -/
structure PS (W : World) (n : Nat) (gq : Nat → Nat) (D : Nat) (vq : Value) : Prop where
  hD : W.heap.size ≤ D
  lo : ∀ i, i < n → W.heap.size ≤ gq i ∧ gq i < D
  inj : ∀ i j, i < n → j < n → gq i = gq j → i = j
  rq : ∀ i, i < n → vq.ownBlock ≠ some (gq i)
  rd : ∀ b, vq.ownBlock = some b → b < D
/-- The queues but for one, the row of them, and what is sent: its variable is block D. -/
structure RT (W w : World) (q : Nat → Int) (hd : Nat → Option Addr × Nat × Nat) (n : Nat) (gq : Nat → Nat) (D : Nat) (vq : Value) (st : Nat → Nat × Int) (k gk : Nat) (os : List (Nat × Nat)) : Prop where
  bl : Below W.heap.size W w
  qc : ∀ i, i < n → i ≠ k → QCell w (gq i) (q i) (hd i).1 (hd i).2.1 (hd i).2.2 (st i).1 (st i).2
  row : w.ownsRow W.heap.size 116 1 vq n (ptrs gq n)
  out : ∃ A c, w.cell? ⟨D, 0, none⟩ = some (.slice A os.length c) ∧ w.ownsRow (D + 1) 33 2 (.slice A os.length c) os.length (sents os) ∧ (Value.slice A os.length c).ownBlock ≠ some gk
  of : w.frozen? ⟨D, 0, none⟩ = false
  kc : w.cell? ⟨gk, 0, none⟩ = some (.int .i64 (k : Int))
  dk : D < gk
/-- All the queues, between the turns. -/
structure RS (W w : World) (q : Nat → Int) (hd : Nat → Option Addr × Nat × Nat) (n : Nat) (gq : Nat → Nat) (D : Nat) (vq : Value) (st : Nat → Nat × Int) (os : List (Nat × Nat)) : Prop where
  bl : Below W.heap.size W w
  qc : ∀ i, i < n → QCell w (gq i) (q i) (hd i).1 (hd i).2.1 (hd i).2.2 (st i).1 (st i).2
  row : w.ownsRow W.heap.size 116 1 vq n (ptrs gq n)
  out : ∃ A c, w.cell? ⟨D, 0, none⟩ = some (.slice A os.length c) ∧ w.ownsRow (D + 1) 33 2 (.slice A os.length c) os.length (sents os)
  of : w.frozen? ⟨D, 0, none⟩ = false
theorem P1.run {w : World} {n : Nat} {gq : Nat → Nat} {vq : Value} (h : P1 W w q hd n n gq vq) : PS W n gq w.heap.size vq ∧ RS W (w.alloc (.cells #[.slice none 0 0] 23)) q hd n gq w.heap.size vq (fun _ => (0, 0)) [] := by
  have lt : ∀ i, i < n → gq i < w.heap.size := fun i hi => (h.qc i hi).lt
  refine ⟨⟨h.bl.size, fun i hi => ⟨h.lo i hi, lt i hi⟩, h.inj, h.rq, fun b hb => (h.row.lt b hb).2⟩, ⟨h.bl.alloc h.bl.size _, fun i hi => (h.qc i hi).same (heap_alloc_same _ _ (lt i hi)), h.row.alloc _, ⟨none, 0, ?_, World.ownsRow_nil _ _ _ _⟩, World.frozen?_alloc_at _ _ _ _ rfl⟩⟩
  exact World.cell?_alloc_at _ _ _ _ rfl
variable {n : Nat} {gq : Nat → Nat} {D : Nat} {vq : Value} {st : Nat → Nat × Int} {os : List (Nat × Nat)} {k gk : Nat}
theorem RS.lt {w : World} (h : RS W w q hd n gq D vq st os) : D < w.heap.size := by
  obtain ⟨A, c, hc, _⟩ := h.out
  exact World.block_lt_of_cell? w _ hc
theorem RS.take {w : World} (h : RS W w q hd n gq D vq st os) (s : PS W n gq D vq) (hk : k < n) : RT W (w.alloc (.cells #[.int .i64 (k : Int)] 3)) q hd n gq D vq st k w.heap.size os ∧ QCell (w.alloc (.cells #[.int .i64 (k : Int)] 3)) (gq k) (q k) (hd k).1 (hd k).2.1 (hd k).2.2 (st k).1 (st k).2 := by
  have lt : ∀ i, i < n → gq i < w.heap.size := fun i hi => (h.qc i hi).lt
  have dl := h.lt
  refine ⟨⟨h.bl.alloc h.bl.size _, fun i hi _ => (h.qc i hi).same (heap_alloc_same _ _ (lt i hi)), h.row.alloc _, ?_, ?_, World.cell?_alloc_at _ _ _ _ rfl, dl⟩, (h.qc k hk).same (heap_alloc_same _ _ (lt k hk))⟩
  · obtain ⟨A, c, hc, ho⟩ := h.out
    refine ⟨A, c, (World.cell?_alloc_lt _ _ _ dl).trans hc, ho.alloc _, fun e => ?_⟩
    have := (ho.lt _ e).2
    omega
  · rw [World.frozen?_alloc_past _ _ _ dl]; exact h.of
theorem RT.give {w : World} (h : RT W w q hd n gq D vq st k gk os) {s : Nat × Int} (hq : QCell w (gq k) (q k) (hd k).1 (hd k).2.1 (hd k).2.2 s.1 s.2) {st' : Nat → Nat × Int} (hs : ∀ i, i < n → st' i = if i = k then s else st i) : RS W w q hd n gq D vq st' os := by
  refine ⟨h.bl, fun i hi => ?_, h.row, ?_, h.of⟩
  · rw [hs i hi]
    by_cases e : i = k
    · rw [if_pos e, e]; exact hq
    · rw [if_neg e]; exact h.qc i hi e
  · obtain ⟨A, c, hc, ho, _⟩ := h.out
    exact ⟨A, c, hc, ho⟩
theorem RS.congr {w : World} {st' : Nat → Nat × Int} (h : RS W w q hd n gq D vq st os) (hs : ∀ i, i < n → st i = st' i) : RS W w q hd n gq D vq st' os := ⟨h.bl, fun i hi => by rw [← hs i hi]; exact h.qc i hi, h.row, h.out, h.of⟩
theorem RT.drewN {w : World} (h : RT W w q hd n gq D vq st k gk os) (m : Nat) : RT W (w.drewN m) q hd n gq D vq st k gk os :=
  ⟨bel_drewN h.bl m, fun i hi e => (h.qc i hi e).drewN m, h.row, h.out, h.of, h.kc, h.dk⟩
theorem RT.setQ {w : World} (h : RT W w q hd n gq D vq st k gk os) (s : PS W n gq D vq) (hk : k < n) (j : Nat) (u : Value) : RT W (w.setCell ⟨gq k, j, none⟩ u) q hd n gq D vq st k gk os := by
  have dk := h.dk
  have kd := (s.lo k hk).2
  refine ⟨h.bl.setCell (p := ⟨gq k, j, none⟩) (s.lo k hk).1 _, fun i hi e => (h.qc i hi e).setX (fun e2 => e (s.inj k i hk hi e2).symm) _ _, own_set h.row (s.rq k hk) _ _, ?_, by rw [World.frozen?_setCell]; exact h.of, (World.cell?_setCell_other _ _ _ _ (by intro e; injection e with e1; omega)).trans h.kc, dk⟩
  obtain ⟨A, c, hc, ho, hn⟩ := h.out
  refine ⟨A, c, (World.cell?_setCell_other _ _ _ _ (by intro e; injection e with e1; omega)).trans hc, own_set ho (fun e => ?_) _ _, hn⟩
  have := (ho.lt _ e).1
  omega
end
end Go.Proofs.Ytpifknmoimlpoaa
