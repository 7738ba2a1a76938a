/- Rows with room behind them: what the makers, lookers and spoilers of rows lean on. -/
import Derived.Test.YtpifknmoimlpoaaSetL
import Derived.Test.YtpifknmoimlpoaaOneR
import Derived.StillTailTactics
set_option linter.unusedVariables false
namespace Go.Proofs.Ytpifknmoimlpoaa
open Go.RowKit
theorem grown_trans {w w1 w2 : World} {r : Option Nat} (h : w.grownBy w1 r) (k : w1.grownBy w2 r) : w.grownBy w2 r :=
  ⟨k.os.trans h.os, k.tape.trans h.tape, k.output.trans h.output, Nat.le_trans h.size k.size, fun b hb hr => (k.block b (Nat.lt_of_lt_of_le hb h.size) hr).trans (h.block b hb hr)⟩
theorem grown_set (w : World) (g o : Nat) (u : Value) : w.grownBy (w.setCell ⟨g, o, none⟩ u) (some g) :=
  ⟨rfl, rfl, rfl, by simp [World.setCell], fun k _ hk => Below.heap_setCell _ _ _ k (fun e => hk (by rw [e]))⟩
theorem grown_setC (g : Nat) (vs : List Value) : ∀ (w : World) (o : Nat), w.grownBy (w.setCells g o vs) (some g) := by
  induction vs with
  | nil => intro w o; exact World.grownBy.refl _ _
  | cons v r ih => intro w o; exact grown_trans (grown_set w g o v) (ih _ _)
theorem own_full {w : World} {base : Nat} {e : TypeId} {size g n cap : Nat} {xs : List Value} (h : w.ownsRow base e size (.slice (some ⟨g, 0, none⟩) n cap) n xs) : ∃ ys, w.ownsRow base e size (.slice (some ⟨g, 0, none⟩) cap cap) cap ys ∧ cap ≤ maxLen := by
  obtain ⟨cur, hb, hg, hn, hx, hs, ht⟩ := own_parts h
  obtain ⟨rest, _, h2⟩ := own_longer h hn (Nat.le_refl _)
  exact ⟨_, h2, hx⟩
theorem own_short {w : World} {base : Nat} {e : TypeId} {size g m cap : Nat} {ys : List Value} (h : w.ownsRow base e size (.slice (some ⟨g, 0, none⟩) m cap) m ys) {n : Nat} (hn : n ≤ m) {xs : List Value} (hx : ys.take (n * size) = xs) : w.ownsRow base e size (.slice (some ⟨g, 0, none⟩) n cap) n xs := by
  obtain ⟨cur, hb, hg, hm, hc, hs, ht⟩ := own_parts h
  have le : n * size ≤ m * size := Nat.mul_le_mul_right _ hn
  have e1 : cur.toList.take (n * size) = xs := by rw [← hx, ← ht, List.take_take, Nat.min_eq_left le]
  refine ⟨?_, .inr ⟨g, cap, cur, rfl, hb, hg, by omega, hc, hs, e1⟩⟩
  rw [← e1, List.length_take, Array.length_toList, hs]
  have : m * size ≤ cap * size := Nat.mul_le_mul_right _ hm
  omega
/-- A row stands where another is written. -/
theorem own_aside {w w' : World} {base : Nat} {e : TypeId} {size : Nat} {v : Value} {n : Nat} {xs : List Value} {r : Option Nat} (h : w.ownsRow base e size v n xs) (hg : w.grownBy w' r) (hr : ∀ b, r = some b → b < base) : w'.ownsRow base e size v n xs := by
  refine h.kept hg ?_
  rcases hv : v.ownBlock with _ | b
  · exact .inl rfl
  · refine .inr fun e => ?_
    have := (h.lt b hv).1
    have := hr b e.symm
    omega
theorem heap_alloc_old_ (w : World) (o : Obj) {i : Nat} (h : i < w.heap.size) : (w.alloc o).heap[i]? = w.heap[i]? := by
  show (w.heap.push o)[i]? = w.heap[i]?
  rw [Array.getElem?_push, if_neg (Nat.ne_of_lt h)]
/-- 'append(out, x..)', m elements just laid: what grows, and where. -/
theorem wpList_pushE {P : Program} {wr : World} {ops : Array Oper} {rest : List Oper} {o : Oper} {a : Act} {Q : Exit → Act → World → Prop} (hgd : o.guard = none) (s x : Operand) (t : TypeId)
    (ho : o.op = .call { callee := .builtin .append, args := #[s, x], argTypes := #[t, t] }) {e : TypeId} {z : Value} {size bytes : Nat} (E : Elem P t e z size bytes)
    (g : Nat) (hg : g = wr.heap.size) (base m : Nat) (v : Value) (n : Nat) (xs news : List Value) (hl : news.length = m * size) (h1 : ∀ u ∈ news, u.oneCell' = true) (hs : a.eval s = v) (hx : a.eval x = .slice (some ⟨g, 0, none⟩) m m)
    (hown : wr.ownsRow base e size v n xs) (hbase : base ≤ wr.heap.size) (hn : n + m ≤ maxLen) (hby : (n + m) * bytes ≤ 140737488355328)
    (h : ∀ v' w1, w1.ownsRow base e size v' (n + m) (xs ++ news) → (wr.alloc (.cells news.toArray e)).grownBy w1 v.ownBlock → (v'.ownBlock = v.ownBlock ∨ v'.ownBlock = some (g + 1)) → wpList P ops Q rest (a.put o.dst v') w1) :
    wpList P ops Q (o :: rest) a (wr.alloc (.cells news.toArray e)) := by
  subst hg
  obtain ⟨i, e1, e2, e3, e4⟩ := E.info
  refine wpList_plain hgd fun K hK => ?_
  obtain ⟨v', w1, hrun, k1, k2, _, k4⟩ := run_append_own_at (P := P) (wr.alloc (.cells news.toArray e)) base t o.type e i z size bytes E.under e1 e2 e3 e4 E.cells E.pos v n xs (hown.alloc _)
    ⟨wr.heap.size, 0, none⟩ m m news hl (by
      intro j y hj
      rw [Addr.add_lit, Nat.zero_add, World.cell?_alloc_at _ _ _ _ rfl]
      simpa using hj) h1 hn hby (by simp; omega)
  unfold Oper.wp
  simp [execOp, ho, resolve, invoke, builtin, hs, hx, hrun, Result.andThen]
  exact hK _ _ (h v' w1 k1 k2 (by rcases k4 with k4 | k4; exact .inl k4; exact .inr (by rw [k4]; simp)))
def rep3 (m : List Value) : Nat → List Value
  | 0 => []
  | j + 1 => rep3 m j ++ m
theorem rep3_len {m : List Value} {K : Nat} (hm : m.length = K) (j : Nat) : (rep3 m j).length = j * K := by
  induction j with
  | zero => show 0 = 0 * K; rw [Nat.zero_mul]
  | succ j ih => show (rep3 m j ++ m).length = _; rw [List.length_append, ih, hm, Nat.add_mul, Nat.one_mul]
theorem rep3_get {m : List Value} {K : Nat} (hm : m.length = K) {j i t : Nat} (ht : t < j) (hi : i < K) : (rep3 m j)[t * K + i]? = m[i]? := by
  induction j with
  | zero => omega
  | succ j ih =>
    show (rep3 m j ++ m)[t * K + i]? = _
    have l := rep3_len hm j
    rcases Nat.lt_or_ge t j with h | h
    · have : (t + 1) * K ≤ j * K := Nat.mul_le_mul_right _ h
      rw [Nat.add_mul, Nat.one_mul] at this
      rw [List.getElem?_append_left (by omega), ih h]
    · have : t = j := by omega
      subst this
      rw [List.getElem?_append_right (by omega), l]
      congr 1
      omega
theorem mark_step {xs ys m : List Value} {K n j c : Nat} (hm : m.length = K) (hy : ys.length = c * K) (hc : n + j < c) (ht : ys.take ((n + j) * K) = xs ++ rep3 m j) : (setC ys ((n + j) * K) m).take ((n + (j + 1)) * K) = xs ++ rep3 m (j + 1) := by
  have e : (n + (j + 1)) * K = (n + j) * K + K := by rw [← Nat.add_assoc, Nat.add_mul (n + j) 1, Nat.one_mul]
  have le : (n + (j + 1)) * K ≤ c * K := Nat.mul_le_mul_right _ (by omega)
  rw [setC_eq _ _ _ (by omega), List.take_append_of_le_length (by rw [List.length_append, List.length_take]; omega), List.take_of_length_le (by rw [List.length_append, List.length_take]; omega), ht]
  show _ = xs ++ (rep3 m j ++ m)
  rw [List.append_assoc]
/-- 'append(out, l...)' into the empty head of a row with room. -/
theorem wpList_fill {P : Program} {wr : World} {ops : Array Oper} {rest : List Oper} {o : Oper} {a : Act} {Q : Exit → Act → World → Prop} (hgd : o.guard = none) (s x : Operand) (t : TypeId)
    (ho : o.op = .call { callee := .builtin .append, args := #[s, x], argTypes := #[t, t] }) {e : TypeId} {z : Value} {size bytes : Nat} (E : Elem P t e z size bytes)
    (base g cap : Nat) (zs : List Value) (own : wr.ownsRow base e size (.slice (some ⟨g, 0, none⟩) cap cap) cap zs) (A : Option Addr) (m c : Nat) (news : List Value) (hs : a.eval s = .slice (some ⟨g, 0, none⟩) 0 cap) (hx : a.eval x = .slice A m c)
    (hsl : Sl wr g A (m * size) news) (hu : ∀ u ∈ news, u.oneCell' = true) (hm : m ≤ cap)
    (h : ∀ w1 ys, w1.ownsRow base e size (.slice (some ⟨g, 0, none⟩) cap cap) cap ys → ys.take (m * size) = news → wr.grownBy w1 (some g) → wpList P ops Q rest (a.put o.dst (.slice (some ⟨g, 0, none⟩) m cap)) w1) :
    wpList P ops Q (o :: rest) a wr := by
  obtain ⟨i, h1, h2, h3, h4⟩ := E.info
  have lz := own.1
  have hle : m * size ≤ cap * size := Nat.mul_le_mul_right _ hm
  rcases A with _ | ad
  · have hm0 : m = 0 := by
      have := hsl.nil_len rfl
      rcases Nat.mul_eq_zero.1 this with h | h
      · exact h
      · have := E.pos; omega
    subst hm0
    have hnn : news = [] := List.eq_nil_of_length_eq_zero (by have := hsl.1; omega)
    subst hnn
    have hrun := run_append_of_nil (P := P) wr base t o.type e i size E.under h1 (.slice (some ⟨g, 0, none⟩) 0 cap) 0 [] (own_short own (Nat.zero_le _) (by simp)) c
    refine wpList_plain hgd fun K hK => ?_
    unfold Oper.wp
    simp [execOp, ho, resolve, invoke, builtin, hs, hx, hrun, Result.andThen]
    exact hK _ _ (h wr zs own (by simp) (World.grownBy.refl _ _))
  · have cells := hsl.cells_ ad rfl
    have hl := hsl.1
    have hrun := run_append_room_cells (P := P) wr t o.type e i E.under h1 g 0 0 cap ad m c news (by rw [h3]; exact hl) cells hu (by omega) (fun j hj => by
      rw [Nat.zero_mul, Nat.add_zero, Nat.zero_add, own.cellAt j (by omega), List.getElem?_eq_getElem (by omega)]; rfl) (fun j hj => by rw [Nat.zero_mul, Nat.add_zero, Nat.zero_add]; exact own.frozenAt j)
    rw [Nat.zero_mul, Nat.add_zero, Nat.zero_add] at hrun
    refine wpList_plain hgd fun K hK => ?_
    unfold Oper.wp
    simp [execOp, ho, resolve, invoke, builtin, hs, hx, hrun, Result.andThen]
    refine hK _ _ (h _ _ (own_setC news wr zs 0 own) ?_ (grown_setC g news wr 0))
    rw [setC_eq _ _ _ (by omega)]
    simp [hl]
end Go.Proofs.Ytpifknmoimlpoaa
