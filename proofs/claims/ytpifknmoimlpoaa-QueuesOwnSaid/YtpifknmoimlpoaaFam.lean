/- A row of flows of the call's own, each flow's numbers a row of their own. -/
import Derived.Test.YtpifknmoimlpoaaOpenFl
import Derived.Test.YtpifknmoimlpoaaTurnC
import Derived.Test.YtpifknmoimlpoaaTurnK
import Derived.Test.YtpifknmoimlpoaaOwnT
import Derived.Test.YtpifknmoimlpoaaRoomG
set_option linter.unusedVariables false
namespace Go.Proofs.Ytpifknmoimlpoaa
open Go.RowKit
def hdOf (gi m : Nat → Nat) (i : Nat) : Option Addr × Nat × Nat := (some ⟨gi i, 0, none⟩, m i, m i + 3)
theorem flv_succ (q : Nat → Int) (hd : Nat → Option Addr × Nat × Nat) (k : Nat) : flv q hd (k + 1) = flv q hd k ++ [.int .i64 (q k), .slice (hd k).1 (hd k).2.1 (hd k).2.2] := by
  unfold flv
  rw [show (k + 1) * 2 = k * 2 + 1 + 1 by omega, List.range_succ, List.range_succ, List.map_append, List.map_append, List.append_assoc]
  have e0 : k * 2 % 2 = 0 := by omega
  have e1 : k * 2 / 2 = k := by omega
  have e2 : (k * 2 + 1) % 2 = 1 := by omega
  have e3 : (k * 2 + 1) / 2 = k := by omega
  simp [e1, e2, e3]
theorem flv_congr {q : Nat → Int} {hd hd' : Nat → Option Addr × Nat × Nat} {k : Nat} (h : ∀ i, i < k → hd i = hd' i) : flv q hd k = flv q hd' k := by
  unfold flv
  refine List.map_congr_left fun j hj => ?_
  rw [h (j / 2) (by have := List.mem_range.1 hj; omega)]
/-- k flows, those from lo on not yet spoiled. -/
structure Fam (w : World) (B : Nat) (fl : Value) (lo k : Nat) (q : Nat → Int) (m gi : Nat → Nat) (ls : Nat → List Int) : Prop where
  row : w.ownsRow B 29 2 fl k (flv q (hdOf gi m) k)
  inn : ∀ i, lo ≤ i → i < k → w.ownsRow B 3 1 (.slice (some ⟨gi i, 0, none⟩) (m i + 3) (m i + 3)) (m i + 3) (ints (ls i) ++ rep3 [.int .i64 (-9)] 3)
  ap : ∀ i, i < k → fl.ownBlock ≠ some (gi i)
  ne : ∀ i j, i < j → j < k → gi i ≠ gi j
section
variable {w w' : World} {B lo k : Nat} {fl : Value} {q : Nat → Int} {m gi : Nat → Nat} {ls : Nat → List Int}
theorem Fam.start (w : World) (B : Nat) (q : Nat → Int) (m gi : Nat → Nat) (ls : Nat → List Int) : Fam w B (.slice none 0 0) 0 0 q m gi ls :=
  ⟨World.ownsRow_nil _ _ _ _, fun i _ h => absurd h (by omega), fun i h => absurd h (by omega), fun i j _ h => absurd h (by omega)⟩
theorem Fam.on (h : Fam w B fl lo k q m gi ls) (hb : Below w.heap.size w w') : Fam w' B fl lo k q m gi ls := ⟨own_onR h.row hb, fun i h1 h2 => own_onR (h.inn i h1 h2) hb, h.ap, h.ne⟩
/-- A flow more. -/
theorem Fam.push (h : Fam w B fl 0 k q m gi ls) (hz : B ≤ w.heap.size) {g : Nat} {w5 w6 : World} {fl' : Value} (hb : Below w.heap.size w w5)
    (ho : w5.ownsRow w.heap.size 3 1 (.slice (some ⟨g, 0, none⟩) (m k + 3) (m k + 3)) (m k + 3) (ints (ls k) ++ rep3 [.int .i64 (-9)] 3)) {x : Obj}
    (hr : w6.ownsRow B 29 2 fl' (k + 1) (flv q (hdOf gi m) k ++ [.int .i64 (q k), .slice (some ⟨g, 0, none⟩) (m k) (m k + 3)])) (hg : (w5.alloc x).grownBy w6 fl.ownBlock) (hf : fl'.ownBlock = fl.ownBlock ∨ fl'.ownBlock = some (w5.heap.size + 1)) :
    Fam w6 B fl' 0 (k + 1) q m (fun j => if j = k then g else gi j) ls := by
  have gl := ho.lt g rfl
  have il : ∀ i, i < k → gi i < w.heap.size := fun i hi => ((h.inn i (Nat.zero_le _) hi).lt (gi i) rfl).2
  have fll : ∀ b, fl.ownBlock = some b → b < w.heap.size := fun b hb => (h.row.lt b hb).2
  have wz := hb.size
  refine ⟨?_, fun i _ hi => ?_, fun i hi => ?_, fun i j hij hj => ?_⟩
  · rw [flv_succ, flv_congr (hd' := hdOf gi m) (fun i hi => by show (some (⟨if i = k then g else gi i, 0, none⟩ : Addr), m i, m i + 3) = (some ⟨gi i, 0, none⟩, m i, m i + 3); rw [if_neg (by omega)])]
    show w6.ownsRow B _ 2 fl' (k + 1) (_ ++ [_, .slice (some ⟨if k = k then g else gi k, 0, none⟩) (m k) (m k + 3)])
    rw [if_pos rfl]
    exact hr
  · show w6.ownsRow B _ 1 (.slice (some ⟨if i = k then g else gi i, 0, none⟩) _ _) _ _
    by_cases hik : i = k
    · subst hik
      rw [if_pos rfl]
      exact ((own_lower ho hz).alloc x).kept hg (.inr (fun e => by have := fll g e.symm; omega))
    · rw [if_neg hik]
      have hi' : i < k := by omega
      exact ((own_onR (h.inn i (Nat.zero_le _) hi') hb).alloc x).kept hg (.inr (fun e => h.ap i hi' e.symm))
  · show fl'.ownBlock ≠ some (if i = k then g else gi i)
    intro e
    by_cases hik : i = k
    · rw [if_pos hik] at e
      rcases hf with hf | hf
      · rw [hf] at e; have := fll g e; omega
      · rw [hf] at e; injection e with e; omega
    · rw [if_neg hik] at e
      rcases hf with hf | hf
      · rw [hf] at e; exact h.ap i (by omega) e
      · rw [hf] at e; injection e with e; have := il i (by omega); omega
  · show (if i = k then g else gi i) ≠ (if j = k then g else gi j)
    rw [if_neg (by omega)]
    have := il i (by omega)
    by_cases hjk : j = k
    · rw [if_pos hjk]; omega
    · rw [if_neg hjk]; exact h.ne i j hij (by omega)
theorem Fam.spoil (h : Fam w B fl lo k q m gi ls) (hlo : lo < k) (hg : w.grownBy w' (some (gi lo))) : Fam w' B fl (lo + 1) k q m gi ls := by
  refine ⟨h.row.kept hg ?_, fun i h1 h2 => (h.inn i (by omega) h2).kept hg (.inr (fun e => ?_)), h.ap, h.ne⟩
  · exact .inr (h.ap lo hlo)
  · injection e with e
    exact h.ne lo i (by omega) h2 e.symm
theorem Fam.aside (h : Fam w B fl lo k q m gi ls) {o : Option Nat} (hg : w.grownBy w' o) (ho : ∀ b, o = some b → b < B) : Fam w' B fl lo k q m gi ls :=
  ⟨own_aside h.row hg ho, fun i h1 h2 => own_aside (h.inn i h1 h2) hg ho, h.ap, h.ne⟩
theorem Fam.inn_ (h : Fam w B fl lo k q m gi ls) (hl : ∀ i, i < k → (ls i).length = m i) {i : Nat} (h1 : lo ≤ i) (h2 : i < k) : w.ownsRow B 3 1 (.slice (some ⟨gi i, 0, none⟩) (m i) (m i + 3)) (m i) (ints (ls i)) :=
  own_short (h.inn i h1 h2) (by omega) (by rw [Nat.mul_one, List.take_append_of_le_length (by rw [ints_len, hl i h2]; omega), List.take_of_length_le (by rw [ints_len, hl i h2]; omega)])
theorem Fam.fls {A : Option Addr} {c : Nat} (h : Fam w B (.slice A k c) 0 k q m gi ls) (hl : ∀ i, i < k → (ls i).length = m i) : FlS w w.heap.size A k q (hdOf gi m) ls :=
  ⟨Sl.of_own2 h.row, fun i hi => Sl.of_own (h.inn_ hl (Nat.zero_le _) hi)⟩
end
/-- append of cells just laid, as one step of a region that draws. -/
theorem step_pushE {P : Program} {ops : Array Oper} {o : Oper} {a : Act} {w : World} {K : Act → World → Prop} {Q : Exit → Act → World → Prop} {E : Prop} (hgd : o.guard = none) (s x : Operand) (t : TypeId)
    (ho : o.op = .call { callee := .builtin .append, args := #[s, x], argTypes := #[t, t] }) {e : TypeId} {z : Value} {size bytes : Nat} (El : Elem P t e z size bytes)
    (wr : World) (news : List Value) (hw : w = wr.alloc (.cells news.toArray e)) (base m : Nat) (v : Value) (n : Nat) (xs : List Value) (hl : news.length = m * size) (h1 : ∀ u ∈ news, u.oneCell' = true) (hs : a.eval s = v) (hx : a.eval x = .slice (some ⟨wr.heap.size, 0, none⟩) m m)
    (hown : wr.ownsRow base e size v n xs) (hbase : base ≤ wr.heap.size) (hn : n + m ≤ maxLen) (hby : (n + m) * bytes ≤ 140737488355328)
    (h : ∀ v' w1, w1.ownsRow base e size v' (n + m) (xs ++ news) → (wr.alloc (.cells news.toArray e)).grownBy w1 v.ownBlock → (v'.ownBlock = v.ownBlock ∨ v'.ownBlock = some (wr.heap.size + 1)) → K (a.put o.dst v') w1) :
    if Region.wanted o (yielded ops a.tmps) = true then Oper.wp P o a w K Q else E := by
  have hwd : Region.wanted o (yielded ops a.tmps) = true := by simp [Region.wanted, hgd]
  rw [if_pos hwd]
  subst hw
  obtain ⟨i, e1, e2, e3, e4⟩ := El.info
  obtain ⟨v', w1, hrun, k1, k2, _, k4⟩ := run_append_own_at (P := P) (wr.alloc (.cells news.toArray e)) base t o.type e i z size bytes El.under e1 e2 e3 e4 El.cells El.pos v n xs (hown.alloc _)
    ⟨wr.heap.size, 0, none⟩ m m news hl (by
      intro j y hj
      rw [Addr.add_lit, Nat.zero_add, World.cell?_alloc_at _ _ _ _ rfl]
      simpa using hj) h1 hn hby (by simp; omega)
  unfold Oper.wp
  simp [execOp, ho, resolve, invoke, builtin, hs, hx, hrun, Result.andThen]
  exact h v' w1 k1 k2 (by rcases k4 with k4 | k4; exact .inl k4; exact .inr (by rw [k4]; simp))
end Go.Proofs.Ytpifknmoimlpoaa
