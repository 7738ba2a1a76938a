/- Words for slices that read as lists, and for a row that is appended to one element at a time. -/
import Derived.WalkKit
import Derived.Deep.AppendLies
import Derived.Lib.Hide
import Derived.Deep.QuietTactic
import Derived.BigQuiet
import Derived.WalkSpells
import Derived.Maps.AppendAt
set_option linter.unusedVariables false
namespace Go.Proofs.Ytpifknmoimlpoaa
open Go.RowKit

/-- Element k of a list of numbers. -/
def gi (zs : List Int) (k : Nat) : Int := zs.getD k 0
theorem gi_eq {zs : List Int} {k : Nat} (h : k < zs.length) : gi zs k = zs[k] := by simp [gi, h]
theorem gi_mem {zs : List Int} {k : Nat} (h : k < zs.length) : gi zs k ∈ zs := by rw [gi_eq h]; exact List.getElem_mem h
theorem gi_take {zs : List Int} {n k : Nat} (h : k < n) : gi (zs.take n) k = gi zs k := by simp [gi, h]
def ints (zs : List Int) : List Value := zs.map (Value.int .i64)
theorem ints_len (zs : List Int) : (ints zs).length = zs.length := by simp [ints]
theorem ints_get {zs : List Int} {k : Nat} (h : k < zs.length) : (ints zs)[k]? = some (.int .i64 (gi zs k)) := by simp [ints, gi, h]
theorem ints_snoc (zs : List Int) (x : Int) : ints (zs ++ [x]) = ints zs ++ [.int .i64 x] := by simp [ints]
def bools (bs : List Bool) : List Value := bs.map Value.bool
def gb (bs : List Bool) (k : Nat) : Bool := bs.getD k false
theorem gb_eq {bs : List Bool} {k : Nat} (h : k < bs.length) : gb bs k = bs[k] := by simp [gb, h]
theorem bools_len (bs : List Bool) : (bools bs).length = bs.length := by simp [bools]
theorem bools_get {bs : List Bool} {k : Nat} (h : k < bs.length) : (bools bs)[k]? = some (.bool (gb bs k)) := by simp [bools, gb, h]
theorem bools_take (bs : List Bool) (k : Nat) : (bools bs).take k = bools (bs.take k) := by simp [bools, List.map_take]
theorem bools_drop (bs : List Bool) (k : Nat) : (bools bs).drop k = bools (bs.drop k) := by simp [bools, List.map_drop]
theorem bools_app (bs cs : List Bool) : bools bs ++ bools cs = bools (bs ++ cs) := by simp [bools]
theorem bools_one (bs : List Bool) : ∀ u ∈ bools bs, u.oneCell' = true := by
  intro u hu
  obtain ⟨_, _, rfl⟩ := List.mem_map.1 hu
  rfl
theorem ints_take (bs : List Int) (k : Nat) : (ints bs).take k = ints (bs.take k) := by simp [ints, List.map_take]
theorem ints_drop (bs : List Int) (k : Nat) : (ints bs).drop k = ints (bs.drop k) := by simp [ints, List.map_drop]
theorem ints_app (bs cs : List Int) : ints bs ++ ints cs = ints (bs ++ cs) := by simp [ints]
theorem ints_one (bs : List Int) : ∀ u ∈ ints bs, u.oneCell' = true := by
  intro u hu
  obtain ⟨_, _, rfl⟩ := List.mem_map.1 hu
  rfl
theorem bools_snoc (bs : List Bool) (x : Bool) : bools (bs ++ [x]) = bools bs ++ [.bool x] := by simp [bools]

/-- Go's min and max as the model has them. -/
def mn (a b : Int) : Int := if b < a then b else a
def mx (a b : Int) : Int := if a < b then b else a
theorem mn_le (a b : Int) : mn a b ≤ a ∧ mn a b ≤ b ∧ (mn a b = a ∨ mn a b = b) := by unfold mn; split <;> omega
theorem mx_le (a b : Int) : a ≤ mx a b ∧ b ≤ mx a b ∧ (mx a b = a ∨ mx a b = b) := by unfold mx; split <;> omega
theorem mn_mono {a a' b b' : Int} (h : a ≤ a') (h' : b ≤ b') : mn a b ≤ mn a' b' := by unfold mn; split <;> split <;> omega
/-- The list f 0, .., f (n - 1). -/
def tab (n : Nat) (f : Nat → Int) : List Int := (List.range n).map f
theorem tab_len (n : Nat) (f : Nat → Int) : (tab n f).length = n := by simp [tab]
theorem tab_get {n : Nat} (f : Nat → Int) {i : Nat} (h : i < n) : gi (tab n f) i = f i := by simp [tab, gi, h]
theorem tab_congr {n : Nat} {f g : Nat → Int} (h : ∀ i, i < n → f i = g i) : tab n f = tab n g := List.map_congr_left fun i hi => h i (List.mem_range.1 hi)
theorem tab_push (n : Nat) (f : Nat → Int) : ints (tab n f) ++ [.int .i64 (f n)] = ints (tab (n + 1) f) := by simp [tab, List.range_succ, ints]
theorem gi_ext {l m : List Int} (h : l.length = m.length) (hg : ∀ i, i < l.length → gi l i = gi m i) : l = m := by
  refine List.ext_getElem h fun i h1 h2 => ?_
  have := hg i h1
  rwa [gi_eq h1, gi_eq h2] at this
theorem gi_set (l : List Int) (j k : Nat) (v : Int) (hj : j < l.length) : gi (l.set j v) k = if k = j then v else gi l k := by
  simp only [gi, List.getD_eq_getElem?_getD, List.getElem?_set]
  by_cases h : j = k
  · subst h
    simp [hj]
  · rw [if_neg h, if_neg (fun e => h e.symm)]
theorem ints_set (l : List Int) (j : Nat) (v : Int) : (ints l).set j (.int .i64 v) = ints (l.set j v) := by
  simp [ints, List.map_set]
theorem tab_set {n : Nat} (f : Nat → Int) (j : Nat) (v : Int) (hj : j < n) : (tab n f).set j v = tab n (fun i => if i = j then v else f i) := by
  refine gi_ext (by simp [tab]) fun i hi => ?_
  rw [List.length_set, tab_len] at hi
  rw [gi_set _ _ _ _ (by rw [tab_len]; exact hj), tab_get _ hi, tab_get _ hi]
theorem tab_of (l : List Int) : tab l.length (gi l) = l := gi_ext (tab_len _ _) fun i hi => by rw [tab_len] at hi; exact tab_get _ hi
theorem mem_tab {n : Nat} {f : Nat → Int} {z : Int} (h : z ∈ tab n f) : ∃ i, i < n ∧ f i = z := by
  obtain ⟨i, hi, e⟩ := List.mem_map.1 h
  exact ⟨i, List.mem_range.1 hi, e⟩

/-- The slice at address A with n cells reads as xs, and lies below block B. -/
def Sl (w : World) (B : Nat) (A : Option Addr) (n : Nat) (xs : List Value) : Prop :=
  xs.length = n ∧ (0 < n → ∃ b off, A = some ⟨b, off, none⟩ ∧ b < B ∧ ∀ i u, xs[i]? = some u → w.cell? ⟨b, off + i, none⟩ = some u)
section
variable {w w' : World} {B B' n : Nat} {A : Option Addr} {xs : List Value}
theorem Sl.nil : Sl w B A 0 [] := ⟨rfl, fun h => absurd h (by omega)⟩
theorem Sl.keep (h : Sl w B A n xs) (hk : ∀ p : Addr, p.block < B → w'.cell? p = w.cell? p) : Sl w' B A n xs :=
  ⟨h.1, fun hn => by
    obtain ⟨b, off, e, hb, hc⟩ := h.2 hn
    exact ⟨b, off, e, hb, fun i u hu => (hk ⟨b, off + i, none⟩ hb).trans (hc i u hu)⟩⟩
theorem Sl.more (h : Sl w B A n xs) (hB : B ≤ B') : Sl w B' A n xs :=
  ⟨h.1, fun hn => by
    obtain ⟨b, off, e, hb, hc⟩ := h.2 hn
    exact ⟨b, off, e, by omega, hc⟩⟩
theorem Sl.below (h : Sl w B A n xs) (hb : Below B w w') : Sl w' B A n xs := h.keep fun _ hp => hb.cell hp
/-- Behind a call: the slice is still there, below the new heap's end. -/
theorem Sl.on (h : Sl w w.heap.size A n xs) (hb : Below w.heap.size w w') : Sl w' w'.heap.size A n xs := (h.below hb).more hb.size
theorem Sl.at_ (h : Sl w B A n xs) {k : Nat} (hk : k < n) {u : Value} (hu : xs[k]? = some u) : ∃ b off, A = some ⟨b, off, none⟩ ∧ b < B ∧ w.cell? ⟨b, off + k, none⟩ = some u := by
  obtain ⟨b, off, e, hb, hc⟩ := h.2 (by omega)
  exact ⟨b, off, e, hb, hc k u hu⟩
theorem Sl.alloc (h : Sl w B A n xs) (hB : B ≤ w.heap.size) (o : Obj) : Sl (w.alloc o) B A n xs := h.keep fun p hp => World.cell?_alloc_lt w o p (by omega)
theorem Sl.drewN (h : Sl w B A n xs) (k : Nat) : Sl (w.drewN k) B A n xs := h
theorem Sl.drew (h : Sl w B A n xs) : Sl w.drew B A n xs := h
/-- A slice that a literal has just laid. -/
theorem Sl.built (w : World) (xs : List Value) (e : TypeId) (hn : xs.length = n) : Sl (w.alloc (.cells xs.toArray e)) (w.heap.size + 1) (some ⟨w.heap.size, 0, none⟩) n xs := by
  refine ⟨hn, fun _ => ⟨w.heap.size, 0, rfl, by omega, fun i u hu => ?_⟩⟩
  rw [Nat.zero_add, World.cell?_alloc_at _ _ _ _ rfl]
  simpa using hu
theorem Sl.drop_at {b off : Nat} (h : Sl w B (some ⟨b, off, none⟩) n xs) {k : Nat} (hk : k ≤ n) : Sl w B (some ⟨b, off + k, none⟩) (n - k) (xs.drop k) := by
  refine ⟨by rw [List.length_drop, h.1], fun hn => ?_⟩
  obtain ⟨b', off', e, hb, hcell⟩ := h.2 (by omega)
  injection e with e
  injection e with e1 e2
  subst e1 e2
  refine ⟨b, off + k, rfl, hb, fun i u hu => ?_⟩
  rw [List.getElem?_drop] at hu
  rw [Nat.add_assoc]
  exact hcell (k + i) u hu
theorem Sl.built_ (w : World) (xs : List Value) (e : TypeId) (g : Nat) (hg : g = w.heap.size) (hn : xs.length = n) : Sl (w.alloc (.cells xs.toArray e)) (w.alloc (.cells xs.toArray e)).heap.size (some ⟨g, 0, none⟩) n xs := by
  subst hg
  exact (Sl.built w xs e hn).more (by simp)
theorem own_form {base : Nat} {e : TypeId} {size : Nat} {v : Value} (h : w.ownsRow base e size v n xs) : ∃ A c, v = .slice A n c ∧ n ≤ c := by
  rcases h.2 with ⟨rfl, rfl⟩ | ⟨g, cap, _, rfl, _, _, hc, _⟩
  · exact ⟨none, 0, rfl, Nat.le_refl _⟩
  · exact ⟨_, _, rfl, hc⟩
theorem Sl.take (h : Sl w B A n xs) {k : Nat} (hk : k ≤ n) : Sl w B A k (xs.take k) := by
  refine ⟨by rw [List.length_take, h.1]; omega, fun hn => ?_⟩
  obtain ⟨b, off, e, hb, hc⟩ := h.2 (by omega)
  refine ⟨b, off, e, hb, fun i u hu => hc i u ?_⟩
  have hi : i < k := by
    have := (List.getElem?_eq_some_iff.1 hu).1
    rw [List.length_take] at this
    omega
  rwa [List.getElem?_take_of_lt hi] at hu
theorem Sl.drop (h : Sl w B A n xs) {k c : Nat} (hk : k ≤ n) (hc : n ≤ c) : Sl w B (if c = k then A else A.map (·.add k)) (n - k) (xs.drop k) := by
  refine ⟨by rw [List.length_drop, h.1], fun hn => ?_⟩
  obtain ⟨b, off, rfl, hb, hcell⟩ := h.2 (by omega)
  rw [if_neg (by omega)]
  refine ⟨b, off + k, by simp [Addr.add_lit], hb, fun i u hu => ?_⟩
  rw [List.getElem?_drop] at hu
  rw [Nat.add_assoc]
  exact hcell (k + i) u hu
theorem Sl.of_own {base : Nat} {e : TypeId} {c : Nat} (h : w.ownsRow base e 1 (.slice A n c) n xs) : Sl w w.heap.size A n xs := by
  refine ⟨by simpa using h.1, fun hn => ?_⟩
  obtain ⟨g, cap, hv, _, hlt⟩ := h.form hn
  have hA : A = some ⟨g, 0, none⟩ := by injection hv
  subst hA
  refine ⟨g, 0, rfl, hlt, fun i u hu => ?_⟩
  have := h.cells (g := g) rfl i u hu
  simpa [Addr.add_lit] using this
end
theorem Sl.int_at {w : World} {B n : Nat} {A : Option Addr} {zs : List Int} (h : Sl w B A n (ints zs)) {k : Nat} (hk : k < n) :
    ∃ b off, A = some ⟨b, off, none⟩ ∧ b < B ∧ w.cell? ⟨b, off + k, none⟩ = some (.int .i64 (gi zs k)) :=
  h.at_ hk (ints_get (by have := h.1; rw [ints_len] at this; omega))
theorem Sl.bool_at {w : World} {B n : Nat} {A : Option Addr} {bs : List Bool} (h : Sl w B A n (bools bs)) {k : Nat} (hk : k < n) :
    ∃ b off, A = some ⟨b, off, none⟩ ∧ b < B ∧ w.cell? ⟨b, off + k, none⟩ = some (.bool (gb bs k)) :=
  h.at_ hk (bools_get (by have := h.1; rw [bools_len] at this; omega))
theorem Sl.cell_ {w : World} {B n b off : Nat} {xs : List Value} (h : Sl w B (some ⟨b, off, none⟩) n xs) {k : Nat} {u : Value} (hk : xs[k]? = some u) : w.cell? ⟨b, off + k, none⟩ = some u := by
  have hl : k < xs.length := (List.getElem?_eq_some_iff.1 hk).1
  obtain ⟨b', off', e, _, hc⟩ := h.2 (by have := h.1; omega)
  injection e with e
  injection e with e1 e2
  subst e1 e2
  exact hc k u hk
theorem Sl.int_cell {w : World} {B n b off : Nat} {zs : List Int} (h : Sl w B (some ⟨b, off, none⟩) n (ints zs)) {k : Nat} (hk : k < n) : w.cell? ⟨b, off + k, none⟩ = some (.int .i64 (gi zs k)) :=
  h.cell_ (ints_get (by have := h.1; rw [ints_len] at this; omega))
theorem Sl.int_len {w : World} {B n : Nat} {A : Option Addr} {zs : List Int} (h : Sl w B A n (ints zs)) : zs.length = n := by
  have := h.1; rwa [ints_len] at this
theorem Sl.bool_len {w : World} {B n : Nat} {A : Option Addr} {zs : List Bool} (h : Sl w B A n (bools zs)) : zs.length = n := by
  have := h.1; rwa [bools_len] at this

/-- A slice of numbers, of bools, that came in. -/
structure InInts (W : World) (A : Option Addr) (n c : Nat) (zs : List Int) : Prop where
  sl : Sl W W.heap.size A n (ints zs)
  le : n ≤ c
  reach : c * 8 ≤ 140737488351232
  wf : ∀ z ∈ zs, -9223372036854775808 ≤ z ∧ z ≤ 9223372036854775807
structure InBools (W : World) (A : Option Addr) (n c : Nat) (bs : List Bool) : Prop where
  sl : Sl W W.heap.size A n (bools bs)
  le : n ≤ c
  reach : c ≤ 140737488351232
/-- A slice type t of elements e with 'size' cells each. -/
structure Elem (P : Program) (t e : TypeId) (z : Value) (size bytes : Nat) : Prop where
  under : P.underlying t = some (.slice e)
  info : ∃ i, P.info? e = some i ∧ i.zero = some z ∧ i.size = size ∧ i.bytes = bytes
  cells : z.cells.size = size
  pos : 0 < size
  small : bytes ≤ 64

/-- 'append(out, x)', the one element x just laid into a new block. -/
theorem wpList_push {P : Program} {wr W0 : World} {ops : Array Oper} {rest : List Oper} {o : Oper} {a : Act} {Q : Exit → Act → World → Prop} (hgd : o.guard = none) (s x : Operand) (t : TypeId)
    (ho : o.op = .call { callee := .builtin .append, args := #[s, x], argTypes := #[t, t] }) {e : TypeId} {z : Value} {bytes : Nat} (E : Elem P t e z 1 bytes)
    (base : Nat) (v : Value) (n : Nat) (xs : List Value) (u : Value) (hs : a.eval s = v) (hx : a.eval x = .slice (some ⟨wr.heap.size, 0, none⟩) 1 1)
    (hown : wr.ownsRow base e 1 v n xs) (hbel : Below base W0 wr) (hbase : base ≤ wr.heap.size) (hu : u.oneCell' = true) (hn : n < 1099511627776)
    (h : ∀ v' w1, w1.ownsRow base e 1 v' (n + 1) (xs ++ [u]) → Below base W0 w1 → base ≤ w1.heap.size → wpList P ops Q rest (a.put o.dst v') w1) :
    wpList P ops Q (o :: rest) a (wr.alloc (.cells #[u] e)) := by
  obtain ⟨i, h1, h2, h3, h4⟩ := E.info
  have hby : (n + 1) * bytes ≤ 1099511627776 * 64 := Nat.mul_le_mul (by omega) E.small
  refine wpList_append_own (w := wr.alloc (.cells #[u] e)) hgd s x t ho base e i z 1 bytes E.under h1 h2 h3 h4 E.cells (by decide) v n xs hs (hown.alloc _)
    ⟨wr.heap.size, 0, none⟩ 1 1 [u] hx rfl ?_ ?_ (by unfold maxLen; omega) (by omega) (by simp; omega) ?_
  · intro j y hj
    match j, hj with
    | 0, hj =>
      simp at hj
      subst hj
      rw [Addr.add_lit, World.cell?_alloc_at _ _ _ _ rfl]
      rfl
  · intro y hy
    simp at hy
    subst hy
    exact hu
  · intro v' w1 hown' hg _
    have hb : Below base W0 w1 := (hbel.alloc hbase _).grown hg (by simp; omega) (fun k hk => (hown.lt k hk).1)
    exact h v' w1 hown' hb (by have := hg.size; simp at this; omega)
/-- The same, the new block by its number. -/
theorem wpList_push_ {P : Program} {wr W0 : World} {ops : Array Oper} {rest : List Oper} {o : Oper} {a : Act} {Q : Exit → Act → World → Prop} (hgd : o.guard = none) (s x : Operand) (t : TypeId)
    (ho : o.op = .call { callee := .builtin .append, args := #[s, x], argTypes := #[t, t] }) {e : TypeId} {z : Value} {bytes : Nat} (E : Elem P t e z 1 bytes)
    (g : Nat) (hg : g = wr.heap.size) (base : Nat) (v : Value) (n : Nat) (xs : List Value) (u : Value) (hs : a.eval s = v) (hx : a.eval x = .slice (some ⟨g, 0, none⟩) 1 1)
    (hown : wr.ownsRow base e 1 v n xs) (hbel : Below base W0 wr) (hbase : base ≤ wr.heap.size) (hu : u.oneCell' = true) (hn : n < 1099511627776)
    (h : ∀ v' w1, w1.ownsRow base e 1 v' (n + 1) (xs ++ [u]) → Below base W0 w1 → base ≤ w1.heap.size → wpList P ops Q rest (a.put o.dst v') w1) :
    wpList P ops Q (o :: rest) a (wr.alloc (.cells #[u] e)) := by
  subst hg
  exact wpList_push hgd s x t ho E base v n xs u hs hx hown hbel hbase hu hn h
theorem ret_int {k : IntKind} {a b : Int} (h : a = b) : Ending.returned (.int k a) = .returned (.int k b) := by rw [h]
theorem ret_bool {a b : Bool} (h : a = b) : Ending.returned (.bool a) = .returned (.bool b) := by rw [h]
theorem ret_int2 {k : IntKind} {a b : Int} {y : Value} (h : a = b) : Ending.returned (.tuple #[.int k a, y]) = .returned (.tuple #[.int k b, y]) := by rw [h]
theorem bel_drewN {B : Nat} {a w : World} (h : Below B a w) (n : Nat) : Below B a (w.drewN n) := ⟨h.os, h.tape, h.output, h.size, h.block⟩
theorem below_alloc {W w : World} (h : Below W.heap.size W w) (o : Obj) : Below W.heap.size W (w.alloc o) := h.alloc h.size o
theorem run_append_of_nil {P : Program} (w : World) (base : Nat) (t ty e : TypeId) (i : TypeInfo) (size : Nat) (ht : P.underlying t = some (.slice e)) (hi : P.info? e = some i)
    (v : Value) (n : Nat) (xs : List Value) (hown : w.ownsRow base e size v n xs) (c : Nat) : (Builtin.append_ #[t, t] ty #[v, .slice none 0 c]).run P w = .ok v w := by
  rcases hown.2 with ⟨rfl, rfl⟩ | ⟨g, cap, cur, rfl, _, _, hnc, _⟩
  · simp [Builtin.append_, run_underlying ht, sizeOf, typeInfo, hi, Builtin.lenOf, Builtin.firstCells]
  · simp [Builtin.append_, run_underlying ht, sizeOf, typeInfo, hi, Builtin.lenOf, Builtin.firstCells, hnc, storeCells]
/-- Two rows of the call's own share no block. -/
def Apart (v v2 : Value) : Prop := ∀ k, v.ownBlock = some k → v2.ownBlock ≠ some k
theorem Apart.symm {v v2 : Value} (h : Apart v v2) : Apart v2 v := fun k h1 h2 => h k h2 h1
theorem Apart.nil (v2 : Value) : Apart (.slice none 0 0) v2 := fun k h => by cases h
/-- 'append(out, x)' while another row is held. -/
theorem wpList_push2 {P : Program} {wr W0 : World} {ops : Array Oper} {rest : List Oper} {o : Oper} {a : Act} {Q : Exit → Act → World → Prop} (hgd : o.guard = none) (s x : Operand) (t : TypeId)
    (ho : o.op = .call { callee := .builtin .append, args := #[s, x], argTypes := #[t, t] }) {e : TypeId} {z : Value} {bytes : Nat} (E : Elem P t e z 1 bytes)
    (base : Nat) (v : Value) (n : Nat) (xs : List Value) (u : Value) (hs : a.eval s = v) (hx : a.eval x = .slice (some ⟨wr.heap.size, 0, none⟩) 1 1)
    (hown : wr.ownsRow base e 1 v n xs) (hbel : Below base W0 wr) (hbase : base ≤ wr.heap.size) (hu : u.oneCell' = true) (hn : n < 1099511627776)
    {base2 : Nat} {e2 : TypeId} {size2 n2 : Nat} {v2 : Value} {xs2 : List Value} (hown2 : wr.ownsRow base2 e2 size2 v2 n2 xs2) (hap : Apart v v2)
    (h : ∀ v' w1, w1.ownsRow base e 1 v' (n + 1) (xs ++ [u]) → Below base W0 w1 → base ≤ w1.heap.size → w1.ownsRow base2 e2 size2 v2 n2 xs2 → Apart v' v2 → wpList P ops Q rest (a.put o.dst v') w1) :
    wpList P ops Q (o :: rest) a (wr.alloc (.cells #[u] e)) := by
  obtain ⟨i, h1, h2, h3, h4⟩ := E.info
  have hby : (n + 1) * bytes ≤ 1099511627776 * 64 := Nat.mul_le_mul (by omega) E.small
  refine wpList_plain hgd fun K hK => ?_
  obtain ⟨v', w1, hrun, k1, k2, _, k4⟩ := run_append_own_at (P := P) (wr.alloc (.cells #[u] e)) base t o.type e i z 1 bytes E.under h1 h2 h3 h4 E.cells (by decide) v n xs (hown.alloc _)
    ⟨wr.heap.size, 0, none⟩ 1 1 [u] rfl (by
      intro j y hj
      match j, hj with
      | 0, hj =>
        simp at hj
        subst hj
        rw [Addr.add_lit, World.cell?_alloc_at _ _ _ _ rfl]
        rfl) (by
      intro y hy
      simp at hy
      subst hy
      exact hu) (by unfold maxLen; omega) (by omega) (by simp; omega)
  unfold Oper.wp
  simp [execOp, ho, resolve, invoke, builtin, hs, hx, hrun, Result.andThen]
  have hb : Below base W0 w1 := (hbel.alloc hbase _).grown k2 (by simp; omega) (fun k hk => (hown.lt k hk).1)
  refine hK _ _ (h v' w1 k1 hb (by have := k2.size; simp at this; omega) ((hown2.alloc _).kept k2 ?_) ?_)
  · rcases hv2 : v2.ownBlock with _ | k
    · exact .inl rfl
    · refine .inr fun e => hap k ?_ hv2
      exact e.symm
  · intro k hk hk2
    rcases k4 with k4 | k4
    · exact hap k (k4 ▸ hk) hk2
    · have := (hown2.lt k hk2).2
      rw [k4] at hk
      injection hk with hk
      simp at hk
      omega
/-- 'append(out, src...)': out is the call's own, src whatever reads as a list. -/
theorem wp_cat {P : Program} {wr W0 : World} {o : Oper} {a : Act} {K : Act → World → Prop} {Q : Exit → Act → World → Prop} (s x : Operand) (t : TypeId)
    (ho : o.op = .call { callee := .builtin .append, args := #[s, x], argTypes := #[t, t] }) {e : TypeId} {z : Value} {size bytes : Nat} (E : Elem P t e z size bytes)
    (base : Nat) (v : Value) (n : Nat) (xs : List Value) (A : Option Addr) (m c : Nat) (news : List Value) (hs : a.eval s = v) (hx : a.eval x = .slice A m c)
    (hown : wr.ownsRow base e size v n xs) (hbel : Below base W0 wr) (hbase : base ≤ wr.heap.size)
    (hlen : news.length = m * size) (hnil : A = none → m = 0) (hcells : ∀ ad, A = some ad → ∀ j u, news[j]? = some u → wr.cell? (ad.add j) = some u)
    (hu : ∀ u ∈ news, u.oneCell' = true) (hn : n + m ≤ maxLen) (hby : (n + m) * bytes ≤ 140737488355328)
    (h : ∀ v' w1, w1.ownsRow base e size v' (n + m) (xs ++ news) → Below base W0 w1 → base ≤ w1.heap.size → wr.grownBy w1 v.ownBlock → K (a.put o.dst v') w1) :
    o.wp P a wr K Q := by
  obtain ⟨i, h1, h2, h3, h4⟩ := E.info
  rcases A with _ | ad
  · have hm := hnil rfl
    subst hm
    have hnn : news = [] := List.eq_nil_of_length_eq_zero (by simpa using hlen)
    subst hnn
    have hrun := run_append_of_nil (P := P) wr base t o.type e i size E.under h1 v n xs hown c
    unfold Oper.wp
    simp [execOp, ho, resolve, invoke, builtin, hs, hx, hrun, Result.andThen]
    exact h v wr (by simpa using hown) hbel hbase (World.grownBy.refl _ _)
  · refine wp_append_own (w := wr) s x t ho base e i z size bytes E.under h1 h2 h3 h4 E.cells E.pos v n xs hs hown ad m c news hx hlen (hcells ad rfl) hu hn hby hbase ?_
    intro v' w1 hown' hg _
    have hb : Below base W0 w1 := hbel.grown hg hbase (fun k hk => (hown.lt k hk).1)
    exact h v' w1 hown' hb (Nat.le_trans hbase hg.size) hg
theorem wpList_cat {P : Program} {wr W0 : World} {ops : Array Oper} {rest : List Oper} {o : Oper} {a : Act} {Q : Exit → Act → World → Prop} (hgd : o.guard = none) (s x : Operand) (t : TypeId)
    (ho : o.op = .call { callee := .builtin .append, args := #[s, x], argTypes := #[t, t] }) {e : TypeId} {z : Value} {size bytes : Nat} (E : Elem P t e z size bytes)
    (base : Nat) (v : Value) (n : Nat) (xs : List Value) (A : Option Addr) (m c : Nat) (news : List Value) (hs : a.eval s = v) (hx : a.eval x = .slice A m c)
    (hown : wr.ownsRow base e size v n xs) (hbel : Below base W0 wr) (hbase : base ≤ wr.heap.size)
    (hlen : news.length = m * size) (hnil : A = none → m = 0) (hcells : ∀ ad, A = some ad → ∀ j u, news[j]? = some u → wr.cell? (ad.add j) = some u)
    (hu : ∀ u ∈ news, u.oneCell' = true) (hn : n + m ≤ maxLen) (hby : (n + m) * bytes ≤ 140737488355328)
    (h : ∀ v' w1, w1.ownsRow base e size v' (n + m) (xs ++ news) → Below base W0 w1 → base ≤ w1.heap.size → wr.grownBy w1 v.ownBlock → wpList P ops Q rest (a.put o.dst v') w1) :
    wpList P ops Q (o :: rest) a wr :=
  wpList_plain hgd fun K hK => wp_cat s x t ho E base v n xs A m c news hs hx hown hbel hbase hlen hnil hcells hu hn hby fun v' w1 k1 k2 k3 k4 => hK _ _ (h v' w1 k1 k2 k3 k4)
/-- The same as a step of a region that draws its order. -/
theorem step_cat {P : Program} {wr W0 : World} {ops : Array Oper} {o : Oper} {a : Act} {K : Act → World → Prop} {Q : Exit → Act → World → Prop} {R : Prop} (hgd : o.guard = none) (s x : Operand) (t : TypeId)
    (ho : o.op = .call { callee := .builtin .append, args := #[s, x], argTypes := #[t, t] }) {e : TypeId} {z : Value} {size bytes : Nat} (E : Elem P t e z size bytes)
    (base : Nat) (v : Value) (n : Nat) (xs : List Value) (A : Option Addr) (m c : Nat) (news : List Value) (hs : a.eval s = v) (hx : a.eval x = .slice A m c)
    (hown : wr.ownsRow base e size v n xs) (hbel : Below base W0 wr) (hbase : base ≤ wr.heap.size)
    (hlen : news.length = m * size) (hnil : A = none → m = 0) (hcells : ∀ ad, A = some ad → ∀ j u, news[j]? = some u → wr.cell? (ad.add j) = some u)
    (hu : ∀ u ∈ news, u.oneCell' = true) (hn : n + m ≤ maxLen) (hby : (n + m) * bytes ≤ 140737488355328)
    (h : ∀ v' w1, w1.ownsRow base e size v' (n + m) (xs ++ news) → Below base W0 w1 → base ≤ w1.heap.size → wr.grownBy w1 v.ownBlock → K (a.put o.dst v') w1) :
    if Region.wanted o (yielded ops a.tmps) = true then Oper.wp P o a wr K Q else R := by
  have hw : Region.wanted o (yielded ops a.tmps) = true := by simp [Region.wanted, hgd]
  rw [if_pos hw]
  exact wp_cat s x t ho E base v n xs A m c news hs hx hown hbel hbase hlen hnil hcells hu hn hby h
theorem Sl.len1 {w : World} {B n : Nat} {A : Option Addr} {xs : List Value} (h : Sl w B A n xs) : xs.length = n * 1 := by rw [h.1, Nat.mul_one]
theorem bel_undrew {w w' : World} (h : Below w.drew.heap.size w.drew w') : Below w.heap.size w w' := ⟨h.os, h.tape, h.output, h.size, h.block⟩
theorem Sl.nil_len {w : World} {B n : Nat} {A : Option Addr} {xs : List Value} (h : Sl w B A n xs) : A = none → n = 0 := by
  intro hA
  rcases Nat.eq_zero_or_pos n with h0 | h0
  · exact h0
  · obtain ⟨b, off, e, _⟩ := h.2 h0
    rw [hA] at e
    cases e
theorem Sl.cells_ {w : World} {B n : Nat} {A : Option Addr} {xs : List Value} (h : Sl w B A n xs) : ∀ ad, A = some ad → ∀ j u, xs[j]? = some u → w.cell? (ad.add j) = some u := by
  intro ad hA j u hu
  subst hA
  have hl : j < xs.length := (List.getElem?_eq_some_iff.1 hu).1
  obtain ⟨b, off, e, _, hc⟩ := h.2 (by have := h.1; omega)
  injection e with e
  subst e
  rw [Addr.add_lit]
  exact hc j u hu
/-- A slice's length: for a loop's measure. -/
def lenOf : Value → Nat | .slice _ k _ => k | _ => 0
/-- headkeep.Within: the number modulo 2^64, and then modulo n. -/
def within (k n : Int) : Int := (k % 18446744073709551616) % n
theorem within_eq (k n : Int) (h1 : 1 ≤ n) (h2 : n ≤ 9223372036854775807) : wrap64 ((IntKind.u64.wrap k).tmod n) = within k n := by
  have hw : IntKind.u64.wrap k = k % 18446744073709551616 := by simp [IntKind.wrap, IntKind.bits, IntKind.signed]
  have h0 : 0 ≤ k % 18446744073709551616 := Int.emod_nonneg _ (by decide)
  rw [hw, Int.tmod_eq_emod_of_nonneg h0]
  have h3 : 0 ≤ k % 18446744073709551616 % n := Int.emod_nonneg _ (by omega)
  have h4 : k % 18446744073709551616 % n < n := Int.emod_lt_of_pos _ (by omega)
  rw [IntWalk.wrap64_in _ ⟨by omega, by omega⟩]
  rfl
theorem within_lo (k n : Int) (h : 1 ≤ n) : 0 ≤ within k n := by unfold within; exact Int.emod_nonneg _ (by omega)
theorem within_hi (k n : Int) (h : 1 ≤ n) : within k n < n := by unfold within; exact Int.emod_lt_of_pos _ (by omega)
end Go.Proofs.Ytpifknmoimlpoaa
