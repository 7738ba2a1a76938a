/- Words for slices that read as lists, and for a row that is appended to one element at a time. -/
import Derived.WalkKit
import Derived.Deep.AppendLies
import Derived.Lib.Hide
import Derived.Deep.QuietTactic
import Derived.BigQuiet
set_option linter.unusedVariables false
namespace Go.Proofs.Ytopldjklmjkcmaa
open Go.RowKit

/-- Element k of a list of numbers. -/
def gi (zs : List Int) (k : Nat) : Int := zs.getD k 0
theorem gi_eq {zs : List Int} {k : Nat} (h : k < zs.length) : gi zs k = zs[k] := by simp [gi, h]
theorem gi_mem {zs : List Int} {k : Nat} (h : k < zs.length) : gi zs k ∈ zs := by rw [gi_eq h]; exact List.getElem_mem h
theorem gi_take {zs : List Int} {n k : Nat} (h : k < n) : gi (zs.take n) k = gi zs k := by simp [gi, h]
def ints (zs : List Int) : List Value := zs.map (Value.int .i64)
theorem ints_len (zs : List Int) : (ints zs).length = zs.length := by simp [ints]
theorem ints_get {zs : List Int} {k : Nat} (h : k < zs.length) : (ints zs)[k]? = some (.int .i64 (gi zs k)) := by simp [ints, gi, h]
theorem ints_snoc (zs : List Int) (x : Int) : ints (zs ++ [x]) = ints zs ++ [.int .i64 x] := by simp [ints]
def bools (bs : List Bool) : List Value := bs.map Value.bool
def gb (bs : List Bool) (k : Nat) : Bool := bs.getD k false
theorem gb_eq {bs : List Bool} {k : Nat} (h : k < bs.length) : gb bs k = bs[k] := by simp [gb, h]
theorem bools_len (bs : List Bool) : (bools bs).length = bs.length := by simp [bools]
theorem bools_get {bs : List Bool} {k : Nat} (h : k < bs.length) : (bools bs)[k]? = some (.bool (gb bs k)) := by simp [bools, gb, h]
theorem bools_snoc (bs : List Bool) (x : Bool) : bools (bs ++ [x]) = bools bs ++ [.bool x] := by simp [bools]

/-- The slice at address A with n cells reads as xs, and lies below block B. -/
def Sl (w : World) (B : Nat) (A : Option Addr) (n : Nat) (xs : List Value) : Prop :=
  xs.length = n ∧ (0 < n → ∃ b off, A = some ⟨b, off, none⟩ ∧ b < B ∧ ∀ i u, xs[i]? = some u → w.cell? ⟨b, off + i, none⟩ = some u)
section
variable {w w' : World} {B B' n : Nat} {A : Option Addr} {xs : List Value}
theorem Sl.nil : Sl w B A 0 [] := ⟨rfl, fun h => absurd h (by omega)⟩
theorem Sl.keep (h : Sl w B A n xs) (hk : ∀ p : Addr, p.block < B → w'.cell? p = w.cell? p) : Sl w' B A n xs :=
  ⟨h.1, fun hn => by
    obtain ⟨b, off, e, hb, hc⟩ := h.2 hn
    exact ⟨b, off, e, hb, fun i u hu => (hk ⟨b, off + i, none⟩ hb).trans (hc i u hu)⟩⟩
theorem Sl.more (h : Sl w B A n xs) (hB : B ≤ B') : Sl w B' A n xs :=
  ⟨h.1, fun hn => by
    obtain ⟨b, off, e, hb, hc⟩ := h.2 hn
    exact ⟨b, off, e, by omega, hc⟩⟩
theorem Sl.below (h : Sl w B A n xs) (hb : Below B w w') : Sl w' B A n xs := h.keep fun _ hp => hb.cell hp
/-- Behind a call: the slice is still there, below the new heap's end. -/
theorem Sl.on (h : Sl w w.heap.size A n xs) (hb : Below w.heap.size w w') : Sl w' w'.heap.size A n xs := (h.below hb).more hb.size
theorem Sl.at_ (h : Sl w B A n xs) {k : Nat} (hk : k < n) {u : Value} (hu : xs[k]? = some u) : ∃ b off, A = some ⟨b, off, none⟩ ∧ b < B ∧ w.cell? ⟨b, off + k, none⟩ = some u := by
  obtain ⟨b, off, e, hb, hc⟩ := h.2 (by omega)
  exact ⟨b, off, e, hb, hc k u hu⟩
theorem Sl.alloc (h : Sl w B A n xs) (hB : B ≤ w.heap.size) (o : Obj) : Sl (w.alloc o) B A n xs := h.keep fun p hp => World.cell?_alloc_lt w o p (by omega)
theorem Sl.drewN (h : Sl w B A n xs) (k : Nat) : Sl (w.drewN k) B A n xs := h
theorem Sl.drew (h : Sl w B A n xs) : Sl w.drew B A n xs := h
/-- A slice that a literal has just laid. -/
theorem Sl.built (w : World) (xs : List Value) (e : TypeId) (hn : xs.length = n) : Sl (w.alloc (.cells xs.toArray e)) (w.heap.size + 1) (some ⟨w.heap.size, 0, none⟩) n xs := by
  refine ⟨hn, fun _ => ⟨w.heap.size, 0, rfl, by omega, fun i u hu => ?_⟩⟩
  rw [Nat.zero_add, World.cell?_alloc_at _ _ _ _ rfl]
  simpa using hu
theorem own_form {base : Nat} {e : TypeId} {size : Nat} {v : Value} (h : w.ownsRow base e size v n xs) : ∃ A c, v = .slice A n c ∧ n ≤ c := by
  rcases h.2 with ⟨rfl, rfl⟩ | ⟨g, cap, _, rfl, _, _, hc, _⟩
  · exact ⟨none, 0, rfl, Nat.le_refl _⟩
  · exact ⟨_, _, rfl, hc⟩
theorem Sl.of_own {base : Nat} {e : TypeId} {c : Nat} (h : w.ownsRow base e 1 (.slice A n c) n xs) : Sl w w.heap.size A n xs := by
  refine ⟨by simpa using h.1, fun hn => ?_⟩
  obtain ⟨g, cap, hv, _, hlt⟩ := h.form hn
  have hA : A = some ⟨g, 0, none⟩ := by injection hv
  subst hA
  refine ⟨g, 0, rfl, hlt, fun i u hu => ?_⟩
  have := h.cells (g := g) rfl i u hu
  simpa [Addr.add_lit] using this
end
theorem Sl.int_at {w : World} {B n : Nat} {A : Option Addr} {zs : List Int} (h : Sl w B A n (ints zs)) {k : Nat} (hk : k < n) :
    ∃ b off, A = some ⟨b, off, none⟩ ∧ b < B ∧ w.cell? ⟨b, off + k, none⟩ = some (.int .i64 (gi zs k)) :=
  h.at_ hk (ints_get (by have := h.1; rw [ints_len] at this; omega))
theorem Sl.bool_at {w : World} {B n : Nat} {A : Option Addr} {bs : List Bool} (h : Sl w B A n (bools bs)) {k : Nat} (hk : k < n) :
    ∃ b off, A = some ⟨b, off, none⟩ ∧ b < B ∧ w.cell? ⟨b, off + k, none⟩ = some (.bool (gb bs k)) :=
  h.at_ hk (bools_get (by have := h.1; rw [bools_len] at this; omega))
theorem Sl.cell_ {w : World} {B n b off : Nat} {xs : List Value} (h : Sl w B (some ⟨b, off, none⟩) n xs) {k : Nat} {u : Value} (hk : xs[k]? = some u) : w.cell? ⟨b, off + k, none⟩ = some u := by
  have hl : k < xs.length := (List.getElem?_eq_some_iff.1 hk).1
  obtain ⟨b', off', e, _, hc⟩ := h.2 (by have := h.1; omega)
  injection e with e
  injection e with e1 e2
  subst e1 e2
  exact hc k u hk
theorem Sl.int_cell {w : World} {B n b off : Nat} {zs : List Int} (h : Sl w B (some ⟨b, off, none⟩) n (ints zs)) {k : Nat} (hk : k < n) : w.cell? ⟨b, off + k, none⟩ = some (.int .i64 (gi zs k)) :=
  h.cell_ (ints_get (by have := h.1; rw [ints_len] at this; omega))
theorem Sl.int_len {w : World} {B n : Nat} {A : Option Addr} {zs : List Int} (h : Sl w B A n (ints zs)) : zs.length = n := by
  have := h.1; rwa [ints_len] at this
theorem Sl.bool_len {w : World} {B n : Nat} {A : Option Addr} {zs : List Bool} (h : Sl w B A n (bools zs)) : zs.length = n := by
  have := h.1; rwa [bools_len] at this

/-- A slice of numbers, of bools, that came in. -/
structure InInts (W : World) (A : Option Addr) (n c : Nat) (zs : List Int) : Prop where
  sl : Sl W W.heap.size A n (ints zs)
  le : n ≤ c
  reach : c * 8 ≤ 140737488351232
  wf : ∀ z ∈ zs, -9223372036854775808 ≤ z ∧ z ≤ 9223372036854775807
structure InBools (W : World) (A : Option Addr) (n c : Nat) (bs : List Bool) : Prop where
  sl : Sl W W.heap.size A n (bools bs)
  le : n ≤ c
  reach : c ≤ 140737488351232
/-- A slice type t of elements e with one cell each. -/
structure Elem (P : Program) (t e : TypeId) (z : Value) (bytes : Nat) : Prop where
  under : P.underlying t = some (.slice e)
  info : ∃ i, P.info? e = some i ∧ i.zero = some z ∧ i.size = 1 ∧ i.bytes = bytes
  cells : z.cells.size = 1
  small : bytes ≤ 64

/-- 'append(out, x)', the one element x just laid into a new block. -/
theorem wpList_push {P : Program} {wr W0 : World} {ops : Array Oper} {rest : List Oper} {o : Oper} {a : Act} {Q : Exit → Act → World → Prop} (hgd : o.guard = none) (s x : Operand) (t : TypeId)
    (ho : o.op = .call { callee := .builtin .append, args := #[s, x], argTypes := #[t, t] }) {e : TypeId} {z : Value} {bytes : Nat} (E : Elem P t e z bytes)
    (base : Nat) (v : Value) (n : Nat) (xs : List Value) (u : Value) (hs : a.eval s = v) (hx : a.eval x = .slice (some ⟨wr.heap.size, 0, none⟩) 1 1)
    (hown : wr.ownsRow base e 1 v n xs) (hbel : Below base W0 wr) (hbase : base ≤ wr.heap.size) (hu : u.oneCell' = true) (hn : n < 1099511627776)
    (h : ∀ v' w1, w1.ownsRow base e 1 v' (n + 1) (xs ++ [u]) → Below base W0 w1 → base ≤ w1.heap.size → wpList P ops Q rest (a.put o.dst v') w1) :
    wpList P ops Q (o :: rest) a (wr.alloc (.cells #[u] e)) := by
  obtain ⟨i, h1, h2, h3, h4⟩ := E.info
  have hby : (n + 1) * bytes ≤ 1099511627776 * 64 := Nat.mul_le_mul (by omega) E.small
  refine wpList_append_own (w := wr.alloc (.cells #[u] e)) hgd s x t ho base e i z 1 bytes E.under h1 h2 h3 h4 E.cells (by decide) v n xs hs (hown.alloc _)
    ⟨wr.heap.size, 0, none⟩ 1 1 [u] hx rfl ?_ ?_ (by unfold maxLen; omega) (by omega) (by simp; omega) ?_
  · intro j y hj
    match j, hj with
    | 0, hj =>
      simp at hj
      subst hj
      rw [Addr.add_lit, World.cell?_alloc_at _ _ _ _ rfl]
      rfl
  · intro y hy
    simp at hy
    subst hy
    exact hu
  · intro v' w1 hown' hg _
    have hb : Below base W0 w1 := (hbel.alloc hbase _).grown hg (by simp; omega) (fun k hk => (hown.lt k hk).1)
    exact h v' w1 hown' hb (by have := hg.size; simp at this; omega)
theorem ret_int {k : IntKind} {a b : Int} (h : a = b) : Ending.returned (.int k a) = .returned (.int k b) := by rw [h]
theorem ret_bool {a b : Bool} (h : a = b) : Ending.returned (.bool a) = .returned (.bool b) := by rw [h]
theorem ret_int2 {k : IntKind} {a b : Int} {y : Value} (h : a = b) : Ending.returned (.tuple #[.int k a, y]) = .returned (.tuple #[.int k b, y]) := by rw [h]
theorem bel_drewN {B : Nat} {a w : World} (h : Below B a w) (n : Nat) : Below B a (w.drewN n) := ⟨h.os, h.tape, h.output, h.size, h.block⟩
theorem below_alloc {W w : World} (h : Below W.heap.size W w) (o : Obj) : Below W.heap.size W (w.alloc o) := h.alloc h.size o
/-- headkeep.Within: the number modulo 2^64, and then modulo n. -/
def within (k n : Int) : Int := (k % 18446744073709551616) % n
theorem within_eq (k n : Int) (h1 : 1 ≤ n) (h2 : n ≤ 9223372036854775807) : wrap64 ((IntKind.u64.wrap k).tmod n) = within k n := by
  have hw : IntKind.u64.wrap k = k % 18446744073709551616 := by simp [IntKind.wrap, IntKind.bits, IntKind.signed]
  have h0 : 0 ≤ k % 18446744073709551616 := Int.emod_nonneg _ (by decide)
  rw [hw, Int.tmod_eq_emod_of_nonneg h0]
  have h3 : 0 ≤ k % 18446744073709551616 % n := Int.emod_nonneg _ (by omega)
  have h4 : k % 18446744073709551616 % n < n := Int.emod_lt_of_pos _ (by omega)
  rw [IntWalk.wrap64_in _ ⟨by omega, by omega⟩]
  rfl
theorem within_lo (k n : Int) (h : 1 ≤ n) : 0 ≤ within k n := by unfold within; exact Int.emod_nonneg _ (by omega)
theorem within_hi (k n : Int) (h : 1 ≤ n) : within k n < n := by unfold within; exact Int.emod_lt_of_pos _ (by omega)
end Go.Proofs.Ytopldjklmjkcmaa
