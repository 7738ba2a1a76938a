/- slices.Delete of one number, in a slice of the call's own. -/
import Derived.Test.YtehdphkaknjlnaaSetL
import Derived.Deep.RegionLaw
import Derived.Laws.IdiomCopy
set_option linter.unusedVariables false
namespace Go.Proofs.Ytehdphkaknjlnaa
open Go.RowKit
/-- Of all blocks that were there, only g may have turned. -/
structure OnlyD (g : Nat) (w w' : World) : Prop where
  os : w'.os = w.os
  tape : w'.tape = w.tape
  output : w'.output = w.output
  size : w.heap.size ≤ w'.heap.size
  block : ∀ k, k < w.heap.size → k ≠ g → w'.heap[k]? = w.heap[k]?
theorem OnlyD.refl (g : Nat) (w : World) : OnlyD g w w := ⟨rfl, rfl, rfl, Nat.le_refl _, fun _ _ _ => rfl⟩
theorem OnlyD.trans {g : Nat} {a b c : World} (h : OnlyD g a b) (k : OnlyD g b c) : OnlyD g a c :=
  ⟨k.os.trans h.os, k.tape.trans h.tape, k.output.trans h.output, Nat.le_trans h.size k.size, fun i hi h1 => (k.block i (Nat.lt_of_lt_of_le hi h.size) h1).trans (h.block i hi h1)⟩
theorem OnlyD.of_below {g : Nat} {w w' : World} (h : Below w.heap.size w w') : OnlyD g w w' := ⟨h.os, h.tape, h.output, h.size, fun k hk _ => h.block k hk⟩
theorem OnlyD.below {g B : Nat} {w w' : World} (h : OnlyD g w w') (h1 : B ≤ g) (hB : B ≤ w.heap.size) : Below B w w' := ⟨h.os, h.tape, h.output, h.size, fun k hk => h.block k (by omega) (by omega)⟩
theorem OnlyD.set {g : Nat} {a w : World} (h : OnlyD g a w) (o : Nat) (v : Value) : OnlyD g a (w.setCell ⟨g, o, none⟩ v) :=
  h.trans ⟨rfl, rfl, rfl, by simp [World.setCell], fun k hk h1 => Below.heap_setCell _ _ _ _ (by intro h'; exact h1 (by first | exact h' | exact h'.symm))⟩
theorem OnlyD.sets {g : Nat} {a : World} (vs : List Value) : ∀ (w : World) (o : Nat), OnlyD g a w → OnlyD g a (w.setCells g o vs) := by
  induction vs with
  | nil => intro w o h; exact h
  | cons v r ih => intro w o h; exact ih _ _ (h.set o v)
theorem OnlyD.drew {g : Nat} {a w : World} (h : OnlyD g a w) : OnlyD g a w.drew := h.trans (OnlyD.of_below (Below.refl _ _).drew)
theorem own_shrinkI {w : World} {base : Nat} {e : TypeId} {size g n cap : Nat} {xs : List Value} (h : w.ownsRow base e size (.slice (some ⟨g, 0, none⟩) n cap) n xs) {m : Nat} (hm : m ≤ n) : w.ownsRow base e size (.slice (some ⟨g, 0, none⟩) m cap) m (xs.take (m * size)) := by
  obtain ⟨cur, hb, hg, hc, hx, hs, ht⟩ := own_parts h
  have hle : m * size ≤ n * size := Nat.mul_le_mul_right _ hm
  refine ⟨by rw [List.length_take, h.1]; omega, .inr ⟨g, cap, cur, rfl, hb, hg, by omega, hx, hs, ?_⟩⟩
  rw [← ht, List.take_take, Nat.min_eq_left hle]
theorem del_listI {zs : List Int} {n i : Nat} (hl : zs.length = n) (hi : i < n) (last : Value) : (setC (setC (ints zs) i ((ints zs).drop (i + 1))) (n - 1) [last]).take (n - 1) = ints (zs.take i ++ zs.drop (i + 1)) := by
  have hz : (ints zs).length = n := by rw [ints_len, hl]
  have hd : ((ints zs).drop (i + 1)).length = n - (i + 1) := by rw [List.length_drop, hz]
  have l1 := setC_len ((ints zs).drop (i + 1)) (ints zs) i
  rw [setC_eq [last] _ _ (by rw [l1, hz]; simp only [List.length_cons, List.length_nil]; omega), List.append_assoc, List.take_append_of_le_length (by rw [List.length_take, l1, hz]; omega), List.take_take, Nat.min_self, setC_eq _ _ _ (by rw [hd, hz]; omega), List.take_append_of_le_length (by rw [List.length_append, List.length_take, hd, hz]; omega), List.take_of_length_le (by rw [List.length_append, List.length_take, hd, hz]; omega)]
  unfold ints
  simp only [List.map_append, List.map_take, List.map_drop]
theorem clearI (w : World) (ty : TypeId) (g o c : Nat) (hc : (w.cell? ⟨g, o, none⟩).isSome = true) (hf : w.frozen? ⟨g, o, none⟩ = false) :
    (Builtin.clear_ #[32] ty #[.slice (some ⟨g, o, none⟩) 1 c]).run Try.prog w = .ok (.tuple #[]) (w.setCells g o [.int .i64 0]) := by
  have hst := run_storeCells_cells (P := Try.prog) g o [.int .i64 0] 0 w (by intro j hj; simp at hj; subst hj; simpa using hc) (by intro j hj; simp at hj; subst hj; simpa using hf) (by simp [Value.oneCell'])
  simp only [Nat.add_zero] at hst
  have hz : (Builtin.zeroCells (Value.int .i64 0).cells 1).toList = [.int .i64 0] := by kernel_rfl
  have hv : ∀ w : World, (zeroValue 3).run Try.prog w = .ok (.int .i64 0) w := fun w => Try.zeroValue3 w
  simp [Builtin.clear_, run_underlying Try.underlying32, hv, hz, hst]
set_option maxHeartbeats 4000000 in
theorem delInt (base g n cap i : Nat) (zs : List Int) (w : World) (h : w.ownsRow base 3 1 (.slice (some ⟨g, 0, none⟩) n cap) n (ints zs)) (hl : zs.length = n) (hi : i < n) (hcap : n ≤ cap) (hcm : cap ≤ 9223372036854775807) (hbg : base ≤ g) :
    Calls Try.prog 42 #[.slice (some ⟨g, 0, none⟩) n cap, .int .i64 i, .int .i64 ((i : Int) + 1)] w fun e w' => e = .returned (.slice (some ⟨g, 0, none⟩) (n - 1) cap) ∧ w'.ownsRow base 3 1 (.slice (some ⟨g, 0, none⟩) (n - 1) cap) (n - 1) (ints (zs.take i ++ zs.drop (i + 1))) ∧ OnlyD g w w' := by
  obtain ⟨i0, hi0, hi1, hi2, hi3⟩ := elemInt.info
  have hz : (ints zs).length = n := by rw [ints_len, hl]
  obtain ⟨news, hnews⟩ : ∃ news, (ints zs).drop (i + 1) = news := ⟨_, rfl⟩
  have hlen : news.length = n - (i + 1) := by rw [← hnews, List.length_drop, hz]
  have hd : w.drew.ownsRow base 3 1 (.slice (some ⟨g, 0, none⟩) n cap) n (ints zs) := h.drew
  obtain ⟨A, hA, hsrc⟩ : ∃ A : Addr, (if cap = i + 1 then (some ⟨g, 0, none⟩ : Option Addr) else some ⟨g, i + 1, none⟩) = some A ∧ Hid (∀ j u, news[j]? = some u → w.drew.cell? (A.add j) = some u) := by
    by_cases hc : cap = i + 1
    · refine ⟨⟨g, 0, none⟩, by simp [hc], fun j u hu => ?_⟩
      have h0 : news.length = 0 := by rw [hlen]; omega
      rw [List.length_eq_zero_iff.1 h0] at hu
      simp at hu
    · refine ⟨⟨g, i + 1, none⟩, by simp [hc], fun j u hu => ?_⟩
      have hj : j < news.length := (List.getElem?_eq_some_iff.1 hu).1
      rw [Addr.add_lit, hd.cellAt (i + 1 + j) (by omega), ← List.getElem?_drop, hnews]
      exact hu
  have s1 : Hid (news.length = (n - (i + 1)) * 1) := by show _ = _; rw [hlen, Nat.mul_one]
  have s2 : Hid (∀ u ∈ news, u.oneCell' = true) := Lib.hid fun u hu => ints_one zs u (by rw [← hnews] at hu; exact List.mem_of_mem_drop hu)
  have s3 : Hid (∀ t, t < news.length → (w.drew.cell? ⟨g, 0 + i * 1 + t, none⟩).isSome = true ∧ w.drew.frozen? ⟨g, 0 + i * 1 + t, none⟩ = false) := Lib.hid fun t ht => by
    rw [Nat.zero_add, Nat.mul_one]
    refine ⟨?_, hd.frozenAt _⟩
    rw [hd.cellAt (i + t) (by omega), ints_get (by rw [hl]; omega)]; rfl
  have O1 := own_setC news w.drew (ints zs) (0 + i * 1) hd
  have B1 : OnlyD g w (w.drew.setCells g (0 + i * 1) news) := OnlyD.sets news w.drew _ (OnlyD.refl g w).drew
  obtain ⟨W1, hW1⟩ : ∃ W1, w.drew.setCells g (0 + i * 1) news = W1 := ⟨_, rfl⟩
  rw [hW1] at O1 B1
  have hcl := Lib.hid (fun ty => clearI W1 ty g (n - 1) (cap - (n - 1)) (by rw [O1.cellAt _ (by omega), List.getElem?_eq_getElem (by rw [setC_len, hz]; omega)]; rfl) (O1.frozenAt _))
  have O2 := own_setC [.int .i64 0] W1 _ (n - 1) O1
  have O3 := own_shrinkI O2 (show n - 1 ≤ n by omega)
  rw [Nat.zero_add, Nat.mul_one, Nat.mul_one, ← hnews, del_listI hl hi] at O3
  have O4 := Lib.hid O3
  have B2 := Lib.hid (OnlyD.sets [.int .i64 0] W1 (n - 1) B1)
  have HW1 := Lib.hid hW1
  have f1 : (0 : Int) ≤ i := by omega
  have f2 : (i : Int) + 1 ≤ n := by omega
  have f3 : (n : Int) ≤ cap := by omega
  have f4 : ((i : Int) + 1).toNat = i + 1 := by omega
  have f5 : (0 : Int) ≤ (i : Int) + 1 := by omega
  have f6 : ((i : Int) == (i : Int) + 1) = false := by simp; omega
  have f7 : (i : Int) ≤ (i : Int) + 1 := by omega
  have f8 : (i : Int) ≤ cap := by omega
  have f9 : i ≤ cap := by omega
  have f10 : i + 1 ≤ n := by omega
  have f11 : i + 1 ≤ cap := by omega
  have f12 : (i : Int) + 1 ≤ cap := by omega
  clear h hz hnews hlen hd O1 B1 O2 O3 hW1
  go_enter Try.func42, Try.ntmps42
  go_wp2_with fail
  go_region_law (refine step_append_room rfl (.tmp 22) (.tmp 25) 32 rfl 3 i0 1 Try.underlying32 hi0 hi2 g 0 i cap (by simp [Act.eval, Act.put]) A (n - (i + 1)) (cap - (i + 1)) news (by simp [Act.eval, Act.put]) s1.out hsrc.out s2.out (by omega) s3.out ?_; rw [HW1.out])
  rw [show i + (n - (i + 1)) = n - 1 by omega]
  have hcl' := hcl.out
  have g1 : n - (n - 1) = 1 := by omega
  have g2 : ¬ cap = n - 1 := by omega
  have g3 : n - 1 ≤ n := by omega
  have g4 : n - 1 ≤ cap := by omega
  have g5 : ((n - 1 : Nat) : Int) ≤ n := by omega
  have g6 : ((n - 1 : Nat) : Int) ≤ cap := by omega
  go_simp
  go_wp2_with fail
  go_ret
  exact ⟨rfl, O4.out, B2.out⟩
end Go.Proofs.Ytehdphkaknjlnaa
