/- slices.Delete of one api.Packet, in a slice of the call's own. -/
import Derived.Test.YtihhldphpoddhaaClonePacket
import Derived.Deep.RegionLaw
import Derived.Laws.IdiomCopy
set_option linter.unusedVariables false
namespace Go.Proofs.Ytihhldphpoddhaa
open Go.RowKit
/-- The cells from o on, set one by one. -/
def setL (xs : List Value) : Nat → List Value → List Value
  | _, [] => xs
  | o, v :: r => setL (xs.set o v) (o + 1) r
theorem setL_len (vs : List Value) : ∀ (xs : List Value) (o : Nat), (setL xs o vs).length = xs.length := by
  induction vs with
  | nil => intro xs o; rfl
  | cons v r ih => intro xs o; show (setL (xs.set o v) (o + 1) r).length = _; rw [ih, List.length_set]
theorem setL_out (vs : List Value) : ∀ (xs : List Value) (o q : Nat), (q < o ∨ o + vs.length ≤ q) → (setL xs o vs)[q]? = xs[q]? := by
  induction vs with
  | nil => intro xs o q _; rfl
  | cons v r ih =>
    intro xs o q h
    show (setL (xs.set o v) (o + 1) r)[q]? = _
    simp only [List.length_cons] at h
    rw [ih (xs.set o v) (o + 1) q (by omega), List.getElem?_set_ne (by omega)]
theorem setL_in (vs : List Value) : ∀ (xs : List Value) (o j : Nat), j < vs.length → o + j < xs.length → (setL xs o vs)[o + j]? = vs[j]? := by
  induction vs with
  | nil => intro xs o j hj; exact absurd hj (by simp)
  | cons v r ih =>
    intro xs o j hj hx
    show (setL (xs.set o v) (o + 1) r)[o + j]? = _
    rcases Nat.eq_zero_or_pos j with rfl | hp
    · rw [setL_out r (xs.set o v) (o + 1) (o + 0) (by omega), Nat.add_zero, List.getElem?_set_self (by omega)]; rfl
    · obtain ⟨k, rfl⟩ : ∃ k, j = k + 1 := ⟨j - 1, by omega⟩
      rw [show o + (k + 1) = o + 1 + k by omega, ih (xs.set o v) (o + 1) k (by simpa using hj) (by rw [List.length_set]; omega)]; rfl
theorem own_setCells {base : Nat} {e : TypeId} {size g n cap : Nat} (vs : List Value) : ∀ (w : World) (xs : List Value) (o : Nat), w.ownsRow base e size (.slice (some ⟨g, 0, none⟩) n cap) n xs → (w.setCells g o vs).ownsRow base e size (.slice (some ⟨g, 0, none⟩) n cap) n (setL xs o vs) := by
  induction vs with
  | nil => intro w xs o h; exact h
  | cons v r ih => intro w xs o h; exact ih _ _ _ (h.stored o v).1
theorem below_setCells {B g : Nat} {W : World} (vs : List Value) : ∀ (w : World) (o : Nat), Below B W w → B ≤ g → Below B W (w.setCells g o vs) := by
  induction vs with
  | nil => intro w o h _; exact h
  | cons v r ih => intro w o h hg; exact ih _ _ (h.setCell hg _) hg
theorem own_shrink {w : World} {base : Nat} {e : TypeId} {size g n cap : Nat} {xs : List Value} (h : w.ownsRow base e size (.slice (some ⟨g, 0, none⟩) n cap) n xs) {m : Nat} (hm : m ≤ n) : w.ownsRow base e size (.slice (some ⟨g, 0, none⟩) m cap) m (xs.take (m * size)) := by
  obtain ⟨h1, h2⟩ := h
  have hle : m * size ≤ n * size := Nat.mul_le_mul_right _ hm
  refine ⟨by rw [List.length_take, h1]; omega, .inr ?_⟩
  rcases h2 with ⟨e1, _⟩ | ⟨g', cap', cur, e1, hb, hg, hc, hx, hs, ht⟩
  · cases e1
  · injection e1 with e1 e2 e3
    injection e1 with e1
    injection e1 with e1
    subst e1 e3
    refine ⟨g, cap, cur, rfl, hb, hg, by omega, hx, hs, ?_⟩
    rw [← ht, List.take_take, Nat.min_eq_left hle]
/-- The table without struct i. -/
def delT (zs : List Int) (n i : Nat) : List Int := flat3 (n - 1) (fun a b => fd zs (if a < i then a else a + 1) b)
theorem delT_len (zs : List Int) (n i : Nat) : (delT zs n i).length = (n - 1) * 3 := flat3_len _ _
theorem delT_fd {zs : List Int} {n i a b : Nat} (ha : a < n - 1) (hb : b < 3) : fd (delT zs n i) a b = fd zs (if a < i then a else a + 1) b := fd_flat3 ha hb
theorem del_list {zs : List Int} {n i : Nat} (hl : zs.length = n * 3) (hi : i < n) (last : List Value) : (setL (setL (ints zs) (i * 3) ((ints zs).drop ((i + 1) * 3))) ((n - 1) * 3) last).take ((n - 1) * 3) = ints (delT zs n i) := by
  have hz : (ints zs).length = n * 3 := by rw [ints_len, hl]
  refine List.ext_getElem? fun q => ?_
  by_cases hq : q < (n - 1) * 3
  · rw [List.getElem?_take_of_lt hq, setL_out _ _ _ _ (.inl hq), ints_get (zs := delT zs n i) (by rw [delT_len]; exact hq)]
    have e : gi (delT zs n i) q = fd zs (if q / 3 < i then q / 3 else q / 3 + 1) (q % 3) := by
      have := delT_fd (zs := zs) (n := n) (i := i) (a := q / 3) (b := q % 3) (by omega) (by omega)
      unfold fd at this
      rwa [show q / 3 * 3 + q % 3 = q by omega] at this
    rw [e]
    rcases Nat.lt_or_ge q (i * 3) with h | h
    · rw [setL_out _ _ _ _ (.inl h), if_pos (by omega), ints_get (by omega)]
      unfold fd
      rw [show q / 3 * 3 + q % 3 = q by omega]
    · have hd : ((ints zs).drop ((i + 1) * 3)).length = (n - (i + 1)) * 3 := by rw [List.length_drop, hz]; omega
      obtain ⟨j, rfl⟩ : ∃ j, q = i * 3 + j := ⟨q - i * 3, by omega⟩
      rw [setL_in _ _ _ _ (by omega) (by omega), List.getElem?_drop, if_neg (by omega), ints_get (by omega)]
      unfold fd
      rw [show ((i * 3 + j) / 3 + 1) * 3 + (i * 3 + j) % 3 = (i + 1) * 3 + j by omega]
  · rw [List.getElem?_eq_none (by rw [List.length_take, setL_len, setL_len, hz]; omega), List.getElem?_eq_none (by rw [ints_len, delT_len]; omega)]
theorem clear1 (w : World) (ty : TypeId) (g o c : Nat) (hc : ∀ j, j < 3 → (w.cell? ⟨g, o + j, none⟩).isSome = true) (hf : ∀ j, j < 3 → w.frozen? ⟨g, o + j, none⟩ = false) :
    (Builtin.clear_ #[37] ty #[.slice (some ⟨g, o, none⟩) 1 c]).run Try.prog w = .ok (.tuple #[]) (w.setCells g o [.int .i64 0, .int .i64 0, .int .i64 0]) := by
  have hst := run_storeCells_cells (P := Try.prog) g o [.int .i64 0, .int .i64 0, .int .i64 0] 0 w (by simpa using hc) (by simpa using hf) (by simp [Value.oneCell'])
  simp only [Nat.add_zero] at hst
  have hz : (Builtin.zeroCells (Value.agg #[.int .i64 0, .int .i64 0, .int .i64 0]).cells 1).toList = [.int .i64 0, .int .i64 0, .int .i64 0] := by kernel_rfl
  have hv : ∀ w : World, (zeroValue 40).run Try.prog w = .ok (.agg #[.int .i64 0, .int .i64 0, .int .i64 0]) w := fun w => Try.zeroValue40 w
  simp [Builtin.clear_, run_underlying Try.underlying37, hv, hz, hst]
set_option maxHeartbeats 4000000 in
theorem delPacket (base g n cap i : Nat) (zs : List Int) (w : World) (h : w.ownsRow base 40 3 (.slice (some ⟨g, 0, none⟩) n cap) n (ints zs)) (hl : zs.length = n * 3) (hi : i < n) (hcap : n ≤ cap) (hcm : cap ≤ 9223372036854775807) (hbg : base ≤ g) :
    Calls Try.prog 23 #[.slice (some ⟨g, 0, none⟩) n cap, .int .i64 i, .int .i64 ((i : Int) + 1)] w fun e w' => e = .returned (.slice (some ⟨g, 0, none⟩) (n - 1) cap) ∧ w'.ownsRow base 40 3 (.slice (some ⟨g, 0, none⟩) (n - 1) cap) (n - 1) (ints (delT zs n i)) ∧ Below base w w' := by
  obtain ⟨i0, hi0, hi1, hi2, hi3⟩ := elemPacket.info
  have hz : (ints zs).length = n * 3 := by rw [ints_len, hl]
  obtain ⟨news, hnews⟩ : ∃ news, (ints zs).drop ((i + 1) * 3) = news := ⟨_, rfl⟩
  have hlen : news.length = (n - (i + 1)) * 3 := by rw [← hnews, List.length_drop, hz]; omega
  have hd : w.drew.ownsRow base 40 3 (.slice (some ⟨g, 0, none⟩) n cap) n (ints zs) := h.drew
  obtain ⟨A, hA, hsrc⟩ : ∃ A : Addr, (if cap = i + 1 then (some ⟨g, 0, none⟩ : Option Addr) else some ⟨g, (i + 1) * 3, none⟩) = some A ∧ Hid (∀ j u, news[j]? = some u → w.drew.cell? (A.add j) = some u) := by
    by_cases hc : cap = i + 1
    · refine ⟨⟨g, 0, none⟩, by simp [hc], fun j u hu => ?_⟩
      have h0 : news.length = 0 := by rw [hlen]; omega
      rw [List.length_eq_zero_iff.1 h0] at hu
      simp at hu
    · refine ⟨⟨g, (i + 1) * 3, none⟩, by simp [hc], fun j u hu => ?_⟩
      have hj : j < news.length := (List.getElem?_eq_some_iff.1 hu).1
      rw [Addr.add_lit, hd.cellAt ((i + 1) * 3 + j) (by omega), ← List.getElem?_drop, hnews]
      exact hu
  have s1 : Hid (news.length = (n - (i + 1)) * 3) := hlen
  have s2 : Hid (∀ u ∈ news, u.oneCell' = true) := Lib.hid fun u hu => ints_one zs u (by rw [← hnews] at hu; exact List.mem_of_mem_drop hu)
  have s3 : Hid (∀ t, t < news.length → (w.drew.cell? ⟨g, 0 + i * 3 + t, none⟩).isSome = true ∧ w.drew.frozen? ⟨g, 0 + i * 3 + t, none⟩ = false) := Lib.hid fun t ht => by
    rw [Nat.zero_add]
    refine ⟨?_, hd.frozenAt _⟩
    rw [hd.cellAt (i * 3 + t) (by omega), ints_get (by rw [hl]; omega)]; rfl
  have O1 := own_setCells news w.drew (ints zs) (0 + i * 3) hd
  have B1 : Below base w (w.drew.setCells g (0 + i * 3) news) := below_setCells news w.drew _ (Below.refl base w).drew hbg
  obtain ⟨W1, hW1⟩ : ∃ W1, w.drew.setCells g (0 + i * 3) news = W1 := ⟨_, rfl⟩
  rw [hW1] at O1 B1
  have hcl := Lib.hid (fun ty => clear1 W1 ty g ((n - 1) * 3) (cap - (n - 1)) (fun j hj => by rw [O1.cellAt _ (by omega), List.getElem?_eq_getElem (by rw [setL_len, hz]; omega)]; rfl) (fun j hj => O1.frozenAt _))
  have O2 := own_setCells [.int .i64 0, .int .i64 0, .int .i64 0] W1 _ ((n - 1) * 3) O1
  have O3 := own_shrink O2 (show n - 1 ≤ n by omega)
  rw [Nat.zero_add, ← hnews, del_list hl hi] at O3
  have O4 := Lib.hid O3
  have B2 := Lib.hid (below_setCells [.int .i64 0, .int .i64 0, .int .i64 0] W1 ((n - 1) * 3) B1 hbg)
  have HW1 := Lib.hid hW1
  have f1 : (0 : Int) ≤ i := by omega
  have f2 : (i : Int) + 1 ≤ n := by omega
  have f3 : (n : Int) ≤ cap := by omega
  have f4 : ((i : Int) + 1).toNat = i + 1 := by omega
  have f5 : (0 : Int) ≤ (i : Int) + 1 := by omega
  have f6 : ((i : Int) == (i : Int) + 1) = false := by simp; omega
  have f7 : (i : Int) ≤ (i : Int) + 1 := by omega
  have f8 : (i : Int) ≤ cap := by omega
  have f9 : i ≤ cap := by omega
  have f10 : i + 1 ≤ n := by omega
  have f11 : i + 1 ≤ cap := by omega
  have f12 : (i : Int) + 1 ≤ cap := by omega
  clear h hz hnews hlen hd O1 B1 O2 O3 hW1
  go_enter Try.func23, Try.ntmps23
  go_wp2_with fail
  go_region_law (refine step_append_room rfl (.tmp 22) (.tmp 25) 37 rfl 40 i0 3 Try.underlying37 hi0 hi2 g 0 i cap (by simp [Act.eval, Act.put]) A (n - (i + 1)) (cap - (i + 1)) news (by simp [Act.eval, Act.put, hA]) s1.out hsrc.out s2.out (by omega) s3.out ?_; rw [HW1.out])
  rw [show i + (n - (i + 1)) = n - 1 by omega]
  have hcl' := hcl.out
  have g1 : n - (n - 1) = 1 := by omega
  have g2 : ¬ cap = n - 1 := by omega
  have g3 : n - 1 ≤ n := by omega
  have g4 : n - 1 ≤ cap := by omega
  have g5 : ((n - 1 : Nat) : Int) ≤ n := by omega
  have g6 : ((n - 1 : Nat) : Int) ≤ cap := by omega
  go_simp
  go_wp2_with fail
  go_ret
  exact ⟨rfl, O4.out, B2.out⟩
end Go.Proofs.Ytihhldphpoddhaa
