/- slices.Repeat of one number. -/
import Derived.Test.YtehdphkaknjlnaaElems
import Derived.Test.YtehdphkaknjlnaaOwnT
import Derived.Shelf.Bits.Mul64
import Derived.Laws.CopyOwn
import Derived.Deep.RegionLaw
set_option linter.unusedVariables false
namespace Go.Proofs.Ytehdphkaknjlnaa
open Go.RowKit Go.Shelf
def mulN_ren : Go.Shelf.Ren := ⟨fun | 212 => 46 | 263 => 56 | 264 => 57 | n => n, fun | 46 => 81 | 51 => 95 | 146 => 96 | 53 => 74 | 148 => 98 | n => n, fun | n => n⟩
theorem mulN : Go.Proofs.Lays.n212 Try.prog mulN_ren := {
  mixed := by kernel_rfl
  f212 := Try.func46.trans (congrArg some (by kernel_rfl))
  f263 := Try.func56.trans (congrArg some (by kernel_rfl))
  f264 := Try.func57.trans (congrArg some (by kernel_rfl))
  t46 := Try.underlying81
  a46 := Try.isAgg81
  z46 := Try.sizeOf81
  v46 := Try.zeroValue81
  t51 := Try.underlying95
  a51 := Try.isAgg95
  z51 := Try.sizeOf95
  v51 := Try.zeroValue95
  t53 := Try.underlying74
  a53 := Try.isAgg74
  z53 := Try.sizeOf74
  v53 := Try.zeroValue74
  t146 := Try.underlying96
  a146 := Try.isAgg96
  z146 := Try.sizeOf96
  v146 := Try.zeroValue96
  t148 := Try.underlying98
  a148 := Try.isAgg98
  z148 := Try.sizeOf98
  v148 := Try.zeroValue98 }
theorem mul_any (x y : Nat) (hx : x < 18446744073709551616) (hy : y < 18446744073709551616) (w : World) : Calls Try.prog 46 #[.int .u64 x, .int .u64 y] w fun e w' => e = .returned (.tuple #[.int .u64 ((x * y / 18446744073709551616 : Nat) : Int), .int .u64 ((x * y % 18446744073709551616 : Nat) : Int)]) ∧ w' = w := Any.bits_Mul mulN x y hx hy w
theorem own_heap {W wr : World} {n : Nat} {u : Nat → Int} (h : Own W wr n u) : wr.heap[W.heap.size]? = some (.cells (ints (tab n u)).toArray 3 (0, 0)) := by
  obtain ⟨h1, h2⟩ := h.row
  rcases h2 with ⟨e, _⟩ | ⟨g, cap, cur, e, _, hg, hc, _, hs, ht⟩
  · cases e
  · injection e with e1 e2 e3
    injection e1 with e1
    injection e1 with e1
    subst e1 e3
    rw [hg, ← ht, List.take_of_length_le (by rw [Array.length_toList, hs]; exact Nat.le_refl _)]
theorem heap_own {W wr : World} {n : Nat} {u : Nat → Int} (hm : n ≤ maxLen) (h : wr.heap[W.heap.size]? = some (.cells (ints (tab n u)).toArray 3 (0, 0))) (hb : Below W.heap.size W wr) : Own W wr n u := by
  refine ⟨⟨by rw [ints_len, tab_len, Nat.mul_one], .inr ⟨W.heap.size, n, (ints (tab n u)).toArray, rfl, Nat.le_refl _, h, Nat.le_refl _, hm, by simp [ints_len, tab_len], ?_⟩⟩, hb⟩
  rw [Nat.mul_one, List.take_of_length_le (by simp [ints_len, tab_len])]
/-- The first k are z, the others nought. -/
def zt (z : Int) (k : Nat) (i : Nat) : Int := if i < k then z else 0
theorem splice_zt (z : Int) (N k m : Nat) (h : k + m ≤ N) : splice (ints (tab N (zt z k))) k (ints (tab m fun _ => z)) = ints (tab N (zt z (k + m))) := by
  have ht : (List.take k (ints (tab N (zt z k)))).length = k := by rw [List.length_take, ints_len, tab_len]; omega
  have hm : (ints (tab m fun _ => z)).length = m := by rw [ints_len, tab_len]
  refine List.ext_getElem? fun i => ?_
  unfold splice
  by_cases h1 : i < N
  · rw [ints_get (zs := tab N (zt z (k + m))) (by rw [tab_len]; exact h1), tab_get _ h1]
    rcases Nat.lt_or_ge i k with h2 | h2
    · rw [List.getElem?_append_left (by omega), List.getElem?_take_of_lt h2, ints_get (by rw [tab_len]; exact h1), tab_get _ h1]
      unfold zt
      rw [if_pos h2, if_pos (by omega)]
    · rcases Nat.lt_or_ge i (k + m) with h3 | h3
      · rw [List.getElem?_append_right (by omega), ht, List.getElem?_append_left (by omega), ints_get (by rw [tab_len]; omega), tab_get _ (by omega)]
        unfold zt
        rw [if_pos h3]
      · rw [List.getElem?_append_right (by omega), ht, List.getElem?_append_right (by omega), hm, List.getElem?_drop, show k + m + (i - k - m) = i by omega, ints_get (by rw [tab_len]; exact h1), tab_get _ h1]
        unfold zt
        rw [if_neg (by omega), if_neg (by omega)]
  · rw [List.getElem?_eq_none (by rw [List.length_append, List.length_append, ht, hm, List.length_drop, ints_len, tab_len]; omega), List.getElem?_eq_none (by rw [ints_len, tab_len]; omega)]
set_option maxHeartbeats 3200000 in
set_option maxRecDepth 100000 in
theorem repeat_one (z : Int) (g gc N : Nat) (W : World) (h1 : 1 ≤ N) (h2 : N ≤ 61) (hg : g < W.heap.size) (hc : W.cell? ⟨g, 0, none⟩ = some (.int .i64 z)) :
    Calls Try.prog 26 #[.slice (some ⟨g, 0, none⟩) 1 gc, .int .i64 N] W fun e w' => e = .returned (.slice (some ⟨W.heap.size, 0, none⟩) N N) ∧ Own W w' N (fun _ => z) := by
  have m1 : 1 * N / 18446744073709551616 = 0 := Nat.div_eq_of_lt (by omega)
  have m2 : 1 * N % 18446744073709551616 = N := by rw [Nat.one_mul]; exact Nat.mod_eq_of_lt (by omega)
  have f1 : IntKind.u64.wrap (N : Int) = N := by simp [IntKind.wrap, IntKind.bits, IntKind.signed]; omega
  have f2 : IntKind.i64.wrap (N : Int) = N := IntWalk.i64_in _ ⟨by omega, by omega⟩
  have n0 : ¬ (N : Int) < 0 := by omega
  go_enter Try.func26, Try.ntmps26
  go_wp2_with fail
  refine (mul_any 1 N (by omega) (by omega) _).mono ?_
  rintro e w1 ⟨rfl, rfl⟩
  rw [m1, m2]
  have hn1 : Hid (([.int .i64 z] : List Value).length = Nat.min 1 N) := Lib.hid (Nat.min_eq_left h1).symm
  have hfit : Hid (0 + ([.int .i64 z] : List Value).length ≤ (ints (tab N fun _ => 0)).length) := Lib.hid (by rw [ints_len, tab_len]; simp; omega)
  have hone : Hid (∀ v ∈ ([.int .i64 z] : List Value), v.oneCell' = true) := Lib.hid (by intro v hv; simp at hv; subst hv; rfl)
  go_wp2_with (first | (at_make; refine wpList_makeInts rfl _ _ rfl (N : Int) (N : Int) N rfl rfl rfl rfl (by omega) ?_; intro w3 ho3; have hg3 := Lib.hid (own_heap ho3); have hb3 := Lib.hid ho3.bel; have hsrc : Hid (∀ j v, ([.int .i64 z] : List Value)[j]? = some v → w3.cell? ((⟨g, 0, none⟩ : Addr).add j) = some v) := Lib.hid (by intro j v hj; (match j, hj with | 0, hj => (simp at hj; subst hj; rw [Addr.add_lit]; exact (ho3.bel.cell (p := ⟨g, 0, none⟩) hg).trans hc))); clear ho3))
  have hrun := run_copy_row (P := Try.prog) w3 32 32 3 3 w1.heap.size 0 N N ⟨g, 0, none⟩ 1 gc (ints (tab N fun _ => 0)).toArray 3 [.int .i64 z] Try.underlying32 (by kernel_rfl) hg3.out hn1.out hsrc.out (by simpa using hfit.out) hone.out
  rw [hrun]
  have HW : Hid ((w3.setRow w1.heap.size (List.take 0 (ints (tab N fun _ => 0)).toArray.toList ++ [Value.int IntKind.i64 z] ++ List.drop (0 + [Value.int IntKind.i64 z].length) (ints (tab N fun _ => 0)).toArray.toList).toArray).heap[w1.heap.size]? = some (.cells (ints (tab N (zt z 1))).toArray 3 (0, 0))) := by
    show _ = _
    rw [setRow_heap w3 w1.heap.size _ _ 3 _ hg3.out]
    have e := splice_zt z N 0 1 (by omega)
    rw [show tab N (zt z 0) = tab N (fun _ => 0) from tab_congr fun i hi => if_neg (by omega)] at e
    unfold splice at e
    rw [show ints (tab 1 fun _ => z) = [Value.int .i64 z] from rfl] at e
    rw [← e]
    simp
  have HB : Hid (Below w1.heap.size w1 (w3.setRow w1.heap.size (List.take 0 (ints (tab N fun _ => 0)).toArray.toList ++ [Value.int IntKind.i64 z] ++ List.drop (0 + [Value.int IntKind.i64 z].length) (ints (tab N fun _ => 0)).toArray.toList).toArray)) := Lib.hid (below_setRow hb3.out (Nat.le_refl _) _)
  generalize w3.setRow w1.heap.size _ = w4 at HW HB ⊢
  clear hrun hg3 hb3 hsrc hn1 hfit hone hc
  simp only [Result.andThen, List.length_singleton]
  go_wp2_with fail
  go_loopw [8] (fun n wr => ∃ k : Nat, 1 ≤ k ∧ k ≤ N ∧ n = .int .i64 k ∧ Hid (wr.heap[w1.heap.size]? = some (.cells (ints (tab N (zt z k))).toArray 3 (0, 0))) ∧ Hid (Below w1.heap.size w1 wr)) (fun n _ => N - (intOf n).toNat)
  case atStart => exact ⟨1, by omega, h1, rfl, HW, HB⟩
  case round =>
    obtain ⟨k, hk1, hkN, rfl, hW, hB⟩ := hrel
    have hk0 : (0 : Int) ≤ k := by omega
    by_cases hlt : k < N
    · have hn1 : (k : Int) < N := by omega
      obtain ⟨m, hm⟩ : ∃ m, Nat.min k (N - k) = m := ⟨_, rfl⟩
      have hm2 : m = k ∨ m = N - k := by rw [← hm]; rcases Nat.le_total k (N - k) with h | h; exact .inl (Nat.min_eq_left h); exact .inr (Nat.min_eq_right h)
      have hm3 : m ≤ k ∧ m ≤ N - k := by rw [← hm]; exact ⟨Nat.min_le_left _ _, Nat.min_le_right _ _⟩
      have hNk : ¬ N = k := by omega
      have hNk' : ¬ k = N := by omega
      have hcl : Hid ((ints (tab m fun _ => z)).length = Nat.min k (N - k)) := Lib.hid (by rw [ints_len, tab_len, hm])
      have hcl2 : (ints (tab m fun _ => z)).length = m := by rw [ints_len, tab_len]
      have hWd : Hid (wr.drew.heap[w1.heap.size]? = some (.cells (ints (tab N (zt z k))).toArray 3 (0, 0))) := Lib.hid hW.out
      have hBd : Hid (Below w1.heap.size w1 wr.drew) := Lib.hid hB.out.drew
      have hsrc : Hid (∀ j v, (ints (tab m fun _ => z))[j]? = some v → wr.drew.cell? ((⟨w1.heap.size, 0, none⟩ : Addr).add j) = some v) := Lib.hid (by
        intro j v hj
        have hjm : j < m := by
          have := (List.getElem?_eq_some_iff.1 hj).1
          omega
        rw [ints_get (by rw [tab_len]; exact hjm), tab_get _ hjm] at hj
        rw [Addr.add_lit, Nat.zero_add, cell_of_row wr.drew w1.heap.size j _ _ (0, 0) hWd.out, List.getElem?_toArray, ints_get (by rw [tab_len]; omega), tab_get _ (by omega), ← hj]
        unfold zt
        rw [if_pos (by omega)])
      have hfit : Hid (k + (ints (tab m fun _ => z)).length ≤ (ints (tab N (zt z k))).length) := Lib.hid (by rw [hcl2, ints_len, tab_len]; omega)
      have hone : Hid (∀ v ∈ ints (tab m fun _ => z), v.oneCell' = true) := Lib.hid (ints_one _)
      have SP := Lib.hid (splice_zt z N k m (by omega))
      have CL2 := Lib.hid hcl2
      have gk : 0 + k = k := Nat.zero_add k
      clear hm hcl2
      go_wp2_with fail
      go_region_law (refine step_copy_splice rfl (.tmp 41) (.tmp 44) 32 32 rfl 3 Try.underlying32 (by kernel_rfl) (some ⟨w1.heap.size, k, none⟩) (some ⟨w1.heap.size, 0, none⟩) (N - k) (N - k) k N (by simp [Act.eval, Act.put]) (by simp [Act.eval, Act.put]) w1.heap.size k (ints (tab N (zt z k))) 3 hWd.out (ints (tab m fun _ => z)) hcl.out (fun _ => ⟨rfl, _, rfl, hsrc.out⟩) hfit.out hone.out w1.heap.size w1 hBd.out (Nat.le_refl _) ?_; intro w4 hg4 hb4; rw [CL2.out])
      all_goals
        rw [SP.out] at hg4
        have B4 := Lib.hid hb4
        have f1 : IntKind.i64.wrap ((k : Int) + m) = (k : Int) + m := IntWalk.i64_in _ ⟨by omega, by omega⟩
        clear hb4
        go_simp
        go_roundw
        case rel => exact ⟨_, _, _, _, _, _, _, _, _, _, _, _, _, _, ⟨k + m, by omega, by omega, by go_num, hg4, B4⟩, rfl⟩
        case measure => simp [intOf]; omega
    · have hkn : k = N := by omega
      subst hkn
      have hn1 : ¬ (k : Int) < k := by omega
      have O := Lib.hid (heap_own (by unfold maxLen; omega) hW.out hB.out)
      go_wp2_with fail
      go_ret
      exact ⟨rfl, O.out.congr fun i hi => if_pos hi⟩
end Go.Proofs.Ytehdphkaknjlnaa
