/- slices.Insert of one api.Lease into a slice of the call's own. -/
import Derived.Test.YtpifknmoimlpoaaCloneLease
import Derived.Test.YtpifknmoimlpoaaSetL
import Derived.Deep.RegionLaw
import Derived.Shelf.Spec.SlicesInsert
import Derived.Lib.Overlaps
import Derived.Laws.Externs
set_option linter.unusedVariables false
namespace Go.Proofs.Ytpifknmoimlpoaa
open Go.RowKit
/-- What lies in the row behind an Insert. -/
theorem ins_list {xs vs rest : List Value} {n i : Nat} (hx : xs.length = n * 3) (hv : vs.length = 3) (hr : rest.length = 3) (hi : i ≤ n) :
    setC (setC (xs ++ rest) ((i + 1) * 3) (xs.drop (i * 3))) (i * 3) vs = xs.take (i * 3) ++ vs ++ xs.drop (i * 3) := by
  have hd : (xs.drop (i * 3)).length = n * 3 - i * 3 := by rw [List.length_drop, hx]
  have e1 : setC (xs ++ rest) ((i + 1) * 3) (xs.drop (i * 3)) = (xs ++ rest).take ((i + 1) * 3) ++ xs.drop (i * 3) := by
    rw [setC_eq _ _ _ (by rw [List.length_append, hd]; omega), show (xs ++ rest).drop ((i + 1) * 3 + (xs.drop (i * 3)).length) = [] from List.drop_eq_nil_of_le (by rw [List.length_append, hd]; omega), List.append_nil]
  have l1 : ((xs ++ rest).take ((i + 1) * 3)).length = (i + 1) * 3 := by rw [List.length_take, List.length_append]; omega
  rw [e1, setC_eq _ _ _ (by rw [List.length_append, l1, hd]; omega)]
  congr 1
  · congr 1
    rw [List.take_append_of_le_length (by omega), List.take_take, Nat.min_eq_left (by omega), List.take_append_of_le_length (by omega)]
  · rw [List.drop_append_of_le_length (by omega), List.drop_eq_nil_of_le (by omega), List.nil_append]
theorem ins_list2 {xs vs L : List Value} {n i : Nat} (hx : xs.length = n * 3) (hv : vs.length = 3) (hL : L.length = (n + 1) * 3) (ht : L.take (i * 3) = xs.take (i * 3)) (hi : i ≤ n) :
    setC (setC L (i * 3) vs) ((i + 1) * 3) (xs.drop (i * 3)) = xs.take (i * 3) ++ vs ++ xs.drop (i * 3) := by
  have hd : (xs.drop (i * 3)).length = n * 3 - i * 3 := by rw [List.length_drop, hx]
  have l1 : (L.take (i * 3)).length = i * 3 := by rw [List.length_take]; omega
  rw [setC_eq _ _ _ (by rw [setC_len, hd]; omega), show (setC L (i * 3) vs).drop ((i + 1) * 3 + (xs.drop (i * 3)).length) = [] from List.drop_eq_nil_of_le (by rw [setC_len, hd]; omega), List.append_nil, setC_eq _ _ _ (by omega)]
  congr 1
  rw [List.take_append_of_le_length (by rw [List.length_append, l1]; omega), List.take_of_length_le (by rw [List.length_append, l1]; omega), ht]
theorem shape_lit (w : World) (a b c : Int) (t : TypeId) : (w.alloc (.cells #[.int .i64 a, .int .i64 b, .int .i64 c] t)).shape? w.heap.size = some (t, 3) := by
  have h : (w.alloc (.cells #[.int .i64 a, .int .i64 b, .int .i64 c] t)).heap[w.heap.size]? = some (.cells #[.int .i64 a, .int .i64 b, .int .i64 c] t) := by
    show (w.heap.push _)[w.heap.size]? = _
    simp
  unfold World.shape?
  rw [h]
  rfl
set_option maxHeartbeats 8000000 in
set_option maxRecDepth 100000 in
theorem insLease (base : Nat) (v : Value) (g n cap i : Nat) (xs : List Value) (w0 : World) (x0 x1 x2 : Int) (hown : w0.ownsRow base 87 3 (.slice (some ⟨g, 0, none⟩) n cap) n xs) (hu : ∀ u ∈ xs, u.oneCell' = true) (hg : g < w0.heap.size) (hbase : base ≤ w0.heap.size) (hi : i < n) (hn : n ≤ 100) :
    Calls Try.prog 105 #[.slice (some ⟨g, 0, none⟩) n cap, .int .i64 i, .slice (some ⟨w0.heap.size, 0, none⟩) 1 1] (w0.alloc (.cells #[.int .i64 x0, .int .i64 x1, .int .i64 x2] 87)) fun e w' => ∃ g' cap', e = .returned (.slice (some ⟨g', 0, none⟩) (n + 1) cap') ∧ w'.ownsRow base 87 3 (.slice (some ⟨g', 0, none⟩) (n + 1) cap') (n + 1) (xs.take (i * 3) ++ [.int .i64 x0, .int .i64 x1, .int .i64 x2] ++ xs.drop (i * 3)) ∧ Below base w0 w' := by
  obtain ⟨i0, hi0, hi1, hi2, hi3⟩ := elemLease.info
  have hinf : (Try.prog.info? 87).map (·.size) = some 3 := by rw [hi0]; simp [hi2]
  have hxl := hown.1
  obtain ⟨cur, hbg, hgc, hnc, hcm, hcs, hct⟩ := own_parts hown
  obtain ⟨w, hw⟩ : ∃ w, w0.alloc (.cells #[.int .i64 x0, .int .i64 x1, .int .i64 x2] 87) = w := ⟨_, rfl⟩
  have OW : w.ownsRow base 87 3 (.slice (some ⟨g, 0, none⟩) n cap) n xs := by rw [← hw]; exact World.ownsRow.alloc hown _
  have BW : Below base w0 w := by rw [← hw]; exact (Below.refl base w0).alloc hbase _
  have hws : w.heap.size = w0.heap.size + 1 := by rw [← hw]; simp
  obtain ⟨vb, hvb⟩ : ∃ vb, w0.heap.size = vb := ⟨_, rfl⟩
  have hsa : w.shape? vb = some (87, 3) := by rw [← hw, ← hvb]; exact shape_lit w0 x0 x1 x2 _
  obtain ⟨vs, hvs⟩ : ∃ vs, [Value.int .i64 x0, .int .i64 x1, .int .i64 x2] = vs := ⟨_, rfl⟩
  have hvl : vs.length = 3 := by rw [← hvs]; rfl
  have hv1 : ∀ u ∈ vs, u.oneCell' = true := by rw [← hvs]; simp [Value.oneCell']
  have hvc : ∀ j u, vs[j]? = some u → w.cell? ⟨vb, 0 + j, none⟩ = some u := fun j u hj => by
    rw [← hw, ← hvb, Nat.zero_add, World.cell?_alloc_at _ _ _ _ rfl]
    rw [← hvs] at hj
    simpa using hj
  have hfv : ∀ q, w.frozen? ⟨vb, q, none⟩ = false := fun q => by rw [← hw, ← hvb]; exact World.frozen?_alloc_at _ _ _ q rfl
  have hgv : g ≠ vb := by omega
  rw [hw, hvs, hvb]
  rw [hvb] at hws hg
  clear hvs hw
  have hsb : w.shape? g = some (87, cap * 3) := by
    unfold World.shape?
    obtain ⟨cur', _, hgc', _, _, hcs', _⟩ := own_parts OW
    rw [hgc']
    simp [hcs']
  have hcap0 : cap * 3 ≠ 0 := by omega
  have hcapm : cap ≤ 9223372036854775807 := by unfold maxLen at hcm; omega
  have e1 : ((1 : Nat) : Int) = 1 := rfl
  have hz2 : ((i : Int) == (n : Int)) = false := by simp; omega
  have hd : (xs.drop (i * 3)).length = (n - i) * 3 := by rw [List.length_drop, hxl]; omega
  have hdu : ∀ u ∈ xs.drop (i * 3), u.oneCell' = true := fun u h => hu u (List.mem_of_mem_drop h)
  have k1 : IntKind.i64.wrap ((n : Int) + 1) = (n : Int) + 1 := IntWalk.i64_in _ ⟨by omega, by omega⟩
  have k2 : IntKind.i64.wrap ((i : Int) + 1) = (i : Int) + 1 := IntWalk.i64_in _ ⟨by omega, by omega⟩
  have k3 : IntKind.i64.wrap ((n : Int) + 1 - (i : Int)) = (n : Int) + 1 - (i : Int) := IntWalk.i64_in _ ⟨by omega, by omega⟩
  have k4 : (0 : Int) ≤ (i : Int) := by omega
  have k5 : (i : Int) ≤ (n : Int) := by omega
  have k6 : (0 : Int) ≤ (i : Int) + 1 := by omega
  have k7 : ((i : Int) + 1).toNat = i + 1 := by omega
  have k8 : (i : Int) + 1 ≤ (n : Int) + 1 := by omega
  have k9 : (0 : Int) ≤ (n : Int) + 1 := by omega
  have k10 : ((n : Int) + 1).toNat = n + 1 := by omega
  have k11 : (n : Int) ≤ cap := by omega
  have k12 : ¬ cap = i := by omega
  have k13 : (i : Int) ≤ cap := by omega
  have k14 : i ≤ cap := by omega
  have k15 : (i : Int) ≤ (n : Int) + 1 := by omega
  by_cases hroom : n + 1 ≤ cap
  · have r1 : ¬ (cap : Int) < (n : Int) + 1 := by omega
    have r2 : (n : Int) + 1 ≤ cap := by omega
    have r3 : ¬ cap = i + 1 := by omega
    have r4 : (i : Int) + 1 ≤ cap := by omega
    have hov : ∀ lb cb, (callFunc 112 #[.slice (some ⟨vb, 0, none⟩) 1 1, .slice (some ⟨g, (i + 1) * 3, none⟩) lb cb]).run Try.prog w = .ok (.value (.bool false)) w := fun lb cb => by
      rw [run_callFunc_extern Try.func112 (by kernel_rfl) (by kernel_rfl) (by kernel_rfl) (e := Extern.SlicesOverlaps.overlaps #[85, 85] #[4]) (by kernel_rfl),
        Lib.run_overlaps_apart w 85 4 87 Try.underlying85 3 (fun w => Try.sizeOf87 w) ⟨vb, 0, none⟩ ⟨g, (i + 1) * 3, none⟩ 1 1 lb cb (fun h => hgv h.symm) 87 87 3 (cap * 3) hsa hsb hcap0 (hfv 0) (hfv 3)]
      rfl
    obtain ⟨rest, hrl, OL⟩ := own_longer OW (show n ≤ n + 1 by omega) hroom
    have hrl3 : rest.length = 3 := by rw [hrl]; omega
    have OD : w.drew.ownsRow base 87 3 (.slice (some ⟨g, 0, none⟩) (n + 1) cap) (n + 1) (xs ++ rest) := OL.drew
    have cell : ∀ q, q < (n + 1) * 3 → (w.drew.cell? ⟨g, q, none⟩).isSome = true := fun q hq => by
      rw [OD.cellAt q hq, List.getElem?_eq_getElem (by rw [List.length_append, hxl, hrl3]; omega)]; rfl
    have hcp1 : ∀ ty dc sc, (Builtin.copy_ #[85, 85] ty #[.slice (some ⟨g, (i + 1) * 3, none⟩) (n - i) dc, .slice (some ⟨g, i * 3, none⟩) (n + 1 - i) sc]).run Try.prog w.drew = .ok (goInt ((n - i : Nat) : Int)) (w.drew.setCells g ((i + 1) * 3) (xs.drop (i * 3))) := fun ty dc sc =>
      run_copy_k w.drew _ _ ty 87 3 g ((i + 1) * 3) (n - i) dc ⟨g, i * 3, none⟩ (n + 1 - i) sc (n - i) (xs.drop (i * 3)) Try.underlying85 hinf (by simp only [Nat.min_def]; split <;> omega) hd
        (fun j u hj => by
          have hjl : j < (xs.drop (i * 3)).length := (List.getElem?_eq_some_iff.1 hj).1
          rw [Addr.add_lit, OD.cellAt _ (by omega), List.getElem?_append_left (by omega), ← List.getElem?_drop]; exact hj)
        (fun j hj => cell _ (by omega)) (fun j hj => OD.frozenAt _) hdu
    have O1 := own_setC (xs.drop (i * 3)) w.drew _ ((i + 1) * 3) OD
    have B1 := below_setC (xs.drop (i * 3)) w.drew ((i + 1) * 3) BW.drew hbg
    obtain ⟨W1, hW1⟩ : ∃ W1, w.drew.setCells g ((i + 1) * 3) (xs.drop (i * 3)) = W1 := ⟨_, rfl⟩
    rw [hW1] at O1 B1
    simp only [hW1] at hcp1
    have hv2 : ∀ j u, vs[j]? = some u → W1.cell? ⟨vb, 0 + j, none⟩ = some u := fun j u hj => by
      rw [← hW1, World.cell?_setCells_out _ _ _ _ _ (fun h _ => absurd h.symm hgv)]; exact hvc j u hj
    have l1 := setC_len (xs.drop (i * 3)) (xs ++ rest) ((i + 1) * 3)
    have hcp2 : ∀ ty dc, (Builtin.copy_ #[85, 85] ty #[.slice (some ⟨g, i * 3, none⟩) (n + 1 - i) dc, .slice (some ⟨vb, 0, none⟩) 1 1]).run Try.prog W1 = .ok (goInt ((1 : Nat) : Int)) (W1.setCells g (i * 3) vs) := fun ty dc =>
      run_copy_k W1 _ _ ty 87 3 g (i * 3) (n + 1 - i) dc ⟨vb, 0, none⟩ 1 1 1 vs Try.underlying85 hinf (by simp only [Nat.min_def]; split <;> omega) (by rw [hvl])
        (fun j u hj => by rw [Addr.add_lit]; exact hv2 j u hj)
        (fun j hj => by rw [O1.cellAt _ (by omega), List.getElem?_eq_getElem (by rw [l1, List.length_append, hxl, hrl3]; omega)]; rfl) (fun j hj => O1.frozenAt _) hv1
    have O2 := own_setC vs W1 _ (i * 3) O1
    rw [ins_list hxl hvl hrl3 (by omega)] at O2
    have B2 := below_setC vs W1 (i * 3) B1 hbg
    have O3 := Lib.hid O2
    have B3 := Lib.hid B2
    clear hW1 O1 B1 O2 B2 OD OL cell hv2 l1 hown OW BW hct hcs hgc hvc hfv hd hdu hxl hu
    go_enter Try.func105, Try.ntmps105
    go_wp2_with (simp only [hov])
    go_region_law (refine step_copy_runI rfl (.tmp 73) (.tmp 76) 85 85 rfl _ _ (by simp [Act.eval, Act.put]) (by simp [Act.eval, Act.put]) (hcp1 _ _ _) ?_)
    go_wp2_with (at_builtin; refine wpList_copy_runI _ rfl (.tmp 80) (.tmp 81) 85 85 rfl _ _ rfl rfl (hcp2 _ _) ?_)
    go_ret
    exact ⟨g, cap, rfl, O3.out, B3.out⟩
  · have r1 : (cap : Int) < (n : Int) + 1 := by omega
    obtain ⟨G, hG⟩ : ∃ G, G = grownCap w (n + 1) cap 87 := ⟨_, rfl⟩
    have hGn : n + 1 ≤ G := by rw [hG]; exact grownCap_ge w _ _ _
    have hGm : G ≤ maxLen := by rw [hG]; exact grownCap_le_maxLen w (n + 1) cap _ (by unfold maxLen; omega)
    have hG63 : G ≤ 9223372036854775807 := by unfold maxLen at hGm; omega
    obtain ⟨ROW, hROW⟩ : ∃ ROW : Array Value, ROW = (xs.take (i * 3)).toArray ++ Builtin.zeroCells (Value.agg #[.int .i64 0, .int .i64 0, .int .i64 0]).cells (n + 1 - i) ++ Builtin.zeroCells (Value.agg #[.int .i64 0, .int .i64 0, .int .i64 0]).cells (G - (n + 1)) := ⟨_, rfl⟩
    have hRs : ROW.size = G * 3 := by
      rw [hROW, Array.size_append, Array.size_append, size_zeroCells, size_zeroCells, List.size_toArray, List.length_take, hxl]
      rw [show (Value.agg #[.int .i64 0, .int .i64 0, .int .i64 0]).cells.size = 3 from rfl]
      omega
    have hRt : (ROW.toList.take ((n + 1) * 3)).take (i * 3) = xs.take (i * 3) := by
      rw [List.take_take, Nat.min_eq_left (by omega), hROW, Array.toList_append, Array.toList_append, List.append_assoc, List.toList_toArray, List.take_append_of_le_length (by rw [List.length_take, hxl]; omega), List.take_take, Nat.min_self]
    have hold : (Builtin.firstCells i0.size i (.slice (some ⟨g, 0, none⟩) i cap)).run Try.prog w.drew = .ok (xs.take (i * 3)).toArray w.drew := by
      rw [hi2]
      exact run_firstCells_some w.drew 3 i ⟨g, 0, none⟩ i cap (xs.take (i * 3)) (by rw [List.length_take, hxl]; omega) (fun j u hj => by
        rw [Addr.add_lit, Nat.zero_add]
        rw [List.getElem?_take] at hj
        split at hj
        · rw [(OW.drew).cellAt j (by omega)]; exact hj
        · cases hj)
    have hik : i + (n + 1 - i) = n + 1 := by omega
    have hkk : (n : Int) + 1 - (i : Int) = ((n + 1 - i : Nat) : Int) := by omega
    have hrz : ∀ ty, (Builtin.append_ #[85, 3] ty #[.slice (some ⟨g, 0, none⟩) i cap, .int .i64 ((n : Int) + 1 - (i : Int))]).run Try.prog w = .ok (.slice (some ⟨w.heap.size, 0, none⟩) (n + 1) G) (w.drew.alloc (.cells ROW 87)) := fun ty => by
      have h := Lib.run_append_grow_zeros w 85 3 ty 87 i0 _ .i64 .i64 Try.underlying85 Try.underlying3 hi0 hi1 (some ⟨g, 0, none⟩) i cap (xs.take (i * 3)) hold (n + 1 - i) (by omega) (by omega) (by omega) (by omega) (by rw [hi3]; omega) (by rw [hi3, hik]; exact growslice_fits (by omega) (by omega))
      rw [hik, ← hG, ← hROW] at h
      rw [hkk]
      exact h
    obtain ⟨vn, hvn⟩ : ∃ vn, w.heap.size = vn := ⟨_, rfl⟩
    have hvng : g ≠ vn := by omega
    have hvnv : vb ≠ vn := by omega
    obtain ⟨W1, hW1⟩ : ∃ W1, w.drew.alloc (.cells ROW 87) = W1 := ⟨_, rfl⟩
    have O1 : W1.ownsRow base 87 3 (.slice (some ⟨vn, 0, none⟩) (n + 1) G) (n + 1) (ROW.toList.take ((n + 1) * 3)) := by
      refine ⟨by rw [List.length_take, Array.length_toList, hRs]; omega, .inr ⟨vn, G, ROW, rfl, by omega, ?_, hGn, hGm, hRs, rfl⟩⟩
      rw [← hW1, ← hvn]
      exact heap_alloc_new w.drew _
    have B1 : Below base w0 W1 := by rw [← hW1]; exact BW.drew.alloc (by show base ≤ w.heap.size; omega) _
    have c1g : ∀ q u, w.cell? ⟨g, q, none⟩ = some u → W1.cell? ⟨g, q, none⟩ = some u := fun q u h => by rw [← hW1, World.cell?_alloc_lt w.drew _ _ (by show g < w.heap.size; omega)]; exact h
    have c1v : ∀ q u, w.cell? ⟨vb, q, none⟩ = some u → W1.cell? ⟨vb, q, none⟩ = some u := fun q u h => by rw [← hW1, World.cell?_alloc_lt w.drew _ _ (by show vb < w.heap.size; omega)]; exact h
    rw [hvn, hW1] at hrz
    have lL : (ROW.toList.take ((n + 1) * 3)).length = (n + 1) * 3 := O1.1
    have hcpA : ∀ ty dc, (Builtin.copy_ #[85, 85] ty #[.slice (some ⟨vn, i * 3, none⟩) (n + 1 - i) dc, .slice (some ⟨vb, 0, none⟩) 1 1]).run Try.prog W1 = .ok (goInt ((1 : Nat) : Int)) (W1.setCells vn (i * 3) vs) := fun ty dc =>
      run_copy_k W1 _ _ ty 87 3 vn (i * 3) (n + 1 - i) dc ⟨vb, 0, none⟩ 1 1 1 vs Try.underlying85 hinf (by simp only [Nat.min_def]; split <;> omega) (by rw [hvl])
        (fun j u hj => by rw [Addr.add_lit]; exact c1v _ _ (hvc j u hj))
        (fun j hj => by rw [O1.cellAt _ (by omega), List.getElem?_eq_getElem (by rw [lL]; omega)]; rfl) (fun j hj => O1.frozenAt _) hv1
    have O2 := (own_setC vs W1 _ (i * 3) O1).drew
    have B2 := (below_setC vs W1 (i * 3) B1 (show base ≤ vn by omega)).drew
    have c2g : ∀ q u, w.cell? ⟨g, q, none⟩ = some u → (W1.setCells vn (i * 3) vs).drew.cell? ⟨g, q, none⟩ = some u := fun q u h => by
      show (W1.setCells vn (i * 3) vs).cell? ⟨g, q, none⟩ = some u
      rw [World.cell?_setCells_out _ _ _ _ _ (fun h _ => absurd h hvng)]; exact c1g q u h
    obtain ⟨W2, hW2⟩ : ∃ W2, W1.setCells vn (i * 3) vs = W2 := ⟨_, rfl⟩
    rw [hW2] at O2 B2
    simp only [hW2] at hcpA c2g
    have l2 := setC_len vs (ROW.toList.take ((n + 1) * 3)) (i * 3)
    have hcpB : ∀ ty dc sc, (Builtin.copy_ #[85, 85] ty #[.slice (some ⟨vn, (i + 1) * 3, none⟩) (n - i) dc, .slice (some ⟨g, i * 3, none⟩) (n - i) sc]).run Try.prog W2.drew = .ok (goInt ((n - i : Nat) : Int)) (W2.drew.setCells vn ((i + 1) * 3) (xs.drop (i * 3))) := fun ty dc sc =>
      run_copy_k W2.drew _ _ ty 87 3 vn ((i + 1) * 3) (n - i) dc ⟨g, i * 3, none⟩ (n - i) sc (n - i) (xs.drop (i * 3)) Try.underlying85 hinf (by simp only [Nat.min_def]; split <;> omega) hd
        (fun j u hj => by
          have hjl : j < (xs.drop (i * 3)).length := (List.getElem?_eq_some_iff.1 hj).1
          rw [Addr.add_lit]
          refine c2g _ _ ?_
          rw [OW.cellAt _ (by omega), ← List.getElem?_drop]; exact hj)
        (fun j hj => by rw [O2.cellAt _ (by omega), List.getElem?_eq_getElem (by rw [l2, lL]; omega)]; rfl) (fun j hj => O2.frozenAt _) hdu
    have O3 := own_setC (xs.drop (i * 3)) W2.drew _ ((i + 1) * 3) O2
    rw [ins_list2 hxl hvl lL hRt (by omega)] at O3
    have B3 := below_setC (xs.drop (i * 3)) W2.drew ((i + 1) * 3) B2 (show base ≤ vn by omega)
    have O4 := Lib.hid O3
    have B4 := Lib.hid B3
    have q1 : ¬ G = i := by omega
    have q2 : ¬ G = i + 1 := by omega
    have q3 : (i : Int) + 1 ≤ G := by omega
    have q4 : (n : Int) + 1 ≤ G := by omega
    clear hW1 hW2 O1 B1 O2 B2 O3 B3 OW BW hold hik hkk hG hROW hRs hRt c1g c1v c2g l2 lL hown hct hcs hgc hvc hfv hd hdu hxl hu hsa hsb
    go_enter Try.func105, Try.ntmps105
    go_wp2_with (first
      | (at_builtin; refine Lib.wpList_append_run _ rfl (.tmp 34) (.tmp 39) _ _ rfl _ _ rfl rfl _ _ (hrz _) ?_)
      | (at_builtin; refine wpList_copy_runI _ rfl (.tmp 43) (.tmp 44) 85 85 rfl _ _ rfl rfl (hcpA _ _) ?_))
    go_region_law (refine step_copy_runI rfl (.tmp 50) (.tmp 53) 85 85 rfl _ _ (by simp [Act.eval, Act.put]) (by simp [Act.eval, Act.put]) (hcpB _ _ _) ?_)
    go_wp2_with fail
    go_ret
    exact ⟨vn, G, rfl, O4.out, B4.out⟩
end Go.Proofs.Ytpifknmoimlpoaa
