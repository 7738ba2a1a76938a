/- world: New, Append, Crash, Peers. -/
import Derived.Test.YtehdphkaknjlnaaWorldB
import Derived.Test.YtehdphkaknjlnaaOpen3
set_option linter.unusedVariables false
namespace Go.Proofs.Ytehdphkaknjlnaa
open Go.RowKit
theorem elemPeer : Elem Try.prog 28 36 (.agg #[.int .i64 0, .int .i64 0, .bool false]) 3 24 := by
  obtain ⟨i, h1, h2, h3, h4⟩ := info_parts (P := Try.prog) (e := 36) (z := .agg #[.int .i64 0, .int .i64 0, .bool false]) (size := 3) (bytes := 24) (by kernel_rfl)
  exact ⟨Try.underlying28, ⟨i, h1, h2, h3, h4⟩, rfl, by decide, by decide⟩
def peerZ (n : Nat) : Array Value := madeCells #[.int .i64 0, .int .i64 0, .bool false] (n * 3)
theorem peerZ_get {n i j : Nat} (hi : i < n) (hj : j < 3) : (peerZ n)[i * 3 + j]? = some (#[Value.int .i64 0, .int .i64 0, .bool false][j]!) := by
  unfold peerZ madeCells
  rw [Array.getElem?_map, Array.getElem?_eq_getElem (by simp; omega), Array.getElem_range]
  show some (#[Value.int .i64 0, .int .i64 0, .bool false][(i * 3 + j) % 3]!) = _
  rw [show (i * 3 + j) % 3 = j by omega]
theorem makePeers (n : Nat) (hn : n ≤ 1000) (w : World) : (Instr.makeSlice 28 (.int .i64 (n : Int)) (.int .i64 (n : Int))).run Try.prog w = .ok (.slice (some ⟨w.heap.size, 0, none⟩) n n) (w.alloc (.cells (peerZ n) 36)) := by
  obtain ⟨ib, hib, hib0, hib1, hib2⟩ := elemPeer.info
  have h := run_make (P := Try.prog) w 28 36 ib _ elemPeer.under hib hib0 .i64 .i64 n n (by omega) (Int.le_refl _) (by rw [hib2]; omega) (by omega)
  rw [hib1, Int.toNat_natCast] at h
  exact h
theorem wb_new (W : World) (n : Nat) (rate unit : Int) : WB ((W.alloc (.cells (peerZ n) 36)).alloc (.cells #[.int .i64 rate, .int .i64 unit, .slice (some ⟨W.heap.size, 0, none⟩) n n, .int .i64 0] 76)) (W.heap.size + 1) W.heap.size n rate unit (fun _ => 0) (fun _ => 0) (fun _ => false) 0 := by
  have hz : (W.alloc (.cells (peerZ n) 36)).heap.size = W.heap.size + 1 := by simp
  have pc : ∀ i j, i < n → j < 3 → ((W.alloc (.cells (peerZ n) 36)).alloc (.cells #[.int .i64 rate, .int .i64 unit, .slice (some ⟨W.heap.size, 0, none⟩) n n, .int .i64 0] 76)).cell? ⟨W.heap.size, i * 3 + j, none⟩ = some (#[Value.int .i64 0, .int .i64 0, .bool false][j]!) := fun i j hi hj => by
    rw [World.cell?_alloc_lt _ _ _ (by simp), World.cell?_alloc_at _ _ _ _ rfl]
    exact peerZ_get hi hj
  have wc : ∀ j, ((W.alloc (.cells (peerZ n) 36)).alloc (.cells #[.int .i64 rate, .int .i64 unit, .slice (some ⟨W.heap.size, 0, none⟩) n n, .int .i64 0] 76)).cell? ⟨W.heap.size + 1, j, none⟩ = #[Value.int .i64 rate, .int .i64 unit, .slice (some ⟨W.heap.size, 0, none⟩) n n, .int .i64 0][j]? := fun j => World.cell?_alloc_at _ _ _ _ hz.symm
  exact ⟨wc 0, wc 1, wc 2, wc 3, fun i hi => pc i 0 hi (by omega), fun i hi => pc i 1 hi (by omega), fun i hi => pc i 2 hi (by omega), fun q => World.frozen?_alloc_at _ _ _ _ hz.symm, fun q => by rw [World.frozen?_alloc_past _ _ _ (by simp)]; exact World.frozen?_alloc_at _ _ _ _ rfl, by omega, by simp, by simp; omega⟩
set_option maxRecDepth 100000 in
set_option maxHeartbeats 3200000 in
theorem wnew_ok (n : Nat) (rate unit : Int) (W : World) (h1 : 1 ≤ n) (h2 : n ≤ 8) (h3 : 0 ≤ rate) (h4 : rate ≤ 1000) (h5 : 1 ≤ unit) (h6 : unit ≤ 1000) :
    Calls Try.prog 15 #[.int .i64 (n : Int), .int .i64 rate, .int .i64 unit] W fun e w' => e = .returned (.tuple #[.pointer (some ⟨W.heap.size + 1, 0, none⟩), .int .i64 0]) ∧ WOk w' (W.heap.size + 1) W.heap.size n rate unit ⟨fun _ => 0, fun _ => 0, 0⟩ ∧ Below W.heap.size W w' := by
  have hmk := makePeers n (by omega)
  have W0 := Lib.hid (wb_new W n rate unit)
  have O0 := Lib.hid (((Below.refl W.heap.size W).alloc (Nat.le_refl _) (.cells (peerZ n) 36)).alloc (by simp) (.cells #[.int .i64 rate, .int .i64 unit, .slice (some ⟨W.heap.size, 0, none⟩) n n, .int .i64 0] 76))
  have g1 : ¬ (n : Int) < 1 := by omega
  have g2 : ¬ (8 : Int) < n := by omega
  have g3 : ¬ rate < 0 := by omega
  have g4 : ¬ (1000 : Int) < rate := by omega
  have g5 : ¬ unit < 1 := by omega
  have g6 : ¬ (1000 : Int) < unit := by omega
  have c2 := W0.out.c2
  go_enter Try.func15, Try.ntmps15
  go_wp2_with fail
  obtain ⟨w1, hw1⟩ : ∃ w1, ((W.alloc (.cells (peerZ n) 36)).alloc (.cells #[.int .i64 rate, .int .i64 unit, .slice (some ⟨W.heap.size, 0, none⟩) n n, .int .i64 0] 76)) = w1 := ⟨_, rfl⟩
  rw [hw1] at W0 O0 c2 ⊢
  clear hw1 c2 hmk g1 g2 g3 g4 g5 g6
  go_loopw [43] (fun vi wr => ∃ i : Nat, i ≤ n ∧ vi = .int .i64 i ∧ WB wr (W.heap.size + 1) W.heap.size n rate unit (fun _ => 0) (fun _ => 0) (fun k => decide (k < i)) 0 ∧ Below W.heap.size W wr) (fun vi _ => n - (intOf vi).toNat)
  case atStart => exact ⟨0, Nat.zero_le _, rfl, W0.out.congr (fun _ _ => rfl) (fun _ _ => rfl) (fun k _ => by simp), O0.out⟩
  case round =>
    obtain ⟨i, hi, rfl, hw, hb⟩ := hrel
    have HW := Lib.hid hw
    have HB := Lib.hid hb
    have hi0 : (0 : Int) ≤ i := by omega
    have c2 := hw.c2
    by_cases hlt : i < n
    · have hn1 : (i : Int) < n := by omega
      have dp := hw.p2 i hlt
      have fp := hw.fp
      have W2 := Lib.hid (hw.setD hlt true)
      have B2 := Lib.hid (hb.setCell (p := ⟨W.heap.size, i * 3 + 2, none⟩) (Nat.le_refl _) (.bool true))
      clear hw hb
      go_wp2_with fail
      go_roundw
      case rel =>
        refine ⟨i + 1, by omega, by go_num, W2.out.congr (fun _ _ => rfl) (fun _ _ => rfl) (fun k _ => ?_), B2.out⟩
        by_cases hki : k = i
        · subst hki; simp
        · rw [if_neg hki]; exact decide_eq_decide.2 (by omega)
      case measure => simp [intOf]; omega
    · have hin : i = n := by omega
      subst hin
      have hn1 : ¬ (i : Int) < i := by omega
      clear hw hb c2
      go_wp2_with fail
      go_ret2
      exact ⟨rfl, ⟨HW.out.congr (fun _ _ => rfl) (fun _ _ => rfl) (fun k hk => by simp [hk]), ⟨fun k hk => ⟨Int.le_refl _, by show (0 : Int) ≤ 1000000; omega⟩, fun k hk => ⟨Int.le_refl _, by show (0 : Int) < unit; omega, .inl rfl⟩, by show 0 < i; omega⟩⟩, HB.out⟩
/-- What Append makes of a world, and answers. -/
def wapp (n : Nat) (m : Int) (s : WS) : WS × Int := if ∀ i, i < n → s.L i + m ≤ 1000000 then (⟨fun i => s.L i + m, s.P, s.t⟩, 0) else (s, 2)
theorem inv_app {n : Nat} {u m : Int} {s : WS} (h : WInv n u s) (hm : 0 ≤ m) : WInv n u (wapp n m s).1 := by
  unfold wapp
  split
  · rename_i hc
    refine ⟨fun i hi => ⟨?_, hc i hi⟩, fun i hi => ?_, h.turn⟩
    · show 0 ≤ s.L i + m
      have := (h.lag i hi).1; omega
    · show 0 ≤ s.P i ∧ s.P i < u ∧ (s.P i = 0 ∨ s.P i < s.L i + m)
      have := h.part i hi; omega
  · exact h
set_option maxRecDepth 100000 in
set_option maxHeartbeats 6400000 in
theorem wappend_ok (w : World) (bw bp n : Nat) (rate unit m : Int) (s : WS) (h : WOk w bw bp n rate unit s) (hn8 : n ≤ 8) (hm : 0 ≤ m) (hm2 : m ≤ 1000000) :
    Calls Try.prog 17 #[.pointer (some ⟨bw, 0, none⟩), .int .i64 m] w fun e w' => e = .returned (.int .i64 (wapp n m s).2) ∧ WOk w' bw bp n rate unit (wapp n m s).1 ∧ Only bw bp w w' := by
  have HI := Lib.hid h.2
  have HW := Lib.hid h.1
  have c2 := h.1.c2
  have g1 : ¬ m < 0 := by omega
  clear h
  go_enter Try.func17, Try.ntmps17
  go_wp2_with fail
  clear c2
  go_loopw [15] (fun vi wr => ∃ k : Nat, k ≤ n ∧ vi = .int .i64 k ∧ Hid (∀ j, j < k → s.L j + m ≤ 1000000) ∧ Below w.heap.size w wr) (fun vi _ => n - (intOf vi).toNat)
  case atStart => exact ⟨0, Nat.zero_le _, rfl, Lib.hid (fun j hj => by omega), Below.refl _ _⟩
  case round =>
    obtain ⟨k, hk, rfl, hall, hb⟩ := hrel
    have HB := Lib.hid hb
    have hk0 : (0 : Int) ≤ k := by omega
    have hw := HW.out.on hb
    have HW1 := Lib.hid hw
    have hz := hb.size
    by_cases hlt : k < n
    · have hn1 : (k : Int) < n := by omega
      have d0 := hw.p0 k hlt
      have d1 := hw.p1 k hlt
      have d2 := hw.p2 k hlt
      have lag := HI.out.lag k hlt
      clear hw hb
      by_cases hbig : 1000000 - s.L k < m
      · have NO : Hid (wapp n m s = (s, 2)) := if_neg fun h => by have := h k hlt; omega
        go_wp2_with fail
        go_ret
        rw [NO.out]
        exact ⟨rfl, ⟨HW1.out.alloc _, HI.out⟩, (Only.of_below HB.out).alloc _⟩
      · have OKK : Hid (s.L k + m ≤ 1000000) := by show _ ≤ _; omega
        have gb : ¬ 1000000 - s.L k < m := hbig
        clear hbig
        go_wp2_with fail
        go_roundw
        case rel =>
          refine ⟨k + 1, by omega, by go_num, Lib.hid fun j hj => ?_, HB.out.alloc hz _⟩
          rcases Nat.lt_or_ge j k with h' | h'
          · exact hall.out j h'
          · obtain rfl : j = k := by omega
            exact OKK.out
        case measure => simp [intOf]; omega
    · have hkn : k = n := by omega
      subst hkn
      have hn1 : ¬ (k : Int) < k := by omega
      have YES : Hid (wapp k m s = (⟨fun i => s.L i + m, s.P, s.t⟩, 0)) := if_pos hall.out
      have c2 := hw.c2
      clear hw hb
      go_wp2_with fail
      clear c2
      go_loopw [30] (fun vi wr' => ∃ i : Nat, i ≤ k ∧ vi = .int .i64 i ∧ WB wr' bw bp k rate unit (fun j => if j < i then s.L j + m else s.L j) s.P (fun j => (if j < i then s.L j + m else s.L j) == 0) s.t ∧ Only bw bp w wr') (fun vi _ => k - (intOf vi).toNat)
      case atStart => exact ⟨0, Nat.zero_le _, rfl, HW1.out.congr (fun j _ => by rw [if_neg (Nat.not_lt_zero j)]) (fun _ _ => rfl) (fun j _ => by rw [if_neg (Nat.not_lt_zero j)]), Only.of_below HB.out⟩
      case round =>
        obtain ⟨i, hi, rfl, hw2, ho2⟩ := hrel
        have HW2 := Lib.hid hw2
        have HO2 := Lib.hid ho2
        have hi0 : (0 : Int) ≤ i := by omega
        have c2 := hw2.c2
        by_cases hlt2 : i < k
        · have hn2 : (i : Int) < k := by omega
          have d0 := hw2.p0 i hlt2
          simp only [if_neg (Nat.lt_irrefl i)] at d0
          have fp := hw2.fp
          have hne := hw2.ne
          have hne2 : bp ≠ bw := hne.symm
          have lag := HI.out.lag i hlt2
          have hall2 := hall.out i hlt2
          have f1 : IntKind.i64.wrap (s.L i + m) = s.L i + m := IntWalk.i64_in _ ⟨by omega, by omega⟩
          have wb3 := hw2.setL hlt2 (s.L i + m)
          have on3 := ho2.set ⟨bp, i * 3, none⟩ (.inr rfl) (.int .i64 (s.L i + m))
          clear hw2 ho2
          go_wp2_with fail
          clear c2 d0 fp f1
          generalize wr.setCell ⟨bp, i * 3, none⟩ (.int .i64 (s.L i + m)) = w3 at wb3 on3 ⊢
          have c2 := wb3.c2
          have d0 := wb3.p0 i hlt2
          rw [updN_same] at d0
          have d2 := wb3.p2 i hlt2
          have fp := wb3.fp
          have W4 := Lib.hid (wb3.setD hlt2 (s.L i + m == 0)).drew
          have O4 := Lib.hid (on3.set ⟨bp, i * 3 + 2, none⟩ (.inr rfl) (.bool (s.L i + m == 0))).drew
          clear wb3 on3
          go_region_law (fail)
          all_goals
            go_wp2_with fail
            go_roundw
            case rel =>
              refine ⟨i + 1, by omega, by go_num, W4.out.congr (fun j _ => ?_) (fun _ _ => rfl) (fun j _ => ?_), O4.out⟩
              · by_cases hji : j = i
                · subst hji; rw [updN_same, if_pos (by omega)]
                · rw [updN_other hji]
                  by_cases h' : j < i
                  · rw [if_pos h', if_pos (by omega)]
                  · rw [if_neg h', if_neg (by omega)]
              · by_cases hji : j = i
                · subst hji; rw [if_pos rfl, if_pos (by omega)]
                · rw [if_neg hji]
                  by_cases h' : j < i
                  · rw [if_pos h', if_pos (by omega)]
                  · rw [if_neg h', if_neg (by omega)]
            case measure => simp [intOf]; omega
        · have hik : i = k := by omega
          subst hik
          have hn2 : ¬ (i : Int) < i := by omega
          have IA := Lib.hid (inv_app (m := m) HI.out hm)
          rw [YES.out] at IA
          clear hw2 ho2 c2
          go_wp2_with fail
          go_ret
          rw [YES.out]
          exact ⟨rfl, ⟨HW2.out.congr (fun j hj => if_pos hj) (fun _ _ => rfl) (fun j hj => by rw [if_pos hj]), IA.out⟩, HO2.out⟩
theorem inv_crash {n : Nat} {u : Int} {s : WS} (h : WInv n u s) (i : Nat) (hi : i < n) : WInv n u ⟨s.L, updN s.P i 0, s.t⟩ := by
  refine ⟨h.lag, fun k hk => ?_, h.turn⟩
  show 0 ≤ updN s.P i 0 k ∧ updN s.P i 0 k < u ∧ (updN s.P i 0 k = 0 ∨ updN s.P i 0 k < s.L k)
  have p := h.part i hi
  by_cases hki : k = i
  · subst hki; rw [updN_same]; omega
  · rw [updN_other hki]; exact h.part k hk
theorem wcrash_ok (w : World) (bw bp n i : Nat) (rate unit : Int) (s : WS) (h : WOk w bw bp n rate unit s) (hn8 : n ≤ 8) (hi : i < n) :
    Calls Try.prog 44 #[.pointer (some ⟨bw, 0, none⟩), .int .i64 (i : Int)] w fun e w' => e = .returned (.int .i64 0) ∧ WOk w' bw bp n rate unit ⟨s.L, updN s.P i 0, s.t⟩ ∧ Only bw bp w w' := by
  have HI := Lib.hid h.2
  have HW := Lib.hid h.1
  have c2 := h.1.c2
  have d1 := h.1.p1 i hi
  have fp := h.1.fp
  have g1 : ¬ (i : Int) < 0 := by omega
  have g2 : ¬ (n : Int) ≤ i := by omega
  have g3 : (i : Int) < n := by omega
  have g4 : (0 : Int) ≤ i := by omega
  have W2 := Lib.hid (h.1.setP hi 0)
  have O2 := Lib.hid ((Only.refl bw bp w).set ⟨bp, i * 3 + 1, none⟩ (.inr rfl) (.int .i64 0))
  clear h
  go_enter Try.func44, Try.ntmps44
  go_wp2_with fail
  go_ret
  exact ⟨rfl, ⟨W2.out, inv_crash HI.out i hi⟩, O2.out⟩
end Go.Proofs.Ytehdphkaknjlnaa
