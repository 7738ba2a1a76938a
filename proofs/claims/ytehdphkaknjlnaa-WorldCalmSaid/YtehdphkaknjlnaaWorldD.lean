/- world: Peers; headkeep.lags. -/
import Derived.Test.YtehdphkaknjlnaaWorldC
set_option linter.unusedVariables false
namespace Go.Proofs.Ytehdphkaknjlnaa
open Go.RowKit
/-- What Peers lays. -/
def peersV (n : Nat) (s : WS) : List Value := (List.range (n * 3)).map fun q => if q % 3 = 0 then .int .i64 (s.L (q / 3)) else if q % 3 = 1 then .int .i64 (s.P (q / 3)) else .bool (s.L (q / 3) == 0)
theorem peersV_len (n : Nat) (s : WS) : (peersV n s).length = n * 3 := by simp [peersV]
theorem peersV_0 {n i : Nat} (s : WS) (hi : i < n) : (peersV n s)[i * 3]? = some (.int .i64 (s.L i)) := by
  unfold peersV
  rw [List.getElem?_map, List.getElem?_range (by omega)]
  simp only [Option.map_some, show i * 3 % 3 = 0 by omega, show i * 3 / 3 = i by omega, if_pos]
theorem peersV_1 {n i : Nat} (s : WS) (hi : i < n) : (peersV n s)[i * 3 + 1]? = some (.int .i64 (s.P i)) := by
  unfold peersV
  rw [List.getElem?_map, List.getElem?_range (by omega)]
  simp only [Option.map_some, show (i * 3 + 1) % 3 = 1 by omega, show (i * 3 + 1) / 3 = i by omega, if_pos]
  rw [if_neg (by omega)]
theorem peersV_2 {n i : Nat} (s : WS) (hi : i < n) : (peersV n s)[i * 3 + 2]? = some (.bool (s.L i == 0)) := by
  unfold peersV
  rw [List.getElem?_map, List.getElem?_range (by omega)]
  simp only [Option.map_some, show (i * 3 + 2) % 3 = 2 by omega, show (i * 3 + 2) / 3 = i by omega]
  rw [if_neg (by omega), if_neg (by omega)]
theorem peersV_one (n : Nat) (s : WS) : ∀ u ∈ peersV n s, u.oneCell' = true := by
  intro u hu
  unfold peersV at hu
  obtain ⟨q, _, rfl⟩ := List.mem_map.1 hu
  split
  · rfl
  · split <;> rfl
theorem peers_cells {w : World} {bw bp n : Nat} {rate unit : Int} {s : WS} (h : WB w bw bp n rate unit s.L s.P (fun i => s.L i == 0) s.t) : ∀ ad, (some ⟨bp, 0, none⟩ : Option Addr) = some ad → ∀ j u, (peersV n s)[j]? = some u → w.cell? (ad.add j) = some u := by
  rintro ad hA j u hj
  injection hA with hA
  subst hA
  have hjl : j < n * 3 := by have := (List.getElem?_eq_some_iff.1 hj).1; rwa [peersV_len] at this
  rw [Addr.add_lit, Nat.zero_add]
  have e : j = j / 3 * 3 + j % 3 := by omega
  have hi : j / 3 < n := by omega
  have hr : j % 3 = 0 ∨ j % 3 = 1 ∨ j % 3 = 2 := by omega
  rw [e] at hj ⊢
  rcases hr with hr | hr | hr
  · rw [hr, Nat.add_zero] at hj ⊢
    rw [peersV_0 s hi] at hj
    rw [← hj]; exact h.p0 _ hi
  · rw [hr] at hj ⊢
    rw [peersV_1 s hi] at hj
    rw [← hj]; exact h.p1 _ hi
  · rw [hr] at hj ⊢
    rw [peersV_2 s hi] at hj
    rw [← hj]; exact h.p2 _ hi
set_option maxHeartbeats 1600000 in
theorem wpeers_ok (w : World) (bw bp n : Nat) (rate unit : Int) (s : WS) (h : WOk w bw bp n rate unit s) (hn8 : n ≤ 8) :
    Calls Try.prog 16 #[.pointer (some ⟨bw, 0, none⟩)] w fun e w' => ∃ g c, e = .returned (.slice (some ⟨g, 0, none⟩) n c) ∧ w.heap.size ≤ g ∧ w'.ownsRow w.heap.size 36 3 (.slice (some ⟨g, 0, none⟩) n c) n (peersV n s) ∧ Below w.heap.size w w' := by
  have hn : 0 < n := by have := h.2.turn; omega
  have c2 := h.1.c2
  have PC := Lib.hid (peers_cells h.1)
  have PL := Lib.hid (peersV_len n s)
  have PO := Lib.hid (peersV_one n s)
  clear h
  go_enter Try.func16, Try.ntmps16
  go_wp2_with (at_builtin; refine wpList_cat rfl (.const (.slice none 0 0)) (.tmp 6) _ rfl elemPeer w.heap.size _ 0 [] _ n n (peersV n s) rfl rfl (World.ownsRow_nil _ _ _ _) (Below.refl _ _) (Nat.le_refl _) PL.out (fun h => by cases h) PC.out PO.out (by unfold maxLen; omega) (by omega) ?_; intro v' w1 hown1 hb1 hz1 _; rw [Nat.zero_add, List.nil_append] at hown1; obtain ⟨g, cap, rfl, hg1, hg2⟩ := hown1.form hn)
  go_ret
  exact ⟨g, cap, rfl, hg1, hown1, hb1⟩
set_option maxHeartbeats 3200000 in
theorem wlags_ok (w : World) (bw bp n : Nat) (rate unit : Int) (s : WS) (h : WOk w bw bp n rate unit s) (hn8 : n ≤ 8) :
    Calls Try.prog 18 #[.pointer (some ⟨bw, 0, none⟩)] w fun e w' => e = .returned (.int .i64 (wtot s n)) ∧ Below w.heap.size w w' := by
  have HI := Lib.hid h.2
  have HP := Lib.hid (wpeers_ok w bw bp n rate unit s h hn8)
  clear h
  go_enter Try.func18, Try.ntmps18
  go_wp2_with fail
  refine HP.out.mono ?_
  rintro e w1 ⟨g, c, rfl, hg, hown, hb1⟩
  have hgw : g < w1.heap.size := by
    obtain ⟨g', cap, hv, hg1, hg2⟩ := hown.form (by have := HI.out.turn; omega)
    injection hv with e1 e2 e3
    injection e1 with e1
    injection e1 with e1
    omega
  have CL : Hid (∀ w', Below w1.heap.size w1 w' → ∀ i, i < n → w'.cell? ⟨g, i * 3, none⟩ = some (.int .i64 (s.L i)) ∧ w'.cell? ⟨g, i * 3 + 1, none⟩ = some (.int .i64 (s.P i)) ∧ w'.cell? ⟨g, i * 3 + 2, none⟩ = some (.bool (s.L i == 0))) := Lib.hid fun w' hb i hi => by
    refine ⟨(hb.cell (p := ⟨g, i * 3, none⟩) hgw).trans ?_, (hb.cell (p := ⟨g, i * 3 + 1, none⟩) hgw).trans ?_, (hb.cell (p := ⟨g, i * 3 + 2, none⟩) hgw).trans ?_⟩
    · rw [hown.cellAt _ (by omega)]; exact peersV_0 s hi
    · rw [hown.cellAt _ (by omega)]; exact peersV_1 s hi
    · rw [hown.cellAt _ (by omega)]; exact peersV_2 s hi
  have B1 := Lib.hid hb1
  clear hown hb1
  go_wp2_with fail
  go_loopw [9, 3] (fun vi vn wr => ∃ i : Nat, i ≤ n ∧ vi = .int .i64 i ∧ vn = .int .i64 (wtot s i) ∧ Below w1.heap.size w1 wr) (fun vi _ _ => n - (intOf vi).toNat)
  case atStart => exact ⟨0, Nat.zero_le _, rfl, rfl, Below.refl _ _⟩
  case round =>
    obtain ⟨i, hi, rfl, rfl, hb⟩ := hrel
    have HB := Lib.hid hb
    have hz := hb.size
    have hi0 : (0 : Int) ≤ i := by omega
    have tb := tot_nonneg HI.out i hi
    by_cases hlt : i < n
    · have hn1 : (i : Int) < n := by omega
      obtain ⟨d0, d1, d2⟩ := CL.out wr hb i hlt
      have lag := HI.out.lag i hlt
      have part := HI.out.part i hlt
      have TS := Lib.hid (wtot_succ s i)
      obtain ⟨q, hq⟩ : ∃ q, wtot s i = q := ⟨_, rfl⟩
      rw [hq] at tb TS ⊢
      have f1 : IntKind.i64.wrap (s.L i - s.P i) = s.L i - s.P i := IntWalk.i64_in _ ⟨by omega, by omega⟩
      have f2 : IntKind.i64.wrap (q + (s.L i - s.P i)) = q + (s.L i - s.P i) := IntWalk.i64_in _ ⟨by omega, by omega⟩
      clear hb hq
      go_wp2_with fail
      go_roundw
      case rel => exact ⟨i + 1, by omega, by go_num, by rw [TS.out], HB.out.alloc hz _⟩
      case measure => simp [intOf]; omega
    · have hin : i = n := by omega
      subst hin
      have hn1 : ¬ (i : Int) < i := by omega
      clear hb
      go_wp2_with fail
      go_ret
      exact ⟨rfl, B1.out.trans (HB.out.mono B1.out.size)⟩
end Go.Proofs.Ytehdphkaknjlnaa
