/- turns.Check; flows that came in. -/
import Derived.Test.YtpifknmoimlpoaaOpenFl
import Derived.Test.YtpifknmoimlpoaaOwnT
import Derived.Test.YtpifknmoimlpoaaTurnP
set_option linter.unusedVariables false
namespace Go.Proofs.Ytpifknmoimlpoaa
open Go.RowKit
/-- n flows, below block B. -/
structure FlS (w : World) (B : Nat) (A : Option Addr) (n : Nat) (q : Nat → Int) (hd : Nat → Option Addr × Nat × Nat) (ls : Nat → List Int) : Prop where
  sl : Sl w B A (n * 2) (flv q hd n)
  inner : ∀ i, i < n → Sl w B (hd i).1 (hd i).2.1 (ints (ls i))
section
variable {w w' : World} {B B' n : Nat} {A : Option Addr} {q : Nat → Int} {hd : Nat → Option Addr × Nat × Nat} {ls : Nat → List Int}
theorem FlS.below (h : FlS w B A n q hd ls) (hb : Below B w w') : FlS w' B A n q hd ls := ⟨h.sl.below hb, fun i hi => (h.inner i hi).below hb⟩
theorem FlS.more (h : FlS w B A n q hd ls) (hB : B ≤ B') : FlS w B' A n q hd ls := ⟨h.sl.more hB, fun i hi => (h.inner i hi).more hB⟩
theorem FlS.on (h : FlS w w.heap.size A n q hd ls) (hb : Below w.heap.size w w') : FlS w' w'.heap.size A n q hd ls := (h.below hb).more hb.size
theorem FlS.at_ (h : FlS w B A n q hd ls) {i : Nat} (hi : i < n) : ∃ b off, A = some ⟨b, off, none⟩ ∧ b < B ∧ w.cell? ⟨b, off + i * 2, none⟩ = some (.int .i64 (q i)) ∧ w.cell? ⟨b, off + i * 2 + 1, none⟩ = some (.slice (hd i).1 (hd i).2.1 (hd i).2.2) := by
  obtain ⟨b, off, e, hb, hc⟩ := h.sl.2 (by omega)
  exact ⟨b, off, e, hb, hc (i * 2) _ (flv_q hi), by rw [Nat.add_assoc]; exact hc (i * 2 + 1) _ (flv_s hi)⟩
theorem FlS.cells (h : FlS w B A n q hd ls) {i : Nat} (hi : i < n) {b off : Nat} (e : A = some ⟨b, off, none⟩) : w.cell? ⟨b, off + i * 2, none⟩ = some (.int .i64 (q i)) ∧ w.cell? ⟨b, off + i * 2 + 1, none⟩ = some (.slice (hd i).1 (hd i).2.1 (hd i).2.2) := by
  obtain ⟨b', off', e', hb, h0, h1⟩ := h.at_ hi
  rw [e] at e'
  injection e' with e'
  injection e' with e1 e2
  subst e1 e2
  exact ⟨h0, h1⟩
theorem FlS.len (h : FlS w B A n q hd ls) {i : Nat} (hi : i < n) : (ls i).length = (hd i).2.1 := (h.inner i hi).int_len
end
def szOk (l : List Int) : Bool := l.all fun z => decide (1 ≤ z ∧ z ≤ 1000)
/-- What is wrong with a flow. -/
def tbad (q : Int) (l : List Int) : Int := if q < 1 ∨ 1000 < q then 1 else if 60 < l.length then 2 else if szOk l = true then 0 else 1
def tfirst (q : Nat → Int) (ls : Nat → List Int) : Nat → Int
  | 0 => 0
  | k + 1 => if tfirst q ls k = 0 then tbad (q k) (ls k) else tfirst q ls k
def tchk (n : Nat) (q : Nat → Int) (ls : Nat → List Int) : Int := if 8 < n then 2 else tfirst q ls n
section
variable {q : Nat → Int} {ls : Nat → List Int}
theorem tfirst_stay {k : Nat} (h : tfirst q ls k ≠ 0) (j : Nat) (hj : k ≤ j) : tfirst q ls j = tfirst q ls k := by
  induction j with
  | zero => obtain rfl : k = 0 := by omega
            rfl
  | succ j ih =>
    rcases Nat.lt_or_ge j k with h' | h'
    · obtain rfl : k = j + 1 := by omega
      rfl
    · show (if tfirst q ls j = 0 then _ else tfirst q ls j) = _
      rw [ih h', if_neg h]
theorem tfirst_at {k : Nat} (h0 : tfirst q ls k = 0) {v : Int} (hv : tbad (q k) (ls k) = v) (h : v ≠ 0) (n : Nat) (hk : k < n) : tfirst q ls n = v := by
  have e : tfirst q ls (k + 1) = v := by
    show (if tfirst q ls k = 0 then _ else _) = _
    rw [if_pos h0, hv]
  rw [tfirst_stay (k := k + 1) (by rw [e]; exact h) n hk, e]
theorem tfirst_next {k : Nat} (h0 : tfirst q ls k = 0) (h : tbad (q k) (ls k) = 0) : tfirst q ls (k + 1) = 0 := by
  show (if tfirst q ls k = 0 then _ else _) = _
  rw [if_pos h0, h]
theorem tfirst_all {n : Nat} (h : tfirst q ls n = 0) : ∀ k, k < n → tbad (q k) (ls k) = 0 := by
  intro k hk
  refine Classical.byContradiction fun hb => ?_
  have h0 : tfirst q ls k = 0 := Classical.byContradiction fun hne => hne (by rw [← tfirst_stay hne n (by omega)]; exact h)
  exact hb (by rw [tfirst_at h0 rfl hb n hk] at h; exact h)
theorem szOk_iff {l : List Int} : szOk l = true ↔ ∀ i, i < l.length → 1 ≤ gi l i ∧ gi l i ≤ 1000 := by
  unfold szOk
  rw [List.all_eq_true]
  constructor
  · intro h i hi
    exact of_decide_eq_true (h _ (gi_mem hi))
  · intro h z hz
    obtain ⟨i, hi, rfl⟩ := List.mem_iff_getElem.1 hz
    have := h i hi
    rw [gi_eq hi] at this
    exact decide_eq_true this
theorem tchk_ok {n : Nat} (h : tchk n q ls = 0) : n ≤ 8 ∧ ∀ k, k < n → QOk (q k) (ls k) := by
  unfold tchk at h
  split at h
  · cases h
  · refine ⟨by omega, fun k hk => ?_⟩
    have hb := tfirst_all h k hk
    unfold tbad at hb
    split at hb
    · cases hb
    · split at hb
      · cases hb
      · split at hb
        · rename_i h1 h2 h3
          have h3' := szOk_iff.1 h3
          exact ⟨by omega, by omega, by omega, fun i hi => (h3' i hi).1, fun i hi => (h3' i hi).2⟩
        · cases hb
end
set_option maxHeartbeats 3200000 in
theorem tcheck_t (A : Option Addr) (n c : Nat) (q : Nat → Int) (hd : Nat → Option Addr × Nat × Nat) (ls : Nat → List Int) (W : World) (hs : FlS W W.heap.size A n q hd ls) (hnn : n ≤ 9223372036854775807) (hdb : ∀ i, i < n → (hd i).2.1 ≤ 9223372036854775807) :
    Calls Try.prog 16 #[.slice A n c] W fun e w' => e = .returned (.int .i64 (tchk n q ls)) ∧ Below W.heap.size W w' := by
  have SS := Lib.hid hs
  have DB := Lib.hid hdb
  clear hs hdb
  by_cases h8 : 8 < n
  · have hf : Hid (tchk n q ls = 2) := by unfold tchk; rw [if_pos h8]; rfl
    have g1 : 8 < (n : Int) := by omega
    go_enter Try.func16, Try.ntmps16
    go_wp2_with fail
    go_ret
    exact ⟨ret_int hf.out.symm, Below.refl _ _⟩
  · have hf : Hid (tchk n q ls = tfirst q ls n) := by unfold tchk; rw [if_neg h8]; rfl
    have g1 : ¬ 8 < (n : Int) := by omega
    have hn : n ≤ 8 := by omega
    go_enter Try.func16, Try.ntmps16
    go_wp2_with fail
    go_loopw [12] (fun i wr => ∃ k : Nat, k ≤ n ∧ i = .int .i64 k ∧ Hid (tfirst q ls k = 0) ∧ Hid (Below W.heap.size W wr)) (fun i _ => n - (intOf i).toNat)
    case atStart => exact ⟨0, Nat.zero_le _, rfl, Lib.hid rfl, Lib.hid (Below.refl _ _)⟩
    case round =>
      obtain ⟨k, hk, rfl, hc0, HB⟩ := hrel
      have hz := HB.out.size
      have hk0 : (0 : Int) ≤ k := by omega
      by_cases hlt : k < n
      · obtain ⟨b, off, rfl, hbl, c0, c1⟩ := (SS.out.below HB.out).at_ hlt
        have hn1 : (k : Int) < n := by omega
        have SI := Lib.hid ((SS.out.below HB.out).inner k hlt)
        have dbk := DB.out k hlt
        have lk := (SS.out.below HB.out).len hlt
        obtain ⟨qk, hq⟩ : ∃ x, q k = x := ⟨_, rfl⟩
        obtain ⟨⟨sa, sn, sc⟩, hsd⟩ : ∃ x, hd k = x := ⟨_, rfl⟩
        obtain ⟨l, hl⟩ : ∃ x, ls k = x := ⟨_, rfl⟩
        rw [hsd] at SI c1 dbk lk
        rw [hl] at SI lk
        rw [hq] at c0
        have HT : Hid (∀ v, tbad qk l = v → v ≠ 0 → tfirst q ls n = v) := Lib.hid fun v hv h0 => tfirst_at hc0.out (by rw [hq, hl]; exact hv) h0 n hlt
        have HT0 : Hid (tbad qk l = 0 → tfirst q ls (k + 1) = 0) := Lib.hid fun hv => tfirst_next hc0.out (by rw [hq, hl]; exact hv)
        have LK := Lib.hid lk
        clear hq hsd hl lk
        dsimp only at c1 dbk
        have BA := Lib.hid (HB.out.alloc hz (.cells #[.int .i64 qk, .slice sa sn sc] 29))
        have SA := Lib.hid (SI.out.below ((Below.refl W.heap.size wr).alloc hz (.cells #[.int .i64 qk, .slice sa sn sc] 29)))
        by_cases hq1 : qk < 1
        · have hp : Hid (tbad qk l = 1) := by show _ = _; unfold tbad; rw [if_pos (.inl hq1)]
          go_wp2_with fail
          go_ret
          exact ⟨ret_int (by rw [hf.out, HT.out 1 hp.out (by decide)]), BA.out⟩
        by_cases hq2 : 1000 < qk
        · have hp : Hid (tbad qk l = 1) := by show _ = _; unfold tbad; rw [if_pos (.inr hq2)]
          go_wp2_with fail
          go_ret
          exact ⟨ret_int (by rw [hf.out, HT.out 1 hp.out (by decide)]), BA.out⟩
        by_cases h60 : 60 < sn
        · have hp : Hid (tbad qk l = 2) := by show _ = _; unfold tbad; rw [if_neg (by omega), if_pos (by rw [LK.out]; exact h60)]
          have g2 : 60 < (sn : Int) := by omega
          go_wp2_with fail
          go_ret
          exact ⟨ret_int (by rw [hf.out, HT.out 2 hp.out (by decide)]), BA.out⟩
        have g2 : ¬ 60 < (sn : Int) := by omega
        have hs60 : sn ≤ 60 := by omega
        have HP : Hid (tbad qk l = if szOk l = true then 0 else 1) := by show _ = _; unfold tbad; rw [if_neg (by omega), if_neg (by rw [LK.out]; exact h60)]
        go_wp2_with fail
        obtain ⟨wa, hwa⟩ : ∃ wa, wr.alloc (.cells #[.int .i64 qk, .slice sa sn sc] 29) = wa := ⟨_, rfl⟩
        rw [hwa] at BA SA ⊢
        clear c0 c1 hwa
        go_loopw [31] (fun i w => ∃ j : Nat, j ≤ sn ∧ i = .int .i64 j ∧ Hid (∀ i, i < j → 1 ≤ gi l i ∧ gi l i ≤ 1000) ∧ w = wa) (fun i _ => sn - (intOf i).toNat)
        case atStart => exact ⟨0, Nat.zero_le _, rfl, Lib.hid (fun i hi => absurd hi (by omega)), rfl⟩
        case round =>
          obtain ⟨j, hj, rfl, hall, rfl⟩ := hrel
          have hj0 : (0 : Int) ≤ j := by omega
          by_cases hjl : j < sn
          · obtain ⟨b2, o2, rfl, hb2, c2⟩ := SA.out.int_at hjl
            have hn2 : (j : Int) < sn := by omega
            obtain ⟨z, hz'⟩ : ∃ z, gi l j = z := ⟨_, rfl⟩
            rw [hz'] at c2
            have HZ := Lib.hid hz'
            clear hz'
            have no : Hid (z < 1 ∨ 1000 < z → tbad qk l = 1) := Lib.hid fun hbad => by
              rw [HP.out, if_neg fun h => ?_]
              have := szOk_iff.1 h j (by rw [LK.out]; exact hjl)
              rw [HZ.out] at this
              omega
            by_cases z1 : z < 1
            · have hp := Lib.hid (no.out (.inl z1))
              go_wp2_with fail
              go_ret
              exact ⟨ret_int (by rw [hf.out, HT.out 1 hp.out (by decide)]), BA.out⟩
            by_cases z2 : 1000 < z
            · have hp := Lib.hid (no.out (.inr z2))
              go_wp2_with fail
              go_ret
              exact ⟨ret_int (by rw [hf.out, HT.out 1 hp.out (by decide)]), BA.out⟩
            go_wp2_with fail
            go_roundw
            case rel => exact ⟨j + 1, by omega, by go_num, Lib.hid (fun i hi => by
              rcases Nat.lt_or_ge i j with h | h
              · exact hall.out i h
              · have : i = j := by omega
                rw [this, HZ.out]; omega), by first | trivial | rfl⟩
            case measure => simp [intOf]; omega
          · have hje : j = sn := by omega
            subst hje
            have hn2 : ¬ (j : Int) < j := by omega
            have hp : Hid (tbad qk l = 0) := by show _ = _; rw [HP.out, if_pos (szOk_iff.2 (by rw [LK.out]; exact hall.out))]
            go_wp2_with fail
            go_roundw
            case rel => exact ⟨k + 1, by omega, by go_num, Lib.hid (HT0.out hp.out), BA⟩
            case measure => simp [intOf]; omega
      · have hkn : k = n := by omega
        subst hkn
        have hn1 : ¬ (k : Int) < k := by omega
        go_wp2_with fail
        go_ret
        exact ⟨ret_int (by rw [hf.out, hc0.out]), HB.out⟩
end Go.Proofs.Ytpifknmoimlpoaa
