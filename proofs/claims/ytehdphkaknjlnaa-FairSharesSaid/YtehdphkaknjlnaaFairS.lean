/- What two flows that wait are served: the plain law. -/
import Derived.Test.YtehdphkaknjlnaaFairP
set_option linter.unusedVariables false
namespace Go.Proofs.Ytehdphkaknjlnaa
open Go.RowKit
/-- What is served of flow f by the first j of the order; how many; the largest of the first k packets; how many of these. -/
def sgot (zs : List Int) (os : List Nat) (f : Nat) : Nat → Int
  | 0 => 0
  | j + 1 => sgot zs os f j + if flw zs (os.getD j 0) = f then fd zs (os.getD j 0) 1 else 0
def scnt (zs : List Int) (os : List Nat) (f : Nat) : Nat → Int
  | 0 => 0
  | j + 1 => scnt zs os f j + if flw zs (os.getD j 0) = f then 1 else 0
def smost (zs : List Int) (f : Nat) : Nat → Int
  | 0 => 0
  | k + 1 => if flw zs k = f then mx (smost zs f k) (fd zs k 1) else smost zs f k
def stot (zs : List Int) (f : Nat) : Nat → Int
  | 0 => 0
  | k + 1 => stot zs f k + if flw zs k = f then 1 else 0
theorem smost_bd {zs : List Int} {n : Nat} (h : Packs zs n) (f k : Nat) (hk : k ≤ n) : 0 ≤ smost zs f k ∧ smost zs f k ≤ 1000 := by
  induction k with
  | zero => exact ⟨Int.le_refl _, by show (0 : Int) ≤ 1000; omega⟩
  | succ k ih =>
    have := ih (by omega)
    have s := h.sz k (by omega)
    show 0 ≤ (if flw zs k = f then mx (smost zs f k) (fd zs k 1) else smost zs f k) ∧ (if flw zs k = f then mx (smost zs f k) (fd zs k 1) else smost zs f k) ≤ 1000
    unfold mx
    split
    · split <;> omega
    · exact this
theorem smost_ge {zs : List Int} {f k i : Nat} (hi : i < k) (hf : flw zs i = f) : fd zs i 1 ≤ smost zs f k := by
  induction k with
  | zero => omega
  | succ k ih =>
    show _ ≤ (if flw zs k = f then mx (smost zs f k) (fd zs k 1) else smost zs f k)
    rcases Nat.lt_or_ge i k with h | h
    · have := ih h
      unfold mx
      split
      · split <;> omega
      · exact this
    · have : i = k := by omega
      subst this
      rw [if_pos hf]
      unfold mx
      split <;> omega
theorem sgot_bd {zs : List Int} {n : Nat} (h : Packs zs n) {os : List Nat} (ho : ∀ j, j < n → os.getD j 0 < n) (f j : Nat) (hj : j ≤ n) : 0 ≤ sgot zs os f j ∧ sgot zs os f j ≤ 1000 * (j : Int) := by
  induction j with
  | zero => exact ⟨Int.le_refl _, by show (0 : Int) ≤ 1000 * 0; omega⟩
  | succ j ih =>
    have := ih (by omega)
    have s := h.sz _ (ho j (by omega))
    show 0 ≤ sgot zs os f j + (if flw zs (os.getD j 0) = f then fd zs (os.getD j 0) 1 else 0) ∧ sgot zs os f j + (if flw zs (os.getD j 0) = f then fd zs (os.getD j 0) 1 else 0) ≤ _
    split <;> push_cast <;> omega
theorem stot_bd (zs : List Int) (f k m : Nat) (hk : k ≤ m) : 0 ≤ stot zs f k ∧ stot zs f k ≤ m := by
  have : ∀ k, 0 ≤ stot zs f k ∧ stot zs f k ≤ k := by
    intro k
    induction k with
    | zero => exact ⟨Int.le_refl _, Int.le_refl _⟩
    | succ k ih =>
      show 0 ≤ stot zs f k + (if flw zs k = f then (1 : Int) else 0) ∧ stot zs f k + (if flw zs k = f then (1 : Int) else 0) ≤ _
      split <;> push_cast <;> omega
  have := this k
  omega
theorem scnt_bd (zs : List Int) (os : List Nat) (f j m : Nat) (hj : j ≤ m) : 0 ≤ scnt zs os f j ∧ scnt zs os f j ≤ m := by
  have : ∀ k, 0 ≤ scnt zs os f k ∧ scnt zs os f k ≤ k := by
    intro k
    induction k with
    | zero => exact ⟨Int.le_refl _, Int.le_refl _⟩
    | succ k ih =>
      show 0 ≤ scnt zs os f k + (if flw zs (os.getD k 0) = f then (1 : Int) else 0) ∧ scnt zs os f k + (if flw zs (os.getD k 0) = f then (1 : Int) else 0) ≤ _
      split <;> push_cast <;> omega
  have := this j
  omega
def sumz : List Int → Int
  | [] => 0
  | x :: r => x + sumz r
theorem sumz_perm {l k : List Int} (h : l.Perm k) : sumz l = sumz k := by
  induction h with
  | nil => rfl
  | cons x _ ih => show x + _ = x + _; rw [ih]
  | swap x y _ => show y + (x + _) = x + (y + _); omega
  | trans _ _ h1 h2 => rw [h1, h2]
theorem sumz_app (a b : List Int) : sumz (a ++ b) = sumz a + sumz b := by
  induction a with
  | nil => show sumz b = 0 + sumz b; omega
  | cons x r ih => show x + sumz (r ++ b) = x + sumz r + sumz b; rw [ih]; omega
/-- A sum over positions, a sum over numbers. -/
def sumN (g : Nat → Int) : Nat → Int
  | 0 => 0
  | k + 1 => sumN g k + g k
theorem sumN_range (g : Nat → Int) (n : Nat) : sumz ((List.range n).map g) = sumN g n := by
  induction n with
  | zero => rfl
  | succ n ih =>
    rw [List.range_succ, List.map_append, sumz_app, ih]
    show _ + (g n + 0) = _ + g n
    omega
theorem sumN_pos (g : Nat → Int) (os : List Nat) : ∀ j, j ≤ os.length → sumz ((os.take j).map g) = sumN (fun q => g (os.getD q 0)) j := by
  intro j
  induction j with
  | zero => intro _; rfl
  | succ j ih =>
    intro hj
    rw [List.take_add_one, List.map_append, sumz_app, ih (by omega), List.getElem?_eq_getElem (by omega)]
    show _ + (g (os[j]'(by omega)) + 0) = _ + g (os.getD j 0)
    rw [List.getD_eq_getElem?_getD, List.getElem?_eq_getElem (by omega)]
    show _ + (g (os[j]'(by omega)) + 0) = _ + g (os[j]'(by omega))
    omega
theorem sumN_perm {os : List Nat} {n : Nat} (h : os.Perm (List.range n)) (g : Nat → Int) : sumN (fun q => g (os.getD q 0)) n = sumN g n := by
  have hl : os.length = n := by simpa using h.length_eq
  rw [← sumN_range g n, ← sumz_perm (h.map g), ← sumN_pos g os n (by omega), List.take_of_length_le (by omega)]
theorem sumN_congr {f g : Nat → Int} {n : Nat} (h : ∀ k, k < n → f k = g k) : sumN f n = sumN g n := by
  induction n with
  | zero => rfl
  | succ n ih => show _ + _ = _ + _; rw [ih fun k hk => h k (by omega), h n (by omega)]
theorem sumN_zero {f : Nat → Int} {a n : Nat} (ha : a ≤ n) (h : ∀ k, a ≤ k → k < n → f k = 0) : sumN f n = sumN f a := by
  induction n with
  | zero => have : a = 0 := by omega
            rw [this]
  | succ n ih =>
    rcases Nat.lt_or_ge n a with h1 | h1
    · have : a = n + 1 := by omega
      rw [this]
    · show sumN f n + f n = _
      rw [h n h1 (by omega), ih h1 fun k hk hk' => h k hk (by omega)]
      omega
/-- What is served of flow f by the first j, as its cost. -/
def gcost (ws zs : List Int) (os : List Nat) (f j : Nat) : Int := sumN (fun q => if flw zs (os.getD q 0) = f then fcost ws zs (os.getD q 0) else 0) j
theorem fpre_sum (ws zs : List Int) (f k : Nat) : fpre ws zs f k = sumN (fun i => if flw zs i = f then fcost ws zs i else 0) k := by
  induction k with
  | zero => rfl
  | succ k ih => show _ + _ = _ + _; rw [ih]
theorem stot_sum (zs : List Int) (f k : Nat) : stot zs f k = sumN (fun i => if flw zs i = f then 1 else 0) k := by
  induction k with
  | zero => rfl
  | succ k ih => show _ + _ = _ + _; rw [ih]
theorem scnt_sum (zs : List Int) (os : List Nat) (f j : Nat) : scnt zs os f j = sumN (fun q => if flw zs (os.getD q 0) = f then 1 else 0) j := by
  induction j with
  | zero => rfl
  | succ j ih => show _ + _ = _ + _; rw [ih]
section
variable {ws zs : List Int} {n : Nat} {os : List Nat}
theorem FOut.slen (h : FOut ws zs n os) : os.length = n := by simpa using h.perm.length_eq
theorem FOut.slt (h : FOut ws zs n os) {i : Nat} (hi : i ∈ os) : i < n := List.mem_range.1 (h.perm.mem_iff.1 hi)
theorem FOut.at_ (h : FOut ws zs n os) {q : Nat} (hq : q < n) : os.getD q 0 = os[q]'(by rw [h.slen]; exact hq) := by
  rw [List.getD_eq_getElem?_getD, List.getElem?_eq_getElem (by rw [h.slen]; exact hq)]
  rfl
theorem FOut.gl (h : FOut ws zs n os) {q : Nat} (hq : q < n) : os.getD q 0 < n := by
  rw [h.at_ hq]
  exact h.slt (List.getElem_mem _)
theorem FOut.up (h : FOut ws zs n os) {p q : Nat} (hp : p < q) (hq : q < n) (hf : flw zs (os.getD p 0) = flw zs (os.getD q 0)) : os.getD p 0 < os.getD q 0 := by
  rw [h.at_ (show p < n by omega), h.at_ hq] at hf ⊢
  exact List.pairwise_iff_getElem.1 h.ord p q (by rw [h.slen]; omega) (by rw [h.slen]; omega) hp hf
theorem FOut.lxs (h : FOut ws zs n os) (hz : ∀ i, i < n → fd zs i 0 = 0) {p q : Nat} (hp : p ≤ q) (hq : q < n) : fst ws zs (os.getD p 0) ≤ fst ws zs (os.getD q 0) := by
  rcases Nat.eq_or_lt_of_le hp with e | e
  · rw [e]; exact Int.le_refl _
  · rw [h.at_ (show p < n by omega), h.at_ hq]
    have := List.pairwise_iff_getElem.1 (h.zero hz) p q (by rw [h.slen]; omega) (by rw [h.slen]; omega) e
    unfold lx at this
    omega
/-- The start of a packet is what is served of its flow ahead of it. -/
theorem FOut.start (h : FOut ws zs n os) {q : Nat} (hq : q < n) : gcost ws zs os (flw zs (os.getD q 0)) q = fst ws zs (os.getD q 0) := by
  obtain ⟨i, hi⟩ : ∃ i, os.getD q 0 = i := ⟨_, rfl⟩
  have hin := h.gl hq
  rw [hi] at hin ⊢
  have e := sumN_perm h.perm (fun k => if flw zs k = flw zs i ∧ k < i then fcost ws zs k else 0)
  have e1 : sumN (fun k => if flw zs k = flw zs i ∧ k < i then fcost ws zs k else 0) n = fst ws zs i := by
    rw [sumN_zero (a := i) (by omega) fun k hk _ => if_neg (by omega)]
    unfold fst
    rw [fpre_sum]
    refine sumN_congr fun k hk => ?_
    by_cases hf : flw zs k = flw zs i
    · rw [if_pos ⟨hf, hk⟩, if_pos hf]
    · rw [if_neg (fun x => hf x.1), if_neg hf]
  have e2 : sumN (fun p => if flw zs (os.getD p 0) = flw zs i ∧ os.getD p 0 < i then fcost ws zs (os.getD p 0) else 0) n = gcost ws zs os (flw zs i) q := by
    rw [sumN_zero (a := q) (by omega) fun p hp hp' => if_neg fun x => ?_]
    · refine sumN_congr fun p hp => ?_
      by_cases hf : flw zs (os.getD p 0) = flw zs i
      · have := h.up hp hq (by rw [hi]; exact hf)
        rw [hi] at this
        rw [if_pos ⟨hf, this⟩, if_pos hf]
      · rw [if_neg (fun x => hf x.1), if_neg hf]
    · rcases Nat.eq_or_lt_of_le hp with e | e
      · rw [← e, hi] at x
        omega
      · have := h.up e hp' (by rw [hi]; exact x.1.symm)
        rw [hi] at this
        omega
  rw [← e1, ← e2]
  exact e
theorem gcost_succ (ws zs : List Int) (os : List Nat) (f j : Nat) : gcost ws zs os f (j + 1) = gcost ws zs os f j + if flw zs (os.getD j 0) = f then fcost ws zs (os.getD j 0) else 0 := rfl
theorem fpre_nn (hw : WOk ws) (hp : Packs zs n) (f k : Nat) (hk : k ≤ n) : 0 ≤ fpre ws zs f k := by
  induction k with
  | zero => exact Int.le_refl _
  | succ k ih =>
    have := ih (by omega)
    have c := fcost_mul hw hp (i := k) (by omega)
    show 0 ≤ fpre ws zs f k + (if flw zs k = f then fcost ws zs k else 0)
    split <;> omega
/-- What is served of a flow costs no more than the last start and its largest packet. -/
theorem gcost_le (h : FOut ws zs n os) (hw : WOk ws) (hp : Packs zs n) {f : Nat} (hf : f < 8) {V : Int} (hV : 0 ≤ V) : ∀ j, j ≤ n → (∀ p, p < j → flw zs (os.getD p 0) = f → fst ws zs (os.getD p 0) ≤ V) → gcost ws zs os f j * gi ws f ≤ V * gi ws f + 840 * smost zs f n := by
  intro j
  have hwf := hw.2 f hf
  have hm := smost_bd hp f n (Nat.le_refl _)
  induction j with
  | zero =>
    intro _ _
    have : 0 ≤ V * gi ws f := Int.mul_nonneg hV (by omega)
    show 0 * gi ws f ≤ _
    omega
  | succ j ih =>
    intro hj hs
    rw [gcost_succ]
    by_cases hfj : flw zs (os.getD j 0) = f
    · have hst := h.start (q := j) (by omega)
      rw [hfj] at hst
      rw [if_pos hfj, hst, Int.add_mul]
      have c := (fcost_mul hw hp (h.gl (q := j) (by omega))).1
      rw [hfj] at c
      have ge := smost_ge (h.gl (q := j) (by omega)) hfj
      have mv : fst ws zs (os.getD j 0) * gi ws f ≤ V * gi ws f := Int.mul_le_mul_of_nonneg_right (hs j (by omega) hfj) (by omega)
      omega
    · rw [if_neg hfj, Int.add_zero]
      exact ih (by omega) fun p hp' hf' => hs p (by omega) hf'
theorem gcost_mul (h : FOut ws zs n os) (hw : WOk ws) (hp : Packs zs n) (f : Nat) : ∀ j, j ≤ n → gcost ws zs os f j * gi ws f = 840 * sgot zs os f j := by
  intro j
  induction j with
  | zero => intro _; show 0 * _ = 840 * 0; omega
  | succ j ih =>
    intro hj
    rw [gcost_succ, Int.add_mul, ih (by omega)]
    show _ = 840 * (sgot zs os f j + if flw zs (os.getD j 0) = f then fd zs (os.getD j 0) 1 else 0)
    by_cases hfj : flw zs (os.getD j 0) = f
    · have c := (fcost_mul hw hp (h.gl (q := j) (by omega))).1
      rw [hfj] at c
      rw [if_pos hfj, if_pos hfj, c]
      omega
    · rw [if_neg hfj, if_neg hfj]
      omega
/-- A flow that has packets yet has been served at least up to the last start. -/
theorem gcost_ge (h : FOut ws zs n os) (hw : WOk ws) (hp : Packs zs n) (hz : ∀ i, i < n → fd zs i 0 = 0) {f j : Nat} (hj : j < n) (hl : stot zs f n - scnt zs os f j ≠ 0) : fst ws zs (os.getD j 0) ≤ gcost ws zs os f (j + 1) := by
  have hex : ∃ q, j ≤ q ∧ q < n ∧ flw zs (os.getD q 0) = f := by
    refine Classical.byContradiction fun hno => hl ?_
    rw [stot_sum, scnt_sum, ← sumN_perm h.perm]
    have := sumN_zero (f := fun q => if flw zs (os.getD q 0) = f then (1 : Int) else 0) (a := j) (n := n) (by omega) fun q hq hq' => if_neg fun e => hno ⟨q, hq, hq', e⟩
    rw [this]
    omega
  have key : ∀ d q, q = j + d → q < n → flw zs (os.getD q 0) = f → ∃ q, j ≤ q ∧ q < n ∧ flw zs (os.getD q 0) = f ∧ gcost ws zs os f q = gcost ws zs os f j := by
    intro d
    induction d with
    | zero => intro q e hq hf; exact ⟨q, by omega, hq, hf, by rw [e]; rfl⟩
    | succ d ih =>
      intro q e hq hf
      by_cases hm : ∃ p, j ≤ p ∧ p < q ∧ flw zs (os.getD p 0) = f
      · have least : ∀ m p, p < j + m → j ≤ p → p < n → flw zs (os.getD p 0) = f → ∃ q, j ≤ q ∧ q < n ∧ flw zs (os.getD q 0) = f ∧ ∀ r, j ≤ r → r < q → flw zs (os.getD r 0) ≠ f := by
          intro m
          induction m with
          | zero => intro p h1 h2; omega
          | succ m ihm =>
            intro p h1 h2 h3 h4
            by_cases hr : ∃ r, j ≤ r ∧ r < p ∧ flw zs (os.getD r 0) = f
            · obtain ⟨r, r1, r2, r3⟩ := hr
              exact ihm r (by omega) r1 (by omega) r3
            · exact ⟨p, h2, h3, h4, fun r r1 r2 r3 => hr ⟨r, r1, r2, r3⟩⟩
        obtain ⟨p, p1, p2, p3⟩ := hm
        obtain ⟨q', q1, q2, q3, q4⟩ := least (n + 1) p (by omega) p1 (by omega) p3
        exact ⟨q', q1, q2, q3, sumN_zero q1 fun r r1 r2 => if_neg (q4 r r1 r2)⟩
      · exact ⟨q, by omega, hq, hf, sumN_zero (by omega) fun r r1 r2 => if_neg fun e => hm ⟨r, r1, r2, e⟩⟩
  obtain ⟨q0, a1, a2, a3⟩ := hex
  obtain ⟨q, b1, b2, b3, b4⟩ := key (q0 - j) q0 (by omega) a2 a3
  have hst := h.start b2
  rw [b3, b4] at hst
  have hle := h.lxs hz b1 b2
  rw [gcost_succ]
  have c := fcost_mul hw hp (h.gl hj)
  split <;> omega
theorem fair_bound (h : FOut ws zs n os) (hw : WOk ws) (hp : Packs zs n) (hz : ∀ i, i < n → fd zs i 0 = 0) {a b j : Nat} (ha : a < 8) (hb : b < 8) (hj : j < n) (hl : stot zs b n - scnt zs os b j ≠ 0) :
    sgot zs os a (j + 1) * gi ws b - sgot zs os b (j + 1) * gi ws a ≤ smost zs a n * gi ws b := by
  have V0 : 0 ≤ fst ws zs (os.getD j 0) := fpre_nn hw hp _ _ (Nat.le_of_lt (h.gl hj))
  have k1 := gcost_le h hw hp ha V0 (j + 1) hj fun p hp' _ => h.lxs hz (by omega) hj
  have k2 := gcost_ge h hw hp hz hj hl
  have k3 := gcost_mul h hw hp a (j + 1) hj
  have k4 := gcost_mul h hw hp b (j + 1) hj
  have wa := hw.2 a ha
  have wb := hw.2 b hb
  generalize fst ws zs (os.getD j 0) = V at *
  generalize gcost ws zs os a (j + 1) = A at *
  generalize gcost ws zs os b (j + 1) = B at *
  generalize sgot zs os a (j + 1) = ga at *
  generalize sgot zs os b (j + 1) = gb' at *
  generalize smost zs a n = m at *
  generalize gi ws a = x at *
  generalize gi ws b = y at *
  have hx : x = 1 ∨ x = 2 ∨ x = 3 ∨ x = 4 ∨ x = 5 ∨ x = 6 ∨ x = 7 ∨ x = 8 := by omega
  have hy : y = 1 ∨ y = 2 ∨ y = 3 ∨ y = 4 ∨ y = 5 ∨ y = 6 ∨ y = 7 ∨ y = 8 := by omega
  clear wa wb h hw hp hz hl hj ha hb
  rcases hx with rfl | rfl | rfl | rfl | rfl | rfl | rfl | rfl <;> rcases hy with rfl | rfl | rfl | rfl | rfl | rfl | rfl | rfl <;> omega
end
end Go.Proofs.Ytehdphkaknjlnaa
