/- What flows send, turn by turn: the plain law. -/
import Derived.Test.YtpifknmoimlpoaaBase
set_option linter.unusedVariables false
namespace Go.Proofs.Ytpifknmoimlpoaa
open Go.RowKit
/-- Of the packets r with credit s: how many are sent, and what is left. -/
def eat : List Int → Int → Nat × Int
  | [], s => (0, s)
  | x :: r, s => if x ≤ s then ((eat r (s - x)).1 + 1, (eat r (s - x)).2) else (0, s)
def turn1 (q : Int) (l : List Int) (st : Nat × Int) : Nat × Int :=
  if st.1 = l.length then st else (st.1 + (eat (l.drop st.1) (st.2 + q)).1, if st.1 + (eat (l.drop st.1) (st.2 + q)).1 = l.length then 0 else (eat (l.drop st.1) (st.2 + q)).2)
def tst (q : Int) (l : List Int) : Nat → Nat × Int
  | 0 => (0, 0)
  | m + 1 => turn1 q l (tst q l m)
/-- The first k sizes together. -/
def tpre (l : List Int) : Nat → Int
  | 0 => 0
  | k + 1 => tpre l k + gi l k
structure QOk (q : Int) (l : List Int) : Prop where
  q1 : 1 ≤ q
  q2 : q ≤ 1000
  len : l.length ≤ 60
  lo : ∀ i, i < l.length → 1 ≤ gi l i
  hi : ∀ i, i < l.length → gi l i ≤ 1000
theorem drop_gi {l : List Int} {k : Nat} (h : k < l.length) : l.drop k = gi l k :: l.drop (k + 1) := by
  rw [List.drop_eq_getElem_cons h]
  congr 1
  simp [gi, h]
theorem eat_more {l : List Int} {k : Nat} {s : Int} (h : k < l.length) (hs : gi l k ≤ s) : eat (l.drop k) s = ((eat (l.drop (k + 1)) (s - gi l k)).1 + 1, (eat (l.drop (k + 1)) (s - gi l k)).2) := by
  rw [drop_gi h]
  show (if gi l k ≤ s then _ else _) = _
  rw [if_pos hs]
theorem eat_stop {l : List Int} {k : Nat} {s : Int} (h : k < l.length) (hs : s < gi l k) : eat (l.drop k) s = (0, s) := by
  rw [drop_gi h]
  show (if gi l k ≤ s then _ else _) = _
  rw [if_neg (by omega)]
theorem eat_end {l : List Int} {k : Nat} {s : Int} (h : l.length ≤ k) : eat (l.drop k) s = (0, s) := by
  rw [List.drop_of_length_le h]
  rfl
/-- What eating leaves: it conserves, stays within, and stops where the next is too large. -/
theorem eat_law {q : Int} {l : List Int} (h : QOk q l) : ∀ (d k : Nat) (s : Int), k + d = l.length → 0 ≤ s →
    k + (eat (l.drop k) s).1 ≤ l.length ∧ 0 ≤ (eat (l.drop k) s).2 ∧ tpre l (k + (eat (l.drop k) s).1) + (eat (l.drop k) s).2 = tpre l k + s ∧ (k + (eat (l.drop k) s).1 < l.length → (eat (l.drop k) s).2 < gi l (k + (eat (l.drop k) s).1)) := by
  intro d
  induction d with
  | zero =>
    intro k s hk hs
    rw [eat_end (by omega)]
    exact ⟨by show k + 0 ≤ _; omega, hs, rfl, fun h' => by have : k + 0 < l.length := h'; omega⟩
  | succ d ih =>
    intro k s hk hs
    by_cases hc : gi l k ≤ s
    · have r := ih (k + 1) (s - gi l k) (by omega) (by omega)
      rw [eat_more (by omega) hc]
      have e : k + ((eat (l.drop (k + 1)) (s - gi l k)).1 + 1) = k + 1 + (eat (l.drop (k + 1)) (s - gi l k)).1 := by omega
      show k + ((eat (l.drop (k + 1)) (s - gi l k)).1 + 1) ≤ _ ∧ _ ∧ tpre l (k + ((eat (l.drop (k + 1)) (s - gi l k)).1 + 1)) + _ = _ ∧ (k + ((eat (l.drop (k + 1)) (s - gi l k)).1 + 1) < _ → _ < gi l (k + ((eat (l.drop (k + 1)) (s - gi l k)).1 + 1)))
      rw [e]
      refine ⟨r.1, r.2.1, ?_, r.2.2.2⟩
      rw [r.2.2.1]
      show tpre l k + gi l k + _ = _
      omega
    · rw [eat_stop (by omega) (by omega)]
      exact ⟨by show k + 0 ≤ _; omega, hs, rfl, fun _ => by show s < gi l (k + 0); rw [Nat.add_zero]; omega⟩
/-- After m turns. -/
structure TSt (q : Int) (l : List Int) (m : Nat) (st : Nat × Int) : Prop where
  le : st.1 ≤ l.length
  s0 : 0 ≤ st.2
  go : st.1 < l.length → st.2 < gi l st.1 ∧ tpre l st.1 + st.2 = m * q
  fin : st.1 = l.length → st.2 = 0
  all : tpre l st.1 ≤ m * q
theorem tst_ok {q : Int} {l : List Int} (h : QOk q l) : ∀ m, TSt q l m (tst q l m) := by
  intro m
  induction m with
  | zero =>
    refine ⟨Nat.zero_le _, Int.le_refl _, fun h0 => ⟨?_, ?_⟩, fun _ => rfl, ?_⟩
    · have := h.lo 0 h0
      show (0 : Int) < gi l 0
      omega
    · show (0 : Int) + 0 = ((0 : Nat) : Int) * q
      simp
    · show (0 : Int) ≤ ((0 : Nat) : Int) * q
      simp
  | succ m ih =>
    have e : ((m + 1 : Nat) : Int) * q = m * q + q := by push_cast; rw [Int.add_mul, Int.one_mul]
    have hq := h.q1
    show TSt q l (m + 1) (turn1 q l (tst q l m))
    unfold turn1
    split
    · rename_i hd
      have := ih.all
      exact ⟨ih.le, ih.s0, fun h' => by omega, ih.fin, by rw [e]; omega⟩
    · rename_i hd
      have lt : (tst q l m).1 < l.length := by have := ih.le; omega
      have s0 := ih.s0
      obtain ⟨r1, r2, r3, r4⟩ := eat_law h (l.length - (tst q l m).1) (tst q l m).1 ((tst q l m).2 + q) (by omega) (by omega)
      have g := (ih.go lt).2
      refine ⟨r1, ?_, fun h' => ?_, fun h' => if_pos h', ?_⟩
      · dsimp only
        split <;> omega
      · have hne : ¬ (tst q l m).1 + (eat (l.drop (tst q l m).1) ((tst q l m).2 + q)).1 = l.length := by
          have : (tst q l m).1 + (eat (l.drop (tst q l m).1) ((tst q l m).2 + q)).1 < l.length := h'
          omega
        dsimp only
        rw [if_neg hne, e]
        exact ⟨r4 h', by omega⟩
      · show tpre l ((tst q l m).1 + _) ≤ _
        rw [e]
        omega
theorem tst_up {q : Int} {l : List Int} (h : QOk q l) (m : Nat) : (tst q l m).1 ≤ (tst q l (m + 1)).1 := by
  show _ ≤ (turn1 q l (tst q l m)).1
  unfold turn1
  split
  · exact Nat.le_refl _
  · exact Nat.le_add_right _ _
theorem tst_mono {q : Int} {l : List Int} (h : QOk q l) {m n : Nat} (hm : m ≤ n) : (tst q l m).1 ≤ (tst q l n).1 := by
  induction n with
  | zero => have : m = 0 := by omega
            rw [this]; exact Nat.le_refl _
  | succ n ih =>
    rcases Nat.eq_or_lt_of_le hm with e | e
    · rw [e]; exact Nat.le_refl _
    · exact Nat.le_trans (ih (by omega)) (tst_up h n)
theorem tpre_mono {q : Int} {l : List Int} (h : QOk q l) {a b : Nat} (hab : a ≤ b) (hb : b ≤ l.length) : tpre l a ≤ tpre l b := by
  induction b with
  | zero => have : a = 0 := by omega
            rw [this]; exact Int.le_refl _
  | succ b ih =>
    rcases Nat.eq_or_lt_of_le hab with e | e
    · rw [e]; exact Int.le_refl _
    · have := ih (by omega) (by omega)
      have := h.lo b (by omega)
      show _ ≤ tpre l b + gi l b
      omega
theorem tpre_lt {q : Int} {l : List Int} (h : QOk q l) {a b : Nat} (hab : a < b) (hb : b ≤ l.length) : tpre l a < tpre l b := by
  have := tpre_mono h (a := a + 1) (b := b) (by omega) hb
  have h1 := h.lo a (by omega)
  have : tpre l a + gi l a ≤ tpre l b := this
  omega
theorem tpre_bd {q : Int} {l : List Int} (h : QOk q l) {a : Nat} (ha : a ≤ l.length) : 0 ≤ tpre l a ∧ tpre l a ≤ 1000 * (a : Int) := by
  induction a with
  | zero => exact ⟨Int.le_refl _, by show (0 : Int) ≤ _; simp⟩
  | succ a ih =>
    have := ih (by omega)
    have h1 := h.lo a (by omega)
    have h2 := h.hi a (by omega)
    show 0 ≤ tpre l a + gi l a ∧ tpre l a + gi l a ≤ _
    push_cast
    omega
/-- Who is not through has not had many turns. -/
theorem tst_few {q : Int} {l : List Int} (h : QOk q l) {m : Nat} (hl : (tst q l m).1 < l.length) : m < 60000 := by
  have t := tst_ok h m
  obtain ⟨g1, g2⟩ := t.go hl
  have b := (tpre_bd h (a := (tst q l m).1 + 1) (by omega)).2
  have hq := h.q1
  have hlen := h.len
  have : tpre l ((tst q l m).1 + 1) = tpre l (tst q l m).1 + gi l (tst q l m).1 := rfl
  have mq : (m : Int) ≤ m * q := by
    have := Int.mul_le_mul_of_nonneg_left hq (show (0 : Int) ≤ m by omega)
    omega
  push_cast at b
  omega
/-- The bound of Shreedhar and Varghese. -/
theorem tst_short {q : Int} {l : List Int} (h : QOk q l) (m : Nat) {M : Int} (hM : ∀ i, i < l.length → gi l i ≤ M) :
    tpre l (tst q l m).1 ≤ m * q ∧ tpre l (tst q l m).1 ≤ tpre l l.length ∧ (tpre l (tst q l m).1 < tpre l l.length → m * q - M < tpre l (tst q l m).1) := by
  have t := tst_ok h m
  refine ⟨t.all, tpre_mono h t.le (Nat.le_refl _), fun hlt => ?_⟩
  rcases Nat.lt_or_ge (tst q l m).1 l.length with hl | hl
  · obtain ⟨g1, g2⟩ := t.go hl
    have := hM _ hl
    omega
  · have : (tst q l m).1 = l.length := by have := t.le; omega
    rw [this] at hlt
    omega
theorem tst_fair {q q' : Int} {l l' : List Int} (h : QOk q l) (h' : QOk q' l') (m : Nat) {M M' : Int} (hM : ∀ i, i < l.length → gi l i ≤ M) (hM' : ∀ i, i < l'.length → gi l' i ≤ M')
    (hn : tpre l (tst q l m).1 ≠ tpre l l.length) (hn' : tpre l' (tst q' l' m).1 ≠ tpre l' l'.length) :
    tpre l (tst q l m).1 * q' - tpre l' (tst q' l' m).1 * q < M * q' + M' * q ∧ tpre l' (tst q' l' m).1 * q - tpre l (tst q l m).1 * q' < M * q' + M' * q := by
  have one : ∀ {q : Int} {l : List Int} {M : Int}, QOk q l → (∀ i, i < l.length → gi l i ≤ M) → tpre l (tst q l m).1 ≠ tpre l l.length → ∃ s : Int, 0 ≤ s ∧ s < M ∧ tpre l (tst q l m).1 = m * q - s := by
    intro q l M h hM hn
    have t := tst_ok h m
    rcases Nat.lt_or_ge (tst q l m).1 l.length with hl | hl
    · obtain ⟨g1, g2⟩ := t.go hl
      have := hM _ hl
      exact ⟨(tst q l m).2, t.s0, by omega, by omega⟩
    · have : (tst q l m).1 = l.length := by have := t.le; omega
      rw [this] at hn
      exact absurd rfl hn
  obtain ⟨s, a0, a1, a2⟩ := one h hM hn
  obtain ⟨s', b0, b1, b2⟩ := one h' hM' hn'
  rw [a2, b2, Int.sub_mul, Int.sub_mul]
  have e : (m : Int) * q * q' = m * q' * q := by rw [Int.mul_assoc, Int.mul_comm q q', ← Int.mul_assoc]
  rw [e]
  have hq := h.q1
  have hq' := h'.q1
  have p1 : 0 ≤ s * q' := Int.mul_nonneg a0 (by omega)
  have p2 : 0 ≤ s' * q := Int.mul_nonneg b0 (by omega)
  have p3 : s * q' < M * q' := Int.mul_lt_mul_of_pos_right a1 (by omega)
  have p4 : s' * q < M' * q := Int.mul_lt_mul_of_pos_right b1 (by omega)
  omega
/-! What a whole run sends. -/
section
variable (q : Nat → Int) (ls : Nat → List Int)
/-- What flow k sends in turn m. -/
def told (k m : Nat) : List (Nat × Nat) := (List.range ((tst (q k) (ls k) (m + 1)).1 - (tst (q k) (ls k) m).1)).map fun d => (k, (tst (q k) (ls k) m).1 + d)
/-- What the flows ahead of k send in turn m. -/
def toldTo (m : Nat) : Nat → List (Nat × Nat)
  | 0 => []
  | k + 1 => toldTo m k ++ told q ls k m
def outM (n : Nat) : Nat → List (Nat × Nat)
  | 0 => []
  | m + 1 => outM n m ++ toldTo q ls m n
def lenTo : Nat → Nat
  | 0 => 0
  | k + 1 => lenTo k + (ls k).length
end
def cntT (os : List (Nat × Nat)) (k : Nat) : Nat → Nat
  | 0 => 0
  | j + 1 => cntT os k j + if (os.getD j (0, 0)).1 = k then 1 else 0
/-- Each is the next of its flow; a k is the number of flow k. -/
structure TGood (n : Nat) (os : List (Nat × Nat)) (a : Nat → Nat) : Prop where
  lt : ∀ j, j < os.length → (os.getD j (0, 0)).1 < n
  nx : ∀ j, j < os.length → (os.getD j (0, 0)).2 = cntT os (os.getD j (0, 0)).1 j
  ct : ∀ k, cntT os k os.length = a k
theorem getD_app1 (os : List (Nat × Nat)) (x : Nat × Nat) {j : Nat} (h : j < os.length) : (os ++ [x]).getD j (0, 0) = os.getD j (0, 0) := by
  rw [List.getD_eq_getElem?_getD, List.getD_eq_getElem?_getD, List.getElem?_append_left h]
theorem getD_app2 (os : List (Nat × Nat)) (x : Nat × Nat) : (os ++ [x]).getD os.length (0, 0) = x := by
  rw [List.getD_eq_getElem?_getD, List.getElem?_append_right (Nat.le_refl _)]
  simp
theorem cntT_app (os : List (Nat × Nat)) (x : Nat × Nat) (k : Nat) {j : Nat} (h : j ≤ os.length) : cntT (os ++ [x]) k j = cntT os k j := by
  induction j with
  | zero => rfl
  | succ j ih =>
    show cntT (os ++ [x]) k j + _ = cntT os k j + _
    rw [ih (by omega), getD_app1 os x (by omega)]
theorem cntT_le (os : List (Nat × Nat)) (k : Nat) {i j : Nat} (h : i ≤ j) : cntT os k i ≤ cntT os k j := by
  induction j with
  | zero => have : i = 0 := by omega
            rw [this]; exact Nat.le_refl _
  | succ j ih =>
    rcases Nat.eq_or_lt_of_le h with e | e
    · rw [e]; exact Nat.le_refl _
    · exact Nat.le_trans (ih (by omega)) (Nat.le_add_right _ _)
theorem TGood.push {n : Nat} {os : List (Nat × Nat)} {a : Nat → Nat} (h : TGood n os a) {k : Nat} (hk : k < n) : TGood n (os ++ [(k, a k)]) (fun i => if i = k then a i + 1 else a i) := by
  refine ⟨fun j hj => ?_, fun j hj => ?_, fun i => ?_⟩
  · rw [List.length_append] at hj
    rcases Nat.lt_or_ge j os.length with h1 | h1
    · rw [getD_app1 _ _ h1]; exact h.lt j h1
    · have : j = os.length := by simp at hj; omega
      rw [this, getD_app2]; exact hk
  · rw [List.length_append] at hj
    rcases Nat.lt_or_ge j os.length with h1 | h1
    · rw [getD_app1 _ _ h1, cntT_app _ _ _ (by omega)]; exact h.nx j h1
    · have : j = os.length := by simp at hj; omega
      rw [this, getD_app2, cntT_app _ _ _ (Nat.le_refl _), h.ct]
  · rw [List.length_append]
    show cntT (os ++ [(k, a k)]) i os.length + (if ((os ++ [(k, a k)]).getD os.length (0, 0)).1 = i then 1 else 0) = _
    rw [cntT_app _ _ _ (Nat.le_refl _), h.ct, getD_app2]
    by_cases e : i = k
    · rw [if_pos e, if_pos e.symm]
    · rw [if_neg e, if_neg (fun x => e x.symm)]
      rfl
theorem TGood.congr {n : Nat} {os : List (Nat × Nat)} {a b : Nat → Nat} (h : TGood n os a) (e : ∀ k, a k = b k) : TGood n os b := ⟨h.lt, h.nx, fun k => (h.ct k).trans (e k)⟩
theorem TGood.pushes {n : Nat} {k : Nat} (hk : k < n) : ∀ (c : Nat) (os : List (Nat × Nat)) (a : Nat → Nat), TGood n os a → TGood n (os ++ (List.range c).map fun d => (k, a k + d)) (fun i => if i = k then a i + c else a i) := by
  intro c
  induction c with
  | zero => intro os a h; simpa using h
  | succ c ih =>
    intro os a h
    have := (ih os a h).push hk
    rw [List.range_succ, List.map_append, ← List.append_assoc]
    rw [if_pos rfl] at this
    refine this.congr (fun i => ?_)
    · by_cases e : i = k
      · simp only [if_pos e]; omega
      · simp only [if_neg e]
section
variable {q : Nat → Int} {ls : Nat → List Int} {n : Nat}
theorem toldTo_good (h : ∀ k, k < n → QOk (q k) (ls k)) (m : Nat) (os : List (Nat × Nat)) (hg : TGood n os (fun i => if i < n then (tst (q i) (ls i) m).1 else 0)) : ∀ k, k ≤ n → TGood n (os ++ toldTo q ls m k) (fun i => if i < k then (tst (q i) (ls i) (m + 1)).1 else if i < n then (tst (q i) (ls i) m).1 else 0) := by
  intro k
  induction k with
  | zero => intro _; simpa [toldTo] using hg
  | succ k ih =>
    intro hk
    have := TGood.pushes (k := k) (by omega) ((tst (q k) (ls k) (m + 1)).1 - (tst (q k) (ls k) m).1) _ _ (ih (by omega))
    simp only [if_neg (Nat.lt_irrefl k), if_pos (show k < n by omega)] at this
    show TGood n (os ++ (toldTo q ls m k ++ told q ls k m)) _
    rw [← List.append_assoc]
    refine this.congr fun i => ?_
    by_cases e : i = k
    · subst e
      have := tst_up (h i (by omega)) m
      simp only [if_true, if_neg (Nat.lt_irrefl i), if_pos (show i < n by omega), if_pos (show i < i + 1 by omega)]
      omega
    · simp only [if_neg e]
      by_cases e2 : i < k
      · rw [if_pos e2, if_pos (by omega)]
      · simp only [if_neg e2, if_neg (show ¬ i < k + 1 by omega)]
theorem outM_good (h : ∀ k, k < n → QOk (q k) (ls k)) : ∀ m, TGood n (outM q ls n m) (fun i => if i < n then (tst (q i) (ls i) m).1 else 0) := by
  intro m
  induction m with
  | zero => exact ⟨fun j hj => absurd hj (by simp [outM]), fun j hj => absurd hj (by simp [outM]), fun k => by show 0 = if k < n then 0 else 0; split <;> rfl⟩
  | succ m ih =>
    refine (toldTo_good h m _ ih n (Nat.le_refl _)).congr fun i => ?_
    by_cases e : i < n
    · rw [if_pos e, if_pos e]
    · rw [if_neg e, if_neg e, if_neg e]
def atSum (q : Nat → Int) (ls : Nat → List Int) (m : Nat) : Nat → Nat
  | 0 => 0
  | k + 1 => atSum q ls m k + (tst (q k) (ls k) m).1
theorem toldTo_len (h : ∀ k, k < n → QOk (q k) (ls k)) (m : Nat) : ∀ k, k ≤ n → (toldTo q ls m k).length + atSum q ls m k = atSum q ls (m + 1) k := by
  intro k
  induction k with
  | zero => intro _; rfl
  | succ k ih =>
    intro hk
    have := ih (by omega)
    have u := tst_up (h k (by omega)) m
    show (toldTo q ls m k ++ told q ls k m).length + (atSum q ls m k + (tst (q k) (ls k) m).1) = atSum q ls (m + 1) k + (tst (q k) (ls k) (m + 1)).1
    rw [List.length_append]
    unfold told
    rw [List.length_map, List.length_range]
    omega
theorem outM_len (h : ∀ k, k < n → QOk (q k) (ls k)) (m : Nat) : (outM q ls n m).length = atSum q ls m n := by
  induction m with
  | zero =>
    have : ∀ k, atSum q ls 0 k = 0 := by
      intro k
      induction k with
      | zero => rfl
      | succ k ih => show atSum q ls 0 k + 0 = 0; omega
    rw [this]; rfl
  | succ m ih =>
    show (outM q ls n m ++ toldTo q ls m n).length = _
    rw [List.length_append, ih]
    have := toldTo_len h m n (Nat.le_refl _)
    omega
theorem atSum_le (h : ∀ k, k < n → QOk (q k) (ls k)) (m : Nat) : ∀ k, k ≤ n → atSum q ls m k ≤ lenTo ls k := by
  intro k
  induction k with
  | zero => intro _; exact Nat.le_refl _
  | succ k ih =>
    intro hk
    have := ih (by omega)
    have := (tst_ok (h k (by omega)) m).le
    show atSum q ls m k + (tst (q k) (ls k) m).1 ≤ lenTo ls k + (ls k).length
    omega
/-- All is sent: each flow is through. -/
theorem all_through (h : ∀ k, k < n → QOk (q k) (ls k)) (m : Nat) : ∀ j, j ≤ n → atSum q ls m j = lenTo ls j → ∀ k, k < j → (tst (q k) (ls k) m).1 = (ls k).length := by
  intro j
  induction j with
  | zero => intro _ _ k hk; omega
  | succ j ih =>
    intro hj e k hk
    have a := atSum_le h m j (by omega)
    have b := (tst_ok (h j (by omega)) m).le
    have e' : atSum q ls m j + (tst (q j) (ls j) m).1 = lenTo ls j + (ls j).length := e
    rcases Nat.eq_or_lt_of_le (show k ≤ j by omega) with h1 | h1
    · subst h1; omega
    · exact ih (by omega) (by omega) k h1
/-- Not all is sent: some flow is not through. -/
theorem some_left (h : ∀ k, k < n → QOk (q k) (ls k)) (m : Nat) : ∀ j, j ≤ n → atSum q ls m j < lenTo ls j → ∃ k, k < j ∧ (tst (q k) (ls k) m).1 < (ls k).length := by
  intro j
  induction j with
  | zero => intro _ e; exact absurd e (by show ¬ 0 < 0; omega)
  | succ j ih =>
    intro hj e
    have b := (tst_ok (h j (by omega)) m).le
    have e' : atSum q ls m j + (tst (q j) (ls j) m).1 < lenTo ls j + (ls j).length := e
    rcases Nat.lt_or_ge (atSum q ls m j) (lenTo ls j) with h1 | h1
    · obtain ⟨k, hk, hl⟩ := ih (by omega) h1
      exact ⟨k, by omega, hl⟩
    · exact ⟨j, by omega, by omega⟩
theorem lenTo_le (h : ∀ k, k < n → QOk (q k) (ls k)) : ∀ j, j ≤ n → lenTo ls j ≤ 60 * j := by
  intro j
  induction j with
  | zero => intro _; exact Nat.le_refl _
  | succ j ih =>
    intro hj
    have := ih (by omega)
    have := (h j (by omega)).len
    show lenTo ls j + (ls j).length ≤ _
    omega
/-- What turns.Run answers. -/
structure ROut (q : Nat → Int) (ls : Nat → List Int) (n : Nat) (os : List (Nat × Nat)) : Prop where
  ok : ∀ k, k < n → QOk (q k) (ls k)
  len : os.length = lenTo ls n
  is : ∃ m, os = outM q ls n m ∧ ∀ m', m' < m → (outM q ls n m').length < lenTo ls n
theorem ROut.good {os : List (Nat × Nat)} (h : ROut q ls n os) : TGood n os (fun i => if i < n then (ls i).length else 0) := by
  obtain ⟨m, rfl, _⟩ := h.is
  refine (outM_good h.ok m).congr fun i => ?_
  by_cases e : i < n
  · have l := h.len
    rw [outM_len h.ok] at l
    rw [if_pos e, if_pos e]
    exact all_through h.ok m n (Nat.le_refl _) l i e
  · rw [if_neg e, if_neg e]
/-- Packet j of the run: its flow, its number, what is counted behind it. -/
theorem ROut.at_ {os : List (Nat × Nat)} (h : ROut q ls n os) {j : Nat} (hj : j < os.length) :
    (os.getD j (0, 0)).1 < n ∧ (os.getD j (0, 0)).2 = cntT os (os.getD j (0, 0)).1 j ∧ (os.getD j (0, 0)).2 < (ls (os.getD j (0, 0)).1).length := by
  have g := h.good
  have l := g.lt j hj
  refine ⟨l, g.nx j hj, ?_⟩
  have c := g.ct (os.getD j (0, 0)).1
  rw [if_pos l] at c
  rw [← c, g.nx j hj]
  have := cntT_le os (os.getD j (0, 0)).1 (i := j + 1) (j := os.length) (by omega)
  have e : cntT os (os.getD j (0, 0)).1 (j + 1) = cntT os (os.getD j (0, 0)).1 j + 1 := by
    show cntT os (os.getD j (0, 0)).1 j + (if (os.getD j (0, 0)).1 = (os.getD j (0, 0)).1 then 1 else 0) = _
    rw [if_pos rfl]
  omega
theorem ROut.end_ {os : List (Nat × Nat)} (h : ROut q ls n os) {k : Nat} (hk : k < n) : cntT os k os.length = (ls k).length := by
  have := h.good.ct k
  rwa [if_pos hk] at this
end
end Go.Proofs.Ytpifknmoimlpoaa
