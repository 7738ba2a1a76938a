/- fair.Run: what is kept true while packets are taken in and served. -/
import Derived.Test.YtpifknmoimlpoaaPackA
set_option linter.unusedVariables false
namespace Go.Proofs.Ytpifknmoimlpoaa
open Go.RowKit
def WOk (ws : List Int) : Prop := ws.length = 8 ∧ ∀ k, k < 8 → 1 ≤ gi ws k ∧ gi ws k ≤ 8
/-- The flow of packet i, and what it costs there. -/
def flw (zs : List Int) (i : Nat) : Nat := (fd zs i 2).toNat
def fcost (ws zs : List Int) (i : Nat) : Int := (fd zs i 1 * 840).tdiv (gi ws (flw zs i))
theorem flw_lt {zs : List Int} {n i : Nat} (h : Packs zs n) (hi : i < n) : flw zs i < 8 ∧ (flw zs i : Int) = fd zs i 2 := by
  have := h.fl i hi
  unfold flw
  omega
theorem fcost_mul {ws zs : List Int} {n i : Nat} (hw : WOk ws) (h : Packs zs n) (hi : i < n) : fcost ws zs i * gi ws (flw zs i) = fd zs i 1 * 840 ∧ 105 ≤ fcost ws zs i ∧ fcost ws zs i ≤ 840000 := by
  have a := hw.2 _ (flw_lt h hi).1
  have s := h.sz i hi
  unfold fcost
  generalize gi ws (flw zs i) = w at a
  generalize fd zs i 1 = z at s
  rw [Int.tdiv_eq_ediv_of_nonneg (by omega)]
  have hc : w = 1 ∨ w = 2 ∨ w = 3 ∨ w = 4 ∨ w = 5 ∨ w = 6 ∨ w = 7 ∨ w = 8 := by omega
  rcases hc with rfl | rfl | rfl | rfl | rfl | rfl | rfl | rfl <;> omega
/-- What a flow's packets cost before packet k. -/
def fpre (ws zs : List Int) (f : Nat) : Nat → Int
  | 0 => 0
  | k + 1 => fpre ws zs f k + if flw zs k = f then fcost ws zs k else 0
def fst (ws zs : List Int) (i : Nat) : Int := fpre ws zs (flw zs i) i
def lx (ws zs : List Int) (i j : Nat) : Prop := fst ws zs i < fst ws zs j ∨ fst ws zs i = fst ws zs j ∧ i < j
/-- A tag that waits is served ahead of another. -/
def tls (a b : Int × Nat) : Prop := a.1 < b.1 ∨ a.1 = b.1 ∧ a.2 < b.2
structure FZero (ws zs : List Int) (n : Nat) (S : List Int) (ts : List (Int × Nat)) (E : Nat → Int) (os : List Nat) (vir : Int) : Prop where
  full : os ≠ [] → S.length = n
  vir0 : os = [] → vir = 0
  starts : ∀ i, i < S.length → gi S i = fst ws zs i
  ends : ∀ f, E f = fpre ws zs f S.length
  sorted : os.Pairwise (lx ws zs)
  ahead : ∀ i ∈ os, ∀ t ∈ ts, lx ws zs i t.2
structure FInv (ws zs : List Int) (n : Nat) (S : List Int) (ts : List (Int × Nat)) (E : Nat → Int) (os : List Nat) (now vir : Int) : Prop where
  le : S.length ≤ n
  perm : (ts.map (·.2) ++ os).Perm (List.range S.length)
  tag : ∀ t ∈ ts, t.1 = gi S t.2
  mono : ∀ i j, i < j → j < S.length → flw zs i = flw zs j → gi S i < gi S j
  last : ∀ i, i < S.length → gi S i < E (flw zs i)
  eb : ∀ f, 0 ≤ E f ∧ E f ≤ 840000 * (S.length : Int)
  sb : ∀ i, i < S.length → 0 ≤ gi S i ∧ gi S i ≤ 840000 * (S.length : Int)
  vb : 0 ≤ vir ∧ vir ≤ 840000 * (S.length : Int)
  nb : 0 ≤ now ∧ now ≤ 200 + 1000 * (os.length : Int)
  ord : os.Pairwise (fun i j => flw zs i = flw zs j → i < j)
  wait : ∀ i ∈ os, ∀ t ∈ ts, flw zs i = flw zs t.2 → i < t.2
  zero : (∀ i, i < n → fd zs i 0 = 0) → FZero ws zs n S ts E os vir
theorem FInv.start (ws zs : List Int) (n : Nat) : FInv ws zs n [] [] (fun _ => 0) [] 0 0 := by
  refine ⟨by simp, by simp, by simp, by simp, by simp, by simp, by simp, by simp, by simp, by simp, by simp, fun _ => ⟨by simp, by simp, by simp, fun f => rfl, by simp, by simp⟩⟩
section
variable {ws zs : List Int} {n : Nat} {S : List Int} {ts : List (Int × Nat)} {E : Nat → Int} {os : List Nat} {now vir : Int}
theorem FInv.lens (h : FInv ws zs n S ts E os now vir) : ts.length + os.length = S.length := by
  have := h.perm.length_eq
  simpa using this
theorem FInv.mem (h : FInv ws zs n S ts E os now vir) {t : Int × Nat} (ht : t ∈ ts) : t.2 < S.length := by
  have : t.2 ∈ ts.map (·.2) ++ os := List.mem_append_left _ (List.mem_map.2 ⟨t, ht, rfl⟩)
  exact List.mem_range.1 (h.perm.mem_iff.1 this)
theorem FInv.omem (h : FInv ws zs n S ts E os now vir) {i : Nat} (hi : i ∈ os) : i < S.length := by
  have : i ∈ ts.map (·.2) ++ os := List.mem_append_right _ hi
  exact List.mem_range.1 (h.perm.mem_iff.1 this)
theorem gi_app_lt {a b : List Int} {i : Nat} (h : i < a.length) : gi (a ++ b) i = gi a i := by
  unfold gi
  rw [List.getD_eq_getElem?_getD, List.getD_eq_getElem?_getD, List.getElem?_append_left h]
theorem gi_app_at (a : List Int) (x : Int) : gi (a ++ [x]) a.length = x := by
  unfold gi
  simp
theorem FInv.push (h : FInv ws zs n S ts E os now vir) (hw : WOk ws) (hp : Packs zs n) (hk : S.length < n) {st nw : Int} (hst : st = mx vir (E (flw zs S.length))) (hnw : nw = mx now (fd zs S.length 0)) :
    FInv ws zs n (S ++ [st]) (ts ++ [(st, S.length)]) (fun f => if f = flw zs S.length then st + fcost ws zs S.length else E f) os nw vir := by
  obtain ⟨_, c1, c2⟩ := fcost_mul hw hp hk
  have hv := h.vb
  have he := h.eb (flw zs S.length)
  have hst1 : 0 ≤ st ∧ st ≤ 840000 * (S.length : Int) ∧ E (flw zs S.length) ≤ st ∧ vir ≤ st := by unfold mx at hst; split at hst <;> omega
  have hlen : (S ++ [st]).length = S.length + 1 := by simp
  have hat := hp.at0 S.length hk
  have hn := h.nb
  refine ⟨by rw [hlen]; omega, ?_, ?_, ?_, ?_, ?_, ?_, ?_, ?_, h.ord, ?_, ?_⟩
  · rw [hlen, List.range_succ, List.map_append, List.append_assoc]
    refine List.Perm.trans ?_ (h.perm.append_right [S.length])
    rw [List.append_assoc]
    exact List.Perm.append_left _ List.perm_append_comm
  · intro t ht
    rcases List.mem_append.1 ht with ht | ht
    · rw [gi_app_lt (h.mem ht)]; exact h.tag t ht
    · obtain rfl := List.mem_singleton.1 ht
      exact (gi_app_at S st).symm
  · intro i j hij hj hf
    rw [hlen] at hj
    rw [gi_app_lt (show i < S.length by omega)]
    rcases Nat.lt_or_ge j S.length with hj' | hj'
    · rw [gi_app_lt hj']; exact h.mono i j hij hj' hf
    · have : j = S.length := by omega
      subst this
      rw [gi_app_at]
      have := h.last i (by omega)
      rw [hf] at this
      omega
  · intro i hi
    rw [hlen] at hi
    show _ < (if flw zs i = flw zs S.length then st + fcost ws zs S.length else E (flw zs i))
    rcases Nat.lt_or_ge i S.length with hi' | hi'
    · rw [gi_app_lt hi']
      have := h.last i hi'
      by_cases hf : flw zs i = flw zs S.length
      · rw [if_pos hf]; rw [hf] at this; omega
      · rw [if_neg hf]; exact this
    · have : i = S.length := by omega
      subst this
      rw [gi_app_at, if_pos rfl]
      omega
  · intro f
    rw [hlen]
    have := h.eb f
    show 0 ≤ (if f = flw zs S.length then st + fcost ws zs S.length else E f) ∧ (if f = flw zs S.length then st + fcost ws zs S.length else E f) ≤ _
    split <;> push_cast <;> omega
  · intro i hi
    rw [hlen] at hi ⊢
    push_cast
    rcases Nat.lt_or_ge i S.length with hi' | hi'
    · rw [gi_app_lt hi']
      have := h.sb i hi'
      omega
    · have : i = S.length := by omega
      subst this
      rw [gi_app_at]
      omega
  · rw [hlen]; push_cast; omega
  · unfold mx at hnw; split at hnw <;> omega
  · intro i hi t ht hf
    rcases List.mem_append.1 ht with ht | ht
    · exact h.wait i hi t ht hf
    · obtain rfl := List.mem_singleton.1 ht
      exact h.omem hi
  · intro hz
    have z := h.zero hz
    have hos : os = [] := by
      rcases os with _ | ⟨a, r⟩
      · rfl
      · have := z.full (by simp)
        omega
    subst hos
    have hv0 := z.vir0 rfl
    have hE := z.ends (flw zs S.length)
    have hst0 : st = fst ws zs S.length := by
      unfold mx at hst
      unfold fst
      split at hst <;> omega
    refine ⟨by simp, fun _ => hv0, ?_, ?_, List.Pairwise.nil, by simp⟩
    · intro i hi
      rw [hlen] at hi
      rcases Nat.lt_or_ge i S.length with hi' | hi'
      · rw [gi_app_lt hi']; exact z.starts i hi'
      · have : i = S.length := by omega
        subst this
        rw [gi_app_at, hst0]
    · intro f
      rw [hlen]
      show (if f = flw zs S.length then st + fcost ws zs S.length else E f) = fpre ws zs f S.length + (if flw zs S.length = f then fcost ws zs S.length else 0)
      by_cases hf : f = flw zs S.length
      · subst hf
        rw [if_pos rfl, if_pos rfl, hst0]; rfl
      · rw [if_neg hf, if_neg (fun e => hf e.symm), z.ends f]; omega
theorem FInv.serve (h : FInv ws zs n S ts E os now vir) (hp : Packs zs n) {a c : List (Int × Nat)} {t : Int × Nat} (hts : ts = a ++ t :: c) (hmin : ∀ u ∈ ts, ¬ tls u t) (hz : (∀ i, i < n → fd zs i 0 = 0) → S.length = n) :
    FInv ws zs n S (a ++ c) E (os ++ [t.2]) (now + fd zs t.2 1) t.1 := by
  have htm : t ∈ ts := by rw [hts]; simp
  have hsub : ∀ u ∈ a ++ c, u ∈ ts := fun u hu => by rw [hts]; rcases List.mem_append.1 hu with h1 | h1 <;> simp [h1]
  have htl := h.mem htm
  have htt := h.tag t htm
  have hperm : ((a ++ c).map (·.2) ++ (os ++ [t.2])).Perm (List.range S.length) := by
    refine List.Perm.trans ?_ h.perm
    rw [hts, List.map_append, List.map_append, List.map_cons, List.append_assoc, List.append_assoc]
    refine List.Perm.append_left _ ?_
    rw [← List.append_assoc]
    exact List.perm_append_singleton _ _
  have hnd : ∀ u ∈ a ++ c, u.2 ≠ t.2 := by
    intro u hu e
    have nd : ((a ++ c).map (·.2) ++ (os ++ [t.2])).Nodup := hperm.nodup_iff.2 List.nodup_range
    rw [← List.append_assoc] at nd
    have := (List.nodup_append.1 nd).2.2 u.2 (List.mem_append_left _ (List.mem_map.2 ⟨u, hu, rfl⟩)) t.2 (by simp)
    exact this e
  have hahead : ∀ u ∈ a ++ c, t.1 < u.1 ∨ t.1 = u.1 ∧ t.2 < u.2 := by
    intro u hu
    have h1 := hmin u (hsub u hu)
    have h2 := hnd u hu
    unfold tls at h1
    omega
  have hsz := hp.sz t.2 (Nat.lt_of_lt_of_le htl h.le)
  have hnb := h.nb
  refine ⟨h.le, hperm, fun u hu => h.tag u (hsub u hu), h.mono, h.last, h.eb, h.sb, by rw [htt]; exact h.sb _ htl, by rw [List.length_append]; push_cast; simp only [List.length_singleton]; omega, ?_, ?_, ?_⟩
  · rw [List.pairwise_append]
    refine ⟨h.ord, List.pairwise_singleton _ _, fun i hi j hj hf => ?_⟩
    obtain rfl := List.mem_singleton.1 hj
    exact h.wait i hi t htm hf
  · intro i hi u hu hf
    rcases List.mem_append.1 hi with hi | hi
    · exact h.wait i hi u (hsub u hu) hf
    · obtain rfl := List.mem_singleton.1 hi
      rcases Nat.lt_or_ge t.2 u.2 with h1 | h1
      · exact h1
      · have h2 := hnd u hu
        have h3 := h.mono u.2 t.2 (by omega) htl hf.symm
        rw [← htt, ← h.tag u (hsub u hu)] at h3
        have := hahead u hu
        omega
  · intro hz0
    have z := h.zero hz0
    have e1 : ∀ u ∈ ts, u.1 = fst ws zs u.2 := fun u hu => (h.tag u hu).trans (z.starts _ (h.mem hu))
    refine ⟨fun _ => hz hz0, fun e => by simp at e, z.starts, z.ends, ?_, ?_⟩
    · rw [List.pairwise_append]
      refine ⟨z.sorted, List.pairwise_singleton _ _, fun i hi j hj => ?_⟩
      obtain rfl := List.mem_singleton.1 hj
      exact z.ahead i hi t htm
    · intro i hi u hu
      rcases List.mem_append.1 hi with hi | hi
      · exact z.ahead i hi u (hsub u hu)
      · obtain rfl := List.mem_singleton.1 hi
        have := hahead u hu
        rw [e1 t htm, e1 u (hsub u hu)] at this
        exact this
/-- What the whole order says. -/
structure FOut (ws zs : List Int) (n : Nat) (os : List Nat) : Prop where
  perm : os.Perm (List.range n)
  ord : os.Pairwise (fun i j => flw zs i = flw zs j → i < j)
  zero : (∀ i, i < n → fd zs i 0 = 0) → os.Pairwise (lx ws zs)
theorem FInv.out (h : FInv ws zs n S ts E os now vir) (hn : n ≤ os.length) : FOut ws zs n os := by
  have hl := h.lens
  have hle := h.le
  have hts : ts = [] := List.eq_nil_of_length_eq_zero (by omega)
  subst hts
  have hp := h.perm
  have e : S.length = n := by simp at hl; omega
  rw [e] at hp
  exact ⟨by simpa using hp, h.ord, fun hz => (h.zero hz).sorted⟩
end
/-- The cells of the tags. -/
def fl2 : List (Int × Nat) → List Int
  | [] => []
  | t :: r => t.1 :: (t.2 : Int) :: fl2 r
theorem fl2_len (ts : List (Int × Nat)) : (fl2 ts).length = ts.length * 2 := by
  induction ts with
  | nil => rfl
  | cons t r ih => simp only [fl2, List.length_cons, ih]; omega
theorem fl2_app (a b : List (Int × Nat)) : fl2 (a ++ b) = fl2 a ++ fl2 b := by
  induction a with
  | nil => rfl
  | cons t r ih => simp only [fl2, List.cons_append, ih]
theorem fl2_get {ts : List (Int × Nat)} {k : Nat} {t : Int × Nat} (h : ts[k]? = some t) : gi (fl2 ts) (k * 2) = t.1 ∧ gi (fl2 ts) (k * 2 + 1) = (t.2 : Int) := by
  induction ts generalizing k with
  | nil => simp at h
  | cons x r ih =>
    rcases k with _ | k
    · simp at h
      subst h
      exact ⟨rfl, rfl⟩
    · simp at h
      have := ih h
      rw [show (k + 1) * 2 = k * 2 + 1 + 1 by omega]
      exact this
theorem fl2_take (ts : List (Int × Nat)) (k : Nat) : fl2 (ts.take k) = (fl2 ts).take (k * 2) := by
  induction ts generalizing k with
  | nil => simp [fl2]
  | cons x r ih =>
    rcases k with _ | k
    · simp [fl2]
    · rw [show (k + 1) * 2 = k * 2 + 1 + 1 by omega]
      simp only [List.take_succ_cons, fl2, ih]
theorem fl2_drop (ts : List (Int × Nat)) (k : Nat) : fl2 (ts.drop k) = (fl2 ts).drop (k * 2) := by
  induction ts generalizing k with
  | nil => simp [fl2]
  | cons x r ih =>
    rcases k with _ | k
    · simp
    · rw [show (k + 1) * 2 = k * 2 + 1 + 1 by omega]
      simp only [List.drop_succ_cons, fl2, ih]
end Go.Proofs.Ytpifknmoimlpoaa
