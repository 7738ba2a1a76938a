/- point.Less: the closure keeps the greatest so far. -/
import Derived.Test.YtpifknmoimlpoaaCurveD
import Derived.Test.YtpifknmoimlpoaaCurveQ
import Derived.Deep.RegionHeld3
set_option linter.unusedVariables false
namespace Go.Proofs.Ytpifknmoimlpoaa
open Go.RowKit
theorem less1 (x y mo : Int) (g : Nat) (w : World) (hc : w.cell? ⟨g, 0, none⟩ = some (.int .i64 mo)) (hf : w.frozen? ⟨g, 0, none⟩ = false) (h1 : 0 ≤ x) (h2 : x ≤ 1000000) (h3 : 0 ≤ y) (h4 : y ≤ 1000000) (z : Int) (hz : (if mo < x - y then x - y else mo) = z) :
    Calls Try.prog 99 #[.int .i64 x, .int .i64 y, .pointer (some ⟨g, 0, none⟩)] w fun e w' => e = .returned (.int .i64 z) ∧ w' = w.setCell ⟨g, 0, none⟩ (.int .i64 z) := by
  have hcz := World.cell?_setCell_same w ⟨g, 0, none⟩ (.int .i64 z) hc
  go_enter Try.func99, Try.ntmps99
  go_wp2_with fail
  go_ret
  exact ⟨rfl, rfl⟩
theorem dtop_bd {n : Nat} {f g : List Int} (hf : IsC n f) (hg : IsC n g) {k : Nat} (hk : k ≤ n) : 0 ≤ top (fun i => gi f i - gi g i) k ∧ top (fun i => gi f i - gi g i) k ≤ 1000000 :=
  ⟨top_nonneg _ _, top_le (by omega) fun i hi => by have := hf.hi i (by omega); have := hg.lo i (by omega); omega⟩
/-- The table beside the cell of the greatest so far, in block G. -/
structure OwnG (G : Nat) (W wr : World) (n : Nat) (u : Nat → Int) (mo : Int) : Prop where
  row : wr.ownsRow W.heap.size 3 1 (.slice (some ⟨W.heap.size, 0, none⟩) n n) n (ints (tab n u))
  bel : Below G W wr
  cel : wr.cell? ⟨G, 0, none⟩ = some (.int .i64 mo)
  fro : wr.frozen? ⟨G, 0, none⟩ = false
theorem OwnG.next {G : Nat} {W wr : World} {n : Nat} {u v : Nat → Int} {mo nv : Int} (h : OwnG G W wr n u mo) (hG : G < W.heap.size) {k : Nat} {x : Int} (hk : k < n) (hv : ∀ i, i < n → v i = if i = k then x else u i) :
    OwnG G W ((wr.setCell ⟨G, 0, none⟩ (.int .i64 nv)).setCell ⟨W.heap.size, k, none⟩ (.int .i64 x)) n v nv := by
  have hz : W.heap.size ≤ wr.heap.size := h.bel.size
  have g1 : wr.grownBy (wr.setCell ⟨G, 0, none⟩ (.int .i64 nv)) (some G) := ⟨rfl, rfl, rfl, by simp [World.setCell], fun k _ hk => Below.heap_setCell _ _ _ k (fun e => hk (by rw [e]))⟩
  have r1 := h.row.kept g1 (.inr (by simp [Value.ownBlock]; omega))
  have r2 := (r1.stored k (.int .i64 x)).1
  rw [ints_set, tab_set _ _ _ hk, ← tab_congr hv] at r2
  refine ⟨r2, (h.bel.setCell (p := ⟨G, 0, none⟩) (Nat.le_refl _) _).setCell (p := ⟨W.heap.size, k, none⟩) (by show G ≤ W.heap.size; omega) _, ?_, ?_⟩
  · exact (World.cell?_setCell_other _ _ _ _ (by intro e; injection e with e1; omega)).trans (World.cell?_setCell_same _ _ _ h.cel)
  · rw [World.frozen?_setCell, World.frozen?_setCell]; exact h.fro
theorem OwnG.drew {G : Nat} {W wr : World} {n : Nat} {u : Nat → Int} {mo : Int} (h : OwnG G W wr n u mo) : OwnG G W wr.drew n u mo := ⟨h.row, h.bel.drew, h.cel, h.fro⟩
/-- Where a slice lies that came in below block G. -/
theorem Sl.ne {W : World} {G n b off : Nat} {xs : List Value} (h : Sl W G (some ⟨b, off, none⟩) n xs) (hn : 0 < n) : b < G := by
  obtain ⟨b', o', e, hb, _⟩ := h.2 hn
  injection e with e
  injection e with e1 e2
  subst e1
  exact hb
set_option maxHeartbeats 3200000 in
theorem each_less (A : Option Addr) (n c : Nat) (f : List Int) (M : Option Addr) (m d : Nat) (g : List Int) (G : Nat) (W0 W : World) (hG : W.heap.size = G + 1) (hG0 : W0.heap.size = G) (hB : Below G W0 W) (hcel : W.cell? ⟨G, 0, none⟩ = some (.int .i64 0)) (hfro : W.frozen? ⟨G, 0, none⟩ = false) (hs : Sl W G A n (ints f)) (ht : Sl W G M m (ints g)) (hn : n ≤ 9223372036854775807) (hm : m ≤ 9223372036854775807)
    (zs : List Int) (er : Int) (k : Nat) (cf : IsC n f) (cg : IsC n g) (hnm : n = m) (h : fit (clessL f g) = (zs, er)) (hk : zs.length = k) :
    Calls Try.prog 87 #[.slice A n c, .slice M m d, .func (.func 99) #[] #[.pointer (some ⟨G, 0, none⟩)]] W (RetSl W0 k zs er) := by
  subst hnm
  have hn61 := cf.top
  have h' : fit (tab n fun i => top (fun j => gi f j - gi g j) (i + 1)) = (zs, er) := by rw [← h, clessL, cf.len]
  have HF := Lib.hid h'
  have CF := Lib.hid cf
  have CG := Lib.hid cg
  have HB := Lib.hid (cf.both cg)
  have HK := Lib.hid hk
  have HG := Lib.hid hG
  have HG0 := Lib.hid hG0
  have HBB := Lib.hid hB
  have CEL := Lib.hid hcel
  have FRO := Lib.hid hfro
  clear h h' cf cg hk hG hG0 hB hcel hfro
  go_enter Try.func87, Try.ntmps87
  go_wp2_with fail
  refine (both_any A n c f M n d g _ _ _ hs ht hn hn).mono ?_
  rintro e w' ⟨rfl, rfl⟩
  rw [HB.out]
  go_wp2_with (at_make; refine wpList_makeInts rfl _ _ rfl (n : Int) (n : Int) n rfl rfl rfl rfl (by omega) ?_; intro w1 hown)
  have hstart : OwnG G W w1 n (fun j => if j < 0 then top (fun j => gi f j - gi g j) (j + 1) else 0) 0 := by
    refine ⟨(hown.congr fun i _ => by rw [if_neg (by omega)]).row, hown.bel.mono (by rw [HG.out]; omega), ?_, ?_⟩
    · rw [hown.bel.cell (p := ⟨G, 0, none⟩) (by rw [HG.out]; show G < G + 1; omega)]; exact CEL.out
    · rw [hown.bel.frozen (p := ⟨G, 0, none⟩) (by rw [HG.out]; show G < G + 1; omega)]; exact FRO.out
  clear hown
  go_loopw [22, 10] (fun i _ wr => ∃ k : Nat, k ≤ n ∧ i = .int .i64 k ∧ OwnG G W wr n (fun j => if j < k then top (fun j => gi f j - gi g j) (j + 1) else 0) (top (fun j => gi f j - gi g j) k)) (fun i _ _ => n - (intOf i).toNat)
  case atStart => exact ⟨0, Nat.zero_le _, rfl, hstart⟩
  case round =>
    obtain ⟨k, hk, rfl, ho⟩ := hrel
    by_cases hlt : k < n
    · have hsu := top_succ (fun i => gi f i - gi g i) k
      have bb := dtop_bd CF.out CG.out hk
      obtain ⟨b1, o1, rfl, q1, hc1⟩ := (hs.below ho.bel).int_at hlt
      obtain ⟨b2, o2, rfl, q2, hc2⟩ := (ht.below ho.bel).int_at hlt
      have hck := ho.row.cellAt k (by omega)
      rw [ints_get (by rw [tab_len]; exact hlt), tab_get _ hlt, if_neg (by omega)] at hck
      have hfr := ho.row.frozenAt k
      have hce := ho.cel
      have hce2 := ho.fro
      have n1 : b1 ≠ G := by omega
      have n2 : b2 ≠ G := by omega
      have n4 : b1 ≠ W.heap.size := by rw [HG.out]; omega
      have n4' : W.heap.size ≠ b1 := by rw [HG.out]; omega
      have n5 : b2 ≠ W.heap.size := by rw [HG.out]; omega
      have n5' : W.heap.size ≠ b2 := by rw [HG.out]; omega
      have n3 : W.heap.size ≠ G := by rw [HG.out]; omega
      have n1' : G ≠ b1 := by omega
      have n2' : G ≠ b2 := by omega
      have n3' : G ≠ W.heap.size := by rw [HG.out]; omega
      have hn1 : (k : Int) < n := by omega
      have hk0 : (0 : Int) ≤ k := by omega
      have a1 := CF.out.lo k hlt
      have a2 := CF.out.hi k hlt
      have a3 := CG.out.lo k hlt
      have a4 := CG.out.hi k hlt
      obtain ⟨cur, hcur⟩ : ∃ z, top (fun i => gi f i - gi g i) k = z := ⟨_, rfl⟩
      rw [hcur] at bb hsu hce
      obtain ⟨nv, hnv⟩ : ∃ z, (if cur < gi f k - gi g k then gi f k - gi g k else cur) = z := ⟨_, rfl⟩
      have NX := Lib.hid (ho.next (nv := nv) (v := fun j => if j < k + 1 then top (fun j => gi f j - gi g j) (j + 1) else 0) (by rw [HG.out]; omega) (x := nv) hlt fun i hi => by
        by_cases h1 : i = k
        · subst h1
          rw [if_pos (by omega), if_pos rfl, hsu, ← hnv]; rfl
        · rw [if_neg h1]
          by_cases h2 : i < k
          · rw [if_pos h2, if_pos (by omega)]
          · rw [if_neg h2, if_neg (by omega)])
      have HS : Hid (top (fun i => gi f i - gi g i) (k + 1) = nv) := by show _ = _; rw [hsu, ← hnv]; rfl
      have HNV := Lib.hid hnv
      clear hsu hcur hs ht ho hstart hnv
      go_wp2_with fail
      go_region_held3 (fun w' => w'.cell? ⟨b1, o1 + k, none⟩ = some (.int .i64 (gi f k)) ∧ w'.cell? ⟨b2, o2 + k, none⟩ = some (.int .i64 (gi g k))) (go_keep)
        (first | (go_at_call 99; refine (less1 (gi f k) (gi g k) cur G _ ?_ ?_ a1 a2 a3 a4 nv HNV.out).mono ?_; (simp [*, go_sem]); (simp [*, go_sem]); rintro e w' ⟨rfl, rfl⟩))
      go_wp2_with fail
      go_roundw
      case rel => exact ⟨k + 1, by omega, by go_num, HS.out ▸ NX.out.drew⟩
      case measure => simp [intOf]; omega
    · have hkn : k = n := by omega
      subst hkn
      have O := Lib.hid ho
      clear hs ht ho hstart
      go_wp2_with fail
      refine (fit_any (some ⟨W.heap.size, 0, none⟩) k k _ W0 wr (Sl.of_own O.out.row) (by rw [HG0.out]; exact HBB.out.trans O.out.bel) (own_lower O.out.row (by rw [HG0.out, HG.out]; omega)) (Nat.le_refl _) (by omega) _ _ _ (by rw [← HF.out]; exact congrArg fit (tab_congr fun i hi => by rw [if_pos hi])) HK.out).mono ?_
      rintro e w2 ⟨A2, c2, rfl, s2⟩
      have S2 := Lib.hid s2
      clear s2
      go_wp2_with fail
      go_ret2
      exact ⟨A2, c2, rfl, S2.out⟩
theorem pless_any (A : Option Addr) (n c : Nat) (f : List Int) (M : Option Addr) (m d : Nat) (g : List Int) (W : World) (hs : Sl W W.heap.size A n (ints f)) (ht : Sl W W.heap.size M m (ints g)) (hn : n ≤ 9223372036854775807) (hm : m ≤ 9223372036854775807)
    (cf : IsC n f) (cg : IsC n g) (hnm : n = m) (zs : List Int) (er : Int) (k : Nat) (h : fit (clessL f g) = (zs, er)) (hk : zs.length = k) :
    Calls Try.prog 47 #[.slice A n c, .slice M m d] W (RetSl W k zs er) := by
  have H := Lib.hid h
  have HK := Lib.hid hk
  have CF := Lib.hid cf
  have CG := Lib.hid cg
  have HN := Lib.hid hnm
  have S := Lib.hid (hs.alloc (Nat.le_refl _) (.cells #[.int .i64 0] 3))
  have T := Lib.hid (ht.alloc (Nat.le_refl _) (.cells #[.int .i64 0] 3))
  have BB := Lib.hid ((Below.refl W.heap.size W).alloc (Nat.le_refl _) (.cells #[.int .i64 0] 3))
  clear h hk cf cg hnm hs ht
  go_enter Try.func47, Try.ntmps47
  go_wp2_with fail
  refine (each_less A n c f M m d g W.heap.size W _ (by simp) rfl BB.out (by simp) (by simp) S.out T.out hn hm zs er k CF.out CG.out HN.out H.out HK.out).mono ?_
  rintro e w2 ⟨A2, c2, rfl, s2⟩
  have S2 := Lib.hid s2
  clear s2
  go_wp2_with fail
  go_ret2
  exact ⟨A2, c2, rfl, S2.out⟩
end Go.Proofs.Ytpifknmoimlpoaa
