/- FairAll: each packet is served once, those of a flow in order. -/
import Derived.Test.YtehdphkaknjlnaaFairL
import Derived.Test.YtehdphkaknjlnaaRepeatI
set_option linter.unusedVariables false
namespace Go.Proofs.Ytehdphkaknjlnaa
open Go.RowKit
theorem bools_madeF (n : Nat) : (madeCells (Value.bool false).cells (n * 1)).toList = bools (List.replicate n false) := by
  rw [show (Value.bool false).cells = #[Value.bool false] from rfl, toList_madeCells_one, Nat.mul_one]
  simp [bools]
theorem makeBools_F (n : Nat) (hn : n ≤ 1000000) (w : World) : (Instr.makeSlice 57 (.int .i64 (n : Int)) (.int .i64 (n : Int))).run Try.prog w = .ok (.slice (some ⟨w.heap.size, 0, none⟩) n n) (w.alloc (.cells (bools (List.replicate n false)).toArray 4)) := by
  obtain ⟨ib, hib, hib0, hib1, hib2⟩ := elemBool.info
  have h := run_make (P := Try.prog) w 57 4 ib (.bool false) elemBool.under hib hib0 .i64 .i64 n n (by omega) (Int.le_refl _) (by rw [hib2]; omega) (by omega)
  rw [hib1, Int.toNat_natCast] at h
  rw [h]
  have e : (madeCells (Value.bool false).cells (n * 1)) = (bools (List.replicate n false)).toArray := by rw [← bools_madeF]
  rw [e]
/-- A row stays while another block is stored into. -/
theorem own_other {w : World} {base g n cap : Nat} {e : TypeId} {size : Nat} {xs : List Value} (h : w.ownsRow base e size (.slice (some ⟨g, 0, none⟩) n cap) n xs) {g' : Nat} (hne : g ≠ g') (o : Nat) (v : Value) : (w.setCell ⟨g', o, none⟩ v).ownsRow base e size (.slice (some ⟨g, 0, none⟩) n cap) n xs := by
  have D := (OnlyD.refl g' w).set o v
  have G : w.grownBy (w.setCell ⟨g', o, none⟩ v) (some g') := ⟨D.os, D.tape, D.output, D.size, fun k hk h1 => D.block k hk fun e => h1 (by rw [e])⟩
  exact h.kept G (.inr fun e => by injection e with e; exact hne e)
theorem bools_setF (l : List Bool) (j : Nat) (v : Bool) : (bools l).set j (.bool v) = bools (l.set j v) := by simp [bools, List.map_set]
theorem gb_setF (bs : List Bool) {i : Nat} (hi : i < bs.length) (k : Nat) : gb (bs.set i true) k = if k = i then true else gb bs k := by
  unfold gb
  rw [List.getD_eq_getElem?_getD, List.getD_eq_getElem?_getD, List.getElem?_set]
  by_cases h : i = k
  · subst h
    simp [hi]
  · rw [if_neg h, if_neg (fun e => h e.symm)]
theorem onat_getF {os : List Nat} {q : Nat} (h : q < os.length) : gi (onat os) q = ((os.getD q 0 : Nat) : Int) := by
  unfold gi onat
  rw [List.getD_eq_getElem?_getD, List.getElem?_map, List.getElem?_eq_getElem h, List.getD_eq_getElem?_getD, List.getElem?_eq_getElem h]
  rfl
/-- What is marked, after j packets. -/
structure FSeen (zs : List Int) (n : Nat) (os : List Nat) (j : Nat) (sb : List Bool) (L : Nat → Int) : Prop where
  len : sb.length = n
  seen : ∀ i, gb sb i = true → ∃ q, q < j ∧ os.getD q 0 = i
  last : ∀ f, L f = -1 ∨ ∃ q, q < j ∧ L f = (os.getD q 0 : Nat) ∧ flw zs (os.getD q 0) = f
theorem FSeen.fresh {ws zs : List Int} {n : Nat} {os : List Nat} {j : Nat} {sb : List Bool} {L : Nat → Int} (h : FSeen zs n os j sb L) (o : FOut ws zs n os) (hj : j < n) :
    os.getD j 0 < n ∧ gb sb (os.getD j 0) = false ∧ ¬ ((os.getD j 0 : Nat) : Int) < L (flw zs (os.getD j 0)) := by
  have hl := o.len
  have ge : ∀ q (hq : q < n), os.getD q 0 = os[q]'(by omega) := fun q hq => by rw [List.getD_eq_getElem?_getD, List.getElem?_eq_getElem (by omega)]; rfl
  have lj := o.lt (List.getElem_mem (l := os) (n := j) (by omega))
  refine ⟨by rw [ge j hj]; exact lj, ?_, ?_⟩
  · cases hb : gb sb (os.getD j 0) with
    | false => rfl
    | true =>
      obtain ⟨q, hq, e⟩ := h.seen _ hb
      rw [ge q (by omega), ge j hj] at e
      have := List.pairwise_iff_getElem.1 o.nodup q j (by omega) (by omega) hq
      exact absurd e this
  · rcases h.last (flw zs (os.getD j 0)) with e | ⟨q, hq, e, hf⟩
    · omega
    · rw [e]
      have := List.pairwise_iff_getElem.1 o.ord q j (by omega) (by omega) hq (by rw [ge q (by omega), ge j hj] at hf; exact hf)
      rw [ge q (by omega), ge j hj]
      omega
theorem FSeen.next {zs : List Int} {n : Nat} {os : List Nat} {j : Nat} {sb : List Bool} {L : Nat → Int} (h : FSeen zs n os j sb L) (hi : os.getD j 0 < n) :
    FSeen zs n os (j + 1) (sb.set (os.getD j 0) true) (fun f => if f = flw zs (os.getD j 0) then ((os.getD j 0 : Nat) : Int) else L f) := by
  have hl := h.len
  refine ⟨by rw [List.length_set]; exact hl, fun i hb => ?_, fun f => ?_⟩
  · rw [gb_setF sb (by omega)] at hb
    by_cases e : i = os.getD j 0
    · exact ⟨j, by omega, e.symm⟩
    · rw [if_neg e] at hb
      obtain ⟨q, hq, e2⟩ := h.seen i hb
      exact ⟨q, by omega, e2⟩
  · show (if _ then _ else _) = -1 ∨ _
    by_cases e : f = flw zs (os.getD j 0)
    · refine .inr ⟨j, by omega, ?_, e.symm⟩
      show (if _ then _ else _) = _
      rw [if_pos e]
    · rcases h.last f with h1 | ⟨q, hq, h1, h2⟩
      · exact .inl (by rw [if_neg e]; exact h1)
      · refine .inr ⟨q, by omega, ?_, h2⟩
        show (if _ then _ else _) = _
        rw [if_neg e]
        exact h1
set_option maxRecDepth 100000 in
set_option maxHeartbeats 3200000 in
theorem fairAll_walk (Aw : Option Addr) (wn wc : Nat) (ws : List Int) (A : Option Addr) (n c : Nat) (zs : List Int) (W : World) (w0 : InInts W Aw wn wc ws) (w1 : In3 W A n c zs) :
    Calls Try.prog 10 #[.slice Aw wn wc, .slice A n c] W fun e w' => e = .returned (.bool true) ∧ Below W.heap.size W w' := by
  obtain ⟨sw, lw, rw_, _⟩ := w0
  obtain ⟨sz, lz, rz, _⟩ := w1
  have SW := Lib.hid sw
  have SZ := Lib.hid sz
  have hwn : wn ≤ 9223372036854775807 := by omega
  have hnn : n ≤ 9223372036854775807 := by omega
  clear sw sz lw rw_ lz rz
  go_enter Try.func10, Try.ntmps10
  go_wp2_with fail
  refine (weights_any _).mono ?_
  rintro e wa ⟨rfl, rfl⟩
  go_wp2_with fail
  refine (frun_ok _ 8 _ [1, 1, 1, 1, 1, 1, 1, 1] _ 3 _ [0, 4, 0, 0, 4, 0, 0, 1, 1] _ (Sl.built_ _ (ints [1, 1, 1, 1, 1, 1, 1, 1]) 3 _ (by simp) rfl) (slMore (Sl.built_ W (ints [0, 4, 0, 0, 4, 0, 0, 1, 1]) 49 _ rfl rfl) _) (by decide +kernel)).mono ?_
  rintro e w1 ⟨B1, c1, os1, rfl, o1, l1, s1, bb1, le1⟩
  rw [fair_lit2 o1] at s1
  have B1' := Lib.hid (belLit2 (Below.refl W.heap.size W) bb1)
  have S1 := Lib.hid s1
  clear bb1 o1 s1
  go_wp2_with fail
  refine (equal_t B1 3 c1 [0, 2, 1] _ 3 _ [0, 2, 1] _ (slMore S1.out _) (Sl.built_ _ (ints [0, 2, 1]) 3 _ rfl rfl) (by omega) (by omega) true (by decide)).mono ?_
  rintro e w2 ⟨rfl, bb2⟩
  have B2 := Lib.hid (belLit1 B1'.out bb2)
  clear bb2
  have SZ2 := Lib.hid ((SZ.out.below B2.out).more B2.out.size)
  have SW2 := Lib.hid ((SW.out.below B2.out).more B2.out.size)
  obtain ⟨ck, hck⟩ : ∃ ck, fchk ws zs wn n = ck := ⟨_, rfl⟩
  have HCK := Lib.hid hck
  clear hck
  by_cases h0 : ck = 0
  case neg =>
    have hne : (ck != 0) = true := by simpa using h0
    have H0 := Lib.hid h0
    clear h0
    go_wp2_with fail
    refine (frun_bad Aw wn wc ws A n c zs _ SW2.out hwn SZ2.out hnn ck HCK.out H0.out).mono ?_
    rintro e w5 ⟨rfl, bb5⟩
    have B5' := Lib.hid (B2.out.trans (bb5.mono B2.out.size))
    have SW5 := Lib.hid (SW2.out.on bb5)
    have S5 := Lib.hid (SZ2.out.on bb5)
    clear bb5
    go_wp2_with fail
    refine (fcheck_any Aw wn wc ws A n c zs _ SW5.out hwn S5.out hnn ck HCK.out).mono ?_
    rintro e w6 ⟨rfl, bb6⟩
    have B6 := Lib.hid (B5'.out.trans (bb6.mono B5'.out.size))
    clear bb6
    have hee : (ck == ck) = true := by simp
    go_wp2_with fail
    go_ret
    exact ⟨rfl, B6.out⟩
  subst h0
  have PK := Lib.hid (packs_of (wok_of HCK.out SW.out.int_len).2.2)
  have n60 : n ≤ 60 := PK.out.top
  go_wp2_with fail
  refine (frun_ok Aw wn wc ws A n c zs _ SW2.out SZ2.out HCK.out).mono ?_
  rintro e w3 ⟨B3, c3, os, rfl, o3, l3, s3, bb3, le3⟩
  have B3' := Lib.hid (B2.out.trans (bb3.mono B2.out.size))
  have S3 := Lib.hid s3
  have O3 := Lib.hid o3
  have L3 := Lib.hid l3
  have hmk := makeBools_F n (by omega)
  have R4 : Hid ((w3.alloc (.cells (bools (List.replicate n false)).toArray 4)).ownsRow w3.heap.size 4 1 (.slice (some ⟨w3.heap.size, 0, none⟩) n n) n (bools (List.replicate n false))) := Lib.hid (World.ownsRow_lit w3 (bools (List.replicate n false)).toArray n (Nat.le_refl _) (by unfold maxLen; omega) (by simp [bools]))
  have S4 := Lib.hid (slMore S3.out (.cells (bools (List.replicate n false)).toArray 4))
  have B4 := Lib.hid (B3'.out.alloc B3'.out.size (.cells (bools (List.replicate n false)).toArray 4))
  clear bb3 o3 s3 l3
  go_wp2_with fail
  have R5 := Lib.hid (R4.out.alloc (.cells #[.int .i64 (-1)] 3))
  have B5 : Hid (Below w3.heap.size w3 ((w3.alloc (.cells (bools (List.replicate n false)).toArray 4)).alloc (.cells #[.int .i64 (-1)] 3))) := Lib.hid (((Below.refl _ _).alloc (Nat.le_refl _) _).alloc (by simp) _)
  have c5 : ((w3.alloc (.cells (bools (List.replicate n false)).toArray 4)).alloc (.cells #[.int .i64 (-1)] 3)).cell? ⟨w3.heap.size + 1, 0, none⟩ = some (.int .i64 (-1)) := World.cell?_alloc_at _ _ _ _ (by simp)
  have z5 : w3.heap.size + 1 < ((w3.alloc (.cells (bools (List.replicate n false)).toArray 4)).alloc (.cells #[.int .i64 (-1)] 3)).heap.size := by simp
  obtain ⟨w5, hw5⟩ : ∃ w5, (w3.alloc (.cells (bools (List.replicate n false)).toArray 4)).alloc (.cells #[.int .i64 (-1)] 3) = w5 := ⟨_, rfl⟩
  rw [hw5] at R5 B5 c5 z5 ⊢
  clear hw5 R4 S4 B4 hmk
  refine (repeat_one (-1) (w3.heap.size + 1) _ 8 w5 (by omega) (by omega) z5 c5).mono ?_
  rintro e w6 ⟨rfl, own6⟩
  have R6 := Lib.hid (own_onR R5.out own6.bel)
  have T6 := Lib.hid own6.row
  have B6 := Lib.hid (B5.out.trans (own6.bel.mono B5.out.size))
  have hzz : Hid (W.heap.size ≤ w3.heap.size) := B3'.out.size
  obtain ⟨gs, hgs⟩ : ∃ gs, w3.heap.size = gs := ⟨_, rfl⟩
  obtain ⟨gl, hgl⟩ : ∃ gl, w5.heap.size = gl := ⟨_, rfl⟩
  rw [hgl] at z5 T6 ⊢
  rw [hgs] at z5 hzz R6 B6 ⊢
  have S3g : Hid (Sl w3 gs B3 n (ints (onat os))) := Lib.hid (by rw [← hgs]; exact S3.out)
  have hne : gs ≠ gl := by omega
  clear hgs hgl own6 c5 R5 B5
  go_wp2_with fail
  go_loopw [57] (fun vi wr => ∃ (j : Nat) (sb : List Bool) (L : Nat → Int), vi = .int .i64 (j : Int) ∧ j ≤ n ∧ Hid (FSeen zs n os j sb L) ∧ Hid (wr.ownsRow gs 4 1 (.slice (some ⟨gs, 0, none⟩) n n) n (bools sb)) ∧ Hid (wr.ownsRow gl 3 1 (.slice (some ⟨gl, 0, none⟩) 8 8) 8 (ints (tab 8 L))) ∧ Hid (Below gs w3 wr)) (fun vi _ => n - (intOf vi).toNat)
  case atStart => exact ⟨0, _, _, rfl, Nat.zero_le _, Lib.hid ⟨List.length_replicate .., fun i hb => by unfold gb at hb; rw [List.getD_eq_getElem?_getD, List.getElem?_replicate] at hb; split at hb <;> simp at hb, fun f => .inl rfl⟩, R6, T6, B6⟩
  case round =>
    obtain ⟨j, sb, L, rfl, hj, hF, hRs, hRl, hB⟩ := hrel
    have hBW := Lib.hid (B3'.out.trans (hB.out.mono hzz.out))
    have hj0 : (0 : Int) ≤ j := by omega
    by_cases hlt : j < n
    · have hn1 : (j : Int) < n := by omega
      obtain ⟨g1, g2, g3⟩ := hF.out.fresh O3.out hlt
      obtain ⟨bx, ox, rfl, hbx, cx⟩ := (S3g.out.below hB.out).int_at hlt
      rw [onat_getF (by rw [L3.out]; exact hlt)] at cx
      have NX := Lib.hid (hF.out.next g1)
      obtain ⟨i, hi⟩ : ∃ i, os.getD j 0 = i := ⟨_, rfl⟩
      rw [hi] at g1 g2 g3 cx NX
      have HI := Lib.hid hi
      clear hi
      obtain ⟨bz, oz, rfl, hbz, -⟩ := (SZ.out.below hBW.out).int_at (k := i * 3) (by omega)
      obtain ⟨d0, d1, d2⟩ := (SZ.out.below hBW.out).three g1
      obtain ⟨f8, ff⟩ := flw_lt PK.out g1
      rw [← ff] at d2
      obtain ⟨f, hf⟩ : ∃ f, flw zs i = f := ⟨_, rfl⟩
      rw [hf] at d2 f8 g3 NX
      have HF := Lib.hid hf
      have hls := hF.out.len
      have cs : wr.cell? ⟨gs, i, none⟩ = some (.bool false) := by
        have := hRs.out.cellAt i (by omega)
        rw [bools_get (by omega), g2] at this
        exact this
      have fs := hRs.out.frozenAt i
      have cl : wr.cell? ⟨gl, f, none⟩ = some (.int .i64 (L f)) := by
        have := hRl.out.cellAt f (by omega)
        rw [ints_get (by rw [tab_len]; exact f8), tab_get _ f8] at this
        exact this
      have R1 := Lib.hid (hRs.out.stored i (.bool true)).1
      have R2 := Lib.hid (own_other hRl.out (Ne.symm hne) i (.bool true))
      rw [bools_setF] at R1
      have BB1 := Lib.hid (hB.out.setCell (p := ⟨gs, i, none⟩) (Nat.le_refl _) (.bool true))
      have BW1 := Lib.hid (hBW.out.setCell (p := ⟨gs, i, none⟩) hzz.out (.bool true))
      have d2' : (wr.setCell ⟨gs, i, none⟩ (.bool true)).cell? ⟨bz, oz + i * 3 + 2, none⟩ = some (.int .i64 (f : Int)) := (World.cell?_of_block (((OnlyD.refl gs wr).set i (.bool true)).block bz (Nat.lt_of_lt_of_le hbz hBW.out.size) (by have := hzz.out; omega))).trans d2
      have cl' : (wr.setCell ⟨gs, i, none⟩ (.bool true)).cell? ⟨gl, f, none⟩ = some (.int .i64 (L f)) := by
        have := R2.out.cellAt f (by omega)
        rw [ints_get (by rw [tab_len]; exact f8), tab_get _ f8] at this
        exact this
      have fl' := R2.out.frozenAt f
      have R3 := Lib.hid (own_other R1.out hne f (.int .i64 (i : Int)))
      have R4' := Lib.hid (R2.out.stored f (.int .i64 (i : Int))).1
      rw [ints_set, tab_set _ _ _ f8] at R4'
      have BB2 := Lib.hid (BB1.out.setCell (p := ⟨gl, f, none⟩) (show gs ≤ gl by omega) (.int .i64 (i : Int)))
      have i1 : (0 : Int) ≤ i := by omega
      have i2 : (i : Int) < n := by omega
      have i3 : (0 : Int) ≤ f := by omega
      have i4 : (f : Int) < 8 := by omega
      obtain ⟨lf, hlf⟩ : ∃ lf, L f = lf := ⟨_, rfl⟩
      rw [hlf] at cl cl' g3
      clear hf ff d0 d1 hlf g2 hls
      go_wp2_with fail
      go_roundw
      case rel => exact ⟨j + 1, _, _, by go_num, by omega, NX, R3, R4', BB2⟩
      case measure => simp [intOf]; omega
    · have hjn : j = n := by omega
      subst hjn
      have hn1 : ¬ (j : Int) < j := by omega
      go_wp2_with fail
      go_ret
      exact ⟨by simp, hBW.out⟩
end Go.Proofs.Ytehdphkaknjlnaa
