/- FairShares: two flows that both wait from the beginning on are served the same by their weights, but for their largest packets. -/
import Derived.Test.YtehdphkaknjlnaaFairAll
import Derived.Test.YtehdphkaknjlnaaFairS
set_option linter.unusedVariables false
namespace Go.Proofs.Ytehdphkaknjlnaa
open Go.RowKit
/-- Three tables of eight numbers, in blocks g, g + 1, g + 2. -/
structure A3 (wr : World) (g : Nat) (L G M : Nat → Int) : Prop where
  l : wr.ownsRow g 51 1 (.slice (some ⟨g, 0, none⟩) 8 8) 8 (ints (tab 8 L))
  q : wr.ownsRow g 51 1 (.slice (some ⟨g + 1, 0, none⟩) 8 8) 8 (ints (tab 8 G))
  m : wr.ownsRow g 51 1 (.slice (some ⟨g + 2, 0, none⟩) 8 8) 8 (ints (tab 8 M))
section
variable {wr : World} {g : Nat} {L G M : Nat → Int}
theorem row8 {b : Nat} {e : TypeId} {T : Nat → Int} (h : wr.ownsRow g e 1 (.slice (some ⟨b, 0, none⟩) 8 8) 8 (ints (tab 8 T))) {f : Nat} (hf : f < 8) : wr.cell? ⟨b, f, none⟩ = some (.int .i64 (T f)) := by
  have := h.cellAt f (by omega)
  rw [ints_get (by rw [tab_len]; exact hf), tab_get _ hf] at this
  exact this
theorem row8s {b : Nat} {e : TypeId} {T : Nat → Int} (h : wr.ownsRow g e 1 (.slice (some ⟨b, 0, none⟩) 8 8) 8 (ints (tab 8 T))) {f : Nat} (hf : f < 8) (x : Int) : (wr.setCell ⟨b, f, none⟩ (.int .i64 x)).ownsRow g e 1 (.slice (some ⟨b, 0, none⟩) 8 8) 8 (ints (tab 8 fun k => if k = f then x else T k)) := by
  have := (h.stored f (.int .i64 x)).1
  rw [ints_set, tab_set _ _ _ hf] at this
  exact this
theorem row8c {b : Nat} {e : TypeId} {T T' : Nat → Int} (h : wr.ownsRow g e 1 (.slice (some ⟨b, 0, none⟩) 8 8) 8 (ints (tab 8 T))) (hc : ∀ f, f < 8 → T f = T' f) : wr.ownsRow g e 1 (.slice (some ⟨b, 0, none⟩) 8 8) 8 (ints (tab 8 T')) := by
  rw [← tab_congr hc]; exact h
theorem A3.on {w' : World} (h : A3 wr g L G M) (hb : Below wr.heap.size wr w') : A3 w' g L G M := ⟨own_onR h.l hb, own_onR h.q hb, own_onR h.m hb⟩
theorem A3.hi (h : A3 wr g L G M) : g + 2 < wr.heap.size := (h.m.lt (g + 2) rfl).2
theorem A3.setL (h : A3 wr g L G M) {f : Nat} (hf : f < 8) (x : Int) : A3 (wr.setCell ⟨g, f, none⟩ (.int .i64 x)) g (fun k => if k = f then x else L k) G M :=
  ⟨row8s h.l hf x, own_other h.q (by omega) _ _, own_other h.m (by omega) _ _⟩
theorem A3.setG (h : A3 wr g L G M) {f : Nat} (hf : f < 8) (x : Int) : A3 (wr.setCell ⟨g + 1, f, none⟩ (.int .i64 x)) g L (fun k => if k = f then x else G k) M :=
  ⟨own_other h.l (by omega) _ _, row8s h.q hf x, own_other h.m (by omega) _ _⟩
theorem A3.setM (h : A3 wr g L G M) {f : Nat} (hf : f < 8) (x : Int) : A3 (wr.setCell ⟨g + 2, f, none⟩ (.int .i64 x)) g L G (fun k => if k = f then x else M k) :=
  ⟨own_other h.l (by omega) _ _, own_other h.q (by omega) _ _, row8s h.m hf x⟩
theorem A3.congr (h : A3 wr g L G M) {L' G' M' : Nat → Int} (h1 : ∀ f, f < 8 → L f = L' f) (h2 : ∀ f, f < 8 → G f = G' f) (h3 : ∀ f, f < 8 → M f = M' f) : A3 wr g L' G' M' := ⟨row8c h.l h1, row8c h.q h2, row8c h.m h3⟩
end
theorem own_monoS {w : World} {base base' n size : Nat} {e : TypeId} {v : Value} {xs : List Value} (h : w.ownsRow base e size v n xs) (hb : base' ≤ base) : w.ownsRow base' e size v n xs := by
  refine ⟨h.1, ?_⟩
  rcases h.2 with h' | ⟨g, cap, cur, h1, h2, h3⟩
  · exact .inl h'
  · exact .inr ⟨g, cap, cur, h1, Nat.le_trans hb h2, h3⟩
theorem A3.start (w : World) : A3 (((w.alloc (.cells #[.int .i64 0, .int .i64 0, .int .i64 0, .int .i64 0, .int .i64 0, .int .i64 0, .int .i64 0, .int .i64 0] 51)).alloc (.cells #[.int .i64 0, .int .i64 0, .int .i64 0, .int .i64 0, .int .i64 0, .int .i64 0, .int .i64 0, .int .i64 0] 51)).alloc (.cells #[.int .i64 0, .int .i64 0, .int .i64 0, .int .i64 0, .int .i64 0, .int .i64 0, .int .i64 0, .int .i64 0] 51)) w.heap.size (fun _ => 0) (fun _ => 0) (fun _ => 0) := by
  have mk : ∀ w : World, (w.alloc (.cells #[.int .i64 0, .int .i64 0, .int .i64 0, .int .i64 0, .int .i64 0, .int .i64 0, .int .i64 0, .int .i64 0] 51)).ownsRow w.heap.size 51 1 (.slice (some ⟨w.heap.size, 0, none⟩) 8 8) 8 (ints (tab 8 fun _ => 0)) := fun w => World.ownsRow_lit w (e := 51) (size := 1) #[.int .i64 0, .int .i64 0, .int .i64 0, .int .i64 0, .int .i64 0, .int .i64 0, .int .i64 0, .int .i64 0] 8 (Nat.le_refl _) (by unfold maxLen; omega) rfl
  have m2 := own_monoS (mk (w.alloc (.cells #[.int .i64 0, .int .i64 0, .int .i64 0, .int .i64 0, .int .i64 0, .int .i64 0, .int .i64 0, .int .i64 0] 51))) (base' := w.heap.size) (by simp)
  have m3 := own_monoS (mk ((w.alloc (.cells #[.int .i64 0, .int .i64 0, .int .i64 0, .int .i64 0, .int .i64 0, .int .i64 0, .int .i64 0, .int .i64 0] 51)).alloc (.cells #[.int .i64 0, .int .i64 0, .int .i64 0, .int .i64 0, .int .i64 0, .int .i64 0, .int .i64 0, .int .i64 0] 51))) (base' := w.heap.size) (by simp; omega)
  have e1 : (w.alloc (.cells #[.int .i64 0, .int .i64 0, .int .i64 0, .int .i64 0, .int .i64 0, .int .i64 0, .int .i64 0, .int .i64 0] 51)).heap.size = w.heap.size + 1 := by simp
  have e2 : ((w.alloc (.cells #[.int .i64 0, .int .i64 0, .int .i64 0, .int .i64 0, .int .i64 0, .int .i64 0, .int .i64 0, .int .i64 0] 51)).alloc (.cells #[.int .i64 0, .int .i64 0, .int .i64 0, .int .i64 0, .int .i64 0, .int .i64 0, .int .i64 0, .int .i64 0] 51)).heap.size = w.heap.size + 2 := by simp
  rw [e1] at m2
  rw [e2] at m3
  exact ⟨((mk w).alloc _).alloc _, m2.alloc _, m3⟩
set_option maxRecDepth 100000 in
set_option maxHeartbeats 6400000 in
theorem fairShares_walk (Aw : Option Addr) (wn wc : Nat) (ws : List Int) (A : Option Addr) (n c : Nat) (zs : List Int) (a b : Int) (W : World) (w0 : InInts W Aw wn wc ws) (w1 : In3 W A n c zs) (w2 : -9223372036854775808 ≤ a ∧ a ≤ 9223372036854775807) (w3 : -9223372036854775808 ≤ b ∧ b ≤ 9223372036854775807) :
    Calls Try.prog 8 #[.slice Aw wn wc, .slice A n c, .int .i64 a, .int .i64 b] W fun e w' => e = .returned (.bool true) ∧ Below W.heap.size W w' := by
  obtain ⟨sw, lw, rw_, _⟩ := w0
  obtain ⟨sz, lz, rz, _⟩ := w1
  have SW := Lib.hid sw
  have SZ := Lib.hid sz
  have hwn : wn ≤ 9223372036854775807 := by omega
  have hnn : n ≤ 9223372036854775807 := by omega
  clear sw sz lw rw_ lz rz w2 w3
  go_enter Try.func8, Try.ntmps8
  go_wp2_with fail
  refine (weights_any _).mono ?_
  rintro e wa ⟨rfl, rfl⟩
  go_wp2_with fail
  refine (frun_ok _ 8 _ [1, 1, 1, 1, 1, 1, 1, 1] _ 3 _ [0, 1, 0, 0, 1, 1, 0, 1, 0] _ (slMore (Sl.built_ W (ints [1, 1, 1, 1, 1, 1, 1, 1]) 3 _ rfl rfl) _) (Sl.built_ _ (ints [0, 1, 0, 0, 1, 1, 0, 1, 0]) 49 _ (by simp) rfl) (by decide +kernel)).mono ?_
  rintro e w1 ⟨B1, c1, os1, rfl, o1, l1, s1, bb1, le1⟩
  rw [fair_lit3 o1] at s1
  have B1' := Lib.hid (belLit2 (Below.refl W.heap.size W) bb1)
  have S1 := Lib.hid s1
  clear bb1 o1 s1
  go_wp2_with fail
  refine (equal_t B1 3 c1 [0, 1, 2] _ 3 _ [0, 1, 2] _ (slMore S1.out _) (Sl.built_ _ (ints [0, 1, 2]) 3 _ rfl rfl) (by omega) (by omega) true (by decide)).mono ?_
  rintro e w2 ⟨rfl, bb2⟩
  have B2 := Lib.hid (belLit1 B1'.out bb2)
  clear bb2
  have SZ2 := Lib.hid ((SZ.out.below B2.out).more B2.out.size)
  have SW2 := Lib.hid ((SW.out.below B2.out).more B2.out.size)
  obtain ⟨ck, hck⟩ : ∃ ck, fchk ws zs wn n = ck := ⟨_, rfl⟩
  have HCK := Lib.hid hck
  clear hck
  by_cases h0 : ck = 0
  case neg =>
    have hne : (ck != 0) = true := by simpa using h0
    have H0 := Lib.hid h0
    clear h0
    go_wp2_with fail
    refine (frun_bad Aw wn wc ws A n c zs _ SW2.out hwn SZ2.out hnn ck HCK.out H0.out).mono ?_
    rintro e w5 ⟨rfl, bb5⟩
    have B5' := Lib.hid (B2.out.trans (bb5.mono B2.out.size))
    clear bb5
    go_wp2_with fail
    go_ret
    exact ⟨rfl, B5'.out⟩
  subst h0
  obtain ⟨h8, hwk, hpk⟩ := wok_of HCK.out SW.out.int_len
  subst h8
  have PK := Lib.hid (packs_of hpk)
  have WK := Lib.hid hwk
  have n60 : n ≤ 60 := PK.out.top
  clear hwk hpk
  go_wp2_with fail
  refine (frun_ok Aw 8 wc ws A n c zs _ SW2.out SZ2.out HCK.out).mono ?_
  rintro e w3 ⟨B3, c3, os, rfl, o3, l3, s3, bb3, le3⟩
  have B3' := Lib.hid (B2.out.trans (bb3.mono B2.out.size))
  have S3 := Lib.hid s3
  have O3 := Lib.hid o3
  have L3 := Lib.hid l3
  clear bb3 o3 s3 l3
  go_wp2_with fail
  have p0 := within_lo a 8 (by omega)
  have p1 := within_hi a 8 (by omega)
  have p2 := within_lo b 8 (by omega)
  have p3 := within_hi b 8 (by omega)
  obtain ⟨a', ha'⟩ := Int.eq_ofNat_of_zero_le p0
  obtain ⟨b', hb'⟩ := Int.eq_ofNat_of_zero_le p2
  have ha8 : a' < 8 := by omega
  have hb8 : b' < 8 := by omega
  have HA := Lib.hid ha'
  have HB := Lib.hid hb'
  clear p0 p1 p2 p3 ha' hb'
  refine (within_t a 8 _ (by omega) (by omega) a' HA.out).mono ?_
  rintro e _ ⟨rfl, rfl⟩
  go_wp2_with fail
  refine (within_t b 8 _ (by omega) (by omega) b' HB.out).mono ?_
  rintro e _ ⟨rfl, rfl⟩
  have R4 := Lib.hid (A3.start w3)
  go_wp2_with fail
  have BZ : Hid (Below w3.heap.size w3 (((w3.alloc (.cells #[.int .i64 0, .int .i64 0, .int .i64 0, .int .i64 0, .int .i64 0, .int .i64 0, .int .i64 0, .int .i64 0] 51)).alloc (.cells #[.int .i64 0, .int .i64 0, .int .i64 0, .int .i64 0, .int .i64 0, .int .i64 0, .int .i64 0, .int .i64 0] 51)).alloc (.cells #[.int .i64 0, .int .i64 0, .int .i64 0, .int .i64 0, .int .i64 0, .int .i64 0, .int .i64 0, .int .i64 0] 51))) := Lib.hid ((((Below.refl _ _).alloc (Nat.le_refl _) _).alloc (by simp) _).alloc (by simp; omega) _)
  have hzz : Hid (W.heap.size ≤ w3.heap.size) := B3'.out.size
  obtain ⟨g, hg⟩ : ∃ g, w3.heap.size = g := ⟨_, rfl⟩
  obtain ⟨w4, hw4⟩ : ∃ w4, ((w3.alloc (.cells #[.int .i64 0, .int .i64 0, .int .i64 0, .int .i64 0, .int .i64 0, .int .i64 0, .int .i64 0, .int .i64 0] 51)).alloc (.cells #[.int .i64 0, .int .i64 0, .int .i64 0, .int .i64 0, .int .i64 0, .int .i64 0, .int .i64 0, .int .i64 0] 51)).alloc (.cells #[.int .i64 0, .int .i64 0, .int .i64 0, .int .i64 0, .int .i64 0, .int .i64 0, .int .i64 0, .int .i64 0] 51) = w4 := ⟨_, rfl⟩
  rw [hw4] at R4 BZ ⊢
  rw [hg] at R4 BZ hzz ⊢
  have S3g : Hid (Sl w3 g B3 n (ints (onat os))) := Lib.hid (by rw [← hg]; exact S3.out)
  clear hw4 hg
  go_loopw [68] (fun vi wr => ∃ k : Nat, k ≤ n ∧ vi = .int .i64 (k : Int) ∧ Hid (A3 wr g (fun f => stot zs f k) (fun _ => 0) (fun f => smost zs f k)) ∧ Hid (∀ i, i < k → fd zs i 0 = 0) ∧ Hid (Below g w3 wr)) (fun vi _ => n - (intOf vi).toNat)
  case atStart => exact ⟨0, Nat.zero_le _, rfl, R4, Lib.hid fun i hi => absurd hi (by omega), BZ⟩
  case round =>
    obtain ⟨k, hk, rfl, hR, hZ, hB⟩ := hrel
    have hBW := Lib.hid (B3'.out.trans (hB.out.mono hzz.out))
    have hk0 : (0 : Int) ≤ k := by omega
    by_cases hlt : k < n
    · have hn1 : (k : Int) < n := by omega
      obtain ⟨bl, ol, rfl, hbl, -⟩ := (SZ.out.below hBW.out).int_at (k := k * 3) (by omega)
      obtain ⟨c0, c1, c2⟩ := (SZ.out.below hBW.out).three hlt
      have q0 := PK.out.at0 k hlt
      by_cases hat : 0 < fd zs k 0
      · have BP := Lib.hid (hBW.out.alloc hBW.out.size (.cells #[.int .i64 (fd zs k 0), .int .i64 (fd zs k 1), .int .i64 (fd zs k 2)] 49))
        go_wp2_with fail
        go_ret
        exact ⟨rfl, BP.out⟩
      · have hat0 : fd zs k 0 = 0 := by omega
        have HZ' : Hid (∀ i, i < k + 1 → fd zs i 0 = 0) := Lib.hid fun i hi => by
          rcases Nat.lt_or_ge i k with h1 | h1
          · exact hZ.out i h1
          · have : i = k := by omega
            rw [this]; exact hat0
        have q1 := PK.out.sz k hlt
        obtain ⟨f8, ff⟩ := flw_lt PK.out hlt
        rw [hat0] at c0
        rw [← ff] at c2
        obtain ⟨f, hf⟩ : ∃ f, flw zs k = f := ⟨_, rfl⟩
        obtain ⟨sz, hsz⟩ : ∃ z, fd zs k 1 = z := ⟨_, rfl⟩
        rw [hf] at c2 f8
        rw [hsz] at c1 q1
        have HF := Lib.hid hf
        have HSZ := Lib.hid hsz
        have zz := hR.out.hi
        have RA := Lib.hid (hR.out.on ((Below.refl _ _).alloc (Nat.le_refl _) (.cells #[.int .i64 0, .int .i64 sz, .int .i64 (f : Int)] 49)))
        have BA := Lib.hid (hB.out.alloc (by omega) (.cells #[.int .i64 0, .int .i64 sz, .int .i64 (f : Int)] 49))
        have la := row8 RA.out.l f8
        have lf := RA.out.l.frozenAt f
        obtain ⟨x, hx⟩ : ∃ x, stot zs f k = x := ⟨_, rfl⟩
        have xb : 0 ≤ x ∧ x ≤ 60 := by rw [← hx]; exact stot_bd zs f k 60 (by omega)
        rw [hx] at la
        have RB := Lib.hid (RA.out.setL f8 (x + 1))
        have BB := Lib.hid (BA.out.setCell (p := ⟨g, f, none⟩) (Nat.le_refl _) (.int .i64 (x + 1)))
        have OD := (OnlyD.refl g (wr.alloc (.cells #[.int .i64 0, .int .i64 sz, .int .i64 (f : Int)] 49))).set f (.int .i64 (x + 1))
        obtain ⟨gp, hgp⟩ : ∃ gp, wr.heap.size = gp := ⟨_, rfl⟩
        have HX := Lib.hid hx
        have e1 : ((wr.alloc (.cells #[.int .i64 0, .int .i64 sz, .int .i64 (f : Int)] 49)).setCell ⟨g, f, none⟩ (.int .i64 (x + 1))).drew.cell? ⟨gp, 1, none⟩ = some (.int .i64 sz) := (World.cell?_of_block (OD.block gp (by rw [← hgp]; simp) (by omega))).trans (by subst hgp; exact World.cell?_alloc_at _ _ _ _ rfl)
        have e2 : ((wr.alloc (.cells #[.int .i64 0, .int .i64 sz, .int .i64 (f : Int)] 49)).setCell ⟨g, f, none⟩ (.int .i64 (x + 1))).drew.cell? ⟨gp, 2, none⟩ = some (.int .i64 (f : Int)) := (World.cell?_of_block (OD.block gp (by rw [← hgp]; simp) (by omega))).trans (by subst hgp; exact World.cell?_alloc_at _ _ _ _ rfl)
        have i3 : (0 : Int) ≤ f := by omega
        have i4 : (f : Int) < 8 := by omega
        clear hf hsz hx ff OD hat q0
        go_wp2_with fail
        try rw [hgp]
        obtain ⟨wy, hwy⟩ : ∃ wy, (wr.alloc (.cells #[.int .i64 0, .int .i64 sz, .int .i64 (f : Int)] 49)).setCell ⟨g, f, none⟩ (.int .i64 (x + 1)) = wy := ⟨_, rfl⟩
        rw [hwy] at RB BB e1 e2 ⊢
        have RD := Lib.hid (RB.out.on (Below.refl _ _).drew)
        have BD : Hid (Below g w3 wy.drew) := Lib.hid BB.out.drew
        have ma := row8 RD.out.m f8
        have mf := RD.out.m.frozenAt f
        obtain ⟨mo, hmo⟩ : ∃ mo, smost zs f k = mo := ⟨_, rfl⟩
        rw [hmo] at ma
        obtain ⟨mm, hmm⟩ : ∃ mm, (if mo < sz then sz else mo) = mm := ⟨_, rfl⟩
        have HMO := Lib.hid hmo
        have HMM := Lib.hid hmm
        clear hwy hmo c0 c1 c2 la lf RA BA hgp
        refine wp_region_still_tail 10 (by kernel_rfl) (by kernel_rfl) ?_
        simp only [List.take_succ_cons, List.take_zero, List.drop_succ_cons, List.drop_zero]
        repeat still_step
        refine wpStill_nil ?_
        change wpList _ _ _ _ _ wy.drew
        obtain ⟨wz, hwz⟩ : ∃ wz, wy.drew = wz := ⟨_, rfl⟩
        rw [hwz] at RD BD ma mf e1 e2 ⊢
        have RE := Lib.hid (RD.out.setM f8 mm)
        have BE := Lib.hid (BD.out.setCell (p := ⟨g + 2, f, none⟩) (show g ≤ g + 2 by omega) (.int .i64 mm))
        go_wp2_with fail
        go_roundw
        case rel =>
          refine ⟨k + 1, by omega, by go_num, Lib.hid (RE.out.congr (fun f' _ => ?_) (fun _ _ => rfl) (fun f' _ => ?_)), HZ', BE⟩
          · show _ = stot zs f' k + (if flw zs k = f' then 1 else 0)
            rw [HF.out]
            by_cases e : f' = f
            · rw [e, if_pos rfl, if_pos rfl, HX.out]
            · rw [if_neg e, if_neg (fun e' => e e'.symm)]; omega
          · show _ = if flw zs k = f' then mx (smost zs f' k) (fd zs k 1) else smost zs f' k
            rw [HF.out, HSZ.out]
            by_cases e : f' = f
            · rw [e, if_pos rfl, if_pos rfl, HMO.out, ← HMM.out]; rfl
            · rw [if_neg e, if_neg (fun e' => e e'.symm)]
        case measure => simp [intOf]; omega
    · have hkn : k = n := by omega
      subst hkn
      have hn1 : ¬ (k : Int) < k := by omega
      go_wp2_with fail
      go_loopw [94] (fun vi wr => ∃ j : Nat, j ≤ k ∧ vi = .int .i64 (j : Int) ∧ Hid (A3 wr g (fun f => stot zs f k - scnt zs os f j) (fun f => sgot zs os f j) (fun f => smost zs f k)) ∧ Hid (Below g w3 wr)) (fun vi _ => k - (intOf vi).toNat)
      case atStart => exact ⟨0, Nat.zero_le _, rfl, Lib.hid (hR.out.congr (fun f _ => by show _ = stot zs f k - 0; omega) (fun _ _ => rfl) (fun _ _ => rfl)), hB⟩
      case round =>
        clear hR hB hBW
        obtain ⟨j, hj, rfl, hR, hB⟩ := hrel
        have hBW := Lib.hid (B3'.out.trans (hB.out.mono hzz.out))
        have hj0 : (0 : Int) ≤ j := by omega
        by_cases hlt2 : j < k
        · have hn2 : (j : Int) < k := by omega
          obtain ⟨bx, ox, rfl, hbx, cx⟩ := (S3g.out.below hB.out).int_at hlt2
          rw [onat_getF (by rw [L3.out]; exact hlt2)] at cx
          have gi1 := O3.out.gl hlt2
          have la := row8 hR.out.l ha8
          have lb := row8 hR.out.l hb8
          obtain ⟨xa, hxa⟩ : ∃ x, stot zs a' k - scnt zs os a' j = x := ⟨_, rfl⟩
          obtain ⟨xb, hxb⟩ : ∃ x, stot zs b' k - scnt zs os b' j = x := ⟨_, rfl⟩
          rw [hxa] at la
          rw [hxb] at lb
          have HXA := Lib.hid hxa
          have HXB := Lib.hid hxb
          have i5 : (0 : Int) ≤ a' := by omega
          have i6 : (a' : Int) < 8 := by omega
          have i7 : (0 : Int) ≤ b' := by omega
          have i8 : (b' : Int) < 8 := by omega
          clear hxa hxb
          by_cases ea : xa = 0
          · subst ea
            clear lb
            go_wp2_with fail
            go_ret
            exact ⟨rfl, hBW.out⟩
          · by_cases eb : xb = 0
            · subst eb
              have ea' : (xa == 0) = false := by simpa using ea
              go_wp2_with fail
              go_ret
              exact ⟨rfl, hBW.out⟩
            · have FB1 := Lib.hid (fair_bound O3.out WK.out PK.out hZ.out ha8 hb8 hlt2 (by rw [HXB.out]; exact eb))
              have FB2 := Lib.hid (fair_bound O3.out WK.out PK.out hZ.out hb8 ha8 hlt2 (by rw [HXA.out]; exact ea))
              have ea' : (xa == 0) = false := by simpa using ea
              have eb' : (xb == 0) = false := by simpa using eb
              obtain ⟨i, hi⟩ : ∃ i, os.getD j 0 = i := ⟨_, rfl⟩
              rw [hi] at cx gi1
              obtain ⟨bl, ol, rfl, hbl, -⟩ := (SZ.out.below hBW.out).int_at (k := i * 3) (by omega)
              obtain ⟨c0, c1, c2⟩ := (SZ.out.below hBW.out).three gi1
              obtain ⟨f8, ff⟩ := flw_lt PK.out gi1
              have q1 := PK.out.sz i gi1
              rw [← ff] at c2
              obtain ⟨f, hf⟩ : ∃ f, flw zs i = f := ⟨_, rfl⟩
              obtain ⟨sz, hsz⟩ : ∃ z, fd zs i 1 = z := ⟨_, rfl⟩
              obtain ⟨at_, hat_⟩ : ∃ z, fd zs i 0 = z := ⟨_, rfl⟩
              rw [hf] at c2 f8
              rw [hsz] at c1 q1
              rw [hat_] at c0
              have HI := Lib.hid hi
              have HF := Lib.hid hf
              have HSZ := Lib.hid hsz
              have zz := hR.out.hi
              have RA := Lib.hid (hR.out.on ((Below.refl _ _).alloc (Nat.le_refl _) (.cells #[.int .i64 at_, .int .i64 sz, .int .i64 (f : Int)] 49)))
              have BA := Lib.hid (hB.out.alloc (by omega) (.cells #[.int .i64 at_, .int .i64 sz, .int .i64 (f : Int)] 49))
              obtain ⟨gp, hgp⟩ : ∃ gp, wr.heap.size = gp := ⟨_, rfl⟩
              have e1 : (wr.alloc (.cells #[.int .i64 at_, .int .i64 sz, .int .i64 (f : Int)] 49)).drew.cell? ⟨gp, 1, none⟩ = some (.int .i64 sz) := by subst hgp; exact World.cell?_alloc_at _ _ _ _ rfl
              have e2 : (wr.alloc (.cells #[.int .i64 at_, .int .i64 sz, .int .i64 (f : Int)] 49)).drew.cell? ⟨gp, 2, none⟩ = some (.int .i64 (f : Int)) := by subst hgp; exact World.cell?_alloc_at _ _ _ _ rfl
              have gpz : gp < (wr.alloc (.cells #[.int .i64 at_, .int .i64 sz, .int .i64 (f : Int)] 49)).drew.heap.size := by subst hgp; show _ < (wr.alloc (.cells #[.int .i64 at_, .int .i64 sz, .int .i64 (f : Int)] 49)).heap.size; simp
              have iI0 : (0 : Int) ≤ i := by omega
              have iI1 : (i : Int) < k := by omega
              have i3 : (0 : Int) ≤ f := by omega
              have i4 : (f : Int) < 8 := by omega
              clear hf hsz hi ff hat_ ea eb
              go_wp2_with fail
              try rw [hgp]
              obtain ⟨wy, hwy⟩ : ∃ wy, wr.alloc (.cells #[.int .i64 at_, .int .i64 sz, .int .i64 (f : Int)] 49) = wy := ⟨_, rfl⟩
              rw [hwy] at RA BA e1 e2 gpz ⊢
              have RD := Lib.hid (RA.out.on (Below.refl _ _).drew)
              have BD : Hid (Below g w3 wy.drew) := Lib.hid BA.out.drew
              have ga := row8 RD.out.q f8
              have gf := RD.out.q.frozenAt f
              obtain ⟨go, hgo⟩ : ∃ x, sgot zs os f j = x := ⟨_, rfl⟩
              have gob := sgot_bd PK.out (os := os) (fun j hj => O3.out.gl hj) f j hj
              rw [hgo] at ga gob
              have HGO := Lib.hid hgo
              have gpn : g + 2 < gp := by rw [← hgp]; exact zz
              clear hwy hgo c0 c1 c2 la lb cx hgp
              refine wp_region_still_tail 8 (by kernel_rfl) (by kernel_rfl) ?_
              simp only [List.take_succ_cons, List.take_zero, List.drop_succ_cons, List.drop_zero]
              repeat still_step
              refine wpStill_nil ?_
              change wpList _ _ _ _ _ wy.drew
              obtain ⟨wz, hwz⟩ : ∃ wz, wy.drew = wz := ⟨_, rfl⟩
              rw [hwz] at RD BD ga gf e1 e2 gpz ⊢
              clear hwz
              have RE := Lib.hid (RD.out.setG f8 (go + sz))
              have BE := Lib.hid (BD.out.setCell (p := ⟨g + 1, f, none⟩) (show g ≤ g + 1 by omega) (.int .i64 (go + sz)))
              have OD := (OnlyD.refl (g + 1) wz).set f (.int .i64 (go + sz))
              have u2 : (wz.setCell ⟨g + 1, f, none⟩ (.int .i64 (go + sz))).cell? ⟨gp, 2, none⟩ = some (.int .i64 (f : Int)) := (World.cell?_of_block (OD.block gp gpz (by omega))).trans e2
              have ll := row8 RE.out.l f8
              have llf := RE.out.l.frozenAt f
              obtain ⟨lo, hlo⟩ : ∃ x, stot zs f k - scnt zs os f j = x := ⟨_, rfl⟩
              have lob : -60 ≤ lo ∧ lo ≤ 60 := by
                have t1 := stot_bd zs f k 60 (by omega)
                have t2 := scnt_bd zs os f j 60 (by omega)
                omega
              rw [hlo] at ll
              have HLO := Lib.hid hlo
              have RF := Lib.hid (RE.out.setL f8 (lo - 1))
              have BF := Lib.hid (BE.out.setCell (p := ⟨g, f, none⟩) (Nat.le_refl _) (.int .i64 (lo - 1)))
              clear OD hlo
              go_wp2_with fail
              obtain ⟨wv, hwv⟩ : ∃ wv, ((wz.setCell ⟨g + 1, f, none⟩ (.int .i64 (go + sz))).setCell ⟨g, f, none⟩ (.int .i64 (lo - 1))) = wv := ⟨_, rfl⟩
              rw [hwv] at RF BF ⊢
              have RG := Lib.hid (RF.out.congr (L' := fun f' => stot zs f' k - scnt zs os f' (j + 1)) (G' := fun f' => sgot zs os f' (j + 1)) (M' := fun f' => smost zs f' k) (fun f' _ => by
                show _ = stot zs f' k - (scnt zs os f' j + if flw zs (os.getD j 0) = f' then 1 else 0)
                rw [HI.out, HF.out]
                by_cases e : f' = f
                · rw [e, if_pos rfl, if_pos rfl, ← HLO.out]; omega
                · rw [if_neg e, if_neg (fun e' => e e'.symm)]; omega) (fun f' _ => by
                show _ = sgot zs os f' j + if flw zs (os.getD j 0) = f' then fd zs (os.getD j 0) 1 else 0
                rw [HI.out, HF.out, HSZ.out]
                by_cases e : f' = f
                · rw [e, if_pos rfl, if_pos rfl, HGO.out]
                · rw [if_neg e, if_neg (fun e' => e e'.symm)]; omega) (fun _ _ => rfl))
              clear RF hwv RE BE RD BD RA BA hR ga gf e1 e2 u2 ll llf gob lob gpz gpn i3 i4 iI0 iI1 q1
              have ka := row8 RG.out.q ha8
              have kb := row8 RG.out.q hb8
              have na := row8 RG.out.m ha8
              have nb := row8 RG.out.m hb8
              have BWv := Lib.hid (B3'.out.trans (BF.out.mono hzz.out))
              obtain ⟨bw, ow, rfl, hbw, va⟩ := (SW.out.below BWv.out).int_at ha8
              have vb := (SW.out.below BWv.out).int_cell hb8
              have wa := WK.out.2 a' ha8
              have wb := WK.out.2 b' hb8
              have xab := sgot_bd PK.out (os := os) (fun j hj => O3.out.gl hj) a' (j + 1) hlt2
              have xbb := sgot_bd PK.out (os := os) (fun j hj => O3.out.gl hj) b' (j + 1) hlt2
              have mab := smost_bd PK.out a' k (Nat.le_refl _)
              have mbb := smost_bd PK.out b' k (Nat.le_refl _)
              have FB1' := FB1.out
              have FB2' := FB2.out
              generalize sgot zs os a' (j + 1) = ya at ka xab FB1' FB2'
              generalize sgot zs os b' (j + 1) = yb at kb xbb FB1' FB2'
              generalize smost zs a' k = ma at na mab FB1' FB2'
              generalize smost zs b' k = mb at nb mbb FB1' FB2'
              generalize gi ws a' = ua at va wa FB1' FB2'
              generalize gi ws b' = ub at vb wb FB1' FB2'
              have prod : ∀ {x y B : Int}, 0 ≤ x → x ≤ B → 1 ≤ y → y ≤ 8 → 0 ≤ x * y ∧ x * y ≤ 8 * B := fun {x y B} h0 h1 h2 h3 => ⟨Int.mul_nonneg h0 (by omega), by
                have a1 := Int.mul_le_mul_of_nonneg_left h3 h0
                omega⟩
              have p1 := prod xab.1 (show ya ≤ 60000 by omega) wb.1 wb.2
              have p2 := prod xbb.1 (show yb ≤ 60000 by omega) wa.1 wa.2
              have p3 := prod mab.1 mab.2 wb.1 wb.2
              have p4 := prod mbb.1 mbb.2 wa.1 wa.2
              have hD : ∃ D : Int, wrap64 (wrap64 (ya * ub) - wrap64 (yb * ua)) = D ∧ D ≤ ma * ub ∧ -D ≤ mb * ua ∧ -600000 ≤ D ∧ D ≤ 600000 := ⟨ya * ub - yb * ua, by
                rw [IntWalk.wrap64_in (ya * ub) ⟨by omega, by omega⟩, IntWalk.wrap64_in (yb * ua) ⟨by omega, by omega⟩]
                exact IntWalk.wrap64_in _ ⟨by omega, by omega⟩, by omega, by omega, by omega, by omega⟩
              have hM : ∃ M : Int, wrap64 (wrap64 (ma * ub) + wrap64 (mb * ua)) = M ∧ M = ma * ub + mb * ua := ⟨ma * ub + mb * ua, by
                rw [IntWalk.wrap64_in (ma * ub) ⟨by omega, by omega⟩, IntWalk.wrap64_in (mb * ua) ⟨by omega, by omega⟩]
                exact IntWalk.wrap64_in _ ⟨by omega, by omega⟩, rfl⟩
              obtain ⟨D, eD, d1, d2, d3, d4⟩ := hD
              obtain ⟨M, eM, m1⟩ := hM
              have dm1 : D ≤ M := by omega
              have dm2 : -D ≤ M := by omega
              have t1 : decide (M < D) = false := decide_eq_false (by omega)
              have t2 : decide (M < -D) = false := decide_eq_false (by omega)
              have ED := Lib.hid eD
              have EM := Lib.hid eM
              clear FB1' FB2' p1 p2 p3 p4 prod xab xbb mab mbb wa wb FB1 FB2 eD eM d1 d2 m1 dm1 dm2
              go_quiet (fail)
              rw [ED.out]
              go_wp2_with fail
              go_quiet (fail)
              rw [EM.out]
              go_wp2_with fail
              go_roundw
              case rel => exact ⟨j + 1, by omega, by go_num, Lib.hid (RG.out.on (bel_drewN (Below.refl _ _) _)), Lib.hid (bel_drewN BF.out _)⟩
              case measure => simp [intOf]; omega
        · have hjk : j = k := by omega
          subst hjk
          have hn2 : ¬ (j : Int) < j := by omega
          go_wp2_with fail
          go_ret
          exact ⟨rfl, hBW.out⟩
end Go.Proofs.Ytehdphkaknjlnaa
