/- lease.Take. -/
import Derived.Test.YtpifknmoimlpoaaInsLease
import Derived.Test.YtpifknmoimlpoaaTakeP
set_option linter.unusedVariables false
namespace Go.Proofs.Ytpifknmoimlpoaa
open Go.RowKit
set_option maxHeartbeats 1600000 in
theorem insLeaseEnd (base : Nat) (A : Option Addr) (n cap : Nat) (xs : List Value) (w0 : World) (x0 x1 x2 : Int) (hown : w0.ownsRow base 87 3 (.slice A n cap) n xs) (hbase : base ≤ w0.heap.size) (hn : n ≤ 100) (hc : n ≤ cap) :
    Calls Try.prog 105 #[.slice A n cap, .int .i64 n, .slice (some ⟨w0.heap.size, 0, none⟩) 1 1] (w0.alloc (.cells #[.int .i64 x0, .int .i64 x1, .int .i64 x2] 87)) fun e w' => ∃ A' cap', e = .returned (.slice A' (n + 1) cap') ∧ w'.ownsRow base 87 3 (.slice A' (n + 1) cap') (n + 1) (xs ++ [.int .i64 x0, .int .i64 x1, .int .i64 x2]) ∧ Below base w0 w' := by
  have OW : Hid ((w0.alloc (.cells #[.int .i64 x0, .int .i64 x1, .int .i64 x2] 87)).ownsRow base 87 3 (.slice A n cap) n xs) := World.ownsRow.alloc hown _
  have BW : Hid (Below base w0 (w0.alloc (.cells #[.int .i64 x0, .int .i64 x1, .int .i64 x2] 87))) := (Below.refl base w0).alloc hbase _
  have hz : Hid (base ≤ (w0.alloc (.cells #[.int .i64 x0, .int .i64 x1, .int .i64 x2] 87)).heap.size) := Nat.le_trans hbase (by simp)
  have hcl : Hid (∀ ad, (some ⟨w0.heap.size, 0, none⟩ : Option Addr) = some ad → ∀ j u, [Value.int .i64 x0, .int .i64 x1, .int .i64 x2][j]? = some u → (w0.alloc (.cells #[.int .i64 x0, .int .i64 x1, .int .i64 x2] 87)).cell? (ad.add j) = some u) := by
    show ∀ ad, _ → _
    rintro ad h j u hj
    injection h with h
    subst h
    rw [Addr.add_lit, Nat.zero_add, World.cell?_alloc_at _ _ _ _ rfl]
    simpa using hj
  have hA : A = none → n = 0 := fun h => by
    subst h
    rcases hown.2 with ⟨e1, h0⟩ | ⟨g', cap', cur, e1, _⟩
    · injection e1
    · cases e1
  have k1 : (n : Int) ≤ cap := by omega
  have k2 : (0 : Int) ≤ n := by omega
  clear hown
  go_enter Try.func105, Try.ntmps105
  rcases A with _ | ⟨b, off, sp⟩
  · obtain rfl : n = 0 := hA rfl
    clear hA
    go_wp2_with (at_builtin; refine wpList_cat rfl (.tmp 23) (.tmp 24) _ rfl elemLease base _ 0 xs _ 1 1 [.int .i64 x0, .int .i64 x1, .int .i64 x2] rfl rfl OW.out BW.out hz.out rfl (fun h => by cases h) hcl.out (by simp [Value.oneCell']) (by unfold maxLen; omega) (by omega) ?_; intro v' w1 hown1 hb1 hz1 _; obtain ⟨A', c', rfl, hc'⟩ := own_form hown1)
    go_ret
    exact ⟨A', c', rfl, hown1, hb1⟩
  · clear hA
    go_wp2_with (at_builtin; refine wpList_cat rfl (.tmp 23) (.tmp 24) _ rfl elemLease base _ n xs _ 1 1 [.int .i64 x0, .int .i64 x1, .int .i64 x2] rfl rfl OW.out BW.out hz.out rfl (fun h => by cases h) hcl.out (by simp [Value.oneCell']) (by unfold maxLen; omega) (by omega) ?_; intro v' w1 hown1 hb1 hz1 _; obtain ⟨A', c', rfl, hc'⟩ := own_form hown1)
    all_goals
      go_ret
      exact ⟨A', c', rfl, hown1, hb1⟩
theorem own_keepT {w w' : World} {base size n cap D : Nat} {A : Option Addr} {e : TypeId} {xs : List Value} (h : w.ownsRow base e size (.slice A n cap) n xs) (hb : Below w.heap.size w w') : w'.ownsRow base e size (.slice A n cap) n xs :=
  h.kept ⟨hb.os, hb.tape, hb.output, hb.size, fun k hk _ => hb.block k hk⟩ (row := none) (by rcases (Value.slice A n cap).ownBlock with _ | k; exact .inl rfl; exact .inr (by simp))
/-- The stores of a struct at i. -/
theorem put_list {l : List (Int × Int × Int)} {x : Int × Int × Int} {p : Nat} (hp : p < l.length) :
    (((ints (flatT l)).set (p * 3) (.int .i64 x.1)).set (p * 3 + 1) (.int .i64 x.2.1)).set (p * 3 + 2) (.int .i64 x.2.2) = ints (flatT (l.take p ++ x :: l.drop (p + 1))) := by
  have hl := flatT_len l
  have e : (((ints (flatT l)).set (p * 3) (.int .i64 x.1)).set (p * 3 + 1) (.int .i64 x.2.1)).set (p * 3 + 2) (.int .i64 x.2.2) = setC (ints (flatT l)) (p * 3) [.int .i64 x.1, .int .i64 x.2.1, .int .i64 x.2.2] := rfl
  rw [e, setC_eq _ _ _ (by rw [ints_len, hl]; simp only [List.length_cons, List.length_nil]; omega), flatT_app, flatT_take]
  show _ = ints ((flatT l).take (p * 3) ++ (x.1 :: x.2.1 :: x.2.2 :: flatT (l.drop (p + 1))))
  rw [flatT_drop]
  unfold ints
  simp only [List.map_append, List.map_cons, List.map_take, List.map_drop, List.length_cons, List.length_nil, List.append_assoc, List.cons_append, List.nil_append]
  rw [show (p + 1) * 3 = p * 3 + (0 + 1 + 1 + 1) by omega]
theorem ins_flat {l : List (Int × Int × Int)} {x : Int × Int × Int} {p : Nat} :
    (ints (flatT l)).take (p * 3) ++ [.int .i64 x.1, .int .i64 x.2.1, .int .i64 x.2.2] ++ (ints (flatT l)).drop (p * 3) = ints (flatT (l.take p ++ x :: l.drop p)) := by
  rw [flatT_app, flatT_take]
  show _ = ints ((flatT l).take (p * 3) ++ (x.1 :: x.2.1 :: x.2.2 :: flatT (l.drop p)))
  rw [flatT_drop]
  unfold ints
  simp only [List.map_append, List.map_cons, List.map_take, List.map_drop, List.append_assoc, List.cons_append, List.nil_append]
set_option maxHeartbeats 6400000 in
theorem ltake_ok (A : Option Addr) (n c : Nat) (l : List (Int × Int × Int)) (x : Int × Int × Int) (W : World) (hn : l.length = n) (hl : leaseT l) (hx : oneOk x.1 x.2.1 x.2.2) (hs : Sl W W.heap.size A (n * 3) (ints (flatT l))) :
    Calls Try.prog 59 #[.slice A n c, .agg #[.int .i64 x.1, .int .i64 x.2.1, .int .i64 x.2.2]] W fun e w' => ∃ A' c', e = .returned (.tuple #[.slice A' (takeT l x).length c', .int .i64 0]) ∧
      Sl w' w'.heap.size A' ((takeT l x).length * 3) (ints (flatT (takeT l x))) ∧ (takeT l x).length ≤ c' ∧ Below W.heap.size W w' ∧ w'.ownsRow W.heap.size 87 3 (.slice A' (takeT l x).length c') (takeT l x).length (ints (flatT (takeT l x))) := by
  have h0 := (leaseT_iff l).1 hl
  rw [hn] at h0
  have h8 := leases_8 (leases_of h0)
  have LI := Lib.hid (leaseT_idx hl)
  have E1 := Lib.hid (show oneE x.1 x.2.1 x.2.2 = 0 from if_pos hx)
  have HX := Lib.hid hx
  clear hl hx
  obtain ⟨x0, x1, x2⟩ := x
  simp only at E1 HX ⊢
  have S0 := Lib.hid (hs.alloc (Nat.le_refl _) (.cells #[.int .i64 x0, .int .i64 x1, .int .i64 x2] 87))
  have H0 := Lib.hid h0
  clear h0 hs
  go_enter Try.func59, Try.ntmps59
  go_wp2_with fail
  have lc := lcheck_any A n c (flatT l) (W.alloc (.cells #[.int .i64 x0, .int .i64 x1, .int .i64 x2] 87)) (S0.out.more (by simp)) (by omega)
  rw [H0.out] at lc
  refine lc.mono ?_
  rintro e w1 ⟨rfl, b1⟩
  clear lc
  have c0 : w1.cell? ⟨W.heap.size, 0, none⟩ = some (.int .i64 x0) := (b1.cell (p := ⟨W.heap.size, 0, none⟩) (by simp)).trans (World.cell?_alloc_at _ _ _ _ rfl)
  have c1 : w1.cell? ⟨W.heap.size, 1, none⟩ = some (.int .i64 x1) := (b1.cell (p := ⟨W.heap.size, 1, none⟩) (by simp)).trans (World.cell?_alloc_at _ _ _ _ rfl)
  have c2 : w1.cell? ⟨W.heap.size, 2, none⟩ = some (.int .i64 x2) := (b1.cell (p := ⟨W.heap.size, 2, none⟩) (by simp)).trans (World.cell?_alloc_at _ _ _ _ rfl)
  have z1 : W.heap.size + 1 ≤ w1.heap.size := by have := b1.size; simpa using this
  have B1 : Hid (Below W.heap.size W w1) := Lib.hid (((Below.refl _ _).alloc (Nat.le_refl _) _).trans (b1.mono (by simp)))
  have S1 : Hid (Sl w1 w1.heap.size A (n * 3) (ints (flatT l))) := Lib.hid ((S0.out.more (by simp)).on b1)
  clear b1
  go_wp2_with fail
  refine (one_any x0 x1 x2 _ 0 E1.out).mono ?_
  rintro e w2 ⟨rfl, b2⟩
  have C : Hid (∀ w', Below w1.heap.size w1 w' → w'.cell? ⟨W.heap.size, 0, none⟩ = some (.int .i64 x0) ∧ w'.cell? ⟨W.heap.size, 1, none⟩ = some (.int .i64 x1) ∧ w'.cell? ⟨W.heap.size, 2, none⟩ = some (.int .i64 x2)) := Lib.hid fun w' hb => ⟨(hb.cell (p := ⟨W.heap.size, 0, none⟩) z1).trans c0, (hb.cell (p := ⟨W.heap.size, 1, none⟩) z1).trans c1, (hb.cell (p := ⟨W.heap.size, 2, none⟩) z1).trans c2⟩
  have B2 := Lib.hid b2
  clear b2 c0 c1 c2
  go_wp2_with fail
  refine (cloneLease A n c (ints (flatT l)) _ (S1.out.on B2.out) (ints_one _) (by omega)).mono ?_
  rintro e w3 ⟨v, rfl, own3, b3, z3⟩
  have B3 := Lib.hid (B2.out.trans (b3.mono B2.out.size))
  obtain ⟨A3, c3, rfl, hc3⟩ := own_form own3
  have O3 := Lib.hid own3
  clear own3 b3
  obtain ⟨p, hp⟩ : ∃ p, posT x0 l = p := ⟨_, rfl⟩
  have hpn : p ≤ n := by rw [← hp, ← hn]; exact posT_le _ _
  have PL := Lib.hid (posT_lt x0 l)
  have PG := Lib.hid (posT_ge x0 l)
  have TH := Lib.hid (takeT_hit l (x0, x1, x2))
  have TM := Lib.hid (takeT_miss l (x0, x1, x2))
  simp only [hp, hn] at PL PG TH TM
  have hfl : Hid ((flatT l).length = n * 3) := Lib.hid (by rw [flatT_len, hn])
  go_wp2_with fail
  go_loopw [9] (fun vi wr => ∃ i : Nat, i ≤ p ∧ vi = .int .i64 i ∧ Below w3.heap.size w3 wr) (fun vi _ => p - (intOf vi).toNat)
  case atStart => exact ⟨0, Nat.zero_le _, rfl, Below.refl _ _⟩
  case round =>
    obtain ⟨i, hip, rfl, hb⟩ := hrel
    have HB := Lib.hid hb
    have O4 := own_keepT (D := 0) O3.out hb
    obtain ⟨d0, d1, d2⟩ := C.out wr (B3.out.trans (hb.mono B3.out.size))
    have hi0 : (0 : Int) ≤ i := by omega
    clear hb
    by_cases hin : i < n
    · obtain ⟨g, cap, hv, hg1, hg2⟩ := O3.out.form (by omega)
      injection hv with e1 _ e3
      subst e1 e3
      have hgw : g < wr.heap.size := Nat.lt_of_lt_of_le hg2 HB.out.size
      have cl : ∀ q, q < 3 → wr.cell? ⟨g, i * 3 + q, none⟩ = some (.int .i64 (fd (flatT l) i q)) := fun q hq => by
        have := O4.cellAt (i * 3 + q) (by omega)
        rwa [ints_get (by rw [hfl.out]; omega)] at this
      have m0 := cl 0 (by omega)
      have m1 := cl 1 (by omega)
      have m2 := cl 2 (by omega)
      rw [Nat.add_zero] at m0
      have hfz : ∀ q, wr.frozen? ⟨g, q, none⟩ = false := O4.frozenAt
      have hn1 : (i : Int) < n := by omega
      have hnc : n ≤ c3 := hc3
      have OH := Lib.hid O4
      clear O4 cl
      by_cases hlt : i < p
      · have hdl : decide (fd (flatT l) i 0 < x0) = true := decide_eq_true (PL.out i hlt)
        clear m1 m2 d1 d2 hfz
        go_wp2_with fail
        go_quiet (fail)
        go_wp2_with fail
        go_roundw
        case rel => exact ⟨i + 1, by omega, by go_num, bel_drewN HB.out _⟩
        case measure => simp [intOf]; omega
      · have hpi : i = p := by omega
        subst hpi
        have hge := PG.out hin
        have hdl : decide (fd (flatT l) i 0 < x0) = false := decide_eq_false (by omega)
        obtain ⟨y, hy⟩ : ∃ y, fd (flatT l) i 0 = y := ⟨_, rfl⟩
        have HY := Lib.hid hy
        rw [hy] at m0 hdl
        clear hy hge hlt
        by_cases he : y = x0
        · have heq : (y == x0) = true := by simpa using he
          have TT := Lib.hid (TH.out hin (by rw [HY.out]; exact he))
          have hlen : Hid ((takeT l (x0, x1, x2)).length = n) := Lib.hid (by rw [TT.out]; simp; omega)
          have fin : Hid (∀ k, Sl ((((wr.drewN k).setCell ⟨g, i * 3, none⟩ (.int .i64 x0)).setCell ⟨g, i * 3 + 1, none⟩ (.int .i64 x1)).setCell ⟨g, i * 3 + 2, none⟩ (.int .i64 x2)) ((((wr.drewN k).setCell ⟨g, i * 3, none⟩ (.int .i64 x0)).setCell ⟨g, i * 3 + 1, none⟩ (.int .i64 x1)).setCell ⟨g, i * 3 + 2, none⟩ (.int .i64 x2)).heap.size (some ⟨g, 0, none⟩) (n * 3) (ints (flatT (takeT l (x0, x1, x2)))) ∧ Below W.heap.size W ((((wr.drewN k).setCell ⟨g, i * 3, none⟩ (.int .i64 x0)).setCell ⟨g, i * 3 + 1, none⟩ (.int .i64 x1)).setCell ⟨g, i * 3 + 2, none⟩ (.int .i64 x2)) ∧ ((((wr.drewN k).setCell ⟨g, i * 3, none⟩ (.int .i64 x0)).setCell ⟨g, i * 3 + 1, none⟩ (.int .i64 x1)).setCell ⟨g, i * 3 + 2, none⟩ (.int .i64 x2)).ownsRow W.heap.size 87 3 (.slice (some ⟨g, 0, none⟩) n c3) n (ints (flatT (takeT l (x0, x1, x2))))) := Lib.hid fun k => by
            have o5 := own_keepT (D := 0) OH.out (bel_drewN (Below.refl wr.heap.size wr) k)
            have o6 := (((o5.stored (i * 3) (.int .i64 x0)).1.stored (i * 3 + 1) (.int .i64 x1)).1.stored (i * 3 + 2) (.int .i64 x2)).1
            rw [put_list (l := l) (x := (x0, x1, x2)) (by omega), ← TT.out] at o6
            have hb3 : Below W.heap.size W w3 := B1.out.trans (B3.out.mono (by omega))
            have hgW : W.heap.size ≤ g := by have := B2.out.size; omega
            have b6 := ((((bel_drewN (hb3.trans (HB.out.mono hb3.size)) k).setCell (p := ⟨g, i * 3, none⟩) hgW (.int .i64 x0)).setCell (p := ⟨g, i * 3 + 1, none⟩) hgW (.int .i64 x1)).setCell (p := ⟨g, i * 3 + 2, none⟩) hgW (.int .i64 x2))
            exact ⟨Sl.of_own3 o6, b6, own_lower o6 (by have := B2.out.size; omega)⟩
          clear he
          go_wp2_with fail
          go_quiet (fail)
          go_wp2_with fail
          go_quiet (fail)
          go_wp2_with fail
          go_ret2
          rw [hlen.out]
          exact ⟨_, _, rfl, (fin.out _).1, hnc, (fin.out _).2.1, (fin.out _).2.2⟩
        · have heq : (y == x0) = false := by simpa using he
          have TT := Lib.hid (TM.out (fun _ => by rw [HY.out]; exact he))
          clear he
          go_wp2_with fail
          go_quiet (fail)
          go_wp2_with fail
          go_quiet (fail)
          go_wp2_with fail
          have hlen : Hid ((takeT l (x0, x1, x2)).length = n + 1) := Lib.hid (by rw [TT.out]; simp; omega)
          have hb3 : Below W.heap.size W w3 := B1.out.trans (B3.out.mono (by omega))
          have hbw := hb3.trans (HB.out.mono hb3.size)
          have hw23 : w2.heap.size ≤ wr.heap.size := Nat.le_trans z3 HB.out.size
          have hW2 : W.heap.size ≤ w2.heap.size := by have := B2.out.size; omega
          refine (insLease w2.heap.size undef g n c3 i (ints (flatT l)) (wr.drewN _) x0 x1 x2 (own_keepT (D := 0) OH.out (bel_drewN (Below.refl wr.heap.size wr) _)) (ints_one _) hgw hw23 hin (by omega)).mono ?_
          rintro e w5 ⟨g', cap', rfl, own5, b5⟩
          rw [ins_flat (x := (x0, x1, x2)), ← TT.out] at own5
          have hc5 : n + 1 ≤ cap' := by obtain ⟨A', c', e, h⟩ := own_form own5; injection e with e1 e2 e3; omega
          have S5 := Lib.hid (Sl.of_own3 own5)
          have O5 := Lib.hid (own_lower own5 hW2)
          have B5 := Lib.hid ((bel_drewN hbw _).trans (b5.mono hW2))
          clear own5 b5
          go_wp2_with fail
          go_ret2
          rw [hlen.out]
          exact ⟨_, _, rfl, S5.out, hc5, B5.out, O5.out⟩
    · have hni : i = n := by omega
      have hpi : p = n := by omega
      subst hni
      subst hpi
      have hn1 : ¬ (p : Int) < p := by omega
      have TT := Lib.hid (TM.out (fun h => by omega))
      have hlen : Hid ((takeT l (x0, x1, x2)).length = p + 1) := Lib.hid (by rw [TT.out]; simp; omega)
      have hb3 : Below W.heap.size W w3 := B1.out.trans (B3.out.mono (by omega))
      have hbw := hb3.trans (HB.out.mono hb3.size)
      have hw23 : w2.heap.size ≤ wr.heap.size := Nat.le_trans z3 HB.out.size
      have hW2 : W.heap.size ≤ w2.heap.size := by have := B2.out.size; omega
      have OH := Lib.hid O4
      clear O4
      go_wp2_with fail
      go_quiet (fail)
      go_wp2_with fail
      go_quiet (fail)
      go_wp2_with fail
      refine (insLeaseEnd w2.heap.size A3 p c3 (ints (flatT l)) (wr.drewN _) x0 x1 x2 (own_keepT (D := 0) OH.out (bel_drewN (Below.refl wr.heap.size wr) _)) hw23 (by omega) hc3).mono ?_
      rintro e w5 ⟨A', cap', rfl, own5, b5⟩
      have hlist : ints (flatT l) ++ [.int .i64 x0, .int .i64 x1, .int .i64 x2] = ints (flatT (takeT l (x0, x1, x2))) := by
        rw [TT.out, ← ins_flat, List.drop_eq_nil_of_le (by rw [ints_len, hfl.out]; omega), List.take_of_length_le (by rw [ints_len, hfl.out]; omega), List.append_nil]
      rw [hlist] at own5
      have hc5 : p + 1 ≤ cap' := by obtain ⟨A', c', e, h⟩ := own_form own5; injection e with e1 e2 e3; omega
      have S5 := Lib.hid (Sl.of_own3 own5)
      have O5 := Lib.hid (own_lower own5 hW2)
      have B5 := Lib.hid ((bel_drewN hbw _).trans (b5.mono hW2))
      clear own5 b5
      go_wp2_with fail
      go_ret2
      rw [hlen.out]
      exact ⟨_, _, rfl, S5.out, hc5, B5.out, O5.out⟩
theorem take_bad (A : Option Addr) (n c : Nat) (zs : List Int) (x0 x1 x2 : Int) (er : Int) (W : World) (hs : Sl W W.heap.size A (n * 3) (ints zs)) (hnn : n ≤ 9223372036854775807) (her : lfirst zs n = er) (h0 : er ≠ 0) :
    Calls Try.prog 59 #[.slice A n c, .agg #[.int .i64 x0, .int .i64 x1, .int .i64 x2]] W fun e w' => e = .returned (.tuple #[.slice none 0 0, .int .i64 er]) ∧ Below W.heap.size W w' := by
  have S0 := Lib.hid (hs.alloc (Nat.le_refl _) (.cells #[.int .i64 x0, .int .i64 x1, .int .i64 x2] 87))
  have HE := Lib.hid her
  have hne : (er != 0) = true := by simpa using h0
  clear hs her h0
  go_enter Try.func59, Try.ntmps59
  go_wp2_with fail
  have lc := lcheck_any A n c zs (W.alloc (.cells #[.int .i64 x0, .int .i64 x1, .int .i64 x2] 87)) (S0.out.more (by simp)) hnn
  rw [HE.out] at lc
  refine lc.mono ?_
  rintro e w1 ⟨rfl, b1⟩
  clear lc
  have B1 : Hid (Below W.heap.size W w1) := Lib.hid (((Below.refl _ _).alloc (Nat.le_refl _) _).trans (b1.mono (by simp)))
  clear b1
  go_wp2_with fail
  go_ret2
  exact ⟨rfl, B1.out⟩
theorem take_arg (A : Option Addr) (n c : Nat) (zs : List Int) (x0 x1 x2 : Int) (W : World) (hs : Sl W W.heap.size A (n * 3) (ints zs)) (hnn : n ≤ 9223372036854775807) (her : lfirst zs n = 0) (h0 : ¬ oneOk x0 x1 x2) :
    Calls Try.prog 59 #[.slice A n c, .agg #[.int .i64 x0, .int .i64 x1, .int .i64 x2]] W fun e w' => e = .returned (.tuple #[.slice none 0 0, .int .i64 1]) ∧ Below W.heap.size W w' := by
  have S0 := Lib.hid (hs.alloc (Nat.le_refl _) (.cells #[.int .i64 x0, .int .i64 x1, .int .i64 x2] 87))
  have HE := Lib.hid her
  have E1 := Lib.hid (show oneE x0 x1 x2 = 1 from if_neg h0)
  clear hs her h0
  go_enter Try.func59, Try.ntmps59
  go_wp2_with fail
  have lc := lcheck_any A n c zs (W.alloc (.cells #[.int .i64 x0, .int .i64 x1, .int .i64 x2] 87)) (S0.out.more (by simp)) hnn
  rw [HE.out] at lc
  refine lc.mono ?_
  rintro e w1 ⟨rfl, b1⟩
  clear lc
  have c0 : w1.cell? ⟨W.heap.size, 0, none⟩ = some (.int .i64 x0) := (b1.cell (p := ⟨W.heap.size, 0, none⟩) (by simp)).trans (World.cell?_alloc_at _ _ _ _ rfl)
  have c1 : w1.cell? ⟨W.heap.size, 1, none⟩ = some (.int .i64 x1) := (b1.cell (p := ⟨W.heap.size, 1, none⟩) (by simp)).trans (World.cell?_alloc_at _ _ _ _ rfl)
  have c2 : w1.cell? ⟨W.heap.size, 2, none⟩ = some (.int .i64 x2) := (b1.cell (p := ⟨W.heap.size, 2, none⟩) (by simp)).trans (World.cell?_alloc_at _ _ _ _ rfl)
  have B1 : Hid (Below W.heap.size W w1) := Lib.hid (((Below.refl _ _).alloc (Nat.le_refl _) _).trans (b1.mono (by simp)))
  clear b1
  go_wp2_with fail
  refine (one_any x0 x1 x2 _ 1 E1.out).mono ?_
  rintro e w2 ⟨rfl, b2⟩
  have B2 := Lib.hid (B1.out.trans (b2.mono B1.out.size))
  clear b2 c0 c1 c2
  go_wp2_with fail
  go_ret2
  exact ⟨rfl, B2.out⟩
end Go.Proofs.Ytpifknmoimlpoaa
