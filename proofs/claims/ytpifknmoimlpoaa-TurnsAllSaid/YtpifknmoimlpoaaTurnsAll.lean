/- TurnsAll: all packets are sent, each once, those of a flow in order. -/
import Derived.Test.YtpifknmoimlpoaaTurnF
import Derived.Test.YtpifknmoimlpoaaTurnQ
import Derived.Test.YtpifknmoimlpoaaTurnK
import Derived.Test.YtpifknmoimlpoaaSameSent
import Derived.Test.YtpifknmoimlpoaaMaxMin
import Derived.Test.YtpifknmoimlpoaaIdx2
import Derived.Deep.RegionWith
set_option linter.unusedVariables false
namespace Go.Proofs.Ytpifknmoimlpoaa
open Go.RowKit
set_option maxRecDepth 100000 in
set_option maxHeartbeats 6400000 in
theorem turnsAll_walk (A : Option Addr) (n c : Nat) (q : Nat → Int) (hd : Nat → Option Addr × Nat × Nat) (ls : Nat → List Int) (W : World) (w0 : InFl W A n c q hd ls) :
    Calls Try.prog 3 #[.slice A n c] W fun e w' => e = .returned (.bool true) ∧ Below W.heap.size W w' := by
  obtain ⟨sl, lc, rc, nums, inn⟩ := w0
  have FS := Lib.hid (FlS.mk sl fun i hi => (inn i hi).1)
  have hdb : ∀ i, i < n → (hd i).2.1 ≤ 9223372036854775807 := fun i hi => Nat.le_trans (inn i hi).2.1 (inn i hi).2.2.1
  have DB := Lib.hid hdb
  have hnn : n ≤ 9223372036854775807 := by omega
  clear sl lc rc nums inn hdb
  go_enter Try.func3, Try.ntmps3
  go_wp2_with fail
  refine (flow_any 2 _ 2 2 _).mono ?_
  rintro e wa0 ⟨rfl, rfl⟩
  go_wp2_with fail
  refine (flow_any 5 _ 1 1 _).mono ?_
  rintro e wb0 ⟨rfl, rfl⟩
  go_wp2_with fail
  refine (run_ok _ 2 _ (fun i => if i = 0 then 2 else 5) (fun i => if i = 0 then (some ⟨_, 0, none⟩, 2, 2) else (some ⟨_, 0, none⟩, 1, 1)) (fun i => if i = 0 then [3, 1] else [4]) _ (FlS.two 2 5 [3, 1] [4] _ _ _ (slMore (slMore (slMore (Sl.built_ W (ints [3, 1]) 3 _ rfl rfl) _) _) _) (slMore (Sl.built_ _ (ints [4]) 3 _ (by simp) rfl) _) 2 1 _ (by simp)) (by decide)).mono ?_
  rintro e u0 ⟨D0, d0, os0, rfl, o0, r0, bb0⟩
  have e0 := run_lit o0
  subst e0
  have U0 := Lib.hid (belLit2 (below_alloc (below_alloc (below_alloc (Below.refl W.heap.size W) _) _) _) bb0)
  have S0 : Hid (Sl u0 u0.heap.size D0 (3 * 2) (ints [1, 0, 0, 0, 0, 1])) := Lib.hid (Sl.of_own2 r0)
  clear bb0 r0 o0
  go_wp2_with fail
  refine (sameSent D0 _ 3 d0 _ [1, 0, 0, 0, 0, 1] _ _ _ (slMore S0.out _) (Sl.built_ _ (ints [1, 0, 0, 0, 0, 1]) 33 _ rfl rfl) (by omega)).mono ?_
  rintro e v0 ⟨rfl, bb0⟩
  have V0 := Lib.hid (belLit1 U0.out bb0)
  clear S0 U0 bb0
  have FS2 := Lib.hid ((FS.out.below V0.out).more V0.out.size)
  obtain ⟨ck, hck⟩ : ∃ ck, tchk n q ls = ck := ⟨_, rfl⟩
  have HCK := Lib.hid hck
  clear hck
  go_wp2_with fail
  by_cases h0 : ck = 0
  case neg =>
    have hne : (ck != 0) = true := by simpa using h0
    have H0 := Lib.hid h0
    clear h0
    refine (run_bad A n c q hd ls _ FS2.out hnn DB.out ck HCK.out H0.out).mono ?_
    rintro e w5 ⟨rfl, bb5⟩
    have B5 := Lib.hid (V0.out.trans (bb5.mono V0.out.size))
    have FS5 := Lib.hid (FS2.out.on bb5)
    clear bb5
    go_wp2_with fail
    refine (tcheck_t A n c q hd ls _ FS5.out hnn DB.out).mono ?_
    rintro e w6 ⟨rfl, bb6⟩
    have B6 := Lib.hid (B5.out.trans (bb6.mono B5.out.size))
    clear bb6
    rw [HCK.out]
    have hee : (ck == ck) = true := by simp
    go_wp2_with fail
    go_ret
    exact ⟨rfl, B6.out⟩
  subst h0
  obtain ⟨n8, qok⟩ := tchk_ok HCK.out
  have QO := Lib.hid qok
  clear qok
  refine (run_ok A n c q hd ls _ FS2.out HCK.out).mono ?_
  rintro e w5 ⟨X, cx, os, rfl, oo, rr, bb5⟩
  have B5 := Lib.hid (V0.out.trans (bb5.mono V0.out.size))
  have FS5 := Lib.hid (FS2.out.on bb5)
  have SX := Lib.hid (Sl.of_own2 rr)
  have RO := Lib.hid oo
  have RR := Lib.hid rr
  have hmk := makeInts_R n (by omega)
  have OR := Lib.hid (oneR_made w5 n (by omega))
  have l480 : os.length ≤ 480 := by rw [oo.len]; have := lenTo_le QO.out n (Nat.le_refl _); omega
  obtain ⟨N, hN⟩ : ∃ N, os.length = N := ⟨_, rfl⟩
  have HN := Lib.hid hN
  rw [hN] at SX l480
  rw [hN]
  clear bb5 rr oo hN
  go_wp2_with fail
  obtain ⟨w6, hw6⟩ : ∃ w6, w5.alloc (.cells (ints (tab n fun _ => 0)).toArray 3) = w6 := ⟨_, rfl⟩
  rw [hw6] at OR ⊢
  obtain ⟨g, hg⟩ : ∃ g, w5.heap.size = g := ⟨_, rfl⟩
  rw [hg] at OR
  try rw [hg]
  have HG := Lib.hid hg
  clear hw6 hmk hg
  go_loopw [53] (fun vi wr => ∃ j : Nat, j ≤ N ∧ vi = .int .i64 (j : Int) ∧ Hid (OneR w5 wr (g + 1) n g (fun f => ((cntT os f j : Nat) : Int)))) (fun vi _ => N - (intOf vi).toNat)
  case atStart => exact ⟨0, Nat.zero_le _, rfl, Lib.hid (OR.out.congr fun i _ => rfl)⟩
  case round =>
    clear OR
    obtain ⟨j, hj, rfl, hR⟩ := hrel
    have hj0 : (0 : Int) ≤ j := by omega
    by_cases hlt : j < N
    · have hn1 : (j : Int) < N := by omega
      obtain ⟨a1, a2, a3⟩ := RO.out.at_ (j := j) (by rw [HN.out]; exact hlt)
      have sg := sents_get (os := os) (j := j) (by rw [HN.out]; exact hlt)
      have SXj := Lib.hid (SX.out.below hR.out.bel)
      obtain ⟨bx, ox, rfl, hbx, cx0⟩ := SXj.out.at_ (k := j * 2) (by omega) sg.1
      have cx1 := SXj.out.cell_ sg.2
      rw [← Nat.add_assoc] at cx1
      have CS : Hid (∀ f', cntT os f' (j + 1) = cntT os f' j + if (os.getD j (0, 0)).1 = f' then 1 else 0) := Lib.hid fun f' => rfl
      obtain ⟨f, hf⟩ : ∃ f, (os.getD j (0, 0)).1 = f := ⟨_, rfl⟩
      obtain ⟨i, hi⟩ : ∃ i, (os.getD j (0, 0)).2 = i := ⟨_, rfl⟩
      rw [hf] at a1 a2 a3 cx0 CS
      rw [hi] at a2 a3 cx1
      have FSj := Lib.hid (FS5.out.below hR.out.bel)
      obtain ⟨b, off, rfl, hbl, -⟩ := FSj.out.at_ a1
      obtain ⟨e0, e1⟩ := FSj.out.cells a1 rfl
      have lk := FSj.out.len a1
      rw [lk] at a3
      obtain ⟨sa, hsa⟩ : ∃ x, (hd f).1 = x := ⟨_, rfl⟩
      obtain ⟨sn, hsn⟩ : ∃ x, (hd f).2.1 = x := ⟨_, rfl⟩
      obtain ⟨sc, hsc⟩ : ∃ x, (hd f).2.2 = x := ⟨_, rfl⟩
      rw [hsa, hsn, hsc] at e1
      rw [hsn] at a3
      have RA := Lib.hid (hR.out.on ((Below.refl _ _).alloc hR.out.sz (.cells #[.int .i64 (f : Int), .int .i64 (i : Int)] 33)))
      have cn := (RA.out.cl a1).1
      rw [← a2] at cn
      have HA2 := Lib.hid a2
      have e1' : (wr.alloc (.cells #[.int .i64 (f : Int), .int .i64 (i : Int)] 33)).cell? ⟨b, off + f * 2 + 1, none⟩ = some (.slice sa sn sc) := by
        rw [World.cell?_alloc_lt _ _ _ (show b < wr.heap.size by have := hR.out.sz; have := HG.out; omega)]; exact e1
      have d1 : decide ((f : Int) < 0) = false := decide_eq_false (by omega)
      have d2 : decide (n ≤ f) = false := decide_eq_false (by omega)
      have d3 : decide (sn ≤ i) = false := decide_eq_false (by omega)
      have f0 : (0 : Int) ≤ f := by omega
      have f1 : (f : Int) < n := by omega
      have i60 : i ≤ 1000 := by have := (QO.out f a1).len; have := FS5.out.len a1; omega
      clear hf hi sg hsa hsn hsc lk a2 e0 e1
      obtain ⟨gp, hgp⟩ : ∃ gp, wr.heap.size = gp := ⟨_, rfl⟩
      have s0 : (wr.alloc (.cells #[.int .i64 (f : Int), .int .i64 (i : Int)] 33)).cell? ⟨gp, 0, none⟩ = some (.int .i64 (f : Int)) := by subst hgp; exact World.cell?_alloc_at _ _ _ _ rfl
      have s1 : (wr.alloc (.cells #[.int .i64 (f : Int), .int .i64 (i : Int)] 33)).cell? ⟨gp, 1, none⟩ = some (.int .i64 (i : Int)) := by subst hgp; exact World.cell?_alloc_at _ _ _ _ rfl
      go_wp2_with fail
      try rw [hgp]
      obtain ⟨wy, hwy⟩ : ∃ wy, wr.alloc (.cells #[.int .i64 (f : Int), .int .i64 (i : Int)] 33) = wy := ⟨_, rfl⟩
      rw [hwy] at RA cn e1' s0 s1 ⊢
      clear hwy cx0 cx1 hgp
      go_quiet (fail)
      have RQ := Lib.hid (RA.out.on (bel_drewN (Below.refl _ _) nq))
      have cq := (RQ.out.cl a1).1
      have cf := (RQ.out.cl a1).2
      rw [← HA2.out] at cq
      have t0 : (wy.drewN nq).cell? ⟨gp, 0, none⟩ = some (.int .i64 (f : Int)) := s0
      generalize wy.drewN nq = wq at RQ cq cf t0 ⊢
      clear RA cn e1' s0 s1 d1 d2 d3
      have RB := Lib.hid (RQ.out.set a1 ((i : Int) + 1))
      go_wp2_with fail
      go_roundw
      case rel => exact ⟨j + 1, by omega, by go_num, Lib.hid (RB.out.congr fun f' _ => by
        show (if f' = f then _ else _) = _
        rw [CS.out f']
        by_cases e : f' = f
        · rw [if_pos e, e, if_pos rfl, ← HA2.out]; push_cast; rfl
        · rw [if_neg e, if_neg (fun x => e x.symm)]; rfl)⟩
      case measure => simp [intOf]; omega
    · have hjn : j = N := by omega
      subst hjn
      have hn1 : ¬ (j : Int) < j := by omega
      go_wp2_with fail
      go_loopw [99] (fun vi w => ∃ k : Nat, k ≤ n ∧ vi = .int .i64 (k : Int) ∧ Hid (OneR w5 w (g + 1) n g (fun f => ((cntT os f j : Nat) : Int)))) (fun vi _ => n - (intOf vi).toNat)
      case atStart => exact ⟨0, Nat.zero_le _, rfl, hR⟩
      case round =>
        clear hR
        obtain ⟨k, hk, rfl, hR⟩ := hrel
        have hk0 : (0 : Int) ≤ k := by omega
        by_cases hlt2 : k < n
        · have hn2 : (k : Int) < n := by omega
          have FSj := Lib.hid (FS5.out.below hR.out.bel)
          obtain ⟨b, off, rfl, hbl, c0, c1⟩ := FSj.out.at_ hlt2
          have lk := FSj.out.len hlt2
          have en := RO.out.end_ hlt2
          rw [HN.out, lk] at en
          obtain ⟨qk, hq⟩ : ∃ x, q k = x := ⟨_, rfl⟩
          obtain ⟨sa, hsa⟩ : ∃ x, (hd k).1 = x := ⟨_, rfl⟩
          obtain ⟨sn, hsn⟩ : ∃ x, (hd k).2.1 = x := ⟨_, rfl⟩
          obtain ⟨sc, hsc⟩ : ∃ x, (hd k).2.2 = x := ⟨_, rfl⟩
          rw [hq] at c0
          rw [hsa, hsn, hsc] at c1
          rw [hsn] at en
          have RA := Lib.hid (hR.out.on ((Below.refl _ _).alloc hR.out.sz (.cells #[.int .i64 qk, .slice sa sn sc] 29)))
          have cn := (RA.out.cl hlt2).1
          rw [en] at cn
          clear hq hsa hsn hsc lk en
          obtain ⟨gp, hgp⟩ : ∃ gp, wr.heap.size = gp := ⟨_, rfl⟩
          have s1 : (wr.alloc (.cells #[.int .i64 qk, .slice sa sn sc] 29)).cell? ⟨gp, 1, none⟩ = some (.slice sa sn sc) := by subst hgp; exact World.cell?_alloc_at _ _ _ _ rfl
          have ne : ((sn : Int) != (sn : Int)) = false := by simp
          go_wp2_with fail
          try rw [hgp]
          obtain ⟨wy, hwy⟩ : ∃ wy, wr.alloc (.cells #[.int .i64 qk, .slice sa sn sc] 29) = wy := ⟨_, rfl⟩
          rw [hwy] at RA cn s1 ⊢
          clear hwy c0 c1 hgp
          go_quiet (fail)
          go_wp2_with fail
          go_roundw
          case rel => exact ⟨k + 1, by omega, by go_num, Lib.hid (RA.out.on (bel_drewN (Below.refl _ _) _))⟩
          case measure => simp [intOf]; omega
        · have hkn : k = n := by omega
          subst hkn
          have hn2 : ¬ (k : Int) < k := by omega
          have BF := Lib.hid (B5.out.trans (hR.out.bel.mono B5.out.size))
          go_wp2_with fail
          go_ret
          exact ⟨rfl, BF.out⟩
end Go.Proofs.Ytpifknmoimlpoaa
