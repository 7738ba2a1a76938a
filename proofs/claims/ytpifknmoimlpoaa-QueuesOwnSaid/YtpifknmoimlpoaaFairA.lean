/- fair.Run: its walk. -/
import Derived.Test.YtpifknmoimlpoaaFairR
import Derived.StillTailTactics
set_option linter.unusedVariables false
namespace Go.Proofs.Ytpifknmoimlpoaa
open Go.RowKit
def slLen : Value → Nat
  | .slice _ n _ => n
  | _ => 0
theorem ints8 : ints (tab 8 fun _ => 0) = [.int .i64 0, .int .i64 0, .int .i64 0, .int .i64 0, .int .i64 0, .int .i64 0, .int .i64 0, .int .i64 0] := rfl
theorem FRow.start {W w : World} (hb : Below W.heap.size W w) : FRow W (w.alloc (.cells #[.int .i64 0, .int .i64 0, .int .i64 0, .int .i64 0, .int .i64 0, .int .i64 0, .int .i64 0, .int .i64 0] 133)) w.heap.size (fun _ => 0) (.slice none 0 0) [] (.slice none 0 0) [] :=
  ⟨World.ownsRow_lit w (e := 133) (size := 1) #[.int .i64 0, .int .i64 0, .int .i64 0, .int .i64 0, .int .i64 0, .int .i64 0, .int .i64 0, .int .i64 0] 8 (Nat.le_refl _) (by unfold maxLen; omega) rfl, World.ownsRow_nil _ _ _ _, World.ownsRow_nil _ _ _ _, Apart.nil _, hb.alloc hb.size _, hb.size, by simp⟩
theorem wok_of {ws zs : List Int} {wn n : Nat} (h : fchk ws zs wn n = 0) (hl : ws.length = wn) : wn = 8 ∧ WOk ws ∧ packErr zs n = 0 := by
  unfold fchk at h
  split at h
  · split at h
    · rename_i h1 h2
      exact ⟨h1, ⟨by omega, (wgood_iff ws).1 h2⟩, h⟩
    · cases h
  · cases h
theorem frun_bad (Aw : Option Addr) (wn wc : Nat) (ws : List Int) (A : Option Addr) (n c : Nat) (zs : List Int) (W : World) (hw : Sl W W.heap.size Aw wn (ints ws)) (hwn : wn ≤ 9223372036854775807) (hs : Sl W W.heap.size A (n * 3) (ints zs)) (hnn : n ≤ 9223372036854775807) (ck : Int) (hck : fchk ws zs wn n = ck) (h0 : ck ≠ 0) :
    Calls Try.prog 32 #[.slice Aw wn wc, .slice A n c] W fun e w' => e = .returned (.tuple #[.slice none 0 0, .int .i64 ck]) ∧ Below W.heap.size W w' := by
  have hne : (ck != 0) = true := by simpa using h0
  have SW := Lib.hid hw
  have SS := Lib.hid hs
  have HK := Lib.hid hck
  clear h0 hw hs hck
  go_enter Try.func32, Try.ntmps32
  go_wp2_with fail
  refine (fcheck_any Aw wn wc ws A n c zs _ SW.out hwn SS.out hnn ck HK.out).mono ?_
  rintro e w1 ⟨rfl, b1⟩
  have B1 := Lib.hid b1
  clear b1
  go_wp2_with fail
  go_ret2
  exact ⟨rfl, B1.out⟩
theorem FRow.room {W wr : World} {g : Nat} {E : Nat → Int} {gw cap nt b : Nat} {ts : List (Int × Nat)} {vo : Value} {os : List Nat} (H : FRow W wr g E (.slice (some ⟨gw, 0, none⟩) nt cap) ts vo os) (hnt : ts.length = nt) (hb : b < nt) :
    ∃ (A : Addr) (news : List Value) (w' : World), (if cap = b + 1 then (some ⟨gw, 0, none⟩ : Option Addr) else some ⟨gw, (b + 1) * 2, none⟩) = some A ∧ Hid (news.length = (nt - (b + 1)) * 2) ∧ Hid (∀ j u, news[j]? = some u → wr.drew.cell? (A.add j) = some u) ∧ Hid (∀ u ∈ news, u.oneCell' = true) ∧
      Hid (∀ t, t < news.length → (wr.drew.cell? ⟨gw, 0 + b * 2 + t, none⟩).isSome = true ∧ wr.drew.frozen? ⟨gw, 0 + b * 2 + t, none⟩ = false) ∧ Hid (wr.drew.setCells gw (0 + b * 2) news = w') ∧ Hid (FRow W w' g E (.slice (some ⟨gw, 0, none⟩) (nt - 1) cap) (ts.take b ++ ts.drop (b + 1)) vo os) ∧ Hid (OnlyD gw wr w') := by
  subst hnt
  have hz : (ints (fl2 ts)).length = ts.length * 2 := by rw [ints_len, fl2_len]
  obtain ⟨news, hnews⟩ : ∃ news, (ints (fl2 ts)).drop ((b + 1) * 2) = news := ⟨_, rfl⟩
  have hlen : news.length = (ts.length - (b + 1)) * 2 := by rw [← hnews, List.length_drop, hz]; omega
  have hd := H.drew
  have hdw := hd.w
  obtain ⟨A, hA, hsrc⟩ : ∃ A : Addr, (if cap = b + 1 then (some ⟨gw, 0, none⟩ : Option Addr) else some ⟨gw, (b + 1) * 2, none⟩) = some A ∧ Hid (∀ j u, news[j]? = some u → wr.drew.cell? (A.add j) = some u) := by
    by_cases hc : cap = b + 1
    · refine ⟨⟨gw, 0, none⟩, by simp [hc], fun j u hu => ?_⟩
      obtain ⟨_, _, _, hc', _⟩ := own_parts hdw
      have h0 : news.length = 0 := by rw [hlen]; omega
      rw [List.length_eq_zero_iff.1 h0] at hu
      simp at hu
    · refine ⟨⟨gw, (b + 1) * 2, none⟩, by simp [hc], fun j u hu => ?_⟩
      have hj : j < news.length := (List.getElem?_eq_some_iff.1 hu).1
      rw [Addr.add_lit, hdw.cellAt ((b + 1) * 2 + j) (by omega), ← List.getElem?_drop, hnews]
      exact hu
  obtain ⟨D1, D2⟩ := hd.del hb
  rw [hnews] at D1 D2
  refine ⟨A, news, _, hA, hlen, hsrc, fun u hu => ints_one _ u (by rw [← hnews] at hu; exact List.mem_of_mem_drop hu), fun t ht => ?_, rfl, by rw [Nat.zero_add]; exact D1, by rw [Nat.zero_add]; exact (OnlyD.refl gw wr).drew.trans D2⟩
  rw [Nat.zero_add]
  refine ⟨?_, hdw.frozenAt _⟩
  rw [hdw.cellAt (b * 2 + t) (by omega), ints_get (by rw [fl2_len]; omega)]
  rfl
set_option maxRecDepth 100000 in
set_option maxHeartbeats 6400000 in
theorem frun_own (Aw : Option Addr) (wn wc : Nat) (ws : List Int) (A : Option Addr) (n c : Nat) (zs : List Int) (W : World) (hw : Sl W W.heap.size Aw wn (ints ws)) (hs : Sl W W.heap.size A (n * 3) (ints zs)) (hck : fchk ws zs wn n = 0) :
    Calls Try.prog 32 #[.slice Aw wn wc, .slice A n c] W fun e w' => ∃ B cb os, e = .returned (.tuple #[.slice B n cb, .int .i64 0]) ∧ FOut ws zs n os ∧ os.length = n ∧ Sl w' w'.heap.size B n (ints (onat os)) ∧ Below W.heap.size W w' ∧ n ≤ cb ∧ w'.ownsRow W.heap.size 3 1 (.slice B n cb) n (ints (onat os)) := by
  obtain ⟨h8, hwk, hpk⟩ := wok_of hck hw.int_len
  have WK := Lib.hid hwk
  have PK := Lib.hid (packs_of hpk)
  have HK := Lib.hid hck
  have n60 : n ≤ 60 := (packs_of hpk).top
  have SW := Lib.hid hw
  have SS := Lib.hid hs
  subst h8
  clear hw hs hwk hpk hck
  go_enter Try.func32, Try.ntmps32
  go_wp2_with fail
  refine (fcheck_any Aw 8 wc ws A n c zs _ SW.out (by omega) SS.out (by omega) 0 HK.out).mono ?_
  rintro e w1 ⟨rfl, b1⟩
  have F1 := Lib.hid (FRow.start b1)
  clear b1
  go_wp2_with fail
  obtain ⟨g, hg⟩ : ∃ g, w1.heap.size = g := ⟨_, rfl⟩
  obtain ⟨w2, hw2⟩ : ∃ w2, w1.alloc (.cells #[.int .i64 0, .int .i64 0, .int .i64 0, .int .i64 0, .int .i64 0, .int .i64 0, .int .i64 0, .int .i64 0] 133) = w2 := ⟨_, rfl⟩
  rw [hw2, hg] at F1
  rw [hg]
  try rw [hw2]
  clear hw2 hg
  go_loopw [8, 9, 10, 11, 12] (fun vw vo vn vv vx wr => ∃ (S : List Int) (k : Nat) (ts : List (Int × Nat)) (E : Nat → Int) (os : List Nat) (now vir : Int), vn = .int .i64 now ∧ vv = .int .i64 vir ∧ vx = .int .i64 (k : Int) ∧ os.length ≤ n ∧ Hid (S.length = k) ∧ Hid (FInv ws zs n S ts E os now vir) ∧ Hid (FRow W wr g E vw ts vo os)) (fun _ vo _ _ _ _ => n - slLen vo)
  case atStart => exact ⟨[], 0, [], _, [], 0, 0, rfl, rfl, rfl, by simp, Lib.hid rfl, Lib.hid (FInv.start ws zs n), F1⟩
  case round =>
    obtain ⟨S, k, ts, E, os, now, vir, rfl, rfl, rfl, hon, hSk, hI, hR⟩ := hrel
    obtain ⟨Ao, co, rfl, hco⟩ := own_form hR.out.o
    obtain ⟨no, hno⟩ : ∃ no, os.length = no := ⟨_, rfl⟩
    rw [hno] at hR hon hco ⊢
    have HNO := Lib.hid hno
    clear hno
    by_cases hlt : no < n
    · have hn1 : (no : Int) < n := by omega
      go_wp2_with fail
      go_loopw [8, 10, 12] (fun vw vn vx wr' => ∃ (S : List Int) (k : Nat) (ts : List (Int × Nat)) (E : Nat → Int) (now : Int), vn = .int .i64 now ∧ vx = .int .i64 (k : Int) ∧ k ≤ n ∧ Hid (S.length = k) ∧ Hid (FInv ws zs n S ts E os now vir) ∧ Hid (FRow W wr' g E vw ts (.slice Ao no co) os)) (fun _ _ vx _ => n - (intOf vx).toNat)
      case atStart => exact ⟨S, k, ts, E, now, rfl, rfl, by have := hI.out.le; rw [hSk.out] at this; exact this, hSk, hI, hR⟩
      case round =>
        clear hI hR hSk
        obtain ⟨S, k, ts, E, now, rfl, rfl, hk, hSk, hI, hR⟩ := hrel
        obtain ⟨Aw', cw, rfl, hcw⟩ := own_form hR.out.w
        have hk0 : (0 : Int) ≤ k := by omega
        have hlen := hI.out.lens
        obtain ⟨nt, hnt⟩ : ∃ nt, ts.length = nt := ⟨_, rfl⟩
        rw [hnt] at hR hcw hlen ⊢
        have HNT := Lib.hid hnt
        clear hnt
        rw [hSk.out, HNO.out] at hlen
        have hnow := hI.out.nb
        have hvb := hI.out.vb
        rw [hSk.out] at hvb
        by_cases hent : k < n ∧ (fd zs k 0 ≤ now ∨ nt = 0)
        · obtain ⟨hkn, hgo⟩ := hent
          have hn2 : (k : Int) < n := by omega
          obtain ⟨bl, ol, rfl, hbl, -⟩ := (SS.out.below hR.out.bl).int_at (k := k * 3) (by omega)
          obtain ⟨c0, c1, c2⟩ := (SS.out.below hR.out.bl).three hkn
          obtain ⟨f8, ff⟩ := flw_lt PK.out hkn
          have p0 := PK.out.at0 k hkn
          have p1 := PK.out.sz k hkn
          have hos : nt = 0 → k = no := by omega
          obtain ⟨f, hf⟩ : ∃ f, flw zs k = f := ⟨_, rfl⟩
          obtain ⟨x1, x2, x3⟩ := fcost_mul WK.out PK.out hkn
          have HCC : Hid (fcost ws zs k = (fd zs k 1 * 840).tdiv (gi ws f)) := Lib.hid (by rw [← hf]; rfl)
          rw [hf] at f8 ff
          have wb := WK.out.2 f f8
          have eb := hI.out.eb f
          rw [hSk.out] at eb
          rw [← ff] at c2
          obtain ⟨bw, ow, rfl, hbw, cw0⟩ := (SW.out.below hR.out.bl).int_at f8
          obtain ⟨ce, cfz⟩ := hR.out.cellE f8
          have PU := Lib.hid (hI.out.push WK.out PK.out (by rw [hSk.out]; exact hkn) (st := mx vir (E f)) (nw := mx now (fd zs k 0)) (by rw [hSk.out, hf]) (by rw [hSk.out]))
          obtain ⟨at_, hat⟩ : ∃ z, fd zs k 0 = z := ⟨_, rfl⟩
          obtain ⟨sz, hsz⟩ : ∃ z, fd zs k 1 = z := ⟨_, rfl⟩
          obtain ⟨wf, hwf⟩ : ∃ z, gi ws f = z := ⟨_, rfl⟩
          obtain ⟨ef, hef⟩ : ∃ z, E f = z := ⟨_, rfl⟩
          obtain ⟨st, hst⟩ : ∃ z, (if vir < ef then ef else vir) = z := ⟨_, rfl⟩
          obtain ⟨nw, hnw⟩ : ∃ z, (if now < at_ then at_ else now) = z := ⟨_, rfl⟩
          rw [hat] at c0 p0 hgo PU
          rw [hsz] at c1 p1 HCC
          rw [hwf] at wb cw0 HCC
          rw [hef] at eb ce PU
          have m1 : mx vir ef = st := hst
          have m2 : mx now at_ = nw := hnw
          rw [m1, m2, hSk.out, hf] at PU
          clear m1 m2
          have s0 : 0 ≤ st ∧ st ≤ 840000 * (k : Int) := by rw [← hst]; split <;> omega
          have hz := hR.out.hi
          have F2 := Lib.hid ((hR.out.alloc (.cells #[.int .i64 at_, .int .i64 sz, .int .i64 (f : Int)] 59)).alloc (.cells #[.int .i64 st, .int .i64 (k : Int)] 136))
          have HCW := Lib.hid cw0
          have HSL := Lib.hid SW.out
          have hbW : Hid (Below wr.heap.size wr ((wr.alloc (.cells #[.int .i64 at_, .int .i64 sz, .int .i64 (f : Int)] 59)).alloc (.cells #[.int .i64 st, .int .i64 (k : Int)] 136))) := Lib.hid (((Below.refl _ _).alloc (Nat.le_refl _) _).alloc (by simp) _)
          have hbwz : bw < wr.heap.size := Nat.lt_of_lt_of_le hbw hR.out.bl.size
          clear hat hsz hwf hf x1 x2 x3 ff
          have HEF := Lib.hid hef
          clear hef
          have KEY : (at_ ≤ now ∨ (¬ at_ ≤ now ∧ nt = 0)) := by omega
          rcases KEY with hA | ⟨hA, hts⟩
          case' inr =>
            have hos' := hos hts
            subst hos'
            subst hts
          all_goals
            clear hos hgo
            go_wp2_with fail
            have HC := HCC.out
            have x2 : 0 ≤ sz * 840 := by omega
            have x3 : sz * 840 ≤ 840000 := by omega
            have y2 : (wf == 0) = false := by simp; omega
            have y3 : wf ≠ 0 := by omega
            obtain ⟨cc, hcc⟩ : ∃ z, fcost ws zs k = z := ⟨_, rfl⟩
            have y4 : 0 ≤ cc ∧ cc ≤ 840000 := by have := (fcost_mul WK.out PK.out hkn).2; rw [hcc] at this; omega
            rw [hcc] at HC PU
            have HC' := HC.symm
            have HNW := Lib.hid hnw
            clear HC hst hnw hcc
            obtain ⟨gp, hgp⟩ : ∃ gp, wr.heap.size = gp := ⟨_, rfl⟩
            have p0 : ((wr.alloc (.cells #[.int .i64 at_, .int .i64 sz, .int .i64 (f : Int)] 59)).alloc (.cells #[.int .i64 st, .int .i64 (k : Int)] 136)).drew.cell? ⟨gp, 1, none⟩ = some (.int .i64 sz) := by subst hgp; exact (World.cell?_alloc_lt _ _ _ (by simp)).trans (World.cell?_alloc_at _ _ _ _ rfl)
            have p1' : ((wr.alloc (.cells #[.int .i64 at_, .int .i64 sz, .int .i64 (f : Int)] 59)).alloc (.cells #[.int .i64 st, .int .i64 (k : Int)] 136)).drew.cell? ⟨gp, 2, none⟩ = some (.int .i64 (f : Int)) := by subst hgp; exact (World.cell?_alloc_lt _ _ _ (by simp)).trans (World.cell?_alloc_at _ _ _ _ rfl)
            have t0 : ((wr.alloc (.cells #[.int .i64 at_, .int .i64 sz, .int .i64 (f : Int)] 59)).alloc (.cells #[.int .i64 st, .int .i64 (k : Int)] 136)).drew.cell? ⟨gp + 1, 0, none⟩ = some (.int .i64 st) := by subst hgp; exact World.cell?_alloc_at _ _ _ _ (by simp)
            have t1 : ((wr.alloc (.cells #[.int .i64 at_, .int .i64 sz, .int .i64 (f : Int)] 59)).alloc (.cells #[.int .i64 st, .int .i64 (k : Int)] 136)).drew.cell? ⟨gp + 1, 1, none⟩ = some (.int .i64 (k : Int)) := by subst hgp; exact World.cell?_alloc_at _ _ _ _ (by simp)
            have wc0 : ((wr.alloc (.cells #[.int .i64 at_, .int .i64 sz, .int .i64 (f : Int)] 59)).alloc (.cells #[.int .i64 st, .int .i64 (k : Int)] 136)).drew.cell? ⟨bw, ow + f, none⟩ = some (.int .i64 wf) := (hbW.out.cell (p := ⟨bw, ow + f, none⟩) hbwz).trans cw0
            have F3 := Lib.hid F2.out.drew
            obtain ⟨ce3, cf3⟩ := F3.out.cellE f8
            rw [HEF.out] at ce3
            have hgz : gp + 1 < ((wr.alloc (.cells #[.int .i64 at_, .int .i64 sz, .int .i64 (f : Int)] 59)).alloc (.cells #[.int .i64 st, .int .i64 (k : Int)] 136)).heap.size := by subst hgp; simp
            have hgg : g < gp := by rw [← hgp]; exact hz
            rw [hgp]
            obtain ⟨wx, hwx⟩ : ∃ wx, (wr.alloc (.cells #[.int .i64 at_, .int .i64 sz, .int .i64 (f : Int)] 59)).alloc (.cells #[.int .i64 st, .int .i64 (k : Int)] 136) = wx := ⟨_, rfl⟩
            rw [hwx] at p0 p1' t0 t1 wc0 F2 F3 ce3 cf3 hgz ⊢
            clear hwx hgp hbW ce cfz cw0 c0 c1 c2 HCW hz hR
            have fi0 : (0 : Int) ≤ f := by omega
            have fi1 : (f : Int) < 8 := by omega
            refine wp_region_still_tail 15 (by kernel_rfl) (by kernel_rfl) ?_
            simp only [List.take_succ_cons, List.take_zero, List.drop_succ_cons, List.drop_zero]
            repeat still_step
            refine wpStill_nil ?_
            change wpList _ _ _ _ _ wx.drew
            obtain ⟨wy, hwy⟩ : ∃ wy, wx.drew = wy := ⟨_, rfl⟩
            have hgz' : gp + 1 < wx.drew.heap.size := hgz
            rw [hwy] at F3 t0 t1 ce3 cf3 hgz' ⊢
            clear hwy p0 p1' wc0 F2 hgz
            have F4 := Lib.hid (F3.out.setE f8 (st + cc))
            have OD := ((OnlyD.refl g wy).set f (.int .i64 (st + cc)))
            have u0 : (wy.setCell ⟨g, f, none⟩ (.int .i64 (st + cc))).cell? ⟨gp + 1, 0, none⟩ = some (.int .i64 st) := (World.cell?_of_block (OD.block (gp + 1) hgz' (by omega))).trans t0
            have u1 : (wy.setCell ⟨g, f, none⟩ (.int .i64 (st + cc))).cell? ⟨gp + 1, 1, none⟩ = some (.int .i64 (k : Int)) := (World.cell?_of_block (OD.block (gp + 1) hgz' (by omega))).trans t1
            clear OD
            go_wp2_with (at_builtin; refine wpList_pushT rfl (.tmp 84) (.tmp 86) rfl F4.out _ (by simp) rfl rfl st k (by have := HNT.out; omega) ?_; intro v1 w2 F5)
            go_roundw
            case rel => exact ⟨S ++ [st], k + 1, ts ++ [(st, k)], _, nw, congrArg (Value.int .i64) (by have := HNW.out; split at this <;> omega), by go_num, by omega, Lib.hid (by rw [List.length_append, hSk.out]; rfl), PU, Lib.hid F5⟩
            case measure => simp [intOf]; omega
        · have hnt : nt ≠ 0 := fun e => by
            have := hI.out.le
            rw [hSk.out] at this
            by_cases h1 : k < n
            · exact hent ⟨h1, .inr e⟩
            · omega
          have ZF : Hid ((∀ i, i < n → fd zs i 0 = 0) → S.length = n) := Lib.hid fun hz => by
            have h2 := hI.out.le
            rw [hSk.out] at h2 ⊢
            by_cases h1 : k < n
            · exact absurd ⟨h1, .inl (by rw [hz k h1]; omega)⟩ hent
            · omega
          obtain ⟨gw, gcap, hgv, hgw1, hgw2⟩ := hR.out.w.form (by rw [HNT.out]; omega)
          injection hgv with hgv hgv2 hgv3
          subst hgv
          clear hgv2 hgv3
          obtain ⟨bl, ol, rfl, hbl, -⟩ := SS.out.int_at (k := 0) (by omega)
          have KN : k ≤ n := hk
          have HENT := Lib.hid hent
          by_cases hkn : k < n
          case' pos =>
            have hn2 : (k : Int) < n := by omega
            obtain ⟨c0, c1, c2⟩ := (SS.out.below hR.out.bl).three hkn
            have hA : ¬ fd zs k 0 ≤ now := fun e => hent ⟨hkn, .inl e⟩
            have hB : ((nt : Int) == 0) = false := by simp; omega
            have hB' : (nt : Int) ≠ 0 := by omega
            clear c1 c2 hent
            go_wp2_with fail
            clear c0 hA hB hB'
          case' neg =>
            have hn2 : ¬ (k : Int) < n := by omega
            clear hent
            go_wp2_with fail
          all_goals
            go_loopw [92, 15] (fun vi vb wr' => ∃ q b : Nat, vi = .int .i64 (q : Int) ∧ vb = .int .i64 (b : Int) ∧ q ≤ nt ∧ b < nt ∧ Hid (∀ p, p < q → ¬ tls (tg ts p) (tg ts b)) ∧ Hid (FRow W wr' g E (.slice (some ⟨gw, 0, none⟩) nt cw) ts (.slice Ao no co) os)) (fun vi _ _ => nt - (intOf vi).toNat)
            case atStart => exact ⟨0, 0, rfl, rfl, by omega, by omega, Lib.hid fun p hp => absurd hp (by omega), hR⟩
            case round =>
              clear hR
              obtain ⟨q, b, rfl, rfl, hq, hb, hM, hR⟩ := hrel
              have hq0 : (0 : Int) ≤ q := by omega
              have hb0 : (0 : Int) ≤ b := by omega
              have hbI : (b : Int) < nt := by omega
              by_cases hqn : q < nt
              · have hqI : (q : Int) < nt := by omega
                have FD := Lib.hid hR.out.drew
                obtain ⟨q0, q1⟩ := FD.out.cellT (q := q) (by rw [HNT.out]; exact hqn)
                obtain ⟨b0, b1⟩ := FD.out.cellT (q := b) (by rw [HNT.out]; exact hb)
                obtain ⟨r, hr⟩ : ∃ r : Bool, decide ((tg ts q).1 < (tg ts b).1 ∨ (tg ts q).1 = (tg ts b).1 ∧ (tg ts q).2 < (tg ts b).2) = r := ⟨_, rfl⟩
                have HRR := Lib.hid hr
                clear hr
                go_wp2_with fail
                go_region_law (go_simp; go_at_call 95; refine (less_any _ _ _ _ _ r HRR.out).mono ?_; rintro e wl ⟨rfl, bl'⟩; have FL := Lib.hid (FD.out.on bl'); clear bl')
                all_goals go_simp
                all_goals
                  cases r with
                  | true =>
                    have hls := of_decide_eq_true HRR.out
                    have HM' : Hid (∀ p, p < q + 1 → ¬ tls (tg ts p) (tg ts q)) := Lib.hid fun p hp => by
                      rcases Nat.lt_or_ge p q with h1 | h1
                      · have := hM.out p h1
                        unfold tls at this ⊢
                        omega
                      · have : p = q := by omega
                        subst this
                        unfold tls
                        omega
                    clear hls q0 q1 b0 b1 HRR
                    go_wp2_with fail
                    go_roundw
                    case rel => exact ⟨q + 1, q, by go_num, rfl, by omega, hqn, HM', FL⟩
                    case measure => simp [intOf]; omega
                  | false =>
                    have hls := of_decide_eq_false HRR.out
                    have HM' : Hid (∀ p, p < q + 1 → ¬ tls (tg ts p) (tg ts b)) := Lib.hid fun p hp => by
                      rcases Nat.lt_or_ge p q with h1 | h1
                      · exact hM.out p h1
                      · have : p = q := by omega
                        subst this
                        exact hls
                    clear hls q0 q1 b0 b1 HRR
                    go_wp2_with fail
                    go_roundw
                    case rel => exact ⟨q + 1, b, by go_num, rfl, by omega, hb, HM', FL⟩
                    case measure => simp [intOf]; omega
              · have hqe : q = nt := by omega
                subst hqe
                have hqI : ¬ (q : Int) < q := by omega
                obtain ⟨s, hs⟩ : ∃ s, (tg ts b).1 = s := ⟨_, rfl⟩
                obtain ⟨i, hi⟩ : ∃ i, (tg ts b).2 = i := ⟨_, rfl⟩
                have hbl' : b < ts.length := by rw [HNT.out]; exact hb
                have hin : i < n := by
                  have := hI.out.mem (t := tg ts b) (List.mem_iff_getElem?.2 ⟨b, tg_get hbl'⟩)
                  rw [hi, hSk.out] at this
                  omega
                have SV : Hid (FInv ws zs n S (ts.take b ++ ts.drop (b + 1)) E (os ++ [i]) (now + fd zs i 1) s) := by
                  have := hI.out.serve PK.out (tg_split hbl') (fun u hu => by
                    obtain ⟨p, hp, e⟩ := tg_mem hu
                    rw [← e]
                    exact hM.out p (by rw [HNT.out] at hp; exact hp)) ZF.out
                  rw [hs, hi] at this
                  exact this
                obtain ⟨b0, b1⟩ := hR.out.cellT hbl'
                rw [hs] at b0
                rw [hi] at b1
                have FZ := Lib.hid (hR.out.alloc (.cells #[.int .i64 s, .int .i64 (i : Int)] 136))
                obtain ⟨gt, hgt⟩ : ∃ gt, wr.heap.size = gt := ⟨_, rfl⟩
                have t0 : (wr.alloc (.cells #[.int .i64 s, .int .i64 (i : Int)] 136)).cell? ⟨gt, 0, none⟩ = some (.int .i64 s) := by subst hgt; exact World.cell?_alloc_at _ _ _ _ rfl
                have t1 : (wr.alloc (.cells #[.int .i64 s, .int .i64 (i : Int)] 136)).cell? ⟨gt, 1, none⟩ = some (.int .i64 (i : Int)) := by subst hgt; exact World.cell?_alloc_at _ _ _ _ rfl
                have gtz : gt < (wr.alloc (.cells #[.int .i64 s, .int .i64 (i : Int)] 136)).heap.size := by subst hgt; simp
                have gtn : ∀ kk, (Value.slice Ao no co).ownBlock = some kk → gt ≠ kk := fun kk hk' => by have := (hR.out.o.lt kk hk').2; omega
                have gwt : gw < gt := by rw [← hgt]; exact (hR.out.w.lt gw rfl).2
                have GTN := Lib.hid gtn
                have s1 := PK.out.sz i hin
                have nb : 0 ≤ now ∧ now ≤ 200 + 1000 * (no : Int) := by have := hI.out.nb; rw [HNO.out] at this; exact this
                have HS := Lib.hid hs
                have HI2 := Lib.hid hi
                clear hs hi gtn
                go_wp2_with fail
                try rw [hgt]
                obtain ⟨wz, hwz⟩ : ∃ wz, wr.alloc (.cells #[.int .i64 s, .int .i64 (i : Int)] 136) = wz := ⟨_, rfl⟩
                rw [hwz] at FZ t0 t1 gtz ⊢
                have HGT := Lib.hid hgt
                clear hwz hgt b0 b1
                obtain ⟨Ad, news, wn', hAd, r1, r2, r3, r4, r5, r6, r7⟩ := FZ.out.room HNT.out hb
                have v0 : wn'.cell? ⟨gt, 0, none⟩ = some (.int .i64 s) := (World.cell?_of_block (r7.out.block gt gtz (by omega))).trans t0
                have v1 : wn'.cell? ⟨gt, 1, none⟩ = some (.int .i64 (i : Int)) := (World.cell?_of_block (r7.out.block gt gtz (by omega))).trans t1
                obtain ⟨i0, hi0, hi1, hi2, hi3⟩ := elemTag.info
                have hcq : q ≤ cw := hcw
                have f1 : (0 : Int) ≤ b := by omega
                have f2 : (b : Int) + 1 ≤ q := by omega
                have f3 : (q : Int) ≤ cw := by omega
                have f4 : ((b : Int) + 1).toNat = b + 1 := by omega
                have f5 : (0 : Int) ≤ (b : Int) + 1 := by omega
                have f7 : (b : Int) ≤ (b : Int) + 1 := by omega
                have f8 : (b : Int) ≤ cw := by omega
                have f9 : b ≤ cw := by omega
                have f10 : b + 1 ≤ q := by omega
                have f11 : b + 1 ≤ cw := by omega
                have f12 : (b : Int) + 1 ≤ cw := by omega
                have f13 : IntKind.i64.wrap ((b : Int) + 1) = (b : Int) + 1 := IntWalk.i64_in _ ⟨by omega, by omega⟩
                have HNT' := HNT
                clear t0 t1
                go_region_law (refine step_append_room rfl (.tmp 112) (.tmp 116) 134 rfl 136 i0 2 Try.underlying134 hi0 hi2 gw 0 b cw (by simp [Act.eval, Act.put]) Ad (q - (b + 1)) (cw - (b + 1)) news (by simp [Act.eval, Act.put]) r1.out r2.out r3.out (by omega) r4.out ?_; rw [r5.out])
                all_goals
                  rw [show b + (q - (b + 1)) = q - 1 by omega]
                  go_simp
                  have hiI : (i : Int) < n := by omega
                  have hi0' : (0 : Int) ≤ i := by omega
                  go_wp2_with (at_builtin; refine wpList_pushO rfl (.tmp 120) (.tmp 123) rfl r6.out _ (by simp) rfl rfl i (by have := HNO.out; omega) ?_; intro v3 w3 F8 K8; have v1' := K8 ⟨gt, 1, none⟩ _ v1 GTN.out; obtain ⟨d0, d1, d2⟩ := (SS.out.below F8.bl).three hin; have F9 := Lib.hid F8; clear F8 K8 v1)
                  obtain ⟨A3, c3, rfl, h3⟩ := own_form F9.out.o
                  have hl3 : (os ++ [i]).length = no + 1 := by rw [List.length_append, HNO.out]; rfl
                  go_roundw
                  case rel => exact ⟨S, k, _, E, os ++ [i], _, s, rfl, rfl, rfl, by omega, hSk, SV, F9⟩
                  case measure => simp only [slLen]; omega
    · have hon' : no = n := by omega
      subst hon'
      obtain ⟨Aw', cw, rfl, hcw⟩ := own_form hR.out.w
      have hn1 : ¬ (no : Int) < no := by omega
      go_wp2_with fail
      go_ret2
      have h1 := hR.out.o
      rw [HNO.out] at h1
      exact ⟨Ao, co, rfl, os, hI.out.out (by rw [HNO.out]; exact Nat.le_refl _), HNO.out, Sl.of_own h1, hR.out.bl, hco, own_lower h1 (Nat.le_succ_of_le hR.out.lo)⟩
theorem frun_ok (Aw : Option Addr) (wn wc : Nat) (ws : List Int) (A : Option Addr) (n c : Nat) (zs : List Int) (W : World) (hw : Sl W W.heap.size Aw wn (ints ws)) (hs : Sl W W.heap.size A (n * 3) (ints zs)) (hck : fchk ws zs wn n = 0) :
    Calls Try.prog 32 #[.slice Aw wn wc, .slice A n c] W fun e w' => ∃ B cb os, e = .returned (.tuple #[.slice B n cb, .int .i64 0]) ∧ FOut ws zs n os ∧ os.length = n ∧ Sl w' w'.heap.size B n (ints (onat os)) ∧ Below W.heap.size W w' ∧ n ≤ cb :=
  (frun_own Aw wn wc ws A n c zs W hw hs hck).mono fun _ _ ⟨B, cb, os, h1, h2, h3, h4, h5, h6, _⟩ => ⟨B, cb, os, h1, h2, h3, h4, h5, h6⟩
end Go.Proofs.Ytpifknmoimlpoaa
