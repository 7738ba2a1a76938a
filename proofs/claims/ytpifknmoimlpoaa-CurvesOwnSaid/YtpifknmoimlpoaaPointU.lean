/- point.Up, point.Late, curve.Cut. -/
import Derived.Test.YtpifknmoimlpoaaCurveD
import Derived.StillTailTactics
set_option linter.unusedVariables false
namespace Go.Proofs.Ytpifknmoimlpoaa
open Go.RowKit
theorem curveErr_ne' {f : List Int} (h : ¬ curveErr f = 0) : (curveErr f != 0) = true := by simpa using h
set_option maxHeartbeats 1600000 in
theorem pup_any (A : Option Addr) (n c : Nat) (f : List Int) (x : Int) (W : World) (hs : Sl W W.heap.size A n (ints f)) (hn : n ≤ 9223372036854775807) (hx0 : 0 ≤ x) (hx1 : x ≤ 1000000)
    (zs : List Int) (er : Int) (k : Nat) (h : of1 f (fit (cupL f x)) = (zs, er)) (hk : zs.length = k) :
    Calls Try.prog 48 #[.slice A n c, .int .i64 x] W (RetSl W k zs er) := by
  by_cases hb : curveErr f = 0
  · have cf := isC_of hb
    have hl := hs.int_len
    rw [hl] at cf
    have hn61 := cf.top
    have h' : fit (tab n fun i => gi f i + x) = (zs, er) := by rw [of1_ok cf] at h; rw [← hl]; exact h
    have HF := Lib.hid h'
    have CF := Lib.hid cf
    have HB := Lib.hid hb
    have HK := Lib.hid hk
    clear h h' cf hb hk hl
    go_enter Try.func48, Try.ntmps48
    go_wp2_with fail
    refine (ccheck_any A n c f _ _ hs hn).mono ?_
    rintro e w' ⟨rfl, rfl⟩
    rw [HB.out]
    go_wp2_with (at_make; refine wpList_makeInts rfl _ _ rfl (n : Int) (n : Int) n rfl rfl rfl rfl (by omega) ?_; intro w1 hown)
    go_loopw [25, 8] (fun i _ wr => ∃ k : Nat, k ≤ n ∧ i = .int .i64 k ∧ Own W wr n (fun j => if j < k then gi f j + x else 0)) (fun i _ _ => n - (intOf i).toNat)
    case atStart => exact ⟨0, Nat.zero_le _, rfl, hown.congr fun i _ => by rw [if_neg (by omega)]⟩
    case round =>
      obtain ⟨k, hk, rfl, ho⟩ := hrel
      by_cases hlt : k < n
      · obtain ⟨b1, o1, rfl, q1, hc1⟩ := (ho.old hs).int_at hlt
        have hck := ho.cell hlt
        have hfr := ho.frozen k
        have hn1 : (k : Int) < n := by omega
        have hk0 : (0 : Int) ≤ k := by omega
        have hf1 := CF.out.lo k hlt
        have hf2 := CF.out.hi k hlt
        have O := Lib.hid ho
        clear hs ho
        go_wp2_with fail
        go_roundw
        case rel =>
          refine ⟨k + 1, by omega, by go_num, ?_⟩
          refine O.out.store (x := gi f k + x) hlt fun i hi => ?_
          by_cases h1 : i = k
          · subst h1; rw [if_pos (by omega), if_pos rfl]
          · rw [if_neg h1]
            by_cases h2 : i < k
            · rw [if_pos h2, if_pos (by omega)]
            · rw [if_neg h2, if_neg (by omega)]
        case measure => simp [intOf]; omega
      · have hkn : k = n := by omega
        subst hkn
        have O := Lib.hid (ho.congr (v := fun j => gi f j + x) fun i hi => by rw [if_pos hi])
        clear hs ho hown
        go_wp2_with fail
        refine (fit_any (some ⟨W.heap.size, 0, none⟩) k k _ W wr O.out.sl O.out.bel O.out.row (Nat.le_refl _) (by omega) _ _ _ HF.out HK.out).mono ?_
        rintro e w2 ⟨A2, c2, rfl, s2⟩
        have S2 := Lib.hid s2
        clear s2
        go_wp2_with fail
        go_ret2
        exact ⟨A2, c2, rfl, S2.out⟩
  · have hne := curveErr_ne' hb
    have HF := Lib.hid h
    have HK := Lib.hid hk
    have HB := Lib.hid hb
    clear h hk hb
    go_enter Try.func48, Try.ntmps48
    go_wp2_with fail
    refine (ccheck_any A n c f _ _ hs hn).mono ?_
    rintro e w' ⟨rfl, rfl⟩
    clear hs
    go_wp2_with fail
    go_ret2
    exact RetSl.nil HF.out HK.out (if_neg HB.out) (Below.refl _ _)
set_option maxHeartbeats 1600000 in
theorem plate_any (A : Option Addr) (n c : Nat) (f : List Int) (x : Int) (W : World) (hs : Sl W W.heap.size A n (ints f)) (hn : n ≤ 9223372036854775807) (hx0 : 0 ≤ x) (hx1 : x ≤ 1000000)
    (zs : List Int) (er : Int) (k : Nat) (h : of1 f (clateL f x.toNat, 0) = (zs, er)) (hk : zs.length = k) :
    Calls Try.prog 42 #[.slice A n c, .int .i64 x] W (RetSl W k zs er) := by
  obtain ⟨d, rfl⟩ := Int.eq_ofNat_of_zero_le hx0
  rw [Int.toNat_natCast] at h
  by_cases hb : curveErr f = 0
  · have cf := isC_of hb
    have hl := hs.int_len
    rw [hl] at cf
    have hn61 := cf.top
    have h' : (tab n (fun i => if d ≤ i then gi f (i - d) else 0), (0 : Int)) = (zs, er) := by rw [of1_ok cf] at h; rw [← hl]; exact h
    have HF := Lib.hid h'
    have CF := Lib.hid cf
    have HB := Lib.hid hb
    have HK := Lib.hid hk
    clear h h' cf hb hk hl
    go_enter Try.func42, Try.ntmps42
    go_wp2_with fail
    refine (ccheck_any A n c f _ _ hs hn).mono ?_
    rintro e w' ⟨rfl, rfl⟩
    rw [HB.out]
    go_wp2_with (at_make; refine wpList_makeInts rfl _ _ rfl (n : Int) (n : Int) n rfl rfl rfl rfl (by omega) ?_; intro w1 hown)
    go_loopw [21, 8] (fun i _ wr => ∃ k : Nat, k ≤ n ∧ i = .int .i64 k ∧ Own W wr n (fun j => if j < k then (if d ≤ j then gi f (j - d) else 0) else 0)) (fun i _ _ => n - (intOf i).toNat)
    case atStart => exact ⟨0, Nat.zero_le _, rfl, hown.congr fun i _ => by rw [if_neg (by omega)]⟩
    case round =>
      obtain ⟨k, hk, rfl, ho⟩ := hrel
      by_cases hlt : k < n
      · have hn1 : (k : Int) < n := by omega
        have hk0 : (0 : Int) ≤ k := by omega
        by_cases hd : d ≤ k
        · obtain ⟨b1, o1, rfl, q1, hc1⟩ := (ho.old hs).int_at (k := k - d) (by omega)
          have hck := ho.cell hlt
          have hfr := ho.frozen k
          have f1 : IntKind.i64.wrap ((k : Int) - d) = (k : Int) - d := IntWalk.i64_in _ ⟨by omega, by omega⟩
          have f2 : ((k : Int) - d).toNat = k - d := by omega
          have f3 : 0 ≤ (k : Int) - d := by omega
          have f4 : (k : Int) - d < n := by omega
          have hd' : (d : Int) ≤ k := by omega
          have O := Lib.hid ho
          clear hs ho
          go_wp2_with fail
          go_roundw
          case rel =>
            refine ⟨k + 1, by omega, by go_num, ?_⟩
            refine O.out.store (x := gi f (k - d)) hlt fun i hi => ?_
            by_cases h1 : i = k
            · subst h1; rw [if_pos (show i < i + 1 by omega), if_pos rfl, if_pos hd]
            · rw [if_neg h1]
              by_cases h2 : i < k
              · rw [if_pos h2, if_pos (show i < k + 1 by omega)]
              · rw [if_neg h2, if_neg (show ¬ i < k + 1 by omega)]
          case measure => simp [intOf]; omega
        · have hd' : ¬ (d : Int) ≤ k := by omega
          have O := Lib.hid ho
          clear hs ho
          go_wp2_with fail
          go_roundw
          case rel =>
            refine ⟨k + 1, by omega, by go_num, O.out.congr fun i hi => ?_⟩
            by_cases h2 : i < k
            · rw [if_pos h2, if_pos (show i < k + 1 by omega)]
            · rw [if_neg h2]
              by_cases h3 : i < k + 1
              · rw [if_pos h3, if_neg (show ¬ d ≤ i by omega)]
              · rw [if_neg h3]
          case measure => simp [intOf]; omega
      · have hkn : k = n := by omega
        subst hkn
        have O := Lib.hid (ho.congr (v := fun j => if d ≤ j then gi f (j - d) else 0) fun i hi => by rw [if_pos hi])
        clear hs ho hown
        go_wp2_with fail
        go_ret2
        have h1 := HF.out
        injection h1 with h1 h2
        subst h1 h2
        have h3 := HK.out
        rw [tab_len] at h3
        subst h3
        exact ⟨_, _, rfl, O.out.sl, Nat.le_refl _, O.out.bel, O.out.row⟩
  · have hne := curveErr_ne' hb
    have HF := Lib.hid h
    have HK := Lib.hid hk
    have HB := Lib.hid hb
    clear h hk hb
    go_enter Try.func42, Try.ntmps42
    go_wp2_with fail
    refine (ccheck_any A n c f _ _ hs hn).mono ?_
    rintro e w' ⟨rfl, rfl⟩
    clear hs
    go_wp2_with fail
    go_ret2
    exact RetSl.nil HF.out HK.out (if_neg HB.out) (Below.refl _ _)
set_option maxHeartbeats 1600000 in
theorem ccut_t (A : Option Addr) (n c : Nat) (f : List Int) (x : Int) (W : World) (hs : Sl W W.heap.size A n (ints f)) (hn : n ≤ 9223372036854775807) (hx0 : 0 ≤ x) (hx1 : x < n) (hcf : IsC n f) (hnc : n ≤ c)
    (zs : List Int) (er : Int) (k : Nat) (h : (ccutL f x.toNat, (0 : Int)) = (zs, er)) (hk : zs.length = k) :
    Calls Try.prog 44 #[.slice A n c, .int .i64 x] W (RetSl W k zs er) := by
  obtain ⟨d, rfl⟩ := Int.eq_ofNat_of_zero_le hx0
  rw [Int.toNat_natCast] at h
  injection h with h1 h2
  subst h1 h2
  have hl := hs.int_len
  have hk' : d + 1 = k := by rw [← hk, ccutL, List.length_take]; omega
  have HK := Lib.hid hk'
  have hn61 := hcf.top
  have HB := Lib.hid hcf.err
  have f1 : IntKind.i64.wrap ((d : Int) + 1) = (d : Int) + 1 := IntWalk.i64_in _ ⟨by omega, by omega⟩
  have ht : Sl W W.heap.size A (d + 1) (ints (ccutL f d)) := by
    have := hs.take (k := d + 1) (by omega)
    rw [ints_take] at this
    exact this
  have HT := Lib.hid ht
  have hb0 : ¬ ((d : Int) < 0) := by omega
  clear hk hk' hl hcf ht
  go_enter Try.func44, Try.ntmps44
  go_wp2_with fail
  refine (ccheck_any A n c f _ _ hs hn).mono ?_
  rintro e w' ⟨rfl, rfl⟩
  rw [HB.out]
  obtain ⟨b, off, rfl, hb, -⟩ := hs.int_at (k := 0) (by omega)
  clear hs
  go_wp2_with (at_builtin; refine wpList_cat rfl (.const (.slice none 0 0)) (.tmp 23) _ rfl elemInt W.heap.size _ 0 [] _ (d + 1) c (ints (ccutL f d)) rfl rfl (World.ownsRow_nil _ _ _ _) (Below.refl _ _) (Nat.le_refl _) HT.out.len1 (by simp) HT.out.cells_ (ints_one _) (by unfold maxLen; omega) (by omega) ?_; intro v' w1 hown1 hb1 hz1 _)
  rw [Nat.zero_add, List.nil_append] at hown1
  obtain ⟨A1, c1, rfl, hc1⟩ := own_form hown1
  go_wp2_with fail
  go_ret2
  have hk := HK.out
  subst hk
  exact ⟨A1, c1, rfl, Sl.of_own hown1, hc1, hb1, hown1⟩
end Go.Proofs.Ytpifknmoimlpoaa
