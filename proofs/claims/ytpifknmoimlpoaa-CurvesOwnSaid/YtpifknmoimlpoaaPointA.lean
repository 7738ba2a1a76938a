/- point.each with a function that only computes; Min, Max, Sum. -/
import Derived.Test.YtpifknmoimlpoaaCurveD
import Derived.StillTailTactics
set_option linter.unusedVariables false
namespace Go.Proofs.Ytpifknmoimlpoaa
open Go.RowKit
theorem bothErr_ne {f g : List Int} (h : ¬ bothErr f g = 0) : (bothErr f g != 0) = true := by simpa using h
theorem curveErr_ne {f : List Int} (h : ¬ curveErr f = 0) : (curveErr f != 0) = true := by simpa using h
theorem min1 (x y : Int) (w : World) (h1 : 0 ≤ x) (h2 : x ≤ 1000000) (h3 : 0 ≤ y) (h4 : y ≤ 1000000) : Calls Try.prog 88 #[.int .i64 x, .int .i64 y] w fun e w' => e = .returned (.int .i64 (mn x y)) ∧ w' = w := by
  obtain ⟨z, hz⟩ : ∃ z, (if y < x then y else x) = z := ⟨_, rfl⟩
  have H : Hid (mn x y = z) := hz
  go_enter Try.func88, Try.ntmps88
  go_wp2_with fail
  go_ret
  exact ⟨by rw [H.out]; rfl, rfl⟩
set_option maxRecDepth 100000 in
set_option maxHeartbeats 1600000 in
theorem each_min (hop : ∀ (x y : Int) (w : World), 0 ≤ x → x ≤ 1000000 → 0 ≤ y → y ≤ 1000000 → Calls Try.prog 88 #[.int .i64 x, .int .i64 y] w fun e w' => e = .returned (.int .i64 (mn x y)) ∧ w' = w)
    (A : Option Addr) (n c : Nat) (f : List Int) (M : Option Addr) (m d : Nat) (g : List Int) (W : World) (hs : Sl W W.heap.size A n (ints f)) (ht : Sl W W.heap.size M m (ints g)) (hn : n ≤ 9223372036854775807) (hm : m ≤ 9223372036854775807)
    (zs : List Int) (er : Int) (k : Nat) (h : of2 f g (fit (tab f.length fun i => mn (gi f i) (gi g i))) = (zs, er)) (hk : zs.length = k) :
    Calls Try.prog 87 #[.slice A n c, .slice M m d, .func (.func 88) #[] #[]] W (RetSl W k zs er) := by
  by_cases hb : bothErr f g = 0
  · obtain ⟨cf, cg⟩ := both_isC hb
    have hl := hs.int_len
    have hl' := ht.int_len
    have hlg := cg.len
    obtain rfl : n = m := by omega
    rw [hl] at cf cg h
    have hn61 := cf.top
    have h' : fit (tab n fun i => mn (gi f i) (gi g i)) = (zs, er) := by rw [of2_ok cf cg] at h; exact h
    have HF := Lib.hid h'
    have CF := Lib.hid cf
    have CG := Lib.hid cg
    have HB := Lib.hid hb
    have HK := Lib.hid hk
    have HOP := Lib.hid hop
    clear h h' cf cg hb hk hl hl' hlg hop
    go_enter Try.func87, Try.ntmps87
    go_wp2_with fail
    refine (both_any A n c f M n d g _ _ _ hs ht hn hn).mono ?_
    rintro e w' ⟨rfl, rfl⟩
    rw [HB.out]
    go_wp2_with (at_make; refine wpList_makeInts rfl _ _ rfl (n : Int) (n : Int) n rfl rfl rfl rfl (by omega) ?_; intro w1 hown)
    go_loopw [22, 10] (fun i _ wr => ∃ k : Nat, k ≤ n ∧ i = .int .i64 k ∧ Own W wr n (fun j => if j < k then mn (gi f j) (gi g j) else 0)) (fun i _ _ => n - (intOf i).toNat)
    case atStart => exact ⟨0, Nat.zero_le _, rfl, hown.congr fun i _ => by rw [if_neg (by omega)]⟩
    case round =>
      obtain ⟨k, hk, rfl, ho⟩ := hrel
      by_cases hlt : k < n
      · obtain ⟨b1, o1, rfl, q1, hc1⟩ := (ho.old hs).int_at hlt
        obtain ⟨b2, o2, rfl, q2, hc2⟩ := (ho.old ht).int_at hlt
        have hck := ho.cell hlt
        have hfr := ho.frozen k
        have hn1 : (k : Int) < n := by omega
        have hk0 : (0 : Int) ≤ k := by omega
        have O := Lib.hid ho
        clear hs ht ho
        go_wp2_with fail
        refine wp_region_still_tail 13 (by kernel_rfl) (by kernel_rfl) ?_
        simp only [List.take_succ_cons, List.take_zero, List.drop_succ_cons, List.drop_zero]
        repeat still_step
        still_call (HOP.out (gi f k) (gi g k) wr.drew (CF.out.lo k hlt) (CF.out.hi k hlt) (CG.out.lo k hlt) (CG.out.hi k hlt))
        repeat still_step
        refine wpStill_nil ?_
        change wpList _ _ _ _ _ wr.drew
        go_wp2_with fail
        go_roundw
        case rel =>
          refine ⟨k + 1, by omega, by go_num, ?_⟩
          refine (O.out.store (x := mn (gi f k) (gi g k)) hlt fun i hi => ?_).drew
          by_cases h1 : i = k
          · subst h1; rw [if_pos (by omega), if_pos rfl]
          · rw [if_neg h1]
            by_cases h2 : i < k
            · rw [if_pos h2, if_pos (by omega)]
            · rw [if_neg h2, if_neg (by omega)]
        case measure => simp [intOf]; omega
      · have hkn : k = n := by omega
        subst hkn
        have O := Lib.hid (ho.congr (v := fun j => mn (gi f j) (gi g j)) fun i hi => by rw [if_pos hi])
        clear hs ht ho hown
        go_wp2_with fail
        refine (fit_any (some ⟨W.heap.size, 0, none⟩) k k _ W wr O.out.sl O.out.bel O.out.row (Nat.le_refl _) (by omega) _ _ _ HF.out HK.out).mono ?_
        rintro e w2 ⟨A2, c2, rfl, s2⟩
        have S2 := Lib.hid s2
        clear s2
        go_wp2_with fail
        go_ret2
        exact ⟨A2, c2, rfl, S2.out⟩
  · have hne := bothErr_ne hb
    have HF := Lib.hid h
    have HK := Lib.hid hk
    have HB := Lib.hid hb
    clear h hk hb hop
    go_enter Try.func87, Try.ntmps87
    go_wp2_with fail
    refine (both_any A n c f M m d g _ _ _ hs ht hn hm).mono ?_
    rintro e w' ⟨rfl, rfl⟩
    clear hs ht
    go_wp2_with fail
    go_ret2
    exact RetSl.nil HF.out HK.out (if_neg HB.out) (Below.refl _ _)
theorem pmin_any (A : Option Addr) (n c : Nat) (f : List Int) (M : Option Addr) (m d : Nat) (g : List Int) (W : World) (hs : Sl W W.heap.size A n (ints f)) (ht : Sl W W.heap.size M m (ints g)) (hn : n ≤ 9223372036854775807) (hm : m ≤ 9223372036854775807)
    (zs : List Int) (er : Int) (k : Nat) (h : of2 f g (fit (cminL f g)) = (zs, er)) (hk : zs.length = k) :
    Calls Try.prog 25 #[.slice A n c, .slice M m d] W (RetSl W k zs er) := by
  have H := Lib.hid h
  have HK := Lib.hid hk
  clear h hk
  go_enter Try.func25, Try.ntmps25
  go_wp2_with fail
  refine (each_min min1 A n c f M m d g _ hs ht hn hm zs er k H.out HK.out).mono ?_
  rintro e w2 ⟨A2, c2, rfl, s2⟩
  have S2 := Lib.hid s2
  clear s2
  go_wp2_with fail
  go_ret2
  exact ⟨A2, c2, rfl, S2.out⟩
theorem max1 (x y : Int) (w : World) (h1 : 0 ≤ x) (h2 : x ≤ 1000000) (h3 : 0 ≤ y) (h4 : y ≤ 1000000) : Calls Try.prog 97 #[.int .i64 x, .int .i64 y] w fun e w' => e = .returned (.int .i64 (mx x y)) ∧ w' = w := by
  obtain ⟨z, hz⟩ : ∃ z, (if x < y then y else x) = z := ⟨_, rfl⟩
  have H : Hid (mx x y = z) := hz
  go_enter Try.func97, Try.ntmps97
  go_wp2_with fail
  go_ret
  exact ⟨by rw [H.out]; rfl, rfl⟩
set_option maxRecDepth 100000 in
set_option maxHeartbeats 1600000 in
theorem each_max (hop : ∀ (x y : Int) (w : World), 0 ≤ x → x ≤ 1000000 → 0 ≤ y → y ≤ 1000000 → Calls Try.prog 97 #[.int .i64 x, .int .i64 y] w fun e w' => e = .returned (.int .i64 (mx x y)) ∧ w' = w)
    (A : Option Addr) (n c : Nat) (f : List Int) (M : Option Addr) (m d : Nat) (g : List Int) (W : World) (hs : Sl W W.heap.size A n (ints f)) (ht : Sl W W.heap.size M m (ints g)) (hn : n ≤ 9223372036854775807) (hm : m ≤ 9223372036854775807)
    (zs : List Int) (er : Int) (k : Nat) (h : of2 f g (fit (tab f.length fun i => mx (gi f i) (gi g i))) = (zs, er)) (hk : zs.length = k) :
    Calls Try.prog 87 #[.slice A n c, .slice M m d, .func (.func 97) #[] #[]] W (RetSl W k zs er) := by
  by_cases hb : bothErr f g = 0
  · obtain ⟨cf, cg⟩ := both_isC hb
    have hl := hs.int_len
    have hl' := ht.int_len
    have hlg := cg.len
    obtain rfl : n = m := by omega
    rw [hl] at cf cg h
    have hn61 := cf.top
    have h' : fit (tab n fun i => mx (gi f i) (gi g i)) = (zs, er) := by rw [of2_ok cf cg] at h; exact h
    have HF := Lib.hid h'
    have CF := Lib.hid cf
    have CG := Lib.hid cg
    have HB := Lib.hid hb
    have HK := Lib.hid hk
    have HOP := Lib.hid hop
    clear h h' cf cg hb hk hl hl' hlg hop
    go_enter Try.func87, Try.ntmps87
    go_wp2_with fail
    refine (both_any A n c f M n d g _ _ _ hs ht hn hn).mono ?_
    rintro e w' ⟨rfl, rfl⟩
    rw [HB.out]
    go_wp2_with (at_make; refine wpList_makeInts rfl _ _ rfl (n : Int) (n : Int) n rfl rfl rfl rfl (by omega) ?_; intro w1 hown)
    go_loopw [22, 10] (fun i _ wr => ∃ k : Nat, k ≤ n ∧ i = .int .i64 k ∧ Own W wr n (fun j => if j < k then mx (gi f j) (gi g j) else 0)) (fun i _ _ => n - (intOf i).toNat)
    case atStart => exact ⟨0, Nat.zero_le _, rfl, hown.congr fun i _ => by rw [if_neg (by omega)]⟩
    case round =>
      obtain ⟨k, hk, rfl, ho⟩ := hrel
      by_cases hlt : k < n
      · obtain ⟨b1, o1, rfl, q1, hc1⟩ := (ho.old hs).int_at hlt
        obtain ⟨b2, o2, rfl, q2, hc2⟩ := (ho.old ht).int_at hlt
        have hck := ho.cell hlt
        have hfr := ho.frozen k
        have hn1 : (k : Int) < n := by omega
        have hk0 : (0 : Int) ≤ k := by omega
        have O := Lib.hid ho
        clear hs ht ho
        go_wp2_with fail
        refine wp_region_still_tail 13 (by kernel_rfl) (by kernel_rfl) ?_
        simp only [List.take_succ_cons, List.take_zero, List.drop_succ_cons, List.drop_zero]
        repeat still_step
        still_call (HOP.out (gi f k) (gi g k) wr.drew (CF.out.lo k hlt) (CF.out.hi k hlt) (CG.out.lo k hlt) (CG.out.hi k hlt))
        repeat still_step
        refine wpStill_nil ?_
        change wpList _ _ _ _ _ wr.drew
        go_wp2_with fail
        go_roundw
        case rel =>
          refine ⟨k + 1, by omega, by go_num, ?_⟩
          refine (O.out.store (x := mx (gi f k) (gi g k)) hlt fun i hi => ?_).drew
          by_cases h1 : i = k
          · subst h1; rw [if_pos (by omega), if_pos rfl]
          · rw [if_neg h1]
            by_cases h2 : i < k
            · rw [if_pos h2, if_pos (by omega)]
            · rw [if_neg h2, if_neg (by omega)]
        case measure => simp [intOf]; omega
      · have hkn : k = n := by omega
        subst hkn
        have O := Lib.hid (ho.congr (v := fun j => mx (gi f j) (gi g j)) fun i hi => by rw [if_pos hi])
        clear hs ht ho hown
        go_wp2_with fail
        refine (fit_any (some ⟨W.heap.size, 0, none⟩) k k _ W wr O.out.sl O.out.bel O.out.row (Nat.le_refl _) (by omega) _ _ _ HF.out HK.out).mono ?_
        rintro e w2 ⟨A2, c2, rfl, s2⟩
        have S2 := Lib.hid s2
        clear s2
        go_wp2_with fail
        go_ret2
        exact ⟨A2, c2, rfl, S2.out⟩
  · have hne := bothErr_ne hb
    have HF := Lib.hid h
    have HK := Lib.hid hk
    have HB := Lib.hid hb
    clear h hk hb hop
    go_enter Try.func87, Try.ntmps87
    go_wp2_with fail
    refine (both_any A n c f M m d g _ _ _ hs ht hn hm).mono ?_
    rintro e w' ⟨rfl, rfl⟩
    clear hs ht
    go_wp2_with fail
    go_ret2
    exact RetSl.nil HF.out HK.out (if_neg HB.out) (Below.refl _ _)
theorem pmax_any (A : Option Addr) (n c : Nat) (f : List Int) (M : Option Addr) (m d : Nat) (g : List Int) (W : World) (hs : Sl W W.heap.size A n (ints f)) (ht : Sl W W.heap.size M m (ints g)) (hn : n ≤ 9223372036854775807) (hm : m ≤ 9223372036854775807)
    (zs : List Int) (er : Int) (k : Nat) (h : of2 f g (fit (cmaxL f g)) = (zs, er)) (hk : zs.length = k) :
    Calls Try.prog 45 #[.slice A n c, .slice M m d] W (RetSl W k zs er) := by
  have H := Lib.hid h
  have HK := Lib.hid hk
  clear h hk
  go_enter Try.func45, Try.ntmps45
  go_wp2_with fail
  refine (each_max max1 A n c f M m d g _ hs ht hn hm zs er k H.out HK.out).mono ?_
  rintro e w2 ⟨A2, c2, rfl, s2⟩
  have S2 := Lib.hid s2
  clear s2
  go_wp2_with fail
  go_ret2
  exact ⟨A2, c2, rfl, S2.out⟩
theorem sum1 (x y : Int) (w : World) (h1 : 0 ≤ x) (h2 : x ≤ 1000000) (h3 : 0 ≤ y) (h4 : y ≤ 1000000) : Calls Try.prog 98 #[.int .i64 x, .int .i64 y] w fun e w' => e = .returned (.int .i64 (x + y)) ∧ w' = w := by
  go_enter Try.func98, Try.ntmps98
  go_wp2_with fail
  go_ret
  exact ⟨rfl, rfl⟩
set_option maxRecDepth 100000 in
set_option maxHeartbeats 1600000 in
theorem each_sum (hop : ∀ (x y : Int) (w : World), 0 ≤ x → x ≤ 1000000 → 0 ≤ y → y ≤ 1000000 → Calls Try.prog 98 #[.int .i64 x, .int .i64 y] w fun e w' => e = .returned (.int .i64 (x + y)) ∧ w' = w)
    (A : Option Addr) (n c : Nat) (f : List Int) (M : Option Addr) (m d : Nat) (g : List Int) (W : World) (hs : Sl W W.heap.size A n (ints f)) (ht : Sl W W.heap.size M m (ints g)) (hn : n ≤ 9223372036854775807) (hm : m ≤ 9223372036854775807)
    (zs : List Int) (er : Int) (k : Nat) (h : of2 f g (fit (tab f.length fun i => gi f i + gi g i)) = (zs, er)) (hk : zs.length = k) :
    Calls Try.prog 87 #[.slice A n c, .slice M m d, .func (.func 98) #[] #[]] W (RetSl W k zs er) := by
  by_cases hb : bothErr f g = 0
  · obtain ⟨cf, cg⟩ := both_isC hb
    have hl := hs.int_len
    have hl' := ht.int_len
    have hlg := cg.len
    obtain rfl : n = m := by omega
    rw [hl] at cf cg h
    have hn61 := cf.top
    have h' : fit (tab n fun i => gi f i + gi g i) = (zs, er) := by rw [of2_ok cf cg] at h; exact h
    have HF := Lib.hid h'
    have CF := Lib.hid cf
    have CG := Lib.hid cg
    have HB := Lib.hid hb
    have HK := Lib.hid hk
    have HOP := Lib.hid hop
    clear h h' cf cg hb hk hl hl' hlg hop
    go_enter Try.func87, Try.ntmps87
    go_wp2_with fail
    refine (both_any A n c f M n d g _ _ _ hs ht hn hn).mono ?_
    rintro e w' ⟨rfl, rfl⟩
    rw [HB.out]
    go_wp2_with (at_make; refine wpList_makeInts rfl _ _ rfl (n : Int) (n : Int) n rfl rfl rfl rfl (by omega) ?_; intro w1 hown)
    go_loopw [22, 10] (fun i _ wr => ∃ k : Nat, k ≤ n ∧ i = .int .i64 k ∧ Own W wr n (fun j => if j < k then gi f j + gi g j else 0)) (fun i _ _ => n - (intOf i).toNat)
    case atStart => exact ⟨0, Nat.zero_le _, rfl, hown.congr fun i _ => by rw [if_neg (by omega)]⟩
    case round =>
      obtain ⟨k, hk, rfl, ho⟩ := hrel
      by_cases hlt : k < n
      · obtain ⟨b1, o1, rfl, q1, hc1⟩ := (ho.old hs).int_at hlt
        obtain ⟨b2, o2, rfl, q2, hc2⟩ := (ho.old ht).int_at hlt
        have hck := ho.cell hlt
        have hfr := ho.frozen k
        have hn1 : (k : Int) < n := by omega
        have hk0 : (0 : Int) ≤ k := by omega
        have O := Lib.hid ho
        clear hs ht ho
        go_wp2_with fail
        refine wp_region_still_tail 13 (by kernel_rfl) (by kernel_rfl) ?_
        simp only [List.take_succ_cons, List.take_zero, List.drop_succ_cons, List.drop_zero]
        repeat still_step
        still_call (HOP.out (gi f k) (gi g k) wr.drew (CF.out.lo k hlt) (CF.out.hi k hlt) (CG.out.lo k hlt) (CG.out.hi k hlt))
        repeat still_step
        refine wpStill_nil ?_
        change wpList _ _ _ _ _ wr.drew
        go_wp2_with fail
        go_roundw
        case rel =>
          refine ⟨k + 1, by omega, by go_num, ?_⟩
          refine (O.out.store (x := gi f k + gi g k) hlt fun i hi => ?_).drew
          by_cases h1 : i = k
          · subst h1; rw [if_pos (by omega), if_pos rfl]
          · rw [if_neg h1]
            by_cases h2 : i < k
            · rw [if_pos h2, if_pos (by omega)]
            · rw [if_neg h2, if_neg (by omega)]
        case measure => simp [intOf]; omega
      · have hkn : k = n := by omega
        subst hkn
        have O := Lib.hid (ho.congr (v := fun j => gi f j + gi g j) fun i hi => by rw [if_pos hi])
        clear hs ht ho hown
        go_wp2_with fail
        refine (fit_any (some ⟨W.heap.size, 0, none⟩) k k _ W wr O.out.sl O.out.bel O.out.row (Nat.le_refl _) (by omega) _ _ _ HF.out HK.out).mono ?_
        rintro e w2 ⟨A2, c2, rfl, s2⟩
        have S2 := Lib.hid s2
        clear s2
        go_wp2_with fail
        go_ret2
        exact ⟨A2, c2, rfl, S2.out⟩
  · have hne := bothErr_ne hb
    have HF := Lib.hid h
    have HK := Lib.hid hk
    have HB := Lib.hid hb
    clear h hk hb hop
    go_enter Try.func87, Try.ntmps87
    go_wp2_with fail
    refine (both_any A n c f M m d g _ _ _ hs ht hn hm).mono ?_
    rintro e w' ⟨rfl, rfl⟩
    clear hs ht
    go_wp2_with fail
    go_ret2
    exact RetSl.nil HF.out HK.out (if_neg HB.out) (Below.refl _ _)
theorem psum_any (A : Option Addr) (n c : Nat) (f : List Int) (M : Option Addr) (m d : Nat) (g : List Int) (W : World) (hs : Sl W W.heap.size A n (ints f)) (ht : Sl W W.heap.size M m (ints g)) (hn : n ≤ 9223372036854775807) (hm : m ≤ 9223372036854775807)
    (zs : List Int) (er : Int) (k : Nat) (h : of2 f g (fit (csumL f g)) = (zs, er)) (hk : zs.length = k) :
    Calls Try.prog 46 #[.slice A n c, .slice M m d] W (RetSl W k zs er) := by
  have H := Lib.hid h
  have HK := Lib.hid hk
  clear h hk
  go_enter Try.func46, Try.ntmps46
  go_wp2_with fail
  refine (each_sum sum1 A n c f M m d g _ hs ht hn hm zs er k H.out HK.out).mono ?_
  rintro e w2 ⟨A2, c2, rfl, s2⟩
  have S2 := Lib.hid s2
  clear s2
  go_wp2_with fail
  go_ret2
  exact ⟨A2, c2, rfl, S2.out⟩
end Go.Proofs.Ytpifknmoimlpoaa
