/- EdfBest: if any schedule meets all deadlines, so does EDF. -/
import Derived.Test.YtigekbidbeilnaaEdfT
import Derived.Test.YtigekbidbeilnaaEdfRuns
import Derived.Test.YtigekbidbeilnaaOpen3
set_option linter.unusedVariables false
namespace Go.Proofs.Ytigekbidbeilnaa
open Go.RowKit
set_option maxHeartbeats 1600000 in
theorem indexPos (A : Option Addr) (n c : Nat) (zs : List Int) (W : World) (B : Nat) (hs : Sl W B A n (ints zs)) (hn : n ≤ 1000000) (K : Nat) (hK : K ≤ n) (h1 : ∀ i, i < K → gi zs i ≤ 0) (h2 : K < n → 0 < gi zs K) (x : Int) (hx : (if K < n then (K : Int) else -1) = x) :
    Calls Try.prog 31 #[.slice A n c, .func (.func 22) #[] #[]] W fun e w' => e = .returned (.int .i64 x) ∧ W = w' := by
  have H1 := Lib.hid h1
  have H2 := Lib.hid h2
  have HX := Lib.hid hx
  clear h1 h2 hx
  have PC : ∀ (z : Int) (v : Bool), decide (0 < z) = v → ∀ w, Calls Try.prog 22 #[.int .i64 z] w fun e w' => e = .returned (.bool v) ∧ w = w' := by
    intro z v hv w
    subst hv
    go_enter Try.func22, Try.ntmps22
    go_wp2_with fail
    go_ret
    exact ⟨rfl, rfl⟩
  have PH := Lib.hid PC
  clear PC
  go_enter Try.func31, Try.ntmps31
  go_wp2_with fail
  go_loopw [8] (fun i wr => ∃ k : Nat, k ≤ K ∧ i = .int .i64 k ∧ wr = W) (fun i _ => K - (intOf i).toNat)
  case atStart => exact ⟨0, Nat.zero_le _, rfl, rfl⟩
  case round =>
    obtain ⟨k, hk, rfl, rfl⟩ := hrel
    have hk0 : (0 : Int) ≤ k := by omega
    by_cases hkn : k < n
    · have hn1 : (k : Int) < n := by omega
      obtain ⟨b, off, rfl, qb, hc⟩ := hs.int_at hkn
      by_cases hlt : k < K
      · have hv := Lib.hid (decide_eq_false (p := 0 < gi zs k) (by have := H1.out k hlt; omega))
        clear hs
        go_wp2_with fail
        refine (PH.out _ false hv.out _).mono ?_
        rintro e w1 ⟨rfl, rfl⟩
        go_wp2_with fail
        go_roundw
        case rel => exact ⟨k + 1, by omega, by go_num, by first | trivial | rfl⟩
        case measure => simp [intOf]; omega
      · have hkK : k = K := by omega
        have hv := Lib.hid (decide_eq_true (p := 0 < gi zs k) (by rw [hkK]; exact H2.out (by omega)))
        have hxe := Lib.hid HX.out
        have hx2 : Hid (x = (k : Int)) := by show _ = _; rw [← hxe.out, if_pos (by omega), hkK]
        clear hs hkK hlt
        go_wp2_with fail
        refine (PH.out _ true hv.out _).mono ?_
        rintro e w1 ⟨rfl, rfl⟩
        go_wp2_with fail
        go_ret
        exact ⟨ret_int hx2.out.symm, by first | trivial | rfl⟩
    · have hx2 : Hid (x = -1) := by show _ = _; rw [← HX.out, if_neg (by omega)]
      have hn1 : ¬ (k : Int) < n := by omega
      clear hs hk
      go_wp2_with fail
      go_ret
      exact ⟨ret_int hx2.out.symm, by first | trivial | rfl⟩
theorem containsPos (A : Option Addr) (n c : Nat) (zs : List Int) (W : World) (B : Nat) (hs : Sl W B A n (ints zs)) (hn : n ≤ 1000000) (v : Bool) (hv : v = true ↔ ∃ i, i < n ∧ 0 < gi zs i) :
    Calls Try.prog 21 #[.slice A n c, .func (.func 22) #[] #[]] W fun e w' => e = .returned (.bool v) ∧ W = w' := by
  rcases first_bad3 (fun i => gi zs i ≤ 0) n with hall | ⟨K, k1, k2, k3⟩
  · have hvf : v = false := by
      cases v
      · rfl
      · obtain ⟨i, hi, h⟩ := hv.1 rfl
        have := hall i hi
        omega
    subst hvf
    have H := Lib.hid hall
    clear hall hv
    go_enter Try.func21, Try.ntmps21
    go_wp2_with fail
    refine (indexPos A n c zs _ B hs hn n (Nat.le_refl _) H.out (fun h => absurd h (Nat.lt_irrefl _)) (-1) (if_neg (Nat.lt_irrefl _))).mono ?_
    rintro e w1 ⟨rfl, rfl⟩
    go_wp2_with fail
    go_ret
    exact ⟨rfl, rfl⟩
  · have hvt : v = true := hv.2 ⟨K, k1, by omega⟩
    subst hvt
    have H2 := Lib.hid k2
    have H3 := Lib.hid k3
    have H1 := Lib.hid k1
    have e1 : decide ((0 : Int) ≤ K) = true := decide_eq_true (by omega)
    clear k1 k2 k3 hv
    go_enter Try.func21, Try.ntmps21
    go_wp2_with fail
    refine (indexPos A n c zs _ B hs hn K (Nat.le_of_lt H1.out) H2.out (fun _ => by have := H3.out; omega) K (if_pos H1.out)).mono ?_
    rintro e w1 ⟨rfl, rfl⟩
    go_wp2_with fail
    go_ret
    exact ⟨rfl, rfl⟩
/-- The way, read: what is left of each job at time t; whom it serves then. -/
def wl (zs way : List Int) (n T : Nat) : Nat → Nat → Int
  | 0 => fun i => fd zs i 1
  | t + 1 => fun i => if t < T ∧ gi way t = i ∧ i < n ∧ fd zs i 0 ≤ t ∧ (t : Int) < fd zs i 2 ∧ 0 < wl zs way n T t i then wl zs way n T t i - 1 else wl zs way n T t i
def wsv (zs way : List Int) (n T t : Nat) : Int := if t < T ∧ 0 ≤ gi way t ∧ gi way t < n ∧ fd zs (gi way t).toNat 0 ≤ t ∧ (t : Int) < fd zs (gi way t).toNat 2 ∧ 0 < wl zs way n T t (gi way t).toNat then gi way t else -1
theorem wl_succ (zs way : List Int) (n T t i : Nat) : wl zs way n T (t + 1) i = if t < T ∧ gi way t = i ∧ i < n ∧ fd zs i 0 ≤ t ∧ (t : Int) < fd zs i 2 ∧ 0 < wl zs way n T t i then wl zs way n T t i - 1 else wl zs way n T t i := rfl
theorem wsv_iff (zs way : List Int) (n T t i : Nat) : wsv zs way n T t = i ↔ t < T ∧ gi way t = i ∧ i < n ∧ fd zs i 0 ≤ t ∧ (t : Int) < fd zs i 2 ∧ 0 < wl zs way n T t i := by
  unfold wsv
  constructor
  · intro h
    split at h
    · rename_i c
      obtain ⟨c1, c2, c3, c4, c5, c6⟩ := c
      rw [h, Int.toNat_natCast] at c4 c5 c6
      exact ⟨c1, h, by omega, c4, c5, c6⟩
    · omega
  · rintro ⟨c1, c2, c3, c4, c5, c6⟩
    rw [c2, Int.toNat_natCast, if_pos ⟨c1, by omega, by omega, c4, c5, c6⟩]
theorem wl_step (zs way : List Int) (n T t i : Nat) : wl zs way n T (t + 1) i = if wsv zs way n T t = i then wl zs way n T t i - 1 else wl zs way n T t i := by
  rw [wl_succ]
  by_cases h : wsv zs way n T t = i
  · rw [if_pos h, if_pos ((wsv_iff zs way n T t i).1 h)]
  · rw [if_neg h, if_neg (fun c => h ((wsv_iff zs way n T t i).2 c))]
theorem wl_late {zs way : List Int} {n T Y i : Nat} (h : fd zs i 2 ≤ Y ∨ T ≤ Y) (d : Nat) : wl zs way n T (Y + d) i = wl zs way n T Y i := by
  induction d with
  | zero => rfl
  | succ d ih =>
    rw [show Y + (d + 1) = Y + d + 1 by omega, wl_succ, if_neg (fun c => ?_)]
    · exact ih
    · rcases h with h | h <;> omega
theorem wl_bd {zs way : List Int} {n : Nat} (h : edfOk zs n) (T t i : Nat) (hi : i < n) : 0 ≤ wl zs way n T t i ∧ wl zs way n T t i ≤ 200 := by
  induction t with
  | zero => have := h.2 i hi; unfold jobOk at this; show 0 ≤ fd zs i 1 ∧ fd zs i 1 ≤ 200; omega
  | succ t ih => rw [wl_succ]; split <;> omega
theorem way_fits {zs way : List Int} {n T : Nat} (h : edfOk zs n) (hz : ∀ i, i < n → wl zs way n T T i = 0) : fitsE zs n := by
  intro a ha b hb hlt
  have ja := h.2 a ha
  have jb := h.2 b hb
  unfold jobOk at ja jb
  have := dem_sched (zs := zs) (n := n) (wl zs way n T) (wsv zs way n T) (fun _ _ => rfl) (fun t i _ => wl_step zs way n T t i) (fun t i _ hp => ((wsv_iff zs way n T t i).1 hp).2.2.2.1) (fd zs a 0).toNat (fd zs b 2).toNat (by omega) (fun i hi' c1 c2 => by
    have e1 := wl_late (zs := zs) (way := way) (n := n) (T := T) (Y := (fd zs b 2).toNat) (i := i) (.inl c2) T
    have e2 := wl_late (zs := zs) (way := way) (n := n) (T := T) (Y := T) (i := i) (.inr (Nat.le_refl _)) (fd zs b 2).toNat
    rw [Nat.add_comm T, e1, hz i hi'] at e2
    exact e2)
  rw [show (((fd zs a 0).toNat : Nat) : Int) = fd zs a 0 by omega, show (((fd zs b 2).toNat : Nat) : Int) = fd zs b 2 by omega] at this
  exact this
theorem ex3 : ∀ i, i < 2 → intime [0, 2, 3, 1, 1, 2] 2 i := fun i hi => (intime_iff (by decide) hi).2 ((by decide +kernel : ∀ i, i < 2 → elf [0, 2, 3, 1, 1, 2] 2 (fd [0, 2, 3, 1, 1, 2] i 2).toNat i = 0) i hi)
set_option maxRecDepth 100000 in
set_option maxHeartbeats 12800000 in
theorem edfBest_walk (A : Option Addr) (n c : Nat) (zs : List Int) (M : Option Addr) (m d : Nat) (way : List Int) (W : World) (w0 : In3 W A n c zs) (w1 : InInts W M m d way) :
    Calls Try.prog 6 #[.slice A n c, .slice M m d] W fun e w' => e = .returned (.bool true) ∧ Below W.heap.size W w' := by
  obtain ⟨s0, l0, r0, _⟩ := w0
  obtain ⟨sm, lm, rm, _⟩ := w1
  go_enter Try.func6, Try.ntmps6
  go_wp2_with fail
  refine (elate_ok _ 2 _ [0, 2, 3, 1, 1, 2] _ (Sl.built_ _ (ints [0, 2, 3, 1, 1, 2]) 28 _ rfl rfl) (by decide) 2 (by omega) ex3 (fun h => absurd h (by omega)) 0 5 rfl).mono ?_
  rintro e w1 ⟨rfl, bb1⟩
  have b1 := belLit1 (Below.refl W.heap.size W) bb1
  replace s0 := slLit1 s0 bb1
  replace sm := slLit1 sm bb1
  clear bb1
  by_cases hok : edfOk zs n
  case neg =>
    have HO := Lib.hid hok
    have hne := edfErr_ne n
    clear hok sm
    go_wp2_with fail
    refine (echeck_bad A n c zs _ HO.out s0 (by omega)).mono ?_
    rintro e w4 ⟨rfl, bb4⟩
    have b4 := belLit0 b1 bb4
    clear bb4 b1 s0
    go_wp2_with fail
    go_ret
    exact ⟨rfl, b4⟩
  have HO := Lib.hid hok
  have h12 := hok.1
  clear hok
  go_wp2_with fail
  refine (echeck_ok A n c zs _ HO.out s0).mono ?_
  rintro e w3 ⟨rfl, bb3⟩
  have b3 := Lib.hid (belLit0 b1 bb3)
  have S0 := Lib.hid (slLit0 s0 bb3)
  have SM := Lib.hid (slLit0 sm bb3)
  have hmk := makeInts_any n (by omega)
  have TM := Lib.hid (oneT_made w3 n h12)
  clear bb3 b1 s0 sm
  go_wp2_with fail
  have T0 := TM.out
  unfold zeroObj at T0
  revert T0
  generalize w3.alloc (.cells (ints (tab n fun _ => 0)).toArray 3) = w4
  intro T0
  obtain ⟨T, hT⟩ : ∃ T : Nat, (if (200 : Int) < m then 200 else (m : Int)) = (T : Int) := by
    by_cases h : (200 : Int) < m
    · exact ⟨200, if_pos h⟩
    · exact ⟨m, if_neg h⟩
  have hTm : T ≤ m ∧ T ≤ 200 := by split at hT <;> omega
  go_loopw [31] (fun i wr => ∃ k : Nat, k ≤ n ∧ i = .int .i64 k ∧ OneT w3 wr n w3.heap.size (fun i => if i < k then fd zs i 1 else 0)) (fun i _ => n - (intOf i).toNat)
  case atStart => exact ⟨0, Nat.zero_le _, rfl, T0.congr (fun i _ => by rw [if_neg (Nat.not_lt_zero i)])⟩
  case round =>
    clear T0
    obtain ⟨k, hk, rfl, TT⟩ := hrel
    by_cases hlt : k < n
    · obtain ⟨ba, oa, rfl, qa, -⟩ := S0.out.int_at (k := k * 3) (by omega)
      obtain ⟨a0, a1, a2⟩ := (S0.out.below TT.bel).three hlt
      obtain ⟨oj, hoj⟩ : ∃ oj, Obj.cells #[.int .i64 (fd zs k 0), .int .i64 (fd zs k 1), .int .i64 (fd zs k 2)] 28 = oj := ⟨_, rfl⟩
      have TA := TT.on ((Below.refl _ wr).alloc (Nat.le_refl _) oj)
      obtain ⟨cc, cf⟩ := TA.cl hlt
      have TS := Lib.hid (TA.set hlt (fd zs k 1))
      subst hoj
      have hn1 : (k : Int) < n := by omega
      have hk0 : (0 : Int) ≤ k := by omega
      have HT := Lib.hid hT
      clear TT TA hT
      go_wp2_with fail
      go_roundw
      case rel =>
        refine ⟨k + 1, by omega, by go_num, TS.out.congr (fun i hi => ?_)⟩
        by_cases h1 : i = k
        · rw [if_pos h1, if_pos (show i < k + 1 by omega), h1]
        · rw [if_neg h1]
          by_cases h2 : i < k
          · rw [if_pos h2, if_pos (show i < k + 1 by omega)]
          · rw [if_neg h2, if_neg (show ¬ i < k + 1 by omega)]
      case measure => simp [intOf]; omega
    · have hkn : k = n := by omega
      subst hkn
      have T1 := Lib.hid (TT.congr (u' := wl zs way k T 0) (fun i hi => by rw [if_pos hi]; rfl))
      have hd1 : (T : Int) ≤ d := by omega
      have hd0 : (0 : Int) ≤ T := by omega
      clear TT hmk TM hlt hk
      go_wp2_with fail
      clear hT
      go_loopw [48] (fun i wr => ∃ t : Nat, t ≤ T ∧ i = .int .i64 t ∧ OneT w3 wr k w3.heap.size (wl zs way k T t)) (fun i _ => T - (intOf i).toNat)
      case atStart => exact ⟨0, Nat.zero_le _, rfl, T1.out⟩
      case round =>
        clear T1
        obtain ⟨t, ht, rfl, TT⟩ := hrel
        by_cases hlt : t < T
        · have hn1 : (t : Int) < T := by omega
          have hk0 : (0 : Int) ≤ t := by omega
          obtain ⟨bx, ox, rfl, qx, -⟩ := SM.out.int_at (k := t) (by omega)
          have hx := (SM.out.below TT.bel).int_cell (k := t) (by omega)
          have HW := Lib.hid (fun i => wl_succ zs way k T t i)
          have HT2 := Lib.hid TT
          obtain ⟨z, hz⟩ : ∃ z, gi way t = z := ⟨_, rfl⟩
          have HZ := Lib.hid hz
          rw [hz] at hx
          have SK := Lib.hid (fun (hn : ∀ i : Nat, i < k → ¬ (z = i ∧ fd zs i 0 ≤ t ∧ (t : Int) < fd zs i 2 ∧ 0 < wl zs way k T t i)) => TT.congr (u' := wl zs way k T (t + 1)) (fun i hi => by rw [HW.out, if_neg (fun c => hn i hi ⟨by rw [← hz]; exact c.2.1, c.2.2.2⟩)]))
          by_cases c1 : 0 ≤ z
          case neg =>
            have e1 : decide (0 ≤ z) = false := decide_eq_false c1
            have TS := Lib.hid (SK.out (fun i hi c => by omega))
            clear TT hz c1 SK
            go_wp2_with fail
            go_roundw
            case rel => exact ⟨t + 1, by omega, by go_num, TS.out⟩
            case measure => simp [intOf]; omega
          have e1 : decide (0 ≤ z) = true := decide_eq_true c1
          by_cases c2 : z < k
          case neg =>
            have e2 : decide (z < (k : Int)) = false := decide_eq_false c2
            have TS := Lib.hid (SK.out (fun i hi c => by omega))
            clear TT hz c1 c2 SK
            go_wp2_with fail
            go_roundw
            case rel => exact ⟨t + 1, by omega, by go_num, TS.out⟩
            case measure => simp [intOf]; omega
          obtain ⟨J, hJ⟩ : ∃ J : Nat, z = J := ⟨z.toNat, by omega⟩
          subst hJ
          have hJk : J < k := by omega
          have e2 : (J : Int) < k := by omega
          obtain ⟨ba, oa, rfl, qa, -⟩ := S0.out.int_at (k := J * 3) (by omega)
          obtain ⟨a0, a1, a2⟩ := (S0.out.below TT.bel).three hJk
          obtain ⟨cc, cf⟩ := TT.cl hJk
          have hxb := wl_bd HO.out T t J hJk (way := way)
          by_cases c3 : fd zs J 0 ≤ t
          case neg =>
            have e3 : decide (fd zs J 0 ≤ t) = false := decide_eq_false c3
            have TS := Lib.hid (SK.out (fun i hi c => by obtain rfl : J = i := by omega
                                                         exact c3 c.2.1))
            clear TT hz c1 c2 c3 SK
            go_wp2_with fail
            go_roundw
            case rel => exact ⟨t + 1, by omega, by go_num, TS.out⟩
            case measure => simp [intOf]; omega
          have e3 : decide (fd zs J 0 ≤ t) = true := decide_eq_true c3
          by_cases c4 : (t : Int) < fd zs J 2
          case neg =>
            have e4 : decide ((t : Int) < fd zs J 2) = false := decide_eq_false c4
            have TS := Lib.hid (SK.out (fun i hi c => by obtain rfl : J = i := by omega
                                                         exact c4 c.2.2.1))
            clear TT hz c1 c2 c3 c4 SK
            go_wp2_with fail
            go_roundw
            case rel => exact ⟨t + 1, by omega, by go_num, TS.out⟩
            case measure => simp [intOf]; omega
          have e4 : decide ((t : Int) < fd zs J 2) = true := decide_eq_true c4
          by_cases c5 : 0 < wl zs way k T t J
          case neg =>
            have e5 : decide (0 < wl zs way k T t J) = false := decide_eq_false c5
            have TS := Lib.hid (SK.out (fun i hi c => by obtain rfl : J = i := by omega
                                                         exact c5 c.2.2.2))
            clear TT hz c1 c2 c3 c4 c5 SK
            go_wp2_with fail
            go_roundw
            case rel => exact ⟨t + 1, by omega, by go_num, TS.out⟩
            case measure => simp [intOf]; omega
          have e5 : decide (0 < wl zs way k T t J) = true := decide_eq_true c5
          have TS : Hid (OneT w3 (wr.setCell ⟨w3.heap.size, J, none⟩ (.int .i64 (wl zs way k T t J - 1))) k w3.heap.size (wl zs way k T (t + 1))) := (TT.set hJk (wl zs way k T t J - 1)).congr (fun i hi => by
            rw [HW.out]
            by_cases hij : i = J
            · subst hij
              rw [if_pos rfl, if_pos ⟨hlt, hz, hi, c3, c4, c5⟩]
            · rw [if_neg hij, if_neg (fun c => hij (by have := c.2.1; omega))])
          have f1 : IntKind.i64.wrap (wl zs way k T t J - 1) = wl zs way k T t J - 1 := IntWalk.i64_in _ ⟨by omega, by omega⟩
          clear TT hz c1 c2 c3 c4 c5 SK hxb
          go_wp2_with fail
          go_roundw
          case rel => exact ⟨t + 1, by omega, by go_num, TS.out⟩
          case measure => simp [intOf]; omega
        · have htB : t = T := by omega
          subst htB
          have bF := Lib.hid (b3.out.trans (TT.bel.mono b3.out.size))
          have SF := Lib.hid ((S0.out.below TT.bel).more (B' := wr.heap.size) TT.bel.size)
          have SL := Lib.hid (Sl.of_own TT.l)
          clear TT
          by_cases hall : ∀ i, i < k → wl zs way k t t i = 0
          · have hv : Hid (false = true ↔ ∃ i, i < k ∧ 0 < gi (tab k (wl zs way k t t)) i) := ⟨fun h => (by cases h), fun ⟨i, hi, h⟩ => by rw [tab_get _ hi, hall i hi] at h; omega⟩
            have hi := Lib.hid (fun q hq => edf_best HO.out (way_fits HO.out hall) q hq)
            clear hall
            go_wp2_with fail
            refine (containsPos _ k _ _ _ _ SL.out (by omega) false hv.out).mono ?_
            rintro e _ ⟨rfl, rfl⟩
            go_wp2_with fail
            refine (elate_ok A k c zs _ SF.out HO.out k (Nat.le_refl _) hi.out (fun h => absurd h (Nat.lt_irrefl _)) 0 5 (if_neg (Nat.lt_irrefl _))).mono ?_
            rintro e w5 ⟨rfl, bb5⟩
            have b5 := belLit0 bF.out bb5
            clear bb5
            go_wp2_with fail
            go_ret
            exact ⟨rfl, b5⟩
          · have hv : ((0 : Nat) = 0 → ∃ i, i < k ∧ 0 < gi (tab k (wl zs way k t t)) i) := fun _ => by
              refine Classical.byContradiction fun hne => hall fun i hi => ?_
              have b := (wl_bd HO.out t t i hi (way := way)).1
              refine Classical.byContradiction fun h0 => hne ⟨i, hi, by rw [tab_get _ hi]; omega⟩
            have hvv := Lib.hid (hv rfl)
            clear hall hv
            go_wp2_with fail
            refine (containsPos _ k _ _ _ _ SL.out (by omega) true ⟨fun _ => hvv.out, fun _ => rfl⟩).mono ?_
            rintro e _ ⟨rfl, rfl⟩
            go_wp2_with fail
            go_ret
            exact ⟨rfl, bF.out⟩
end Go.Proofs.Ytigekbidbeilnaa
