/- edf.play, edf.Run. -/
import Derived.Test.YtigekbidbeilnaaEdfN
import Derived.Deep.RegionLaw
import Derived.Laws.MakeOwn
set_option linter.unusedVariables false
namespace Go.Proofs.Ytigekbidbeilnaa
open Go.RowKit
/-- What is left of each job at time t. -/
def elf (zs : List Int) (n : Nat) : Nat → Nat → Int
  | 0 => fun i => fd zs i 1
  | t + 1 => fun i => if pickJ zs (elf zs n t) t n = i then elf zs n t i - 1 else elf zs n t i
/-- Time t's job. -/
def epick (zs : List Int) (n t : Nat) : Int := pickJ zs (elf zs n t) t n
theorem elf_succ (zs : List Int) (n t i : Nat) : elf zs n (t + 1) i = if epick zs n t = i then elf zs n t i - 1 else elf zs n t i := rfl
/-- The time behind the last that has a job. -/
def ebusy (zs : List Int) (n : Nat) : Nat → Nat
  | 0 => 0
  | t + 1 => if epick zs n t < 0 then ebusy zs n t else t + 1
theorem ebusy_succ (zs : List Int) (n t : Nat) : ebusy zs n (t + 1) = if epick zs n t < 0 then ebusy zs n t else t + 1 := rfl
/-- When each job is done, as seen at t. -/
def edone (zs : List Int) (n : Nat) : Nat → Nat → Int
  | 0 => fun _ => 0
  | t + 1 => fun i => if epick zs n t = i ∧ elf zs n (t + 1) i = 0 then (t : Int) + 1 else edone zs n t i
theorem ebusy_le (zs : List Int) (n t : Nat) : ebusy zs n t ≤ t := by
  induction t with
  | zero => exact Nat.le_refl _
  | succ t ih => rw [ebusy_succ]; split <;> omega
theorem ints_made0 (n : Nat) : (madeCells (Value.int .i64 0).cells (n * 1)).toList = ints (tab n fun _ => 0) := by
  rw [show (Value.int .i64 0).cells = #[Value.int .i64 0] from rfl, toList_madeCells_one, Nat.mul_one]
  refine List.ext_getElem (by simp [ints, tab]) fun i h1 h2 => ?_
  simp [ints, tab]
theorem makeInts_any (n : Nat) (hn : n ≤ 1000000) (w : World) : (Instr.makeSlice 23 (.int .i64 (n : Int)) (.int .i64 (n : Int))).run Try.prog w = .ok (.slice (some ⟨w.heap.size, 0, none⟩) n n) (w.alloc (.cells (ints (tab n fun _ => 0)).toArray 3)) := by
  obtain ⟨ib, hib, hib0, hib1, hib2⟩ := elemInt.info
  have h := run_make (P := Try.prog) w 23 3 ib (.int .i64 0) elemInt.under hib hib0 .i64 .i64 n n (by omega) (Int.le_refl _) (by rw [hib2]; omega) (by omega)
  rw [hib1, Int.toNat_natCast] at h
  rw [h]
  have e : (madeCells (Value.int .i64 0).cells (n * 1)) = (ints (tab n fun _ => 0)).toArray := by
    rw [← ints_made0]
  rw [e]
theorem tab_takeE (n m : Nat) (f : Nat → Int) (h : m ≤ n) : (tab n f).take m = tab m f := by
  refine gi_ext (by rw [List.length_take, tab_len, tab_len]; omega) fun i hi => ?_
  rw [List.length_take, tab_len] at hi
  rw [gi_take (by omega), tab_get _ (by omega), tab_get _ (by omega)]
theorem own_keep {w w' : World} {base size n cap g D : Nat} {e : TypeId} {xs : List Value} (h : w.ownsRow base e size (.slice (some ⟨g, 0, none⟩) n cap) n xs) (hb : Below D w w') (hg : g < D) : w'.ownsRow base e size (.slice (some ⟨g, 0, none⟩) n cap) n xs := by
  refine ⟨h.1, ?_⟩
  rcases h.2 with ⟨h', _⟩ | ⟨g', cap', cur, h', h1, h2, h3⟩
  · simp at h'
  · refine .inr ⟨g', cap', cur, h', h1, ?_, h3⟩
    injection h' with h4
    injection h4 with h4
    injection h4 with h4
    subst h4
    exact (hb.block g hg).trans h2
theorem own_onE {w w' : World} {base : Nat} {e : TypeId} {size : Nat} {v : Value} {n : Nat} {xs : List Value} (h : w.ownsRow base e size v n xs) (hb : Below w.heap.size w w') : w'.ownsRow base e size v n xs :=
  h.kept ⟨hb.os, hb.tape, hb.output, hb.size, fun k hk _ => hb.block k hk⟩ (row := none) (by rcases v.ownBlock with _ | k; exact .inl rfl; exact .inr (by simp))
/-- Two tables that the call has made: the jobs' rests, and when they are done. -/
structure Two (W wr : World) (n gl gd : Nat) (u v : Nat → Int) : Prop where
  l : wr.ownsRow W.heap.size 3 1 (.slice (some ⟨gl, 0, none⟩) n n) n (ints (tab n u))
  d : wr.ownsRow W.heap.size 3 1 (.slice (some ⟨gd, 0, none⟩) n n) n (ints (tab n v))
  ne : gl ≠ gd
  bel : Below W.heap.size W wr
  lo : W.heap.size ≤ gl ∧ W.heap.size ≤ gd
  hi : gl < W.heap.size + 2 ∧ gd < W.heap.size + 2
  sz : W.heap.size + 2 ≤ wr.heap.size
theorem Two.on {W wr w' : World} {n gl gd : Nat} {u v : Nat → Int} (h : Two W wr n gl gd u v) (hb : Below (W.heap.size + 2) wr w') : Two W w' n gl gd u v :=
  ⟨own_keep h.l hb h.hi.1, own_keep h.d hb h.hi.2, h.ne, h.bel.trans (hb.mono (by omega)), h.lo, h.hi, Nat.le_trans h.sz hb.size⟩
theorem Two.congr {W wr : World} {n gl gd : Nat} {u v u' v' : Nat → Int} (h : Two W wr n gl gd u v) (hu : ∀ i, i < n → u i = u' i) (hv : ∀ i, i < n → v i = v' i) : Two W wr n gl gd u' v' :=
  ⟨by rw [← tab_congr hu]; exact h.l, by rw [← tab_congr hv]; exact h.d, h.ne, h.bel, h.lo, h.hi, h.sz⟩
theorem Two.setL {W wr : World} {n gl gd : Nat} {u v : Nat → Int} (h : Two W wr n gl gd u v) {i : Nat} (hi : i < n) (x : Int) : Two W (wr.setCell ⟨gl, i, none⟩ (.int .i64 x)) n gl gd (fun k => if k = i then x else u k) v := by
  refine ⟨?_, ?_, h.ne, h.bel.setCell (p := ⟨gl, i, none⟩) h.lo.1 _, h.lo, h.hi, by simpa using h.sz⟩
  · have := (h.l.stored i (.int .i64 x)).1
    rwa [ints_set, tab_set _ _ _ hi] at this
  · exact h.d.kept (h.l.stored i (.int .i64 x)).2 (by right; simp [Value.ownBlock]; exact fun h' => h.ne h'.symm)
theorem Two.setD {W wr : World} {n gl gd : Nat} {u v : Nat → Int} (h : Two W wr n gl gd u v) {i : Nat} (hi : i < n) (x : Int) : Two W (wr.setCell ⟨gd, i, none⟩ (.int .i64 x)) n gl gd u (fun k => if k = i then x else v k) := by
  refine ⟨?_, ?_, h.ne, h.bel.setCell (p := ⟨gd, i, none⟩) h.lo.2 _, h.lo, h.hi, by simpa using h.sz⟩
  · exact h.l.kept (h.d.stored i (.int .i64 x)).2 (by right; simp [Value.ownBlock]; exact h.ne)
  · have := (h.d.stored i (.int .i64 x)).1
    rwa [ints_set, tab_set _ _ _ hi] at this
theorem Two.cl {W wr : World} {n gl gd : Nat} {u v : Nat → Int} (h : Two W wr n gl gd u v) {k : Nat} (hk : k < n) : wr.cell? ⟨gl, k, none⟩ = some (.int .i64 (u k)) ∧ wr.frozen? ⟨gl, k, none⟩ = false := by
  have := h.l.cellAt k (by omega)
  rw [ints_get (by rw [tab_len]; exact hk), tab_get _ hk] at this
  exact ⟨this, h.l.frozenAt k⟩
theorem Two.cd {W wr : World} {n gl gd : Nat} {u v : Nat → Int} (h : Two W wr n gl gd u v) {k : Nat} (hk : k < n) : wr.cell? ⟨gd, k, none⟩ = some (.int .i64 (v k)) ∧ wr.frozen? ⟨gd, k, none⟩ = false := by
  have := h.d.cellAt k (by omega)
  rw [ints_get (by rw [tab_len]; exact hk), tab_get _ hk] at this
  exact ⟨this, h.d.frozenAt k⟩
def zeroObj (n : Nat) : Obj := .cells (ints (tab n fun _ => 0)).toArray 3
theorem two_made (W : World) (n : Nat) (hn : n ≤ 12) : Two W ((W.alloc (zeroObj n)).alloc (zeroObj n)).drew n W.heap.size (W.heap.size + 1) (fun _ => 0) (fun _ => 0) ∧ Two W ((W.alloc (zeroObj n)).alloc (zeroObj n)).drew n (W.heap.size + 1) W.heap.size (fun _ => 0) (fun _ => 0) := by
  have hl : (ints (tab n fun _ => 0)).toArray.size = n * 1 := by simp [ints, tab]
  have r1 : ((W.alloc (zeroObj n)).alloc (zeroObj n)).drew.ownsRow W.heap.size 3 1 (.slice (some ⟨W.heap.size, 0, none⟩) n n) n (ints (tab n fun _ => 0)) :=
    World.ownsRow.drew (World.ownsRow.alloc (World.ownsRow_lit W (ints (tab n fun _ => 0)).toArray n (Nat.le_refl _) (by unfold maxLen; omega) hl) _)
  have r2 : ((W.alloc (zeroObj n)).alloc (zeroObj n)).drew.ownsRow W.heap.size 3 1 (.slice (some ⟨W.heap.size + 1, 0, none⟩) n n) n (ints (tab n fun _ => 0)) := by
    have := World.ownsRow_lit (base := W.heap.size) (e := 3) (size := 1) (W.alloc (zeroObj n)) (ints (tab n fun _ => 0)).toArray n (by simp) (by unfold maxLen; omega) hl
    rw [show (W.alloc (zeroObj n)).heap.size = W.heap.size + 1 by simp] at this
    exact this.drew
  have bb : Below W.heap.size W ((W.alloc (zeroObj n)).alloc (zeroObj n)).drew := (((Below.refl _ _).alloc (Nat.le_refl _) _).alloc (by simp) _).drew
  have sz : W.heap.size + 2 ≤ ((W.alloc (zeroObj n)).alloc (zeroObj n)).drew.heap.size := by show _ ≤ ((W.alloc (zeroObj n)).alloc (zeroObj n)).heap.size; simp
  exact ⟨⟨r1, r2, by omega, bb, ⟨Nat.le_refl _, by omega⟩, ⟨by omega, by omega⟩, sz⟩, ⟨r2, r1, by omega, bb, ⟨by omega, Nat.le_refl _⟩, ⟨by omega, by omega⟩, sz⟩⟩
theorem elf_bd {zs : List Int} {n : Nat} (h : edfOk zs n) (t i : Nat) (hi : i < n) : 0 ≤ elf zs n t i ∧ elf zs n t i ≤ 200 := by
  induction t with
  | zero => have := h.2 i hi; unfold jobOk at this; show 0 ≤ fd zs i 1 ∧ fd zs i 1 ≤ 200; omega
  | succ t ih =>
    rw [elf_succ]
    split
    · rename_i hp
      rcases pickJ_cases zs (elf zs n t) t n with h' | ⟨j, j1, j2, _, j4⟩
      · rw [show epick zs n t = pickJ zs (elf zs n t) t n from rfl, h'] at hp; omega
      · rw [show epick zs n t = pickJ zs (elf zs n t) t n from rfl, j2] at hp
        obtain rfl : j = i := by omega
        omega
    · exact ih
set_option maxHeartbeats 12800000 in
theorem eplay_ok (A : Option Addr) (n c : Nat) (zs : List Int) (W : World) (hs : Sl W W.heap.size A (n * 3) (ints zs)) (h : edfOk zs n) :
    Calls Try.prog 30 #[.slice A n c] W fun e w' => ∃ A1 c1 A2 c2, e = .returned (.tuple #[.slice A1 (ebusy zs n 200) c1, .slice A2 n c2]) ∧
      Sl w' w'.heap.size A1 (ebusy zs n 200) (ints (tab (ebusy zs n 200) (epick zs n))) ∧ Sl w' w'.heap.size A2 n (ints (tab n (edone zs n 200))) ∧ Below W.heap.size W w' := by
  have H := Lib.hid h
  have h12 := h.1
  have hmk := makeInts_any n (by omega)
  have TM := Lib.hid (two_made W n h12)
  clear h
  go_enter Try.func30, Try.ntmps30
  go_wp2_with fail
  go_region_law (fail)
  all_goals go_simp
  · have T0 := TM.out.1
    unfold zeroObj at T0
    revert T0
    generalize ((W.alloc (.cells (ints (tab n fun _ => 0)).toArray 3)).alloc (.cells (ints (tab n fun _ => 0)).toArray 3)).drew = w0
    generalize W.heap.size + 1 = gd
    generalize W.heap.size = gl
    intro T0
    go_wp2_with fail
    go_loopw [20, 6, 7] (fun i _ _ wr => ∃ k : Nat, k ≤ n ∧ i = .int .i64 k ∧ Two W wr n gl gd (fun i => if i < k then fd zs i 1 else 0) (fun _ => 0)) (fun i _ _ _ => n - (intOf i).toNat)
    case atStart => exact ⟨0, Nat.zero_le _, rfl, T0.congr (fun i _ => by rw [if_neg (Nat.not_lt_zero i)]) (fun _ _ => rfl)⟩
    case round =>
      clear T0
      obtain ⟨k, hk, rfl, T⟩ := hrel
      by_cases hlt : k < n
      · obtain ⟨ba, oa, rfl, qa, -⟩ := hs.int_at (k := k * 3) (by omega)
        obtain ⟨a0, a1, a2⟩ := (hs.below T.bel).three hlt
        obtain ⟨oj, hoj⟩ : ∃ oj, Obj.cells #[.int .i64 (fd zs k 0), .int .i64 (fd zs k 1), .int .i64 (fd zs k 2)] 28 = oj := ⟨_, rfl⟩
        have TA := T.on ((Below.refl _ wr).alloc T.sz oj)
        obtain ⟨cc, cf⟩ := TA.cl hlt
        have TS := Lib.hid (TA.setL hlt (fd zs k 1))
        subst hoj
        have hn1 : (k : Int) < n := by omega
        have hk0 : (0 : Int) ≤ k := by omega
        have SS := Lib.hid hs
        clear T TA hs
        go_wp2_with fail
        go_roundw
        case rel =>
          refine ⟨k + 1, by omega, by go_num, TS.out.congr (fun i hi => ?_) (fun _ _ => rfl)⟩
          by_cases h1 : i = k
          · rw [if_pos h1, if_pos (show i < k + 1 by omega), h1]
          · rw [if_neg h1]
            by_cases h2 : i < k
            · rw [if_pos h2, if_pos (show i < k + 1 by omega)]
            · rw [if_neg h2, if_neg (show ¬ i < k + 1 by omega)]
        case measure => simp [intOf]; omega
      · have hkn : k = n := by omega
        subst hkn
        have T1 := Lib.hid (T.congr (u' := elf zs k 0) (v' := edone zs k 0) (fun i hi => by rw [if_pos hi]; rfl) (fun _ _ => rfl))
        have SS := Lib.hid hs
        clear T hs
        go_wp2_with fail
        go_loopw [31, 10, 11, 8, 9] (fun i _ _ o b wr => ∃ t : Nat, t ≤ 200 ∧ i = .int .i64 t ∧ b = .int .i64 (ebusy zs k t) ∧ wr.ownsRow (W.heap.size + 2) 3 1 o t (ints (tab t (epick zs k))) ∧ Two W wr k gl gd (elf zs k t) (edone zs k t)) (fun i _ _ _ _ _ => 200 - (intOf i).toNat)
        case atStart => exact ⟨0, Nat.zero_le _, rfl, rfl, World.ownsRow_nil _ _ _ _, T1.out⟩
        case round =>
          clear T1
          obtain ⟨t, ht, rfl, rfl, hown, T⟩ := hrel
          have OO := Lib.hid hown
          have TT := Lib.hid T
          by_cases hlt : t < 200
          · have hn1 : (t : Int) < 200 := by omega
            have hk0 : (0 : Int) ≤ t := by omega
            have hpc := pickJ_cases zs (elf zs k t) t k
            have hep : epick zs k t = pickJ zs (elf zs k t) t k := rfl
            rw [← hep] at hpc
            have HB := Lib.hid (ebusy_succ zs k t)
            have SJ := Lib.hid (((SS.out.below T.bel).more (B' := wr.heap.size) (by have := T.sz; omega)))
            have SLf : Hid (Sl wr wr.heap.size (some ⟨gl, 0, none⟩) k (ints (tab k (elf zs k t)))) := Lib.hid (Sl.of_own T.l)
            have hsz0 := Lib.hid T.sz
            clear hown T
            go_wp2_with fail
            refine (enext_ok A k c zs (some ⟨gl, 0, none⟩) k (elf zs k t) t _ SJ.out SLf.out h12).mono ?_
            rintro e w1 ⟨rfl, bb1⟩
            rw [← hep]
            have T2 := TT.out.on (bb1.mono hsz0.out)
            have O2 := own_onE OO.out bb1
            have hz1 : W.heap.size + 2 ≤ w1.heap.size := T2.sz
            have T2h := Lib.hid T2
            have O2h := Lib.hid O2
            clear bb1 hep T2 O2
            rcases hpc with hp | ⟨j, hj, hp, hja, hjl⟩
            · rw [hp]
              have HP := Lib.hid hp
              clear hp
              go_wp2_with (at_builtin; refine wpList_push rfl (.tmp 38) (.tmp 40) _ rfl elemInt (W.heap.size + 2) _ t _ _ rfl rfl O2h.out (Below.refl (W.heap.size + 2) w1) hz1 rfl (by omega) ?_; intro v1 w3 hown3 hb3 hz3)
              go_roundw
              case rel =>
                refine ⟨t + 1, by omega, by go_num, by rw [HB.out, if_pos (by rw [HP.out]; omega)], ?_, ?_⟩
                · rw [← HP.out, tab_push] at hown3; exact hown3
                · refine (T2h.out.on hb3).congr (fun i hi => ?_) (fun i hi => ?_)
                  · rw [elf_succ, if_neg (by rw [HP.out]; omega)]
                  · show _ = if epick zs k t = i ∧ _ then _ else _
                    rw [if_neg (fun h => by rw [HP.out] at h; omega)]
              case measure => simp [intOf]; omega
            · rw [hp]
              have HP := Lib.hid hp
              have hxb := elf_bd H.out t j hj
              have hd : ∀ i, edone zs k (t + 1) i = if epick zs k t = i ∧ elf zs k (t + 1) i = 0 then (t : Int) + 1 else edone zs k t i := fun i => rfl
              have HD := Lib.hid hd
              obtain ⟨x, hx⟩ : ∃ x, elf zs k t j = x := ⟨_, rfl⟩
              have HX := Lib.hid hx
              rw [hx] at hxb hjl
              have f1 : IntKind.i64.wrap (x - 1) = x - 1 := IntWalk.i64_in _ ⟨by omega, by omega⟩
              have f2 : IntKind.i64.wrap ((t : Int) + 1) = (t : Int) + 1 := IntWalk.i64_in _ ⟨by omega, by omega⟩
              have hj0 : (0 : Int) ≤ j := by omega
              have hj1 : (j : Int) < k := by omega
              have dj : decide ((j : Int) < 0) = false := decide_eq_false (by omega)
              clear hp hd hx hxb hjl
              by_cases hx1 : x = 1
              · have e0 : (x - 1 == 0) = true := by rw [hx1]; rfl
                have HX1 := Lib.hid hx1
                clear hx1
                go_wp2_with (
                  at_builtin
                  refine wpList_push rfl (.tmp 38) (.tmp 40) _ rfl elemInt (W.heap.size + 2) _ t _ _ rfl rfl O2h.out (Below.refl (W.heap.size + 2) w1) hz1 rfl (by omega) ?_
                  intro v1 w3 hown3 hb3 hz3
                  have T3 := T2h.out.on hb3
                  have T4 := T3.setL hj (x - 1)
                  have T5 := Lib.hid (T4.setD hj ((t : Int) + 1))
                  have O5 := Lib.hid (ownsRow_setCell_below (ownsRow_setCell_below hown3 (a := ⟨gl, j, none⟩) T3.hi.1 (.int .i64 (x - 1))) (a := ⟨gd, j, none⟩) T3.hi.2 (.int .i64 ((t : Int) + 1)))
                  obtain ⟨m1, m2⟩ := T3.cl hj
                  obtain ⟨m3, m4⟩ := T4.cl hj
                  obtain ⟨m5, m6⟩ := T4.cd hj
                  rw [HX.out] at m1
                  simp only [if_true] at m3
                  clear T3 T4 hown3 hb3)
                go_roundw
                case rel =>
                  refine ⟨t + 1, by omega, by go_num, by rw [HB.out, if_neg (by rw [HP.out]; omega)]; simp, ?_, ?_⟩
                  · have := O5.out; rw [← HP.out, tab_push] at this; exact this
                  · refine T5.out.congr (fun i hi => ?_) (fun i hi => ?_)
                    · rw [elf_succ, HP.out]
                      by_cases hij : i = j
                      · subst hij; rw [if_pos rfl, if_pos rfl, HX.out]
                      · rw [if_neg hij, if_neg (by omega)]
                    · rw [HD.out, elf_succ, HP.out]
                      by_cases hij : i = j
                      · subst hij; rw [if_pos rfl, if_pos ⟨rfl, by rw [if_pos rfl, HX.out, HX1.out]; rfl⟩]
                      · rw [if_neg hij, if_neg (fun h => hij (by have := h.1; omega))]
                case measure => simp [intOf]; omega
              · have e0 : (x - 1 == 0) = false := by simp; omega
                have HX1 := Lib.hid hx1
                clear hx1
                go_wp2_with (
                  at_builtin
                  refine wpList_push rfl (.tmp 38) (.tmp 40) _ rfl elemInt (W.heap.size + 2) _ t _ _ rfl rfl O2h.out (Below.refl (W.heap.size + 2) w1) hz1 rfl (by omega) ?_
                  intro v1 w3 hown3 hb3 hz3
                  have T3 := T2h.out.on hb3
                  have T4 := T3.setL hj (x - 1)
                  have T5 := Lib.hid T4
                  have O5 := Lib.hid (ownsRow_setCell_below hown3 (a := ⟨gl, j, none⟩) T3.hi.1 (.int .i64 (x - 1)))
                  obtain ⟨m1, m2⟩ := T3.cl hj
                  obtain ⟨m3, m4⟩ := T4.cl hj
                  rw [HX.out] at m1
                  simp only [if_true] at m3
                  clear T3 T4 hown3 hb3)
                go_roundw
                case rel =>
                  refine ⟨t + 1, by omega, by go_num, by rw [HB.out, if_neg (by rw [HP.out]; omega)]; simp, ?_, ?_⟩
                  · have := O5.out; rw [← HP.out, tab_push] at this; exact this
                  · refine T5.out.congr (fun i hi => ?_) (fun i hi => ?_)
                    · rw [elf_succ, HP.out]
                      by_cases hij : i = j
                      · subst hij; rw [if_pos rfl, if_pos rfl, HX.out]
                      · rw [if_neg hij, if_neg (by omega)]
                    · rw [HD.out, elf_succ, HP.out, if_neg (fun h => ?_)]
                      have h1 := h.1
                      obtain rfl : j = i := by omega
                      have h2 := h.2
                      rw [if_pos rfl, HX.out] at h2
                      exact HX1.out (by omega)
                case measure => simp [intOf]; omega
          · have htt : t = 200 := by omega
            subst htt
            have hbl := ebusy_le zs k 200
            have e1 : ((ebusy zs k 200 : Nat) : Int) ≤ 200 := by omega
            obtain ⟨Ao, co, rfl, hco⟩ := own_form hown
            have SO := Sl.of_own hown
            have SO2 := Lib.hid (SO.take hbl)
            have SD := Lib.hid (Sl.of_own T.d)
            have BT := Lib.hid T.bel
            obtain ⟨B, hB⟩ : ∃ B, ebusy zs k 200 = B := ⟨_, rfl⟩
            rw [hB] at e1 hbl SO2 ⊢
            have e2 : (B : Int) ≤ co := by omega
            have e3 : (0 : Int) ≤ B := by omega
            have hBH := Lib.hid hB
            clear hown T SO hB OO TT
            go_wp2_with fail
            go_ret2
            rw [hBH.out]
            refine ⟨_, _, _, _, rfl, ?_, SD.out, BT.out⟩
            have := SO2.out
            rw [ints_take, tab_takeE _ _ _ hbl] at this
            exact this
  · have T0 := TM.out.2
    unfold zeroObj at T0
    revert T0
    generalize ((W.alloc (.cells (ints (tab n fun _ => 0)).toArray 3)).alloc (.cells (ints (tab n fun _ => 0)).toArray 3)).drew = w0
    generalize W.heap.size + 1 = gl
    generalize W.heap.size = gd
    intro T0
    go_wp2_with fail
    go_loopw [20, 6, 7] (fun i _ _ wr => ∃ k : Nat, k ≤ n ∧ i = .int .i64 k ∧ Two W wr n gl gd (fun i => if i < k then fd zs i 1 else 0) (fun _ => 0)) (fun i _ _ _ => n - (intOf i).toNat)
    case atStart => exact ⟨0, Nat.zero_le _, rfl, T0.congr (fun i _ => by rw [if_neg (Nat.not_lt_zero i)]) (fun _ _ => rfl)⟩
    case round =>
      clear T0
      obtain ⟨k, hk, rfl, T⟩ := hrel
      by_cases hlt : k < n
      · obtain ⟨ba, oa, rfl, qa, -⟩ := hs.int_at (k := k * 3) (by omega)
        obtain ⟨a0, a1, a2⟩ := (hs.below T.bel).three hlt
        obtain ⟨oj, hoj⟩ : ∃ oj, Obj.cells #[.int .i64 (fd zs k 0), .int .i64 (fd zs k 1), .int .i64 (fd zs k 2)] 28 = oj := ⟨_, rfl⟩
        have TA := T.on ((Below.refl _ wr).alloc T.sz oj)
        obtain ⟨cc, cf⟩ := TA.cl hlt
        have TS := Lib.hid (TA.setL hlt (fd zs k 1))
        subst hoj
        have hn1 : (k : Int) < n := by omega
        have hk0 : (0 : Int) ≤ k := by omega
        have SS := Lib.hid hs
        clear T TA hs
        go_wp2_with fail
        go_roundw
        case rel =>
          refine ⟨k + 1, by omega, by go_num, TS.out.congr (fun i hi => ?_) (fun _ _ => rfl)⟩
          by_cases h1 : i = k
          · rw [if_pos h1, if_pos (show i < k + 1 by omega), h1]
          · rw [if_neg h1]
            by_cases h2 : i < k
            · rw [if_pos h2, if_pos (show i < k + 1 by omega)]
            · rw [if_neg h2, if_neg (show ¬ i < k + 1 by omega)]
        case measure => simp [intOf]; omega
      · have hkn : k = n := by omega
        subst hkn
        have T1 := Lib.hid (T.congr (u' := elf zs k 0) (v' := edone zs k 0) (fun i hi => by rw [if_pos hi]; rfl) (fun _ _ => rfl))
        have SS := Lib.hid hs
        clear T hs
        go_wp2_with fail
        go_loopw [31, 10, 11, 8, 9] (fun i _ _ o b wr => ∃ t : Nat, t ≤ 200 ∧ i = .int .i64 t ∧ b = .int .i64 (ebusy zs k t) ∧ wr.ownsRow (W.heap.size + 2) 3 1 o t (ints (tab t (epick zs k))) ∧ Two W wr k gl gd (elf zs k t) (edone zs k t)) (fun i _ _ _ _ _ => 200 - (intOf i).toNat)
        case atStart => exact ⟨0, Nat.zero_le _, rfl, rfl, World.ownsRow_nil _ _ _ _, T1.out⟩
        case round =>
          clear T1
          obtain ⟨t, ht, rfl, rfl, hown, T⟩ := hrel
          have OO := Lib.hid hown
          have TT := Lib.hid T
          by_cases hlt : t < 200
          · have hn1 : (t : Int) < 200 := by omega
            have hk0 : (0 : Int) ≤ t := by omega
            have hpc := pickJ_cases zs (elf zs k t) t k
            have hep : epick zs k t = pickJ zs (elf zs k t) t k := rfl
            rw [← hep] at hpc
            have HB := Lib.hid (ebusy_succ zs k t)
            have SJ := Lib.hid (((SS.out.below T.bel).more (B' := wr.heap.size) (by have := T.sz; omega)))
            have SLf : Hid (Sl wr wr.heap.size (some ⟨gl, 0, none⟩) k (ints (tab k (elf zs k t)))) := Lib.hid (Sl.of_own T.l)
            have hsz0 := Lib.hid T.sz
            clear hown T
            go_wp2_with fail
            refine (enext_ok A k c zs (some ⟨gl, 0, none⟩) k (elf zs k t) t _ SJ.out SLf.out h12).mono ?_
            rintro e w1 ⟨rfl, bb1⟩
            rw [← hep]
            have T2 := TT.out.on (bb1.mono hsz0.out)
            have O2 := own_onE OO.out bb1
            have hz1 : W.heap.size + 2 ≤ w1.heap.size := T2.sz
            have T2h := Lib.hid T2
            have O2h := Lib.hid O2
            clear bb1 hep T2 O2
            rcases hpc with hp | ⟨j, hj, hp, hja, hjl⟩
            · rw [hp]
              have HP := Lib.hid hp
              clear hp
              go_wp2_with (at_builtin; refine wpList_push rfl (.tmp 38) (.tmp 40) _ rfl elemInt (W.heap.size + 2) _ t _ _ rfl rfl O2h.out (Below.refl (W.heap.size + 2) w1) hz1 rfl (by omega) ?_; intro v1 w3 hown3 hb3 hz3)
              go_roundw
              case rel =>
                refine ⟨t + 1, by omega, by go_num, by rw [HB.out, if_pos (by rw [HP.out]; omega)], ?_, ?_⟩
                · rw [← HP.out, tab_push] at hown3; exact hown3
                · refine (T2h.out.on hb3).congr (fun i hi => ?_) (fun i hi => ?_)
                  · rw [elf_succ, if_neg (by rw [HP.out]; omega)]
                  · show _ = if epick zs k t = i ∧ _ then _ else _
                    rw [if_neg (fun h => by rw [HP.out] at h; omega)]
              case measure => simp [intOf]; omega
            · rw [hp]
              have HP := Lib.hid hp
              have hxb := elf_bd H.out t j hj
              have hd : ∀ i, edone zs k (t + 1) i = if epick zs k t = i ∧ elf zs k (t + 1) i = 0 then (t : Int) + 1 else edone zs k t i := fun i => rfl
              have HD := Lib.hid hd
              obtain ⟨x, hx⟩ : ∃ x, elf zs k t j = x := ⟨_, rfl⟩
              have HX := Lib.hid hx
              rw [hx] at hxb hjl
              have f1 : IntKind.i64.wrap (x - 1) = x - 1 := IntWalk.i64_in _ ⟨by omega, by omega⟩
              have f2 : IntKind.i64.wrap ((t : Int) + 1) = (t : Int) + 1 := IntWalk.i64_in _ ⟨by omega, by omega⟩
              have hj0 : (0 : Int) ≤ j := by omega
              have hj1 : (j : Int) < k := by omega
              have dj : decide ((j : Int) < 0) = false := decide_eq_false (by omega)
              clear hp hd hx hxb hjl
              by_cases hx1 : x = 1
              · have e0 : (x - 1 == 0) = true := by rw [hx1]; rfl
                have HX1 := Lib.hid hx1
                clear hx1
                go_wp2_with (
                  at_builtin
                  refine wpList_push rfl (.tmp 38) (.tmp 40) _ rfl elemInt (W.heap.size + 2) _ t _ _ rfl rfl O2h.out (Below.refl (W.heap.size + 2) w1) hz1 rfl (by omega) ?_
                  intro v1 w3 hown3 hb3 hz3
                  have T3 := T2h.out.on hb3
                  have T4 := T3.setL hj (x - 1)
                  have T5 := Lib.hid (T4.setD hj ((t : Int) + 1))
                  have O5 := Lib.hid (ownsRow_setCell_below (ownsRow_setCell_below hown3 (a := ⟨gl, j, none⟩) T3.hi.1 (.int .i64 (x - 1))) (a := ⟨gd, j, none⟩) T3.hi.2 (.int .i64 ((t : Int) + 1)))
                  obtain ⟨m1, m2⟩ := T3.cl hj
                  obtain ⟨m3, m4⟩ := T4.cl hj
                  obtain ⟨m5, m6⟩ := T4.cd hj
                  rw [HX.out] at m1
                  simp only [if_true] at m3
                  clear T3 T4 hown3 hb3)
                go_roundw
                case rel =>
                  refine ⟨t + 1, by omega, by go_num, by rw [HB.out, if_neg (by rw [HP.out]; omega)]; simp, ?_, ?_⟩
                  · have := O5.out; rw [← HP.out, tab_push] at this; exact this
                  · refine T5.out.congr (fun i hi => ?_) (fun i hi => ?_)
                    · rw [elf_succ, HP.out]
                      by_cases hij : i = j
                      · subst hij; rw [if_pos rfl, if_pos rfl, HX.out]
                      · rw [if_neg hij, if_neg (by omega)]
                    · rw [HD.out, elf_succ, HP.out]
                      by_cases hij : i = j
                      · subst hij; rw [if_pos rfl, if_pos ⟨rfl, by rw [if_pos rfl, HX.out, HX1.out]; rfl⟩]
                      · rw [if_neg hij, if_neg (fun h => hij (by have := h.1; omega))]
                case measure => simp [intOf]; omega
              · have e0 : (x - 1 == 0) = false := by simp; omega
                have HX1 := Lib.hid hx1
                clear hx1
                go_wp2_with (
                  at_builtin
                  refine wpList_push rfl (.tmp 38) (.tmp 40) _ rfl elemInt (W.heap.size + 2) _ t _ _ rfl rfl O2h.out (Below.refl (W.heap.size + 2) w1) hz1 rfl (by omega) ?_
                  intro v1 w3 hown3 hb3 hz3
                  have T3 := T2h.out.on hb3
                  have T4 := T3.setL hj (x - 1)
                  have T5 := Lib.hid T4
                  have O5 := Lib.hid (ownsRow_setCell_below hown3 (a := ⟨gl, j, none⟩) T3.hi.1 (.int .i64 (x - 1)))
                  obtain ⟨m1, m2⟩ := T3.cl hj
                  obtain ⟨m3, m4⟩ := T4.cl hj
                  rw [HX.out] at m1
                  simp only [if_true] at m3
                  clear T3 T4 hown3 hb3)
                go_roundw
                case rel =>
                  refine ⟨t + 1, by omega, by go_num, by rw [HB.out, if_neg (by rw [HP.out]; omega)]; simp, ?_, ?_⟩
                  · have := O5.out; rw [← HP.out, tab_push] at this; exact this
                  · refine T5.out.congr (fun i hi => ?_) (fun i hi => ?_)
                    · rw [elf_succ, HP.out]
                      by_cases hij : i = j
                      · subst hij; rw [if_pos rfl, if_pos rfl, HX.out]
                      · rw [if_neg hij, if_neg (by omega)]
                    · rw [HD.out, elf_succ, HP.out, if_neg (fun h => ?_)]
                      have h1 := h.1
                      obtain rfl : j = i := by omega
                      have h2 := h.2
                      rw [if_pos rfl, HX.out] at h2
                      exact HX1.out (by omega)
                case measure => simp [intOf]; omega
          · have htt : t = 200 := by omega
            subst htt
            have hbl := ebusy_le zs k 200
            have e1 : ((ebusy zs k 200 : Nat) : Int) ≤ 200 := by omega
            obtain ⟨Ao, co, rfl, hco⟩ := own_form hown
            have SO := Sl.of_own hown
            have SO2 := Lib.hid (SO.take hbl)
            have SD := Lib.hid (Sl.of_own T.d)
            have BT := Lib.hid T.bel
            obtain ⟨B, hB⟩ : ∃ B, ebusy zs k 200 = B := ⟨_, rfl⟩
            rw [hB] at e1 hbl SO2 ⊢
            have e2 : (B : Int) ≤ co := by omega
            have e3 : (0 : Int) ≤ B := by omega
            have hBH := Lib.hid hB
            clear hown T SO hB OO TT
            go_wp2_with fail
            go_ret2
            rw [hBH.out]
            refine ⟨_, _, _, _, rfl, ?_, SD.out, BT.out⟩
            have := SO2.out
            rw [ints_take, tab_takeE _ _ _ hbl] at this
            exact this
end Go.Proofs.Ytigekbidbeilnaa
