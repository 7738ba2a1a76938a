/- bucket.Run. -/
import Derived.Test.YtpifknmoimlpoaaPackA
import Derived.Test.YtpifknmoimlpoaaBucketA
set_option linter.unusedVariables false
namespace Go.Proofs.Ytpifknmoimlpoaa
open Go.RowKit
/-- When the packet ahead of k came. -/
def bprev (zs : List Int) : Nat → Int
  | 0 => 0
  | k + 1 => fd zs k 0
/-- What is in the bucket behind packet k - 1. -/
def bfill (R B F : Int) (zs : List Int) : Nat → Int
  | 0 => F
  | k + 1 => if tickF R B (bfill R B F zs k) (fd zs k 0 - bprev zs k) < fd zs k 1 then tickF R B (bfill R B F zs k) (fd zs k 0 - bprev zs k) else tickF R B (bfill R B F zs k) (fd zs k 0 - bprev zs k) - fd zs k 1
/-- What is in the bucket as packet k comes. -/
def btf (R B F : Int) (zs : List Int) (k : Nat) : Int := tickF R B (bfill R B F zs k) (fd zs k 0 - bprev zs k)
theorem bfill_succ (R B F : Int) (zs : List Int) (k : Nat) : bfill R B F zs (k + 1) = if btf R B F zs k < fd zs k 1 then btf R B F zs k else btf R B F zs k - fd zs k 1 := rfl
def bpass (R B F : Int) (zs : List Int) (k : Nat) : Bool := decide (fd zs k 1 ≤ btf R B F zs k)
def btab (n : Nat) (f : Nat → Bool) : List Bool := (List.range n).map f
theorem btab_len (n : Nat) (f : Nat → Bool) : (btab n f).length = n := by simp [btab]
theorem btab_get {n : Nat} (f : Nat → Bool) {i : Nat} (h : i < n) : gb (btab n f) i = f i := by simp [btab, gb, h]
theorem btab_push (n : Nat) (f : Nat → Bool) : bools (btab n f) ++ [.bool (f n)] = bools (btab (n + 1) f) := by simp [btab, List.range_succ, bools]
theorem bdt {zs : List Int} {n : Nat} (h : Packs zs n) (k : Nat) (hk : k < n) : 0 ≤ fd zs k 0 - bprev zs k ∧ fd zs k 0 - bprev zs k ≤ 200 := by
  have a := h.at0 k hk
  rcases k with _ | k
  · have : bprev zs 0 = 0 := rfl
    omega
  · have e : bprev zs (k + 1) = fd zs k 0 := rfl
    have b := h.at0 k (by omega)
    have c := h.up k hk
    omega
theorem bfill_bd {R B F : Int} {zs : List Int} {n : Nat} (h : Packs zs n) (hb : bktOk R B F) (k : Nat) (hk : k ≤ n) : bktOk R B (bfill R B F zs k) := by
  induction k with
  | zero => exact hb
  | succ k ih =>
    have a := tickF_bd (ih (by omega)) (bdt h k (by omega)).1
    have s := h.sz k (by omega)
    rw [bfill_succ]
    unfold btf
    unfold bktOk at a ⊢
    split <;> omega
theorem btf_bd {R B F : Int} {zs : List Int} {n : Nat} (h : Packs zs n) (hb : bktOk R B F) (k : Nat) (hk : k < n) : bktOk R B (btf R B F zs k) := tickF_bd (bfill_bd h hb k (by omega)) (bdt h k hk).1
/-- The answer: a slice of bools, and an error. -/
def RetBl (W : World) (n : Nat) (zs : List Bool) (er : Int) (e : Ending) (w' : World) : Prop :=
  ∃ A c, e = .returned (.tuple #[.slice A n c, .int .i64 er]) ∧ Sl w' w'.heap.size A n (bools zs) ∧ n ≤ c ∧ Below W.heap.size W w'
/-- The same, and the slice is the call's own. -/
def RetBo (W : World) (n : Nat) (zs : List Bool) (er : Int) (e : Ending) (w' : World) : Prop :=
  ∃ A c, e = .returned (.tuple #[.slice A n c, .int .i64 er]) ∧ Sl w' w'.heap.size A n (bools zs) ∧ n ≤ c ∧ Below W.heap.size W w' ∧ w'.ownsRow W.heap.size 4 1 (.slice A n c) n (bools zs)
theorem RetBo.to {W : World} {n : Nat} {zs : List Bool} {er : Int} {e : Ending} {w' : World} (h : RetBo W n zs er e w') : RetBl W n zs er e w' := by
  obtain ⟨A, c, h1, h2, h3, h4, _⟩ := h
  exact ⟨A, c, h1, h2, h3, h4⟩
/-- A box of three numbers at block g. -/
structure BBox (w : World) (g : Nat) (R B F : Int) : Prop where
  c0 : w.cell? ⟨g, 0, none⟩ = some (.int .i64 R)
  c1 : w.cell? ⟨g, 1, none⟩ = some (.int .i64 B)
  c2 : w.cell? ⟨g, 2, none⟩ = some (.int .i64 F)
  f : ∀ q, w.frozen? ⟨g, q, none⟩ = false
theorem BBox.on {w w' : World} {g D : Nat} {R B F : Int} (h : BBox w g R B F) (hb : Below D w w') (hg : g < D) : BBox w' g R B F :=
  ⟨(hb.cell (p := ⟨g, 0, none⟩) hg).trans h.c0, (hb.cell (p := ⟨g, 1, none⟩) hg).trans h.c1, (hb.cell (p := ⟨g, 2, none⟩) hg).trans h.c2, fun q => (hb.frozen (p := ⟨g, q, none⟩) hg).trans (h.f q)⟩
def bput (w : World) (g : Nat) (R B F : Int) : World := ((w.setCell ⟨g, 0, none⟩ (.int .i64 R)).setCell ⟨g, 1, none⟩ (.int .i64 B)).setCell ⟨g, 2, none⟩ (.int .i64 F)
theorem BBox.put {w : World} {g : Nat} {R B F : Int} (h : BBox w g R B F) (R' B' F' : Int) : BBox (bput w g R' B' F') g R' B' F' := by
  have e0 : (w.setCell ⟨g, 0, none⟩ (.int .i64 R')).cell? ⟨g, 0, none⟩ = some (.int .i64 R') := World.cell?_setCell_same w _ _ h.c0
  have e1 : (w.setCell ⟨g, 0, none⟩ (.int .i64 R')).cell? ⟨g, 1, none⟩ = some (.int .i64 B) := by rw [World.cell?_setCell_other _ _ _ _ (by simp)]; exact h.c1
  have e2 : (w.setCell ⟨g, 0, none⟩ (.int .i64 R')).cell? ⟨g, 2, none⟩ = some (.int .i64 F) := by rw [World.cell?_setCell_other _ _ _ _ (by simp)]; exact h.c2
  refine ⟨?_, ?_, ?_, fun q => ?_⟩
  · unfold bput
    rw [World.cell?_setCell_other _ _ _ _ (by simp), World.cell?_setCell_other _ _ _ _ (by simp)]
    exact e0
  · unfold bput
    rw [World.cell?_setCell_other _ _ _ _ (by simp)]
    exact World.cell?_setCell_same _ _ _ e1
  · unfold bput
    exact World.cell?_setCell_same _ _ _ (u := .int .i64 F) (by rw [World.cell?_setCell_other _ _ _ _ (by simp)]; exact e2)
  · unfold bput
    simp [go_sem, h.f q]
theorem bput_size (w : World) (g : Nat) (R B F : Int) : (bput w g R B F).heap.size = w.heap.size := by simp [bput]
theorem bput_cell (w : World) {g b : Nat} (R B F : Int) (o : Nat) (h : b ≠ g) : (bput w g R B F).cell? ⟨b, o, none⟩ = w.cell? ⟨b, o, none⟩ := by
  unfold bput
  rw [World.cell?_setCell_other _ _ _ _ (by simp [h]), World.cell?_setCell_other _ _ _ _ (by simp [h]), World.cell?_setCell_other _ _ _ _ (by simp [h])]
theorem bput_below {W w : World} {g D : Nat} (R B F : Int) (h : Below D W w) (hg : D ≤ g) : Below D W (bput w g R B F) := ((h.setCell hg _).setCell hg _).setCell hg _
theorem bput_own {w : World} {g base : Nat} {e : TypeId} {size : Nat} {v : Value} {n : Nat} {xs : List Value} (R B F : Int) (h : w.ownsRow base e size v n xs) (hg : g < base) : (bput w g R B F).ownsRow base e size v n xs :=
  ownsRow_setCell_below (ownsRow_setCell_below (ownsRow_setCell_below h hg _) hg _) hg _
theorem own_on {w w' : World} {base : Nat} {e : TypeId} {size : Nat} {v : Value} {n : Nat} {xs : List Value} (h : w.ownsRow base e size v n xs) (hb : Below w.heap.size w w') : w'.ownsRow base e size v n xs :=
  h.kept ⟨hb.os, hb.tape, hb.output, hb.size, fun k hk _ => hb.block k hk⟩ (row := none) (by rcases v.ownBlock with _ | k; exact .inl rfl; exact .inr (by simp))
theorem own_lowB {w : World} {base n size : Nat} {e : TypeId} {v : Value} {xs : List Value} (h : w.ownsRow (base + 1) e size v n xs) : w.ownsRow base e size v n xs := by
  refine ⟨h.1, ?_⟩
  rcases h.2 with h | ⟨b, cap, cur, h1, h2, h3⟩
  · exact .inl h
  · exact .inr ⟨b, cap, cur, h1, by omega, h3⟩
set_option maxHeartbeats 3200000 in
theorem brun_oko (R B F : Int) (A : Option Addr) (n c : Nat) (zs : List Int) (W : World) (hs : Sl W W.heap.size A (n * 3) (ints zs)) (hnn : n ≤ 9223372036854775807) (hb : bktOk R B F) (h0 : packErr zs n = 0) :
    Calls Try.prog 31 #[.agg #[.int .i64 R, .int .i64 B, .int .i64 F], .slice A n c] W (RetBo W n (btab n (bpass R B F zs)) 0) := by
  have P := Lib.hid (packs_of h0)
  have H0 := Lib.hid h0
  have HB0 := Lib.hid hb
  have ht := P.out.top
  have S := Lib.hid hs
  clear h0 hb
  go_enter Try.func31, Try.ntmps31
  go_wp2_with fail
  refine (bcheck_ok R B F _ HB0.out).mono ?_
  rintro e w1 ⟨rfl, b1⟩
  have B1 := Lib.hid (((Below.refl W.heap.size W).alloc (Nat.le_refl _) _).trans (b1.mono (by simp)))
  have S1 := Lib.hid ((hs.below B1.out).more (B := W.heap.size) (B' := w1.heap.size) B1.out.size)
  have z1 : W.heap.size + 1 ≤ w1.heap.size := by have := b1.size; simpa using this
  have X1 : Hid (BBox w1 W.heap.size R B F) := BBox.on (D := W.heap.size + 1) (w := W.alloc (.cells #[.int .i64 R, .int .i64 B, .int .i64 F] 55)) ⟨World.cell?_alloc_at _ _ _ _ rfl, World.cell?_alloc_at _ _ _ _ rfl, World.cell?_alloc_at _ _ _ _ rfl, fun q => by simp [go_sem]⟩ (b1.mono (by simp)) (by omega)
  clear hs b1
  go_wp2_with fail
  refine (packets_any A n c zs _ S1.out hnn).mono ?_
  rintro e w2 ⟨rfl, b2⟩
  rw [H0.out]
  have z2 : W.heap.size + 1 ≤ w2.heap.size := by have := b2.size; omega
  have X2 := Lib.hid (X1.out.on b2 (show W.heap.size < w1.heap.size by omega))
  have B2 := Lib.hid (B1.out.trans (b2.mono (by omega)))
  clear b2
  go_wp2_with fail
  go_loopw [26, 11, 8, 9, 12, 13] (fun i _ o nw _ _ wr => ∃ k : Nat, k ≤ n ∧ i = .int .i64 k ∧ nw = .int .i64 (bprev zs k) ∧ wr.ownsRow (W.heap.size + 1) 4 1 o k (bools (btab k (bpass R B F zs))) ∧ BBox wr W.heap.size R B (bfill R B F zs k) ∧ Below W.heap.size W wr ∧ W.heap.size + 1 ≤ wr.heap.size) (fun i _ _ _ _ _ _ => n - (intOf i).toNat)
  case atStart => exact ⟨0, Nat.zero_le _, rfl, rfl, World.ownsRow_nil _ _ _ _, X2.out, B2.out, z2⟩
  case round =>
    obtain ⟨k, hk, rfl, rfl, hown, hx, hb, hz⟩ := hrel
    have hk0 : (0 : Int) ≤ k := by omega
    by_cases hlt : k < n
    · obtain ⟨b, off, hA, hbl, -⟩ := S.out.int_at (k := k * 3) (by omega)
      subst hA
      obtain ⟨c0, c1, c2⟩ := (S.out.below hb).three hlt
      have dt := bdt P.out k hlt
      have p1 := P.out.sz k hlt
      have p0 := P.out.at0 k hlt
      have bf := Lib.hid (bfill_bd P.out HB0.out k hk)
      have bt := Lib.hid (btf_bd P.out HB0.out k hlt)
      have hn1 : (k : Int) < n := by omega
      have T := Lib.hid (show tickF R B (bfill R B F zs k) (fd zs k 0 - bprev zs k) = btf R B F zs k from rfl)
      have FS := Lib.hid (bfill_succ R B F zs k)
      have PS := Lib.hid (show bpass R B F zs k = decide (fd zs k 1 ≤ btf R B F zs k) from rfl)
      have pv : Hid (bprev zs (k + 1) = fd zs k 0) := Lib.hid rfl
      have f1 : IntKind.i64.wrap (fd zs k 0 - bprev zs k) = fd zs k 0 - bprev zs k := IntWalk.i64_in _ ⟨by omega, by omega⟩
      have TK : Hid (∀ w : World, Calls Try.prog 92 #[.agg #[.int .i64 R, .int .i64 B, .int .i64 (bfill R B F zs k)], .int .i64 (fd zs k 0 - bprev zs k)] w fun e w' => e = .returned (.tuple #[.agg #[.int .i64 R, .int .i64 B, .int .i64 (btf R B F zs k)], .int .i64 0]) ∧ Below w.heap.size w w') := Lib.hid fun w => tick_ok R B _ _ w bf.out dt.1 dt.2
      obtain ⟨oa, hoa⟩ : ∃ oa, Obj.cells #[.int .i64 (fd zs k 0), .int .i64 (fd zs k 1), .int .i64 (fd zs k 2)] 59 = oa := ⟨_, rfl⟩
      have ba : Below wr.heap.size wr (wr.alloc oa) := (Below.refl _ _).alloc (Nat.le_refl _) _
      have hxa := hx.on ba (show W.heap.size < wr.heap.size by omega)
      have OA := Lib.hid (hown.alloc oa)
      have BA := Lib.hid (hb.alloc (by omega) oa)
      have XA := Lib.hid hxa
      have za : (wr.alloc oa).heap.size = wr.heap.size + 1 := by simp
      subst hoa
      obtain ⟨d0, d1, d2, df⟩ := hxa
      generalize bfill R B F zs k = Fk at *
      generalize btf R B F zs k = Tk at *
      generalize bprev zs k = pk at *
      clear hx hown hb ba
      go_wp2_with fail
      refine (TK.out _).mono ?_
      rintro e w3 ⟨rfl, b3⟩
      have X3 := XA.out.on b3 (show W.heap.size < (wr.alloc (.cells #[.int .i64 (fd zs k 0), .int .i64 (fd zs k 1), .int .i64 (fd zs k 2)] 59)).heap.size by omega)
      have O3 := own_on OA.out b3
      have B3 := BA.out.trans (b3.mono (by omega))
      have z3 : wr.heap.size + 1 ≤ w3.heap.size := by have := b3.size; omega
      have hpc : ∀ q, w3.cell? ⟨wr.heap.size, q, none⟩ = (#[.int .i64 (fd zs k 0), .int .i64 (fd zs k 1), .int .i64 (fd zs k 2)] : Array Value)[q]? := fun q => by
        rw [b3.cell (p := ⟨wr.heap.size, q, none⟩) (show wr.heap.size < _ by omega)]
        exact World.cell?_alloc_at _ _ _ _ rfl
      have v0 : (bput w3 W.heap.size R B Tk).cell? ⟨wr.heap.size, 0, none⟩ = some (.int .i64 (fd zs k 0)) := (bput_cell w3 R B Tk 0 (by omega)).trans (hpc 0)
      have v1 : (bput w3 W.heap.size R B Tk).cell? ⟨wr.heap.size, 1, none⟩ = some (.int .i64 (fd zs k 1)) := (bput_cell w3 R B Tk 1 (by omega)).trans (hpc 1)
      have X4 := X3.put R B Tk
      have X4' := Lib.hid X4
      obtain ⟨d0', d1', d2', df'⟩ := X4
      obtain ⟨m0, m1, m2, mf⟩ := X3
      have O4 := Lib.hid (bput_own R B Tk O3 (show W.heap.size < W.heap.size + 1 by omega))
      have B4 := Lib.hid (bput_below R B Tk B3 (Nat.le_refl _))
      have z4 := bput_size w3 W.heap.size R B Tk
      have hV : Hid (bput w3 W.heap.size R B Tk = ((w3.setCell ⟨W.heap.size, 0, none⟩ (.int .i64 R)).setCell ⟨W.heap.size, 1, none⟩ (.int .i64 B)).setCell ⟨W.heap.size, 2, none⟩ (.int .i64 Tk)) := Lib.hid rfl
      unfold bput at v0 v1 d0' d1' d2' df'
      clear O3 B3 hpc b3 d0 d1 d2 df c0 c1 c2 za
      by_cases hp : fd zs k 1 ≤ Tk
      · have PT : Hid (bpass R B F zs k = true) := by show _ = _; rw [PS.out]; exact decide_eq_true hp
        have FF : Hid (bfill R B F zs (k + 1) = Tk - fd zs k 1) := by show _ = _; rw [FS.out, if_neg (by omega)]
        go_wp2_with fail
        refine (take_ok R B Tk (fd zs k 1) _ bt.out (by omega) hp).mono ?_
        rintro e w5 ⟨rfl, b5⟩
        rw [← hV.out] at b5
        have X5 := X4'.out.on b5 (show W.heap.size < (bput w3 W.heap.size R B Tk).heap.size by omega)
        have O5 := own_on O4.out b5
        have B5 := B4.out.trans (b5.mono (by omega))
        have z5 : W.heap.size + 1 ≤ w5.heap.size := by have := b5.size; omega
        have hx5 := X5.on (D := w5.heap.size) (w' := w5.alloc (.cells #[.int .i64 R, .int .i64 B, .int .i64 (Tk - fd zs k 1)] 55)) ((Below.refl _ _).alloc (Nat.le_refl _) _) (by omega)
        have hb5 := Lib.hid (B5.alloc (by omega) (.cells #[.int .i64 R, .int .i64 B, .int .i64 (Tk - fd zs k 1)] 55))
        have O6 := Lib.hid (O5.alloc (.cells #[.int .i64 R, .int .i64 B, .int .i64 (Tk - fd zs k 1)] 55))
        have X6 := Lib.hid hx5
        obtain ⟨n0, n1, n2, nf⟩ := hx5
        clear X5 O5 B5 b5 hV v0 v1 d0' d1' d2' df' m0 m1 m2 mf
        have O7 := Lib.hid (bput_own R B (Tk - fd zs k 1) O6.out (show W.heap.size < W.heap.size + 1 by omega))
        have X7 := Lib.hid (X6.out.put R B (Tk - fd zs k 1))
        have B7 := Lib.hid (bput_below R B (Tk - fd zs k 1) hb5.out (Nat.le_refl _))
        have z7 : (bput (w5.alloc (.cells #[.int .i64 R, .int .i64 B, .int .i64 (Tk - fd zs k 1)] 55)) W.heap.size R B (Tk - fd zs k 1)).heap.size = w5.heap.size + 1 := by rw [bput_size]; simp
        go_wp2_with (at_builtin; refine wpList_push_ rfl (.tmp 51) (.tmp 54) _ rfl elemBool _ (by simp) (W.heap.size + 1) _ k _ _ rfl rfl O7.out (Below.refl _ _) (by have := z7; simp [bput] at this ⊢; omega) rfl (by omega) ?_; intro q1 w6 hown1 hb1 hz1)
        have XN := X7.out.on hb1 (show W.heap.size < W.heap.size + 1 by omega)
        have BN := B7.out.trans (hb1.mono (by omega))
        go_roundw
        case rel =>
          refine ⟨k + 1, by omega, by go_num, by rw [pv.out], ?_, by rw [FF.out]; exact XN, BN, hz1⟩
          have e := btab_push k (bpass R B F zs)
          rw [PT.out] at e
          rw [← e]
          exact hown1
        case measure => simp [intOf]; omega
      · have PT : Hid (bpass R B F zs k = false) := by show _ = _; rw [PS.out]; exact decide_eq_false hp
        have hp2 : Tk < fd zs k 1 := by omega
        have FF : Hid (bfill R B F zs (k + 1) = Tk) := by show _ = _; rw [FS.out, if_pos hp2]
        clear hp
        go_wp2_with fail
        refine (take_full R B Tk (fd zs k 1) _ bt.out (by omega) hp2).mono ?_
        rintro e w5 ⟨rfl, b5⟩
        rw [← hV.out] at b5
        have X5 := X4'.out.on b5 (show W.heap.size < (bput w3 W.heap.size R B Tk).heap.size by omega)
        have O5 := own_on O4.out b5
        have B5 := B4.out.trans (b5.mono (by omega))
        have z5 : W.heap.size + 1 ≤ w5.heap.size := by have := b5.size; omega
        have hx5 := X5.on (D := w5.heap.size) (w' := w5.alloc (.cells #[.int .i64 0, .int .i64 0, .int .i64 0] 55)) ((Below.refl _ _).alloc (Nat.le_refl _) _) (by omega)
        have hb5 := Lib.hid (B5.alloc (by omega) (.cells #[.int .i64 0, .int .i64 0, .int .i64 0] 55))
        have O6 := Lib.hid (O5.alloc (.cells #[.int .i64 0, .int .i64 0, .int .i64 0] 55))
        have X6 := Lib.hid hx5
        obtain ⟨n0, n1, n2, nf⟩ := hx5
        clear X5 O5 B5 b5 hV v0 v1 d0' d1' d2' df' m0 m1 m2 mf
        go_wp2_with (at_builtin; refine wpList_push_ rfl (.tmp 51) (.tmp 54) _ rfl elemBool _ (by simp) (W.heap.size + 1) _ k _ _ rfl rfl O6.out (Below.refl _ _) (by simp; omega) rfl (by omega) ?_; intro q1 w6 hown1 hb1 hz1)
        have XN := X6.out.on hb1 (show W.heap.size < W.heap.size + 1 by omega)
        have BN := hb5.out.trans (hb1.mono (by omega))
        go_roundw
        case rel =>
          refine ⟨k + 1, by omega, by go_num, by rw [pv.out], ?_, by rw [FF.out]; exact XN, BN, hz1⟩
          have e := btab_push k (bpass R B F zs)
          rw [PT.out] at e
          rw [← e]
          exact hown1
        case measure => simp [intOf]; omega
    · have hkn : k = n := by omega
      subst hkn
      have hn1 : ¬ (k : Int) < k := by omega
      obtain ⟨A1, c1, rfl, hc1⟩ := own_form hown
      have HO := Lib.hid hown
      have HB := Lib.hid hb
      clear hown hb hx
      go_wp2_with fail
      go_ret2
      exact ⟨A1, c1, rfl, Sl.of_own HO.out, hc1, HB.out, own_lowB HO.out⟩
theorem brun_argo (R B F : Int) (A : Option Addr) (n c : Nat) (zs : List Int) (W : World) (hb : ¬ bktOk R B F) :
    Calls Try.prog 31 #[.agg #[.int .i64 R, .int .i64 B, .int .i64 F], .slice A n c] W (RetBo W 0 [] 1) := by
  have HB0 := Lib.hid hb
  clear hb
  go_enter Try.func31, Try.ntmps31
  go_wp2_with fail
  refine (bcheck_bad R B F _ HB0.out).mono ?_
  rintro e w1 ⟨rfl, b1⟩
  have B1 := Lib.hid (((Below.refl W.heap.size W).alloc (Nat.le_refl _) _).trans (b1.mono (by simp)))
  clear b1
  go_wp2_with fail
  go_ret2
  exact ⟨none, 0, rfl, Sl.nil, Nat.le_refl _, B1.out, World.ownsRow_nil _ _ _ _⟩
theorem brun_bado (R B F : Int) (A : Option Addr) (n c : Nat) (zs : List Int) (W : World) (hs : Sl W W.heap.size A (n * 3) (ints zs)) (hnn : n ≤ 9223372036854775807) (hb : bktOk R B F) (h0 : packErr zs n ≠ 0) :
    Calls Try.prog 31 #[.agg #[.int .i64 R, .int .i64 B, .int .i64 F], .slice A n c] W (RetBo W 0 [] (packErr zs n)) := by
  have HB0 := Lib.hid hb
  have hne : (packErr zs n != 0) = true := by simpa using h0
  clear h0 hb
  go_enter Try.func31, Try.ntmps31
  go_wp2_with fail
  refine (bcheck_ok R B F _ HB0.out).mono ?_
  rintro e w1 ⟨rfl, b1⟩
  have B1 := Lib.hid (((Below.refl W.heap.size W).alloc (Nat.le_refl _) _).trans (b1.mono (by simp)))
  have S1 := Lib.hid ((hs.below B1.out).more (B := W.heap.size) (B' := w1.heap.size) B1.out.size)
  clear hs b1
  go_wp2_with fail
  refine (packets_any A n c zs _ S1.out hnn).mono ?_
  rintro e w2 ⟨rfl, b2⟩
  have B2 := Lib.hid (B1.out.trans (b2.mono B1.out.size))
  clear b2
  go_wp2_with fail
  go_ret2
  exact ⟨none, 0, rfl, Sl.nil, Nat.le_refl _, B2.out, World.ownsRow_nil _ _ _ _⟩
theorem brun_ok (R B F : Int) (A : Option Addr) (n c : Nat) (zs : List Int) (W : World) (hs : Sl W W.heap.size A (n * 3) (ints zs)) (hnn : n ≤ 9223372036854775807) (hb : bktOk R B F) (h0 : packErr zs n = 0) :
    Calls Try.prog 31 #[.agg #[.int .i64 R, .int .i64 B, .int .i64 F], .slice A n c] W (RetBl W n (btab n (bpass R B F zs)) 0) :=
  (brun_oko R B F A n c zs W hs hnn hb h0).mono fun _ _ h => h.to
theorem brun_arg (R B F : Int) (A : Option Addr) (n c : Nat) (zs : List Int) (W : World) (hb : ¬ bktOk R B F) :
    Calls Try.prog 31 #[.agg #[.int .i64 R, .int .i64 B, .int .i64 F], .slice A n c] W (RetBl W 0 [] 1) :=
  (brun_argo R B F A n c zs W hb).mono fun _ _ h => h.to
theorem brun_bad (R B F : Int) (A : Option Addr) (n c : Nat) (zs : List Int) (W : World) (hs : Sl W W.heap.size A (n * 3) (ints zs)) (hnn : n ≤ 9223372036854775807) (hb : bktOk R B F) (h0 : packErr zs n ≠ 0) :
    Calls Try.prog 31 #[.agg #[.int .i64 R, .int .i64 B, .int .i64 F], .slice A n c] W (RetBl W 0 [] (packErr zs n)) :=
  (brun_bado R B F A n c zs W hs hnn hb h0).mono fun _ _ h => h.to
end Go.Proofs.Ytpifknmoimlpoaa
