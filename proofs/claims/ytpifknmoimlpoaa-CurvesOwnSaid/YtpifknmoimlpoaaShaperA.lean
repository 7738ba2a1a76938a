/- shaper.Of, trace.Env on curves. -/
import Derived.Test.YtpifknmoimlpoaaConvA
import Derived.Test.YtpifknmoimlpoaaClosA
import Derived.Test.YtpifknmoimlpoaaCurveR
import Derived.Test.YtpifknmoimlpoaaDecA
set_option linter.unusedVariables false
namespace Go.Proofs.Ytpifknmoimlpoaa
open Go.RowKit
theorem shaper_any (A : Option Addr) (n c : Nat) (f : List Int) (M : Option Addr) (m d : Nat) (g : List Int) (W : World) (hs : Sl W W.heap.size A n (ints f)) (ht : Sl W W.heap.size M m (ints g)) (hn : n ≤ 9223372036854775807) (hm : m ≤ 9223372036854775807)
    (cf : IsC n f) (cg : IsC n g) (hnm : n = m) (zs : List Int) (er : Int) (k : Nat) (h : (shaperL f g, (0 : Int)) = (zs, er)) (hk : zs.length = k) :
    Calls Try.prog 57 #[.slice A n c, .slice M m d] W (RetSl W k zs er) := by
  subst hnm
  have H := Lib.hid h
  have HK := Lib.hid hk
  have CF := Lib.hid cf
  have CG := Lib.hid cg
  have HB := Lib.hid (cf.both cg)
  clear h hk cf cg
  go_enter Try.func57, Try.ntmps57
  go_wp2_with fail
  refine (both_any A n c f M n d g _ _ _ hs ht hn hn).mono ?_
  rintro e w' ⟨rfl, rfl⟩
  rw [HB.out]
  go_wp2_with fail
  refine (closure_any M n d g _ ht hn (closureL g) 0 n (of1_ok CG.out _) (closure_C CG.out).len).mono ?_
  rintro e w1 ⟨A1, c1, rfl, s1, l1, b1, -⟩
  have hs1 := hs.on b1
  have S1 := Lib.hid s1
  have HS1 := Lib.hid hs1
  have B1 := Lib.hid b1
  clear hs ht s1 hs1 b1
  go_wp2_with fail
  refine (conv_any A n c f A1 n c1 (closureL g) _ HS1.out S1.out hn hn zs er k (by rw [← H.out]; exact conv_yes CF.out (closure_C CG.out) (shaper_fits CF.out CG.out) rfl) HK.out).mono ?_
  rintro e w2 ⟨A2, c2, rfl, s2, l2, b2, o2⟩
  have S2 := Lib.hid s2
  have B2 := Lib.hid b2
  clear s2 b2
  go_wp2_with fail
  go_ret2
  exact ⟨A2, c2, rfl, S2.out, l2, Below.to B1.out B2.out, own_lower o2 B1.out.size⟩
theorem env_any (A : Option Addr) (n c : Nat) (f : List Int) (W : World) (hs : Sl W W.heap.size A n (ints f)) (hn : n ≤ 9223372036854775807) (cf : IsC n f) (zs : List Int) (er : Int) (k : Nat) (h : (deconvL f f, (0 : Int)) = (zs, er)) (hk : zs.length = k) :
    Calls Try.prog 56 #[.slice A n c] W (RetSl W k zs er) := by
  have H := Lib.hid h
  have HK := Lib.hid hk
  have CF := Lib.hid cf
  clear h hk cf
  go_enter Try.func56, Try.ntmps56
  go_wp2_with fail
  refine (deconv_any A n c f A n c f _ hs hs hn hn zs er k (by rw [← H.out]; exact of2_ok CF.out CF.out _) HK.out).mono ?_
  rintro e w2 ⟨A2, c2, rfl, s2⟩
  have S2 := Lib.hid s2
  clear s2
  go_wp2_with fail
  go_ret2
  exact ⟨A2, c2, rfl, S2.out⟩
end Go.Proofs.Ytpifknmoimlpoaa
