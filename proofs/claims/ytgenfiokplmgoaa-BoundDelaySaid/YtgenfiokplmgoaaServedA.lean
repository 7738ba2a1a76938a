/- headkeep.served. -/
import Derived.Test.YtgenfiokplmgoaaConvA
import Derived.Test.YtgenfiokplmgoaaPointA
import Derived.Test.YtgenfiokplmgoaaLawKit
set_option linter.unusedVariables false
namespace Go.Proofs.Ytgenfiokplmgoaa
open Go.RowKit
def servedL (f b more : List Int) : List Int := cminL f (csumL (convL f b) more)
/-- What served answers, of curves f and b. -/
inductive ServedIs (f b more : List Int) : List Int → Bool → Prop
  | conv (h : ¬ fits (convL f b) = true) : ServedIs f b more [] false
  | both (h : fits (convL f b) = true) (h2 : bothB f more = false) : ServedIs f b more [] false
  | sum (h : fits (convL f b) = true) (h2 : bothB f more = true) (h3 : ¬ fits (csumL (convL f b) more) = true) : ServedIs f b more [] false
  | ok (h : fits (convL f b) = true) (h2 : bothB f more = true) (h3 : fits (csumL (convL f b) more) = true) : ServedIs f b more (servedL f b more) (leT (convL f b) (servedL f b more))
theorem servedIs_ex (f b more : List Int) : ServedIs f b more [] false ∨ (fits (convL f b) = true ∧ bothB f more = true ∧ fits (csumL (convL f b) more) = true ∧ ServedIs f b more (servedL f b more) (leT (convL f b) (servedL f b more))) := by
  by_cases h : fits (convL f b) = true
  · by_cases h2 : bothB f more = true
    · by_cases h3 : fits (csumL (convL f b) more) = true
      · exact .inr ⟨h, h2, h3, .ok h h2 h3⟩
      · exact .inl (.sum h h2 h3)
    · exact .inl (.both h (Bool.eq_false_iff.2 h2))
  · exact .inl (.conv h)
set_option maxHeartbeats 1600000 in
theorem served_any (A : Option Addr) (n c : Nat) (f : List Int) (M : Option Addr) (m d : Nat) (g : List Int) (L : Option Addr) (p q : Nat) (more : List Int) (W : World) (hs : Sl W W.heap.size A n (ints f)) (ht : Sl W W.heap.size M m (ints g)) (hu : Sl W W.heap.size L p (ints more)) (hn : n ≤ 9223372036854775807) (hm : m ≤ 9223372036854775807) (hp : p ≤ 9223372036854775807)
    (cf : IsC n f) (cg : IsC n g) (hnm : n = m) (zs : List Int) (v : Bool) (k : Nat) (h : ServedIs f g more zs v) (hk : zs.length = k) :
    Calls Try.prog 22 #[.slice A n c, .slice M m d, .slice L p q] W fun e w' => ∃ A' c', e = .returned (.tuple #[.slice A' k c', .bool v]) ∧ Sl w' w'.heap.size A' k (ints zs) ∧ k ≤ c' ∧ Below W.heap.size W w' := by
  subst hnm
  have hlm := hu.int_len
  have CF := Lib.hid cf
  have CG := Lib.hid cg
  have hn61 := cf.top
  have HLM := Lib.hid hlm
  clear cf cg hlm
  cases h with
  | conv h =>
    subst hk
    have H := Lib.hid h
    clear h
    go_enter Try.func22, Try.ntmps22
    go_wp2_with fail
    refine (conv_any A n c f M n d g _ hs ht hn hn [] 2 0 (conv_no CF.out CG.out H.out) rfl).mono ?_
    rintro e w1 ⟨A1, c1, rfl, s1, l1, b1⟩
    clear hs ht hu s1
    go_wp2_with fail
    go_ret2
    exact ⟨none, 0, rfl, Sl.nil, Nat.le_refl _, b1⟩
  | both h h2 =>
    subst hk
    have H := Lib.hid h
    have H2 := Lib.hid h2
    clear h h2
    go_enter Try.func22, Try.ntmps22
    go_wp2_with fail
    refine (conv_any A n c f M n d g _ hs ht hn hn (convL f g) 0 n (conv_yes CF.out CG.out H.out rfl) (by rw [convL_len, CF.out.len])).mono ?_
    rintro e w1 ⟨A1, c1, rfl, s1, l1, b1⟩
    have hs1 := hs.on b1
    have hu1 := hu.on b1
    clear hs ht hu s1
    go_wp2_with fail
    refine (hboth_t A n c f L p q more _ hs1 hu1 hn hp false H2.out).mono ?_
    rintro e w2 ⟨rfl, b2⟩
    clear hs1 hu1
    go_wp2_with fail
    go_ret2
    exact ⟨none, 0, rfl, Sl.nil, Nat.le_refl _, Below.to b1 b2⟩
  | sum h h2 h3 =>
    subst hk
    obtain ⟨e1, -, c3⟩ := both_C h2 CF.out.len HLM.out
    subst e1
    have CM := Lib.hid c3
    have CX := Lib.hid (conv_C CF.out CG.out h)
    have H := Lib.hid h
    have H2 := Lib.hid h2
    have H3 := Lib.hid h3
    clear h h2 h3 c3
    go_enter Try.func22, Try.ntmps22
    go_wp2_with fail
    refine (conv_any A n c f M n d g _ hs ht hn hn (convL f g) 0 n (conv_yes CF.out CG.out H.out rfl) (by rw [convL_len, CF.out.len])).mono ?_
    rintro e w1 ⟨A1, c1, rfl, s1, l1, b1⟩
    have hs1 := hs.on b1
    have hu1 := hu.on b1
    clear hs ht hu
    go_wp2_with fail
    refine (hboth_t A n c f L n q more _ hs1 hu1 hn hp true H2.out).mono ?_
    rintro e w2 ⟨rfl, b2⟩
    have s2 := s1.on b2
    have hu2 := hu1.on b2
    have b02 := Below.to b1 b2
    clear hs1 hu1 s1 b1 b2
    go_wp2_with fail
    refine (psum_any A1 n c1 (convL f g) L n q more _ s2 hu2 hn hn [] 2 0 (csum_no CX.out CM.out H3.out) rfl).mono ?_
    rintro e w3 ⟨A3, c3, rfl, s3, l3, b3⟩
    clear s2 hu2 s3
    go_wp2_with fail
    go_ret2
    exact ⟨none, 0, rfl, Sl.nil, Nat.le_refl _, Below.to b02 b3⟩
  | ok h h2 h3 =>
    obtain ⟨e1, -, c3⟩ := both_C h2 CF.out.len HLM.out
    subst e1
    have cx := conv_C CF.out CG.out h
    have cs := csum_C cx c3 h3
    have cz := cmin_C CF.out cs
    have hk' : n = k := by rw [← hk, servedL, cz.len]
    subst hk'
    have CM := Lib.hid c3
    have CX := Lib.hid cx
    have CS := Lib.hid cs
    have CZ := Lib.hid cz
    have H := Lib.hid h
    have H2 := Lib.hid h2
    have H3 := Lib.hid h3
    clear h h2 h3 c3 cx cs cz hk
    go_enter Try.func22, Try.ntmps22
    go_wp2_with fail
    refine (conv_any A n c f M n d g _ hs ht hn hn (convL f g) 0 n (conv_yes CF.out CG.out H.out rfl) (by rw [convL_len, CF.out.len])).mono ?_
    rintro e w1 ⟨A1, c1, rfl, s1, l1, b1⟩
    have hs1 := hs.on b1
    have hu1 := hu.on b1
    clear hs ht hu
    go_wp2_with fail
    refine (hboth_t A n c f L n q more _ hs1 hu1 hn hp true H2.out).mono ?_
    rintro e w2 ⟨rfl, b2⟩
    have s2 := s1.on b2
    have hu2 := hu1.on b2
    have hs2 := hs1.on b2
    have b02 := Below.to b1 b2
    clear hs1 hu1 s1 b1 b2
    go_wp2_with fail
    refine (psum_any A1 n c1 (convL f g) L n q more _ s2 hu2 hn hn (csumL (convL f g) more) 0 n (csum_yes CX.out CM.out H3.out rfl) CS.out.len).mono ?_
    rintro e w3 ⟨A3, c3, rfl, s3, l3, b3⟩
    have s23 := s2.on b3
    have hs3 := hs2.on b3
    have b03 := Below.to b02 b3
    clear s2 hu2 hs2 b02 b3
    go_wp2_with fail
    refine (pmin_any A n c f A3 n c3 (csumL (convL f g) more) _ hs3 s3 hn hn (servedL f g more) 0 n (cmin_yes CF.out CS.out rfl) CZ.out.len).mono ?_
    rintro e w4 ⟨A4, c4, rfl, s4, l4, b4⟩
    have s14 := s23.on b4
    have b04 := Below.to b03 b4
    clear s23 hs3 s3 b03 b4
    go_wp2_with fail
    refine (hle_t A1 n c1 (convL f g) A4 n c4 (servedL f g more) _ s14 s4 hn hn _ rfl).mono ?_
    rintro e w5 ⟨rfl, b5⟩
    have S5 := Lib.hid (s4.on b5)
    have B5 := Lib.hid (Below.to b04 b5)
    clear s14 s4 b04 b5
    go_wp2_with fail
    go_ret2
    exact ⟨A4, c4, rfl, S5.out, l4, B5.out⟩
end Go.Proofs.Ytgenfiokplmgoaa
