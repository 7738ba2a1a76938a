/- What walks of calls share: a slice, and old memory, behind a call. -/
import Derived.Test.YtpifknmoimlpoaaBase
import Derived.Test.YtpifknmoimlpoaaOpen
import Derived.Test.YtpifknmoimlpoaaElems
import Derived.Test.YtpifknmoimlpoaaWithin
import Derived.Test.YtpifknmoimlpoaaEqual
set_option linter.unusedVariables false
namespace Go.Proofs.Ytpifknmoimlpoaa
open Go.RowKit
theorem below_drewN {W w : World} (h : Below W.heap.size W w) (q : Nat) : Below W.heap.size W (w.drewN q) := ⟨h.os, h.tape, h.output, h.size, h.block⟩
section
variable {W w w1 : World} {n : Nat} {A : Option Addr} {xs : List Value}
theorem slMore (h : Sl w w.heap.size A n xs) (o : Obj) : Sl (w.alloc o) (w.alloc o).heap.size A n xs := (h.alloc (Nat.le_refl _) o).more (by simp)
theorem belLit0 (h : Below W.heap.size W w) (k : Below w.heap.size w w1) : Below W.heap.size W w1 := h.trans (k.mono h.size)
theorem belLit1 {o : Obj} (h : Below W.heap.size W w) (k : Below (w.alloc o).heap.size (w.alloc o) w1) : Below W.heap.size W w1 := belLit0 (h.alloc h.size o) k
theorem belLit2 {o p : Obj} (h : Below W.heap.size W w) (k : Below ((w.alloc o).alloc p).heap.size ((w.alloc o).alloc p) w1) : Below W.heap.size W w1 := belLit1 (h.alloc h.size o) k
theorem slLit0 (h : Sl w w.heap.size A n xs) (k : Below w.heap.size w w1) : Sl w1 w1.heap.size A n xs := h.on k
theorem slLit1 {o : Obj} (h : Sl w w.heap.size A n xs) (k : Below (w.alloc o).heap.size (w.alloc o) w1) : Sl w1 w1.heap.size A n xs := slLit0 (slMore h o) k
theorem slLit2 {o p : Obj} (h : Sl w w.heap.size A n xs) (k : Below ((w.alloc o).alloc p).heap.size ((w.alloc o).alloc p) w1) : Sl w1 w1.heap.size A n xs := slLit1 (slMore h o) k
end
theorem equal_t (A : Option Addr) (n c : Nat) (f : List Int) (M : Option Addr) (m d : Nat) (g : List Int) (W : World) (hs : Sl W W.heap.size A n (ints f)) (ht : Sl W W.heap.size M m (ints g)) (hn : n ≤ 9223372036854775807) (hm : m ≤ 9223372036854775807) (v : Bool) (hv : decide (f = g) = v) :
    Calls Try.prog 18 #[.slice A n c, .slice M m d] W fun e w' => e = .returned (.bool v) ∧ Below W.heap.size W w' := by
  subst hv
  exact (equal_any A M n c m d f g W _ _ hs ht hn).mono fun e w' ⟨h1, q, h2⟩ => ⟨h1, h2 ▸ below_drewN (Below.refl _ _) q⟩
theorem within_t (k n : Int) (W : World) (h1 : 1 ≤ n) (h2 : n ≤ 9223372036854775807) (v : Int) (hv : within k n = v) :
    Calls Try.prog 19 #[.int .i64 k, .int .i64 n] W fun e w' => e = .returned (.int .i64 v) ∧ W = w' := by
  subst hv
  exact within_any k n W h1 h2
end Go.Proofs.Ytpifknmoimlpoaa
