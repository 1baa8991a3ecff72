/-
  The law FnExactPlainServer, evaluated.
-/
import Derived.Test.YtalhlpfjjbbfnaaVp
import Derived.KernelRfl
namespace Go.Proofs.Ytalhlpfjjbbfnaa
open Go.RowKit

theorem named : Named Try.prog := named_of (by kernel_rfl)
theorem follows : Try.prog.follows .mixedOrders = true := by kernel_rfl
theorem evalled : isTrue (evFn Try.prog noExt 1000 100 3 [] []) = true := by kernel_rfl

theorem lawPlainServer_any (w : World) : Calls Try.prog 3 #[] w fun e w' => e = .returned (.bool true) ∧ w.grownBy w' none :=
  law0 follows named (fn_sound follows named (noExt_ok _) (noExt_bodied _) 1000 100).1 evalled w

end Go.Proofs.Ytalhlpfjjbbfnaa
