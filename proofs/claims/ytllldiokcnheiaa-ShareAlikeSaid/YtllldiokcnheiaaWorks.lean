/- What the seat's texts share: the program follows mixed orders and does not bear the one name that a call treats apart; 'works' of the law's package returns true in every world. No conditions. -/
import Derived.Test.YtllldiokcnheiaaAb6
import Derived.Test.YtllldiokcnheiaaProg
import Derived.KernelRfl
namespace Go.Proofs.Ytllldiokcnheiaa
theorem mixed : Try.prog.follows .mixedOrders = true := by kernel_rfl

def namedB (P : Program) : Bool := P.funcs.toList.all fun fn => fn.name != "runtime.NumGoroutine"

theorem namedB_spec {P : Program} (h : namedB P = true) : Ab.Named P := by
  intro f fn hf _
  have hm : fn ∈ P.funcs.toList := by simpa using Array.mem_of_getElem? hf
  have := List.all_eq_true.1 h fn hm
  simpa using this

theorem named : Ab.Named Try.prog := namedB_spec (by kernel_rfl)

theorem works_run : Ab.isTrue (Ab.callK Try.prog Ab.noO 0 100000 8 [] (Ab.AH.none 1)) = true := by kernel_rfl

theorem works_says : Ab.Says Try.prog 8 := Ab.says_of Ab.noO_ok Ab.noO_next mixed named works_run

theorem known_none (g : FuncId) : ∀ f args h, f ≠ g → Ab.knownO g f args h = none := fun f args h hf => by
  unfold Ab.knownO
  have : Nat.beq f g = false := by rw [← Bool.not_eq_true, Nat.beq_eq]; exact hf
  rw [this]

end Go.Proofs.Ytllldiokcnheiaa
