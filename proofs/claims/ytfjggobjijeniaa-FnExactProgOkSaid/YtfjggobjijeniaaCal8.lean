import Derived.Test.YtfjggobjijeniaaMap
/-! A function as an operand. -/
namespace Go.L
open Go Go.RowKit
theorem Imp.cl0 {f : FuncId} : Imp (A.val (.func (.func f) #[] #[])) (A.cl f []) := fun _ _ e => by cases e; exact ⟨[], rfl, trivial⟩
theorem F1c {av : List (Nat × Bool × A)} {c b : Bool} {f : FuncId} : Read1 av c (b, .func f, A.cl f []) := fun _ _ => ⟨[], rfl, trivial⟩
end Go.L
