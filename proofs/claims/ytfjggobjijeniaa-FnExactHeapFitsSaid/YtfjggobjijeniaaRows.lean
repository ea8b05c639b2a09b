/-
  No cell of these rows narrows 'for every input' (looked for: loops, veiled, ifaces, maps, wideKeys, modest, calm, conditions, laid).
  DERIVED. THE GIVEN ROWS OF THIS SEAT. 6 by the template 'for every input the law returns true; each argument reads behind the call as it read before'; 0 by the template 'total and deterministic' (their statements: YtfjggobjijeniaaTotals.lean).
  GIVEN WITH THE SEED: the statements are not yours to turn. If you find one false, say at which input.
  Laid BY PROGRAM, IN A SANDBOX (cutbox-rows.mjs): the forced cells as the released guide's own fill.sh prints them over the translation 9045b8d8eb1ec6fe… (all of the seat's roots in one cut). By AI agents, Wed Nov 11 2026. No macro, syntax, notation, axiom, sorry.
-/
import Derived.Test.YtfjggobjijeniaaChecked
import GoSem.Claim
import GoSem.ClaimJoined
import GoSem.ClaimMapViews
import Derived.JoinedTies
import Derived.KernelRfl
namespace Go.Proofs.Ytfjggobjijeniaa
/- THE CELL 'sum', in the pinned program and in every row, IS THE sha256 OF THE DUMP (.gsa) THAT YtfjggobjijeniaaProg.lean LOADS. Nothing in Lean hashes anything: it is a label: what it is worth is what the hold of that sum in a sandbox is worth. -/
noncomputable def Try.pinned : Pinned := { name := "ytfjggobjijeniaa", sum := "9045b8d8eb1ec6feb50b16687712a15aea8f1891774bac63c149f3b3b7ed1873", checked := Try.checked }
namespace Rows
def none {H : Type} : Left H := { results := [], args := [] }

/-- 'laws.FnExactValFits': WHATEVER THE INPUT: true; the input reads as it did. -/
def fnExactValFitsSpec : ChangeSpec := { name := "fnExactValFits", fn := fun _ => fun
  | [d1, d2, d3, d4] => { results := [.lit (.bool true)], args := [d1, d2, d3, d4] }
  | _ => none }
def fnExactValFitsRow : OpenClaim := { program := "ytfjggobjijeniaa", sum := "9045b8d8eb1ec6feb50b16687712a15aea8f1891774bac63c149f3b3b7ed1873", func := "loop.example/lairage/laws.FnExactValFits", spec := "fnExactValFits", unfollowed := true, recurses := true, plainKeys := false, apart := false }
def FnExactValFitsSaid : Prop := fnExactValFitsRow.holds Try.pinned (OpenSpec.ofChange fnExactValFitsSpec)

/-- ITS FALSE NEIGHBOUR: 'it returns false'. Refute it at one input. -/
def fnExactValFitsWrong : ChangeSpec := { name := "fnExactValFits", fn := fun _ => fun
  | [d1, d2, d3, d4] => { results := [.lit (.bool false)], args := [d1, d2, d3, d4] }
  | _ => none }
def FnExactValFitsWrongFalsely : Prop := fnExactValFitsRow.holds Try.pinned (OpenSpec.ofChange fnExactValFitsWrong)

/-- 'laws.FnExactValTell': WHATEVER THE INPUT: true; the input reads as it did. -/
def fnExactValTellSpec : ChangeSpec := { name := "fnExactValTell", fn := fun _ => fun
  | [d1, d2, d3] => { results := [.lit (.bool true)], args := [d1, d2, d3] }
  | _ => none }
def fnExactValTellRow : OpenClaim := { program := "ytfjggobjijeniaa", sum := "9045b8d8eb1ec6feb50b16687712a15aea8f1891774bac63c149f3b3b7ed1873", func := "loop.example/lairage/laws.FnExactValTell", spec := "fnExactValTell", unfollowed := true, recurses := true, plainKeys := false, apart := false }
def FnExactValTellSaid : Prop := fnExactValTellRow.holds Try.pinned (OpenSpec.ofChange fnExactValTellSpec)

/-- ITS FALSE NEIGHBOUR: 'it returns false'. Refute it at one input. -/
def fnExactValTellWrong : ChangeSpec := { name := "fnExactValTell", fn := fun _ => fun
  | [d1, d2, d3] => { results := [.lit (.bool false)], args := [d1, d2, d3] }
  | _ => none }
def FnExactValTellWrongFalsely : Prop := fnExactValTellRow.holds Try.pinned (OpenSpec.ofChange fnExactValTellWrong)

/-- 'laws.FnExactProgOk': WHATEVER THE INPUT: true; the input reads as it did. -/
def fnExactProgOkSpec : ChangeSpec := { name := "fnExactProgOk", fn := fun _ => fun
  | [d] => { results := [.lit (.bool true)], args := [d] }
  | _ => none }
def fnExactProgOkRow : OpenClaim := { program := "ytfjggobjijeniaa", sum := "9045b8d8eb1ec6feb50b16687712a15aea8f1891774bac63c149f3b3b7ed1873", func := "loop.example/lairage/laws.FnExactProgOk", spec := "fnExactProgOk", unfollowed := true, recurses := true, plainKeys := false, apart := false }
def FnExactProgOkSaid : Prop := fnExactProgOkRow.holds Try.pinned (OpenSpec.ofChange fnExactProgOkSpec)

/-- ITS FALSE NEIGHBOUR: 'it returns false'. Refute it at one input. -/
def fnExactProgOkWrong : ChangeSpec := { name := "fnExactProgOk", fn := fun _ => fun
  | [d] => { results := [.lit (.bool false)], args := [d] }
  | _ => none }
def FnExactProgOkWrongFalsely : Prop := fnExactProgOkRow.holds Try.pinned (OpenSpec.ofChange fnExactProgOkWrong)

/-- 'laws.FnExactCheckSlots': WHATEVER THE INPUT: true; the input reads as it did. -/
def fnExactCheckSlotsSpec : ChangeSpec := { name := "fnExactCheckSlots", fn := fun _ => fun
  | [d1, d2] => { results := [.lit (.bool true)], args := [d1, d2] }
  | _ => none }
def fnExactCheckSlotsRow : OpenClaim := { program := "ytfjggobjijeniaa", sum := "9045b8d8eb1ec6feb50b16687712a15aea8f1891774bac63c149f3b3b7ed1873", func := "loop.example/lairage/laws.FnExactCheckSlots", spec := "fnExactCheckSlots", unfollowed := true, recurses := true, plainKeys := false, apart := false }
def FnExactCheckSlotsSaid : Prop := fnExactCheckSlotsRow.holds Try.pinned (OpenSpec.ofChange fnExactCheckSlotsSpec)

/-- ITS FALSE NEIGHBOUR: 'it returns false'. Refute it at one input. -/
def fnExactCheckSlotsWrong : ChangeSpec := { name := "fnExactCheckSlots", fn := fun _ => fun
  | [d1, d2] => { results := [.lit (.bool false)], args := [d1, d2] }
  | _ => none }
def FnExactCheckSlotsWrongFalsely : Prop := fnExactCheckSlotsRow.holds Try.pinned (OpenSpec.ofChange fnExactCheckSlotsWrong)

/-- 'laws.FnExactHeapOk': WHATEVER THE INPUT: true; the input reads as it did. -/
def fnExactHeapOkSpec : ChangeSpec := { name := "fnExactHeapOk", fn := fun _ => fun
  | [d1, d2] => { results := [.lit (.bool true)], args := [d1, d2] }
  | _ => none }
def fnExactHeapOkRow : OpenClaim := { program := "ytfjggobjijeniaa", sum := "9045b8d8eb1ec6feb50b16687712a15aea8f1891774bac63c149f3b3b7ed1873", func := "loop.example/lairage/laws.FnExactHeapOk", spec := "fnExactHeapOk", unfollowed := true, recurses := true, plainKeys := false, apart := false }
def FnExactHeapOkSaid : Prop := fnExactHeapOkRow.holds Try.pinned (OpenSpec.ofChange fnExactHeapOkSpec)

/-- ITS FALSE NEIGHBOUR: 'it returns false'. Refute it at one input. -/
def fnExactHeapOkWrong : ChangeSpec := { name := "fnExactHeapOk", fn := fun _ => fun
  | [d1, d2] => { results := [.lit (.bool false)], args := [d1, d2] }
  | _ => none }
def FnExactHeapOkWrongFalsely : Prop := fnExactHeapOkRow.holds Try.pinned (OpenSpec.ofChange fnExactHeapOkWrong)

/-- 'laws.FnExactHeapFits': WHATEVER THE INPUT: true; the input reads as it did. -/
def fnExactHeapFitsSpec : ChangeSpec := { name := "fnExactHeapFits", fn := fun _ => fun
  | [d1, d2, d3, d4] => { results := [.lit (.bool true)], args := [d1, d2, d3, d4] }
  | _ => none }
def fnExactHeapFitsRow : OpenClaim := { program := "ytfjggobjijeniaa", sum := "9045b8d8eb1ec6feb50b16687712a15aea8f1891774bac63c149f3b3b7ed1873", func := "loop.example/lairage/laws.FnExactHeapFits", spec := "fnExactHeapFits", unfollowed := true, recurses := true, plainKeys := false, apart := false }
def FnExactHeapFitsSaid : Prop := fnExactHeapFitsRow.holds Try.pinned (OpenSpec.ofChange fnExactHeapFitsSpec)

/-- ITS FALSE NEIGHBOUR: 'it returns false'. Refute it at one input. -/
def fnExactHeapFitsWrong : ChangeSpec := { name := "fnExactHeapFits", fn := fun _ => fun
  | [d1, d2, d3, d4] => { results := [.lit (.bool false)], args := [d1, d2, d3, d4] }
  | _ => none }
def FnExactHeapFitsWrongFalsely : Prop := fnExactHeapFitsRow.holds Try.pinned (OpenSpec.ofChange fnExactHeapFitsWrong)

/- THE SECOND FORM. 'bulk': how many values and letters a reading holds, each counted each time it is reached (what is shared counts as often as it is met; a slice's spare places count too). A statement '..UptoSaid' is the law's where the arguments, and the package variables that the reading takes, are together of bulk at most 1048576: NARROWER than '..Said'. Prove '..Said' where nothing that the law and all that it calls make is longer than what came in: it says more and counts as full. Else prove '..UptoSaid'. A law counts once. -/
mutual
def uptoBulk {H : Type} : DataW H → Nat
  | .lit (.string bytes) => bytes.length + 1
  | .lit _ => 1
  | .nil => 1
  | .ptr d => uptoBulk d + 1
  | .slice elems spare => uptoBulkAll elems + uptoBulkAll spare + 1
  | .agg parts => uptoBulkAll parts + 1
  | .iface _ d => uptoBulk d + 1
  | .map entries => uptoBulkEntries entries + 1
  | .held _ => 1
def uptoBulkAll {H : Type} : List (DataW H) → Nat
  | [] => 0
  | d :: r => uptoBulk d + uptoBulkAll r
def uptoBulkEntries {H : Type} : List (Lit × DataW H) → Nat
  | [] => 0
  | x :: r => uptoBulkEntry x + uptoBulkEntries r
def uptoBulkEntry {H : Type} : Lit × DataW H → Nat
  | (.string bytes, d) => bytes.length + uptoBulk d + 1
  | (_, d) => uptoBulk d + 1
 end
def uptoSmall : (H : Type) → List (DataW H) → Bool := fun _ ds => decide (uptoBulkAll ds ≤ 1048576)
def OpenSpec.upto (s : _root_.Go.ChangeSpec) : _root_.Go.OpenSpec := { _root_.Go.OpenSpec.ofChange s with cond := some uptoSmall }

/-- 'laws.FnExactValFits', WHERE WHAT IT READS IS OF BULK AT MOST 1048576: true; the input reads as it did. -/
def fnExactValFitsUptoRow : OpenClaim := { program := "ytfjggobjijeniaa", sum := "9045b8d8eb1ec6feb50b16687712a15aea8f1891774bac63c149f3b3b7ed1873", func := "loop.example/lairage/laws.FnExactValFits", spec := "fnExactValFits", unfollowed := true, recurses := true, plainKeys := false, apart := false, narrowed := true }
def FnExactValFitsUptoSaid : Prop := fnExactValFitsUptoRow.holds Try.pinned (OpenSpec.upto fnExactValFitsSpec)

/-- 'laws.FnExactValTell', WHERE WHAT IT READS IS OF BULK AT MOST 1048576: true; the input reads as it did. -/
def fnExactValTellUptoRow : OpenClaim := { program := "ytfjggobjijeniaa", sum := "9045b8d8eb1ec6feb50b16687712a15aea8f1891774bac63c149f3b3b7ed1873", func := "loop.example/lairage/laws.FnExactValTell", spec := "fnExactValTell", unfollowed := true, recurses := true, plainKeys := false, apart := false, narrowed := true }
def FnExactValTellUptoSaid : Prop := fnExactValTellUptoRow.holds Try.pinned (OpenSpec.upto fnExactValTellSpec)

/-- 'laws.FnExactProgOk', WHERE WHAT IT READS IS OF BULK AT MOST 1048576: true; the input reads as it did. -/
def fnExactProgOkUptoRow : OpenClaim := { program := "ytfjggobjijeniaa", sum := "9045b8d8eb1ec6feb50b16687712a15aea8f1891774bac63c149f3b3b7ed1873", func := "loop.example/lairage/laws.FnExactProgOk", spec := "fnExactProgOk", unfollowed := true, recurses := true, plainKeys := false, apart := false, narrowed := true }
def FnExactProgOkUptoSaid : Prop := fnExactProgOkUptoRow.holds Try.pinned (OpenSpec.upto fnExactProgOkSpec)

/-- 'laws.FnExactCheckSlots', WHERE WHAT IT READS IS OF BULK AT MOST 1048576: true; the input reads as it did. -/
def fnExactCheckSlotsUptoRow : OpenClaim := { program := "ytfjggobjijeniaa", sum := "9045b8d8eb1ec6feb50b16687712a15aea8f1891774bac63c149f3b3b7ed1873", func := "loop.example/lairage/laws.FnExactCheckSlots", spec := "fnExactCheckSlots", unfollowed := true, recurses := true, plainKeys := false, apart := false, narrowed := true }
def FnExactCheckSlotsUptoSaid : Prop := fnExactCheckSlotsUptoRow.holds Try.pinned (OpenSpec.upto fnExactCheckSlotsSpec)

/-- 'laws.FnExactHeapOk', WHERE WHAT IT READS IS OF BULK AT MOST 1048576: true; the input reads as it did. -/
def fnExactHeapOkUptoRow : OpenClaim := { program := "ytfjggobjijeniaa", sum := "9045b8d8eb1ec6feb50b16687712a15aea8f1891774bac63c149f3b3b7ed1873", func := "loop.example/lairage/laws.FnExactHeapOk", spec := "fnExactHeapOk", unfollowed := true, recurses := true, plainKeys := false, apart := false, narrowed := true }
def FnExactHeapOkUptoSaid : Prop := fnExactHeapOkUptoRow.holds Try.pinned (OpenSpec.upto fnExactHeapOkSpec)

/-- 'laws.FnExactHeapFits', WHERE WHAT IT READS IS OF BULK AT MOST 1048576: true; the input reads as it did. -/
def fnExactHeapFitsUptoRow : OpenClaim := { program := "ytfjggobjijeniaa", sum := "9045b8d8eb1ec6feb50b16687712a15aea8f1891774bac63c149f3b3b7ed1873", func := "loop.example/lairage/laws.FnExactHeapFits", spec := "fnExactHeapFits", unfollowed := true, recurses := true, plainKeys := false, apart := false, narrowed := true }
def FnExactHeapFitsUptoSaid : Prop := fnExactHeapFitsUptoRow.holds Try.pinned (OpenSpec.upto fnExactHeapFitsSpec)

end Rows
end Go.Proofs.Ytfjggobjijeniaa
