/-
  No cell of these rows narrows 'for every input' (looked for: loops, veiled, ifaces, maps, wideKeys, modest, calm, conditions, laid).
  DERIVED. THE GIVEN ROWS OF THIS SEAT. 5 by the template 'for every input the law returns true; each argument reads behind the call as it read before'; 0 by the template 'total and deterministic' (their statements: YtilddfgifjejbaaTotals.lean).
  GIVEN WITH THE SEED: the statements are not yours to turn. If you find one false, say at which input.
  Laid BY PROGRAM, IN A SANDBOX (cutbox-rows.mjs): the forced cells as the released guide's own fill.sh prints them over the translation 94ba7c9c3f90d231… (all of the seat's roots in one cut). By AI agents, Wed Nov 11 2026. No macro, syntax, notation, axiom, sorry.
-/
import Derived.Test.YtilddfgifjejbaaChecked
import GoSem.Claim
import GoSem.ClaimJoined
import GoSem.ClaimMapViews
import Derived.JoinedTies
import Derived.KernelRfl
namespace Go.Proofs.Ytilddfgifjejbaa
/- THE CELL 'sum', in the pinned program and in every row, IS THE sha256 OF THE DUMP (.gsa) THAT YtilddfgifjejbaaProg.lean LOADS. Nothing in Lean hashes anything: it is a label: what it is worth is what the hold of that sum in a sandbox is worth. -/
noncomputable def Try.pinned : Pinned := { name := "ytilddfgifjejbaa", sum := "94ba7c9c3f90d2318753a27300119ed5a150a6d78c231da8de2f66ccf79f5bb6", checked := Try.checked }
namespace Rows
def none {H : Type} : Left H := { results := [], args := [] }

/-- 'laws.FnKinFields': WHATEVER THE INPUT: true; the input reads as it did. -/
def fnKinFieldsSpec : ChangeSpec := { name := "fnKinFields", fn := fun _ => fun
  | [d] => { results := [.lit (.bool true)], args := [d] }
  | _ => none }
def fnKinFieldsRow : OpenClaim := { program := "ytilddfgifjejbaa", sum := "94ba7c9c3f90d2318753a27300119ed5a150a6d78c231da8de2f66ccf79f5bb6", func := "loop.example/lairage/laws.FnKinFields", spec := "fnKinFields", unfollowed := true, recurses := true, plainKeys := false, apart := false }
def FnKinFieldsSaid : Prop := fnKinFieldsRow.holds Try.pinned (OpenSpec.ofChange fnKinFieldsSpec)

/-- ITS FALSE NEIGHBOUR: 'it returns false'. Refute it at one input. -/
def fnKinFieldsWrong : ChangeSpec := { name := "fnKinFields", fn := fun _ => fun
  | [d] => { results := [.lit (.bool false)], args := [d] }
  | _ => none }
def FnKinFieldsWrongFalsely : Prop := fnKinFieldsRow.holds Try.pinned (OpenSpec.ofChange fnKinFieldsWrong)

/-- 'laws.FnKinTwin': WHATEVER THE INPUT: true; the input reads as it did. -/
def fnKinTwinSpec : ChangeSpec := { name := "fnKinTwin", fn := fun _ => fun
  | [d] => { results := [.lit (.bool true)], args := [d] }
  | _ => none }
def fnKinTwinRow : OpenClaim := { program := "ytilddfgifjejbaa", sum := "94ba7c9c3f90d2318753a27300119ed5a150a6d78c231da8de2f66ccf79f5bb6", func := "loop.example/lairage/laws.FnKinTwin", spec := "fnKinTwin", unfollowed := true, recurses := true, plainKeys := false, apart := false }
def FnKinTwinSaid : Prop := fnKinTwinRow.holds Try.pinned (OpenSpec.ofChange fnKinTwinSpec)

/-- ITS FALSE NEIGHBOUR: 'it returns false'. Refute it at one input. -/
def fnKinTwinWrong : ChangeSpec := { name := "fnKinTwin", fn := fun _ => fun
  | [d] => { results := [.lit (.bool false)], args := [d] }
  | _ => none }
def FnKinTwinWrongFalsely : Prop := fnKinTwinRow.holds Try.pinned (OpenSpec.ofChange fnKinTwinWrong)

/-- 'laws.FnKinCut': WHATEVER THE INPUT: true; the input reads as it did. -/
def fnKinCutSpec : ChangeSpec := { name := "fnKinCut", fn := fun _ => fun
  | [d1, d2] => { results := [.lit (.bool true)], args := [d1, d2] }
  | _ => none }
def fnKinCutRow : OpenClaim := { program := "ytilddfgifjejbaa", sum := "94ba7c9c3f90d2318753a27300119ed5a150a6d78c231da8de2f66ccf79f5bb6", func := "loop.example/lairage/laws.FnKinCut", spec := "fnKinCut", unfollowed := true, recurses := true, plainKeys := false, apart := false }
def FnKinCutSaid : Prop := fnKinCutRow.holds Try.pinned (OpenSpec.ofChange fnKinCutSpec)

/-- ITS FALSE NEIGHBOUR: 'it returns false'. Refute it at one input. -/
def fnKinCutWrong : ChangeSpec := { name := "fnKinCut", fn := fun _ => fun
  | [d1, d2] => { results := [.lit (.bool false)], args := [d1, d2] }
  | _ => none }
def FnKinCutWrongFalsely : Prop := fnKinCutRow.holds Try.pinned (OpenSpec.ofChange fnKinCutWrong)

/-- 'laws.FnExactKinLine': WHATEVER THE INPUT: true; the input reads as it did. -/
def fnExactKinLineSpec : ChangeSpec := { name := "fnExactKinLine", fn := fun _ => fun
  | [d1, d2] => { results := [.lit (.bool true)], args := [d1, d2] }
  | _ => none }
def fnExactKinLineRow : OpenClaim := { program := "ytilddfgifjejbaa", sum := "94ba7c9c3f90d2318753a27300119ed5a150a6d78c231da8de2f66ccf79f5bb6", func := "loop.example/lairage/laws.FnExactKinLine", spec := "fnExactKinLine", unfollowed := true, recurses := true, plainKeys := false, apart := false }
def FnExactKinLineSaid : Prop := fnExactKinLineRow.holds Try.pinned (OpenSpec.ofChange fnExactKinLineSpec)

/-- ITS FALSE NEIGHBOUR: 'it returns false'. Refute it at one input. -/
def fnExactKinLineWrong : ChangeSpec := { name := "fnExactKinLine", fn := fun _ => fun
  | [d1, d2] => { results := [.lit (.bool false)], args := [d1, d2] }
  | _ => none }
def FnExactKinLineWrongFalsely : Prop := fnExactKinLineRow.holds Try.pinned (OpenSpec.ofChange fnExactKinLineWrong)

/-- 'laws.FnKinLine': WHATEVER THE INPUT: true; the input reads as it did. -/
def fnKinLineSpec : ChangeSpec := { name := "fnKinLine", fn := fun _ => fun
  | [d] => { results := [.lit (.bool true)], args := [d] }
  | _ => none }
def fnKinLineRow : OpenClaim := { program := "ytilddfgifjejbaa", sum := "94ba7c9c3f90d2318753a27300119ed5a150a6d78c231da8de2f66ccf79f5bb6", func := "loop.example/lairage/laws.FnKinLine", spec := "fnKinLine", unfollowed := true, recurses := true, plainKeys := false, apart := false }
def FnKinLineSaid : Prop := fnKinLineRow.holds Try.pinned (OpenSpec.ofChange fnKinLineSpec)

/-- ITS FALSE NEIGHBOUR: 'it returns false'. Refute it at one input. -/
def fnKinLineWrong : ChangeSpec := { name := "fnKinLine", fn := fun _ => fun
  | [d] => { results := [.lit (.bool false)], args := [d] }
  | _ => none }
def FnKinLineWrongFalsely : Prop := fnKinLineRow.holds Try.pinned (OpenSpec.ofChange fnKinLineWrong)

/- THE SECOND FORM. 'bulk': how many values and letters a reading holds, each counted each time it is reached (what is shared counts as often as it is met; a slice's spare places count too). A statement '..UptoSaid' is the law's where the arguments, and the package variables that the reading takes, are together of bulk at most 1048576: NARROWER than '..Said'. Prove '..Said' where nothing that the law and all that it calls make is longer than what came in: it says more and counts as full. Else prove '..UptoSaid'. A law counts once. -/
mutual
def uptoBulk {H : Type} : DataW H → Nat
  | .lit (.string bytes) => bytes.length + 1
  | .lit _ => 1
  | .nil => 1
  | .ptr d => uptoBulk d + 1
  | .slice elems spare => uptoBulkAll elems + uptoBulkAll spare + 1
  | .agg parts => uptoBulkAll parts + 1
  | .iface _ d => uptoBulk d + 1
  | .map entries => uptoBulkEntries entries + 1
  | .held _ => 1
def uptoBulkAll {H : Type} : List (DataW H) → Nat
  | [] => 0
  | d :: r => uptoBulk d + uptoBulkAll r
def uptoBulkEntries {H : Type} : List (Lit × DataW H) → Nat
  | [] => 0
  | x :: r => uptoBulkEntry x + uptoBulkEntries r
def uptoBulkEntry {H : Type} : Lit × DataW H → Nat
  | (.string bytes, d) => bytes.length + uptoBulk d + 1
  | (_, d) => uptoBulk d + 1
 end
def uptoSmall : (H : Type) → List (DataW H) → Bool := fun _ ds => decide (uptoBulkAll ds ≤ 1048576)
def OpenSpec.upto (s : _root_.Go.ChangeSpec) : _root_.Go.OpenSpec := { _root_.Go.OpenSpec.ofChange s with cond := some uptoSmall }

/-- 'laws.FnKinFields', WHERE WHAT IT READS IS OF BULK AT MOST 1048576: true; the input reads as it did. -/
def fnKinFieldsUptoRow : OpenClaim := { program := "ytilddfgifjejbaa", sum := "94ba7c9c3f90d2318753a27300119ed5a150a6d78c231da8de2f66ccf79f5bb6", func := "loop.example/lairage/laws.FnKinFields", spec := "fnKinFields", unfollowed := true, recurses := true, plainKeys := false, apart := false, narrowed := true }
def FnKinFieldsUptoSaid : Prop := fnKinFieldsUptoRow.holds Try.pinned (OpenSpec.upto fnKinFieldsSpec)

/-- 'laws.FnKinTwin', WHERE WHAT IT READS IS OF BULK AT MOST 1048576: true; the input reads as it did. -/
def fnKinTwinUptoRow : OpenClaim := { program := "ytilddfgifjejbaa", sum := "94ba7c9c3f90d2318753a27300119ed5a150a6d78c231da8de2f66ccf79f5bb6", func := "loop.example/lairage/laws.FnKinTwin", spec := "fnKinTwin", unfollowed := true, recurses := true, plainKeys := false, apart := false, narrowed := true }
def FnKinTwinUptoSaid : Prop := fnKinTwinUptoRow.holds Try.pinned (OpenSpec.upto fnKinTwinSpec)

/-- 'laws.FnKinCut', WHERE WHAT IT READS IS OF BULK AT MOST 1048576: true; the input reads as it did. -/
def fnKinCutUptoRow : OpenClaim := { program := "ytilddfgifjejbaa", sum := "94ba7c9c3f90d2318753a27300119ed5a150a6d78c231da8de2f66ccf79f5bb6", func := "loop.example/lairage/laws.FnKinCut", spec := "fnKinCut", unfollowed := true, recurses := true, plainKeys := false, apart := false, narrowed := true }
def FnKinCutUptoSaid : Prop := fnKinCutUptoRow.holds Try.pinned (OpenSpec.upto fnKinCutSpec)

/-- 'laws.FnExactKinLine', WHERE WHAT IT READS IS OF BULK AT MOST 1048576: true; the input reads as it did. -/
def fnExactKinLineUptoRow : OpenClaim := { program := "ytilddfgifjejbaa", sum := "94ba7c9c3f90d2318753a27300119ed5a150a6d78c231da8de2f66ccf79f5bb6", func := "loop.example/lairage/laws.FnExactKinLine", spec := "fnExactKinLine", unfollowed := true, recurses := true, plainKeys := false, apart := false, narrowed := true }
def FnExactKinLineUptoSaid : Prop := fnExactKinLineUptoRow.holds Try.pinned (OpenSpec.upto fnExactKinLineSpec)

/-- 'laws.FnKinLine', WHERE WHAT IT READS IS OF BULK AT MOST 1048576: true; the input reads as it did. -/
def fnKinLineUptoRow : OpenClaim := { program := "ytilddfgifjejbaa", sum := "94ba7c9c3f90d2318753a27300119ed5a150a6d78c231da8de2f66ccf79f5bb6", func := "loop.example/lairage/laws.FnKinLine", spec := "fnKinLine", unfollowed := true, recurses := true, plainKeys := false, apart := false, narrowed := true }
def FnKinLineUptoSaid : Prop := fnKinLineUptoRow.holds Try.pinned (OpenSpec.upto fnKinLineSpec)

end Rows
end Go.Proofs.Ytilddfgifjejbaa
