/-
  No cell of these rows narrows 'for every input' (looked for: loops, veiled, ifaces, maps, wideKeys, modest, calm, conditions, laid).
  DERIVED. THE GIVEN ROWS OF THIS SEAT. 8 by the template 'for every input the law returns true; each argument reads behind the call as it read before'; 0 by the template 'total and deterministic' (their statements: YmwhatTotals.lean).
  GIVEN WITH THE SEED: the statements are not yours to turn. If you find one false, say at which input.
  Laid BY PROGRAM, IN A SANDBOX (cutbox-rows.mjs): the forced cells as the released guide's own fill.sh prints them over the translation bd27d9de7ed184d8… (all of the seat's roots in one cut). By AI agents, Wed Nov 11 2026. No macro, syntax, notation, axiom, sorry.
-/
import Derived.Test.YmwhatChecked
import GoSem.Claim
import GoSem.ClaimJoined
import GoSem.ClaimMapViews
import Derived.JoinedTies
import Derived.KernelRfl
namespace Go.Proofs.Ymwhat
/- THE CELL 'sum', in the pinned program and in every row, IS THE sha256 OF THE DUMP (.gsa) THAT YmwhatProg.lean LOADS. Nothing in Lean hashes anything: it is a label: what it is worth is what the hold of that sum in a sandbox is worth. -/
noncomputable def Yatv.pinned : Pinned := { name := "ymwhat", sum := "bd27d9de7ed184d810689ceea8403435bba737f4be1c0ba44196c6c4caca1fba", checked := Yatv.checked }
namespace Rows
def none {H : Type} : Left H := { results := [], args := [] }

/-- 'trie.LawS930010QAAWhole': WHATEVER THE INPUT: true; the input reads as it did. -/
def lawS930010QAAWholeSpec : ChangeSpec := { name := "lawS930010QAAWhole", fn := fun _ => fun
  | [d1, d2, d3] => { results := [.lit (.bool true)], args := [d1, d2, d3] }
  | _ => none }
def lawS930010QAAWholeRow : OpenClaim := { program := "ymwhat", sum := "bd27d9de7ed184d810689ceea8403435bba737f4be1c0ba44196c6c4caca1fba", func := "example.com/own/trie.LawS930010QAAWhole", spec := "lawS930010QAAWhole", apart := false }
def LawS930010QAAWholeSaid : Prop := lawS930010QAAWholeRow.holds Yatv.pinned (OpenSpec.ofChange lawS930010QAAWholeSpec)

/-- ITS FALSE NEIGHBOUR: 'it returns false'. Refute it at one input. -/
def lawS930010QAAWholeWrong : ChangeSpec := { name := "lawS930010QAAWhole", fn := fun _ => fun
  | [d1, d2, d3] => { results := [.lit (.bool false)], args := [d1, d2, d3] }
  | _ => none }
def LawS930010QAAWholeWrongFalsely : Prop := lawS930010QAAWholeRow.holds Yatv.pinned (OpenSpec.ofChange lawS930010QAAWholeWrong)

/-- 'trie.LawS930010QADWhole': WHATEVER THE INPUT: true; the input reads as it did. -/
def lawS930010QADWholeSpec : ChangeSpec := { name := "lawS930010QADWhole", fn := fun _ => fun
  | [d1, d2, d3] => { results := [.lit (.bool true)], args := [d1, d2, d3] }
  | _ => none }
def lawS930010QADWholeRow : OpenClaim := { program := "ymwhat", sum := "bd27d9de7ed184d810689ceea8403435bba737f4be1c0ba44196c6c4caca1fba", func := "example.com/own/trie.LawS930010QADWhole", spec := "lawS930010QADWhole", apart := false }
def LawS930010QADWholeSaid : Prop := lawS930010QADWholeRow.holds Yatv.pinned (OpenSpec.ofChange lawS930010QADWholeSpec)

/-- ITS FALSE NEIGHBOUR: 'it returns false'. Refute it at one input. -/
def lawS930010QADWholeWrong : ChangeSpec := { name := "lawS930010QADWhole", fn := fun _ => fun
  | [d1, d2, d3] => { results := [.lit (.bool false)], args := [d1, d2, d3] }
  | _ => none }
def LawS930010QADWholeWrongFalsely : Prop := lawS930010QADWholeRow.holds Yatv.pinned (OpenSpec.ofChange lawS930010QADWholeWrong)

/-- 'trie.LawS930010QAEWhole': WHATEVER THE INPUT: true; the input reads as it did. -/
def lawS930010QAEWholeSpec : ChangeSpec := { name := "lawS930010QAEWhole", fn := fun _ => fun
  | [d1, d2, d3] => { results := [.lit (.bool true)], args := [d1, d2, d3] }
  | _ => none }
def lawS930010QAEWholeRow : OpenClaim := { program := "ymwhat", sum := "bd27d9de7ed184d810689ceea8403435bba737f4be1c0ba44196c6c4caca1fba", func := "example.com/own/trie.LawS930010QAEWhole", spec := "lawS930010QAEWhole", apart := false }
def LawS930010QAEWholeSaid : Prop := lawS930010QAEWholeRow.holds Yatv.pinned (OpenSpec.ofChange lawS930010QAEWholeSpec)

/-- ITS FALSE NEIGHBOUR: 'it returns false'. Refute it at one input. -/
def lawS930010QAEWholeWrong : ChangeSpec := { name := "lawS930010QAEWhole", fn := fun _ => fun
  | [d1, d2, d3] => { results := [.lit (.bool false)], args := [d1, d2, d3] }
  | _ => none }
def LawS930010QAEWholeWrongFalsely : Prop := lawS930010QAEWholeRow.holds Yatv.pinned (OpenSpec.ofChange lawS930010QAEWholeWrong)

/-- 'trie.LawS930010QAFWhole': WHATEVER THE INPUT: true; the input reads as it did. -/
def lawS930010QAFWholeSpec : ChangeSpec := { name := "lawS930010QAFWhole", fn := fun _ => fun
  | [d1, d2, d3] => { results := [.lit (.bool true)], args := [d1, d2, d3] }
  | _ => none }
def lawS930010QAFWholeRow : OpenClaim := { program := "ymwhat", sum := "bd27d9de7ed184d810689ceea8403435bba737f4be1c0ba44196c6c4caca1fba", func := "example.com/own/trie.LawS930010QAFWhole", spec := "lawS930010QAFWhole", apart := false }
def LawS930010QAFWholeSaid : Prop := lawS930010QAFWholeRow.holds Yatv.pinned (OpenSpec.ofChange lawS930010QAFWholeSpec)

/-- ITS FALSE NEIGHBOUR: 'it returns false'. Refute it at one input. -/
def lawS930010QAFWholeWrong : ChangeSpec := { name := "lawS930010QAFWhole", fn := fun _ => fun
  | [d1, d2, d3] => { results := [.lit (.bool false)], args := [d1, d2, d3] }
  | _ => none }
def LawS930010QAFWholeWrongFalsely : Prop := lawS930010QAFWholeRow.holds Yatv.pinned (OpenSpec.ofChange lawS930010QAFWholeWrong)

/-- 'trie.LawS930010QAHWhole': WHATEVER THE INPUT: true; the input reads as it did. -/
def lawS930010QAHWholeSpec : ChangeSpec := { name := "lawS930010QAHWhole", fn := fun _ => fun
  | [d1, d2, d3] => { results := [.lit (.bool true)], args := [d1, d2, d3] }
  | _ => none }
def lawS930010QAHWholeRow : OpenClaim := { program := "ymwhat", sum := "bd27d9de7ed184d810689ceea8403435bba737f4be1c0ba44196c6c4caca1fba", func := "example.com/own/trie.LawS930010QAHWhole", spec := "lawS930010QAHWhole", recurses := true, apart := false }
def LawS930010QAHWholeSaid : Prop := lawS930010QAHWholeRow.holds Yatv.pinned (OpenSpec.ofChange lawS930010QAHWholeSpec)

/-- ITS FALSE NEIGHBOUR: 'it returns false'. Refute it at one input. -/
def lawS930010QAHWholeWrong : ChangeSpec := { name := "lawS930010QAHWhole", fn := fun _ => fun
  | [d1, d2, d3] => { results := [.lit (.bool false)], args := [d1, d2, d3] }
  | _ => none }
def LawS930010QAHWholeWrongFalsely : Prop := lawS930010QAHWholeRow.holds Yatv.pinned (OpenSpec.ofChange lawS930010QAHWholeWrong)

/-- 'trie.LawS930010QAGWhole': WHATEVER THE INPUT: true; the input reads as it did. -/
def lawS930010QAGWholeSpec : ChangeSpec := { name := "lawS930010QAGWhole", fn := fun _ => fun
  | [d1, d2] => { results := [.lit (.bool true)], args := [d1, d2] }
  | _ => none }
def lawS930010QAGWholeRow : OpenClaim := { program := "ymwhat", sum := "bd27d9de7ed184d810689ceea8403435bba737f4be1c0ba44196c6c4caca1fba", func := "example.com/own/trie.LawS930010QAGWhole", spec := "lawS930010QAGWhole", apart := false }
def LawS930010QAGWholeSaid : Prop := lawS930010QAGWholeRow.holds Yatv.pinned (OpenSpec.ofChange lawS930010QAGWholeSpec)

/-- ITS FALSE NEIGHBOUR: 'it returns false'. Refute it at one input. -/
def lawS930010QAGWholeWrong : ChangeSpec := { name := "lawS930010QAGWhole", fn := fun _ => fun
  | [d1, d2] => { results := [.lit (.bool false)], args := [d1, d2] }
  | _ => none }
def LawS930010QAGWholeWrongFalsely : Prop := lawS930010QAGWholeRow.holds Yatv.pinned (OpenSpec.ofChange lawS930010QAGWholeWrong)

/-- 'trie.LawS930010QACWhole': WHATEVER THE INPUT: true; the input reads as it did. -/
def lawS930010QACWholeSpec : ChangeSpec := { name := "lawS930010QACWhole", fn := fun _ => fun
  | [d1, d2, d3] => { results := [.lit (.bool true)], args := [d1, d2, d3] }
  | _ => none }
def lawS930010QACWholeRow : OpenClaim := { program := "ymwhat", sum := "bd27d9de7ed184d810689ceea8403435bba737f4be1c0ba44196c6c4caca1fba", func := "example.com/own/trie.LawS930010QACWhole", spec := "lawS930010QACWhole", apart := false }
def LawS930010QACWholeSaid : Prop := lawS930010QACWholeRow.holds Yatv.pinned (OpenSpec.ofChange lawS930010QACWholeSpec)

/-- ITS FALSE NEIGHBOUR: 'it returns false'. Refute it at one input. -/
def lawS930010QACWholeWrong : ChangeSpec := { name := "lawS930010QACWhole", fn := fun _ => fun
  | [d1, d2, d3] => { results := [.lit (.bool false)], args := [d1, d2, d3] }
  | _ => none }
def LawS930010QACWholeWrongFalsely : Prop := lawS930010QACWholeRow.holds Yatv.pinned (OpenSpec.ofChange lawS930010QACWholeWrong)

/-- 'trie.LawS930010QABWhole': WHATEVER THE INPUT: true; the input reads as it did. -/
def lawS930010QABWholeSpec : ChangeSpec := { name := "lawS930010QABWhole", fn := fun _ => fun
  | [d1, d2, d3] => { results := [.lit (.bool true)], args := [d1, d2, d3] }
  | _ => none }
def lawS930010QABWholeRow : OpenClaim := { program := "ymwhat", sum := "bd27d9de7ed184d810689ceea8403435bba737f4be1c0ba44196c6c4caca1fba", func := "example.com/own/trie.LawS930010QABWhole", spec := "lawS930010QABWhole", apart := false }
def LawS930010QABWholeSaid : Prop := lawS930010QABWholeRow.holds Yatv.pinned (OpenSpec.ofChange lawS930010QABWholeSpec)

/-- ITS FALSE NEIGHBOUR: 'it returns false'. Refute it at one input. -/
def lawS930010QABWholeWrong : ChangeSpec := { name := "lawS930010QABWhole", fn := fun _ => fun
  | [d1, d2, d3] => { results := [.lit (.bool false)], args := [d1, d2, d3] }
  | _ => none }
def LawS930010QABWholeWrongFalsely : Prop := lawS930010QABWholeRow.holds Yatv.pinned (OpenSpec.ofChange lawS930010QABWholeWrong)

end Rows
end Go.Proofs.Ymwhat
