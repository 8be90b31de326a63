/-
  No cell of these rows narrows 'for every input' (looked for: loops, veiled, ifaces, maps, wideKeys, modest, calm, conditions, laid).
  DERIVED. THE GIVEN ROWS OF THIS SEAT. 11 by the template 'for every input the law returns true; each argument reads behind the call as it read before'; 0 by the template 'total and deterministic' (their statements: YtgoeadbjnjkgjaaTotals.lean).
  GIVEN WITH THE SEED: the statements are not yours to turn. If you find one false, say at which input.
  Laid BY PROGRAM, IN A SANDBOX (cutbox-rows.mjs): the forced cells as the released guide's own fill.sh prints them over the translation 96ca61de2a20b404… (all of the seat's roots in one cut). By AI agents, Wed Nov 11 2026. No macro, syntax, notation, axiom, sorry.
-/
import Derived.Test.YtgoeadbjnjkgjaaChecked
import GoSem.Claim
import GoSem.ClaimJoined
import GoSem.ClaimMapViews
import Derived.JoinedTies
import Derived.KernelRfl
namespace Go.Proofs.Ytgoeadbjnjkgjaa
/- THE CELL 'sum', in the pinned program and in every row, IS THE sha256 OF THE DUMP (.gsa) THAT YtgoeadbjnjkgjaaProg.lean LOADS. Nothing in Lean hashes anything: it is a label: what it is worth is what the hold of that sum in a sandbox is worth. -/
noncomputable def Try.pinned : Pinned := { name := "ytgoeadbjnjkgjaa", sum := "96ca61de2a20b4048b239fac9be36cc57073d9f3f541b175d7743c7dab1b85e0", checked := Try.checked }
namespace Rows
def none {H : Type} : Left H := { results := [], args := [] }

/-- 'laws.FnExactFromBits': WHATEVER THE INPUT: true; the input reads as it did. -/
def fnExactFromBitsSpec : ChangeSpec := { name := "fnExactFromBits", fn := fun _ => fun
  | [d] => { results := [.lit (.bool true)], args := [d] }
  | _ => none }
def fnExactFromBitsRow : OpenClaim := { program := "ytgoeadbjnjkgjaa", sum := "96ca61de2a20b4048b239fac9be36cc57073d9f3f541b175d7743c7dab1b85e0", func := "loop.example/g01226/laws.FnExactFromBits", spec := "fnExactFromBits", inPlace := ["math.Float32frombits"], apart := false }
def FnExactFromBitsSaid : Prop := fnExactFromBitsRow.holds Try.pinned (OpenSpec.ofChange fnExactFromBitsSpec)

/-- ITS FALSE NEIGHBOUR: 'it returns false'. Refute it at one input. -/
def fnExactFromBitsWrong : ChangeSpec := { name := "fnExactFromBits", fn := fun _ => fun
  | [d] => { results := [.lit (.bool false)], args := [d] }
  | _ => none }
def FnExactFromBitsWrongFalsely : Prop := fnExactFromBitsRow.holds Try.pinned (OpenSpec.ofChange fnExactFromBitsWrong)

/-- 'laws.FnExactFlushNumber': WHATEVER THE INPUT: true; the input reads as it did. -/
def fnExactFlushNumberSpec : ChangeSpec := { name := "fnExactFlushNumber", fn := fun _ => fun
  | [d] => { results := [.lit (.bool true)], args := [d] }
  | _ => none }
def fnExactFlushNumberRow : OpenClaim := { program := "ytgoeadbjnjkgjaa", sum := "96ca61de2a20b4048b239fac9be36cc57073d9f3f541b175d7743c7dab1b85e0", func := "loop.example/g01226/laws.FnExactFlushNumber", spec := "fnExactFlushNumber", inPlace := ["math.Float32bits", "math.Float32frombits", "math.Float64bits", "math.Float64frombits"], apart := false }
def FnExactFlushNumberSaid : Prop := fnExactFlushNumberRow.holds Try.pinned (OpenSpec.ofChange fnExactFlushNumberSpec)

/-- ITS FALSE NEIGHBOUR: 'it returns false'. Refute it at one input. -/
def fnExactFlushNumberWrong : ChangeSpec := { name := "fnExactFlushNumber", fn := fun _ => fun
  | [d] => { results := [.lit (.bool false)], args := [d] }
  | _ => none }
def FnExactFlushNumberWrongFalsely : Prop := fnExactFlushNumberRow.holds Try.pinned (OpenSpec.ofChange fnExactFlushNumberWrong)

/-- 'laws.FnExactCheckOf': WHATEVER THE INPUT: true; the input reads as it did. -/
def fnExactCheckOfSpec : ChangeSpec := { name := "fnExactCheckOf", fn := fun _ => fun
  | [d1, d2] => { results := [.lit (.bool true)], args := [d1, d2] }
  | _ => none }
def fnExactCheckOfRow : OpenClaim := { program := "ytgoeadbjnjkgjaa", sum := "96ca61de2a20b4048b239fac9be36cc57073d9f3f541b175d7743c7dab1b85e0", func := "loop.example/g01226/laws.FnExactCheckOf", spec := "fnExactCheckOf", apart := false }
def FnExactCheckOfSaid : Prop := fnExactCheckOfRow.holds Try.pinned (OpenSpec.ofChange fnExactCheckOfSpec)

/-- ITS FALSE NEIGHBOUR: 'it returns false'. Refute it at one input. -/
def fnExactCheckOfWrong : ChangeSpec := { name := "fnExactCheckOf", fn := fun _ => fun
  | [d1, d2] => { results := [.lit (.bool false)], args := [d1, d2] }
  | _ => none }
def FnExactCheckOfWrongFalsely : Prop := fnExactCheckOfRow.holds Try.pinned (OpenSpec.ofChange fnExactCheckOfWrong)

/-- 'laws.FnExactIsField': WHATEVER THE INPUT: true; the input reads as it did. -/
def fnExactIsFieldSpec : ChangeSpec := { name := "fnExactIsField", fn := fun _ => fun
  | [d1, d2] => { results := [.lit (.bool true)], args := [d1, d2] }
  | _ => none }
def fnExactIsFieldRow : OpenClaim := { program := "ytgoeadbjnjkgjaa", sum := "96ca61de2a20b4048b239fac9be36cc57073d9f3f541b175d7743c7dab1b85e0", func := "loop.example/g01226/laws.FnExactIsField", spec := "fnExactIsField", apart := false }
def FnExactIsFieldSaid : Prop := fnExactIsFieldRow.holds Try.pinned (OpenSpec.ofChange fnExactIsFieldSpec)

/-- ITS FALSE NEIGHBOUR: 'it returns false'. Refute it at one input. -/
def fnExactIsFieldWrong : ChangeSpec := { name := "fnExactIsField", fn := fun _ => fun
  | [d1, d2] => { results := [.lit (.bool false)], args := [d1, d2] }
  | _ => none }
def FnExactIsFieldWrongFalsely : Prop := fnExactIsFieldRow.holds Try.pinned (OpenSpec.ofChange fnExactIsFieldWrong)

/-- 'laws.FnExactSumNumbers': WHATEVER THE INPUT: true; the input reads as it did. -/
def fnExactSumNumbersSpec : ChangeSpec := { name := "fnExactSumNumbers", fn := fun _ => fun
  | [d] => { results := [.lit (.bool true)], args := [d] }
  | _ => none }
def fnExactSumNumbersRow : OpenClaim := { program := "ytgoeadbjnjkgjaa", sum := "96ca61de2a20b4048b239fac9be36cc57073d9f3f541b175d7743c7dab1b85e0", func := "loop.example/g01226/laws.FnExactSumNumbers", spec := "fnExactSumNumbers", apart := false }
def FnExactSumNumbersSaid : Prop := fnExactSumNumbersRow.holds Try.pinned (OpenSpec.ofChange fnExactSumNumbersSpec)

/-- ITS FALSE NEIGHBOUR: 'it returns false'. Refute it at one input. -/
def fnExactSumNumbersWrong : ChangeSpec := { name := "fnExactSumNumbers", fn := fun _ => fun
  | [d] => { results := [.lit (.bool false)], args := [d] }
  | _ => none }
def FnExactSumNumbersWrongFalsely : Prop := fnExactSumNumbersRow.holds Try.pinned (OpenSpec.ofChange fnExactSumNumbersWrong)

/-- 'laws.FnExactTotalOf': WHATEVER THE INPUT: true; the input reads as it did. -/
def fnExactTotalOfSpec : ChangeSpec := { name := "fnExactTotalOf", fn := fun _ => fun
  | [d] => { results := [.lit (.bool true)], args := [d] }
  | _ => none }
def fnExactTotalOfRow : OpenClaim := { program := "ytgoeadbjnjkgjaa", sum := "96ca61de2a20b4048b239fac9be36cc57073d9f3f541b175d7743c7dab1b85e0", func := "loop.example/g01226/laws.FnExactTotalOf", spec := "fnExactTotalOf", apart := false }
def FnExactTotalOfSaid : Prop := fnExactTotalOfRow.holds Try.pinned (OpenSpec.ofChange fnExactTotalOfSpec)

/-- ITS FALSE NEIGHBOUR: 'it returns false'. Refute it at one input. -/
def fnExactTotalOfWrong : ChangeSpec := { name := "fnExactTotalOf", fn := fun _ => fun
  | [d] => { results := [.lit (.bool false)], args := [d] }
  | _ => none }
def FnExactTotalOfWrongFalsely : Prop := fnExactTotalOfRow.holds Try.pinned (OpenSpec.ofChange fnExactTotalOfWrong)

/-- 'laws.FnExactDotNumbers': WHATEVER THE INPUT: true; the input reads as it did. -/
def fnExactDotNumbersSpec : ChangeSpec := { name := "fnExactDotNumbers", fn := fun _ => fun
  | [d1, d2] => { results := [.lit (.bool true)], args := [d1, d2] }
  | _ => none }
def fnExactDotNumbersRow : OpenClaim := { program := "ytgoeadbjnjkgjaa", sum := "96ca61de2a20b4048b239fac9be36cc57073d9f3f541b175d7743c7dab1b85e0", func := "loop.example/g01226/laws.FnExactDotNumbers", spec := "fnExactDotNumbers", apart := false }
def FnExactDotNumbersSaid : Prop := fnExactDotNumbersRow.holds Try.pinned (OpenSpec.ofChange fnExactDotNumbersSpec)

/-- ITS FALSE NEIGHBOUR: 'it returns false'. Refute it at one input. -/
def fnExactDotNumbersWrong : ChangeSpec := { name := "fnExactDotNumbers", fn := fun _ => fun
  | [d1, d2] => { results := [.lit (.bool false)], args := [d1, d2] }
  | _ => none }
def FnExactDotNumbersWrongFalsely : Prop := fnExactDotNumbersRow.holds Try.pinned (OpenSpec.ofChange fnExactDotNumbersWrong)

/-- 'laws.FnExactAddFields': WHATEVER THE INPUT: true; the input reads as it did. -/
def fnExactAddFieldsSpec : ChangeSpec := { name := "fnExactAddFields", fn := fun _ => fun
  | [d1, d2, d3] => { results := [.lit (.bool true)], args := [d1, d2, d3] }
  | _ => none }
def fnExactAddFieldsRow : OpenClaim := { program := "ytgoeadbjnjkgjaa", sum := "96ca61de2a20b4048b239fac9be36cc57073d9f3f541b175d7743c7dab1b85e0", func := "loop.example/g01226/laws.FnExactAddFields", spec := "fnExactAddFields", apart := false }
def FnExactAddFieldsSaid : Prop := fnExactAddFieldsRow.holds Try.pinned (OpenSpec.ofChange fnExactAddFieldsSpec)

/-- ITS FALSE NEIGHBOUR: 'it returns false'. Refute it at one input. -/
def fnExactAddFieldsWrong : ChangeSpec := { name := "fnExactAddFields", fn := fun _ => fun
  | [d1, d2, d3] => { results := [.lit (.bool false)], args := [d1, d2, d3] }
  | _ => none }
def FnExactAddFieldsWrongFalsely : Prop := fnExactAddFieldsRow.holds Try.pinned (OpenSpec.ofChange fnExactAddFieldsWrong)

/-- 'laws.FnExactScaleField': WHATEVER THE INPUT: true; the input reads as it did. -/
def fnExactScaleFieldSpec : ChangeSpec := { name := "fnExactScaleField", fn := fun _ => fun
  | [d1, d2, d3] => { results := [.lit (.bool true)], args := [d1, d2, d3] }
  | _ => none }
def fnExactScaleFieldRow : OpenClaim := { program := "ytgoeadbjnjkgjaa", sum := "96ca61de2a20b4048b239fac9be36cc57073d9f3f541b175d7743c7dab1b85e0", func := "loop.example/g01226/laws.FnExactScaleField", spec := "fnExactScaleField", apart := false }
def FnExactScaleFieldSaid : Prop := fnExactScaleFieldRow.holds Try.pinned (OpenSpec.ofChange fnExactScaleFieldSpec)

/-- ITS FALSE NEIGHBOUR: 'it returns false'. Refute it at one input. -/
def fnExactScaleFieldWrong : ChangeSpec := { name := "fnExactScaleField", fn := fun _ => fun
  | [d1, d2, d3] => { results := [.lit (.bool false)], args := [d1, d2, d3] }
  | _ => none }
def FnExactScaleFieldWrongFalsely : Prop := fnExactScaleFieldRow.holds Try.pinned (OpenSpec.ofChange fnExactScaleFieldWrong)

/-- 'laws.FnExactShiftField': WHATEVER THE INPUT: true; the input reads as it did. -/
def fnExactShiftFieldSpec : ChangeSpec := { name := "fnExactShiftField", fn := fun _ => fun
  | [d1, d2, d3, d4] => { results := [.lit (.bool true)], args := [d1, d2, d3, d4] }
  | _ => none }
def fnExactShiftFieldRow : OpenClaim := { program := "ytgoeadbjnjkgjaa", sum := "96ca61de2a20b4048b239fac9be36cc57073d9f3f541b175d7743c7dab1b85e0", func := "loop.example/g01226/laws.FnExactShiftField", spec := "fnExactShiftField", apart := false }
def FnExactShiftFieldSaid : Prop := fnExactShiftFieldRow.holds Try.pinned (OpenSpec.ofChange fnExactShiftFieldSpec)

/-- ITS FALSE NEIGHBOUR: 'it returns false'. Refute it at one input. -/
def fnExactShiftFieldWrong : ChangeSpec := { name := "fnExactShiftField", fn := fun _ => fun
  | [d1, d2, d3, d4] => { results := [.lit (.bool false)], args := [d1, d2, d3, d4] }
  | _ => none }
def FnExactShiftFieldWrongFalsely : Prop := fnExactShiftFieldRow.holds Try.pinned (OpenSpec.ofChange fnExactShiftFieldWrong)

/-- 'laws.FnExactRootNumber': WHATEVER THE INPUT: true; the input reads as it did. -/
def fnExactRootNumberSpec : ChangeSpec := { name := "fnExactRootNumber", fn := fun _ => fun
  | [d] => { results := [.lit (.bool true)], args := [d] }
  | _ => none }
def fnExactRootNumberRow : OpenClaim := { program := "ytgoeadbjnjkgjaa", sum := "96ca61de2a20b4048b239fac9be36cc57073d9f3f541b175d7743c7dab1b85e0", func := "loop.example/g01226/laws.FnExactRootNumber", spec := "fnExactRootNumber", inPlace := ["math.sqrt"], apart := false }
def FnExactRootNumberSaid : Prop := fnExactRootNumberRow.holds Try.pinned (OpenSpec.ofChange fnExactRootNumberSpec)

/-- ITS FALSE NEIGHBOUR: 'it returns false'. Refute it at one input. -/
def fnExactRootNumberWrong : ChangeSpec := { name := "fnExactRootNumber", fn := fun _ => fun
  | [d] => { results := [.lit (.bool false)], args := [d] }
  | _ => none }
def FnExactRootNumberWrongFalsely : Prop := fnExactRootNumberRow.holds Try.pinned (OpenSpec.ofChange fnExactRootNumberWrong)

/- THE SECOND FORM. 'bulk': how many values and letters a reading holds, each counted each time it is reached (what is shared counts as often as it is met; a slice's spare places count too). A statement '..UptoSaid' is the law's where the arguments, and the package variables that the reading takes, are together of bulk at most 1048576: NARROWER than '..Said'. Prove '..Said' where nothing that the law and all that it calls make is longer than what came in: it says more and counts as full. Else prove '..UptoSaid'. A law counts once. -/
mutual
def uptoBulk {H : Type} : DataW H → Nat
  | .lit (.string bytes) => bytes.length + 1
  | .lit _ => 1
  | .nil => 1
  | .ptr d => uptoBulk d + 1
  | .slice elems spare => uptoBulkAll elems + uptoBulkAll spare + 1
  | .agg parts => uptoBulkAll parts + 1
  | .iface _ d => uptoBulk d + 1
  | .map entries => uptoBulkEntries entries + 1
  | .held _ => 1
def uptoBulkAll {H : Type} : List (DataW H) → Nat
  | [] => 0
  | d :: r => uptoBulk d + uptoBulkAll r
def uptoBulkEntries {H : Type} : List (Lit × DataW H) → Nat
  | [] => 0
  | x :: r => uptoBulkEntry x + uptoBulkEntries r
def uptoBulkEntry {H : Type} : Lit × DataW H → Nat
  | (.string bytes, d) => bytes.length + uptoBulk d + 1
  | (_, d) => uptoBulk d + 1
 end
def uptoSmall : (H : Type) → List (DataW H) → Bool := fun _ ds => decide (uptoBulkAll ds ≤ 1048576)
def OpenSpec.upto (s : _root_.Go.ChangeSpec) : _root_.Go.OpenSpec := { _root_.Go.OpenSpec.ofChange s with cond := some uptoSmall }

/-- 'laws.FnExactFromBits', WHERE WHAT IT READS IS OF BULK AT MOST 1048576: true; the input reads as it did. -/
def fnExactFromBitsUptoRow : OpenClaim := { program := "ytgoeadbjnjkgjaa", sum := "96ca61de2a20b4048b239fac9be36cc57073d9f3f541b175d7743c7dab1b85e0", func := "loop.example/g01226/laws.FnExactFromBits", spec := "fnExactFromBits", inPlace := ["math.Float32frombits"], apart := false, narrowed := true }
def FnExactFromBitsUptoSaid : Prop := fnExactFromBitsUptoRow.holds Try.pinned (OpenSpec.upto fnExactFromBitsSpec)

/-- 'laws.FnExactFlushNumber', WHERE WHAT IT READS IS OF BULK AT MOST 1048576: true; the input reads as it did. -/
def fnExactFlushNumberUptoRow : OpenClaim := { program := "ytgoeadbjnjkgjaa", sum := "96ca61de2a20b4048b239fac9be36cc57073d9f3f541b175d7743c7dab1b85e0", func := "loop.example/g01226/laws.FnExactFlushNumber", spec := "fnExactFlushNumber", inPlace := ["math.Float32bits", "math.Float32frombits", "math.Float64bits", "math.Float64frombits"], apart := false, narrowed := true }
def FnExactFlushNumberUptoSaid : Prop := fnExactFlushNumberUptoRow.holds Try.pinned (OpenSpec.upto fnExactFlushNumberSpec)

/-- 'laws.FnExactCheckOf', WHERE WHAT IT READS IS OF BULK AT MOST 1048576: true; the input reads as it did. -/
def fnExactCheckOfUptoRow : OpenClaim := { program := "ytgoeadbjnjkgjaa", sum := "96ca61de2a20b4048b239fac9be36cc57073d9f3f541b175d7743c7dab1b85e0", func := "loop.example/g01226/laws.FnExactCheckOf", spec := "fnExactCheckOf", apart := false, narrowed := true }
def FnExactCheckOfUptoSaid : Prop := fnExactCheckOfUptoRow.holds Try.pinned (OpenSpec.upto fnExactCheckOfSpec)

/-- 'laws.FnExactIsField', WHERE WHAT IT READS IS OF BULK AT MOST 1048576: true; the input reads as it did. -/
def fnExactIsFieldUptoRow : OpenClaim := { program := "ytgoeadbjnjkgjaa", sum := "96ca61de2a20b4048b239fac9be36cc57073d9f3f541b175d7743c7dab1b85e0", func := "loop.example/g01226/laws.FnExactIsField", spec := "fnExactIsField", apart := false, narrowed := true }
def FnExactIsFieldUptoSaid : Prop := fnExactIsFieldUptoRow.holds Try.pinned (OpenSpec.upto fnExactIsFieldSpec)

/-- 'laws.FnExactSumNumbers', WHERE WHAT IT READS IS OF BULK AT MOST 1048576: true; the input reads as it did. -/
def fnExactSumNumbersUptoRow : OpenClaim := { program := "ytgoeadbjnjkgjaa", sum := "96ca61de2a20b4048b239fac9be36cc57073d9f3f541b175d7743c7dab1b85e0", func := "loop.example/g01226/laws.FnExactSumNumbers", spec := "fnExactSumNumbers", apart := false, narrowed := true }
def FnExactSumNumbersUptoSaid : Prop := fnExactSumNumbersUptoRow.holds Try.pinned (OpenSpec.upto fnExactSumNumbersSpec)

/-- 'laws.FnExactTotalOf', WHERE WHAT IT READS IS OF BULK AT MOST 1048576: true; the input reads as it did. -/
def fnExactTotalOfUptoRow : OpenClaim := { program := "ytgoeadbjnjkgjaa", sum := "96ca61de2a20b4048b239fac9be36cc57073d9f3f541b175d7743c7dab1b85e0", func := "loop.example/g01226/laws.FnExactTotalOf", spec := "fnExactTotalOf", apart := false, narrowed := true }
def FnExactTotalOfUptoSaid : Prop := fnExactTotalOfUptoRow.holds Try.pinned (OpenSpec.upto fnExactTotalOfSpec)

/-- 'laws.FnExactDotNumbers', WHERE WHAT IT READS IS OF BULK AT MOST 1048576: true; the input reads as it did. -/
def fnExactDotNumbersUptoRow : OpenClaim := { program := "ytgoeadbjnjkgjaa", sum := "96ca61de2a20b4048b239fac9be36cc57073d9f3f541b175d7743c7dab1b85e0", func := "loop.example/g01226/laws.FnExactDotNumbers", spec := "fnExactDotNumbers", apart := false, narrowed := true }
def FnExactDotNumbersUptoSaid : Prop := fnExactDotNumbersUptoRow.holds Try.pinned (OpenSpec.upto fnExactDotNumbersSpec)

/-- 'laws.FnExactAddFields', WHERE WHAT IT READS IS OF BULK AT MOST 1048576: true; the input reads as it did. -/
def fnExactAddFieldsUptoRow : OpenClaim := { program := "ytgoeadbjnjkgjaa", sum := "96ca61de2a20b4048b239fac9be36cc57073d9f3f541b175d7743c7dab1b85e0", func := "loop.example/g01226/laws.FnExactAddFields", spec := "fnExactAddFields", apart := false, narrowed := true }
def FnExactAddFieldsUptoSaid : Prop := fnExactAddFieldsUptoRow.holds Try.pinned (OpenSpec.upto fnExactAddFieldsSpec)

/-- 'laws.FnExactScaleField', WHERE WHAT IT READS IS OF BULK AT MOST 1048576: true; the input reads as it did. -/
def fnExactScaleFieldUptoRow : OpenClaim := { program := "ytgoeadbjnjkgjaa", sum := "96ca61de2a20b4048b239fac9be36cc57073d9f3f541b175d7743c7dab1b85e0", func := "loop.example/g01226/laws.FnExactScaleField", spec := "fnExactScaleField", apart := false, narrowed := true }
def FnExactScaleFieldUptoSaid : Prop := fnExactScaleFieldUptoRow.holds Try.pinned (OpenSpec.upto fnExactScaleFieldSpec)

/-- 'laws.FnExactShiftField', WHERE WHAT IT READS IS OF BULK AT MOST 1048576: true; the input reads as it did. -/
def fnExactShiftFieldUptoRow : OpenClaim := { program := "ytgoeadbjnjkgjaa", sum := "96ca61de2a20b4048b239fac9be36cc57073d9f3f541b175d7743c7dab1b85e0", func := "loop.example/g01226/laws.FnExactShiftField", spec := "fnExactShiftField", apart := false, narrowed := true }
def FnExactShiftFieldUptoSaid : Prop := fnExactShiftFieldUptoRow.holds Try.pinned (OpenSpec.upto fnExactShiftFieldSpec)

/-- 'laws.FnExactRootNumber', WHERE WHAT IT READS IS OF BULK AT MOST 1048576: true; the input reads as it did. -/
def fnExactRootNumberUptoRow : OpenClaim := { program := "ytgoeadbjnjkgjaa", sum := "96ca61de2a20b4048b239fac9be36cc57073d9f3f541b175d7743c7dab1b85e0", func := "loop.example/g01226/laws.FnExactRootNumber", spec := "fnExactRootNumber", inPlace := ["math.sqrt"], apart := false, narrowed := true }
def FnExactRootNumberUptoSaid : Prop := fnExactRootNumberUptoRow.holds Try.pinned (OpenSpec.upto fnExactRootNumberSpec)

end Rows
end Go.Proofs.Ytgoeadbjnjkgjaa
