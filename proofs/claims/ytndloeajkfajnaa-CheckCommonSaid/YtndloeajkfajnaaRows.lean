/-
  NARROWER THAN 'FOR EVERY INPUT', by the rows' own cells (each row's printed sentence says how): ReckonTells: loops.
  DERIVED. THE GIVEN ROWS OF THIS SEAT. 11 by the template 'for every input the law returns true; each argument reads behind the call as it read before'; 0 by the template 'total and deterministic' (their statements: YtndloeajkfajnaaTotals.lean).
  GIVEN WITH THE SEED: the statements are not yours to turn. If you find one false, say at which input.
  Laid BY PROGRAM, IN A SANDBOX (cutbox-rows.mjs): the forced cells as the released guide's own fill.sh prints them over the translation fa0a1eed1db92b19… (all of the seat's roots in one cut). By AI agents, Wed Nov 11 2026. No macro, syntax, notation, axiom, sorry.
-/
import Derived.Test.YtndloeajkfajnaaChecked
import GoSem.Claim
import GoSem.ClaimJoined
import GoSem.ClaimMapViews
import Derived.JoinedTies
import Derived.KernelRfl
namespace Go.Proofs.Ytndloeajkfajnaa
/- THE CELL 'sum', in the pinned program and in every row, IS THE sha256 OF THE DUMP (.gsa) THAT YtndloeajkfajnaaProg.lean LOADS. Nothing in Lean hashes anything: it is a label: what it is worth is what the hold of that sum in a sandbox is worth. -/
noncomputable def Try.pinned : Pinned := { name := "ytndloeajkfajnaa", sum := "fa0a1eed1db92b19cc92417719ad454f0e171e8719cca70098dd4a43b6563293", checked := Try.checked }
namespace Rows
def none {H : Type} : Left H := { results := [], args := [] }

/-- 'marshallinglaw08.ReckonTells': WHATEVER THE INPUT: true; the input reads as it did. -/
def reckonTellsSpec : ChangeSpec := { name := "reckonTells", fn := fun _ => fun
  | [d1, d2, d3, d4, d5, d6, d7] => { results := [.lit (.bool true)], args := [d1, d2, d3, d4, d5, d6, d7] }
  | _ => none }
def reckonTellsRow : OpenClaim := { program := "ytndloeajkfajnaa", sum := "fa0a1eed1db92b19cc92417719ad454f0e171e8719cca70098dd4a43b6563293", func := "marshalling/marshallinglaw08.ReckonTells", spec := "reckonTells", inPlace := ["internal/bytealg.IndexByteString", "internal/bytealg.IndexString"], unfollowed := true, recurses := true, named := ["internal/bytealg.MaxLen"], loops := true, plainKeys := false, apart := false }
def ReckonTellsSaid : Prop := reckonTellsRow.holds Try.pinned (OpenSpec.ofChange reckonTellsSpec)

/-- ITS FALSE NEIGHBOUR: 'it returns false'. Refute it at one input. -/
def reckonTellsWrong : ChangeSpec := { name := "reckonTells", fn := fun _ => fun
  | [d1, d2, d3, d4, d5, d6, d7] => { results := [.lit (.bool false)], args := [d1, d2, d3, d4, d5, d6, d7] }
  | _ => none }
def ReckonTellsWrongFalsely : Prop := reckonTellsRow.holds Try.pinned (OpenSpec.ofChange reckonTellsWrong)

/-- 'marshallinglaw08.ReckonAdds': WHATEVER THE INPUT: true; the input reads as it did. -/
def reckonAddsSpec : ChangeSpec := { name := "reckonAdds", fn := fun _ => fun
  | [d1, d2] => { results := [.lit (.bool true)], args := [d1, d2] }
  | _ => none }
def reckonAddsRow : OpenClaim := { program := "ytndloeajkfajnaa", sum := "fa0a1eed1db92b19cc92417719ad454f0e171e8719cca70098dd4a43b6563293", func := "marshalling/marshallinglaw08.ReckonAdds", spec := "reckonAdds", inPlace := ["internal/bytealg.IndexByteString", "internal/bytealg.IndexString"], unfollowed := true, recurses := true, named := ["internal/bytealg.MaxLen"], plainKeys := false, apart := false }
def ReckonAddsSaid : Prop := reckonAddsRow.holds Try.pinned (OpenSpec.ofChange reckonAddsSpec)

/-- ITS FALSE NEIGHBOUR: 'it returns false'. Refute it at one input. -/
def reckonAddsWrong : ChangeSpec := { name := "reckonAdds", fn := fun _ => fun
  | [d1, d2] => { results := [.lit (.bool false)], args := [d1, d2] }
  | _ => none }
def ReckonAddsWrongFalsely : Prop := reckonAddsRow.holds Try.pinned (OpenSpec.ofChange reckonAddsWrong)

/-- 'marshallinglaw08.ReckonMuls': WHATEVER THE INPUT: true; the input reads as it did. -/
def reckonMulsSpec : ChangeSpec := { name := "reckonMuls", fn := fun _ => fun
  | [d1, d2] => { results := [.lit (.bool true)], args := [d1, d2] }
  | _ => none }
def reckonMulsRow : OpenClaim := { program := "ytndloeajkfajnaa", sum := "fa0a1eed1db92b19cc92417719ad454f0e171e8719cca70098dd4a43b6563293", func := "marshalling/marshallinglaw08.ReckonMuls", spec := "reckonMuls", inPlace := ["internal/bytealg.IndexByteString", "internal/bytealg.IndexString"], unfollowed := true, recurses := true, named := ["internal/bytealg.MaxLen"], plainKeys := false, apart := false }
def ReckonMulsSaid : Prop := reckonMulsRow.holds Try.pinned (OpenSpec.ofChange reckonMulsSpec)

/-- ITS FALSE NEIGHBOUR: 'it returns false'. Refute it at one input. -/
def reckonMulsWrong : ChangeSpec := { name := "reckonMuls", fn := fun _ => fun
  | [d1, d2] => { results := [.lit (.bool false)], args := [d1, d2] }
  | _ => none }
def ReckonMulsWrongFalsely : Prop := reckonMulsRow.holds Try.pinned (OpenSpec.ofChange reckonMulsWrong)

/-- 'marshallinglaw08.ReckonDivs': WHATEVER THE INPUT: true; the input reads as it did. -/
def reckonDivsSpec : ChangeSpec := { name := "reckonDivs", fn := fun _ => fun
  | [d1, d2, d3] => { results := [.lit (.bool true)], args := [d1, d2, d3] }
  | _ => none }
def reckonDivsRow : OpenClaim := { program := "ytndloeajkfajnaa", sum := "fa0a1eed1db92b19cc92417719ad454f0e171e8719cca70098dd4a43b6563293", func := "marshalling/marshallinglaw08.ReckonDivs", spec := "reckonDivs", inPlace := ["internal/bytealg.IndexByteString", "internal/bytealg.IndexString"], unfollowed := true, recurses := true, named := ["internal/bytealg.MaxLen"], plainKeys := false, apart := false }
def ReckonDivsSaid : Prop := reckonDivsRow.holds Try.pinned (OpenSpec.ofChange reckonDivsSpec)

/-- ITS FALSE NEIGHBOUR: 'it returns false'. Refute it at one input. -/
def reckonDivsWrong : ChangeSpec := { name := "reckonDivs", fn := fun _ => fun
  | [d1, d2, d3] => { results := [.lit (.bool false)], args := [d1, d2, d3] }
  | _ => none }
def ReckonDivsWrongFalsely : Prop := reckonDivsRow.holds Try.pinned (OpenSpec.ofChange reckonDivsWrong)

/-- 'marshallinglaw08.ReckonShort': WHATEVER THE INPUT: true; the input reads as it did. -/
def reckonShortSpec : ChangeSpec := { name := "reckonShort", fn := fun _ => fun
  | [d1, d2] => { results := [.lit (.bool true)], args := [d1, d2] }
  | _ => none }
def reckonShortRow : OpenClaim := { program := "ytndloeajkfajnaa", sum := "fa0a1eed1db92b19cc92417719ad454f0e171e8719cca70098dd4a43b6563293", func := "marshalling/marshallinglaw08.ReckonShort", spec := "reckonShort", inPlace := ["internal/bytealg.IndexByteString", "internal/bytealg.IndexString"], unfollowed := true, recurses := true, named := ["internal/bytealg.MaxLen"], plainKeys := false, apart := false }
def ReckonShortSaid : Prop := reckonShortRow.holds Try.pinned (OpenSpec.ofChange reckonShortSpec)

/-- ITS FALSE NEIGHBOUR: 'it returns false'. Refute it at one input. -/
def reckonShortWrong : ChangeSpec := { name := "reckonShort", fn := fun _ => fun
  | [d1, d2] => { results := [.lit (.bool false)], args := [d1, d2] }
  | _ => none }
def ReckonShortWrongFalsely : Prop := reckonShortRow.holds Try.pinned (OpenSpec.ofChange reckonShortWrong)

/-- 'marshallinglaw08.ReckonLast': WHATEVER THE INPUT: true; the input reads as it did. -/
def reckonLastSpec : ChangeSpec := { name := "reckonLast", fn := fun _ => fun
  | [d1, d2, d3] => { results := [.lit (.bool true)], args := [d1, d2, d3] }
  | _ => none }
def reckonLastRow : OpenClaim := { program := "ytndloeajkfajnaa", sum := "fa0a1eed1db92b19cc92417719ad454f0e171e8719cca70098dd4a43b6563293", func := "marshalling/marshallinglaw08.ReckonLast", spec := "reckonLast", inPlace := ["internal/bytealg.IndexByteString", "internal/bytealg.IndexString"], unfollowed := true, recurses := true, named := ["internal/bytealg.MaxLen"], plainKeys := false, apart := false }
def ReckonLastSaid : Prop := reckonLastRow.holds Try.pinned (OpenSpec.ofChange reckonLastSpec)

/-- ITS FALSE NEIGHBOUR: 'it returns false'. Refute it at one input. -/
def reckonLastWrong : ChangeSpec := { name := "reckonLast", fn := fun _ => fun
  | [d1, d2, d3] => { results := [.lit (.bool false)], args := [d1, d2, d3] }
  | _ => none }
def ReckonLastWrongFalsely : Prop := reckonLastRow.holds Try.pinned (OpenSpec.ofChange reckonLastWrong)

/-- 'marshallinglaw08.ReckonKinds': WHATEVER THE INPUT: true; the input reads as it did. -/
def reckonKindsSpec : ChangeSpec := { name := "reckonKinds", fn := fun _ => fun
  | [d1, d2, d3, d4] => { results := [.lit (.bool true)], args := [d1, d2, d3, d4] }
  | _ => none }
def reckonKindsRow : OpenClaim := { program := "ytndloeajkfajnaa", sum := "fa0a1eed1db92b19cc92417719ad454f0e171e8719cca70098dd4a43b6563293", func := "marshalling/marshallinglaw08.ReckonKinds", spec := "reckonKinds", inPlace := ["internal/bytealg.IndexByteString", "internal/bytealg.IndexString"], unfollowed := true, recurses := true, named := ["internal/bytealg.MaxLen"], plainKeys := false, apart := false }
def ReckonKindsSaid : Prop := reckonKindsRow.holds Try.pinned (OpenSpec.ofChange reckonKindsSpec)

/-- ITS FALSE NEIGHBOUR: 'it returns false'. Refute it at one input. -/
def reckonKindsWrong : ChangeSpec := { name := "reckonKinds", fn := fun _ => fun
  | [d1, d2, d3, d4] => { results := [.lit (.bool false)], args := [d1, d2, d3, d4] }
  | _ => none }
def ReckonKindsWrongFalsely : Prop := reckonKindsRow.holds Try.pinned (OpenSpec.ofChange reckonKindsWrong)

/-- 'marshallinglaw08.ReckonTexts': WHATEVER THE INPUT: true; the input reads as it did. -/
def reckonTextsSpec : ChangeSpec := { name := "reckonTexts", fn := fun _ => fun
  | [d1, d2] => { results := [.lit (.bool true)], args := [d1, d2] }
  | _ => none }
def reckonTextsRow : OpenClaim := { program := "ytndloeajkfajnaa", sum := "fa0a1eed1db92b19cc92417719ad454f0e171e8719cca70098dd4a43b6563293", func := "marshalling/marshallinglaw08.ReckonTexts", spec := "reckonTexts", inPlace := ["internal/bytealg.IndexByteString", "internal/bytealg.IndexString"], unfollowed := true, recurses := true, named := ["internal/bytealg.MaxLen"], plainKeys := false, apart := false }
def ReckonTextsSaid : Prop := reckonTextsRow.holds Try.pinned (OpenSpec.ofChange reckonTextsSpec)

/-- ITS FALSE NEIGHBOUR: 'it returns false'. Refute it at one input. -/
def reckonTextsWrong : ChangeSpec := { name := "reckonTexts", fn := fun _ => fun
  | [d1, d2] => { results := [.lit (.bool false)], args := [d1, d2] }
  | _ => none }
def ReckonTextsWrongFalsely : Prop := reckonTextsRow.holds Try.pinned (OpenSpec.ofChange reckonTextsWrong)

/-- 'marshallinglaw11.CheckKinds': WHATEVER THE INPUT: true; the input reads as it did. -/
def checkKindsSpec : ChangeSpec := { name := "checkKinds", fn := fun _ => fun
  | [d1, d2, d3, d4] => { results := [.lit (.bool true)], args := [d1, d2, d3, d4] }
  | _ => none }
def checkKindsRow : OpenClaim := { program := "ytndloeajkfajnaa", sum := "fa0a1eed1db92b19cc92417719ad454f0e171e8719cca70098dd4a43b6563293", func := "marshalling/marshallinglaw11.CheckKinds", spec := "checkKinds", inPlace := ["internal/bytealg.IndexByteString", "internal/bytealg.IndexString"], unfollowed := true, recurses := true, named := ["internal/bytealg.MaxLen"], plainKeys := false, apart := false }
def CheckKindsSaid : Prop := checkKindsRow.holds Try.pinned (OpenSpec.ofChange checkKindsSpec)

/-- ITS FALSE NEIGHBOUR: 'it returns false'. Refute it at one input. -/
def checkKindsWrong : ChangeSpec := { name := "checkKinds", fn := fun _ => fun
  | [d1, d2, d3, d4] => { results := [.lit (.bool false)], args := [d1, d2, d3, d4] }
  | _ => none }
def CheckKindsWrongFalsely : Prop := checkKindsRow.holds Try.pinned (OpenSpec.ofChange checkKindsWrong)

/-- 'marshallinglaw11.CheckCommon': WHATEVER THE INPUT: true; the input reads as it did. -/
def checkCommonSpec : ChangeSpec := { name := "checkCommon", fn := fun _ => fun
  | [d] => { results := [.lit (.bool true)], args := [d] }
  | _ => none }
def checkCommonRow : OpenClaim := { program := "ytndloeajkfajnaa", sum := "fa0a1eed1db92b19cc92417719ad454f0e171e8719cca70098dd4a43b6563293", func := "marshalling/marshallinglaw11.CheckCommon", spec := "checkCommon", inPlace := ["internal/bytealg.IndexByteString", "internal/bytealg.IndexString"], unfollowed := true, recurses := true, named := ["internal/bytealg.MaxLen"], plainKeys := false, apart := false }
def CheckCommonSaid : Prop := checkCommonRow.holds Try.pinned (OpenSpec.ofChange checkCommonSpec)

/-- ITS FALSE NEIGHBOUR: 'it returns false'. Refute it at one input. -/
def checkCommonWrong : ChangeSpec := { name := "checkCommon", fn := fun _ => fun
  | [d] => { results := [.lit (.bool false)], args := [d] }
  | _ => none }
def CheckCommonWrongFalsely : Prop := checkCommonRow.holds Try.pinned (OpenSpec.ofChange checkCommonWrong)

/-- 'marshallinglaw11.CheckViews': WHATEVER THE INPUT: true; the input reads as it did. -/
def checkViewsSpec : ChangeSpec := { name := "checkViews", fn := fun _ => fun
  | [d1, d2, d3] => { results := [.lit (.bool true)], args := [d1, d2, d3] }
  | _ => none }
def checkViewsRow : OpenClaim := { program := "ytndloeajkfajnaa", sum := "fa0a1eed1db92b19cc92417719ad454f0e171e8719cca70098dd4a43b6563293", func := "marshalling/marshallinglaw11.CheckViews", spec := "checkViews", inPlace := ["internal/bytealg.IndexByteString", "internal/bytealg.IndexString"], unfollowed := true, recurses := true, named := ["internal/bytealg.MaxLen"], plainKeys := false, apart := false }
def CheckViewsSaid : Prop := checkViewsRow.holds Try.pinned (OpenSpec.ofChange checkViewsSpec)

/-- ITS FALSE NEIGHBOUR: 'it returns false'. Refute it at one input. -/
def checkViewsWrong : ChangeSpec := { name := "checkViews", fn := fun _ => fun
  | [d1, d2, d3] => { results := [.lit (.bool false)], args := [d1, d2, d3] }
  | _ => none }
def CheckViewsWrongFalsely : Prop := checkViewsRow.holds Try.pinned (OpenSpec.ofChange checkViewsWrong)

/- THE SECOND FORM. 'bulk': how many values and letters a reading holds, each counted each time it is reached (what is shared counts as often as it is met; a slice's spare places count too). A statement '..UptoSaid' is the law's where the arguments, and the package variables that the reading takes, are together of bulk at most 1048576: NARROWER than '..Said'. Prove '..Said' where nothing that the law and all that it calls make is longer than what came in: it says more and counts as full. Else prove '..UptoSaid'. A law counts once. -/
mutual
def uptoBulk {H : Type} : DataW H → Nat
  | .lit (.string bytes) => bytes.length + 1
  | .lit _ => 1
  | .nil => 1
  | .ptr d => uptoBulk d + 1
  | .slice elems spare => uptoBulkAll elems + uptoBulkAll spare + 1
  | .agg parts => uptoBulkAll parts + 1
  | .iface _ d => uptoBulk d + 1
  | .map entries => uptoBulkEntries entries + 1
  | .held _ => 1
def uptoBulkAll {H : Type} : List (DataW H) → Nat
  | [] => 0
  | d :: r => uptoBulk d + uptoBulkAll r
def uptoBulkEntries {H : Type} : List (Lit × DataW H) → Nat
  | [] => 0
  | x :: r => uptoBulkEntry x + uptoBulkEntries r
def uptoBulkEntry {H : Type} : Lit × DataW H → Nat
  | (.string bytes, d) => bytes.length + uptoBulk d + 1
  | (_, d) => uptoBulk d + 1
 end
def uptoSmall : (H : Type) → List (DataW H) → Bool := fun _ ds => decide (uptoBulkAll ds ≤ 1048576)
def OpenSpec.upto (s : _root_.Go.ChangeSpec) : _root_.Go.OpenSpec := { _root_.Go.OpenSpec.ofChange s with cond := some uptoSmall }

/-- 'marshallinglaw08.ReckonTells', WHERE WHAT IT READS IS OF BULK AT MOST 1048576: true; the input reads as it did. -/
def reckonTellsUptoRow : OpenClaim := { program := "ytndloeajkfajnaa", sum := "fa0a1eed1db92b19cc92417719ad454f0e171e8719cca70098dd4a43b6563293", func := "marshalling/marshallinglaw08.ReckonTells", spec := "reckonTells", inPlace := ["internal/bytealg.IndexByteString", "internal/bytealg.IndexString"], unfollowed := true, recurses := true, named := ["internal/bytealg.MaxLen"], loops := true, plainKeys := false, apart := false, narrowed := true }
def ReckonTellsUptoSaid : Prop := reckonTellsUptoRow.holds Try.pinned (OpenSpec.upto reckonTellsSpec)

/-- 'marshallinglaw08.ReckonAdds', WHERE WHAT IT READS IS OF BULK AT MOST 1048576: true; the input reads as it did. -/
def reckonAddsUptoRow : OpenClaim := { program := "ytndloeajkfajnaa", sum := "fa0a1eed1db92b19cc92417719ad454f0e171e8719cca70098dd4a43b6563293", func := "marshalling/marshallinglaw08.ReckonAdds", spec := "reckonAdds", inPlace := ["internal/bytealg.IndexByteString", "internal/bytealg.IndexString"], unfollowed := true, recurses := true, named := ["internal/bytealg.MaxLen"], plainKeys := false, apart := false, narrowed := true }
def ReckonAddsUptoSaid : Prop := reckonAddsUptoRow.holds Try.pinned (OpenSpec.upto reckonAddsSpec)

/-- 'marshallinglaw08.ReckonMuls', WHERE WHAT IT READS IS OF BULK AT MOST 1048576: true; the input reads as it did. -/
def reckonMulsUptoRow : OpenClaim := { program := "ytndloeajkfajnaa", sum := "fa0a1eed1db92b19cc92417719ad454f0e171e8719cca70098dd4a43b6563293", func := "marshalling/marshallinglaw08.ReckonMuls", spec := "reckonMuls", inPlace := ["internal/bytealg.IndexByteString", "internal/bytealg.IndexString"], unfollowed := true, recurses := true, named := ["internal/bytealg.MaxLen"], plainKeys := false, apart := false, narrowed := true }
def ReckonMulsUptoSaid : Prop := reckonMulsUptoRow.holds Try.pinned (OpenSpec.upto reckonMulsSpec)

/-- 'marshallinglaw08.ReckonDivs', WHERE WHAT IT READS IS OF BULK AT MOST 1048576: true; the input reads as it did. -/
def reckonDivsUptoRow : OpenClaim := { program := "ytndloeajkfajnaa", sum := "fa0a1eed1db92b19cc92417719ad454f0e171e8719cca70098dd4a43b6563293", func := "marshalling/marshallinglaw08.ReckonDivs", spec := "reckonDivs", inPlace := ["internal/bytealg.IndexByteString", "internal/bytealg.IndexString"], unfollowed := true, recurses := true, named := ["internal/bytealg.MaxLen"], plainKeys := false, apart := false, narrowed := true }
def ReckonDivsUptoSaid : Prop := reckonDivsUptoRow.holds Try.pinned (OpenSpec.upto reckonDivsSpec)

/-- 'marshallinglaw08.ReckonShort', WHERE WHAT IT READS IS OF BULK AT MOST 1048576: true; the input reads as it did. -/
def reckonShortUptoRow : OpenClaim := { program := "ytndloeajkfajnaa", sum := "fa0a1eed1db92b19cc92417719ad454f0e171e8719cca70098dd4a43b6563293", func := "marshalling/marshallinglaw08.ReckonShort", spec := "reckonShort", inPlace := ["internal/bytealg.IndexByteString", "internal/bytealg.IndexString"], unfollowed := true, recurses := true, named := ["internal/bytealg.MaxLen"], plainKeys := false, apart := false, narrowed := true }
def ReckonShortUptoSaid : Prop := reckonShortUptoRow.holds Try.pinned (OpenSpec.upto reckonShortSpec)

/-- 'marshallinglaw08.ReckonLast', WHERE WHAT IT READS IS OF BULK AT MOST 1048576: true; the input reads as it did. -/
def reckonLastUptoRow : OpenClaim := { program := "ytndloeajkfajnaa", sum := "fa0a1eed1db92b19cc92417719ad454f0e171e8719cca70098dd4a43b6563293", func := "marshalling/marshallinglaw08.ReckonLast", spec := "reckonLast", inPlace := ["internal/bytealg.IndexByteString", "internal/bytealg.IndexString"], unfollowed := true, recurses := true, named := ["internal/bytealg.MaxLen"], plainKeys := false, apart := false, narrowed := true }
def ReckonLastUptoSaid : Prop := reckonLastUptoRow.holds Try.pinned (OpenSpec.upto reckonLastSpec)

/-- 'marshallinglaw08.ReckonKinds', WHERE WHAT IT READS IS OF BULK AT MOST 1048576: true; the input reads as it did. -/
def reckonKindsUptoRow : OpenClaim := { program := "ytndloeajkfajnaa", sum := "fa0a1eed1db92b19cc92417719ad454f0e171e8719cca70098dd4a43b6563293", func := "marshalling/marshallinglaw08.ReckonKinds", spec := "reckonKinds", inPlace := ["internal/bytealg.IndexByteString", "internal/bytealg.IndexString"], unfollowed := true, recurses := true, named := ["internal/bytealg.MaxLen"], plainKeys := false, apart := false, narrowed := true }
def ReckonKindsUptoSaid : Prop := reckonKindsUptoRow.holds Try.pinned (OpenSpec.upto reckonKindsSpec)

/-- 'marshallinglaw08.ReckonTexts', WHERE WHAT IT READS IS OF BULK AT MOST 1048576: true; the input reads as it did. -/
def reckonTextsUptoRow : OpenClaim := { program := "ytndloeajkfajnaa", sum := "fa0a1eed1db92b19cc92417719ad454f0e171e8719cca70098dd4a43b6563293", func := "marshalling/marshallinglaw08.ReckonTexts", spec := "reckonTexts", inPlace := ["internal/bytealg.IndexByteString", "internal/bytealg.IndexString"], unfollowed := true, recurses := true, named := ["internal/bytealg.MaxLen"], plainKeys := false, apart := false, narrowed := true }
def ReckonTextsUptoSaid : Prop := reckonTextsUptoRow.holds Try.pinned (OpenSpec.upto reckonTextsSpec)

/-- 'marshallinglaw11.CheckKinds', WHERE WHAT IT READS IS OF BULK AT MOST 1048576: true; the input reads as it did. -/
def checkKindsUptoRow : OpenClaim := { program := "ytndloeajkfajnaa", sum := "fa0a1eed1db92b19cc92417719ad454f0e171e8719cca70098dd4a43b6563293", func := "marshalling/marshallinglaw11.CheckKinds", spec := "checkKinds", inPlace := ["internal/bytealg.IndexByteString", "internal/bytealg.IndexString"], unfollowed := true, recurses := true, named := ["internal/bytealg.MaxLen"], plainKeys := false, apart := false, narrowed := true }
def CheckKindsUptoSaid : Prop := checkKindsUptoRow.holds Try.pinned (OpenSpec.upto checkKindsSpec)

/-- 'marshallinglaw11.CheckCommon', WHERE WHAT IT READS IS OF BULK AT MOST 1048576: true; the input reads as it did. -/
def checkCommonUptoRow : OpenClaim := { program := "ytndloeajkfajnaa", sum := "fa0a1eed1db92b19cc92417719ad454f0e171e8719cca70098dd4a43b6563293", func := "marshalling/marshallinglaw11.CheckCommon", spec := "checkCommon", inPlace := ["internal/bytealg.IndexByteString", "internal/bytealg.IndexString"], unfollowed := true, recurses := true, named := ["internal/bytealg.MaxLen"], plainKeys := false, apart := false, narrowed := true }
def CheckCommonUptoSaid : Prop := checkCommonUptoRow.holds Try.pinned (OpenSpec.upto checkCommonSpec)

/-- 'marshallinglaw11.CheckViews', WHERE WHAT IT READS IS OF BULK AT MOST 1048576: true; the input reads as it did. -/
def checkViewsUptoRow : OpenClaim := { program := "ytndloeajkfajnaa", sum := "fa0a1eed1db92b19cc92417719ad454f0e171e8719cca70098dd4a43b6563293", func := "marshalling/marshallinglaw11.CheckViews", spec := "checkViews", inPlace := ["internal/bytealg.IndexByteString", "internal/bytealg.IndexString"], unfollowed := true, recurses := true, named := ["internal/bytealg.MaxLen"], plainKeys := false, apart := false, narrowed := true }
def CheckViewsUptoSaid : Prop := checkViewsUptoRow.holds Try.pinned (OpenSpec.upto checkViewsSpec)

end Rows
end Go.Proofs.Ytndloeajkfajnaa
