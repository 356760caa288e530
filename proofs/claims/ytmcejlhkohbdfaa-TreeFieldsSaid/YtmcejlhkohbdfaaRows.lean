/-
  No cell of these rows narrows 'for every input' (looked for: loops, veiled, ifaces, maps, wideKeys, modest, calm, conditions, laid).
  DERIVED. THE GIVEN ROWS OF THIS SEAT. 4 by the template 'for every input the law returns true; each argument reads behind the call as it read before'; 0 by the template 'total and deterministic' (their statements: YtmcejlhkohbdfaaTotals.lean).
  GIVEN WITH THE SEED: the statements are not yours to turn. If you find one false, say at which input.
  Laid BY PROGRAM, IN A SANDBOX (cutbox-rows.mjs): the forced cells as the released guide's own fill.sh prints them over the translation 1de9e0a5d8e9ea65… (all of the seat's roots in one cut). By AI agents, Wed Nov 11 2026. No macro, syntax, notation, axiom, sorry.
-/
import Derived.Test.YtmcejlhkohbdfaaChecked
import GoSem.Claim
import GoSem.ClaimJoined
import GoSem.ClaimMapViews
import Derived.JoinedTies
import Derived.KernelRfl
namespace Go.Proofs.Ytmcejlhkohbdfaa
/- THE CELL 'sum', in the pinned program and in every row, IS THE sha256 OF THE DUMP (.gsa) THAT YtmcejlhkohbdfaaProg.lean LOADS. Nothing in Lean hashes anything: it is a label: what it is worth is what the hold of that sum in a sandbox is worth. -/
noncomputable def Try.pinned : Pinned := { name := "ytmcejlhkohbdfaa", sum := "1de9e0a5d8e9ea659462b922ef7ca77d4ef182b8099caa9ef1669e0a4ee76cb5", checked := Try.checked }
namespace Rows
def none {H : Type} : Left H := { results := [], args := [] }

/-- 'retrospectlaw17.TreeTells': WHATEVER THE INPUT: true; the input reads as it did. -/
def treeTellsSpec : ChangeSpec := { name := "treeTells", fn := fun _ => fun
  | [d1, d2] => { results := [.lit (.bool true)], args := [d1, d2] }
  | _ => none }
def treeTellsRow : OpenClaim := { program := "ytmcejlhkohbdfaa", sum := "1de9e0a5d8e9ea659462b922ef7ca77d4ef182b8099caa9ef1669e0a4ee76cb5", func := "retrospect/retrospectlaw17.TreeTells", spec := "treeTells", recurses := true, apart := false }
def TreeTellsSaid : Prop := treeTellsRow.holds Try.pinned (OpenSpec.ofChange treeTellsSpec)

/-- ITS FALSE NEIGHBOUR: 'it returns false'. Refute it at one input. -/
def treeTellsWrong : ChangeSpec := { name := "treeTells", fn := fun _ => fun
  | [d1, d2] => { results := [.lit (.bool false)], args := [d1, d2] }
  | _ => none }
def TreeTellsWrongFalsely : Prop := treeTellsRow.holds Try.pinned (OpenSpec.ofChange treeTellsWrong)

/-- 'retrospectlaw17.TreeWhole': WHATEVER THE INPUT: true; the input reads as it did. -/
def treeWholeSpec : ChangeSpec := { name := "treeWhole", fn := fun _ => fun
  | [d] => { results := [.lit (.bool true)], args := [d] }
  | _ => none }
def treeWholeRow : OpenClaim := { program := "ytmcejlhkohbdfaa", sum := "1de9e0a5d8e9ea659462b922ef7ca77d4ef182b8099caa9ef1669e0a4ee76cb5", func := "retrospect/retrospectlaw17.TreeWhole", spec := "treeWhole", apart := false }
def TreeWholeSaid : Prop := treeWholeRow.holds Try.pinned (OpenSpec.ofChange treeWholeSpec)

/-- ITS FALSE NEIGHBOUR: 'it returns false'. Refute it at one input. -/
def treeWholeWrong : ChangeSpec := { name := "treeWhole", fn := fun _ => fun
  | [d] => { results := [.lit (.bool false)], args := [d] }
  | _ => none }
def TreeWholeWrongFalsely : Prop := treeWholeRow.holds Try.pinned (OpenSpec.ofChange treeWholeWrong)

/-- 'retrospectlaw17.TreeBuilt': WHATEVER THE INPUT: true; the input reads as it did. -/
def treeBuiltSpec : ChangeSpec := { name := "treeBuilt", fn := fun _ => fun
  | [d1, d2, d3] => { results := [.lit (.bool true)], args := [d1, d2, d3] }
  | _ => none }
def treeBuiltRow : OpenClaim := { program := "ytmcejlhkohbdfaa", sum := "1de9e0a5d8e9ea659462b922ef7ca77d4ef182b8099caa9ef1669e0a4ee76cb5", func := "retrospect/retrospectlaw17.TreeBuilt", spec := "treeBuilt", apart := false }
def TreeBuiltSaid : Prop := treeBuiltRow.holds Try.pinned (OpenSpec.ofChange treeBuiltSpec)

/-- ITS FALSE NEIGHBOUR: 'it returns false'. Refute it at one input. -/
def treeBuiltWrong : ChangeSpec := { name := "treeBuilt", fn := fun _ => fun
  | [d1, d2, d3] => { results := [.lit (.bool false)], args := [d1, d2, d3] }
  | _ => none }
def TreeBuiltWrongFalsely : Prop := treeBuiltRow.holds Try.pinned (OpenSpec.ofChange treeBuiltWrong)

/-- 'retrospectlaw17.TreeFields': WHATEVER THE INPUT: true; the input reads as it did. -/
def treeFieldsSpec : ChangeSpec := { name := "treeFields", fn := fun _ => fun
  | [d1, d2] => { results := [.lit (.bool true)], args := [d1, d2] }
  | _ => none }
def treeFieldsRow : OpenClaim := { program := "ytmcejlhkohbdfaa", sum := "1de9e0a5d8e9ea659462b922ef7ca77d4ef182b8099caa9ef1669e0a4ee76cb5", func := "retrospect/retrospectlaw17.TreeFields", spec := "treeFields", apart := false }
def TreeFieldsSaid : Prop := treeFieldsRow.holds Try.pinned (OpenSpec.ofChange treeFieldsSpec)

/-- ITS FALSE NEIGHBOUR: 'it returns false'. Refute it at one input. -/
def treeFieldsWrong : ChangeSpec := { name := "treeFields", fn := fun _ => fun
  | [d1, d2] => { results := [.lit (.bool false)], args := [d1, d2] }
  | _ => none }
def TreeFieldsWrongFalsely : Prop := treeFieldsRow.holds Try.pinned (OpenSpec.ofChange treeFieldsWrong)

/- THE SECOND FORM. 'bulk': how many values and letters a reading holds, each counted each time it is reached (what is shared counts as often as it is met; a slice's spare places count too). A statement '..UptoSaid' is the law's where the arguments, and the package variables that the reading takes, are together of bulk at most 1048576: NARROWER than '..Said'. Prove '..Said' where nothing that the law and all that it calls make is longer than what came in: it says more and counts as full. Else prove '..UptoSaid'. A law counts once. -/
mutual
def uptoBulk {H : Type} : DataW H → Nat
  | .lit (.string bytes) => bytes.length + 1
  | .lit _ => 1
  | .nil => 1
  | .ptr d => uptoBulk d + 1
  | .slice elems spare => uptoBulkAll elems + uptoBulkAll spare + 1
  | .agg parts => uptoBulkAll parts + 1
  | .iface _ d => uptoBulk d + 1
  | .map entries => uptoBulkEntries entries + 1
  | .held _ => 1
def uptoBulkAll {H : Type} : List (DataW H) → Nat
  | [] => 0
  | d :: r => uptoBulk d + uptoBulkAll r
def uptoBulkEntries {H : Type} : List (Lit × DataW H) → Nat
  | [] => 0
  | x :: r => uptoBulkEntry x + uptoBulkEntries r
def uptoBulkEntry {H : Type} : Lit × DataW H → Nat
  | (.string bytes, d) => bytes.length + uptoBulk d + 1
  | (_, d) => uptoBulk d + 1
 end
def uptoSmall : (H : Type) → List (DataW H) → Bool := fun _ ds => decide (uptoBulkAll ds ≤ 1048576)
def OpenSpec.upto (s : _root_.Go.ChangeSpec) : _root_.Go.OpenSpec := { _root_.Go.OpenSpec.ofChange s with cond := some uptoSmall }

/-- 'retrospectlaw17.TreeTells', WHERE WHAT IT READS IS OF BULK AT MOST 1048576: true; the input reads as it did. -/
def treeTellsUptoRow : OpenClaim := { program := "ytmcejlhkohbdfaa", sum := "1de9e0a5d8e9ea659462b922ef7ca77d4ef182b8099caa9ef1669e0a4ee76cb5", func := "retrospect/retrospectlaw17.TreeTells", spec := "treeTells", recurses := true, apart := false, narrowed := true }
def TreeTellsUptoSaid : Prop := treeTellsUptoRow.holds Try.pinned (OpenSpec.upto treeTellsSpec)

/-- 'retrospectlaw17.TreeWhole', WHERE WHAT IT READS IS OF BULK AT MOST 1048576: true; the input reads as it did. -/
def treeWholeUptoRow : OpenClaim := { program := "ytmcejlhkohbdfaa", sum := "1de9e0a5d8e9ea659462b922ef7ca77d4ef182b8099caa9ef1669e0a4ee76cb5", func := "retrospect/retrospectlaw17.TreeWhole", spec := "treeWhole", apart := false, narrowed := true }
def TreeWholeUptoSaid : Prop := treeWholeUptoRow.holds Try.pinned (OpenSpec.upto treeWholeSpec)

/-- 'retrospectlaw17.TreeBuilt', WHERE WHAT IT READS IS OF BULK AT MOST 1048576: true; the input reads as it did. -/
def treeBuiltUptoRow : OpenClaim := { program := "ytmcejlhkohbdfaa", sum := "1de9e0a5d8e9ea659462b922ef7ca77d4ef182b8099caa9ef1669e0a4ee76cb5", func := "retrospect/retrospectlaw17.TreeBuilt", spec := "treeBuilt", apart := false, narrowed := true }
def TreeBuiltUptoSaid : Prop := treeBuiltUptoRow.holds Try.pinned (OpenSpec.upto treeBuiltSpec)

/-- 'retrospectlaw17.TreeFields', WHERE WHAT IT READS IS OF BULK AT MOST 1048576: true; the input reads as it did. -/
def treeFieldsUptoRow : OpenClaim := { program := "ytmcejlhkohbdfaa", sum := "1de9e0a5d8e9ea659462b922ef7ca77d4ef182b8099caa9ef1669e0a4ee76cb5", func := "retrospect/retrospectlaw17.TreeFields", spec := "treeFields", apart := false, narrowed := true }
def TreeFieldsUptoSaid : Prop := treeFieldsUptoRow.holds Try.pinned (OpenSpec.upto treeFieldsSpec)

end Rows
end Go.Proofs.Ytmcejlhkohbdfaa
