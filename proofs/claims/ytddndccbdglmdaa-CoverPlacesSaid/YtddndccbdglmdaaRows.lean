/-
  No cell of these rows narrows 'for every input' (looked for: loops, veiled, ifaces, maps, wideKeys, modest, calm, conditions, laid).
  DERIVED. THE GIVEN ROWS OF THIS SEAT. 11 by the template 'for every input the law returns true; each argument reads behind the call as it read before'; 0 by the template 'total and deterministic' (their statements: YtddndccbdglmdaaTotals.lean).
  GIVEN WITH THE SEED: the statements are not yours to turn. If you find one false, say at which input.
  Laid BY PROGRAM, IN A SANDBOX (cutbox-rows.mjs): the forced cells as the released guide's own fill.sh prints them over the translation 79ebc8efd14cc7be… (all of the seat's roots in one cut). By AI agents, Wed Nov 11 2026. No macro, syntax, notation, axiom, sorry.
-/
import Derived.Test.YtddndccbdglmdaaChecked
import GoSem.Claim
import GoSem.ClaimJoined
import GoSem.ClaimMapViews
import Derived.JoinedTies
import Derived.KernelRfl
namespace Go.Proofs.Ytddndccbdglmdaa
/- THE CELL 'sum', in the pinned program and in every row, IS THE sha256 OF THE DUMP (.gsa) THAT YtddndccbdglmdaaProg.lean LOADS. Nothing in Lean hashes anything: it is a label: what it is worth is what the hold of that sum in a sandbox is worth. -/
noncomputable def Try.pinned : Pinned := { name := "ytddndccbdglmdaa", sum := "79ebc8efd14cc7be294c25491c472f47df4932c235b16879b710ca583089cab4", checked := Try.checked }
namespace Rows
def none {H : Type} : Left H := { results := [], args := [] }

/-- 'furlonglaw6.CoverForms': WHATEVER THE INPUT: true; the input reads as it did. -/
def coverFormsSpec : ChangeSpec := { name := "coverForms", fn := fun _ => fun
  | [d1, d2] => { results := [.lit (.bool true)], args := [d1, d2] }
  | _ => none }
def coverFormsRow : OpenClaim := { program := "ytddndccbdglmdaa", sum := "79ebc8efd14cc7be294c25491c472f47df4932c235b16879b710ca583089cab4", func := "furlong/furlonglaw6.CoverForms", spec := "coverForms", unfollowed := true, recurses := true, apart := false }
def CoverFormsSaid : Prop := coverFormsRow.holds Try.pinned (OpenSpec.ofChange coverFormsSpec)

/-- ITS FALSE NEIGHBOUR: 'it returns false'. Refute it at one input. -/
def coverFormsWrong : ChangeSpec := { name := "coverForms", fn := fun _ => fun
  | [d1, d2] => { results := [.lit (.bool false)], args := [d1, d2] }
  | _ => none }
def CoverFormsWrongFalsely : Prop := coverFormsRow.holds Try.pinned (OpenSpec.ofChange coverFormsWrong)

/-- 'furlonglaw7.Maps': WHATEVER THE INPUT: true; the input reads as it did. -/
def mapsSpec : ChangeSpec := { name := "maps", fn := fun _ => fun
  | [d1, d2, d3, d4, d5, d6, d7] => { results := [.lit (.bool true)], args := [d1, d2, d3, d4, d5, d6, d7] }
  | _ => none }
def mapsRow : OpenClaim := { program := "ytddndccbdglmdaa", sum := "79ebc8efd14cc7be294c25491c472f47df4932c235b16879b710ca583089cab4", func := "furlong/furlonglaw7.Maps", spec := "maps", inPlace := ["slices.overlaps[int]"], unfollowed := true, recurses := true, apart := false }
def MapsSaid : Prop := mapsRow.holds Try.pinned (OpenSpec.ofChange mapsSpec)

/-- ITS FALSE NEIGHBOUR: 'it returns false'. Refute it at one input. -/
def mapsWrong : ChangeSpec := { name := "maps", fn := fun _ => fun
  | [d1, d2, d3, d4, d5, d6, d7] => { results := [.lit (.bool false)], args := [d1, d2, d3, d4, d5, d6, d7] }
  | _ => none }
def MapsWrongFalsely : Prop := mapsRow.holds Try.pinned (OpenSpec.ofChange mapsWrong)

/-- 'furlonglaw6.CoverPlaces': WHATEVER THE INPUT: true; the input reads as it did. -/
def coverPlacesSpec : ChangeSpec := { name := "coverPlaces", fn := fun _ => fun
  | [d1, d2] => { results := [.lit (.bool true)], args := [d1, d2] }
  | _ => none }
def coverPlacesRow : OpenClaim := { program := "ytddndccbdglmdaa", sum := "79ebc8efd14cc7be294c25491c472f47df4932c235b16879b710ca583089cab4", func := "furlong/furlonglaw6.CoverPlaces", spec := "coverPlaces", unfollowed := true, recurses := true, apart := false }
def CoverPlacesSaid : Prop := coverPlacesRow.holds Try.pinned (OpenSpec.ofChange coverPlacesSpec)

/-- ITS FALSE NEIGHBOUR: 'it returns false'. Refute it at one input. -/
def coverPlacesWrong : ChangeSpec := { name := "coverPlaces", fn := fun _ => fun
  | [d1, d2] => { results := [.lit (.bool false)], args := [d1, d2] }
  | _ => none }
def CoverPlacesWrongFalsely : Prop := coverPlacesRow.holds Try.pinned (OpenSpec.ofChange coverPlacesWrong)

/-- 'furlonglaw24.ModelRules': WHATEVER THE INPUT: true; the input reads as it did. -/
def modelRulesSpec : ChangeSpec := { name := "modelRules", fn := fun _ => fun
  | [d1, d2] => { results := [.lit (.bool true)], args := [d1, d2] }
  | _ => none }
def modelRulesRow : OpenClaim := { program := "ytddndccbdglmdaa", sum := "79ebc8efd14cc7be294c25491c472f47df4932c235b16879b710ca583089cab4", func := "furlong/furlonglaw24.ModelRules", spec := "modelRules", inPlace := ["slices.overlaps[furlong/api.Feature]"], unfollowed := true, recurses := true, apart := false }
def ModelRulesSaid : Prop := modelRulesRow.holds Try.pinned (OpenSpec.ofChange modelRulesSpec)

/-- ITS FALSE NEIGHBOUR: 'it returns false'. Refute it at one input. -/
def modelRulesWrong : ChangeSpec := { name := "modelRules", fn := fun _ => fun
  | [d1, d2] => { results := [.lit (.bool false)], args := [d1, d2] }
  | _ => none }
def ModelRulesWrongFalsely : Prop := modelRulesRow.holds Try.pinned (OpenSpec.ofChange modelRulesWrong)

/-- 'furlonglaw24.ModelRows': WHATEVER THE INPUT: true; the input reads as it did. -/
def modelRowsSpec : ChangeSpec := { name := "modelRows", fn := fun _ => fun
  | [d1, d2, d3] => { results := [.lit (.bool true)], args := [d1, d2, d3] }
  | _ => none }
def modelRowsRow : OpenClaim := { program := "ytddndccbdglmdaa", sum := "79ebc8efd14cc7be294c25491c472f47df4932c235b16879b710ca583089cab4", func := "furlong/furlonglaw24.ModelRows", spec := "modelRows", inPlace := ["slices.overlaps[furlong/api.Feature]"], unfollowed := true, recurses := true, apart := false }
def ModelRowsSaid : Prop := modelRowsRow.holds Try.pinned (OpenSpec.ofChange modelRowsSpec)

/-- ITS FALSE NEIGHBOUR: 'it returns false'. Refute it at one input. -/
def modelRowsWrong : ChangeSpec := { name := "modelRows", fn := fun _ => fun
  | [d1, d2, d3] => { results := [.lit (.bool false)], args := [d1, d2, d3] }
  | _ => none }
def ModelRowsWrongFalsely : Prop := modelRowsRow.holds Try.pinned (OpenSpec.ofChange modelRowsWrong)

/-- 'furlonglaw24.ModelForms': WHATEVER THE INPUT: true; the input reads as it did. -/
def modelFormsSpec : ChangeSpec := { name := "modelForms", fn := fun _ => fun
  | [d1, d2] => { results := [.lit (.bool true)], args := [d1, d2] }
  | _ => none }
def modelFormsRow : OpenClaim := { program := "ytddndccbdglmdaa", sum := "79ebc8efd14cc7be294c25491c472f47df4932c235b16879b710ca583089cab4", func := "furlong/furlonglaw24.ModelForms", spec := "modelForms", inPlace := ["slices.overlaps[furlong/api.Feature]"], unfollowed := true, recurses := true, apart := false }
def ModelFormsSaid : Prop := modelFormsRow.holds Try.pinned (OpenSpec.ofChange modelFormsSpec)

/-- ITS FALSE NEIGHBOUR: 'it returns false'. Refute it at one input. -/
def modelFormsWrong : ChangeSpec := { name := "modelForms", fn := fun _ => fun
  | [d1, d2] => { results := [.lit (.bool false)], args := [d1, d2] }
  | _ => none }
def ModelFormsWrongFalsely : Prop := modelFormsRow.holds Try.pinned (OpenSpec.ofChange modelFormsWrong)

/-- 'furlonglaw12.IndexActs': WHATEVER THE INPUT: true; the input reads as it did. -/
def indexActsSpec : ChangeSpec := { name := "indexActs", fn := fun _ => fun
  | [d] => { results := [.lit (.bool true)], args := [d] }
  | _ => none }
def indexActsRow : OpenClaim := { program := "ytddndccbdglmdaa", sum := "79ebc8efd14cc7be294c25491c472f47df4932c235b16879b710ca583089cab4", func := "furlong/furlonglaw12.IndexActs", spec := "indexActs", unfollowed := true, recurses := true, apart := false }
def IndexActsSaid : Prop := indexActsRow.holds Try.pinned (OpenSpec.ofChange indexActsSpec)

/-- ITS FALSE NEIGHBOUR: 'it returns false'. Refute it at one input. -/
def indexActsWrong : ChangeSpec := { name := "indexActs", fn := fun _ => fun
  | [d] => { results := [.lit (.bool false)], args := [d] }
  | _ => none }
def IndexActsWrongFalsely : Prop := indexActsRow.holds Try.pinned (OpenSpec.ofChange indexActsWrong)

/-- 'furlonglaw12.IndexFinds': WHATEVER THE INPUT: true; the input reads as it did. -/
def indexFindsSpec : ChangeSpec := { name := "indexFinds", fn := fun _ => fun
  | [d1, d2, d3] => { results := [.lit (.bool true)], args := [d1, d2, d3] }
  | _ => none }
def indexFindsRow : OpenClaim := { program := "ytddndccbdglmdaa", sum := "79ebc8efd14cc7be294c25491c472f47df4932c235b16879b710ca583089cab4", func := "furlong/furlonglaw12.IndexFinds", spec := "indexFinds", unfollowed := true, recurses := true, apart := false }
def IndexFindsSaid : Prop := indexFindsRow.holds Try.pinned (OpenSpec.ofChange indexFindsSpec)

/-- ITS FALSE NEIGHBOUR: 'it returns false'. Refute it at one input. -/
def indexFindsWrong : ChangeSpec := { name := "indexFinds", fn := fun _ => fun
  | [d1, d2, d3] => { results := [.lit (.bool false)], args := [d1, d2, d3] }
  | _ => none }
def IndexFindsWrongFalsely : Prop := indexFindsRow.holds Try.pinned (OpenSpec.ofChange indexFindsWrong)

/-- 'furlonglaw12.IndexNear': WHATEVER THE INPUT: true; the input reads as it did. -/
def indexNearSpec : ChangeSpec := { name := "indexNear", fn := fun _ => fun
  | [d1, d2, d3] => { results := [.lit (.bool true)], args := [d1, d2, d3] }
  | _ => none }
def indexNearRow : OpenClaim := { program := "ytddndccbdglmdaa", sum := "79ebc8efd14cc7be294c25491c472f47df4932c235b16879b710ca583089cab4", func := "furlong/furlonglaw12.IndexNear", spec := "indexNear", unfollowed := true, recurses := true, apart := false }
def IndexNearSaid : Prop := indexNearRow.holds Try.pinned (OpenSpec.ofChange indexNearSpec)

/-- ITS FALSE NEIGHBOUR: 'it returns false'. Refute it at one input. -/
def indexNearWrong : ChangeSpec := { name := "indexNear", fn := fun _ => fun
  | [d1, d2, d3] => { results := [.lit (.bool false)], args := [d1, d2, d3] }
  | _ => none }
def IndexNearWrongFalsely : Prop := indexNearRow.holds Try.pinned (OpenSpec.ofChange indexNearWrong)

/-- 'furlonglaw12.IndexRows': WHATEVER THE INPUT: true; the input reads as it did. -/
def indexRowsSpec : ChangeSpec := { name := "indexRows", fn := fun _ => fun
  | [d1, d2] => { results := [.lit (.bool true)], args := [d1, d2] }
  | _ => none }
def indexRowsRow : OpenClaim := { program := "ytddndccbdglmdaa", sum := "79ebc8efd14cc7be294c25491c472f47df4932c235b16879b710ca583089cab4", func := "furlong/furlonglaw12.IndexRows", spec := "indexRows", unfollowed := true, recurses := true, apart := false }
def IndexRowsSaid : Prop := indexRowsRow.holds Try.pinned (OpenSpec.ofChange indexRowsSpec)

/-- ITS FALSE NEIGHBOUR: 'it returns false'. Refute it at one input. -/
def indexRowsWrong : ChangeSpec := { name := "indexRows", fn := fun _ => fun
  | [d1, d2] => { results := [.lit (.bool false)], args := [d1, d2] }
  | _ => none }
def IndexRowsWrongFalsely : Prop := indexRowsRow.holds Try.pinned (OpenSpec.ofChange indexRowsWrong)

/-- 'furlonglaw12.IndexTall': WHATEVER THE INPUT: true; the input reads as it did. -/
def indexTallSpec : ChangeSpec := { name := "indexTall", fn := fun _ => fun
  | [d1, d2] => { results := [.lit (.bool true)], args := [d1, d2] }
  | _ => none }
def indexTallRow : OpenClaim := { program := "ytddndccbdglmdaa", sum := "79ebc8efd14cc7be294c25491c472f47df4932c235b16879b710ca583089cab4", func := "furlong/furlonglaw12.IndexTall", spec := "indexTall", unfollowed := true, recurses := true, apart := false }
def IndexTallSaid : Prop := indexTallRow.holds Try.pinned (OpenSpec.ofChange indexTallSpec)

/-- ITS FALSE NEIGHBOUR: 'it returns false'. Refute it at one input. -/
def indexTallWrong : ChangeSpec := { name := "indexTall", fn := fun _ => fun
  | [d1, d2] => { results := [.lit (.bool false)], args := [d1, d2] }
  | _ => none }
def IndexTallWrongFalsely : Prop := indexTallRow.holds Try.pinned (OpenSpec.ofChange indexTallWrong)

/- THE SECOND FORM. 'bulk': how many values and letters a reading holds, each counted each time it is reached (what is shared counts as often as it is met; a slice's spare places count too). A statement '..UptoSaid' is the law's where the arguments, and the package variables that the reading takes, are together of bulk at most 1048576: NARROWER than '..Said'. Prove '..Said' where nothing that the law and all that it calls make is longer than what came in: it says more and counts as full. Else prove '..UptoSaid'. A law counts once. -/
mutual
def uptoBulk {H : Type} : DataW H → Nat
  | .lit (.string bytes) => bytes.length + 1
  | .lit _ => 1
  | .nil => 1
  | .ptr d => uptoBulk d + 1
  | .slice elems spare => uptoBulkAll elems + uptoBulkAll spare + 1
  | .agg parts => uptoBulkAll parts + 1
  | .iface _ d => uptoBulk d + 1
  | .map entries => uptoBulkEntries entries + 1
  | .held _ => 1
def uptoBulkAll {H : Type} : List (DataW H) → Nat
  | [] => 0
  | d :: r => uptoBulk d + uptoBulkAll r
def uptoBulkEntries {H : Type} : List (Lit × DataW H) → Nat
  | [] => 0
  | x :: r => uptoBulkEntry x + uptoBulkEntries r
def uptoBulkEntry {H : Type} : Lit × DataW H → Nat
  | (.string bytes, d) => bytes.length + uptoBulk d + 1
  | (_, d) => uptoBulk d + 1
 end
def uptoSmall : (H : Type) → List (DataW H) → Bool := fun _ ds => decide (uptoBulkAll ds ≤ 1048576)
def OpenSpec.upto (s : _root_.Go.ChangeSpec) : _root_.Go.OpenSpec := { _root_.Go.OpenSpec.ofChange s with cond := some uptoSmall }

/-- 'furlonglaw6.CoverForms', WHERE WHAT IT READS IS OF BULK AT MOST 1048576: true; the input reads as it did. -/
def coverFormsUptoRow : OpenClaim := { program := "ytddndccbdglmdaa", sum := "79ebc8efd14cc7be294c25491c472f47df4932c235b16879b710ca583089cab4", func := "furlong/furlonglaw6.CoverForms", spec := "coverForms", unfollowed := true, recurses := true, apart := false, narrowed := true }
def CoverFormsUptoSaid : Prop := coverFormsUptoRow.holds Try.pinned (OpenSpec.upto coverFormsSpec)

/-- 'furlonglaw7.Maps', WHERE WHAT IT READS IS OF BULK AT MOST 1048576: true; the input reads as it did. -/
def mapsUptoRow : OpenClaim := { program := "ytddndccbdglmdaa", sum := "79ebc8efd14cc7be294c25491c472f47df4932c235b16879b710ca583089cab4", func := "furlong/furlonglaw7.Maps", spec := "maps", inPlace := ["slices.overlaps[int]"], unfollowed := true, recurses := true, apart := false, narrowed := true }
def MapsUptoSaid : Prop := mapsUptoRow.holds Try.pinned (OpenSpec.upto mapsSpec)

/-- 'furlonglaw6.CoverPlaces', WHERE WHAT IT READS IS OF BULK AT MOST 1048576: true; the input reads as it did. -/
def coverPlacesUptoRow : OpenClaim := { program := "ytddndccbdglmdaa", sum := "79ebc8efd14cc7be294c25491c472f47df4932c235b16879b710ca583089cab4", func := "furlong/furlonglaw6.CoverPlaces", spec := "coverPlaces", unfollowed := true, recurses := true, apart := false, narrowed := true }
def CoverPlacesUptoSaid : Prop := coverPlacesUptoRow.holds Try.pinned (OpenSpec.upto coverPlacesSpec)

/-- 'furlonglaw24.ModelRules', WHERE WHAT IT READS IS OF BULK AT MOST 1048576: true; the input reads as it did. -/
def modelRulesUptoRow : OpenClaim := { program := "ytddndccbdglmdaa", sum := "79ebc8efd14cc7be294c25491c472f47df4932c235b16879b710ca583089cab4", func := "furlong/furlonglaw24.ModelRules", spec := "modelRules", inPlace := ["slices.overlaps[furlong/api.Feature]"], unfollowed := true, recurses := true, apart := false, narrowed := true }
def ModelRulesUptoSaid : Prop := modelRulesUptoRow.holds Try.pinned (OpenSpec.upto modelRulesSpec)

/-- 'furlonglaw24.ModelRows', WHERE WHAT IT READS IS OF BULK AT MOST 1048576: true; the input reads as it did. -/
def modelRowsUptoRow : OpenClaim := { program := "ytddndccbdglmdaa", sum := "79ebc8efd14cc7be294c25491c472f47df4932c235b16879b710ca583089cab4", func := "furlong/furlonglaw24.ModelRows", spec := "modelRows", inPlace := ["slices.overlaps[furlong/api.Feature]"], unfollowed := true, recurses := true, apart := false, narrowed := true }
def ModelRowsUptoSaid : Prop := modelRowsUptoRow.holds Try.pinned (OpenSpec.upto modelRowsSpec)

/-- 'furlonglaw24.ModelForms', WHERE WHAT IT READS IS OF BULK AT MOST 1048576: true; the input reads as it did. -/
def modelFormsUptoRow : OpenClaim := { program := "ytddndccbdglmdaa", sum := "79ebc8efd14cc7be294c25491c472f47df4932c235b16879b710ca583089cab4", func := "furlong/furlonglaw24.ModelForms", spec := "modelForms", inPlace := ["slices.overlaps[furlong/api.Feature]"], unfollowed := true, recurses := true, apart := false, narrowed := true }
def ModelFormsUptoSaid : Prop := modelFormsUptoRow.holds Try.pinned (OpenSpec.upto modelFormsSpec)

/-- 'furlonglaw12.IndexActs', WHERE WHAT IT READS IS OF BULK AT MOST 1048576: true; the input reads as it did. -/
def indexActsUptoRow : OpenClaim := { program := "ytddndccbdglmdaa", sum := "79ebc8efd14cc7be294c25491c472f47df4932c235b16879b710ca583089cab4", func := "furlong/furlonglaw12.IndexActs", spec := "indexActs", unfollowed := true, recurses := true, apart := false, narrowed := true }
def IndexActsUptoSaid : Prop := indexActsUptoRow.holds Try.pinned (OpenSpec.upto indexActsSpec)

/-- 'furlonglaw12.IndexFinds', WHERE WHAT IT READS IS OF BULK AT MOST 1048576: true; the input reads as it did. -/
def indexFindsUptoRow : OpenClaim := { program := "ytddndccbdglmdaa", sum := "79ebc8efd14cc7be294c25491c472f47df4932c235b16879b710ca583089cab4", func := "furlong/furlonglaw12.IndexFinds", spec := "indexFinds", unfollowed := true, recurses := true, apart := false, narrowed := true }
def IndexFindsUptoSaid : Prop := indexFindsUptoRow.holds Try.pinned (OpenSpec.upto indexFindsSpec)

/-- 'furlonglaw12.IndexNear', WHERE WHAT IT READS IS OF BULK AT MOST 1048576: true; the input reads as it did. -/
def indexNearUptoRow : OpenClaim := { program := "ytddndccbdglmdaa", sum := "79ebc8efd14cc7be294c25491c472f47df4932c235b16879b710ca583089cab4", func := "furlong/furlonglaw12.IndexNear", spec := "indexNear", unfollowed := true, recurses := true, apart := false, narrowed := true }
def IndexNearUptoSaid : Prop := indexNearUptoRow.holds Try.pinned (OpenSpec.upto indexNearSpec)

/-- 'furlonglaw12.IndexRows', WHERE WHAT IT READS IS OF BULK AT MOST 1048576: true; the input reads as it did. -/
def indexRowsUptoRow : OpenClaim := { program := "ytddndccbdglmdaa", sum := "79ebc8efd14cc7be294c25491c472f47df4932c235b16879b710ca583089cab4", func := "furlong/furlonglaw12.IndexRows", spec := "indexRows", unfollowed := true, recurses := true, apart := false, narrowed := true }
def IndexRowsUptoSaid : Prop := indexRowsUptoRow.holds Try.pinned (OpenSpec.upto indexRowsSpec)

/-- 'furlonglaw12.IndexTall', WHERE WHAT IT READS IS OF BULK AT MOST 1048576: true; the input reads as it did. -/
def indexTallUptoRow : OpenClaim := { program := "ytddndccbdglmdaa", sum := "79ebc8efd14cc7be294c25491c472f47df4932c235b16879b710ca583089cab4", func := "furlong/furlonglaw12.IndexTall", spec := "indexTall", unfollowed := true, recurses := true, apart := false, narrowed := true }
def IndexTallUptoSaid : Prop := indexTallUptoRow.holds Try.pinned (OpenSpec.upto indexTallSpec)

end Rows
end Go.Proofs.Ytddndccbdglmdaa
