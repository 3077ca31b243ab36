/-
  No cell of these rows narrows 'for every input' (looked for: loops, veiled, ifaces, maps, wideKeys, modest, calm, conditions, laid).
  DERIVED. THE GIVEN ROWS OF THIS SEAT. 12 by the template 'for every input the law returns true; each argument reads behind the call as it read before'; 0 by the template 'total and deterministic' (their statements: YtblmlpkjocbhpaaTotals.lean).
  GIVEN WITH THE SEED: the statements are not yours to turn. If you find one false, say at which input.
  Laid BY PROGRAM, IN A SANDBOX (cutbox-rows.mjs): the forced cells as the released guide's own fill.sh prints them over the translation c4f80a984df5cf28… (all of the seat's roots in one cut). By AI agents, Wed Nov 11 2026. No macro, syntax, notation, axiom, sorry.
-/
import Derived.Test.YtblmlpkjocbhpaaChecked
import GoSem.Claim
import GoSem.ClaimJoined
import GoSem.ClaimMapViews
import Derived.JoinedTies
import Derived.KernelRfl
namespace Go.Proofs.Ytblmlpkjocbhpaa
/- THE CELL 'sum', in the pinned program and in every row, IS THE sha256 OF THE DUMP (.gsa) THAT YtblmlpkjocbhpaaProg.lean LOADS. Nothing in Lean hashes anything: it is a label: what it is worth is what the hold of that sum in a sandbox is worth. -/
noncomputable def Try.pinned : Pinned := { name := "ytblmlpkjocbhpaa", sum := "c4f80a984df5cf28e360939d4ea5856a221ed47d1bdb68347723c544d0c07235", checked := Try.checked }
namespace Rows
def none {H : Type} : Left H := { results := [], args := [] }

/-- 'petershamlaw09.PriceLater': WHATEVER THE INPUT: true; the input reads as it did. -/
def priceLaterSpec : ChangeSpec := { name := "priceLater", fn := fun _ => fun
  | [d1, d2] => { results := [.lit (.bool true)], args := [d1, d2] }
  | _ => none }
def priceLaterRow : OpenClaim := { program := "ytblmlpkjocbhpaa", sum := "c4f80a984df5cf28e360939d4ea5856a221ed47d1bdb68347723c544d0c07235", func := "petersham/petershamlaw09.PriceLater", spec := "priceLater", inPlace := ["slices.overlaps[int]"], unfollowed := true, recurses := true, apart := false }
def PriceLaterSaid : Prop := priceLaterRow.holds Try.pinned (OpenSpec.ofChange priceLaterSpec)

/-- ITS FALSE NEIGHBOUR: 'it returns false'. Refute it at one input. -/
def priceLaterWrong : ChangeSpec := { name := "priceLater", fn := fun _ => fun
  | [d1, d2] => { results := [.lit (.bool false)], args := [d1, d2] }
  | _ => none }
def PriceLaterWrongFalsely : Prop := priceLaterRow.holds Try.pinned (OpenSpec.ofChange priceLaterWrong)

/-- 'petershamlaw09.PricePieces': WHATEVER THE INPUT: true; the input reads as it did. -/
def pricePiecesSpec : ChangeSpec := { name := "pricePieces", fn := fun _ => fun
  | [d1, d2] => { results := [.lit (.bool true)], args := [d1, d2] }
  | _ => none }
def pricePiecesRow : OpenClaim := { program := "ytblmlpkjocbhpaa", sum := "c4f80a984df5cf28e360939d4ea5856a221ed47d1bdb68347723c544d0c07235", func := "petersham/petershamlaw09.PricePieces", spec := "pricePieces", inPlace := ["slices.overlaps[int]"], unfollowed := true, recurses := true, apart := false }
def PricePiecesSaid : Prop := pricePiecesRow.holds Try.pinned (OpenSpec.ofChange pricePiecesSpec)

/-- ITS FALSE NEIGHBOUR: 'it returns false'. Refute it at one input. -/
def pricePiecesWrong : ChangeSpec := { name := "pricePieces", fn := fun _ => fun
  | [d1, d2] => { results := [.lit (.bool false)], args := [d1, d2] }
  | _ => none }
def PricePiecesWrongFalsely : Prop := pricePiecesRow.holds Try.pinned (OpenSpec.ofChange pricePiecesWrong)

/-- 'petershamlaw09.PriceSales': WHATEVER THE INPUT: true; the input reads as it did. -/
def priceSalesSpec : ChangeSpec := { name := "priceSales", fn := fun _ => fun
  | [d1, d2, d3, d4] => { results := [.lit (.bool true)], args := [d1, d2, d3, d4] }
  | _ => none }
def priceSalesRow : OpenClaim := { program := "ytblmlpkjocbhpaa", sum := "c4f80a984df5cf28e360939d4ea5856a221ed47d1bdb68347723c544d0c07235", func := "petersham/petershamlaw09.PriceSales", spec := "priceSales", inPlace := ["slices.overlaps[int]"], unfollowed := true, recurses := true, apart := false }
def PriceSalesSaid : Prop := priceSalesRow.holds Try.pinned (OpenSpec.ofChange priceSalesSpec)

/-- ITS FALSE NEIGHBOUR: 'it returns false'. Refute it at one input. -/
def priceSalesWrong : ChangeSpec := { name := "priceSales", fn := fun _ => fun
  | [d1, d2, d3, d4] => { results := [.lit (.bool false)], args := [d1, d2, d3, d4] }
  | _ => none }
def PriceSalesWrongFalsely : Prop := priceSalesRow.holds Try.pinned (OpenSpec.ofChange priceSalesWrong)

/-- 'petershamlaw09.PriceEarned': WHATEVER THE INPUT: true; the input reads as it did. -/
def priceEarnedSpec : ChangeSpec := { name := "priceEarned", fn := fun _ => fun
  | [d1, d2] => { results := [.lit (.bool true)], args := [d1, d2] }
  | _ => none }
def priceEarnedRow : OpenClaim := { program := "ytblmlpkjocbhpaa", sum := "c4f80a984df5cf28e360939d4ea5856a221ed47d1bdb68347723c544d0c07235", func := "petersham/petershamlaw09.PriceEarned", spec := "priceEarned", inPlace := ["slices.overlaps[int]"], unfollowed := true, recurses := true, apart := false }
def PriceEarnedSaid : Prop := priceEarnedRow.holds Try.pinned (OpenSpec.ofChange priceEarnedSpec)

/-- ITS FALSE NEIGHBOUR: 'it returns false'. Refute it at one input. -/
def priceEarnedWrong : ChangeSpec := { name := "priceEarned", fn := fun _ => fun
  | [d1, d2] => { results := [.lit (.bool false)], args := [d1, d2] }
  | _ => none }
def PriceEarnedWrongFalsely : Prop := priceEarnedRow.holds Try.pinned (OpenSpec.ofChange priceEarnedWrong)

/-- 'petershamlaw09.PriceSold': WHATEVER THE INPUT: true; the input reads as it did. -/
def priceSoldSpec : ChangeSpec := { name := "priceSold", fn := fun _ => fun
  | [d1, d2] => { results := [.lit (.bool true)], args := [d1, d2] }
  | _ => none }
def priceSoldRow : OpenClaim := { program := "ytblmlpkjocbhpaa", sum := "c4f80a984df5cf28e360939d4ea5856a221ed47d1bdb68347723c544d0c07235", func := "petersham/petershamlaw09.PriceSold", spec := "priceSold", inPlace := ["slices.overlaps[int]"], unfollowed := true, recurses := true, apart := false }
def PriceSoldSaid : Prop := priceSoldRow.holds Try.pinned (OpenSpec.ofChange priceSoldSpec)

/-- ITS FALSE NEIGHBOUR: 'it returns false'. Refute it at one input. -/
def priceSoldWrong : ChangeSpec := { name := "priceSold", fn := fun _ => fun
  | [d1, d2] => { results := [.lit (.bool false)], args := [d1, d2] }
  | _ => none }
def PriceSoldWrongFalsely : Prop := priceSoldRow.holds Try.pinned (OpenSpec.ofChange priceSoldWrong)

/-- 'petershamlaw09.PriceRules': WHATEVER THE INPUT: true; the input reads as it did. -/
def priceRulesSpec : ChangeSpec := { name := "priceRules", fn := fun _ => fun
  | [d1, d2, d3, d4] => { results := [.lit (.bool true)], args := [d1, d2, d3, d4] }
  | _ => none }
def priceRulesRow : OpenClaim := { program := "ytblmlpkjocbhpaa", sum := "c4f80a984df5cf28e360939d4ea5856a221ed47d1bdb68347723c544d0c07235", func := "petersham/petershamlaw09.PriceRules", spec := "priceRules", inPlace := ["slices.overlaps[int]"], unfollowed := true, recurses := true, apart := false }
def PriceRulesSaid : Prop := priceRulesRow.holds Try.pinned (OpenSpec.ofChange priceRulesSpec)

/-- ITS FALSE NEIGHBOUR: 'it returns false'. Refute it at one input. -/
def priceRulesWrong : ChangeSpec := { name := "priceRules", fn := fun _ => fun
  | [d1, d2, d3, d4] => { results := [.lit (.bool false)], args := [d1, d2, d3, d4] }
  | _ => none }
def PriceRulesWrongFalsely : Prop := priceRulesRow.holds Try.pinned (OpenSpec.ofChange priceRulesWrong)

/-- 'petershamlaw09.PriceDiffers': WHATEVER THE INPUT: true; the input reads as it did. -/
def priceDiffersSpec : ChangeSpec := { name := "priceDiffers", fn := fun _ => fun
  | [d1, d2, d3, d4] => { results := [.lit (.bool true)], args := [d1, d2, d3, d4] }
  | _ => none }
def priceDiffersRow : OpenClaim := { program := "ytblmlpkjocbhpaa", sum := "c4f80a984df5cf28e360939d4ea5856a221ed47d1bdb68347723c544d0c07235", func := "petersham/petershamlaw09.PriceDiffers", spec := "priceDiffers", inPlace := ["slices.overlaps[int]"], unfollowed := true, recurses := true, apart := false }
def PriceDiffersSaid : Prop := priceDiffersRow.holds Try.pinned (OpenSpec.ofChange priceDiffersSpec)

/-- ITS FALSE NEIGHBOUR: 'it returns false'. Refute it at one input. -/
def priceDiffersWrong : ChangeSpec := { name := "priceDiffers", fn := fun _ => fun
  | [d1, d2, d3, d4] => { results := [.lit (.bool false)], args := [d1, d2, d3, d4] }
  | _ => none }
def PriceDiffersWrongFalsely : Prop := priceDiffersRow.holds Try.pinned (OpenSpec.ofChange priceDiffersWrong)

/-- 'petershamlaw09.PriceLists': WHATEVER THE INPUT: true; the input reads as it did. -/
def priceListsSpec : ChangeSpec := { name := "priceLists", fn := fun _ => fun
  | [d1, d2, d3] => { results := [.lit (.bool true)], args := [d1, d2, d3] }
  | _ => none }
def priceListsRow : OpenClaim := { program := "ytblmlpkjocbhpaa", sum := "c4f80a984df5cf28e360939d4ea5856a221ed47d1bdb68347723c544d0c07235", func := "petersham/petershamlaw09.PriceLists", spec := "priceLists", inPlace := ["slices.overlaps[int]"], unfollowed := true, recurses := true, apart := false }
def PriceListsSaid : Prop := priceListsRow.holds Try.pinned (OpenSpec.ofChange priceListsSpec)

/-- ITS FALSE NEIGHBOUR: 'it returns false'. Refute it at one input. -/
def priceListsWrong : ChangeSpec := { name := "priceLists", fn := fun _ => fun
  | [d1, d2, d3] => { results := [.lit (.bool false)], args := [d1, d2, d3] }
  | _ => none }
def PriceListsWrongFalsely : Prop := priceListsRow.holds Try.pinned (OpenSpec.ofChange priceListsWrong)

/-- 'petershamlaw09.PriceShort': WHATEVER THE INPUT: true; the input reads as it did. -/
def priceShortSpec : ChangeSpec := { name := "priceShort", fn := fun _ => fun
  | [d1, d2] => { results := [.lit (.bool true)], args := [d1, d2] }
  | _ => none }
def priceShortRow : OpenClaim := { program := "ytblmlpkjocbhpaa", sum := "c4f80a984df5cf28e360939d4ea5856a221ed47d1bdb68347723c544d0c07235", func := "petersham/petershamlaw09.PriceShort", spec := "priceShort", inPlace := ["slices.overlaps[int]"], unfollowed := true, recurses := true, apart := false }
def PriceShortSaid : Prop := priceShortRow.holds Try.pinned (OpenSpec.ofChange priceShortSpec)

/-- ITS FALSE NEIGHBOUR: 'it returns false'. Refute it at one input. -/
def priceShortWrong : ChangeSpec := { name := "priceShort", fn := fun _ => fun
  | [d1, d2] => { results := [.lit (.bool false)], args := [d1, d2] }
  | _ => none }
def PriceShortWrongFalsely : Prop := priceShortRow.holds Try.pinned (OpenSpec.ofChange priceShortWrong)

/-- 'petershamlaw09.PriceCounts': WHATEVER THE INPUT: true; the input reads as it did. -/
def priceCountsSpec : ChangeSpec := { name := "priceCounts", fn := fun _ => fun
  | [d] => { results := [.lit (.bool true)], args := [d] }
  | _ => none }
def priceCountsRow : OpenClaim := { program := "ytblmlpkjocbhpaa", sum := "c4f80a984df5cf28e360939d4ea5856a221ed47d1bdb68347723c544d0c07235", func := "petersham/petershamlaw09.PriceCounts", spec := "priceCounts", inPlace := ["slices.overlaps[int]"], unfollowed := true, recurses := true, apart := false }
def PriceCountsSaid : Prop := priceCountsRow.holds Try.pinned (OpenSpec.ofChange priceCountsSpec)

/-- ITS FALSE NEIGHBOUR: 'it returns false'. Refute it at one input. -/
def priceCountsWrong : ChangeSpec := { name := "priceCounts", fn := fun _ => fun
  | [d] => { results := [.lit (.bool false)], args := [d] }
  | _ => none }
def PriceCountsWrongFalsely : Prop := priceCountsRow.holds Try.pinned (OpenSpec.ofChange priceCountsWrong)

/-- 'petershamlaw09.PriceTold': WHATEVER THE INPUT: true; the input reads as it did. -/
def priceToldSpec : ChangeSpec := { name := "priceTold", fn := fun _ => fun
  | [d1, d2] => { results := [.lit (.bool true)], args := [d1, d2] }
  | _ => none }
def priceToldRow : OpenClaim := { program := "ytblmlpkjocbhpaa", sum := "c4f80a984df5cf28e360939d4ea5856a221ed47d1bdb68347723c544d0c07235", func := "petersham/petershamlaw09.PriceTold", spec := "priceTold", inPlace := ["slices.overlaps[int]"], unfollowed := true, recurses := true, apart := false }
def PriceToldSaid : Prop := priceToldRow.holds Try.pinned (OpenSpec.ofChange priceToldSpec)

/-- ITS FALSE NEIGHBOUR: 'it returns false'. Refute it at one input. -/
def priceToldWrong : ChangeSpec := { name := "priceTold", fn := fun _ => fun
  | [d1, d2] => { results := [.lit (.bool false)], args := [d1, d2] }
  | _ => none }
def PriceToldWrongFalsely : Prop := priceToldRow.holds Try.pinned (OpenSpec.ofChange priceToldWrong)

/-- 'petershamlaw09.PriceSilk': WHATEVER THE INPUT: true; the input reads as it did. -/
def priceSilkSpec : ChangeSpec := { name := "priceSilk", fn := fun _ => fun
  | [d1, d2, d3] => { results := [.lit (.bool true)], args := [d1, d2, d3] }
  | _ => none }
def priceSilkRow : OpenClaim := { program := "ytblmlpkjocbhpaa", sum := "c4f80a984df5cf28e360939d4ea5856a221ed47d1bdb68347723c544d0c07235", func := "petersham/petershamlaw09.PriceSilk", spec := "priceSilk", inPlace := ["slices.overlaps[int]"], unfollowed := true, recurses := true, apart := false }
def PriceSilkSaid : Prop := priceSilkRow.holds Try.pinned (OpenSpec.ofChange priceSilkSpec)

/-- ITS FALSE NEIGHBOUR: 'it returns false'. Refute it at one input. -/
def priceSilkWrong : ChangeSpec := { name := "priceSilk", fn := fun _ => fun
  | [d1, d2, d3] => { results := [.lit (.bool false)], args := [d1, d2, d3] }
  | _ => none }
def PriceSilkWrongFalsely : Prop := priceSilkRow.holds Try.pinned (OpenSpec.ofChange priceSilkWrong)

/- THE SECOND FORM. 'bulk': how many values and letters a reading holds, each counted each time it is reached (what is shared counts as often as it is met; a slice's spare places count too). A statement '..UptoSaid' is the law's where the arguments, and the package variables that the reading takes, are together of bulk at most 1048576: NARROWER than '..Said'. Prove '..Said' where nothing that the law and all that it calls make is longer than what came in: it says more and counts as full. Else prove '..UptoSaid'. A law counts once. -/
mutual
def uptoBulk {H : Type} : DataW H → Nat
  | .lit (.string bytes) => bytes.length + 1
  | .lit _ => 1
  | .nil => 1
  | .ptr d => uptoBulk d + 1
  | .slice elems spare => uptoBulkAll elems + uptoBulkAll spare + 1
  | .agg parts => uptoBulkAll parts + 1
  | .iface _ d => uptoBulk d + 1
  | .map entries => uptoBulkEntries entries + 1
  | .held _ => 1
def uptoBulkAll {H : Type} : List (DataW H) → Nat
  | [] => 0
  | d :: r => uptoBulk d + uptoBulkAll r
def uptoBulkEntries {H : Type} : List (Lit × DataW H) → Nat
  | [] => 0
  | x :: r => uptoBulkEntry x + uptoBulkEntries r
def uptoBulkEntry {H : Type} : Lit × DataW H → Nat
  | (.string bytes, d) => bytes.length + uptoBulk d + 1
  | (_, d) => uptoBulk d + 1
 end
def uptoSmall : (H : Type) → List (DataW H) → Bool := fun _ ds => decide (uptoBulkAll ds ≤ 1048576)
def OpenSpec.upto (s : _root_.Go.ChangeSpec) : _root_.Go.OpenSpec := { _root_.Go.OpenSpec.ofChange s with cond := some uptoSmall }

/-- 'petershamlaw09.PriceLater', WHERE WHAT IT READS IS OF BULK AT MOST 1048576: true; the input reads as it did. -/
def priceLaterUptoRow : OpenClaim := { program := "ytblmlpkjocbhpaa", sum := "c4f80a984df5cf28e360939d4ea5856a221ed47d1bdb68347723c544d0c07235", func := "petersham/petershamlaw09.PriceLater", spec := "priceLater", inPlace := ["slices.overlaps[int]"], unfollowed := true, recurses := true, apart := false, narrowed := true }
def PriceLaterUptoSaid : Prop := priceLaterUptoRow.holds Try.pinned (OpenSpec.upto priceLaterSpec)

/-- 'petershamlaw09.PricePieces', WHERE WHAT IT READS IS OF BULK AT MOST 1048576: true; the input reads as it did. -/
def pricePiecesUptoRow : OpenClaim := { program := "ytblmlpkjocbhpaa", sum := "c4f80a984df5cf28e360939d4ea5856a221ed47d1bdb68347723c544d0c07235", func := "petersham/petershamlaw09.PricePieces", spec := "pricePieces", inPlace := ["slices.overlaps[int]"], unfollowed := true, recurses := true, apart := false, narrowed := true }
def PricePiecesUptoSaid : Prop := pricePiecesUptoRow.holds Try.pinned (OpenSpec.upto pricePiecesSpec)

/-- 'petershamlaw09.PriceSales', WHERE WHAT IT READS IS OF BULK AT MOST 1048576: true; the input reads as it did. -/
def priceSalesUptoRow : OpenClaim := { program := "ytblmlpkjocbhpaa", sum := "c4f80a984df5cf28e360939d4ea5856a221ed47d1bdb68347723c544d0c07235", func := "petersham/petershamlaw09.PriceSales", spec := "priceSales", inPlace := ["slices.overlaps[int]"], unfollowed := true, recurses := true, apart := false, narrowed := true }
def PriceSalesUptoSaid : Prop := priceSalesUptoRow.holds Try.pinned (OpenSpec.upto priceSalesSpec)

/-- 'petershamlaw09.PriceEarned', WHERE WHAT IT READS IS OF BULK AT MOST 1048576: true; the input reads as it did. -/
def priceEarnedUptoRow : OpenClaim := { program := "ytblmlpkjocbhpaa", sum := "c4f80a984df5cf28e360939d4ea5856a221ed47d1bdb68347723c544d0c07235", func := "petersham/petershamlaw09.PriceEarned", spec := "priceEarned", inPlace := ["slices.overlaps[int]"], unfollowed := true, recurses := true, apart := false, narrowed := true }
def PriceEarnedUptoSaid : Prop := priceEarnedUptoRow.holds Try.pinned (OpenSpec.upto priceEarnedSpec)

/-- 'petershamlaw09.PriceSold', WHERE WHAT IT READS IS OF BULK AT MOST 1048576: true; the input reads as it did. -/
def priceSoldUptoRow : OpenClaim := { program := "ytblmlpkjocbhpaa", sum := "c4f80a984df5cf28e360939d4ea5856a221ed47d1bdb68347723c544d0c07235", func := "petersham/petershamlaw09.PriceSold", spec := "priceSold", inPlace := ["slices.overlaps[int]"], unfollowed := true, recurses := true, apart := false, narrowed := true }
def PriceSoldUptoSaid : Prop := priceSoldUptoRow.holds Try.pinned (OpenSpec.upto priceSoldSpec)

/-- 'petershamlaw09.PriceRules', WHERE WHAT IT READS IS OF BULK AT MOST 1048576: true; the input reads as it did. -/
def priceRulesUptoRow : OpenClaim := { program := "ytblmlpkjocbhpaa", sum := "c4f80a984df5cf28e360939d4ea5856a221ed47d1bdb68347723c544d0c07235", func := "petersham/petershamlaw09.PriceRules", spec := "priceRules", inPlace := ["slices.overlaps[int]"], unfollowed := true, recurses := true, apart := false, narrowed := true }
def PriceRulesUptoSaid : Prop := priceRulesUptoRow.holds Try.pinned (OpenSpec.upto priceRulesSpec)

/-- 'petershamlaw09.PriceDiffers', WHERE WHAT IT READS IS OF BULK AT MOST 1048576: true; the input reads as it did. -/
def priceDiffersUptoRow : OpenClaim := { program := "ytblmlpkjocbhpaa", sum := "c4f80a984df5cf28e360939d4ea5856a221ed47d1bdb68347723c544d0c07235", func := "petersham/petershamlaw09.PriceDiffers", spec := "priceDiffers", inPlace := ["slices.overlaps[int]"], unfollowed := true, recurses := true, apart := false, narrowed := true }
def PriceDiffersUptoSaid : Prop := priceDiffersUptoRow.holds Try.pinned (OpenSpec.upto priceDiffersSpec)

/-- 'petershamlaw09.PriceLists', WHERE WHAT IT READS IS OF BULK AT MOST 1048576: true; the input reads as it did. -/
def priceListsUptoRow : OpenClaim := { program := "ytblmlpkjocbhpaa", sum := "c4f80a984df5cf28e360939d4ea5856a221ed47d1bdb68347723c544d0c07235", func := "petersham/petershamlaw09.PriceLists", spec := "priceLists", inPlace := ["slices.overlaps[int]"], unfollowed := true, recurses := true, apart := false, narrowed := true }
def PriceListsUptoSaid : Prop := priceListsUptoRow.holds Try.pinned (OpenSpec.upto priceListsSpec)

/-- 'petershamlaw09.PriceShort', WHERE WHAT IT READS IS OF BULK AT MOST 1048576: true; the input reads as it did. -/
def priceShortUptoRow : OpenClaim := { program := "ytblmlpkjocbhpaa", sum := "c4f80a984df5cf28e360939d4ea5856a221ed47d1bdb68347723c544d0c07235", func := "petersham/petershamlaw09.PriceShort", spec := "priceShort", inPlace := ["slices.overlaps[int]"], unfollowed := true, recurses := true, apart := false, narrowed := true }
def PriceShortUptoSaid : Prop := priceShortUptoRow.holds Try.pinned (OpenSpec.upto priceShortSpec)

/-- 'petershamlaw09.PriceCounts', WHERE WHAT IT READS IS OF BULK AT MOST 1048576: true; the input reads as it did. -/
def priceCountsUptoRow : OpenClaim := { program := "ytblmlpkjocbhpaa", sum := "c4f80a984df5cf28e360939d4ea5856a221ed47d1bdb68347723c544d0c07235", func := "petersham/petershamlaw09.PriceCounts", spec := "priceCounts", inPlace := ["slices.overlaps[int]"], unfollowed := true, recurses := true, apart := false, narrowed := true }
def PriceCountsUptoSaid : Prop := priceCountsUptoRow.holds Try.pinned (OpenSpec.upto priceCountsSpec)

/-- 'petershamlaw09.PriceTold', WHERE WHAT IT READS IS OF BULK AT MOST 1048576: true; the input reads as it did. -/
def priceToldUptoRow : OpenClaim := { program := "ytblmlpkjocbhpaa", sum := "c4f80a984df5cf28e360939d4ea5856a221ed47d1bdb68347723c544d0c07235", func := "petersham/petershamlaw09.PriceTold", spec := "priceTold", inPlace := ["slices.overlaps[int]"], unfollowed := true, recurses := true, apart := false, narrowed := true }
def PriceToldUptoSaid : Prop := priceToldUptoRow.holds Try.pinned (OpenSpec.upto priceToldSpec)

/-- 'petershamlaw09.PriceSilk', WHERE WHAT IT READS IS OF BULK AT MOST 1048576: true; the input reads as it did. -/
def priceSilkUptoRow : OpenClaim := { program := "ytblmlpkjocbhpaa", sum := "c4f80a984df5cf28e360939d4ea5856a221ed47d1bdb68347723c544d0c07235", func := "petersham/petershamlaw09.PriceSilk", spec := "priceSilk", inPlace := ["slices.overlaps[int]"], unfollowed := true, recurses := true, apart := false, narrowed := true }
def PriceSilkUptoSaid : Prop := priceSilkUptoRow.holds Try.pinned (OpenSpec.upto priceSilkSpec)

end Rows
end Go.Proofs.Ytblmlpkjocbhpaa
