/-
  No cell of these rows narrows 'for every input' (looked for: loops, veiled, ifaces, maps, wideKeys, modest, calm, conditions, laid).
  DERIVED. THE GIVEN ROWS OF THIS SEAT. 13 by the template 'for every input the law returns true; each argument reads behind the call as it read before'; 0 by the template 'total and deterministic' (their statements: YthmkmjoeceghiaaTotals.lean).
  GIVEN WITH THE SEED: the statements are not yours to turn. If you find one false, say at which input.
  Laid BY PROGRAM, IN A SANDBOX (cutbox-rows.mjs): the forced cells as the released guide's own fill.sh prints them over the translation 870559a46c52ffac… (all of the seat's roots in one cut). By AI agents, Wed Nov 11 2026. No macro, syntax, notation, axiom, sorry.
-/
import Derived.Test.YthmkmjoeceghiaaChecked
import GoSem.Claim
import GoSem.ClaimJoined
import GoSem.ClaimMapViews
import Derived.JoinedTies
import Derived.KernelRfl
namespace Go.Proofs.Ythmkmjoeceghiaa
/- THE CELL 'sum', in the pinned program and in every row, IS THE sha256 OF THE DUMP (.gsa) THAT YthmkmjoeceghiaaProg.lean LOADS. Nothing in Lean hashes anything: it is a label: what it is worth is what the hold of that sum in a sandbox is worth. -/
noncomputable def Try.pinned : Pinned := { name := "ythmkmjoeceghiaa", sum := "870559a46c52ffac9e331d4d689ce22edab6a5b8c7665382d43f915528d326bf", checked := Try.checked }
namespace Rows
def none {H : Type} : Left H := { results := [], args := [] }

/-- 'wainscotlaw27.HeapLists': WHATEVER THE INPUT: true; the input reads as it did. -/
def heapListsSpec : ChangeSpec := { name := "heapLists", fn := fun _ => fun
  | [d] => { results := [.lit (.bool true)], args := [d] }
  | _ => none }
def heapListsRow : OpenClaim := { program := "ythmkmjoeceghiaa", sum := "870559a46c52ffac9e331d4d689ce22edab6a5b8c7665382d43f915528d326bf", func := "wainscot/wainscotlaw27.HeapLists", spec := "heapLists", unfollowed := true, recurses := true, plainKeys := false, apart := false }
def HeapListsSaid : Prop := heapListsRow.holds Try.pinned (OpenSpec.ofChange heapListsSpec)

/-- ITS FALSE NEIGHBOUR: 'it returns false'. Refute it at one input. -/
def heapListsWrong : ChangeSpec := { name := "heapLists", fn := fun _ => fun
  | [d] => { results := [.lit (.bool false)], args := [d] }
  | _ => none }
def HeapListsWrongFalsely : Prop := heapListsRow.holds Try.pinned (OpenSpec.ofChange heapListsWrong)

/-- 'wainscotlaw27.HeapAlone': WHATEVER THE INPUT: true; the input reads as it did. -/
def heapAloneSpec : ChangeSpec := { name := "heapAlone", fn := fun _ => fun
  | [d] => { results := [.lit (.bool true)], args := [d] }
  | _ => none }
def heapAloneRow : OpenClaim := { program := "ythmkmjoeceghiaa", sum := "870559a46c52ffac9e331d4d689ce22edab6a5b8c7665382d43f915528d326bf", func := "wainscot/wainscotlaw27.HeapAlone", spec := "heapAlone", unfollowed := true, recurses := true, plainKeys := false, apart := false }
def HeapAloneSaid : Prop := heapAloneRow.holds Try.pinned (OpenSpec.ofChange heapAloneSpec)

/-- ITS FALSE NEIGHBOUR: 'it returns false'. Refute it at one input. -/
def heapAloneWrong : ChangeSpec := { name := "heapAlone", fn := fun _ => fun
  | [d] => { results := [.lit (.bool false)], args := [d] }
  | _ => none }
def HeapAloneWrongFalsely : Prop := heapAloneRow.holds Try.pinned (OpenSpec.ofChange heapAloneWrong)

/-- 'wainscotlaw27.HeapOrder': WHATEVER THE INPUT: true; the input reads as it did. -/
def heapOrderSpec : ChangeSpec := { name := "heapOrder", fn := fun _ => fun
  | [d1, d2] => { results := [.lit (.bool true)], args := [d1, d2] }
  | _ => none }
def heapOrderRow : OpenClaim := { program := "ythmkmjoeceghiaa", sum := "870559a46c52ffac9e331d4d689ce22edab6a5b8c7665382d43f915528d326bf", func := "wainscot/wainscotlaw27.HeapOrder", spec := "heapOrder", unfollowed := true, recurses := true, plainKeys := false, apart := false }
def HeapOrderSaid : Prop := heapOrderRow.holds Try.pinned (OpenSpec.ofChange heapOrderSpec)

/-- ITS FALSE NEIGHBOUR: 'it returns false'. Refute it at one input. -/
def heapOrderWrong : ChangeSpec := { name := "heapOrder", fn := fun _ => fun
  | [d1, d2] => { results := [.lit (.bool false)], args := [d1, d2] }
  | _ => none }
def HeapOrderWrongFalsely : Prop := heapOrderRow.holds Try.pinned (OpenSpec.ofChange heapOrderWrong)

/-- 'wainscotlaw27.HeapKnown': WHATEVER THE INPUT: true; the input reads as it did. -/
def heapKnownSpec : ChangeSpec := { name := "heapKnown", fn := fun _ => fun
  | [] => { results := [.lit (.bool true)], args := [] }
  | _ => none }
def heapKnownRow : OpenClaim := { program := "ythmkmjoeceghiaa", sum := "870559a46c52ffac9e331d4d689ce22edab6a5b8c7665382d43f915528d326bf", func := "wainscot/wainscotlaw27.HeapKnown", spec := "heapKnown", unfollowed := true, recurses := true, plainKeys := false, apart := false }
def HeapKnownSaid : Prop := heapKnownRow.holds Try.pinned (OpenSpec.ofChange heapKnownSpec)

/-- ITS FALSE NEIGHBOUR: 'it returns false'. Refute it at one input. -/
def heapKnownWrong : ChangeSpec := { name := "heapKnown", fn := fun _ => fun
  | [] => { results := [.lit (.bool false)], args := [] }
  | _ => none }
def HeapKnownWrongFalsely : Prop := heapKnownRow.holds Try.pinned (OpenSpec.ofChange heapKnownWrong)

/-- 'wainscotlaw28.OrderLines': WHATEVER THE INPUT: true; the input reads as it did. -/
def orderLinesSpec : ChangeSpec := { name := "orderLines", fn := fun _ => fun
  | [d] => { results := [.lit (.bool true)], args := [d] }
  | _ => none }
def orderLinesRow : OpenClaim := { program := "ythmkmjoeceghiaa", sum := "870559a46c52ffac9e331d4d689ce22edab6a5b8c7665382d43f915528d326bf", func := "wainscot/wainscotlaw28.OrderLines", spec := "orderLines", unfollowed := true, recurses := true, plainKeys := false, apart := false }
def OrderLinesSaid : Prop := orderLinesRow.holds Try.pinned (OpenSpec.ofChange orderLinesSpec)

/-- ITS FALSE NEIGHBOUR: 'it returns false'. Refute it at one input. -/
def orderLinesWrong : ChangeSpec := { name := "orderLines", fn := fun _ => fun
  | [d] => { results := [.lit (.bool false)], args := [d] }
  | _ => none }
def OrderLinesWrongFalsely : Prop := orderLinesRow.holds Try.pinned (OpenSpec.ofChange orderLinesWrong)

/-- 'wainscotlaw28.OrderHolds': WHATEVER THE INPUT: true; the input reads as it did. -/
def orderHoldsSpec : ChangeSpec := { name := "orderHolds", fn := fun _ => fun
  | [d1, d2] => { results := [.lit (.bool true)], args := [d1, d2] }
  | _ => none }
def orderHoldsRow : OpenClaim := { program := "ythmkmjoeceghiaa", sum := "870559a46c52ffac9e331d4d689ce22edab6a5b8c7665382d43f915528d326bf", func := "wainscot/wainscotlaw28.OrderHolds", spec := "orderHolds", unfollowed := true, recurses := true, plainKeys := false, apart := false }
def OrderHoldsSaid : Prop := orderHoldsRow.holds Try.pinned (OpenSpec.ofChange orderHoldsSpec)

/-- ITS FALSE NEIGHBOUR: 'it returns false'. Refute it at one input. -/
def orderHoldsWrong : ChangeSpec := { name := "orderHolds", fn := fun _ => fun
  | [d1, d2] => { results := [.lit (.bool false)], args := [d1, d2] }
  | _ => none }
def OrderHoldsWrongFalsely : Prop := orderHoldsRow.holds Try.pinned (OpenSpec.ofChange orderHoldsWrong)

/-- 'wainscotlaw28.OrderShaken': WHATEVER THE INPUT: true; the input reads as it did. -/
def orderShakenSpec : ChangeSpec := { name := "orderShaken", fn := fun _ => fun
  | [d1, d2] => { results := [.lit (.bool true)], args := [d1, d2] }
  | _ => none }
def orderShakenRow : OpenClaim := { program := "ythmkmjoeceghiaa", sum := "870559a46c52ffac9e331d4d689ce22edab6a5b8c7665382d43f915528d326bf", func := "wainscot/wainscotlaw28.OrderShaken", spec := "orderShaken", unfollowed := true, recurses := true, plainKeys := false, apart := false }
def OrderShakenSaid : Prop := orderShakenRow.holds Try.pinned (OpenSpec.ofChange orderShakenSpec)

/-- ITS FALSE NEIGHBOUR: 'it returns false'. Refute it at one input. -/
def orderShakenWrong : ChangeSpec := { name := "orderShaken", fn := fun _ => fun
  | [d1, d2] => { results := [.lit (.bool false)], args := [d1, d2] }
  | _ => none }
def OrderShakenWrongFalsely : Prop := orderShakenRow.holds Try.pinned (OpenSpec.ofChange orderShakenWrong)

/-- 'wainscotlaw28.OrderExact': WHATEVER THE INPUT: true; the input reads as it did. -/
def orderExactSpec : ChangeSpec := { name := "orderExact", fn := fun _ => fun
  | [d] => { results := [.lit (.bool true)], args := [d] }
  | _ => none }
def orderExactRow : OpenClaim := { program := "ythmkmjoeceghiaa", sum := "870559a46c52ffac9e331d4d689ce22edab6a5b8c7665382d43f915528d326bf", func := "wainscot/wainscotlaw28.OrderExact", spec := "orderExact", unfollowed := true, recurses := true, plainKeys := false, apart := false }
def OrderExactSaid : Prop := orderExactRow.holds Try.pinned (OpenSpec.ofChange orderExactSpec)

/-- ITS FALSE NEIGHBOUR: 'it returns false'. Refute it at one input. -/
def orderExactWrong : ChangeSpec := { name := "orderExact", fn := fun _ => fun
  | [d] => { results := [.lit (.bool false)], args := [d] }
  | _ => none }
def OrderExactWrongFalsely : Prop := orderExactRow.holds Try.pinned (OpenSpec.ofChange orderExactWrong)

/-- 'wainscotlaw28.OrderPlays': WHATEVER THE INPUT: true; the input reads as it did. -/
def orderPlaysSpec : ChangeSpec := { name := "orderPlays", fn := fun _ => fun
  | [d] => { results := [.lit (.bool true)], args := [d] }
  | _ => none }
def orderPlaysRow : OpenClaim := { program := "ythmkmjoeceghiaa", sum := "870559a46c52ffac9e331d4d689ce22edab6a5b8c7665382d43f915528d326bf", func := "wainscot/wainscotlaw28.OrderPlays", spec := "orderPlays", unfollowed := true, recurses := true, plainKeys := false, apart := false }
def OrderPlaysSaid : Prop := orderPlaysRow.holds Try.pinned (OpenSpec.ofChange orderPlaysSpec)

/-- ITS FALSE NEIGHBOUR: 'it returns false'. Refute it at one input. -/
def orderPlaysWrong : ChangeSpec := { name := "orderPlays", fn := fun _ => fun
  | [d] => { results := [.lit (.bool false)], args := [d] }
  | _ => none }
def OrderPlaysWrongFalsely : Prop := orderPlaysRow.holds Try.pinned (OpenSpec.ofChange orderPlaysWrong)

/-- 'wainscotlaw28.OrderRow': WHATEVER THE INPUT: true; the input reads as it did. -/
def orderRowSpec : ChangeSpec := { name := "orderRow", fn := fun _ => fun
  | [d] => { results := [.lit (.bool true)], args := [d] }
  | _ => none }
def orderRowRow : OpenClaim := { program := "ythmkmjoeceghiaa", sum := "870559a46c52ffac9e331d4d689ce22edab6a5b8c7665382d43f915528d326bf", func := "wainscot/wainscotlaw28.OrderRow", spec := "orderRow", unfollowed := true, recurses := true, plainKeys := false, apart := false }
def OrderRowSaid : Prop := orderRowRow.holds Try.pinned (OpenSpec.ofChange orderRowSpec)

/-- ITS FALSE NEIGHBOUR: 'it returns false'. Refute it at one input. -/
def orderRowWrong : ChangeSpec := { name := "orderRow", fn := fun _ => fun
  | [d] => { results := [.lit (.bool false)], args := [d] }
  | _ => none }
def OrderRowWrongFalsely : Prop := orderRowRow.holds Try.pinned (OpenSpec.ofChange orderRowWrong)

/-- 'wainscotlaw28.OrderKnown': WHATEVER THE INPUT: true; the input reads as it did. -/
def orderKnownSpec : ChangeSpec := { name := "orderKnown", fn := fun _ => fun
  | [] => { results := [.lit (.bool true)], args := [] }
  | _ => none }
def orderKnownRow : OpenClaim := { program := "ythmkmjoeceghiaa", sum := "870559a46c52ffac9e331d4d689ce22edab6a5b8c7665382d43f915528d326bf", func := "wainscot/wainscotlaw28.OrderKnown", spec := "orderKnown", unfollowed := true, recurses := true, plainKeys := false, apart := false }
def OrderKnownSaid : Prop := orderKnownRow.holds Try.pinned (OpenSpec.ofChange orderKnownSpec)

/-- ITS FALSE NEIGHBOUR: 'it returns false'. Refute it at one input. -/
def orderKnownWrong : ChangeSpec := { name := "orderKnown", fn := fun _ => fun
  | [] => { results := [.lit (.bool false)], args := [] }
  | _ => none }
def OrderKnownWrongFalsely : Prop := orderKnownRow.holds Try.pinned (OpenSpec.ofChange orderKnownWrong)

/-- 'wainscotlaw27.HeapTurns': WHATEVER THE INPUT: true; the input reads as it did. -/
def heapTurnsSpec : ChangeSpec := { name := "heapTurns", fn := fun _ => fun
  | [d] => { results := [.lit (.bool true)], args := [d] }
  | _ => none }
def heapTurnsRow : OpenClaim := { program := "ythmkmjoeceghiaa", sum := "870559a46c52ffac9e331d4d689ce22edab6a5b8c7665382d43f915528d326bf", func := "wainscot/wainscotlaw27.HeapTurns", spec := "heapTurns", unfollowed := true, recurses := true, plainKeys := false, apart := false }
def HeapTurnsSaid : Prop := heapTurnsRow.holds Try.pinned (OpenSpec.ofChange heapTurnsSpec)

/-- ITS FALSE NEIGHBOUR: 'it returns false'. Refute it at one input. -/
def heapTurnsWrong : ChangeSpec := { name := "heapTurns", fn := fun _ => fun
  | [d] => { results := [.lit (.bool false)], args := [d] }
  | _ => none }
def HeapTurnsWrongFalsely : Prop := heapTurnsRow.holds Try.pinned (OpenSpec.ofChange heapTurnsWrong)

/-- 'wainscotlaw27.HeapPlays': WHATEVER THE INPUT: true; the input reads as it did. -/
def heapPlaysSpec : ChangeSpec := { name := "heapPlays", fn := fun _ => fun
  | [d] => { results := [.lit (.bool true)], args := [d] }
  | _ => none }
def heapPlaysRow : OpenClaim := { program := "ythmkmjoeceghiaa", sum := "870559a46c52ffac9e331d4d689ce22edab6a5b8c7665382d43f915528d326bf", func := "wainscot/wainscotlaw27.HeapPlays", spec := "heapPlays", unfollowed := true, recurses := true, plainKeys := false, apart := false }
def HeapPlaysSaid : Prop := heapPlaysRow.holds Try.pinned (OpenSpec.ofChange heapPlaysSpec)

/-- ITS FALSE NEIGHBOUR: 'it returns false'. Refute it at one input. -/
def heapPlaysWrong : ChangeSpec := { name := "heapPlays", fn := fun _ => fun
  | [d] => { results := [.lit (.bool false)], args := [d] }
  | _ => none }
def HeapPlaysWrongFalsely : Prop := heapPlaysRow.holds Try.pinned (OpenSpec.ofChange heapPlaysWrong)

/- THE SECOND FORM. 'bulk': how many values and letters a reading holds, each counted each time it is reached (what is shared counts as often as it is met; a slice's spare places count too). A statement '..UptoSaid' is the law's where the arguments, and the package variables that the reading takes, are together of bulk at most 1048576: NARROWER than '..Said'. Prove '..Said' where nothing that the law and all that it calls make is longer than what came in: it says more and counts as full. Else prove '..UptoSaid'. A law counts once. -/
mutual
def uptoBulk {H : Type} : DataW H → Nat
  | .lit (.string bytes) => bytes.length + 1
  | .lit _ => 1
  | .nil => 1
  | .ptr d => uptoBulk d + 1
  | .slice elems spare => uptoBulkAll elems + uptoBulkAll spare + 1
  | .agg parts => uptoBulkAll parts + 1
  | .iface _ d => uptoBulk d + 1
  | .map entries => uptoBulkEntries entries + 1
  | .held _ => 1
def uptoBulkAll {H : Type} : List (DataW H) → Nat
  | [] => 0
  | d :: r => uptoBulk d + uptoBulkAll r
def uptoBulkEntries {H : Type} : List (Lit × DataW H) → Nat
  | [] => 0
  | x :: r => uptoBulkEntry x + uptoBulkEntries r
def uptoBulkEntry {H : Type} : Lit × DataW H → Nat
  | (.string bytes, d) => bytes.length + uptoBulk d + 1
  | (_, d) => uptoBulk d + 1
 end
def uptoSmall : (H : Type) → List (DataW H) → Bool := fun _ ds => decide (uptoBulkAll ds ≤ 1048576)
def OpenSpec.upto (s : _root_.Go.ChangeSpec) : _root_.Go.OpenSpec := { _root_.Go.OpenSpec.ofChange s with cond := some uptoSmall }

/-- 'wainscotlaw27.HeapLists', WHERE WHAT IT READS IS OF BULK AT MOST 1048576: true; the input reads as it did. -/
def heapListsUptoRow : OpenClaim := { program := "ythmkmjoeceghiaa", sum := "870559a46c52ffac9e331d4d689ce22edab6a5b8c7665382d43f915528d326bf", func := "wainscot/wainscotlaw27.HeapLists", spec := "heapLists", unfollowed := true, recurses := true, plainKeys := false, apart := false, narrowed := true }
def HeapListsUptoSaid : Prop := heapListsUptoRow.holds Try.pinned (OpenSpec.upto heapListsSpec)

/-- 'wainscotlaw27.HeapAlone', WHERE WHAT IT READS IS OF BULK AT MOST 1048576: true; the input reads as it did. -/
def heapAloneUptoRow : OpenClaim := { program := "ythmkmjoeceghiaa", sum := "870559a46c52ffac9e331d4d689ce22edab6a5b8c7665382d43f915528d326bf", func := "wainscot/wainscotlaw27.HeapAlone", spec := "heapAlone", unfollowed := true, recurses := true, plainKeys := false, apart := false, narrowed := true }
def HeapAloneUptoSaid : Prop := heapAloneUptoRow.holds Try.pinned (OpenSpec.upto heapAloneSpec)

/-- 'wainscotlaw27.HeapOrder', WHERE WHAT IT READS IS OF BULK AT MOST 1048576: true; the input reads as it did. -/
def heapOrderUptoRow : OpenClaim := { program := "ythmkmjoeceghiaa", sum := "870559a46c52ffac9e331d4d689ce22edab6a5b8c7665382d43f915528d326bf", func := "wainscot/wainscotlaw27.HeapOrder", spec := "heapOrder", unfollowed := true, recurses := true, plainKeys := false, apart := false, narrowed := true }
def HeapOrderUptoSaid : Prop := heapOrderUptoRow.holds Try.pinned (OpenSpec.upto heapOrderSpec)

/-- 'wainscotlaw27.HeapKnown', WHERE WHAT IT READS IS OF BULK AT MOST 1048576: true; the input reads as it did. -/
def heapKnownUptoRow : OpenClaim := { program := "ythmkmjoeceghiaa", sum := "870559a46c52ffac9e331d4d689ce22edab6a5b8c7665382d43f915528d326bf", func := "wainscot/wainscotlaw27.HeapKnown", spec := "heapKnown", unfollowed := true, recurses := true, plainKeys := false, apart := false, narrowed := true }
def HeapKnownUptoSaid : Prop := heapKnownUptoRow.holds Try.pinned (OpenSpec.upto heapKnownSpec)

/-- 'wainscotlaw28.OrderLines', WHERE WHAT IT READS IS OF BULK AT MOST 1048576: true; the input reads as it did. -/
def orderLinesUptoRow : OpenClaim := { program := "ythmkmjoeceghiaa", sum := "870559a46c52ffac9e331d4d689ce22edab6a5b8c7665382d43f915528d326bf", func := "wainscot/wainscotlaw28.OrderLines", spec := "orderLines", unfollowed := true, recurses := true, plainKeys := false, apart := false, narrowed := true }
def OrderLinesUptoSaid : Prop := orderLinesUptoRow.holds Try.pinned (OpenSpec.upto orderLinesSpec)

/-- 'wainscotlaw28.OrderHolds', WHERE WHAT IT READS IS OF BULK AT MOST 1048576: true; the input reads as it did. -/
def orderHoldsUptoRow : OpenClaim := { program := "ythmkmjoeceghiaa", sum := "870559a46c52ffac9e331d4d689ce22edab6a5b8c7665382d43f915528d326bf", func := "wainscot/wainscotlaw28.OrderHolds", spec := "orderHolds", unfollowed := true, recurses := true, plainKeys := false, apart := false, narrowed := true }
def OrderHoldsUptoSaid : Prop := orderHoldsUptoRow.holds Try.pinned (OpenSpec.upto orderHoldsSpec)

/-- 'wainscotlaw28.OrderShaken', WHERE WHAT IT READS IS OF BULK AT MOST 1048576: true; the input reads as it did. -/
def orderShakenUptoRow : OpenClaim := { program := "ythmkmjoeceghiaa", sum := "870559a46c52ffac9e331d4d689ce22edab6a5b8c7665382d43f915528d326bf", func := "wainscot/wainscotlaw28.OrderShaken", spec := "orderShaken", unfollowed := true, recurses := true, plainKeys := false, apart := false, narrowed := true }
def OrderShakenUptoSaid : Prop := orderShakenUptoRow.holds Try.pinned (OpenSpec.upto orderShakenSpec)

/-- 'wainscotlaw28.OrderExact', WHERE WHAT IT READS IS OF BULK AT MOST 1048576: true; the input reads as it did. -/
def orderExactUptoRow : OpenClaim := { program := "ythmkmjoeceghiaa", sum := "870559a46c52ffac9e331d4d689ce22edab6a5b8c7665382d43f915528d326bf", func := "wainscot/wainscotlaw28.OrderExact", spec := "orderExact", unfollowed := true, recurses := true, plainKeys := false, apart := false, narrowed := true }
def OrderExactUptoSaid : Prop := orderExactUptoRow.holds Try.pinned (OpenSpec.upto orderExactSpec)

/-- 'wainscotlaw28.OrderPlays', WHERE WHAT IT READS IS OF BULK AT MOST 1048576: true; the input reads as it did. -/
def orderPlaysUptoRow : OpenClaim := { program := "ythmkmjoeceghiaa", sum := "870559a46c52ffac9e331d4d689ce22edab6a5b8c7665382d43f915528d326bf", func := "wainscot/wainscotlaw28.OrderPlays", spec := "orderPlays", unfollowed := true, recurses := true, plainKeys := false, apart := false, narrowed := true }
def OrderPlaysUptoSaid : Prop := orderPlaysUptoRow.holds Try.pinned (OpenSpec.upto orderPlaysSpec)

/-- 'wainscotlaw28.OrderRow', WHERE WHAT IT READS IS OF BULK AT MOST 1048576: true; the input reads as it did. -/
def orderRowUptoRow : OpenClaim := { program := "ythmkmjoeceghiaa", sum := "870559a46c52ffac9e331d4d689ce22edab6a5b8c7665382d43f915528d326bf", func := "wainscot/wainscotlaw28.OrderRow", spec := "orderRow", unfollowed := true, recurses := true, plainKeys := false, apart := false, narrowed := true }
def OrderRowUptoSaid : Prop := orderRowUptoRow.holds Try.pinned (OpenSpec.upto orderRowSpec)

/-- 'wainscotlaw28.OrderKnown', WHERE WHAT IT READS IS OF BULK AT MOST 1048576: true; the input reads as it did. -/
def orderKnownUptoRow : OpenClaim := { program := "ythmkmjoeceghiaa", sum := "870559a46c52ffac9e331d4d689ce22edab6a5b8c7665382d43f915528d326bf", func := "wainscot/wainscotlaw28.OrderKnown", spec := "orderKnown", unfollowed := true, recurses := true, plainKeys := false, apart := false, narrowed := true }
def OrderKnownUptoSaid : Prop := orderKnownUptoRow.holds Try.pinned (OpenSpec.upto orderKnownSpec)

/-- 'wainscotlaw27.HeapTurns', WHERE WHAT IT READS IS OF BULK AT MOST 1048576: true; the input reads as it did. -/
def heapTurnsUptoRow : OpenClaim := { program := "ythmkmjoeceghiaa", sum := "870559a46c52ffac9e331d4d689ce22edab6a5b8c7665382d43f915528d326bf", func := "wainscot/wainscotlaw27.HeapTurns", spec := "heapTurns", unfollowed := true, recurses := true, plainKeys := false, apart := false, narrowed := true }
def HeapTurnsUptoSaid : Prop := heapTurnsUptoRow.holds Try.pinned (OpenSpec.upto heapTurnsSpec)

/-- 'wainscotlaw27.HeapPlays', WHERE WHAT IT READS IS OF BULK AT MOST 1048576: true; the input reads as it did. -/
def heapPlaysUptoRow : OpenClaim := { program := "ythmkmjoeceghiaa", sum := "870559a46c52ffac9e331d4d689ce22edab6a5b8c7665382d43f915528d326bf", func := "wainscot/wainscotlaw27.HeapPlays", spec := "heapPlays", unfollowed := true, recurses := true, plainKeys := false, apart := false, narrowed := true }
def HeapPlaysUptoSaid : Prop := heapPlaysUptoRow.holds Try.pinned (OpenSpec.upto heapPlaysSpec)

end Rows
end Go.Proofs.Ythmkmjoeceghiaa
