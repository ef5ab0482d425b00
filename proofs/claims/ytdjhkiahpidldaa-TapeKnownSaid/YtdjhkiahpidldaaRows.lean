/-
  No cell of these rows narrows 'for every input' (looked for: loops, veiled, ifaces, maps, wideKeys, modest, calm, conditions, laid).
  DERIVED. THE GIVEN ROWS OF THIS SEAT. 6 by the template 'for every input the law returns true; each argument reads behind the call as it read before'; 0 by the template 'total and deterministic' (their statements: YtdjhkiahpidldaaTotals.lean).
  GIVEN WITH THE SEED: the statements are not yours to turn. If you find one false, say at which input.
  Laid BY PROGRAM, IN A SANDBOX (cutbox-rows.mjs): the forced cells as the released guide's own fill.sh prints them over the translation dd32498b2c123848… (all of the seat's roots in one cut). By AI agents, Wed Nov 11 2026. No macro, syntax, notation, axiom, sorry.
-/
import Derived.Test.YtdjhkiahpidldaaChecked
import GoSem.Claim
import GoSem.ClaimJoined
import GoSem.ClaimMapViews
import Derived.JoinedTies
import Derived.KernelRfl
namespace Go.Proofs.Ytdjhkiahpidldaa
/- THE CELL 'sum', in the pinned program and in every row, IS THE sha256 OF THE DUMP (.gsa) THAT YtdjhkiahpidldaaProg.lean LOADS. Nothing in Lean hashes anything: it is a label: what it is worth is what the hold of that sum in a sandbox is worth. -/
noncomputable def Try.pinned : Pinned := { name := "ytdjhkiahpidldaa", sum := "dd32498b2c123848687bebcec7c2f4a3fd893f4834e0dde76ebe858f07f6de7c", checked := Try.checked }
namespace Rows
def none {H : Type} : Left H := { results := [], args := [] }

/-- 'wainscotlaw02.TapeScripts': WHATEVER THE INPUT: true; the input reads as it did. -/
def tapeScriptsSpec : ChangeSpec := { name := "tapeScripts", fn := fun _ => fun
  | [d] => { results := [.lit (.bool true)], args := [d] }
  | _ => none }
def tapeScriptsRow : OpenClaim := { program := "ytdjhkiahpidldaa", sum := "dd32498b2c123848687bebcec7c2f4a3fd893f4834e0dde76ebe858f07f6de7c", func := "wainscot/wainscotlaw02.TapeScripts", spec := "tapeScripts", unfollowed := true, recurses := true, apart := false }
def TapeScriptsSaid : Prop := tapeScriptsRow.holds Try.pinned (OpenSpec.ofChange tapeScriptsSpec)

/-- ITS FALSE NEIGHBOUR: 'it returns false'. Refute it at one input. -/
def tapeScriptsWrong : ChangeSpec := { name := "tapeScripts", fn := fun _ => fun
  | [d] => { results := [.lit (.bool false)], args := [d] }
  | _ => none }
def TapeScriptsWrongFalsely : Prop := tapeScriptsRow.holds Try.pinned (OpenSpec.ofChange tapeScriptsWrong)

/-- 'wainscotlaw02.TapeBytes': WHATEVER THE INPUT: true; the input reads as it did. -/
def tapeBytesSpec : ChangeSpec := { name := "tapeBytes", fn := fun _ => fun
  | [d] => { results := [.lit (.bool true)], args := [d] }
  | _ => none }
def tapeBytesRow : OpenClaim := { program := "ytdjhkiahpidldaa", sum := "dd32498b2c123848687bebcec7c2f4a3fd893f4834e0dde76ebe858f07f6de7c", func := "wainscot/wainscotlaw02.TapeBytes", spec := "tapeBytes", unfollowed := true, recurses := true, apart := false }
def TapeBytesSaid : Prop := tapeBytesRow.holds Try.pinned (OpenSpec.ofChange tapeBytesSpec)

/-- ITS FALSE NEIGHBOUR: 'it returns false'. Refute it at one input. -/
def tapeBytesWrong : ChangeSpec := { name := "tapeBytes", fn := fun _ => fun
  | [d] => { results := [.lit (.bool false)], args := [d] }
  | _ => none }
def TapeBytesWrongFalsely : Prop := tapeBytesRow.holds Try.pinned (OpenSpec.ofChange tapeBytesWrong)

/-- 'wainscotlaw02.TapeBack': WHATEVER THE INPUT: true; the input reads as it did. -/
def tapeBackSpec : ChangeSpec := { name := "tapeBack", fn := fun _ => fun
  | [d] => { results := [.lit (.bool true)], args := [d] }
  | _ => none }
def tapeBackRow : OpenClaim := { program := "ytdjhkiahpidldaa", sum := "dd32498b2c123848687bebcec7c2f4a3fd893f4834e0dde76ebe858f07f6de7c", func := "wainscot/wainscotlaw02.TapeBack", spec := "tapeBack", unfollowed := true, recurses := true, apart := false }
def TapeBackSaid : Prop := tapeBackRow.holds Try.pinned (OpenSpec.ofChange tapeBackSpec)

/-- ITS FALSE NEIGHBOUR: 'it returns false'. Refute it at one input. -/
def tapeBackWrong : ChangeSpec := { name := "tapeBack", fn := fun _ => fun
  | [d] => { results := [.lit (.bool false)], args := [d] }
  | _ => none }
def TapeBackWrongFalsely : Prop := tapeBackRow.holds Try.pinned (OpenSpec.ofChange tapeBackWrong)

/-- 'wainscotlaw02.TapeWhole': WHATEVER THE INPUT: true; the input reads as it did. -/
def tapeWholeSpec : ChangeSpec := { name := "tapeWhole", fn := fun _ => fun
  | [d] => { results := [.lit (.bool true)], args := [d] }
  | _ => none }
def tapeWholeRow : OpenClaim := { program := "ytdjhkiahpidldaa", sum := "dd32498b2c123848687bebcec7c2f4a3fd893f4834e0dde76ebe858f07f6de7c", func := "wainscot/wainscotlaw02.TapeWhole", spec := "tapeWhole", unfollowed := true, recurses := true, apart := false }
def TapeWholeSaid : Prop := tapeWholeRow.holds Try.pinned (OpenSpec.ofChange tapeWholeSpec)

/-- ITS FALSE NEIGHBOUR: 'it returns false'. Refute it at one input. -/
def tapeWholeWrong : ChangeSpec := { name := "tapeWhole", fn := fun _ => fun
  | [d] => { results := [.lit (.bool false)], args := [d] }
  | _ => none }
def TapeWholeWrongFalsely : Prop := tapeWholeRow.holds Try.pinned (OpenSpec.ofChange tapeWholeWrong)

/-- 'wainscotlaw02.TapeApart': WHATEVER THE INPUT: true; the input reads as it did. -/
def tapeApartSpec : ChangeSpec := { name := "tapeApart", fn := fun _ => fun
  | [d1, d2, d3] => { results := [.lit (.bool true)], args := [d1, d2, d3] }
  | _ => none }
def tapeApartRow : OpenClaim := { program := "ytdjhkiahpidldaa", sum := "dd32498b2c123848687bebcec7c2f4a3fd893f4834e0dde76ebe858f07f6de7c", func := "wainscot/wainscotlaw02.TapeApart", spec := "tapeApart", unfollowed := true, recurses := true, apart := false }
def TapeApartSaid : Prop := tapeApartRow.holds Try.pinned (OpenSpec.ofChange tapeApartSpec)

/-- ITS FALSE NEIGHBOUR: 'it returns false'. Refute it at one input. -/
def tapeApartWrong : ChangeSpec := { name := "tapeApart", fn := fun _ => fun
  | [d1, d2, d3] => { results := [.lit (.bool false)], args := [d1, d2, d3] }
  | _ => none }
def TapeApartWrongFalsely : Prop := tapeApartRow.holds Try.pinned (OpenSpec.ofChange tapeApartWrong)

/-- 'wainscotlaw02.TapeKnown': WHATEVER THE INPUT: true; the input reads as it did. -/
def tapeKnownSpec : ChangeSpec := { name := "tapeKnown", fn := fun _ => fun
  | [] => { results := [.lit (.bool true)], args := [] }
  | _ => none }
def tapeKnownRow : OpenClaim := { program := "ytdjhkiahpidldaa", sum := "dd32498b2c123848687bebcec7c2f4a3fd893f4834e0dde76ebe858f07f6de7c", func := "wainscot/wainscotlaw02.TapeKnown", spec := "tapeKnown", unfollowed := true, recurses := true, apart := false }
def TapeKnownSaid : Prop := tapeKnownRow.holds Try.pinned (OpenSpec.ofChange tapeKnownSpec)

/-- ITS FALSE NEIGHBOUR: 'it returns false'. Refute it at one input. -/
def tapeKnownWrong : ChangeSpec := { name := "tapeKnown", fn := fun _ => fun
  | [] => { results := [.lit (.bool false)], args := [] }
  | _ => none }
def TapeKnownWrongFalsely : Prop := tapeKnownRow.holds Try.pinned (OpenSpec.ofChange tapeKnownWrong)

/- THE SECOND FORM. 'bulk': how many values and letters a reading holds, each counted each time it is reached (what is shared counts as often as it is met; a slice's spare places count too). A statement '..UptoSaid' is the law's where the arguments, and the package variables that the reading takes, are together of bulk at most 1048576: NARROWER than '..Said'. Prove '..Said' where nothing that the law and all that it calls make is longer than what came in: it says more and counts as full. Else prove '..UptoSaid'. A law counts once. -/
mutual
def uptoBulk {H : Type} : DataW H → Nat
  | .lit (.string bytes) => bytes.length + 1
  | .lit _ => 1
  | .nil => 1
  | .ptr d => uptoBulk d + 1
  | .slice elems spare => uptoBulkAll elems + uptoBulkAll spare + 1
  | .agg parts => uptoBulkAll parts + 1
  | .iface _ d => uptoBulk d + 1
  | .map entries => uptoBulkEntries entries + 1
  | .held _ => 1
def uptoBulkAll {H : Type} : List (DataW H) → Nat
  | [] => 0
  | d :: r => uptoBulk d + uptoBulkAll r
def uptoBulkEntries {H : Type} : List (Lit × DataW H) → Nat
  | [] => 0
  | x :: r => uptoBulkEntry x + uptoBulkEntries r
def uptoBulkEntry {H : Type} : Lit × DataW H → Nat
  | (.string bytes, d) => bytes.length + uptoBulk d + 1
  | (_, d) => uptoBulk d + 1
 end
def uptoSmall : (H : Type) → List (DataW H) → Bool := fun _ ds => decide (uptoBulkAll ds ≤ 1048576)
def OpenSpec.upto (s : _root_.Go.ChangeSpec) : _root_.Go.OpenSpec := { _root_.Go.OpenSpec.ofChange s with cond := some uptoSmall }

/-- 'wainscotlaw02.TapeScripts', WHERE WHAT IT READS IS OF BULK AT MOST 1048576: true; the input reads as it did. -/
def tapeScriptsUptoRow : OpenClaim := { program := "ytdjhkiahpidldaa", sum := "dd32498b2c123848687bebcec7c2f4a3fd893f4834e0dde76ebe858f07f6de7c", func := "wainscot/wainscotlaw02.TapeScripts", spec := "tapeScripts", unfollowed := true, recurses := true, apart := false, narrowed := true }
def TapeScriptsUptoSaid : Prop := tapeScriptsUptoRow.holds Try.pinned (OpenSpec.upto tapeScriptsSpec)

/-- 'wainscotlaw02.TapeBytes', WHERE WHAT IT READS IS OF BULK AT MOST 1048576: true; the input reads as it did. -/
def tapeBytesUptoRow : OpenClaim := { program := "ytdjhkiahpidldaa", sum := "dd32498b2c123848687bebcec7c2f4a3fd893f4834e0dde76ebe858f07f6de7c", func := "wainscot/wainscotlaw02.TapeBytes", spec := "tapeBytes", unfollowed := true, recurses := true, apart := false, narrowed := true }
def TapeBytesUptoSaid : Prop := tapeBytesUptoRow.holds Try.pinned (OpenSpec.upto tapeBytesSpec)

/-- 'wainscotlaw02.TapeBack', WHERE WHAT IT READS IS OF BULK AT MOST 1048576: true; the input reads as it did. -/
def tapeBackUptoRow : OpenClaim := { program := "ytdjhkiahpidldaa", sum := "dd32498b2c123848687bebcec7c2f4a3fd893f4834e0dde76ebe858f07f6de7c", func := "wainscot/wainscotlaw02.TapeBack", spec := "tapeBack", unfollowed := true, recurses := true, apart := false, narrowed := true }
def TapeBackUptoSaid : Prop := tapeBackUptoRow.holds Try.pinned (OpenSpec.upto tapeBackSpec)

/-- 'wainscotlaw02.TapeWhole', WHERE WHAT IT READS IS OF BULK AT MOST 1048576: true; the input reads as it did. -/
def tapeWholeUptoRow : OpenClaim := { program := "ytdjhkiahpidldaa", sum := "dd32498b2c123848687bebcec7c2f4a3fd893f4834e0dde76ebe858f07f6de7c", func := "wainscot/wainscotlaw02.TapeWhole", spec := "tapeWhole", unfollowed := true, recurses := true, apart := false, narrowed := true }
def TapeWholeUptoSaid : Prop := tapeWholeUptoRow.holds Try.pinned (OpenSpec.upto tapeWholeSpec)

/-- 'wainscotlaw02.TapeApart', WHERE WHAT IT READS IS OF BULK AT MOST 1048576: true; the input reads as it did. -/
def tapeApartUptoRow : OpenClaim := { program := "ytdjhkiahpidldaa", sum := "dd32498b2c123848687bebcec7c2f4a3fd893f4834e0dde76ebe858f07f6de7c", func := "wainscot/wainscotlaw02.TapeApart", spec := "tapeApart", unfollowed := true, recurses := true, apart := false, narrowed := true }
def TapeApartUptoSaid : Prop := tapeApartUptoRow.holds Try.pinned (OpenSpec.upto tapeApartSpec)

/-- 'wainscotlaw02.TapeKnown', WHERE WHAT IT READS IS OF BULK AT MOST 1048576: true; the input reads as it did. -/
def tapeKnownUptoRow : OpenClaim := { program := "ytdjhkiahpidldaa", sum := "dd32498b2c123848687bebcec7c2f4a3fd893f4834e0dde76ebe858f07f6de7c", func := "wainscot/wainscotlaw02.TapeKnown", spec := "tapeKnown", unfollowed := true, recurses := true, apart := false, narrowed := true }
def TapeKnownUptoSaid : Prop := tapeKnownUptoRow.holds Try.pinned (OpenSpec.upto tapeKnownSpec)

end Rows
end Go.Proofs.Ytdjhkiahpidldaa
