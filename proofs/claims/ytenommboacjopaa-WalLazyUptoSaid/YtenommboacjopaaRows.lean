/-
  No cell of these rows narrows 'for every input' (looked for: loops, veiled, ifaces, maps, wideKeys, modest, calm, conditions, laid).
  DERIVED. THE GIVEN ROWS OF THIS SEAT. 8 by the template 'for every input the law returns true; each argument reads behind the call as it read before'; 0 by the template 'total and deterministic' (their statements: YtenommboacjopaaTotals.lean).
  GIVEN WITH THE SEED: the statements are not yours to turn. If you find one false, say at which input.
  Laid BY PROGRAM, IN A SANDBOX (cutbox-rows.mjs): the forced cells as the released guide's own fill.sh prints them over the translation 0183df2a3560d2fa… (all of the seat's roots in one cut). By AI agents, Wed Nov 11 2026. No macro, syntax, notation, axiom, sorry.
-/
import Derived.Test.YtenommboacjopaaChecked
import GoSem.Claim
import GoSem.ClaimJoined
import GoSem.ClaimMapViews
import Derived.JoinedTies
import Derived.KernelRfl
namespace Go.Proofs.Ytenommboacjopaa
/- THE CELL 'sum', in the pinned program and in every row, IS THE sha256 OF THE DUMP (.gsa) THAT YtenommboacjopaaProg.lean LOADS. Nothing in Lean hashes anything: it is a label: what it is worth is what the hold of that sum in a sandbox is worth. -/
noncomputable def Try.pinned : Pinned := { name := "ytenommboacjopaa", sum := "0183df2a3560d2faff8da36a37a11bacc8e9514d708eba3d6f153d306f056b82", checked := Try.checked }
namespace Rows
def none {H : Type} : Left H := { results := [], args := [] }

/-- 'arborlaw5.WalRooms': WHATEVER THE INPUT: true; the input reads as it did. -/
def walRoomsSpec : ChangeSpec := { name := "walRooms", fn := fun _ => fun
  | [d1, d2, d3] => { results := [.lit (.bool true)], args := [d1, d2, d3] }
  | _ => none }
def walRoomsRow : OpenClaim := { program := "ytenommboacjopaa", sum := "0183df2a3560d2faff8da36a37a11bacc8e9514d708eba3d6f153d306f056b82", func := "arbor/arborlaw5.WalRooms", spec := "walRooms", apart := false }
def WalRoomsSaid : Prop := walRoomsRow.holds Try.pinned (OpenSpec.ofChange walRoomsSpec)

/-- ITS FALSE NEIGHBOUR: 'it returns false'. Refute it at one input. -/
def walRoomsWrong : ChangeSpec := { name := "walRooms", fn := fun _ => fun
  | [d1, d2, d3] => { results := [.lit (.bool false)], args := [d1, d2, d3] }
  | _ => none }
def WalRoomsWrongFalsely : Prop := walRoomsRow.holds Try.pinned (OpenSpec.ofChange walRoomsWrong)

/-- 'arborlaw5.WalReplays': WHATEVER THE INPUT: true; the input reads as it did. -/
def walReplaysSpec : ChangeSpec := { name := "walReplays", fn := fun _ => fun
  | [d1, d2, d3, d4, d5] => { results := [.lit (.bool true)], args := [d1, d2, d3, d4, d5] }
  | _ => none }
def walReplaysRow : OpenClaim := { program := "ytenommboacjopaa", sum := "0183df2a3560d2faff8da36a37a11bacc8e9514d708eba3d6f153d306f056b82", func := "arbor/arborlaw5.WalReplays", spec := "walReplays", unfollowed := true, recurses := true, apart := false }
def WalReplaysSaid : Prop := walReplaysRow.holds Try.pinned (OpenSpec.ofChange walReplaysSpec)

/-- ITS FALSE NEIGHBOUR: 'it returns false'. Refute it at one input. -/
def walReplaysWrong : ChangeSpec := { name := "walReplays", fn := fun _ => fun
  | [d1, d2, d3, d4, d5] => { results := [.lit (.bool false)], args := [d1, d2, d3, d4, d5] }
  | _ => none }
def WalReplaysWrongFalsely : Prop := walReplaysRow.holds Try.pinned (OpenSpec.ofChange walReplaysWrong)

/-- 'arborlaw5.WalBytes': WHATEVER THE INPUT: true; the input reads as it did. -/
def walBytesSpec : ChangeSpec := { name := "walBytes", fn := fun _ => fun
  | [d1, d2] => { results := [.lit (.bool true)], args := [d1, d2] }
  | _ => none }
def walBytesRow : OpenClaim := { program := "ytenommboacjopaa", sum := "0183df2a3560d2faff8da36a37a11bacc8e9514d708eba3d6f153d306f056b82", func := "arbor/arborlaw5.WalBytes", spec := "walBytes", apart := false }
def WalBytesSaid : Prop := walBytesRow.holds Try.pinned (OpenSpec.ofChange walBytesSpec)

/-- ITS FALSE NEIGHBOUR: 'it returns false'. Refute it at one input. -/
def walBytesWrong : ChangeSpec := { name := "walBytes", fn := fun _ => fun
  | [d1, d2] => { results := [.lit (.bool false)], args := [d1, d2] }
  | _ => none }
def WalBytesWrongFalsely : Prop := walBytesRow.holds Try.pinned (OpenSpec.ofChange walBytesWrong)

/-- 'arborlaw5.WalOwn': WHATEVER THE INPUT: true; the input reads as it did. -/
def walOwnSpec : ChangeSpec := { name := "walOwn", fn := fun _ => fun
  | [d1, d2, d3] => { results := [.lit (.bool true)], args := [d1, d2, d3] }
  | _ => none }
def walOwnRow : OpenClaim := { program := "ytenommboacjopaa", sum := "0183df2a3560d2faff8da36a37a11bacc8e9514d708eba3d6f153d306f056b82", func := "arbor/arborlaw5.WalOwn", spec := "walOwn", unfollowed := true, recurses := true, apart := false }
def WalOwnSaid : Prop := walOwnRow.holds Try.pinned (OpenSpec.ofChange walOwnSpec)

/-- ITS FALSE NEIGHBOUR: 'it returns false'. Refute it at one input. -/
def walOwnWrong : ChangeSpec := { name := "walOwn", fn := fun _ => fun
  | [d1, d2, d3] => { results := [.lit (.bool false)], args := [d1, d2, d3] }
  | _ => none }
def WalOwnWrongFalsely : Prop := walOwnRow.holds Try.pinned (OpenSpec.ofChange walOwnWrong)

/-- 'arborlaw5.WalLazy': WHATEVER THE INPUT: true; the input reads as it did. -/
def walLazySpec : ChangeSpec := { name := "walLazy", fn := fun _ => fun
  | [d1, d2, d3] => { results := [.lit (.bool true)], args := [d1, d2, d3] }
  | _ => none }
def walLazyRow : OpenClaim := { program := "ytenommboacjopaa", sum := "0183df2a3560d2faff8da36a37a11bacc8e9514d708eba3d6f153d306f056b82", func := "arbor/arborlaw5.WalLazy", spec := "walLazy", unfollowed := true, recurses := true, apart := false }
def WalLazySaid : Prop := walLazyRow.holds Try.pinned (OpenSpec.ofChange walLazySpec)

/-- ITS FALSE NEIGHBOUR: 'it returns false'. Refute it at one input. -/
def walLazyWrong : ChangeSpec := { name := "walLazy", fn := fun _ => fun
  | [d1, d2, d3] => { results := [.lit (.bool false)], args := [d1, d2, d3] }
  | _ => none }
def WalLazyWrongFalsely : Prop := walLazyRow.holds Try.pinned (OpenSpec.ofChange walLazyWrong)

/-- 'arborlaw5.WalPrefix': WHATEVER THE INPUT: true; the input reads as it did. -/
def walPrefixSpec : ChangeSpec := { name := "walPrefix", fn := fun _ => fun
  | [d1, d2] => { results := [.lit (.bool true)], args := [d1, d2] }
  | _ => none }
def walPrefixRow : OpenClaim := { program := "ytenommboacjopaa", sum := "0183df2a3560d2faff8da36a37a11bacc8e9514d708eba3d6f153d306f056b82", func := "arbor/arborlaw5.WalPrefix", spec := "walPrefix", unfollowed := true, recurses := true, apart := false }
def WalPrefixSaid : Prop := walPrefixRow.holds Try.pinned (OpenSpec.ofChange walPrefixSpec)

/-- ITS FALSE NEIGHBOUR: 'it returns false'. Refute it at one input. -/
def walPrefixWrong : ChangeSpec := { name := "walPrefix", fn := fun _ => fun
  | [d1, d2] => { results := [.lit (.bool false)], args := [d1, d2] }
  | _ => none }
def WalPrefixWrongFalsely : Prop := walPrefixRow.holds Try.pinned (OpenSpec.ofChange walPrefixWrong)

/-- 'arborlaw5.WalDamage': WHATEVER THE INPUT: true; the input reads as it did. -/
def walDamageSpec : ChangeSpec := { name := "walDamage", fn := fun _ => fun
  | [d1, d2, d3, d4] => { results := [.lit (.bool true)], args := [d1, d2, d3, d4] }
  | _ => none }
def walDamageRow : OpenClaim := { program := "ytenommboacjopaa", sum := "0183df2a3560d2faff8da36a37a11bacc8e9514d708eba3d6f153d306f056b82", func := "arbor/arborlaw5.WalDamage", spec := "walDamage", unfollowed := true, recurses := true, apart := false }
def WalDamageSaid : Prop := walDamageRow.holds Try.pinned (OpenSpec.ofChange walDamageSpec)

/-- ITS FALSE NEIGHBOUR: 'it returns false'. Refute it at one input. -/
def walDamageWrong : ChangeSpec := { name := "walDamage", fn := fun _ => fun
  | [d1, d2, d3, d4] => { results := [.lit (.bool false)], args := [d1, d2, d3, d4] }
  | _ => none }
def WalDamageWrongFalsely : Prop := walDamageRow.holds Try.pinned (OpenSpec.ofChange walDamageWrong)

/-- 'arborlaw5.WalScripts': WHATEVER THE INPUT: true; the input reads as it did. -/
def walScriptsSpec : ChangeSpec := { name := "walScripts", fn := fun _ => fun
  | [d1, d2, d3] => { results := [.lit (.bool true)], args := [d1, d2, d3] }
  | _ => none }
def walScriptsRow : OpenClaim := { program := "ytenommboacjopaa", sum := "0183df2a3560d2faff8da36a37a11bacc8e9514d708eba3d6f153d306f056b82", func := "arbor/arborlaw5.WalScripts", spec := "walScripts", unfollowed := true, recurses := true, apart := false }
def WalScriptsSaid : Prop := walScriptsRow.holds Try.pinned (OpenSpec.ofChange walScriptsSpec)

/-- ITS FALSE NEIGHBOUR: 'it returns false'. Refute it at one input. -/
def walScriptsWrong : ChangeSpec := { name := "walScripts", fn := fun _ => fun
  | [d1, d2, d3] => { results := [.lit (.bool false)], args := [d1, d2, d3] }
  | _ => none }
def WalScriptsWrongFalsely : Prop := walScriptsRow.holds Try.pinned (OpenSpec.ofChange walScriptsWrong)

/- THE SECOND FORM. 'bulk': how many values and letters a reading holds, each counted each time it is reached (what is shared counts as often as it is met; a slice's spare places count too). A statement '..UptoSaid' is the law's where the arguments, and the package variables that the reading takes, are together of bulk at most 1048576: NARROWER than '..Said'. Prove '..Said' where nothing that the law and all that it calls make is longer than what came in: it says more and counts as full. Else prove '..UptoSaid'. A law counts once. -/
mutual
def uptoBulk {H : Type} : DataW H → Nat
  | .lit (.string bytes) => bytes.length + 1
  | .lit _ => 1
  | .nil => 1
  | .ptr d => uptoBulk d + 1
  | .slice elems spare => uptoBulkAll elems + uptoBulkAll spare + 1
  | .agg parts => uptoBulkAll parts + 1
  | .iface _ d => uptoBulk d + 1
  | .map entries => uptoBulkEntries entries + 1
  | .held _ => 1
def uptoBulkAll {H : Type} : List (DataW H) → Nat
  | [] => 0
  | d :: r => uptoBulk d + uptoBulkAll r
def uptoBulkEntries {H : Type} : List (Lit × DataW H) → Nat
  | [] => 0
  | x :: r => uptoBulkEntry x + uptoBulkEntries r
def uptoBulkEntry {H : Type} : Lit × DataW H → Nat
  | (.string bytes, d) => bytes.length + uptoBulk d + 1
  | (_, d) => uptoBulk d + 1
 end
def uptoSmall : (H : Type) → List (DataW H) → Bool := fun _ ds => decide (uptoBulkAll ds ≤ 1048576)
def OpenSpec.upto (s : _root_.Go.ChangeSpec) : _root_.Go.OpenSpec := { _root_.Go.OpenSpec.ofChange s with cond := some uptoSmall }

/-- 'arborlaw5.WalRooms', WHERE WHAT IT READS IS OF BULK AT MOST 1048576: true; the input reads as it did. -/
def walRoomsUptoRow : OpenClaim := { program := "ytenommboacjopaa", sum := "0183df2a3560d2faff8da36a37a11bacc8e9514d708eba3d6f153d306f056b82", func := "arbor/arborlaw5.WalRooms", spec := "walRooms", apart := false, narrowed := true }
def WalRoomsUptoSaid : Prop := walRoomsUptoRow.holds Try.pinned (OpenSpec.upto walRoomsSpec)

/-- 'arborlaw5.WalReplays', WHERE WHAT IT READS IS OF BULK AT MOST 1048576: true; the input reads as it did. -/
def walReplaysUptoRow : OpenClaim := { program := "ytenommboacjopaa", sum := "0183df2a3560d2faff8da36a37a11bacc8e9514d708eba3d6f153d306f056b82", func := "arbor/arborlaw5.WalReplays", spec := "walReplays", unfollowed := true, recurses := true, apart := false, narrowed := true }
def WalReplaysUptoSaid : Prop := walReplaysUptoRow.holds Try.pinned (OpenSpec.upto walReplaysSpec)

/-- 'arborlaw5.WalBytes', WHERE WHAT IT READS IS OF BULK AT MOST 1048576: true; the input reads as it did. -/
def walBytesUptoRow : OpenClaim := { program := "ytenommboacjopaa", sum := "0183df2a3560d2faff8da36a37a11bacc8e9514d708eba3d6f153d306f056b82", func := "arbor/arborlaw5.WalBytes", spec := "walBytes", apart := false, narrowed := true }
def WalBytesUptoSaid : Prop := walBytesUptoRow.holds Try.pinned (OpenSpec.upto walBytesSpec)

/-- 'arborlaw5.WalOwn', WHERE WHAT IT READS IS OF BULK AT MOST 1048576: true; the input reads as it did. -/
def walOwnUptoRow : OpenClaim := { program := "ytenommboacjopaa", sum := "0183df2a3560d2faff8da36a37a11bacc8e9514d708eba3d6f153d306f056b82", func := "arbor/arborlaw5.WalOwn", spec := "walOwn", unfollowed := true, recurses := true, apart := false, narrowed := true }
def WalOwnUptoSaid : Prop := walOwnUptoRow.holds Try.pinned (OpenSpec.upto walOwnSpec)

/-- 'arborlaw5.WalLazy', WHERE WHAT IT READS IS OF BULK AT MOST 1048576: true; the input reads as it did. -/
def walLazyUptoRow : OpenClaim := { program := "ytenommboacjopaa", sum := "0183df2a3560d2faff8da36a37a11bacc8e9514d708eba3d6f153d306f056b82", func := "arbor/arborlaw5.WalLazy", spec := "walLazy", unfollowed := true, recurses := true, apart := false, narrowed := true }
def WalLazyUptoSaid : Prop := walLazyUptoRow.holds Try.pinned (OpenSpec.upto walLazySpec)

/-- 'arborlaw5.WalPrefix', WHERE WHAT IT READS IS OF BULK AT MOST 1048576: true; the input reads as it did. -/
def walPrefixUptoRow : OpenClaim := { program := "ytenommboacjopaa", sum := "0183df2a3560d2faff8da36a37a11bacc8e9514d708eba3d6f153d306f056b82", func := "arbor/arborlaw5.WalPrefix", spec := "walPrefix", unfollowed := true, recurses := true, apart := false, narrowed := true }
def WalPrefixUptoSaid : Prop := walPrefixUptoRow.holds Try.pinned (OpenSpec.upto walPrefixSpec)

/-- 'arborlaw5.WalDamage', WHERE WHAT IT READS IS OF BULK AT MOST 1048576: true; the input reads as it did. -/
def walDamageUptoRow : OpenClaim := { program := "ytenommboacjopaa", sum := "0183df2a3560d2faff8da36a37a11bacc8e9514d708eba3d6f153d306f056b82", func := "arbor/arborlaw5.WalDamage", spec := "walDamage", unfollowed := true, recurses := true, apart := false, narrowed := true }
def WalDamageUptoSaid : Prop := walDamageUptoRow.holds Try.pinned (OpenSpec.upto walDamageSpec)

/-- 'arborlaw5.WalScripts', WHERE WHAT IT READS IS OF BULK AT MOST 1048576: true; the input reads as it did. -/
def walScriptsUptoRow : OpenClaim := { program := "ytenommboacjopaa", sum := "0183df2a3560d2faff8da36a37a11bacc8e9514d708eba3d6f153d306f056b82", func := "arbor/arborlaw5.WalScripts", spec := "walScripts", unfollowed := true, recurses := true, apart := false, narrowed := true }
def WalScriptsUptoSaid : Prop := walScriptsUptoRow.holds Try.pinned (OpenSpec.upto walScriptsSpec)

end Rows
end Go.Proofs.Ytenommboacjopaa
