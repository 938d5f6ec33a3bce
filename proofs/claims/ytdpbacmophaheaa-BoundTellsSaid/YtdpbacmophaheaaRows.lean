/-
  No cell of these rows narrows 'for every input' (looked for: loops, veiled, ifaces, maps, wideKeys, modest, calm, conditions, laid).
  DERIVED. THE GIVEN ROWS OF THIS SEAT. 11 by the template 'for every input the law returns true; each argument reads behind the call as it read before'; 0 by the template 'total and deterministic' (their statements: YtdpbacmophaheaaTotals.lean).
  GIVEN WITH THE SEED: the statements are not yours to turn. If you find one false, say at which input.
  Laid BY PROGRAM, IN A SANDBOX (cutbox-rows.mjs): the forced cells as the released guide's own fill.sh prints them over the translation 71c7f6b74043e5ee… (all of the seat's roots in one cut). By AI agents, Wed Nov 11 2026. No macro, syntax, notation, axiom, sorry.
-/
import Derived.Test.YtdpbacmophaheaaChecked
import GoSem.Claim
import GoSem.ClaimJoined
import GoSem.ClaimMapViews
import Derived.JoinedTies
import Derived.KernelRfl
namespace Go.Proofs.Ytdpbacmophaheaa
/- THE CELL 'sum', in the pinned program and in every row, IS THE sha256 OF THE DUMP (.gsa) THAT YtdpbacmophaheaaProg.lean LOADS. Nothing in Lean hashes anything: it is a label: what it is worth is what the hold of that sum in a sandbox is worth. -/
noncomputable def Try.pinned : Pinned := { name := "ytdpbacmophaheaa", sum := "71c7f6b74043e5ee1f00787dbed24f909b2ce4fbc31d309af43b7c234398904e", checked := Try.checked }
namespace Rows
def none {H : Type} : Left H := { results := [], args := [] }

/-- 'chatelainelaw17.JournalPacks': WHATEVER THE INPUT: true; the input reads as it did. -/
def journalPacksSpec : ChangeSpec := { name := "journalPacks", fn := fun _ => fun
  | [d1, d2, d3] => { results := [.lit (.bool true)], args := [d1, d2, d3] }
  | _ => none }
def journalPacksRow : OpenClaim := { program := "ytdpbacmophaheaa", sum := "71c7f6b74043e5ee1f00787dbed24f909b2ce4fbc31d309af43b7c234398904e", func := "chatelaine/chatelainelaw17.JournalPacks", spec := "journalPacks", unfollowed := true, recurses := true, apart := false }
def JournalPacksSaid : Prop := journalPacksRow.holds Try.pinned (OpenSpec.ofChange journalPacksSpec)

/-- ITS FALSE NEIGHBOUR: 'it returns false'. Refute it at one input. -/
def journalPacksWrong : ChangeSpec := { name := "journalPacks", fn := fun _ => fun
  | [d1, d2, d3] => { results := [.lit (.bool false)], args := [d1, d2, d3] }
  | _ => none }
def JournalPacksWrongFalsely : Prop := journalPacksRow.holds Try.pinned (OpenSpec.ofChange journalPacksWrong)

/-- 'chatelainelaw17.JournalUnpacks': WHATEVER THE INPUT: true; the input reads as it did. -/
def journalUnpacksSpec : ChangeSpec := { name := "journalUnpacks", fn := fun _ => fun
  | [d1, d2] => { results := [.lit (.bool true)], args := [d1, d2] }
  | _ => none }
def journalUnpacksRow : OpenClaim := { program := "ytdpbacmophaheaa", sum := "71c7f6b74043e5ee1f00787dbed24f909b2ce4fbc31d309af43b7c234398904e", func := "chatelaine/chatelainelaw17.JournalUnpacks", spec := "journalUnpacks", unfollowed := true, recurses := true, apart := false }
def JournalUnpacksSaid : Prop := journalUnpacksRow.holds Try.pinned (OpenSpec.ofChange journalUnpacksSpec)

/-- ITS FALSE NEIGHBOUR: 'it returns false'. Refute it at one input. -/
def journalUnpacksWrong : ChangeSpec := { name := "journalUnpacks", fn := fun _ => fun
  | [d1, d2] => { results := [.lit (.bool false)], args := [d1, d2] }
  | _ => none }
def JournalUnpacksWrongFalsely : Prop := journalUnpacksRow.holds Try.pinned (OpenSpec.ofChange journalUnpacksWrong)

/-- 'chatelainelaw17.JournalBack': WHATEVER THE INPUT: true; the input reads as it did. -/
def journalBackSpec : ChangeSpec := { name := "journalBack", fn := fun _ => fun
  | [d1, d2, d3] => { results := [.lit (.bool true)], args := [d1, d2, d3] }
  | _ => none }
def journalBackRow : OpenClaim := { program := "ytdpbacmophaheaa", sum := "71c7f6b74043e5ee1f00787dbed24f909b2ce4fbc31d309af43b7c234398904e", func := "chatelaine/chatelainelaw17.JournalBack", spec := "journalBack", unfollowed := true, recurses := true, apart := false }
def JournalBackSaid : Prop := journalBackRow.holds Try.pinned (OpenSpec.ofChange journalBackSpec)

/-- ITS FALSE NEIGHBOUR: 'it returns false'. Refute it at one input. -/
def journalBackWrong : ChangeSpec := { name := "journalBack", fn := fun _ => fun
  | [d1, d2, d3] => { results := [.lit (.bool false)], args := [d1, d2, d3] }
  | _ => none }
def JournalBackWrongFalsely : Prop := journalBackRow.holds Try.pinned (OpenSpec.ofChange journalBackWrong)

/-- 'chatelainelaw18.SuperBack': WHATEVER THE INPUT: true; the input reads as it did. -/
def superBackSpec : ChangeSpec := { name := "superBack", fn := fun _ => fun
  | [d1, d2] => { results := [.lit (.bool true)], args := [d1, d2] }
  | _ => none }
def superBackRow : OpenClaim := { program := "ytdpbacmophaheaa", sum := "71c7f6b74043e5ee1f00787dbed24f909b2ce4fbc31d309af43b7c234398904e", func := "chatelaine/chatelainelaw18.SuperBack", spec := "superBack", unfollowed := true, recurses := true, apart := false }
def SuperBackSaid : Prop := superBackRow.holds Try.pinned (OpenSpec.ofChange superBackSpec)

/-- ITS FALSE NEIGHBOUR: 'it returns false'. Refute it at one input. -/
def superBackWrong : ChangeSpec := { name := "superBack", fn := fun _ => fun
  | [d1, d2] => { results := [.lit (.bool false)], args := [d1, d2] }
  | _ => none }
def SuperBackWrongFalsely : Prop := superBackRow.holds Try.pinned (OpenSpec.ofChange superBackWrong)

/-- 'chatelainelaw26.AdminlogBinds': WHATEVER THE INPUT: true; the input reads as it did. -/
def adminlogBindsSpec : ChangeSpec := { name := "adminlogBinds", fn := fun _ => fun
  | [d1, d2, d3] => { results := [.lit (.bool true)], args := [d1, d2, d3] }
  | _ => none }
def adminlogBindsRow : OpenClaim := { program := "ytdpbacmophaheaa", sum := "71c7f6b74043e5ee1f00787dbed24f909b2ce4fbc31d309af43b7c234398904e", func := "chatelaine/chatelainelaw26.AdminlogBinds", spec := "adminlogBinds", inPlace := ["internal/bytealg.IndexByteString"], unfollowed := true, recurses := true, apart := false }
def AdminlogBindsSaid : Prop := adminlogBindsRow.holds Try.pinned (OpenSpec.ofChange adminlogBindsSpec)

/-- ITS FALSE NEIGHBOUR: 'it returns false'. Refute it at one input. -/
def adminlogBindsWrong : ChangeSpec := { name := "adminlogBinds", fn := fun _ => fun
  | [d1, d2, d3] => { results := [.lit (.bool false)], args := [d1, d2, d3] }
  | _ => none }
def AdminlogBindsWrongFalsely : Prop := adminlogBindsRow.holds Try.pinned (OpenSpec.ofChange adminlogBindsWrong)

/-- 'chatelainelaw26.AdminlogHeads': WHATEVER THE INPUT: true; the input reads as it did. -/
def adminlogHeadsSpec : ChangeSpec := { name := "adminlogHeads", fn := fun _ => fun
  | [d1, d2, d3] => { results := [.lit (.bool true)], args := [d1, d2, d3] }
  | _ => none }
def adminlogHeadsRow : OpenClaim := { program := "ytdpbacmophaheaa", sum := "71c7f6b74043e5ee1f00787dbed24f909b2ce4fbc31d309af43b7c234398904e", func := "chatelaine/chatelainelaw26.AdminlogHeads", spec := "adminlogHeads", inPlace := ["internal/bytealg.IndexByteString"], unfollowed := true, recurses := true, apart := false }
def AdminlogHeadsSaid : Prop := adminlogHeadsRow.holds Try.pinned (OpenSpec.ofChange adminlogHeadsSpec)

/-- ITS FALSE NEIGHBOUR: 'it returns false'. Refute it at one input. -/
def adminlogHeadsWrong : ChangeSpec := { name := "adminlogHeads", fn := fun _ => fun
  | [d1, d2, d3] => { results := [.lit (.bool false)], args := [d1, d2, d3] }
  | _ => none }
def AdminlogHeadsWrongFalsely : Prop := adminlogHeadsRow.holds Try.pinned (OpenSpec.ofChange adminlogHeadsWrong)

/-- 'chatelainelaw26.AdminlogBytes': WHATEVER THE INPUT: true; the input reads as it did. -/
def adminlogBytesSpec : ChangeSpec := { name := "adminlogBytes", fn := fun _ => fun
  | [d1, d2] => { results := [.lit (.bool true)], args := [d1, d2] }
  | _ => none }
def adminlogBytesRow : OpenClaim := { program := "ytdpbacmophaheaa", sum := "71c7f6b74043e5ee1f00787dbed24f909b2ce4fbc31d309af43b7c234398904e", func := "chatelaine/chatelainelaw26.AdminlogBytes", spec := "adminlogBytes", inPlace := ["internal/bytealg.IndexByteString"], unfollowed := true, recurses := true, apart := false }
def AdminlogBytesSaid : Prop := adminlogBytesRow.holds Try.pinned (OpenSpec.ofChange adminlogBytesSpec)

/-- ITS FALSE NEIGHBOUR: 'it returns false'. Refute it at one input. -/
def adminlogBytesWrong : ChangeSpec := { name := "adminlogBytes", fn := fun _ => fun
  | [d1, d2] => { results := [.lit (.bool false)], args := [d1, d2] }
  | _ => none }
def AdminlogBytesWrongFalsely : Prop := adminlogBytesRow.holds Try.pinned (OpenSpec.ofChange adminlogBytesWrong)

/-- 'chatelainelaw47.GrantNarrows': WHATEVER THE INPUT: true; the input reads as it did. -/
def grantNarrowsSpec : ChangeSpec := { name := "grantNarrows", fn := fun _ => fun
  | [d1, d2] => { results := [.lit (.bool true)], args := [d1, d2] }
  | _ => none }
def grantNarrowsRow : OpenClaim := { program := "ytdpbacmophaheaa", sum := "71c7f6b74043e5ee1f00787dbed24f909b2ce4fbc31d309af43b7c234398904e", func := "chatelaine/chatelainelaw47.GrantNarrows", spec := "grantNarrows", inPlace := ["internal/bytealg.IndexByteString"], unfollowed := true, recurses := true, apart := false }
def GrantNarrowsSaid : Prop := grantNarrowsRow.holds Try.pinned (OpenSpec.ofChange grantNarrowsSpec)

/-- ITS FALSE NEIGHBOUR: 'it returns false'. Refute it at one input. -/
def grantNarrowsWrong : ChangeSpec := { name := "grantNarrows", fn := fun _ => fun
  | [d1, d2] => { results := [.lit (.bool false)], args := [d1, d2] }
  | _ => none }
def GrantNarrowsWrongFalsely : Prop := grantNarrowsRow.holds Try.pinned (OpenSpec.ofChange grantNarrowsWrong)

/-- 'chatelainelaw47.GrantTokens': WHATEVER THE INPUT: true; the input reads as it did. -/
def grantTokensSpec : ChangeSpec := { name := "grantTokens", fn := fun _ => fun
  | [d1, d2] => { results := [.lit (.bool true)], args := [d1, d2] }
  | _ => none }
def grantTokensRow : OpenClaim := { program := "ytdpbacmophaheaa", sum := "71c7f6b74043e5ee1f00787dbed24f909b2ce4fbc31d309af43b7c234398904e", func := "chatelaine/chatelainelaw47.GrantTokens", spec := "grantTokens", inPlace := ["internal/bytealg.IndexByteString"], unfollowed := true, recurses := true, apart := false }
def GrantTokensSaid : Prop := grantTokensRow.holds Try.pinned (OpenSpec.ofChange grantTokensSpec)

/-- ITS FALSE NEIGHBOUR: 'it returns false'. Refute it at one input. -/
def grantTokensWrong : ChangeSpec := { name := "grantTokens", fn := fun _ => fun
  | [d1, d2] => { results := [.lit (.bool false)], args := [d1, d2] }
  | _ => none }
def GrantTokensWrongFalsely : Prop := grantTokensRow.holds Try.pinned (OpenSpec.ofChange grantTokensWrong)

/-- 'chatelainelaw41.BoundTells': WHATEVER THE INPUT: true; the input reads as it did. -/
def boundTellsSpec : ChangeSpec := { name := "boundTells", fn := fun _ => fun
  | [d1, d2, d3] => { results := [.lit (.bool true)], args := [d1, d2, d3] }
  | _ => none }
def boundTellsRow : OpenClaim := { program := "ytdpbacmophaheaa", sum := "71c7f6b74043e5ee1f00787dbed24f909b2ce4fbc31d309af43b7c234398904e", func := "chatelaine/chatelainelaw41.BoundTells", spec := "boundTells", unfollowed := true, recurses := true, apart := false }
def BoundTellsSaid : Prop := boundTellsRow.holds Try.pinned (OpenSpec.ofChange boundTellsSpec)

/-- ITS FALSE NEIGHBOUR: 'it returns false'. Refute it at one input. -/
def boundTellsWrong : ChangeSpec := { name := "boundTells", fn := fun _ => fun
  | [d1, d2, d3] => { results := [.lit (.bool false)], args := [d1, d2, d3] }
  | _ => none }
def BoundTellsWrongFalsely : Prop := boundTellsRow.holds Try.pinned (OpenSpec.ofChange boundTellsWrong)

/-- 'chatelainelaw41.BoundState': WHATEVER THE INPUT: true; the input reads as it did. -/
def boundStateSpec : ChangeSpec := { name := "boundState", fn := fun _ => fun
  | [d1, d2] => { results := [.lit (.bool true)], args := [d1, d2] }
  | _ => none }
def boundStateRow : OpenClaim := { program := "ytdpbacmophaheaa", sum := "71c7f6b74043e5ee1f00787dbed24f909b2ce4fbc31d309af43b7c234398904e", func := "chatelaine/chatelainelaw41.BoundState", spec := "boundState", unfollowed := true, recurses := true, apart := false }
def BoundStateSaid : Prop := boundStateRow.holds Try.pinned (OpenSpec.ofChange boundStateSpec)

/-- ITS FALSE NEIGHBOUR: 'it returns false'. Refute it at one input. -/
def boundStateWrong : ChangeSpec := { name := "boundState", fn := fun _ => fun
  | [d1, d2] => { results := [.lit (.bool false)], args := [d1, d2] }
  | _ => none }
def BoundStateWrongFalsely : Prop := boundStateRow.holds Try.pinned (OpenSpec.ofChange boundStateWrong)

/- THE SECOND FORM. 'bulk': how many values and letters a reading holds, each counted each time it is reached (what is shared counts as often as it is met; a slice's spare places count too). A statement '..UptoSaid' is the law's where the arguments, and the package variables that the reading takes, are together of bulk at most 1048576: NARROWER than '..Said'. Prove '..Said' where nothing that the law and all that it calls make is longer than what came in: it says more and counts as full. Else prove '..UptoSaid'. A law counts once. -/
mutual
def uptoBulk {H : Type} : DataW H → Nat
  | .lit (.string bytes) => bytes.length + 1
  | .lit _ => 1
  | .nil => 1
  | .ptr d => uptoBulk d + 1
  | .slice elems spare => uptoBulkAll elems + uptoBulkAll spare + 1
  | .agg parts => uptoBulkAll parts + 1
  | .iface _ d => uptoBulk d + 1
  | .map entries => uptoBulkEntries entries + 1
  | .held _ => 1
def uptoBulkAll {H : Type} : List (DataW H) → Nat
  | [] => 0
  | d :: r => uptoBulk d + uptoBulkAll r
def uptoBulkEntries {H : Type} : List (Lit × DataW H) → Nat
  | [] => 0
  | x :: r => uptoBulkEntry x + uptoBulkEntries r
def uptoBulkEntry {H : Type} : Lit × DataW H → Nat
  | (.string bytes, d) => bytes.length + uptoBulk d + 1
  | (_, d) => uptoBulk d + 1
 end
def uptoSmall : (H : Type) → List (DataW H) → Bool := fun _ ds => decide (uptoBulkAll ds ≤ 1048576)
def OpenSpec.upto (s : _root_.Go.ChangeSpec) : _root_.Go.OpenSpec := { _root_.Go.OpenSpec.ofChange s with cond := some uptoSmall }

/-- 'chatelainelaw17.JournalPacks', WHERE WHAT IT READS IS OF BULK AT MOST 1048576: true; the input reads as it did. -/
def journalPacksUptoRow : OpenClaim := { program := "ytdpbacmophaheaa", sum := "71c7f6b74043e5ee1f00787dbed24f909b2ce4fbc31d309af43b7c234398904e", func := "chatelaine/chatelainelaw17.JournalPacks", spec := "journalPacks", unfollowed := true, recurses := true, apart := false, narrowed := true }
def JournalPacksUptoSaid : Prop := journalPacksUptoRow.holds Try.pinned (OpenSpec.upto journalPacksSpec)

/-- 'chatelainelaw17.JournalUnpacks', WHERE WHAT IT READS IS OF BULK AT MOST 1048576: true; the input reads as it did. -/
def journalUnpacksUptoRow : OpenClaim := { program := "ytdpbacmophaheaa", sum := "71c7f6b74043e5ee1f00787dbed24f909b2ce4fbc31d309af43b7c234398904e", func := "chatelaine/chatelainelaw17.JournalUnpacks", spec := "journalUnpacks", unfollowed := true, recurses := true, apart := false, narrowed := true }
def JournalUnpacksUptoSaid : Prop := journalUnpacksUptoRow.holds Try.pinned (OpenSpec.upto journalUnpacksSpec)

/-- 'chatelainelaw17.JournalBack', WHERE WHAT IT READS IS OF BULK AT MOST 1048576: true; the input reads as it did. -/
def journalBackUptoRow : OpenClaim := { program := "ytdpbacmophaheaa", sum := "71c7f6b74043e5ee1f00787dbed24f909b2ce4fbc31d309af43b7c234398904e", func := "chatelaine/chatelainelaw17.JournalBack", spec := "journalBack", unfollowed := true, recurses := true, apart := false, narrowed := true }
def JournalBackUptoSaid : Prop := journalBackUptoRow.holds Try.pinned (OpenSpec.upto journalBackSpec)

/-- 'chatelainelaw18.SuperBack', WHERE WHAT IT READS IS OF BULK AT MOST 1048576: true; the input reads as it did. -/
def superBackUptoRow : OpenClaim := { program := "ytdpbacmophaheaa", sum := "71c7f6b74043e5ee1f00787dbed24f909b2ce4fbc31d309af43b7c234398904e", func := "chatelaine/chatelainelaw18.SuperBack", spec := "superBack", unfollowed := true, recurses := true, apart := false, narrowed := true }
def SuperBackUptoSaid : Prop := superBackUptoRow.holds Try.pinned (OpenSpec.upto superBackSpec)

/-- 'chatelainelaw26.AdminlogBinds', WHERE WHAT IT READS IS OF BULK AT MOST 1048576: true; the input reads as it did. -/
def adminlogBindsUptoRow : OpenClaim := { program := "ytdpbacmophaheaa", sum := "71c7f6b74043e5ee1f00787dbed24f909b2ce4fbc31d309af43b7c234398904e", func := "chatelaine/chatelainelaw26.AdminlogBinds", spec := "adminlogBinds", inPlace := ["internal/bytealg.IndexByteString"], unfollowed := true, recurses := true, apart := false, narrowed := true }
def AdminlogBindsUptoSaid : Prop := adminlogBindsUptoRow.holds Try.pinned (OpenSpec.upto adminlogBindsSpec)

/-- 'chatelainelaw26.AdminlogHeads', WHERE WHAT IT READS IS OF BULK AT MOST 1048576: true; the input reads as it did. -/
def adminlogHeadsUptoRow : OpenClaim := { program := "ytdpbacmophaheaa", sum := "71c7f6b74043e5ee1f00787dbed24f909b2ce4fbc31d309af43b7c234398904e", func := "chatelaine/chatelainelaw26.AdminlogHeads", spec := "adminlogHeads", inPlace := ["internal/bytealg.IndexByteString"], unfollowed := true, recurses := true, apart := false, narrowed := true }
def AdminlogHeadsUptoSaid : Prop := adminlogHeadsUptoRow.holds Try.pinned (OpenSpec.upto adminlogHeadsSpec)

/-- 'chatelainelaw26.AdminlogBytes', WHERE WHAT IT READS IS OF BULK AT MOST 1048576: true; the input reads as it did. -/
def adminlogBytesUptoRow : OpenClaim := { program := "ytdpbacmophaheaa", sum := "71c7f6b74043e5ee1f00787dbed24f909b2ce4fbc31d309af43b7c234398904e", func := "chatelaine/chatelainelaw26.AdminlogBytes", spec := "adminlogBytes", inPlace := ["internal/bytealg.IndexByteString"], unfollowed := true, recurses := true, apart := false, narrowed := true }
def AdminlogBytesUptoSaid : Prop := adminlogBytesUptoRow.holds Try.pinned (OpenSpec.upto adminlogBytesSpec)

/-- 'chatelainelaw47.GrantNarrows', WHERE WHAT IT READS IS OF BULK AT MOST 1048576: true; the input reads as it did. -/
def grantNarrowsUptoRow : OpenClaim := { program := "ytdpbacmophaheaa", sum := "71c7f6b74043e5ee1f00787dbed24f909b2ce4fbc31d309af43b7c234398904e", func := "chatelaine/chatelainelaw47.GrantNarrows", spec := "grantNarrows", inPlace := ["internal/bytealg.IndexByteString"], unfollowed := true, recurses := true, apart := false, narrowed := true }
def GrantNarrowsUptoSaid : Prop := grantNarrowsUptoRow.holds Try.pinned (OpenSpec.upto grantNarrowsSpec)

/-- 'chatelainelaw47.GrantTokens', WHERE WHAT IT READS IS OF BULK AT MOST 1048576: true; the input reads as it did. -/
def grantTokensUptoRow : OpenClaim := { program := "ytdpbacmophaheaa", sum := "71c7f6b74043e5ee1f00787dbed24f909b2ce4fbc31d309af43b7c234398904e", func := "chatelaine/chatelainelaw47.GrantTokens", spec := "grantTokens", inPlace := ["internal/bytealg.IndexByteString"], unfollowed := true, recurses := true, apart := false, narrowed := true }
def GrantTokensUptoSaid : Prop := grantTokensUptoRow.holds Try.pinned (OpenSpec.upto grantTokensSpec)

/-- 'chatelainelaw41.BoundTells', WHERE WHAT IT READS IS OF BULK AT MOST 1048576: true; the input reads as it did. -/
def boundTellsUptoRow : OpenClaim := { program := "ytdpbacmophaheaa", sum := "71c7f6b74043e5ee1f00787dbed24f909b2ce4fbc31d309af43b7c234398904e", func := "chatelaine/chatelainelaw41.BoundTells", spec := "boundTells", unfollowed := true, recurses := true, apart := false, narrowed := true }
def BoundTellsUptoSaid : Prop := boundTellsUptoRow.holds Try.pinned (OpenSpec.upto boundTellsSpec)

/-- 'chatelainelaw41.BoundState', WHERE WHAT IT READS IS OF BULK AT MOST 1048576: true; the input reads as it did. -/
def boundStateUptoRow : OpenClaim := { program := "ytdpbacmophaheaa", sum := "71c7f6b74043e5ee1f00787dbed24f909b2ce4fbc31d309af43b7c234398904e", func := "chatelaine/chatelainelaw41.BoundState", spec := "boundState", unfollowed := true, recurses := true, apart := false, narrowed := true }
def BoundStateUptoSaid : Prop := boundStateUptoRow.holds Try.pinned (OpenSpec.upto boundStateSpec)

end Rows
end Go.Proofs.Ytdpbacmophaheaa
