/-
  No cell of these rows narrows 'for every input' (looked for: loops, veiled, ifaces, maps, wideKeys, modest, calm, conditions, laid).
  DERIVED. THE GIVEN ROWS OF THIS SEAT. 9 by the template 'for every input the law returns true; each argument reads behind the call as it read before'; 0 by the template 'total and deterministic' (their statements: YtdgcfgiedclmcaaTotals.lean).
  GIVEN WITH THE SEED: the statements are not yours to turn. If you find one false, say at which input.
  Laid BY PROGRAM, IN A SANDBOX (cutbox-rows.mjs): the forced cells as the released guide's own fill.sh prints them over the translation ac60bbb85da70a77… (all of the seat's roots in one cut). By AI agents, Wed Nov 11 2026. No macro, syntax, notation, axiom, sorry.
-/
import Derived.Test.YtdgcfgiedclmcaaChecked
import GoSem.Claim
import GoSem.ClaimJoined
import GoSem.ClaimMapViews
import Derived.JoinedTies
import Derived.KernelRfl
namespace Go.Proofs.Ytdgcfgiedclmcaa
/- THE CELL 'sum', in the pinned program and in every row, IS THE sha256 OF THE DUMP (.gsa) THAT YtdgcfgiedclmcaaProg.lean LOADS. Nothing in Lean hashes anything: it is a label: what it is worth is what the hold of that sum in a sandbox is worth. -/
noncomputable def Try.pinned : Pinned := { name := "ytdgcfgiedclmcaa", sum := "ac60bbb85da70a77e8c451d7f5fe6ea0aa32d346e09e652aff66947240e4b8e3", checked := Try.checked }
namespace Rows
def none {H : Type} : Left H := { results := [], args := [] }

/-- 'chatelainelaw34.CrashOutcomes': WHATEVER THE INPUT: true; the input reads as it did. -/
def crashOutcomesSpec : ChangeSpec := { name := "crashOutcomes", fn := fun _ => fun
  | [d1, d2, d3] => { results := [.lit (.bool true)], args := [d1, d2, d3] }
  | _ => none }
def crashOutcomesRow : OpenClaim := { program := "ytdgcfgiedclmcaa", sum := "ac60bbb85da70a77e8c451d7f5fe6ea0aa32d346e09e652aff66947240e4b8e3", func := "chatelaine/chatelainelaw34.CrashOutcomes", spec := "crashOutcomes", unfollowed := true, recurses := true, apart := false }
def CrashOutcomesSaid : Prop := crashOutcomesRow.holds Try.pinned (OpenSpec.ofChange crashOutcomesSpec)

/-- ITS FALSE NEIGHBOUR: 'it returns false'. Refute it at one input. -/
def crashOutcomesWrong : ChangeSpec := { name := "crashOutcomes", fn := fun _ => fun
  | [d1, d2, d3] => { results := [.lit (.bool false)], args := [d1, d2, d3] }
  | _ => none }
def CrashOutcomesWrongFalsely : Prop := crashOutcomesRow.holds Try.pinned (OpenSpec.ofChange crashOutcomesWrong)

/-- 'chatelainelaw34.CrashApplies': WHATEVER THE INPUT: true; the input reads as it did. -/
def crashAppliesSpec : ChangeSpec := { name := "crashApplies", fn := fun _ => fun
  | [d1, d2, d3] => { results := [.lit (.bool true)], args := [d1, d2, d3] }
  | _ => none }
def crashAppliesRow : OpenClaim := { program := "ytdgcfgiedclmcaa", sum := "ac60bbb85da70a77e8c451d7f5fe6ea0aa32d346e09e652aff66947240e4b8e3", func := "chatelaine/chatelainelaw34.CrashApplies", spec := "crashApplies", unfollowed := true, recurses := true, apart := false }
def CrashAppliesSaid : Prop := crashAppliesRow.holds Try.pinned (OpenSpec.ofChange crashAppliesSpec)

/-- ITS FALSE NEIGHBOUR: 'it returns false'. Refute it at one input. -/
def crashAppliesWrong : ChangeSpec := { name := "crashApplies", fn := fun _ => fun
  | [d1, d2, d3] => { results := [.lit (.bool false)], args := [d1, d2, d3] }
  | _ => none }
def CrashAppliesWrongFalsely : Prop := crashAppliesRow.holds Try.pinned (OpenSpec.ofChange crashAppliesWrong)

/-- 'chatelainelaw34.CrashCounts': WHATEVER THE INPUT: true; the input reads as it did. -/
def crashCountsSpec : ChangeSpec := { name := "crashCounts", fn := fun _ => fun
  | [d1, d2] => { results := [.lit (.bool true)], args := [d1, d2] }
  | _ => none }
def crashCountsRow : OpenClaim := { program := "ytdgcfgiedclmcaa", sum := "ac60bbb85da70a77e8c451d7f5fe6ea0aa32d346e09e652aff66947240e4b8e3", func := "chatelaine/chatelainelaw34.CrashCounts", spec := "crashCounts", unfollowed := true, recurses := true, apart := false }
def CrashCountsSaid : Prop := crashCountsRow.holds Try.pinned (OpenSpec.ofChange crashCountsSpec)

/-- ITS FALSE NEIGHBOUR: 'it returns false'. Refute it at one input. -/
def crashCountsWrong : ChangeSpec := { name := "crashCounts", fn := fun _ => fun
  | [d1, d2] => { results := [.lit (.bool false)], args := [d1, d2] }
  | _ => none }
def CrashCountsWrongFalsely : Prop := crashCountsRow.holds Try.pinned (OpenSpec.ofChange crashCountsWrong)

/-- 'chatelainelaw34.CrashDisk': WHATEVER THE INPUT: true; the input reads as it did. -/
def crashDiskSpec : ChangeSpec := { name := "crashDisk", fn := fun _ => fun
  | [d1, d2, d3] => { results := [.lit (.bool true)], args := [d1, d2, d3] }
  | _ => none }
def crashDiskRow : OpenClaim := { program := "ytdgcfgiedclmcaa", sum := "ac60bbb85da70a77e8c451d7f5fe6ea0aa32d346e09e652aff66947240e4b8e3", func := "chatelaine/chatelainelaw34.CrashDisk", spec := "crashDisk", unfollowed := true, recurses := true, apart := false }
def CrashDiskSaid : Prop := crashDiskRow.holds Try.pinned (OpenSpec.ofChange crashDiskSpec)

/-- ITS FALSE NEIGHBOUR: 'it returns false'. Refute it at one input. -/
def crashDiskWrong : ChangeSpec := { name := "crashDisk", fn := fun _ => fun
  | [d1, d2, d3] => { results := [.lit (.bool false)], args := [d1, d2, d3] }
  | _ => none }
def CrashDiskWrongFalsely : Prop := crashDiskRow.holds Try.pinned (OpenSpec.ofChange crashDiskWrong)

/-- 'chatelainelaw13.DiskPlays': WHATEVER THE INPUT: true; the input reads as it did. -/
def diskPlaysSpec : ChangeSpec := { name := "diskPlays", fn := fun _ => fun
  | [d1, d2, d3] => { results := [.lit (.bool true)], args := [d1, d2, d3] }
  | _ => none }
def diskPlaysRow : OpenClaim := { program := "ytdgcfgiedclmcaa", sum := "ac60bbb85da70a77e8c451d7f5fe6ea0aa32d346e09e652aff66947240e4b8e3", func := "chatelaine/chatelainelaw13.DiskPlays", spec := "diskPlays", unfollowed := true, recurses := true, apart := false }
def DiskPlaysSaid : Prop := diskPlaysRow.holds Try.pinned (OpenSpec.ofChange diskPlaysSpec)

/-- ITS FALSE NEIGHBOUR: 'it returns false'. Refute it at one input. -/
def diskPlaysWrong : ChangeSpec := { name := "diskPlays", fn := fun _ => fun
  | [d1, d2, d3] => { results := [.lit (.bool false)], args := [d1, d2, d3] }
  | _ => none }
def DiskPlaysWrongFalsely : Prop := diskPlaysRow.holds Try.pinned (OpenSpec.ofChange diskPlaysWrong)

/-- 'chatelainelaw13.DiskKeeps': WHATEVER THE INPUT: true; the input reads as it did. -/
def diskKeepsSpec : ChangeSpec := { name := "diskKeeps", fn := fun _ => fun
  | [d1, d2] => { results := [.lit (.bool true)], args := [d1, d2] }
  | _ => none }
def diskKeepsRow : OpenClaim := { program := "ytdgcfgiedclmcaa", sum := "ac60bbb85da70a77e8c451d7f5fe6ea0aa32d346e09e652aff66947240e4b8e3", func := "chatelaine/chatelainelaw13.DiskKeeps", spec := "diskKeeps", unfollowed := true, recurses := true, apart := false }
def DiskKeepsSaid : Prop := diskKeepsRow.holds Try.pinned (OpenSpec.ofChange diskKeepsSpec)

/-- ITS FALSE NEIGHBOUR: 'it returns false'. Refute it at one input. -/
def diskKeepsWrong : ChangeSpec := { name := "diskKeeps", fn := fun _ => fun
  | [d1, d2] => { results := [.lit (.bool false)], args := [d1, d2] }
  | _ => none }
def DiskKeepsWrongFalsely : Prop := diskKeepsRow.holds Try.pinned (OpenSpec.ofChange diskKeepsWrong)

/-- 'chatelainelaw27.CatalogFinds': WHATEVER THE INPUT: true; the input reads as it did. -/
def catalogFindsSpec : ChangeSpec := { name := "catalogFinds", fn := fun _ => fun
  | [d1, d2, d3] => { results := [.lit (.bool true)], args := [d1, d2, d3] }
  | _ => none }
def catalogFindsRow : OpenClaim := { program := "ytdgcfgiedclmcaa", sum := "ac60bbb85da70a77e8c451d7f5fe6ea0aa32d346e09e652aff66947240e4b8e3", func := "chatelaine/chatelainelaw27.CatalogFinds", spec := "catalogFinds", inPlace := ["slices.overlaps[chatelaine/api.Space]"], unfollowed := true, recurses := true, apart := false }
def CatalogFindsSaid : Prop := catalogFindsRow.holds Try.pinned (OpenSpec.ofChange catalogFindsSpec)

/-- ITS FALSE NEIGHBOUR: 'it returns false'. Refute it at one input. -/
def catalogFindsWrong : ChangeSpec := { name := "catalogFinds", fn := fun _ => fun
  | [d1, d2, d3] => { results := [.lit (.bool false)], args := [d1, d2, d3] }
  | _ => none }
def CatalogFindsWrongFalsely : Prop := catalogFindsRow.holds Try.pinned (OpenSpec.ofChange catalogFindsWrong)

/-- 'chatelainelaw27.CatalogChanges': WHATEVER THE INPUT: true; the input reads as it did. -/
def catalogChangesSpec : ChangeSpec := { name := "catalogChanges", fn := fun _ => fun
  | [d1, d2, d3] => { results := [.lit (.bool true)], args := [d1, d2, d3] }
  | _ => none }
def catalogChangesRow : OpenClaim := { program := "ytdgcfgiedclmcaa", sum := "ac60bbb85da70a77e8c451d7f5fe6ea0aa32d346e09e652aff66947240e4b8e3", func := "chatelaine/chatelainelaw27.CatalogChanges", spec := "catalogChanges", inPlace := ["slices.overlaps[chatelaine/api.Space]"], unfollowed := true, recurses := true, apart := false }
def CatalogChangesSaid : Prop := catalogChangesRow.holds Try.pinned (OpenSpec.ofChange catalogChangesSpec)

/-- ITS FALSE NEIGHBOUR: 'it returns false'. Refute it at one input. -/
def catalogChangesWrong : ChangeSpec := { name := "catalogChanges", fn := fun _ => fun
  | [d1, d2, d3] => { results := [.lit (.bool false)], args := [d1, d2, d3] }
  | _ => none }
def CatalogChangesWrongFalsely : Prop := catalogChangesRow.holds Try.pinned (OpenSpec.ofChange catalogChangesWrong)

/-- 'chatelainelaw44.UsageTops': WHATEVER THE INPUT: true; the input reads as it did. -/
def usageTopsSpec : ChangeSpec := { name := "usageTops", fn := fun _ => fun
  | [d1, d2, d3] => { results := [.lit (.bool true)], args := [d1, d2, d3] }
  | _ => none }
def usageTopsRow : OpenClaim := { program := "ytdgcfgiedclmcaa", sum := "ac60bbb85da70a77e8c451d7f5fe6ea0aa32d346e09e652aff66947240e4b8e3", func := "chatelaine/chatelainelaw44.UsageTops", spec := "usageTops", inPlace := ["internal/abi.NoEscape", "internal/bytealg.MakeNoZero"], unfollowed := true, recurses := true, apart := false }
def UsageTopsSaid : Prop := usageTopsRow.holds Try.pinned (OpenSpec.ofChange usageTopsSpec)

/-- ITS FALSE NEIGHBOUR: 'it returns false'. Refute it at one input. -/
def usageTopsWrong : ChangeSpec := { name := "usageTops", fn := fun _ => fun
  | [d1, d2, d3] => { results := [.lit (.bool false)], args := [d1, d2, d3] }
  | _ => none }
def UsageTopsWrongFalsely : Prop := usageTopsRow.holds Try.pinned (OpenSpec.ofChange usageTopsWrong)

/- THE SECOND FORM. 'bulk': how many values and letters a reading holds, each counted each time it is reached (what is shared counts as often as it is met; a slice's spare places count too). A statement '..UptoSaid' is the law's where the arguments, and the package variables that the reading takes, are together of bulk at most 1048576: NARROWER than '..Said'. Prove '..Said' where nothing that the law and all that it calls make is longer than what came in: it says more and counts as full. Else prove '..UptoSaid'. A law counts once. -/
mutual
def uptoBulk {H : Type} : DataW H → Nat
  | .lit (.string bytes) => bytes.length + 1
  | .lit _ => 1
  | .nil => 1
  | .ptr d => uptoBulk d + 1
  | .slice elems spare => uptoBulkAll elems + uptoBulkAll spare + 1
  | .agg parts => uptoBulkAll parts + 1
  | .iface _ d => uptoBulk d + 1
  | .map entries => uptoBulkEntries entries + 1
  | .held _ => 1
def uptoBulkAll {H : Type} : List (DataW H) → Nat
  | [] => 0
  | d :: r => uptoBulk d + uptoBulkAll r
def uptoBulkEntries {H : Type} : List (Lit × DataW H) → Nat
  | [] => 0
  | x :: r => uptoBulkEntry x + uptoBulkEntries r
def uptoBulkEntry {H : Type} : Lit × DataW H → Nat
  | (.string bytes, d) => bytes.length + uptoBulk d + 1
  | (_, d) => uptoBulk d + 1
 end
def uptoSmall : (H : Type) → List (DataW H) → Bool := fun _ ds => decide (uptoBulkAll ds ≤ 1048576)
def OpenSpec.upto (s : _root_.Go.ChangeSpec) : _root_.Go.OpenSpec := { _root_.Go.OpenSpec.ofChange s with cond := some uptoSmall }

/-- 'chatelainelaw34.CrashOutcomes', WHERE WHAT IT READS IS OF BULK AT MOST 1048576: true; the input reads as it did. -/
def crashOutcomesUptoRow : OpenClaim := { program := "ytdgcfgiedclmcaa", sum := "ac60bbb85da70a77e8c451d7f5fe6ea0aa32d346e09e652aff66947240e4b8e3", func := "chatelaine/chatelainelaw34.CrashOutcomes", spec := "crashOutcomes", unfollowed := true, recurses := true, apart := false, narrowed := true }
def CrashOutcomesUptoSaid : Prop := crashOutcomesUptoRow.holds Try.pinned (OpenSpec.upto crashOutcomesSpec)

/-- 'chatelainelaw34.CrashApplies', WHERE WHAT IT READS IS OF BULK AT MOST 1048576: true; the input reads as it did. -/
def crashAppliesUptoRow : OpenClaim := { program := "ytdgcfgiedclmcaa", sum := "ac60bbb85da70a77e8c451d7f5fe6ea0aa32d346e09e652aff66947240e4b8e3", func := "chatelaine/chatelainelaw34.CrashApplies", spec := "crashApplies", unfollowed := true, recurses := true, apart := false, narrowed := true }
def CrashAppliesUptoSaid : Prop := crashAppliesUptoRow.holds Try.pinned (OpenSpec.upto crashAppliesSpec)

/-- 'chatelainelaw34.CrashCounts', WHERE WHAT IT READS IS OF BULK AT MOST 1048576: true; the input reads as it did. -/
def crashCountsUptoRow : OpenClaim := { program := "ytdgcfgiedclmcaa", sum := "ac60bbb85da70a77e8c451d7f5fe6ea0aa32d346e09e652aff66947240e4b8e3", func := "chatelaine/chatelainelaw34.CrashCounts", spec := "crashCounts", unfollowed := true, recurses := true, apart := false, narrowed := true }
def CrashCountsUptoSaid : Prop := crashCountsUptoRow.holds Try.pinned (OpenSpec.upto crashCountsSpec)

/-- 'chatelainelaw34.CrashDisk', WHERE WHAT IT READS IS OF BULK AT MOST 1048576: true; the input reads as it did. -/
def crashDiskUptoRow : OpenClaim := { program := "ytdgcfgiedclmcaa", sum := "ac60bbb85da70a77e8c451d7f5fe6ea0aa32d346e09e652aff66947240e4b8e3", func := "chatelaine/chatelainelaw34.CrashDisk", spec := "crashDisk", unfollowed := true, recurses := true, apart := false, narrowed := true }
def CrashDiskUptoSaid : Prop := crashDiskUptoRow.holds Try.pinned (OpenSpec.upto crashDiskSpec)

/-- 'chatelainelaw13.DiskPlays', WHERE WHAT IT READS IS OF BULK AT MOST 1048576: true; the input reads as it did. -/
def diskPlaysUptoRow : OpenClaim := { program := "ytdgcfgiedclmcaa", sum := "ac60bbb85da70a77e8c451d7f5fe6ea0aa32d346e09e652aff66947240e4b8e3", func := "chatelaine/chatelainelaw13.DiskPlays", spec := "diskPlays", unfollowed := true, recurses := true, apart := false, narrowed := true }
def DiskPlaysUptoSaid : Prop := diskPlaysUptoRow.holds Try.pinned (OpenSpec.upto diskPlaysSpec)

/-- 'chatelainelaw13.DiskKeeps', WHERE WHAT IT READS IS OF BULK AT MOST 1048576: true; the input reads as it did. -/
def diskKeepsUptoRow : OpenClaim := { program := "ytdgcfgiedclmcaa", sum := "ac60bbb85da70a77e8c451d7f5fe6ea0aa32d346e09e652aff66947240e4b8e3", func := "chatelaine/chatelainelaw13.DiskKeeps", spec := "diskKeeps", unfollowed := true, recurses := true, apart := false, narrowed := true }
def DiskKeepsUptoSaid : Prop := diskKeepsUptoRow.holds Try.pinned (OpenSpec.upto diskKeepsSpec)

/-- 'chatelainelaw27.CatalogFinds', WHERE WHAT IT READS IS OF BULK AT MOST 1048576: true; the input reads as it did. -/
def catalogFindsUptoRow : OpenClaim := { program := "ytdgcfgiedclmcaa", sum := "ac60bbb85da70a77e8c451d7f5fe6ea0aa32d346e09e652aff66947240e4b8e3", func := "chatelaine/chatelainelaw27.CatalogFinds", spec := "catalogFinds", inPlace := ["slices.overlaps[chatelaine/api.Space]"], unfollowed := true, recurses := true, apart := false, narrowed := true }
def CatalogFindsUptoSaid : Prop := catalogFindsUptoRow.holds Try.pinned (OpenSpec.upto catalogFindsSpec)

/-- 'chatelainelaw27.CatalogChanges', WHERE WHAT IT READS IS OF BULK AT MOST 1048576: true; the input reads as it did. -/
def catalogChangesUptoRow : OpenClaim := { program := "ytdgcfgiedclmcaa", sum := "ac60bbb85da70a77e8c451d7f5fe6ea0aa32d346e09e652aff66947240e4b8e3", func := "chatelaine/chatelainelaw27.CatalogChanges", spec := "catalogChanges", inPlace := ["slices.overlaps[chatelaine/api.Space]"], unfollowed := true, recurses := true, apart := false, narrowed := true }
def CatalogChangesUptoSaid : Prop := catalogChangesUptoRow.holds Try.pinned (OpenSpec.upto catalogChangesSpec)

/-- 'chatelainelaw44.UsageTops', WHERE WHAT IT READS IS OF BULK AT MOST 1048576: true; the input reads as it did. -/
def usageTopsUptoRow : OpenClaim := { program := "ytdgcfgiedclmcaa", sum := "ac60bbb85da70a77e8c451d7f5fe6ea0aa32d346e09e652aff66947240e4b8e3", func := "chatelaine/chatelainelaw44.UsageTops", spec := "usageTops", inPlace := ["internal/abi.NoEscape", "internal/bytealg.MakeNoZero"], unfollowed := true, recurses := true, apart := false, narrowed := true }
def UsageTopsUptoSaid : Prop := usageTopsUptoRow.holds Try.pinned (OpenSpec.upto usageTopsSpec)

end Rows
end Go.Proofs.Ytdgcfgiedclmcaa
