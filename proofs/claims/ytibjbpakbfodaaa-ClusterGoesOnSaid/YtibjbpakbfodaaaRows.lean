/-
  No cell of these rows narrows 'for every input' (looked for: loops, veiled, ifaces, maps, wideKeys, modest, calm, conditions, laid).
  DERIVED. THE GIVEN ROWS OF THIS SEAT. 15 by the template 'for every input the law returns true; each argument reads behind the call as it read before'; 0 by the template 'total and deterministic' (their statements: YtibjbpakbfodaaaTotals.lean).
  GIVEN WITH THE SEED: the statements are not yours to turn. If you find one false, say at which input.
  Laid BY PROGRAM, IN A SANDBOX (cutbox-rows.mjs): the forced cells as the released guide's own fill.sh prints them over the translation 13302e3864d7b2d5… (all of the seat's roots in one cut). By AI agents, Wed Nov 11 2026. No macro, syntax, notation, axiom, sorry.
-/
import Derived.Test.YtibjbpakbfodaaaChecked
import GoSem.Claim
import GoSem.ClaimJoined
import GoSem.ClaimMapViews
import Derived.JoinedTies
import Derived.KernelRfl
namespace Go.Proofs.Ytibjbpakbfodaaa
/- THE CELL 'sum', in the pinned program and in every row, IS THE sha256 OF THE DUMP (.gsa) THAT YtibjbpakbfodaaaProg.lean LOADS. Nothing in Lean hashes anything: it is a label: what it is worth is what the hold of that sum in a sandbox is worth. -/
noncomputable def Try.pinned : Pinned := { name := "ytibjbpakbfodaaa", sum := "13302e3864d7b2d5bab334ae305484d9e02c295e0cbc170be5dbcd22beed94d2", checked := Try.checked }
namespace Rows
def none {H : Type} : Left H := { results := [], args := [] }

/-- 'verdictlaw15.RaftSteps': WHATEVER THE INPUT: true; the input reads as it did. -/
def raftStepsSpec : ChangeSpec := { name := "raftSteps", fn := fun _ => fun
  | [d1, d2] => { results := [.lit (.bool true)], args := [d1, d2] }
  | _ => none }
def raftStepsRow : OpenClaim := { program := "ytibjbpakbfodaaa", sum := "13302e3864d7b2d5bab334ae305484d9e02c295e0cbc170be5dbcd22beed94d2", func := "verdict/verdictlaw15.RaftSteps", spec := "raftSteps", unfollowed := true, recurses := true, apart := false }
def RaftStepsSaid : Prop := raftStepsRow.holds Try.pinned (OpenSpec.ofChange raftStepsSpec)

/-- ITS FALSE NEIGHBOUR: 'it returns false'. Refute it at one input. -/
def raftStepsWrong : ChangeSpec := { name := "raftSteps", fn := fun _ => fun
  | [d1, d2] => { results := [.lit (.bool false)], args := [d1, d2] }
  | _ => none }
def RaftStepsWrongFalsely : Prop := raftStepsRow.holds Try.pinned (OpenSpec.ofChange raftStepsWrong)

/-- 'verdictlaw15.RaftReceives': WHATEVER THE INPUT: true; the input reads as it did. -/
def raftReceivesSpec : ChangeSpec := { name := "raftReceives", fn := fun _ => fun
  | [d1, d2, d3, d4] => { results := [.lit (.bool true)], args := [d1, d2, d3, d4] }
  | _ => none }
def raftReceivesRow : OpenClaim := { program := "ytibjbpakbfodaaa", sum := "13302e3864d7b2d5bab334ae305484d9e02c295e0cbc170be5dbcd22beed94d2", func := "verdict/verdictlaw15.RaftReceives", spec := "raftReceives", inPlace := ["slices.overlaps[int]"], unfollowed := true, recurses := true, apart := false }
def RaftReceivesSaid : Prop := raftReceivesRow.holds Try.pinned (OpenSpec.ofChange raftReceivesSpec)

/-- ITS FALSE NEIGHBOUR: 'it returns false'. Refute it at one input. -/
def raftReceivesWrong : ChangeSpec := { name := "raftReceives", fn := fun _ => fun
  | [d1, d2, d3, d4] => { results := [.lit (.bool false)], args := [d1, d2, d3, d4] }
  | _ => none }
def RaftReceivesWrongFalsely : Prop := raftReceivesRow.holds Try.pinned (OpenSpec.ofChange raftReceivesWrong)

/-- 'verdictlaw15.RaftWhole': WHATEVER THE INPUT: true; the input reads as it did. -/
def raftWholeSpec : ChangeSpec := { name := "raftWhole", fn := fun _ => fun
  | [d1, d2] => { results := [.lit (.bool true)], args := [d1, d2] }
  | _ => none }
def raftWholeRow : OpenClaim := { program := "ytibjbpakbfodaaa", sum := "13302e3864d7b2d5bab334ae305484d9e02c295e0cbc170be5dbcd22beed94d2", func := "verdict/verdictlaw15.RaftWhole", spec := "raftWhole", inPlace := ["slices.overlaps[int]"], unfollowed := true, recurses := true, apart := false }
def RaftWholeSaid : Prop := raftWholeRow.holds Try.pinned (OpenSpec.ofChange raftWholeSpec)

/-- ITS FALSE NEIGHBOUR: 'it returns false'. Refute it at one input. -/
def raftWholeWrong : ChangeSpec := { name := "raftWhole", fn := fun _ => fun
  | [d1, d2] => { results := [.lit (.bool false)], args := [d1, d2] }
  | _ => none }
def RaftWholeWrongFalsely : Prop := raftWholeRow.holds Try.pinned (OpenSpec.ofChange raftWholeWrong)

/-- 'verdictlaw15.RaftRight': WHATEVER THE INPUT: true; the input reads as it did. -/
def raftRightSpec : ChangeSpec := { name := "raftRight", fn := fun _ => fun
  | [d1, d2, d3] => { results := [.lit (.bool true)], args := [d1, d2, d3] }
  | _ => none }
def raftRightRow : OpenClaim := { program := "ytibjbpakbfodaaa", sum := "13302e3864d7b2d5bab334ae305484d9e02c295e0cbc170be5dbcd22beed94d2", func := "verdict/verdictlaw15.RaftRight", spec := "raftRight", inPlace := ["slices.overlaps[int]"], unfollowed := true, recurses := true, apart := false }
def RaftRightSaid : Prop := raftRightRow.holds Try.pinned (OpenSpec.ofChange raftRightSpec)

/-- ITS FALSE NEIGHBOUR: 'it returns false'. Refute it at one input. -/
def raftRightWrong : ChangeSpec := { name := "raftRight", fn := fun _ => fun
  | [d1, d2, d3] => { results := [.lit (.bool false)], args := [d1, d2, d3] }
  | _ => none }
def RaftRightWrongFalsely : Prop := raftRightRow.holds Try.pinned (OpenSpec.ofChange raftRightWrong)

/-- 'verdictlaw15.RaftVotes': WHATEVER THE INPUT: true; the input reads as it did. -/
def raftVotesSpec : ChangeSpec := { name := "raftVotes", fn := fun _ => fun
  | [d1, d2, d3] => { results := [.lit (.bool true)], args := [d1, d2, d3] }
  | _ => none }
def raftVotesRow : OpenClaim := { program := "ytibjbpakbfodaaa", sum := "13302e3864d7b2d5bab334ae305484d9e02c295e0cbc170be5dbcd22beed94d2", func := "verdict/verdictlaw15.RaftVotes", spec := "raftVotes", inPlace := ["slices.overlaps[int]"], unfollowed := true, recurses := true, apart := false }
def RaftVotesSaid : Prop := raftVotesRow.holds Try.pinned (OpenSpec.ofChange raftVotesSpec)

/-- ITS FALSE NEIGHBOUR: 'it returns false'. Refute it at one input. -/
def raftVotesWrong : ChangeSpec := { name := "raftVotes", fn := fun _ => fun
  | [d1, d2, d3] => { results := [.lit (.bool false)], args := [d1, d2, d3] }
  | _ => none }
def RaftVotesWrongFalsely : Prop := raftVotesRow.holds Try.pinned (OpenSpec.ofChange raftVotesWrong)

/-- 'verdictlaw15.RaftAppends': WHATEVER THE INPUT: true; the input reads as it did. -/
def raftAppendsSpec : ChangeSpec := { name := "raftAppends", fn := fun _ => fun
  | [d1, d2, d3] => { results := [.lit (.bool true)], args := [d1, d2, d3] }
  | _ => none }
def raftAppendsRow : OpenClaim := { program := "ytibjbpakbfodaaa", sum := "13302e3864d7b2d5bab334ae305484d9e02c295e0cbc170be5dbcd22beed94d2", func := "verdict/verdictlaw15.RaftAppends", spec := "raftAppends", inPlace := ["slices.overlaps[int]"], unfollowed := true, recurses := true, apart := false }
def RaftAppendsSaid : Prop := raftAppendsRow.holds Try.pinned (OpenSpec.ofChange raftAppendsSpec)

/-- ITS FALSE NEIGHBOUR: 'it returns false'. Refute it at one input. -/
def raftAppendsWrong : ChangeSpec := { name := "raftAppends", fn := fun _ => fun
  | [d1, d2, d3] => { results := [.lit (.bool false)], args := [d1, d2, d3] }
  | _ => none }
def RaftAppendsWrongFalsely : Prop := raftAppendsRow.holds Try.pinned (OpenSpec.ofChange raftAppendsWrong)

/-- 'verdictlaw15.RaftSpeaks': WHATEVER THE INPUT: true; the input reads as it did. -/
def raftSpeaksSpec : ChangeSpec := { name := "raftSpeaks", fn := fun _ => fun
  | [d1, d2, d3] => { results := [.lit (.bool true)], args := [d1, d2, d3] }
  | _ => none }
def raftSpeaksRow : OpenClaim := { program := "ytibjbpakbfodaaa", sum := "13302e3864d7b2d5bab334ae305484d9e02c295e0cbc170be5dbcd22beed94d2", func := "verdict/verdictlaw15.RaftSpeaks", spec := "raftSpeaks", inPlace := ["slices.overlaps[int]"], unfollowed := true, recurses := true, apart := false }
def RaftSpeaksSaid : Prop := raftSpeaksRow.holds Try.pinned (OpenSpec.ofChange raftSpeaksSpec)

/-- ITS FALSE NEIGHBOUR: 'it returns false'. Refute it at one input. -/
def raftSpeaksWrong : ChangeSpec := { name := "raftSpeaks", fn := fun _ => fun
  | [d1, d2, d3] => { results := [.lit (.bool false)], args := [d1, d2, d3] }
  | _ => none }
def RaftSpeaksWrongFalsely : Prop := raftSpeaksRow.holds Try.pinned (OpenSpec.ofChange raftSpeaksWrong)

/-- 'verdictlaw16.ClusterLeaders': WHATEVER THE INPUT: true; the input reads as it did. -/
def clusterLeadersSpec : ChangeSpec := { name := "clusterLeaders", fn := fun _ => fun
  | [d1, d2] => { results := [.lit (.bool true)], args := [d1, d2] }
  | _ => none }
def clusterLeadersRow : OpenClaim := { program := "ytibjbpakbfodaaa", sum := "13302e3864d7b2d5bab334ae305484d9e02c295e0cbc170be5dbcd22beed94d2", func := "verdict/verdictlaw16.ClusterLeaders", spec := "clusterLeaders", inPlace := ["slices.overlaps[int]"], unfollowed := true, recurses := true, apart := false }
def ClusterLeadersSaid : Prop := clusterLeadersRow.holds Try.pinned (OpenSpec.ofChange clusterLeadersSpec)

/-- ITS FALSE NEIGHBOUR: 'it returns false'. Refute it at one input. -/
def clusterLeadersWrong : ChangeSpec := { name := "clusterLeaders", fn := fun _ => fun
  | [d1, d2] => { results := [.lit (.bool false)], args := [d1, d2] }
  | _ => none }
def ClusterLeadersWrongFalsely : Prop := clusterLeadersRow.holds Try.pinned (OpenSpec.ofChange clusterLeadersWrong)

/-- 'verdictlaw16.ClusterLogs': WHATEVER THE INPUT: true; the input reads as it did. -/
def clusterLogsSpec : ChangeSpec := { name := "clusterLogs", fn := fun _ => fun
  | [d1, d2] => { results := [.lit (.bool true)], args := [d1, d2] }
  | _ => none }
def clusterLogsRow : OpenClaim := { program := "ytibjbpakbfodaaa", sum := "13302e3864d7b2d5bab334ae305484d9e02c295e0cbc170be5dbcd22beed94d2", func := "verdict/verdictlaw16.ClusterLogs", spec := "clusterLogs", inPlace := ["slices.overlaps[int]"], unfollowed := true, recurses := true, apart := false }
def ClusterLogsSaid : Prop := clusterLogsRow.holds Try.pinned (OpenSpec.ofChange clusterLogsSpec)

/-- ITS FALSE NEIGHBOUR: 'it returns false'. Refute it at one input. -/
def clusterLogsWrong : ChangeSpec := { name := "clusterLogs", fn := fun _ => fun
  | [d1, d2] => { results := [.lit (.bool false)], args := [d1, d2] }
  | _ => none }
def ClusterLogsWrongFalsely : Prop := clusterLogsRow.holds Try.pinned (OpenSpec.ofChange clusterLogsWrong)

/-- 'verdictlaw16.ClusterSure': WHATEVER THE INPUT: true; the input reads as it did. -/
def clusterSureSpec : ChangeSpec := { name := "clusterSure", fn := fun _ => fun
  | [d1, d2] => { results := [.lit (.bool true)], args := [d1, d2] }
  | _ => none }
def clusterSureRow : OpenClaim := { program := "ytibjbpakbfodaaa", sum := "13302e3864d7b2d5bab334ae305484d9e02c295e0cbc170be5dbcd22beed94d2", func := "verdict/verdictlaw16.ClusterSure", spec := "clusterSure", inPlace := ["slices.overlaps[int]"], unfollowed := true, recurses := true, apart := false }
def ClusterSureSaid : Prop := clusterSureRow.holds Try.pinned (OpenSpec.ofChange clusterSureSpec)

/-- ITS FALSE NEIGHBOUR: 'it returns false'. Refute it at one input. -/
def clusterSureWrong : ChangeSpec := { name := "clusterSure", fn := fun _ => fun
  | [d1, d2] => { results := [.lit (.bool false)], args := [d1, d2] }
  | _ => none }
def ClusterSureWrongFalsely : Prop := clusterSureRow.holds Try.pinned (OpenSpec.ofChange clusterSureWrong)

/-- 'verdictlaw16.ClusterComplete': WHATEVER THE INPUT: true; the input reads as it did. -/
def clusterCompleteSpec : ChangeSpec := { name := "clusterComplete", fn := fun _ => fun
  | [d1, d2] => { results := [.lit (.bool true)], args := [d1, d2] }
  | _ => none }
def clusterCompleteRow : OpenClaim := { program := "ytibjbpakbfodaaa", sum := "13302e3864d7b2d5bab334ae305484d9e02c295e0cbc170be5dbcd22beed94d2", func := "verdict/verdictlaw16.ClusterComplete", spec := "clusterComplete", inPlace := ["slices.overlaps[int]"], unfollowed := true, recurses := true, apart := false }
def ClusterCompleteSaid : Prop := clusterCompleteRow.holds Try.pinned (OpenSpec.ofChange clusterCompleteSpec)

/-- ITS FALSE NEIGHBOUR: 'it returns false'. Refute it at one input. -/
def clusterCompleteWrong : ChangeSpec := { name := "clusterComplete", fn := fun _ => fun
  | [d1, d2] => { results := [.lit (.bool false)], args := [d1, d2] }
  | _ => none }
def ClusterCompleteWrongFalsely : Prop := clusterCompleteRow.holds Try.pinned (OpenSpec.ofChange clusterCompleteWrong)

/-- 'verdictlaw16.ClusterVotes': WHATEVER THE INPUT: true; the input reads as it did. -/
def clusterVotesSpec : ChangeSpec := { name := "clusterVotes", fn := fun _ => fun
  | [d1, d2] => { results := [.lit (.bool true)], args := [d1, d2] }
  | _ => none }
def clusterVotesRow : OpenClaim := { program := "ytibjbpakbfodaaa", sum := "13302e3864d7b2d5bab334ae305484d9e02c295e0cbc170be5dbcd22beed94d2", func := "verdict/verdictlaw16.ClusterVotes", spec := "clusterVotes", inPlace := ["slices.overlaps[int]"], unfollowed := true, recurses := true, apart := false }
def ClusterVotesSaid : Prop := clusterVotesRow.holds Try.pinned (OpenSpec.ofChange clusterVotesSpec)

/-- ITS FALSE NEIGHBOUR: 'it returns false'. Refute it at one input. -/
def clusterVotesWrong : ChangeSpec := { name := "clusterVotes", fn := fun _ => fun
  | [d1, d2] => { results := [.lit (.bool false)], args := [d1, d2] }
  | _ => none }
def ClusterVotesWrongFalsely : Prop := clusterVotesRow.holds Try.pinned (OpenSpec.ofChange clusterVotesWrong)

/-- 'verdictlaw16.ClusterRight': WHATEVER THE INPUT: true; the input reads as it did. -/
def clusterRightSpec : ChangeSpec := { name := "clusterRight", fn := fun _ => fun
  | [d1, d2] => { results := [.lit (.bool true)], args := [d1, d2] }
  | _ => none }
def clusterRightRow : OpenClaim := { program := "ytibjbpakbfodaaa", sum := "13302e3864d7b2d5bab334ae305484d9e02c295e0cbc170be5dbcd22beed94d2", func := "verdict/verdictlaw16.ClusterRight", spec := "clusterRight", inPlace := ["slices.overlaps[int]"], unfollowed := true, recurses := true, apart := false }
def ClusterRightSaid : Prop := clusterRightRow.holds Try.pinned (OpenSpec.ofChange clusterRightSpec)

/-- ITS FALSE NEIGHBOUR: 'it returns false'. Refute it at one input. -/
def clusterRightWrong : ChangeSpec := { name := "clusterRight", fn := fun _ => fun
  | [d1, d2] => { results := [.lit (.bool false)], args := [d1, d2] }
  | _ => none }
def ClusterRightWrongFalsely : Prop := clusterRightRow.holds Try.pinned (OpenSpec.ofChange clusterRightWrong)

/-- 'verdictlaw16.ClusterRuns': WHATEVER THE INPUT: true; the input reads as it did. -/
def clusterRunsSpec : ChangeSpec := { name := "clusterRuns", fn := fun _ => fun
  | [d1, d2, d3, d4] => { results := [.lit (.bool true)], args := [d1, d2, d3, d4] }
  | _ => none }
def clusterRunsRow : OpenClaim := { program := "ytibjbpakbfodaaa", sum := "13302e3864d7b2d5bab334ae305484d9e02c295e0cbc170be5dbcd22beed94d2", func := "verdict/verdictlaw16.ClusterRuns", spec := "clusterRuns", inPlace := ["slices.overlaps[int]"], unfollowed := true, recurses := true, apart := false }
def ClusterRunsSaid : Prop := clusterRunsRow.holds Try.pinned (OpenSpec.ofChange clusterRunsSpec)

/-- ITS FALSE NEIGHBOUR: 'it returns false'. Refute it at one input. -/
def clusterRunsWrong : ChangeSpec := { name := "clusterRuns", fn := fun _ => fun
  | [d1, d2, d3, d4] => { results := [.lit (.bool false)], args := [d1, d2, d3, d4] }
  | _ => none }
def ClusterRunsWrongFalsely : Prop := clusterRunsRow.holds Try.pinned (OpenSpec.ofChange clusterRunsWrong)

/-- 'verdictlaw16.ClusterGoesOn': WHATEVER THE INPUT: true; the input reads as it did. -/
def clusterGoesOnSpec : ChangeSpec := { name := "clusterGoesOn", fn := fun _ => fun
  | [d1, d2, d3] => { results := [.lit (.bool true)], args := [d1, d2, d3] }
  | _ => none }
def clusterGoesOnRow : OpenClaim := { program := "ytibjbpakbfodaaa", sum := "13302e3864d7b2d5bab334ae305484d9e02c295e0cbc170be5dbcd22beed94d2", func := "verdict/verdictlaw16.ClusterGoesOn", spec := "clusterGoesOn", inPlace := ["slices.overlaps[int]"], unfollowed := true, recurses := true, apart := false }
def ClusterGoesOnSaid : Prop := clusterGoesOnRow.holds Try.pinned (OpenSpec.ofChange clusterGoesOnSpec)

/-- ITS FALSE NEIGHBOUR: 'it returns false'. Refute it at one input. -/
def clusterGoesOnWrong : ChangeSpec := { name := "clusterGoesOn", fn := fun _ => fun
  | [d1, d2, d3] => { results := [.lit (.bool false)], args := [d1, d2, d3] }
  | _ => none }
def ClusterGoesOnWrongFalsely : Prop := clusterGoesOnRow.holds Try.pinned (OpenSpec.ofChange clusterGoesOnWrong)

/- THE SECOND FORM. 'bulk': how many values and letters a reading holds, each counted each time it is reached (what is shared counts as often as it is met; a slice's spare places count too). A statement '..UptoSaid' is the law's where the arguments, and the package variables that the reading takes, are together of bulk at most 1048576: NARROWER than '..Said'. Prove '..Said' where nothing that the law and all that it calls make is longer than what came in: it says more and counts as full. Else prove '..UptoSaid'. A law counts once. -/
mutual
def uptoBulk {H : Type} : DataW H → Nat
  | .lit (.string bytes) => bytes.length + 1
  | .lit _ => 1
  | .nil => 1
  | .ptr d => uptoBulk d + 1
  | .slice elems spare => uptoBulkAll elems + uptoBulkAll spare + 1
  | .agg parts => uptoBulkAll parts + 1
  | .iface _ d => uptoBulk d + 1
  | .map entries => uptoBulkEntries entries + 1
  | .held _ => 1
def uptoBulkAll {H : Type} : List (DataW H) → Nat
  | [] => 0
  | d :: r => uptoBulk d + uptoBulkAll r
def uptoBulkEntries {H : Type} : List (Lit × DataW H) → Nat
  | [] => 0
  | x :: r => uptoBulkEntry x + uptoBulkEntries r
def uptoBulkEntry {H : Type} : Lit × DataW H → Nat
  | (.string bytes, d) => bytes.length + uptoBulk d + 1
  | (_, d) => uptoBulk d + 1
 end
def uptoSmall : (H : Type) → List (DataW H) → Bool := fun _ ds => decide (uptoBulkAll ds ≤ 1048576)
def OpenSpec.upto (s : _root_.Go.ChangeSpec) : _root_.Go.OpenSpec := { _root_.Go.OpenSpec.ofChange s with cond := some uptoSmall }

/-- 'verdictlaw15.RaftSteps', WHERE WHAT IT READS IS OF BULK AT MOST 1048576: true; the input reads as it did. -/
def raftStepsUptoRow : OpenClaim := { program := "ytibjbpakbfodaaa", sum := "13302e3864d7b2d5bab334ae305484d9e02c295e0cbc170be5dbcd22beed94d2", func := "verdict/verdictlaw15.RaftSteps", spec := "raftSteps", unfollowed := true, recurses := true, apart := false, narrowed := true }
def RaftStepsUptoSaid : Prop := raftStepsUptoRow.holds Try.pinned (OpenSpec.upto raftStepsSpec)

/-- 'verdictlaw15.RaftReceives', WHERE WHAT IT READS IS OF BULK AT MOST 1048576: true; the input reads as it did. -/
def raftReceivesUptoRow : OpenClaim := { program := "ytibjbpakbfodaaa", sum := "13302e3864d7b2d5bab334ae305484d9e02c295e0cbc170be5dbcd22beed94d2", func := "verdict/verdictlaw15.RaftReceives", spec := "raftReceives", inPlace := ["slices.overlaps[int]"], unfollowed := true, recurses := true, apart := false, narrowed := true }
def RaftReceivesUptoSaid : Prop := raftReceivesUptoRow.holds Try.pinned (OpenSpec.upto raftReceivesSpec)

/-- 'verdictlaw15.RaftWhole', WHERE WHAT IT READS IS OF BULK AT MOST 1048576: true; the input reads as it did. -/
def raftWholeUptoRow : OpenClaim := { program := "ytibjbpakbfodaaa", sum := "13302e3864d7b2d5bab334ae305484d9e02c295e0cbc170be5dbcd22beed94d2", func := "verdict/verdictlaw15.RaftWhole", spec := "raftWhole", inPlace := ["slices.overlaps[int]"], unfollowed := true, recurses := true, apart := false, narrowed := true }
def RaftWholeUptoSaid : Prop := raftWholeUptoRow.holds Try.pinned (OpenSpec.upto raftWholeSpec)

/-- 'verdictlaw15.RaftRight', WHERE WHAT IT READS IS OF BULK AT MOST 1048576: true; the input reads as it did. -/
def raftRightUptoRow : OpenClaim := { program := "ytibjbpakbfodaaa", sum := "13302e3864d7b2d5bab334ae305484d9e02c295e0cbc170be5dbcd22beed94d2", func := "verdict/verdictlaw15.RaftRight", spec := "raftRight", inPlace := ["slices.overlaps[int]"], unfollowed := true, recurses := true, apart := false, narrowed := true }
def RaftRightUptoSaid : Prop := raftRightUptoRow.holds Try.pinned (OpenSpec.upto raftRightSpec)

/-- 'verdictlaw15.RaftVotes', WHERE WHAT IT READS IS OF BULK AT MOST 1048576: true; the input reads as it did. -/
def raftVotesUptoRow : OpenClaim := { program := "ytibjbpakbfodaaa", sum := "13302e3864d7b2d5bab334ae305484d9e02c295e0cbc170be5dbcd22beed94d2", func := "verdict/verdictlaw15.RaftVotes", spec := "raftVotes", inPlace := ["slices.overlaps[int]"], unfollowed := true, recurses := true, apart := false, narrowed := true }
def RaftVotesUptoSaid : Prop := raftVotesUptoRow.holds Try.pinned (OpenSpec.upto raftVotesSpec)

/-- 'verdictlaw15.RaftAppends', WHERE WHAT IT READS IS OF BULK AT MOST 1048576: true; the input reads as it did. -/
def raftAppendsUptoRow : OpenClaim := { program := "ytibjbpakbfodaaa", sum := "13302e3864d7b2d5bab334ae305484d9e02c295e0cbc170be5dbcd22beed94d2", func := "verdict/verdictlaw15.RaftAppends", spec := "raftAppends", inPlace := ["slices.overlaps[int]"], unfollowed := true, recurses := true, apart := false, narrowed := true }
def RaftAppendsUptoSaid : Prop := raftAppendsUptoRow.holds Try.pinned (OpenSpec.upto raftAppendsSpec)

/-- 'verdictlaw15.RaftSpeaks', WHERE WHAT IT READS IS OF BULK AT MOST 1048576: true; the input reads as it did. -/
def raftSpeaksUptoRow : OpenClaim := { program := "ytibjbpakbfodaaa", sum := "13302e3864d7b2d5bab334ae305484d9e02c295e0cbc170be5dbcd22beed94d2", func := "verdict/verdictlaw15.RaftSpeaks", spec := "raftSpeaks", inPlace := ["slices.overlaps[int]"], unfollowed := true, recurses := true, apart := false, narrowed := true }
def RaftSpeaksUptoSaid : Prop := raftSpeaksUptoRow.holds Try.pinned (OpenSpec.upto raftSpeaksSpec)

/-- 'verdictlaw16.ClusterLeaders', WHERE WHAT IT READS IS OF BULK AT MOST 1048576: true; the input reads as it did. -/
def clusterLeadersUptoRow : OpenClaim := { program := "ytibjbpakbfodaaa", sum := "13302e3864d7b2d5bab334ae305484d9e02c295e0cbc170be5dbcd22beed94d2", func := "verdict/verdictlaw16.ClusterLeaders", spec := "clusterLeaders", inPlace := ["slices.overlaps[int]"], unfollowed := true, recurses := true, apart := false, narrowed := true }
def ClusterLeadersUptoSaid : Prop := clusterLeadersUptoRow.holds Try.pinned (OpenSpec.upto clusterLeadersSpec)

/-- 'verdictlaw16.ClusterLogs', WHERE WHAT IT READS IS OF BULK AT MOST 1048576: true; the input reads as it did. -/
def clusterLogsUptoRow : OpenClaim := { program := "ytibjbpakbfodaaa", sum := "13302e3864d7b2d5bab334ae305484d9e02c295e0cbc170be5dbcd22beed94d2", func := "verdict/verdictlaw16.ClusterLogs", spec := "clusterLogs", inPlace := ["slices.overlaps[int]"], unfollowed := true, recurses := true, apart := false, narrowed := true }
def ClusterLogsUptoSaid : Prop := clusterLogsUptoRow.holds Try.pinned (OpenSpec.upto clusterLogsSpec)

/-- 'verdictlaw16.ClusterSure', WHERE WHAT IT READS IS OF BULK AT MOST 1048576: true; the input reads as it did. -/
def clusterSureUptoRow : OpenClaim := { program := "ytibjbpakbfodaaa", sum := "13302e3864d7b2d5bab334ae305484d9e02c295e0cbc170be5dbcd22beed94d2", func := "verdict/verdictlaw16.ClusterSure", spec := "clusterSure", inPlace := ["slices.overlaps[int]"], unfollowed := true, recurses := true, apart := false, narrowed := true }
def ClusterSureUptoSaid : Prop := clusterSureUptoRow.holds Try.pinned (OpenSpec.upto clusterSureSpec)

/-- 'verdictlaw16.ClusterComplete', WHERE WHAT IT READS IS OF BULK AT MOST 1048576: true; the input reads as it did. -/
def clusterCompleteUptoRow : OpenClaim := { program := "ytibjbpakbfodaaa", sum := "13302e3864d7b2d5bab334ae305484d9e02c295e0cbc170be5dbcd22beed94d2", func := "verdict/verdictlaw16.ClusterComplete", spec := "clusterComplete", inPlace := ["slices.overlaps[int]"], unfollowed := true, recurses := true, apart := false, narrowed := true }
def ClusterCompleteUptoSaid : Prop := clusterCompleteUptoRow.holds Try.pinned (OpenSpec.upto clusterCompleteSpec)

/-- 'verdictlaw16.ClusterVotes', WHERE WHAT IT READS IS OF BULK AT MOST 1048576: true; the input reads as it did. -/
def clusterVotesUptoRow : OpenClaim := { program := "ytibjbpakbfodaaa", sum := "13302e3864d7b2d5bab334ae305484d9e02c295e0cbc170be5dbcd22beed94d2", func := "verdict/verdictlaw16.ClusterVotes", spec := "clusterVotes", inPlace := ["slices.overlaps[int]"], unfollowed := true, recurses := true, apart := false, narrowed := true }
def ClusterVotesUptoSaid : Prop := clusterVotesUptoRow.holds Try.pinned (OpenSpec.upto clusterVotesSpec)

/-- 'verdictlaw16.ClusterRight', WHERE WHAT IT READS IS OF BULK AT MOST 1048576: true; the input reads as it did. -/
def clusterRightUptoRow : OpenClaim := { program := "ytibjbpakbfodaaa", sum := "13302e3864d7b2d5bab334ae305484d9e02c295e0cbc170be5dbcd22beed94d2", func := "verdict/verdictlaw16.ClusterRight", spec := "clusterRight", inPlace := ["slices.overlaps[int]"], unfollowed := true, recurses := true, apart := false, narrowed := true }
def ClusterRightUptoSaid : Prop := clusterRightUptoRow.holds Try.pinned (OpenSpec.upto clusterRightSpec)

/-- 'verdictlaw16.ClusterRuns', WHERE WHAT IT READS IS OF BULK AT MOST 1048576: true; the input reads as it did. -/
def clusterRunsUptoRow : OpenClaim := { program := "ytibjbpakbfodaaa", sum := "13302e3864d7b2d5bab334ae305484d9e02c295e0cbc170be5dbcd22beed94d2", func := "verdict/verdictlaw16.ClusterRuns", spec := "clusterRuns", inPlace := ["slices.overlaps[int]"], unfollowed := true, recurses := true, apart := false, narrowed := true }
def ClusterRunsUptoSaid : Prop := clusterRunsUptoRow.holds Try.pinned (OpenSpec.upto clusterRunsSpec)

/-- 'verdictlaw16.ClusterGoesOn', WHERE WHAT IT READS IS OF BULK AT MOST 1048576: true; the input reads as it did. -/
def clusterGoesOnUptoRow : OpenClaim := { program := "ytibjbpakbfodaaa", sum := "13302e3864d7b2d5bab334ae305484d9e02c295e0cbc170be5dbcd22beed94d2", func := "verdict/verdictlaw16.ClusterGoesOn", spec := "clusterGoesOn", inPlace := ["slices.overlaps[int]"], unfollowed := true, recurses := true, apart := false, narrowed := true }
def ClusterGoesOnUptoSaid : Prop := clusterGoesOnUptoRow.holds Try.pinned (OpenSpec.upto clusterGoesOnSpec)

end Rows
end Go.Proofs.Ytibjbpakbfodaaa
