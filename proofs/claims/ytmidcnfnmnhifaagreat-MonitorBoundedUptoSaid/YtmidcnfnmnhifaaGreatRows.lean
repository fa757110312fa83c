/-
  NARROWER THAN 'FOR EVERY INPUT', by the rows' own cells (each row's printed sentence says how): MonitorBounded: loops · MonitorTells: loops · MonitorClones: loops · MonitorPlain: loops · TruthTells: loops · TruthLast: loops · MonitorSound: loops · TruthMonitor: loops · UpdateChecks: loops · UpdateTouches: loops · UpdateNobody: loops · UpdateSplits: loops · NnfMeans: loops · ExplainParts: loops · ExplainWhy: loops · ExplainDecides: loops.
  DERIVED. THE GIVEN ROWS OF THIS SEAT. 18 by the template 'for every input the law returns true; each argument reads behind the call as it read before'; 0 by the template 'total and deterministic' (their statements: YtmidcnfnmnhifaaGreatTotals.lean).
  GIVEN WITH THE SEED: the statements are not yours to turn. If you find one false, say at which input.
  Laid BY PROGRAM, IN A SANDBOX (cutbox-rows.mjs): the forced cells as the released guide's own fill.sh prints them over the translation 9711e71a0c817a7d… (all of the seat's roots in one cut). By AI agents, Wed Nov 11 2026. No macro, syntax, notation, axiom, sorry.
-/
import Derived.Test.YtmidcnfnmnhifaaGreatChecked
import GoSem.Claim
import GoSem.ClaimJoined
import GoSem.ClaimMapViews
import Derived.JoinedTies
import Derived.KernelRfl
namespace Go.Proofs.YtmidcnfnmnhifaaGreat
/- THE CELL 'sum', in the pinned program and in every row, IS THE sha256 OF THE DUMP (.gsa) THAT YtmidcnfnmnhifaaGreatProg.lean LOADS. Nothing in Lean hashes anything: it is a label: what it is worth is what the hold of that sum in a sandbox is worth. -/
noncomputable def Tryz.pinned : Pinned := { name := "ytmidcnfnmnhifaagreat", sum := "9711e71a0c817a7d7c8ad584c6fe730ba571515778ac190b9034a5a22962dec6", checked := Tryz.checked }
namespace Rows
def none {H : Type} : Left H := { results := [], args := [] }

/-- 'beadlelaw18.MonitorBounded': WHATEVER THE INPUT: true; the input reads as it did. -/
def monitorBoundedSpec : ChangeSpec := { name := "monitorBounded", fn := fun _ => fun
  | [d1, d2, d3] => { results := [.lit (.bool true)], args := [d1, d2, d3] }
  | _ => none }
def monitorBoundedRow : OpenClaim := { program := "ytmidcnfnmnhifaagreat", sum := "9711e71a0c817a7d7c8ad584c6fe730ba571515778ac190b9034a5a22962dec6", func := "beadle/beadlelaw18.MonitorBounded", spec := "monitorBounded", inPlace := ["internal/bytealg.IndexByteString"], unfollowed := true, recurses := true, loops := true, plainKeys := false, apart := false }
def MonitorBoundedSaid : Prop := monitorBoundedRow.holds Tryz.pinned (OpenSpec.ofChange monitorBoundedSpec)

/-- ITS FALSE NEIGHBOUR: 'it returns false'. Refute it at one input. -/
def monitorBoundedWrong : ChangeSpec := { name := "monitorBounded", fn := fun _ => fun
  | [d1, d2, d3] => { results := [.lit (.bool false)], args := [d1, d2, d3] }
  | _ => none }
def MonitorBoundedWrongFalsely : Prop := monitorBoundedRow.holds Tryz.pinned (OpenSpec.ofChange monitorBoundedWrong)

/-- 'beadlelaw18.MonitorTells': WHATEVER THE INPUT: true; the input reads as it did. -/
def monitorTellsSpec : ChangeSpec := { name := "monitorTells", fn := fun _ => fun
  | [d1, d2, d3] => { results := [.lit (.bool true)], args := [d1, d2, d3] }
  | _ => none }
def monitorTellsRow : OpenClaim := { program := "ytmidcnfnmnhifaagreat", sum := "9711e71a0c817a7d7c8ad584c6fe730ba571515778ac190b9034a5a22962dec6", func := "beadle/beadlelaw18.MonitorTells", spec := "monitorTells", inPlace := ["internal/bytealg.IndexByteString"], unfollowed := true, recurses := true, loops := true, plainKeys := false, apart := false }
def MonitorTellsSaid : Prop := monitorTellsRow.holds Tryz.pinned (OpenSpec.ofChange monitorTellsSpec)

/-- ITS FALSE NEIGHBOUR: 'it returns false'. Refute it at one input. -/
def monitorTellsWrong : ChangeSpec := { name := "monitorTells", fn := fun _ => fun
  | [d1, d2, d3] => { results := [.lit (.bool false)], args := [d1, d2, d3] }
  | _ => none }
def MonitorTellsWrongFalsely : Prop := monitorTellsRow.holds Tryz.pinned (OpenSpec.ofChange monitorTellsWrong)

/-- 'beadlelaw18.MonitorClones': WHATEVER THE INPUT: true; the input reads as it did. -/
def monitorClonesSpec : ChangeSpec := { name := "monitorClones", fn := fun _ => fun
  | [d1, d2, d3, d4, d5] => { results := [.lit (.bool true)], args := [d1, d2, d3, d4, d5] }
  | _ => none }
def monitorClonesRow : OpenClaim := { program := "ytmidcnfnmnhifaagreat", sum := "9711e71a0c817a7d7c8ad584c6fe730ba571515778ac190b9034a5a22962dec6", func := "beadle/beadlelaw18.MonitorClones", spec := "monitorClones", inPlace := ["internal/bytealg.IndexByteString"], unfollowed := true, recurses := true, loops := true, plainKeys := false, apart := false }
def MonitorClonesSaid : Prop := monitorClonesRow.holds Tryz.pinned (OpenSpec.ofChange monitorClonesSpec)

/-- ITS FALSE NEIGHBOUR: 'it returns false'. Refute it at one input. -/
def monitorClonesWrong : ChangeSpec := { name := "monitorClones", fn := fun _ => fun
  | [d1, d2, d3, d4, d5] => { results := [.lit (.bool false)], args := [d1, d2, d3, d4, d5] }
  | _ => none }
def MonitorClonesWrongFalsely : Prop := monitorClonesRow.holds Tryz.pinned (OpenSpec.ofChange monitorClonesWrong)

/-- 'beadlelaw18.MonitorNobody': WHATEVER THE INPUT: true; the input reads as it did. -/
def monitorNobodySpec : ChangeSpec := { name := "monitorNobody", fn := fun _ => fun
  | [d] => { results := [.lit (.bool true)], args := [d] }
  | _ => none }
def monitorNobodyRow : OpenClaim := { program := "ytmidcnfnmnhifaagreat", sum := "9711e71a0c817a7d7c8ad584c6fe730ba571515778ac190b9034a5a22962dec6", func := "beadle/beadlelaw18.MonitorNobody", spec := "monitorNobody", inPlace := ["internal/bytealg.IndexByteString"], unfollowed := true, recurses := true, plainKeys := false, apart := false }
def MonitorNobodySaid : Prop := monitorNobodyRow.holds Tryz.pinned (OpenSpec.ofChange monitorNobodySpec)

/-- ITS FALSE NEIGHBOUR: 'it returns false'. Refute it at one input. -/
def monitorNobodyWrong : ChangeSpec := { name := "monitorNobody", fn := fun _ => fun
  | [d] => { results := [.lit (.bool false)], args := [d] }
  | _ => none }
def MonitorNobodyWrongFalsely : Prop := monitorNobodyRow.holds Tryz.pinned (OpenSpec.ofChange monitorNobodyWrong)

/-- 'beadlelaw18.MonitorPlain': WHATEVER THE INPUT: true; the input reads as it did. -/
def monitorPlainSpec : ChangeSpec := { name := "monitorPlain", fn := fun _ => fun
  | [d1, d2, d3, d4] => { results := [.lit (.bool true)], args := [d1, d2, d3, d4] }
  | _ => none }
def monitorPlainRow : OpenClaim := { program := "ytmidcnfnmnhifaagreat", sum := "9711e71a0c817a7d7c8ad584c6fe730ba571515778ac190b9034a5a22962dec6", func := "beadle/beadlelaw18.MonitorPlain", spec := "monitorPlain", inPlace := ["internal/bytealg.IndexByteString"], unfollowed := true, recurses := true, loops := true, plainKeys := false, apart := false }
def MonitorPlainSaid : Prop := monitorPlainRow.holds Tryz.pinned (OpenSpec.ofChange monitorPlainSpec)

/-- ITS FALSE NEIGHBOUR: 'it returns false'. Refute it at one input. -/
def monitorPlainWrong : ChangeSpec := { name := "monitorPlain", fn := fun _ => fun
  | [d1, d2, d3, d4] => { results := [.lit (.bool false)], args := [d1, d2, d3, d4] }
  | _ => none }
def MonitorPlainWrongFalsely : Prop := monitorPlainRow.holds Tryz.pinned (OpenSpec.ofChange monitorPlainWrong)

/-- 'beadlelaw19.TruthTells': WHATEVER THE INPUT: true; the input reads as it did. -/
def truthTellsSpec : ChangeSpec := { name := "truthTells", fn := fun _ => fun
  | [d1, d2, d3, d4] => { results := [.lit (.bool true)], args := [d1, d2, d3, d4] }
  | _ => none }
def truthTellsRow : OpenClaim := { program := "ytmidcnfnmnhifaagreat", sum := "9711e71a0c817a7d7c8ad584c6fe730ba571515778ac190b9034a5a22962dec6", func := "beadle/beadlelaw19.TruthTells", spec := "truthTells", inPlace := ["internal/bytealg.IndexByteString", "maps.clone"], unfollowed := true, recurses := true, loops := true, plainKeys := false, apart := false }
def TruthTellsSaid : Prop := truthTellsRow.holds Tryz.pinned (OpenSpec.ofChange truthTellsSpec)

/-- ITS FALSE NEIGHBOUR: 'it returns false'. Refute it at one input. -/
def truthTellsWrong : ChangeSpec := { name := "truthTells", fn := fun _ => fun
  | [d1, d2, d3, d4] => { results := [.lit (.bool false)], args := [d1, d2, d3, d4] }
  | _ => none }
def TruthTellsWrongFalsely : Prop := truthTellsRow.holds Tryz.pinned (OpenSpec.ofChange truthTellsWrong)

/-- 'beadlelaw19.TruthLast': WHATEVER THE INPUT: true; the input reads as it did. -/
def truthLastSpec : ChangeSpec := { name := "truthLast", fn := fun _ => fun
  | [d1, d2, d3] => { results := [.lit (.bool true)], args := [d1, d2, d3] }
  | _ => none }
def truthLastRow : OpenClaim := { program := "ytmidcnfnmnhifaagreat", sum := "9711e71a0c817a7d7c8ad584c6fe730ba571515778ac190b9034a5a22962dec6", func := "beadle/beadlelaw19.TruthLast", spec := "truthLast", inPlace := ["internal/bytealg.IndexByteString", "maps.clone"], unfollowed := true, recurses := true, loops := true, plainKeys := false, apart := false }
def TruthLastSaid : Prop := truthLastRow.holds Tryz.pinned (OpenSpec.ofChange truthLastSpec)

/-- ITS FALSE NEIGHBOUR: 'it returns false'. Refute it at one input. -/
def truthLastWrong : ChangeSpec := { name := "truthLast", fn := fun _ => fun
  | [d1, d2, d3] => { results := [.lit (.bool false)], args := [d1, d2, d3] }
  | _ => none }
def TruthLastWrongFalsely : Prop := truthLastRow.holds Tryz.pinned (OpenSpec.ofChange truthLastWrong)

/-- 'beadlelaw19.TruthTimes': WHATEVER THE INPUT: true; the input reads as it did. -/
def truthTimesSpec : ChangeSpec := { name := "truthTimes", fn := fun _ => fun
  | [d] => { results := [.lit (.bool true)], args := [d] }
  | _ => none }
def truthTimesRow : OpenClaim := { program := "ytmidcnfnmnhifaagreat", sum := "9711e71a0c817a7d7c8ad584c6fe730ba571515778ac190b9034a5a22962dec6", func := "beadle/beadlelaw19.TruthTimes", spec := "truthTimes", inPlace := ["internal/bytealg.IndexByteString", "maps.clone"], unfollowed := true, recurses := true, plainKeys := false, apart := false }
def TruthTimesSaid : Prop := truthTimesRow.holds Tryz.pinned (OpenSpec.ofChange truthTimesSpec)

/-- ITS FALSE NEIGHBOUR: 'it returns false'. Refute it at one input. -/
def truthTimesWrong : ChangeSpec := { name := "truthTimes", fn := fun _ => fun
  | [d] => { results := [.lit (.bool false)], args := [d] }
  | _ => none }
def TruthTimesWrongFalsely : Prop := truthTimesRow.holds Tryz.pinned (OpenSpec.ofChange truthTimesWrong)

/-- 'beadlelaw18.MonitorSound': WHATEVER THE INPUT: true; the input reads as it did. -/
def monitorSoundSpec : ChangeSpec := { name := "monitorSound", fn := fun _ => fun
  | [d1, d2, d3] => { results := [.lit (.bool true)], args := [d1, d2, d3] }
  | _ => none }
def monitorSoundRow : OpenClaim := { program := "ytmidcnfnmnhifaagreat", sum := "9711e71a0c817a7d7c8ad584c6fe730ba571515778ac190b9034a5a22962dec6", func := "beadle/beadlelaw18.MonitorSound", spec := "monitorSound", inPlace := ["internal/bytealg.IndexByteString"], unfollowed := true, recurses := true, loops := true, plainKeys := false, apart := false }
def MonitorSoundSaid : Prop := monitorSoundRow.holds Tryz.pinned (OpenSpec.ofChange monitorSoundSpec)

/-- ITS FALSE NEIGHBOUR: 'it returns false'. Refute it at one input. -/
def monitorSoundWrong : ChangeSpec := { name := "monitorSound", fn := fun _ => fun
  | [d1, d2, d3] => { results := [.lit (.bool false)], args := [d1, d2, d3] }
  | _ => none }
def MonitorSoundWrongFalsely : Prop := monitorSoundRow.holds Tryz.pinned (OpenSpec.ofChange monitorSoundWrong)

/-- 'beadlelaw19.TruthMonitor': WHATEVER THE INPUT: true; the input reads as it did. -/
def truthMonitorSpec : ChangeSpec := { name := "truthMonitor", fn := fun _ => fun
  | [d1, d2, d3] => { results := [.lit (.bool true)], args := [d1, d2, d3] }
  | _ => none }
def truthMonitorRow : OpenClaim := { program := "ytmidcnfnmnhifaagreat", sum := "9711e71a0c817a7d7c8ad584c6fe730ba571515778ac190b9034a5a22962dec6", func := "beadle/beadlelaw19.TruthMonitor", spec := "truthMonitor", inPlace := ["internal/bytealg.IndexByteString", "maps.clone"], unfollowed := true, recurses := true, loops := true, plainKeys := false, apart := false }
def TruthMonitorSaid : Prop := truthMonitorRow.holds Tryz.pinned (OpenSpec.ofChange truthMonitorSpec)

/-- ITS FALSE NEIGHBOUR: 'it returns false'. Refute it at one input. -/
def truthMonitorWrong : ChangeSpec := { name := "truthMonitor", fn := fun _ => fun
  | [d1, d2, d3] => { results := [.lit (.bool false)], args := [d1, d2, d3] }
  | _ => none }
def TruthMonitorWrongFalsely : Prop := truthMonitorRow.holds Tryz.pinned (OpenSpec.ofChange truthMonitorWrong)

/-- 'beadlelaw20.UpdateChecks': WHATEVER THE INPUT: true; the input reads as it did. -/
def updateChecksSpec : ChangeSpec := { name := "updateChecks", fn := fun _ => fun
  | [d1, d2] => { results := [.lit (.bool true)], args := [d1, d2] }
  | _ => none }
def updateChecksRow : OpenClaim := { program := "ytmidcnfnmnhifaagreat", sum := "9711e71a0c817a7d7c8ad584c6fe730ba571515778ac190b9034a5a22962dec6", func := "beadle/beadlelaw20.UpdateChecks", spec := "updateChecks", inPlace := ["maps.clone", "internal/bytealg.IndexByteString"], unfollowed := true, recurses := true, loops := true, plainKeys := false, apart := false }
def UpdateChecksSaid : Prop := updateChecksRow.holds Tryz.pinned (OpenSpec.ofChange updateChecksSpec)

/-- ITS FALSE NEIGHBOUR: 'it returns false'. Refute it at one input. -/
def updateChecksWrong : ChangeSpec := { name := "updateChecks", fn := fun _ => fun
  | [d1, d2] => { results := [.lit (.bool false)], args := [d1, d2] }
  | _ => none }
def UpdateChecksWrongFalsely : Prop := updateChecksRow.holds Tryz.pinned (OpenSpec.ofChange updateChecksWrong)

/-- 'beadlelaw20.UpdateTouches': WHATEVER THE INPUT: true; the input reads as it did. -/
def updateTouchesSpec : ChangeSpec := { name := "updateTouches", fn := fun _ => fun
  | [d1, d2, d3, d4] => { results := [.lit (.bool true)], args := [d1, d2, d3, d4] }
  | _ => none }
def updateTouchesRow : OpenClaim := { program := "ytmidcnfnmnhifaagreat", sum := "9711e71a0c817a7d7c8ad584c6fe730ba571515778ac190b9034a5a22962dec6", func := "beadle/beadlelaw20.UpdateTouches", spec := "updateTouches", inPlace := ["maps.clone", "internal/bytealg.IndexByteString"], unfollowed := true, recurses := true, loops := true, plainKeys := false, apart := false }
def UpdateTouchesSaid : Prop := updateTouchesRow.holds Tryz.pinned (OpenSpec.ofChange updateTouchesSpec)

/-- ITS FALSE NEIGHBOUR: 'it returns false'. Refute it at one input. -/
def updateTouchesWrong : ChangeSpec := { name := "updateTouches", fn := fun _ => fun
  | [d1, d2, d3, d4] => { results := [.lit (.bool false)], args := [d1, d2, d3, d4] }
  | _ => none }
def UpdateTouchesWrongFalsely : Prop := updateTouchesRow.holds Tryz.pinned (OpenSpec.ofChange updateTouchesWrong)

/-- 'beadlelaw20.UpdateNobody': WHATEVER THE INPUT: true; the input reads as it did. -/
def updateNobodySpec : ChangeSpec := { name := "updateNobody", fn := fun _ => fun
  | [d1, d2] => { results := [.lit (.bool true)], args := [d1, d2] }
  | _ => none }
def updateNobodyRow : OpenClaim := { program := "ytmidcnfnmnhifaagreat", sum := "9711e71a0c817a7d7c8ad584c6fe730ba571515778ac190b9034a5a22962dec6", func := "beadle/beadlelaw20.UpdateNobody", spec := "updateNobody", inPlace := ["maps.clone", "internal/bytealg.IndexByteString"], unfollowed := true, recurses := true, loops := true, plainKeys := false, apart := false }
def UpdateNobodySaid : Prop := updateNobodyRow.holds Tryz.pinned (OpenSpec.ofChange updateNobodySpec)

/-- ITS FALSE NEIGHBOUR: 'it returns false'. Refute it at one input. -/
def updateNobodyWrong : ChangeSpec := { name := "updateNobody", fn := fun _ => fun
  | [d1, d2] => { results := [.lit (.bool false)], args := [d1, d2] }
  | _ => none }
def UpdateNobodyWrongFalsely : Prop := updateNobodyRow.holds Tryz.pinned (OpenSpec.ofChange updateNobodyWrong)

/-- 'beadlelaw20.UpdateSplits': WHATEVER THE INPUT: true; the input reads as it did. -/
def updateSplitsSpec : ChangeSpec := { name := "updateSplits", fn := fun _ => fun
  | [d1, d2, d3, d4, d5] => { results := [.lit (.bool true)], args := [d1, d2, d3, d4, d5] }
  | _ => none }
def updateSplitsRow : OpenClaim := { program := "ytmidcnfnmnhifaagreat", sum := "9711e71a0c817a7d7c8ad584c6fe730ba571515778ac190b9034a5a22962dec6", func := "beadle/beadlelaw20.UpdateSplits", spec := "updateSplits", inPlace := ["maps.clone", "internal/bytealg.IndexByteString"], unfollowed := true, recurses := true, loops := true, plainKeys := false, apart := false }
def UpdateSplitsSaid : Prop := updateSplitsRow.holds Tryz.pinned (OpenSpec.ofChange updateSplitsSpec)

/-- ITS FALSE NEIGHBOUR: 'it returns false'. Refute it at one input. -/
def updateSplitsWrong : ChangeSpec := { name := "updateSplits", fn := fun _ => fun
  | [d1, d2, d3, d4, d5] => { results := [.lit (.bool false)], args := [d1, d2, d3, d4, d5] }
  | _ => none }
def UpdateSplitsWrongFalsely : Prop := updateSplitsRow.holds Tryz.pinned (OpenSpec.ofChange updateSplitsWrong)

/-- 'beadlelaw30.NnfMeans': WHATEVER THE INPUT: true; the input reads as it did. -/
def nnfMeansSpec : ChangeSpec := { name := "nnfMeans", fn := fun _ => fun
  | [d1, d2, d3] => { results := [.lit (.bool true)], args := [d1, d2, d3] }
  | _ => none }
def nnfMeansRow : OpenClaim := { program := "ytmidcnfnmnhifaagreat", sum := "9711e71a0c817a7d7c8ad584c6fe730ba571515778ac190b9034a5a22962dec6", func := "beadle/beadlelaw30.NnfMeans", spec := "nnfMeans", inPlace := ["internal/bytealg.IndexByteString", "maps.clone"], unfollowed := true, recurses := true, loops := true, plainKeys := false, apart := false }
def NnfMeansSaid : Prop := nnfMeansRow.holds Tryz.pinned (OpenSpec.ofChange nnfMeansSpec)

/-- ITS FALSE NEIGHBOUR: 'it returns false'. Refute it at one input. -/
def nnfMeansWrong : ChangeSpec := { name := "nnfMeans", fn := fun _ => fun
  | [d1, d2, d3] => { results := [.lit (.bool false)], args := [d1, d2, d3] }
  | _ => none }
def NnfMeansWrongFalsely : Prop := nnfMeansRow.holds Tryz.pinned (OpenSpec.ofChange nnfMeansWrong)

/-- 'beadlelaw29.ExplainParts': WHATEVER THE INPUT: true; the input reads as it did. -/
def explainPartsSpec : ChangeSpec := { name := "explainParts", fn := fun _ => fun
  | [d] => { results := [.lit (.bool true)], args := [d] }
  | _ => none }
def explainPartsRow : OpenClaim := { program := "ytmidcnfnmnhifaagreat", sum := "9711e71a0c817a7d7c8ad584c6fe730ba571515778ac190b9034a5a22962dec6", func := "beadle/beadlelaw29.ExplainParts", spec := "explainParts", inPlace := ["internal/bytealg.IndexByteString", "internal/abi.NoEscape", "internal/bytealg.MakeNoZero"], unfollowed := true, recurses := true, loops := true, plainKeys := false, apart := false }
def ExplainPartsSaid : Prop := explainPartsRow.holds Tryz.pinned (OpenSpec.ofChange explainPartsSpec)

/-- ITS FALSE NEIGHBOUR: 'it returns false'. Refute it at one input. -/
def explainPartsWrong : ChangeSpec := { name := "explainParts", fn := fun _ => fun
  | [d] => { results := [.lit (.bool false)], args := [d] }
  | _ => none }
def ExplainPartsWrongFalsely : Prop := explainPartsRow.holds Tryz.pinned (OpenSpec.ofChange explainPartsWrong)

/-- 'beadlelaw29.ExplainWhy': WHATEVER THE INPUT: true; the input reads as it did. -/
def explainWhySpec : ChangeSpec := { name := "explainWhy", fn := fun _ => fun
  | [d1, d2, d3, d4] => { results := [.lit (.bool true)], args := [d1, d2, d3, d4] }
  | _ => none }
def explainWhyRow : OpenClaim := { program := "ytmidcnfnmnhifaagreat", sum := "9711e71a0c817a7d7c8ad584c6fe730ba571515778ac190b9034a5a22962dec6", func := "beadle/beadlelaw29.ExplainWhy", spec := "explainWhy", inPlace := ["internal/bytealg.IndexByteString", "internal/abi.NoEscape", "internal/bytealg.MakeNoZero"], unfollowed := true, recurses := true, loops := true, plainKeys := false, apart := false }
def ExplainWhySaid : Prop := explainWhyRow.holds Tryz.pinned (OpenSpec.ofChange explainWhySpec)

/-- ITS FALSE NEIGHBOUR: 'it returns false'. Refute it at one input. -/
def explainWhyWrong : ChangeSpec := { name := "explainWhy", fn := fun _ => fun
  | [d1, d2, d3, d4] => { results := [.lit (.bool false)], args := [d1, d2, d3, d4] }
  | _ => none }
def ExplainWhyWrongFalsely : Prop := explainWhyRow.holds Tryz.pinned (OpenSpec.ofChange explainWhyWrong)

/-- 'beadlelaw29.ExplainDecides': WHATEVER THE INPUT: true; the input reads as it did. -/
def explainDecidesSpec : ChangeSpec := { name := "explainDecides", fn := fun _ => fun
  | [d1, d2, d3, d4] => { results := [.lit (.bool true)], args := [d1, d2, d3, d4] }
  | _ => none }
def explainDecidesRow : OpenClaim := { program := "ytmidcnfnmnhifaagreat", sum := "9711e71a0c817a7d7c8ad584c6fe730ba571515778ac190b9034a5a22962dec6", func := "beadle/beadlelaw29.ExplainDecides", spec := "explainDecides", inPlace := ["internal/bytealg.IndexByteString", "internal/abi.NoEscape", "internal/bytealg.MakeNoZero"], unfollowed := true, recurses := true, loops := true, plainKeys := false, apart := false }
def ExplainDecidesSaid : Prop := explainDecidesRow.holds Tryz.pinned (OpenSpec.ofChange explainDecidesSpec)

/-- ITS FALSE NEIGHBOUR: 'it returns false'. Refute it at one input. -/
def explainDecidesWrong : ChangeSpec := { name := "explainDecides", fn := fun _ => fun
  | [d1, d2, d3, d4] => { results := [.lit (.bool false)], args := [d1, d2, d3, d4] }
  | _ => none }
def ExplainDecidesWrongFalsely : Prop := explainDecidesRow.holds Tryz.pinned (OpenSpec.ofChange explainDecidesWrong)

/- THE SECOND FORM. 'bulk': how many values and letters a reading holds, each counted each time it is reached (what is shared counts as often as it is met; a slice's spare places count too). A statement '..UptoSaid' is the law's where the arguments, and the package variables that the reading takes, are together of bulk at most 1048576: NARROWER than '..Said'. Prove '..Said' where nothing that the law and all that it calls make is longer than what came in: it says more and counts as full. Else prove '..UptoSaid'. A law counts once. -/
mutual
def uptoBulk {H : Type} : DataW H → Nat
  | .lit (.string bytes) => bytes.length + 1
  | .lit _ => 1
  | .nil => 1
  | .ptr d => uptoBulk d + 1
  | .slice elems spare => uptoBulkAll elems + uptoBulkAll spare + 1
  | .agg parts => uptoBulkAll parts + 1
  | .iface _ d => uptoBulk d + 1
  | .map entries => uptoBulkEntries entries + 1
  | .held _ => 1
def uptoBulkAll {H : Type} : List (DataW H) → Nat
  | [] => 0
  | d :: r => uptoBulk d + uptoBulkAll r
def uptoBulkEntries {H : Type} : List (Lit × DataW H) → Nat
  | [] => 0
  | x :: r => uptoBulkEntry x + uptoBulkEntries r
def uptoBulkEntry {H : Type} : Lit × DataW H → Nat
  | (.string bytes, d) => bytes.length + uptoBulk d + 1
  | (_, d) => uptoBulk d + 1
 end
def uptoSmall : (H : Type) → List (DataW H) → Bool := fun _ ds => decide (uptoBulkAll ds ≤ 1048576)
def OpenSpec.upto (s : _root_.Go.ChangeSpec) : _root_.Go.OpenSpec := { _root_.Go.OpenSpec.ofChange s with cond := some uptoSmall }

/-- 'beadlelaw18.MonitorBounded', WHERE WHAT IT READS IS OF BULK AT MOST 1048576: true; the input reads as it did. -/
def monitorBoundedUptoRow : OpenClaim := { program := "ytmidcnfnmnhifaagreat", sum := "9711e71a0c817a7d7c8ad584c6fe730ba571515778ac190b9034a5a22962dec6", func := "beadle/beadlelaw18.MonitorBounded", spec := "monitorBounded", inPlace := ["internal/bytealg.IndexByteString"], unfollowed := true, recurses := true, loops := true, plainKeys := false, apart := false, narrowed := true }
def MonitorBoundedUptoSaid : Prop := monitorBoundedUptoRow.holds Tryz.pinned (OpenSpec.upto monitorBoundedSpec)

/-- 'beadlelaw18.MonitorTells', WHERE WHAT IT READS IS OF BULK AT MOST 1048576: true; the input reads as it did. -/
def monitorTellsUptoRow : OpenClaim := { program := "ytmidcnfnmnhifaagreat", sum := "9711e71a0c817a7d7c8ad584c6fe730ba571515778ac190b9034a5a22962dec6", func := "beadle/beadlelaw18.MonitorTells", spec := "monitorTells", inPlace := ["internal/bytealg.IndexByteString"], unfollowed := true, recurses := true, loops := true, plainKeys := false, apart := false, narrowed := true }
def MonitorTellsUptoSaid : Prop := monitorTellsUptoRow.holds Tryz.pinned (OpenSpec.upto monitorTellsSpec)

/-- 'beadlelaw18.MonitorClones', WHERE WHAT IT READS IS OF BULK AT MOST 1048576: true; the input reads as it did. -/
def monitorClonesUptoRow : OpenClaim := { program := "ytmidcnfnmnhifaagreat", sum := "9711e71a0c817a7d7c8ad584c6fe730ba571515778ac190b9034a5a22962dec6", func := "beadle/beadlelaw18.MonitorClones", spec := "monitorClones", inPlace := ["internal/bytealg.IndexByteString"], unfollowed := true, recurses := true, loops := true, plainKeys := false, apart := false, narrowed := true }
def MonitorClonesUptoSaid : Prop := monitorClonesUptoRow.holds Tryz.pinned (OpenSpec.upto monitorClonesSpec)

/-- 'beadlelaw18.MonitorNobody', WHERE WHAT IT READS IS OF BULK AT MOST 1048576: true; the input reads as it did. -/
def monitorNobodyUptoRow : OpenClaim := { program := "ytmidcnfnmnhifaagreat", sum := "9711e71a0c817a7d7c8ad584c6fe730ba571515778ac190b9034a5a22962dec6", func := "beadle/beadlelaw18.MonitorNobody", spec := "monitorNobody", inPlace := ["internal/bytealg.IndexByteString"], unfollowed := true, recurses := true, plainKeys := false, apart := false, narrowed := true }
def MonitorNobodyUptoSaid : Prop := monitorNobodyUptoRow.holds Tryz.pinned (OpenSpec.upto monitorNobodySpec)

/-- 'beadlelaw18.MonitorPlain', WHERE WHAT IT READS IS OF BULK AT MOST 1048576: true; the input reads as it did. -/
def monitorPlainUptoRow : OpenClaim := { program := "ytmidcnfnmnhifaagreat", sum := "9711e71a0c817a7d7c8ad584c6fe730ba571515778ac190b9034a5a22962dec6", func := "beadle/beadlelaw18.MonitorPlain", spec := "monitorPlain", inPlace := ["internal/bytealg.IndexByteString"], unfollowed := true, recurses := true, loops := true, plainKeys := false, apart := false, narrowed := true }
def MonitorPlainUptoSaid : Prop := monitorPlainUptoRow.holds Tryz.pinned (OpenSpec.upto monitorPlainSpec)

/-- 'beadlelaw19.TruthTells', WHERE WHAT IT READS IS OF BULK AT MOST 1048576: true; the input reads as it did. -/
def truthTellsUptoRow : OpenClaim := { program := "ytmidcnfnmnhifaagreat", sum := "9711e71a0c817a7d7c8ad584c6fe730ba571515778ac190b9034a5a22962dec6", func := "beadle/beadlelaw19.TruthTells", spec := "truthTells", inPlace := ["internal/bytealg.IndexByteString", "maps.clone"], unfollowed := true, recurses := true, loops := true, plainKeys := false, apart := false, narrowed := true }
def TruthTellsUptoSaid : Prop := truthTellsUptoRow.holds Tryz.pinned (OpenSpec.upto truthTellsSpec)

/-- 'beadlelaw19.TruthLast', WHERE WHAT IT READS IS OF BULK AT MOST 1048576: true; the input reads as it did. -/
def truthLastUptoRow : OpenClaim := { program := "ytmidcnfnmnhifaagreat", sum := "9711e71a0c817a7d7c8ad584c6fe730ba571515778ac190b9034a5a22962dec6", func := "beadle/beadlelaw19.TruthLast", spec := "truthLast", inPlace := ["internal/bytealg.IndexByteString", "maps.clone"], unfollowed := true, recurses := true, loops := true, plainKeys := false, apart := false, narrowed := true }
def TruthLastUptoSaid : Prop := truthLastUptoRow.holds Tryz.pinned (OpenSpec.upto truthLastSpec)

/-- 'beadlelaw19.TruthTimes', WHERE WHAT IT READS IS OF BULK AT MOST 1048576: true; the input reads as it did. -/
def truthTimesUptoRow : OpenClaim := { program := "ytmidcnfnmnhifaagreat", sum := "9711e71a0c817a7d7c8ad584c6fe730ba571515778ac190b9034a5a22962dec6", func := "beadle/beadlelaw19.TruthTimes", spec := "truthTimes", inPlace := ["internal/bytealg.IndexByteString", "maps.clone"], unfollowed := true, recurses := true, plainKeys := false, apart := false, narrowed := true }
def TruthTimesUptoSaid : Prop := truthTimesUptoRow.holds Tryz.pinned (OpenSpec.upto truthTimesSpec)

/-- 'beadlelaw18.MonitorSound', WHERE WHAT IT READS IS OF BULK AT MOST 1048576: true; the input reads as it did. -/
def monitorSoundUptoRow : OpenClaim := { program := "ytmidcnfnmnhifaagreat", sum := "9711e71a0c817a7d7c8ad584c6fe730ba571515778ac190b9034a5a22962dec6", func := "beadle/beadlelaw18.MonitorSound", spec := "monitorSound", inPlace := ["internal/bytealg.IndexByteString"], unfollowed := true, recurses := true, loops := true, plainKeys := false, apart := false, narrowed := true }
def MonitorSoundUptoSaid : Prop := monitorSoundUptoRow.holds Tryz.pinned (OpenSpec.upto monitorSoundSpec)

/-- 'beadlelaw19.TruthMonitor', WHERE WHAT IT READS IS OF BULK AT MOST 1048576: true; the input reads as it did. -/
def truthMonitorUptoRow : OpenClaim := { program := "ytmidcnfnmnhifaagreat", sum := "9711e71a0c817a7d7c8ad584c6fe730ba571515778ac190b9034a5a22962dec6", func := "beadle/beadlelaw19.TruthMonitor", spec := "truthMonitor", inPlace := ["internal/bytealg.IndexByteString", "maps.clone"], unfollowed := true, recurses := true, loops := true, plainKeys := false, apart := false, narrowed := true }
def TruthMonitorUptoSaid : Prop := truthMonitorUptoRow.holds Tryz.pinned (OpenSpec.upto truthMonitorSpec)

/-- 'beadlelaw20.UpdateChecks', WHERE WHAT IT READS IS OF BULK AT MOST 1048576: true; the input reads as it did. -/
def updateChecksUptoRow : OpenClaim := { program := "ytmidcnfnmnhifaagreat", sum := "9711e71a0c817a7d7c8ad584c6fe730ba571515778ac190b9034a5a22962dec6", func := "beadle/beadlelaw20.UpdateChecks", spec := "updateChecks", inPlace := ["maps.clone", "internal/bytealg.IndexByteString"], unfollowed := true, recurses := true, loops := true, plainKeys := false, apart := false, narrowed := true }
def UpdateChecksUptoSaid : Prop := updateChecksUptoRow.holds Tryz.pinned (OpenSpec.upto updateChecksSpec)

/-- 'beadlelaw20.UpdateTouches', WHERE WHAT IT READS IS OF BULK AT MOST 1048576: true; the input reads as it did. -/
def updateTouchesUptoRow : OpenClaim := { program := "ytmidcnfnmnhifaagreat", sum := "9711e71a0c817a7d7c8ad584c6fe730ba571515778ac190b9034a5a22962dec6", func := "beadle/beadlelaw20.UpdateTouches", spec := "updateTouches", inPlace := ["maps.clone", "internal/bytealg.IndexByteString"], unfollowed := true, recurses := true, loops := true, plainKeys := false, apart := false, narrowed := true }
def UpdateTouchesUptoSaid : Prop := updateTouchesUptoRow.holds Tryz.pinned (OpenSpec.upto updateTouchesSpec)

/-- 'beadlelaw20.UpdateNobody', WHERE WHAT IT READS IS OF BULK AT MOST 1048576: true; the input reads as it did. -/
def updateNobodyUptoRow : OpenClaim := { program := "ytmidcnfnmnhifaagreat", sum := "9711e71a0c817a7d7c8ad584c6fe730ba571515778ac190b9034a5a22962dec6", func := "beadle/beadlelaw20.UpdateNobody", spec := "updateNobody", inPlace := ["maps.clone", "internal/bytealg.IndexByteString"], unfollowed := true, recurses := true, loops := true, plainKeys := false, apart := false, narrowed := true }
def UpdateNobodyUptoSaid : Prop := updateNobodyUptoRow.holds Tryz.pinned (OpenSpec.upto updateNobodySpec)

/-- 'beadlelaw20.UpdateSplits', WHERE WHAT IT READS IS OF BULK AT MOST 1048576: true; the input reads as it did. -/
def updateSplitsUptoRow : OpenClaim := { program := "ytmidcnfnmnhifaagreat", sum := "9711e71a0c817a7d7c8ad584c6fe730ba571515778ac190b9034a5a22962dec6", func := "beadle/beadlelaw20.UpdateSplits", spec := "updateSplits", inPlace := ["maps.clone", "internal/bytealg.IndexByteString"], unfollowed := true, recurses := true, loops := true, plainKeys := false, apart := false, narrowed := true }
def UpdateSplitsUptoSaid : Prop := updateSplitsUptoRow.holds Tryz.pinned (OpenSpec.upto updateSplitsSpec)

/-- 'beadlelaw30.NnfMeans', WHERE WHAT IT READS IS OF BULK AT MOST 1048576: true; the input reads as it did. -/
def nnfMeansUptoRow : OpenClaim := { program := "ytmidcnfnmnhifaagreat", sum := "9711e71a0c817a7d7c8ad584c6fe730ba571515778ac190b9034a5a22962dec6", func := "beadle/beadlelaw30.NnfMeans", spec := "nnfMeans", inPlace := ["internal/bytealg.IndexByteString", "maps.clone"], unfollowed := true, recurses := true, loops := true, plainKeys := false, apart := false, narrowed := true }
def NnfMeansUptoSaid : Prop := nnfMeansUptoRow.holds Tryz.pinned (OpenSpec.upto nnfMeansSpec)

/-- 'beadlelaw29.ExplainParts', WHERE WHAT IT READS IS OF BULK AT MOST 1048576: true; the input reads as it did. -/
def explainPartsUptoRow : OpenClaim := { program := "ytmidcnfnmnhifaagreat", sum := "9711e71a0c817a7d7c8ad584c6fe730ba571515778ac190b9034a5a22962dec6", func := "beadle/beadlelaw29.ExplainParts", spec := "explainParts", inPlace := ["internal/bytealg.IndexByteString", "internal/abi.NoEscape", "internal/bytealg.MakeNoZero"], unfollowed := true, recurses := true, loops := true, plainKeys := false, apart := false, narrowed := true }
def ExplainPartsUptoSaid : Prop := explainPartsUptoRow.holds Tryz.pinned (OpenSpec.upto explainPartsSpec)

/-- 'beadlelaw29.ExplainWhy', WHERE WHAT IT READS IS OF BULK AT MOST 1048576: true; the input reads as it did. -/
def explainWhyUptoRow : OpenClaim := { program := "ytmidcnfnmnhifaagreat", sum := "9711e71a0c817a7d7c8ad584c6fe730ba571515778ac190b9034a5a22962dec6", func := "beadle/beadlelaw29.ExplainWhy", spec := "explainWhy", inPlace := ["internal/bytealg.IndexByteString", "internal/abi.NoEscape", "internal/bytealg.MakeNoZero"], unfollowed := true, recurses := true, loops := true, plainKeys := false, apart := false, narrowed := true }
def ExplainWhyUptoSaid : Prop := explainWhyUptoRow.holds Tryz.pinned (OpenSpec.upto explainWhySpec)

/-- 'beadlelaw29.ExplainDecides', WHERE WHAT IT READS IS OF BULK AT MOST 1048576: true; the input reads as it did. -/
def explainDecidesUptoRow : OpenClaim := { program := "ytmidcnfnmnhifaagreat", sum := "9711e71a0c817a7d7c8ad584c6fe730ba571515778ac190b9034a5a22962dec6", func := "beadle/beadlelaw29.ExplainDecides", spec := "explainDecides", inPlace := ["internal/bytealg.IndexByteString", "internal/abi.NoEscape", "internal/bytealg.MakeNoZero"], unfollowed := true, recurses := true, loops := true, plainKeys := false, apart := false, narrowed := true }
def ExplainDecidesUptoSaid : Prop := explainDecidesUptoRow.holds Tryz.pinned (OpenSpec.upto explainDecidesSpec)

end Rows
end Go.Proofs.YtmidcnfnmnhifaaGreat
