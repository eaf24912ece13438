/-
  NARROWER THAN 'FOR EVERY INPUT', by the rows' own cells (each row's printed sentence says how): InviteBuckets: laid · CodecTalks: laid · CodecFrames: laid · CodecDials: laid · CodecSizes: laid · CodecPages: laid · CodecNames: laid · CodecFramed: laid · CodecBack: laid · CodecOnce: laid.
  DERIVED. THE GIVEN ROWS OF THIS SEAT. 10 by the template 'for every input the law returns true; each argument reads behind the call as it read before'; 0 by the template 'total and deterministic' (their statements: YtpboahlpgfglkaaDoorTotals.lean).
  GIVEN WITH THE SEED: the statements are not yours to turn. If you find one false, say at which input.
  Laid BY PROGRAM, IN A SANDBOX (cutbox-rows.mjs): the forced cells as the released guide's own fill.sh prints them over the translation a8d842d71f23f34a… (all of the seat's roots in one cut). By AI agents, Wed Nov 11 2026. No macro, syntax, notation, axiom, sorry.
-/
import Derived.Test.YtpboahlpgfglkaaDoorChecked
import GoSem.Claim
import GoSem.ClaimJoined
import GoSem.ClaimMapViews
import Derived.JoinedTies
import Derived.KernelRfl
namespace Go.Proofs.YtpboahlpgfglkaaDoor
/- THE CELL 'sum', in the pinned program and in every row, IS THE sha256 OF THE DUMP (.gsa) THAT YtpboahlpgfglkaaDoorProg.lean LOADS. Nothing in Lean hashes anything: it is a label: what it is worth is what the hold of that sum in a sandbox is worth. -/
noncomputable def Tryd.pinned : Pinned := { name := "ytpboahlpgfglkaadoor", sum := "a8d842d71f23f34a35bc5567a81a2af829abddc6c316318904ab9e269e7e7e39", checked := Tryd.checked }
namespace Rows
def none {H : Type} : Left H := { results := [], args := [] }

/- WHAT THE LISTED PACKAGE-LEVEL VARIABLES READ AS WHEN THE CALL BEGINS. Each datum BY PROGRAM (the guide's laid-datum.mjs) off the statement by which the dump's own 'gosem.cut.vars' lays the variable. In a bare row this is a premise. The card (YtpboahlpgfglkaaDoorCards.lean) ties it to the program's text. -/
def laid_tryst_digest_first {H : Type} : DataW H := .agg [.lit (.int .u32 1779033703), .lit (.int .u32 3144134277), .lit (.int .u32 1013904242), .lit (.int .u32 2773480762), .lit (.int .u32 1359893119), .lit (.int .u32 2600822924), .lit (.int .u32 528734635), .lit (.int .u32 1541459225)]
def laid_tryst_digest_table {H : Type} : DataW H := .agg [.lit (.int .u32 1116352408), .lit (.int .u32 1899447441), .lit (.int .u32 3049323471), .lit (.int .u32 3921009573), .lit (.int .u32 961987163), .lit (.int .u32 1508970993), .lit (.int .u32 2453635748), .lit (.int .u32 2870763221), .lit (.int .u32 3624381080), .lit (.int .u32 310598401), .lit (.int .u32 607225278), .lit (.int .u32 1426881987), .lit (.int .u32 1925078388), .lit (.int .u32 2162078206), .lit (.int .u32 2614888103), .lit (.int .u32 3248222580), .lit (.int .u32 3835390401), .lit (.int .u32 4022224774), .lit (.int .u32 264347078), .lit (.int .u32 604807628), .lit (.int .u32 770255983), .lit (.int .u32 1249150122), .lit (.int .u32 1555081692), .lit (.int .u32 1996064986), .lit (.int .u32 2554220882), .lit (.int .u32 2821834349), .lit (.int .u32 2952996808), .lit (.int .u32 3210313671), .lit (.int .u32 3336571891), .lit (.int .u32 3584528711), .lit (.int .u32 113926993), .lit (.int .u32 338241895), .lit (.int .u32 666307205), .lit (.int .u32 773529912), .lit (.int .u32 1294757372), .lit (.int .u32 1396182291), .lit (.int .u32 1695183700), .lit (.int .u32 1986661051), .lit (.int .u32 2177026350), .lit (.int .u32 2456956037), .lit (.int .u32 2730485921), .lit (.int .u32 2820302411), .lit (.int .u32 3259730800), .lit (.int .u32 3345764771), .lit (.int .u32 3516065817), .lit (.int .u32 3600352804), .lit (.int .u32 4094571909), .lit (.int .u32 275423344), .lit (.int .u32 430227734), .lit (.int .u32 506948616), .lit (.int .u32 659060556), .lit (.int .u32 883997877), .lit (.int .u32 958139571), .lit (.int .u32 1322822218), .lit (.int .u32 1537002063), .lit (.int .u32 1747873779), .lit (.int .u32 1955562222), .lit (.int .u32 2024104815), .lit (.int .u32 2227730452), .lit (.int .u32 2361852424), .lit (.int .u32 2428436474), .lit (.int .u32 2756734187), .lit (.int .u32 3204031479), .lit (.int .u32 3329325298)]
def laid_errors_errorType {H : Type} : DataW H := .iface "internal/reflectlite.rtype" (.agg [.ptr (.lit (.string [101, 114, 114, 111, 114]))])

/-- 'trystlaw22.InviteBuckets': WHATEVER THE INPUT: true; the input reads as it did. -/
def inviteBucketsSpec : ChangeSpec := { name := "inviteBuckets", fn := fun _ => fun
  | [d1, d2] => { results := [.lit (.bool true)], args := [d1, d2] }
  | _ => none }
def inviteBucketsRow : OpenClaim := { program := "ytpboahlpgfglkaadoor", sum := "a8d842d71f23f34a35bc5567a81a2af829abddc6c316318904ab9e269e7e7e39", func := "tryst/trystlaw22.InviteBuckets", spec := "inviteBuckets", named := ["tryst/digest.first", "tryst/digest.table"], apart := false, laid := [("tryst/digest.first", laid_tryst_digest_first), ("tryst/digest.table", laid_tryst_digest_table)] }
def InviteBucketsSaid : Prop := inviteBucketsRow.holds Tryd.pinned (OpenSpec.ofChange inviteBucketsSpec)

/-- ITS FALSE NEIGHBOUR: 'it returns false'. Refute it at one input. -/
def inviteBucketsWrong : ChangeSpec := { name := "inviteBuckets", fn := fun _ => fun
  | [d1, d2] => { results := [.lit (.bool false)], args := [d1, d2] }
  | _ => none }
def InviteBucketsWrongFalsely : Prop := inviteBucketsRow.holds Tryd.pinned (OpenSpec.ofChange inviteBucketsWrong)

/-- 'trystlaw20.CodecTalks': WHATEVER THE INPUT: true; the input reads as it did. -/
def codecTalksSpec : ChangeSpec := { name := "codecTalks", fn := fun _ => fun
  | [d] => { results := [.lit (.bool true)], args := [d] }
  | _ => none }
def codecTalksRow : OpenClaim := { program := "ytpboahlpgfglkaadoor", sum := "a8d842d71f23f34a35bc5567a81a2af829abddc6c316318904ab9e269e7e7e39", func := "tryst/trystlaw20.CodecTalks", spec := "codecTalks", inPlace := ["internal/reflectlite.ValueOf", "(internal/reflectlite.Value).Type", "(internal/reflectlite.Value).IsNil", "internal/reflectlite.TypeOf", "(internal/reflectlite.Value).Elem", "(internal/reflectlite.Value).Set"], unfollowed := true, recurses := true, named := ["errors.errorType"], apart := false, laid := [("errors.errorType", laid_errors_errorType)] }
def CodecTalksSaid : Prop := codecTalksRow.holds Tryd.pinned (OpenSpec.ofChange codecTalksSpec)

/-- ITS FALSE NEIGHBOUR: 'it returns false'. Refute it at one input. -/
def codecTalksWrong : ChangeSpec := { name := "codecTalks", fn := fun _ => fun
  | [d] => { results := [.lit (.bool false)], args := [d] }
  | _ => none }
def CodecTalksWrongFalsely : Prop := codecTalksRow.holds Tryd.pinned (OpenSpec.ofChange codecTalksWrong)

/-- 'trystlaw20.CodecFrames': WHATEVER THE INPUT: true; the input reads as it did. -/
def codecFramesSpec : ChangeSpec := { name := "codecFrames", fn := fun _ => fun
  | [d1, d2, d3] => { results := [.lit (.bool true)], args := [d1, d2, d3] }
  | _ => none }
def codecFramesRow : OpenClaim := { program := "ytpboahlpgfglkaadoor", sum := "a8d842d71f23f34a35bc5567a81a2af829abddc6c316318904ab9e269e7e7e39", func := "tryst/trystlaw20.CodecFrames", spec := "codecFrames", inPlace := ["internal/reflectlite.ValueOf", "(internal/reflectlite.Value).Type", "(internal/reflectlite.Value).IsNil", "internal/reflectlite.TypeOf", "(internal/reflectlite.Value).Elem", "(internal/reflectlite.Value).Set"], unfollowed := true, recurses := true, named := ["errors.errorType"], apart := false, laid := [("errors.errorType", laid_errors_errorType)] }
def CodecFramesSaid : Prop := codecFramesRow.holds Tryd.pinned (OpenSpec.ofChange codecFramesSpec)

/-- ITS FALSE NEIGHBOUR: 'it returns false'. Refute it at one input. -/
def codecFramesWrong : ChangeSpec := { name := "codecFrames", fn := fun _ => fun
  | [d1, d2, d3] => { results := [.lit (.bool false)], args := [d1, d2, d3] }
  | _ => none }
def CodecFramesWrongFalsely : Prop := codecFramesRow.holds Tryd.pinned (OpenSpec.ofChange codecFramesWrong)

/-- 'trystlaw20.CodecDials': WHATEVER THE INPUT: true; the input reads as it did. -/
def codecDialsSpec : ChangeSpec := { name := "codecDials", fn := fun _ => fun
  | [d] => { results := [.lit (.bool true)], args := [d] }
  | _ => none }
def codecDialsRow : OpenClaim := { program := "ytpboahlpgfglkaadoor", sum := "a8d842d71f23f34a35bc5567a81a2af829abddc6c316318904ab9e269e7e7e39", func := "tryst/trystlaw20.CodecDials", spec := "codecDials", inPlace := ["internal/reflectlite.ValueOf", "(internal/reflectlite.Value).Type", "(internal/reflectlite.Value).IsNil", "internal/reflectlite.TypeOf", "(internal/reflectlite.Value).Elem", "(internal/reflectlite.Value).Set"], unfollowed := true, recurses := true, named := ["errors.errorType"], apart := false, laid := [("errors.errorType", laid_errors_errorType)] }
def CodecDialsSaid : Prop := codecDialsRow.holds Tryd.pinned (OpenSpec.ofChange codecDialsSpec)

/-- ITS FALSE NEIGHBOUR: 'it returns false'. Refute it at one input. -/
def codecDialsWrong : ChangeSpec := { name := "codecDials", fn := fun _ => fun
  | [d] => { results := [.lit (.bool false)], args := [d] }
  | _ => none }
def CodecDialsWrongFalsely : Prop := codecDialsRow.holds Tryd.pinned (OpenSpec.ofChange codecDialsWrong)

/-- 'trystlaw20.CodecSizes': WHATEVER THE INPUT: true; the input reads as it did. -/
def codecSizesSpec : ChangeSpec := { name := "codecSizes", fn := fun _ => fun
  | [d1, d2, d3] => { results := [.lit (.bool true)], args := [d1, d2, d3] }
  | _ => none }
def codecSizesRow : OpenClaim := { program := "ytpboahlpgfglkaadoor", sum := "a8d842d71f23f34a35bc5567a81a2af829abddc6c316318904ab9e269e7e7e39", func := "tryst/trystlaw20.CodecSizes", spec := "codecSizes", inPlace := ["internal/reflectlite.ValueOf", "(internal/reflectlite.Value).Type", "(internal/reflectlite.Value).IsNil", "internal/reflectlite.TypeOf", "(internal/reflectlite.Value).Elem", "(internal/reflectlite.Value).Set"], unfollowed := true, recurses := true, named := ["errors.errorType"], apart := false, laid := [("errors.errorType", laid_errors_errorType)] }
def CodecSizesSaid : Prop := codecSizesRow.holds Tryd.pinned (OpenSpec.ofChange codecSizesSpec)

/-- ITS FALSE NEIGHBOUR: 'it returns false'. Refute it at one input. -/
def codecSizesWrong : ChangeSpec := { name := "codecSizes", fn := fun _ => fun
  | [d1, d2, d3] => { results := [.lit (.bool false)], args := [d1, d2, d3] }
  | _ => none }
def CodecSizesWrongFalsely : Prop := codecSizesRow.holds Tryd.pinned (OpenSpec.ofChange codecSizesWrong)

/-- 'trystlaw20.CodecPages': WHATEVER THE INPUT: true; the input reads as it did. -/
def codecPagesSpec : ChangeSpec := { name := "codecPages", fn := fun _ => fun
  | [d1, d2, d3] => { results := [.lit (.bool true)], args := [d1, d2, d3] }
  | _ => none }
def codecPagesRow : OpenClaim := { program := "ytpboahlpgfglkaadoor", sum := "a8d842d71f23f34a35bc5567a81a2af829abddc6c316318904ab9e269e7e7e39", func := "tryst/trystlaw20.CodecPages", spec := "codecPages", inPlace := ["internal/reflectlite.ValueOf", "(internal/reflectlite.Value).Type", "(internal/reflectlite.Value).IsNil", "internal/reflectlite.TypeOf", "(internal/reflectlite.Value).Elem", "(internal/reflectlite.Value).Set"], unfollowed := true, recurses := true, named := ["errors.errorType"], apart := false, laid := [("errors.errorType", laid_errors_errorType)] }
def CodecPagesSaid : Prop := codecPagesRow.holds Tryd.pinned (OpenSpec.ofChange codecPagesSpec)

/-- ITS FALSE NEIGHBOUR: 'it returns false'. Refute it at one input. -/
def codecPagesWrong : ChangeSpec := { name := "codecPages", fn := fun _ => fun
  | [d1, d2, d3] => { results := [.lit (.bool false)], args := [d1, d2, d3] }
  | _ => none }
def CodecPagesWrongFalsely : Prop := codecPagesRow.holds Tryd.pinned (OpenSpec.ofChange codecPagesWrong)

/-- 'trystlaw20.CodecNames': WHATEVER THE INPUT: true; the input reads as it did. -/
def codecNamesSpec : ChangeSpec := { name := "codecNames", fn := fun _ => fun
  | [] => { results := [.lit (.bool true)], args := [] }
  | _ => none }
def codecNamesRow : OpenClaim := { program := "ytpboahlpgfglkaadoor", sum := "a8d842d71f23f34a35bc5567a81a2af829abddc6c316318904ab9e269e7e7e39", func := "tryst/trystlaw20.CodecNames", spec := "codecNames", inPlace := ["internal/reflectlite.ValueOf", "(internal/reflectlite.Value).Type", "(internal/reflectlite.Value).IsNil", "internal/reflectlite.TypeOf", "(internal/reflectlite.Value).Elem", "(internal/reflectlite.Value).Set"], unfollowed := true, recurses := true, named := ["errors.errorType"], apart := false, laid := [("errors.errorType", laid_errors_errorType)] }
def CodecNamesSaid : Prop := codecNamesRow.holds Tryd.pinned (OpenSpec.ofChange codecNamesSpec)

/-- ITS FALSE NEIGHBOUR: 'it returns false'. Refute it at one input. -/
def codecNamesWrong : ChangeSpec := { name := "codecNames", fn := fun _ => fun
  | [] => { results := [.lit (.bool false)], args := [] }
  | _ => none }
def CodecNamesWrongFalsely : Prop := codecNamesRow.holds Tryd.pinned (OpenSpec.ofChange codecNamesWrong)

/-- 'trystlaw20.CodecFramed': WHATEVER THE INPUT: true; the input reads as it did. -/
def codecFramedSpec : ChangeSpec := { name := "codecFramed", fn := fun _ => fun
  | [d1, d2] => { results := [.lit (.bool true)], args := [d1, d2] }
  | _ => none }
def codecFramedRow : OpenClaim := { program := "ytpboahlpgfglkaadoor", sum := "a8d842d71f23f34a35bc5567a81a2af829abddc6c316318904ab9e269e7e7e39", func := "tryst/trystlaw20.CodecFramed", spec := "codecFramed", inPlace := ["internal/reflectlite.ValueOf", "(internal/reflectlite.Value).Type", "(internal/reflectlite.Value).IsNil", "internal/reflectlite.TypeOf", "(internal/reflectlite.Value).Elem", "(internal/reflectlite.Value).Set"], unfollowed := true, recurses := true, named := ["errors.errorType"], apart := false, laid := [("errors.errorType", laid_errors_errorType)] }
def CodecFramedSaid : Prop := codecFramedRow.holds Tryd.pinned (OpenSpec.ofChange codecFramedSpec)

/-- ITS FALSE NEIGHBOUR: 'it returns false'. Refute it at one input. -/
def codecFramedWrong : ChangeSpec := { name := "codecFramed", fn := fun _ => fun
  | [d1, d2] => { results := [.lit (.bool false)], args := [d1, d2] }
  | _ => none }
def CodecFramedWrongFalsely : Prop := codecFramedRow.holds Tryd.pinned (OpenSpec.ofChange codecFramedWrong)

/-- 'trystlaw20.CodecBack': WHATEVER THE INPUT: true; the input reads as it did. -/
def codecBackSpec : ChangeSpec := { name := "codecBack", fn := fun _ => fun
  | [d1, d2] => { results := [.lit (.bool true)], args := [d1, d2] }
  | _ => none }
def codecBackRow : OpenClaim := { program := "ytpboahlpgfglkaadoor", sum := "a8d842d71f23f34a35bc5567a81a2af829abddc6c316318904ab9e269e7e7e39", func := "tryst/trystlaw20.CodecBack", spec := "codecBack", inPlace := ["internal/reflectlite.ValueOf", "(internal/reflectlite.Value).Type", "(internal/reflectlite.Value).IsNil", "internal/reflectlite.TypeOf", "(internal/reflectlite.Value).Elem", "(internal/reflectlite.Value).Set"], unfollowed := true, recurses := true, named := ["errors.errorType"], apart := false, laid := [("errors.errorType", laid_errors_errorType)] }
def CodecBackSaid : Prop := codecBackRow.holds Tryd.pinned (OpenSpec.ofChange codecBackSpec)

/-- ITS FALSE NEIGHBOUR: 'it returns false'. Refute it at one input. -/
def codecBackWrong : ChangeSpec := { name := "codecBack", fn := fun _ => fun
  | [d1, d2] => { results := [.lit (.bool false)], args := [d1, d2] }
  | _ => none }
def CodecBackWrongFalsely : Prop := codecBackRow.holds Tryd.pinned (OpenSpec.ofChange codecBackWrong)

/-- 'trystlaw20.CodecOnce': WHATEVER THE INPUT: true; the input reads as it did. -/
def codecOnceSpec : ChangeSpec := { name := "codecOnce", fn := fun _ => fun
  | [d] => { results := [.lit (.bool true)], args := [d] }
  | _ => none }
def codecOnceRow : OpenClaim := { program := "ytpboahlpgfglkaadoor", sum := "a8d842d71f23f34a35bc5567a81a2af829abddc6c316318904ab9e269e7e7e39", func := "tryst/trystlaw20.CodecOnce", spec := "codecOnce", inPlace := ["internal/reflectlite.ValueOf", "(internal/reflectlite.Value).Type", "(internal/reflectlite.Value).IsNil", "internal/reflectlite.TypeOf", "(internal/reflectlite.Value).Elem", "(internal/reflectlite.Value).Set"], unfollowed := true, recurses := true, named := ["errors.errorType"], apart := false, laid := [("errors.errorType", laid_errors_errorType)] }
def CodecOnceSaid : Prop := codecOnceRow.holds Tryd.pinned (OpenSpec.ofChange codecOnceSpec)

/-- ITS FALSE NEIGHBOUR: 'it returns false'. Refute it at one input. -/
def codecOnceWrong : ChangeSpec := { name := "codecOnce", fn := fun _ => fun
  | [d] => { results := [.lit (.bool false)], args := [d] }
  | _ => none }
def CodecOnceWrongFalsely : Prop := codecOnceRow.holds Tryd.pinned (OpenSpec.ofChange codecOnceWrong)

/- THE SECOND FORM. 'bulk': how many values and letters a reading holds, each counted each time it is reached (what is shared counts as often as it is met; a slice's spare places count too). A statement '..UptoSaid' is the law's where the arguments, and the package variables that the reading takes, are together of bulk at most 1048576: NARROWER than '..Said'. Prove '..Said' where nothing that the law and all that it calls make is longer than what came in: it says more and counts as full. Else prove '..UptoSaid'. A law counts once. -/
mutual
def uptoBulk {H : Type} : DataW H → Nat
  | .lit (.string bytes) => bytes.length + 1
  | .lit _ => 1
  | .nil => 1
  | .ptr d => uptoBulk d + 1
  | .slice elems spare => uptoBulkAll elems + uptoBulkAll spare + 1
  | .agg parts => uptoBulkAll parts + 1
  | .iface _ d => uptoBulk d + 1
  | .map entries => uptoBulkEntries entries + 1
  | .held _ => 1
def uptoBulkAll {H : Type} : List (DataW H) → Nat
  | [] => 0
  | d :: r => uptoBulk d + uptoBulkAll r
def uptoBulkEntries {H : Type} : List (Lit × DataW H) → Nat
  | [] => 0
  | x :: r => uptoBulkEntry x + uptoBulkEntries r
def uptoBulkEntry {H : Type} : Lit × DataW H → Nat
  | (.string bytes, d) => bytes.length + uptoBulk d + 1
  | (_, d) => uptoBulk d + 1
 end
def uptoSmall : (H : Type) → List (DataW H) → Bool := fun _ ds => decide (uptoBulkAll ds ≤ 1048576)
def OpenSpec.upto (s : _root_.Go.ChangeSpec) : _root_.Go.OpenSpec := { _root_.Go.OpenSpec.ofChange s with cond := some uptoSmall }

/-- 'trystlaw22.InviteBuckets', WHERE WHAT IT READS IS OF BULK AT MOST 1048576: true; the input reads as it did. -/
def inviteBucketsUptoRow : OpenClaim := { program := "ytpboahlpgfglkaadoor", sum := "a8d842d71f23f34a35bc5567a81a2af829abddc6c316318904ab9e269e7e7e39", func := "tryst/trystlaw22.InviteBuckets", spec := "inviteBuckets", named := ["tryst/digest.first", "tryst/digest.table"], apart := false, laid := [("tryst/digest.first", laid_tryst_digest_first), ("tryst/digest.table", laid_tryst_digest_table)], narrowed := true }
def InviteBucketsUptoSaid : Prop := inviteBucketsUptoRow.holds Tryd.pinned (OpenSpec.upto inviteBucketsSpec)

/-- 'trystlaw20.CodecTalks', WHERE WHAT IT READS IS OF BULK AT MOST 1048576: true; the input reads as it did. -/
def codecTalksUptoRow : OpenClaim := { program := "ytpboahlpgfglkaadoor", sum := "a8d842d71f23f34a35bc5567a81a2af829abddc6c316318904ab9e269e7e7e39", func := "tryst/trystlaw20.CodecTalks", spec := "codecTalks", inPlace := ["internal/reflectlite.ValueOf", "(internal/reflectlite.Value).Type", "(internal/reflectlite.Value).IsNil", "internal/reflectlite.TypeOf", "(internal/reflectlite.Value).Elem", "(internal/reflectlite.Value).Set"], unfollowed := true, recurses := true, named := ["errors.errorType"], apart := false, laid := [("errors.errorType", laid_errors_errorType)], narrowed := true }
def CodecTalksUptoSaid : Prop := codecTalksUptoRow.holds Tryd.pinned (OpenSpec.upto codecTalksSpec)

/-- 'trystlaw20.CodecFrames', WHERE WHAT IT READS IS OF BULK AT MOST 1048576: true; the input reads as it did. -/
def codecFramesUptoRow : OpenClaim := { program := "ytpboahlpgfglkaadoor", sum := "a8d842d71f23f34a35bc5567a81a2af829abddc6c316318904ab9e269e7e7e39", func := "tryst/trystlaw20.CodecFrames", spec := "codecFrames", inPlace := ["internal/reflectlite.ValueOf", "(internal/reflectlite.Value).Type", "(internal/reflectlite.Value).IsNil", "internal/reflectlite.TypeOf", "(internal/reflectlite.Value).Elem", "(internal/reflectlite.Value).Set"], unfollowed := true, recurses := true, named := ["errors.errorType"], apart := false, laid := [("errors.errorType", laid_errors_errorType)], narrowed := true }
def CodecFramesUptoSaid : Prop := codecFramesUptoRow.holds Tryd.pinned (OpenSpec.upto codecFramesSpec)

/-- 'trystlaw20.CodecDials', WHERE WHAT IT READS IS OF BULK AT MOST 1048576: true; the input reads as it did. -/
def codecDialsUptoRow : OpenClaim := { program := "ytpboahlpgfglkaadoor", sum := "a8d842d71f23f34a35bc5567a81a2af829abddc6c316318904ab9e269e7e7e39", func := "tryst/trystlaw20.CodecDials", spec := "codecDials", inPlace := ["internal/reflectlite.ValueOf", "(internal/reflectlite.Value).Type", "(internal/reflectlite.Value).IsNil", "internal/reflectlite.TypeOf", "(internal/reflectlite.Value).Elem", "(internal/reflectlite.Value).Set"], unfollowed := true, recurses := true, named := ["errors.errorType"], apart := false, laid := [("errors.errorType", laid_errors_errorType)], narrowed := true }
def CodecDialsUptoSaid : Prop := codecDialsUptoRow.holds Tryd.pinned (OpenSpec.upto codecDialsSpec)

/-- 'trystlaw20.CodecSizes', WHERE WHAT IT READS IS OF BULK AT MOST 1048576: true; the input reads as it did. -/
def codecSizesUptoRow : OpenClaim := { program := "ytpboahlpgfglkaadoor", sum := "a8d842d71f23f34a35bc5567a81a2af829abddc6c316318904ab9e269e7e7e39", func := "tryst/trystlaw20.CodecSizes", spec := "codecSizes", inPlace := ["internal/reflectlite.ValueOf", "(internal/reflectlite.Value).Type", "(internal/reflectlite.Value).IsNil", "internal/reflectlite.TypeOf", "(internal/reflectlite.Value).Elem", "(internal/reflectlite.Value).Set"], unfollowed := true, recurses := true, named := ["errors.errorType"], apart := false, laid := [("errors.errorType", laid_errors_errorType)], narrowed := true }
def CodecSizesUptoSaid : Prop := codecSizesUptoRow.holds Tryd.pinned (OpenSpec.upto codecSizesSpec)

/-- 'trystlaw20.CodecPages', WHERE WHAT IT READS IS OF BULK AT MOST 1048576: true; the input reads as it did. -/
def codecPagesUptoRow : OpenClaim := { program := "ytpboahlpgfglkaadoor", sum := "a8d842d71f23f34a35bc5567a81a2af829abddc6c316318904ab9e269e7e7e39", func := "tryst/trystlaw20.CodecPages", spec := "codecPages", inPlace := ["internal/reflectlite.ValueOf", "(internal/reflectlite.Value).Type", "(internal/reflectlite.Value).IsNil", "internal/reflectlite.TypeOf", "(internal/reflectlite.Value).Elem", "(internal/reflectlite.Value).Set"], unfollowed := true, recurses := true, named := ["errors.errorType"], apart := false, laid := [("errors.errorType", laid_errors_errorType)], narrowed := true }
def CodecPagesUptoSaid : Prop := codecPagesUptoRow.holds Tryd.pinned (OpenSpec.upto codecPagesSpec)

/-- 'trystlaw20.CodecNames', WHERE WHAT IT READS IS OF BULK AT MOST 1048576: true; the input reads as it did. -/
def codecNamesUptoRow : OpenClaim := { program := "ytpboahlpgfglkaadoor", sum := "a8d842d71f23f34a35bc5567a81a2af829abddc6c316318904ab9e269e7e7e39", func := "tryst/trystlaw20.CodecNames", spec := "codecNames", inPlace := ["internal/reflectlite.ValueOf", "(internal/reflectlite.Value).Type", "(internal/reflectlite.Value).IsNil", "internal/reflectlite.TypeOf", "(internal/reflectlite.Value).Elem", "(internal/reflectlite.Value).Set"], unfollowed := true, recurses := true, named := ["errors.errorType"], apart := false, laid := [("errors.errorType", laid_errors_errorType)], narrowed := true }
def CodecNamesUptoSaid : Prop := codecNamesUptoRow.holds Tryd.pinned (OpenSpec.upto codecNamesSpec)

/-- 'trystlaw20.CodecFramed', WHERE WHAT IT READS IS OF BULK AT MOST 1048576: true; the input reads as it did. -/
def codecFramedUptoRow : OpenClaim := { program := "ytpboahlpgfglkaadoor", sum := "a8d842d71f23f34a35bc5567a81a2af829abddc6c316318904ab9e269e7e7e39", func := "tryst/trystlaw20.CodecFramed", spec := "codecFramed", inPlace := ["internal/reflectlite.ValueOf", "(internal/reflectlite.Value).Type", "(internal/reflectlite.Value).IsNil", "internal/reflectlite.TypeOf", "(internal/reflectlite.Value).Elem", "(internal/reflectlite.Value).Set"], unfollowed := true, recurses := true, named := ["errors.errorType"], apart := false, laid := [("errors.errorType", laid_errors_errorType)], narrowed := true }
def CodecFramedUptoSaid : Prop := codecFramedUptoRow.holds Tryd.pinned (OpenSpec.upto codecFramedSpec)

/-- 'trystlaw20.CodecBack', WHERE WHAT IT READS IS OF BULK AT MOST 1048576: true; the input reads as it did. -/
def codecBackUptoRow : OpenClaim := { program := "ytpboahlpgfglkaadoor", sum := "a8d842d71f23f34a35bc5567a81a2af829abddc6c316318904ab9e269e7e7e39", func := "tryst/trystlaw20.CodecBack", spec := "codecBack", inPlace := ["internal/reflectlite.ValueOf", "(internal/reflectlite.Value).Type", "(internal/reflectlite.Value).IsNil", "internal/reflectlite.TypeOf", "(internal/reflectlite.Value).Elem", "(internal/reflectlite.Value).Set"], unfollowed := true, recurses := true, named := ["errors.errorType"], apart := false, laid := [("errors.errorType", laid_errors_errorType)], narrowed := true }
def CodecBackUptoSaid : Prop := codecBackUptoRow.holds Tryd.pinned (OpenSpec.upto codecBackSpec)

/-- 'trystlaw20.CodecOnce', WHERE WHAT IT READS IS OF BULK AT MOST 1048576: true; the input reads as it did. -/
def codecOnceUptoRow : OpenClaim := { program := "ytpboahlpgfglkaadoor", sum := "a8d842d71f23f34a35bc5567a81a2af829abddc6c316318904ab9e269e7e7e39", func := "tryst/trystlaw20.CodecOnce", spec := "codecOnce", inPlace := ["internal/reflectlite.ValueOf", "(internal/reflectlite.Value).Type", "(internal/reflectlite.Value).IsNil", "internal/reflectlite.TypeOf", "(internal/reflectlite.Value).Elem", "(internal/reflectlite.Value).Set"], unfollowed := true, recurses := true, named := ["errors.errorType"], apart := false, laid := [("errors.errorType", laid_errors_errorType)], narrowed := true }
def CodecOnceUptoSaid : Prop := codecOnceUptoRow.holds Tryd.pinned (OpenSpec.upto codecOnceSpec)

end Rows
end Go.Proofs.YtpboahlpgfglkaaDoor
