/-
  NARROWER THAN 'FOR EVERY INPUT', by the rows' own cells (each row's printed sentence says how): LinkFrames: laid · LinkTakes: laid · LinkBack: laid · LinkOnce: laid · LinkDrains: laid · LinkSecrets: laid.
  DERIVED. THE GIVEN ROWS OF THIS SEAT. 6 by the template 'for every input the law returns true; each argument reads behind the call as it read before'; 0 by the template 'total and deterministic' (their statements: YtddpefbpiehgeaaDoorTotals.lean).
  GIVEN WITH THE SEED: the statements are not yours to turn. If you find one false, say at which input.
  Laid BY PROGRAM, IN A SANDBOX (cutbox-rows.mjs): the forced cells as the released guide's own fill.sh prints them over the translation a04ca67a07f60d7a… (all of the seat's roots in one cut). By AI agents, Wed Nov 11 2026. No macro, syntax, notation, axiom, sorry.
-/
import Derived.Test.YtddpefbpiehgeaaDoorChecked
import GoSem.Claim
import GoSem.ClaimJoined
import GoSem.ClaimMapViews
import Derived.JoinedTies
import Derived.KernelRfl
namespace Go.Proofs.YtddpefbpiehgeaaDoor
/- THE CELL 'sum', in the pinned program and in every row, IS THE sha256 OF THE DUMP (.gsa) THAT YtddpefbpiehgeaaDoorProg.lean LOADS. Nothing in Lean hashes anything: it is a label: what it is worth is what the hold of that sum in a sandbox is worth. -/
noncomputable def Tryd.pinned : Pinned := { name := "ytddpefbpiehgeaadoor", sum := "a04ca67a07f60d7ac8acab660c5437572a846f3f284d3ba912a1603915aeb00a", checked := Tryd.checked }
namespace Rows
def none {H : Type} : Left H := { results := [], args := [] }

/- WHAT THE LISTED PACKAGE-LEVEL VARIABLES READ AS WHEN THE CALL BEGINS. Each datum BY PROGRAM (the guide's laid-datum.mjs) off the statement by which the dump's own 'gosem.cut.vars' lays the variable. In a bare row this is a premise. The card (YtddpefbpiehgeaaDoorCards.lean) ties it to the program's text. -/
def laid_farebox_fareboxref03_first {H : Type} : DataW H := .agg [.lit (.int .u32 1779033703), .lit (.int .u32 3144134277), .lit (.int .u32 1013904242), .lit (.int .u32 2773480762), .lit (.int .u32 1359893119), .lit (.int .u32 2600822924), .lit (.int .u32 528734635), .lit (.int .u32 1541459225)]
def laid_farebox_fareboxref03_k {H : Type} : DataW H := .agg [.lit (.int .u32 1116352408), .lit (.int .u32 1899447441), .lit (.int .u32 3049323471), .lit (.int .u32 3921009573), .lit (.int .u32 961987163), .lit (.int .u32 1508970993), .lit (.int .u32 2453635748), .lit (.int .u32 2870763221), .lit (.int .u32 3624381080), .lit (.int .u32 310598401), .lit (.int .u32 607225278), .lit (.int .u32 1426881987), .lit (.int .u32 1925078388), .lit (.int .u32 2162078206), .lit (.int .u32 2614888103), .lit (.int .u32 3248222580), .lit (.int .u32 3835390401), .lit (.int .u32 4022224774), .lit (.int .u32 264347078), .lit (.int .u32 604807628), .lit (.int .u32 770255983), .lit (.int .u32 1249150122), .lit (.int .u32 1555081692), .lit (.int .u32 1996064986), .lit (.int .u32 2554220882), .lit (.int .u32 2821834349), .lit (.int .u32 2952996808), .lit (.int .u32 3210313671), .lit (.int .u32 3336571891), .lit (.int .u32 3584528711), .lit (.int .u32 113926993), .lit (.int .u32 338241895), .lit (.int .u32 666307205), .lit (.int .u32 773529912), .lit (.int .u32 1294757372), .lit (.int .u32 1396182291), .lit (.int .u32 1695183700), .lit (.int .u32 1986661051), .lit (.int .u32 2177026350), .lit (.int .u32 2456956037), .lit (.int .u32 2730485921), .lit (.int .u32 2820302411), .lit (.int .u32 3259730800), .lit (.int .u32 3345764771), .lit (.int .u32 3516065817), .lit (.int .u32 3600352804), .lit (.int .u32 4094571909), .lit (.int .u32 275423344), .lit (.int .u32 430227734), .lit (.int .u32 506948616), .lit (.int .u32 659060556), .lit (.int .u32 883997877), .lit (.int .u32 958139571), .lit (.int .u32 1322822218), .lit (.int .u32 1537002063), .lit (.int .u32 1747873779), .lit (.int .u32 1955562222), .lit (.int .u32 2024104815), .lit (.int .u32 2227730452), .lit (.int .u32 2361852424), .lit (.int .u32 2428436474), .lit (.int .u32 2756734187), .lit (.int .u32 3204031479), .lit (.int .u32 3329325298)]
def laid_farebox_hash_start {H : Type} : DataW H := .agg [.lit (.int .u32 1779033703), .lit (.int .u32 3144134277), .lit (.int .u32 1013904242), .lit (.int .u32 2773480762), .lit (.int .u32 1359893119), .lit (.int .u32 2600822924), .lit (.int .u32 528734635), .lit (.int .u32 1541459225)]
def laid_farebox_hash_rounds {H : Type} : DataW H := .agg [.lit (.int .u32 1116352408), .lit (.int .u32 1899447441), .lit (.int .u32 3049323471), .lit (.int .u32 3921009573), .lit (.int .u32 961987163), .lit (.int .u32 1508970993), .lit (.int .u32 2453635748), .lit (.int .u32 2870763221), .lit (.int .u32 3624381080), .lit (.int .u32 310598401), .lit (.int .u32 607225278), .lit (.int .u32 1426881987), .lit (.int .u32 1925078388), .lit (.int .u32 2162078206), .lit (.int .u32 2614888103), .lit (.int .u32 3248222580), .lit (.int .u32 3835390401), .lit (.int .u32 4022224774), .lit (.int .u32 264347078), .lit (.int .u32 604807628), .lit (.int .u32 770255983), .lit (.int .u32 1249150122), .lit (.int .u32 1555081692), .lit (.int .u32 1996064986), .lit (.int .u32 2554220882), .lit (.int .u32 2821834349), .lit (.int .u32 2952996808), .lit (.int .u32 3210313671), .lit (.int .u32 3336571891), .lit (.int .u32 3584528711), .lit (.int .u32 113926993), .lit (.int .u32 338241895), .lit (.int .u32 666307205), .lit (.int .u32 773529912), .lit (.int .u32 1294757372), .lit (.int .u32 1396182291), .lit (.int .u32 1695183700), .lit (.int .u32 1986661051), .lit (.int .u32 2177026350), .lit (.int .u32 2456956037), .lit (.int .u32 2730485921), .lit (.int .u32 2820302411), .lit (.int .u32 3259730800), .lit (.int .u32 3345764771), .lit (.int .u32 3516065817), .lit (.int .u32 3600352804), .lit (.int .u32 4094571909), .lit (.int .u32 275423344), .lit (.int .u32 430227734), .lit (.int .u32 506948616), .lit (.int .u32 659060556), .lit (.int .u32 883997877), .lit (.int .u32 958139571), .lit (.int .u32 1322822218), .lit (.int .u32 1537002063), .lit (.int .u32 1747873779), .lit (.int .u32 1955562222), .lit (.int .u32 2024104815), .lit (.int .u32 2227730452), .lit (.int .u32 2361852424), .lit (.int .u32 2428436474), .lit (.int .u32 2756734187), .lit (.int .u32 3204031479), .lit (.int .u32 3329325298)]

/-- 'fareboxlaw12.LinkFrames': WHATEVER THE INPUT: true; the input reads as it did. -/
def linkFramesSpec : ChangeSpec := { name := "linkFrames", fn := fun _ => fun
  | [d1, d2, d3] => { results := [.lit (.bool true)], args := [d1, d2, d3] }
  | _ => none }
def linkFramesRow : OpenClaim := { program := "ytddpefbpiehgeaadoor", sum := "a04ca67a07f60d7ac8acab660c5437572a846f3f284d3ba912a1603915aeb00a", func := "farebox/fareboxlaw12.LinkFrames", spec := "linkFrames", unfollowed := true, recurses := true, named := ["farebox/hash.start", "farebox/hash.rounds", "farebox/fareboxref03.first", "farebox/fareboxref03.k"], apart := false, laid := [("farebox/fareboxref03.first", laid_farebox_fareboxref03_first), ("farebox/fareboxref03.k", laid_farebox_fareboxref03_k), ("farebox/hash.start", laid_farebox_hash_start), ("farebox/hash.rounds", laid_farebox_hash_rounds)] }
def LinkFramesSaid : Prop := linkFramesRow.holds Tryd.pinned (OpenSpec.ofChange linkFramesSpec)

/-- ITS FALSE NEIGHBOUR: 'it returns false'. Refute it at one input. -/
def linkFramesWrong : ChangeSpec := { name := "linkFrames", fn := fun _ => fun
  | [d1, d2, d3] => { results := [.lit (.bool false)], args := [d1, d2, d3] }
  | _ => none }
def LinkFramesWrongFalsely : Prop := linkFramesRow.holds Tryd.pinned (OpenSpec.ofChange linkFramesWrong)

/-- 'fareboxlaw12.LinkTakes': WHATEVER THE INPUT: true; the input reads as it did. -/
def linkTakesSpec : ChangeSpec := { name := "linkTakes", fn := fun _ => fun
  | [d] => { results := [.lit (.bool true)], args := [d] }
  | _ => none }
def linkTakesRow : OpenClaim := { program := "ytddpefbpiehgeaadoor", sum := "a04ca67a07f60d7ac8acab660c5437572a846f3f284d3ba912a1603915aeb00a", func := "farebox/fareboxlaw12.LinkTakes", spec := "linkTakes", unfollowed := true, recurses := true, named := ["farebox/hash.start", "farebox/hash.rounds"], apart := false, laid := [("farebox/hash.start", laid_farebox_hash_start), ("farebox/hash.rounds", laid_farebox_hash_rounds)] }
def LinkTakesSaid : Prop := linkTakesRow.holds Tryd.pinned (OpenSpec.ofChange linkTakesSpec)

/-- ITS FALSE NEIGHBOUR: 'it returns false'. Refute it at one input. -/
def linkTakesWrong : ChangeSpec := { name := "linkTakes", fn := fun _ => fun
  | [d] => { results := [.lit (.bool false)], args := [d] }
  | _ => none }
def LinkTakesWrongFalsely : Prop := linkTakesRow.holds Tryd.pinned (OpenSpec.ofChange linkTakesWrong)

/-- 'fareboxlaw12.LinkBack': WHATEVER THE INPUT: true; the input reads as it did. -/
def linkBackSpec : ChangeSpec := { name := "linkBack", fn := fun _ => fun
  | [d1, d2, d3] => { results := [.lit (.bool true)], args := [d1, d2, d3] }
  | _ => none }
def linkBackRow : OpenClaim := { program := "ytddpefbpiehgeaadoor", sum := "a04ca67a07f60d7ac8acab660c5437572a846f3f284d3ba912a1603915aeb00a", func := "farebox/fareboxlaw12.LinkBack", spec := "linkBack", unfollowed := true, recurses := true, named := ["farebox/hash.start", "farebox/hash.rounds"], apart := false, laid := [("farebox/hash.start", laid_farebox_hash_start), ("farebox/hash.rounds", laid_farebox_hash_rounds)] }
def LinkBackSaid : Prop := linkBackRow.holds Tryd.pinned (OpenSpec.ofChange linkBackSpec)

/-- ITS FALSE NEIGHBOUR: 'it returns false'. Refute it at one input. -/
def linkBackWrong : ChangeSpec := { name := "linkBack", fn := fun _ => fun
  | [d1, d2, d3] => { results := [.lit (.bool false)], args := [d1, d2, d3] }
  | _ => none }
def LinkBackWrongFalsely : Prop := linkBackRow.holds Tryd.pinned (OpenSpec.ofChange linkBackWrong)

/-- 'fareboxlaw12.LinkOnce': WHATEVER THE INPUT: true; the input reads as it did. -/
def linkOnceSpec : ChangeSpec := { name := "linkOnce", fn := fun _ => fun
  | [d1, d2, d3, d4] => { results := [.lit (.bool true)], args := [d1, d2, d3, d4] }
  | _ => none }
def linkOnceRow : OpenClaim := { program := "ytddpefbpiehgeaadoor", sum := "a04ca67a07f60d7ac8acab660c5437572a846f3f284d3ba912a1603915aeb00a", func := "farebox/fareboxlaw12.LinkOnce", spec := "linkOnce", unfollowed := true, recurses := true, named := ["farebox/hash.start", "farebox/hash.rounds"], apart := false, laid := [("farebox/hash.start", laid_farebox_hash_start), ("farebox/hash.rounds", laid_farebox_hash_rounds)] }
def LinkOnceSaid : Prop := linkOnceRow.holds Tryd.pinned (OpenSpec.ofChange linkOnceSpec)

/-- ITS FALSE NEIGHBOUR: 'it returns false'. Refute it at one input. -/
def linkOnceWrong : ChangeSpec := { name := "linkOnce", fn := fun _ => fun
  | [d1, d2, d3, d4] => { results := [.lit (.bool false)], args := [d1, d2, d3, d4] }
  | _ => none }
def LinkOnceWrongFalsely : Prop := linkOnceRow.holds Tryd.pinned (OpenSpec.ofChange linkOnceWrong)

/-- 'fareboxlaw12.LinkDrains': WHATEVER THE INPUT: true; the input reads as it did. -/
def linkDrainsSpec : ChangeSpec := { name := "linkDrains", fn := fun _ => fun
  | [d1, d2, d3, d4, d5, d6] => { results := [.lit (.bool true)], args := [d1, d2, d3, d4, d5, d6] }
  | _ => none }
def linkDrainsRow : OpenClaim := { program := "ytddpefbpiehgeaadoor", sum := "a04ca67a07f60d7ac8acab660c5437572a846f3f284d3ba912a1603915aeb00a", func := "farebox/fareboxlaw12.LinkDrains", spec := "linkDrains", unfollowed := true, recurses := true, named := ["farebox/hash.start", "farebox/hash.rounds"], apart := false, laid := [("farebox/hash.start", laid_farebox_hash_start), ("farebox/hash.rounds", laid_farebox_hash_rounds)] }
def LinkDrainsSaid : Prop := linkDrainsRow.holds Tryd.pinned (OpenSpec.ofChange linkDrainsSpec)

/-- ITS FALSE NEIGHBOUR: 'it returns false'. Refute it at one input. -/
def linkDrainsWrong : ChangeSpec := { name := "linkDrains", fn := fun _ => fun
  | [d1, d2, d3, d4, d5, d6] => { results := [.lit (.bool false)], args := [d1, d2, d3, d4, d5, d6] }
  | _ => none }
def LinkDrainsWrongFalsely : Prop := linkDrainsRow.holds Tryd.pinned (OpenSpec.ofChange linkDrainsWrong)

/-- 'fareboxlaw12.LinkSecrets': WHATEVER THE INPUT: true; the input reads as it did. -/
def linkSecretsSpec : ChangeSpec := { name := "linkSecrets", fn := fun _ => fun
  | [d1, d2] => { results := [.lit (.bool true)], args := [d1, d2] }
  | _ => none }
def linkSecretsRow : OpenClaim := { program := "ytddpefbpiehgeaadoor", sum := "a04ca67a07f60d7ac8acab660c5437572a846f3f284d3ba912a1603915aeb00a", func := "farebox/fareboxlaw12.LinkSecrets", spec := "linkSecrets", unfollowed := true, recurses := true, named := ["farebox/hash.start", "farebox/hash.rounds", "farebox/fareboxref03.first", "farebox/fareboxref03.k"], apart := false, laid := [("farebox/fareboxref03.first", laid_farebox_fareboxref03_first), ("farebox/fareboxref03.k", laid_farebox_fareboxref03_k), ("farebox/hash.start", laid_farebox_hash_start), ("farebox/hash.rounds", laid_farebox_hash_rounds)] }
def LinkSecretsSaid : Prop := linkSecretsRow.holds Tryd.pinned (OpenSpec.ofChange linkSecretsSpec)

/-- ITS FALSE NEIGHBOUR: 'it returns false'. Refute it at one input. -/
def linkSecretsWrong : ChangeSpec := { name := "linkSecrets", fn := fun _ => fun
  | [d1, d2] => { results := [.lit (.bool false)], args := [d1, d2] }
  | _ => none }
def LinkSecretsWrongFalsely : Prop := linkSecretsRow.holds Tryd.pinned (OpenSpec.ofChange linkSecretsWrong)

/- THE SECOND FORM. 'bulk': how many values and letters a reading holds, each counted each time it is reached (what is shared counts as often as it is met; a slice's spare places count too). A statement '..UptoSaid' is the law's where the arguments, and the package variables that the reading takes, are together of bulk at most 1048576: NARROWER than '..Said'. Prove '..Said' where nothing that the law and all that it calls make is longer than what came in: it says more and counts as full. Else prove '..UptoSaid'. A law counts once. -/
mutual
def uptoBulk {H : Type} : DataW H → Nat
  | .lit (.string bytes) => bytes.length + 1
  | .lit _ => 1
  | .nil => 1
  | .ptr d => uptoBulk d + 1
  | .slice elems spare => uptoBulkAll elems + uptoBulkAll spare + 1
  | .agg parts => uptoBulkAll parts + 1
  | .iface _ d => uptoBulk d + 1
  | .map entries => uptoBulkEntries entries + 1
  | .held _ => 1
def uptoBulkAll {H : Type} : List (DataW H) → Nat
  | [] => 0
  | d :: r => uptoBulk d + uptoBulkAll r
def uptoBulkEntries {H : Type} : List (Lit × DataW H) → Nat
  | [] => 0
  | x :: r => uptoBulkEntry x + uptoBulkEntries r
def uptoBulkEntry {H : Type} : Lit × DataW H → Nat
  | (.string bytes, d) => bytes.length + uptoBulk d + 1
  | (_, d) => uptoBulk d + 1
 end
def uptoSmall : (H : Type) → List (DataW H) → Bool := fun _ ds => decide (uptoBulkAll ds ≤ 1048576)
def OpenSpec.upto (s : _root_.Go.ChangeSpec) : _root_.Go.OpenSpec := { _root_.Go.OpenSpec.ofChange s with cond := some uptoSmall }

/-- 'fareboxlaw12.LinkFrames', WHERE WHAT IT READS IS OF BULK AT MOST 1048576: true; the input reads as it did. -/
def linkFramesUptoRow : OpenClaim := { program := "ytddpefbpiehgeaadoor", sum := "a04ca67a07f60d7ac8acab660c5437572a846f3f284d3ba912a1603915aeb00a", func := "farebox/fareboxlaw12.LinkFrames", spec := "linkFrames", unfollowed := true, recurses := true, named := ["farebox/hash.start", "farebox/hash.rounds", "farebox/fareboxref03.first", "farebox/fareboxref03.k"], apart := false, laid := [("farebox/fareboxref03.first", laid_farebox_fareboxref03_first), ("farebox/fareboxref03.k", laid_farebox_fareboxref03_k), ("farebox/hash.start", laid_farebox_hash_start), ("farebox/hash.rounds", laid_farebox_hash_rounds)], narrowed := true }
def LinkFramesUptoSaid : Prop := linkFramesUptoRow.holds Tryd.pinned (OpenSpec.upto linkFramesSpec)

/-- 'fareboxlaw12.LinkTakes', WHERE WHAT IT READS IS OF BULK AT MOST 1048576: true; the input reads as it did. -/
def linkTakesUptoRow : OpenClaim := { program := "ytddpefbpiehgeaadoor", sum := "a04ca67a07f60d7ac8acab660c5437572a846f3f284d3ba912a1603915aeb00a", func := "farebox/fareboxlaw12.LinkTakes", spec := "linkTakes", unfollowed := true, recurses := true, named := ["farebox/hash.start", "farebox/hash.rounds"], apart := false, laid := [("farebox/hash.start", laid_farebox_hash_start), ("farebox/hash.rounds", laid_farebox_hash_rounds)], narrowed := true }
def LinkTakesUptoSaid : Prop := linkTakesUptoRow.holds Tryd.pinned (OpenSpec.upto linkTakesSpec)

/-- 'fareboxlaw12.LinkBack', WHERE WHAT IT READS IS OF BULK AT MOST 1048576: true; the input reads as it did. -/
def linkBackUptoRow : OpenClaim := { program := "ytddpefbpiehgeaadoor", sum := "a04ca67a07f60d7ac8acab660c5437572a846f3f284d3ba912a1603915aeb00a", func := "farebox/fareboxlaw12.LinkBack", spec := "linkBack", unfollowed := true, recurses := true, named := ["farebox/hash.start", "farebox/hash.rounds"], apart := false, laid := [("farebox/hash.start", laid_farebox_hash_start), ("farebox/hash.rounds", laid_farebox_hash_rounds)], narrowed := true }
def LinkBackUptoSaid : Prop := linkBackUptoRow.holds Tryd.pinned (OpenSpec.upto linkBackSpec)

/-- 'fareboxlaw12.LinkOnce', WHERE WHAT IT READS IS OF BULK AT MOST 1048576: true; the input reads as it did. -/
def linkOnceUptoRow : OpenClaim := { program := "ytddpefbpiehgeaadoor", sum := "a04ca67a07f60d7ac8acab660c5437572a846f3f284d3ba912a1603915aeb00a", func := "farebox/fareboxlaw12.LinkOnce", spec := "linkOnce", unfollowed := true, recurses := true, named := ["farebox/hash.start", "farebox/hash.rounds"], apart := false, laid := [("farebox/hash.start", laid_farebox_hash_start), ("farebox/hash.rounds", laid_farebox_hash_rounds)], narrowed := true }
def LinkOnceUptoSaid : Prop := linkOnceUptoRow.holds Tryd.pinned (OpenSpec.upto linkOnceSpec)

/-- 'fareboxlaw12.LinkDrains', WHERE WHAT IT READS IS OF BULK AT MOST 1048576: true; the input reads as it did. -/
def linkDrainsUptoRow : OpenClaim := { program := "ytddpefbpiehgeaadoor", sum := "a04ca67a07f60d7ac8acab660c5437572a846f3f284d3ba912a1603915aeb00a", func := "farebox/fareboxlaw12.LinkDrains", spec := "linkDrains", unfollowed := true, recurses := true, named := ["farebox/hash.start", "farebox/hash.rounds"], apart := false, laid := [("farebox/hash.start", laid_farebox_hash_start), ("farebox/hash.rounds", laid_farebox_hash_rounds)], narrowed := true }
def LinkDrainsUptoSaid : Prop := linkDrainsUptoRow.holds Tryd.pinned (OpenSpec.upto linkDrainsSpec)

/-- 'fareboxlaw12.LinkSecrets', WHERE WHAT IT READS IS OF BULK AT MOST 1048576: true; the input reads as it did. -/
def linkSecretsUptoRow : OpenClaim := { program := "ytddpefbpiehgeaadoor", sum := "a04ca67a07f60d7ac8acab660c5437572a846f3f284d3ba912a1603915aeb00a", func := "farebox/fareboxlaw12.LinkSecrets", spec := "linkSecrets", unfollowed := true, recurses := true, named := ["farebox/hash.start", "farebox/hash.rounds", "farebox/fareboxref03.first", "farebox/fareboxref03.k"], apart := false, laid := [("farebox/fareboxref03.first", laid_farebox_fareboxref03_first), ("farebox/fareboxref03.k", laid_farebox_fareboxref03_k), ("farebox/hash.start", laid_farebox_hash_start), ("farebox/hash.rounds", laid_farebox_hash_rounds)], narrowed := true }
def LinkSecretsUptoSaid : Prop := linkSecretsUptoRow.holds Tryd.pinned (OpenSpec.upto linkSecretsSpec)

end Rows
end Go.Proofs.YtddpefbpiehgeaaDoor
