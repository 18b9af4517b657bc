/- Plain: what Parse reads. -/
import Derived.Test.YtddpefbpiehgeaaDoorLinkC
namespace Go.Proofs.YtddpefbpiehgeaaDoor
open Go Go.RowKit

/-- n texts are read. -/
def rdIts (d : List UInt8) : Nat → List (List UInt8) → RS → List (List UInt8) × RS
  | 0, l, s => (l, s)
  | n + 1, l, s => rdIts d n (l ++ [(rdText d 256 s).1]) (rdText d 256 s).2

theorem rdIts_succ (d : List UInt8) : ∀ n l s, rdIts d (n + 1) l s = ((rdIts d n l s).1 ++ [(rdText d 256 (rdIts d n l s).2).1], (rdText d 256 (rdIts d n l s).2).2)
  | 0, l, s => rfl
  | n + 1, l, s => by rw [rdIts, rdIts_succ d n]; rfl

/-- A frame is read. -/
def rdFrame (d : List UInt8) : Fr × RS :=
  let (k, s1) := rdNum d 1 ⟨0, 0, 0, 0⟩
  if k = 1 then
    let (a, s2) := rdNum d 8 s1
    let (b, s3) := rdNum d 8 s2
    let (n, s4) := rdCount d 8 s3
    let (l, s5) := rdIts d n [] s4
    (⟨k, a, b, l, []⟩, rdEnd d s5)
  else if k = 4 then
    let (t, s2) := rdText d 16100 s1
    (⟨k, 0, 0, [], t⟩, rdEnd d s2)
  else
    let (b, s2) := rdNum d 8 s1
    (⟨k, 0, b, [], []⟩, rdEnd d s2)

def parsed (d : List UInt8) : Option Fr := if (rdFrame d).2.code = 0 && mayB (rdFrame d).1 then some (rdFrame d).1 else none
end Go.Proofs.YtddpefbpiehgeaaDoor
