/- The rule of XSeg under its elder second name. -/
import Derived.Test.YtplbaijdnpfdgaaSeg
namespace Go.Proofs.Ytplbaijdnpfdgaa
open Go.RowKit Go.Sort
theorem wp_region_segK {P : Program} {ops : Array Oper} {id : Nat} {a : Act} {w : World} {R : Exit → Act → World → Prop} (segs : List (List Nat × Nat)) (last tail : List Nat) (k : Nat) (hm : P.follows .mixedOrders = true)
    (hp : (Region.noSelect ops && tailOk ops k && planOk ops k segs last tail (Array.replicate ops.size false) && tail.all (fun i => decide (k ≤ i) && decide (i < ops.size)) && decide ((segs.map fun s => s.1.length + 1).sum + last.length + tail.length = ops.size)) = true)
    (h : ∀ Q : Act → World → Prop, (∀ a w, R .normal a w → Q a w) → ∀ w', Below w.heap.size w w' → segRun P ops Q segs last tail a w') : (Code.region id ops true).wp P R a w := wp_region_seg segs last tail k hm hp h
end Go.Proofs.Ytplbaijdnpfdgaa
