/- A drawn region that first only reads, then goes on in one order: its world is opaque. -/
import Derived.Test.YtdnmfgpladgjhaaDoorMem
import Derived.StillTailTactics
import Derived.IntWalk
namespace Go.Proofs.YtdnmfgpladgjhaaDoor
open Go Go.RowKit Go.Proofs.YtdnmfgpladgjhaaDoor.Gf
theorem wp_region_tail {P : Program} {id : Nat} {Q : Exit → Act → World → Prop} {a : Act} {w : World} {l : List Oper} (n : Nat) (hm : P.follows .mixedOrders = true) (hB : Region.lexTailB .any l.toArray n = true)
    (h : ∀ wd, Pk (Below w.heap.size w wd) → wpStill P l.toArray wd (fun a' => wpList P l.toArray Q (l.drop n) a' wd) (l.take n) a) : (Code.region id l.toArray true).wp P Q a w :=
  wp_region_still_tail n hm hB (h _ ⟨(Below.refl _ _).drew⟩)
end Go.Proofs.YtdnmfgpladgjhaaDoor
