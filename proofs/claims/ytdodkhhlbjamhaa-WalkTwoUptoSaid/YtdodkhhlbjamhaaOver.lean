
/- A region that draws, walked along one way: a stronger condition behind a call. -/
import Derived.Test.YtdodkhhlbjamhaaMem2
import Derived.Deep.RegionHeld3
import Derived.Deep.RegionHeld
namespace Go.Proofs.Ytdodkhhlbjamhaa
open Go.RowKit
section
variable {P : Program} {ops : Array Oper} {Q : Exit → Act → World → Prop} {md : Region.Mode} {S S' : World → Prop}
theorem wpAnyH_stronger (h : ∀ w, S' w → S w) : ∀ (fuel : Nat) (listed : Array Bool) (a : Act) (w : World), wpAnyH P md ops Q S' fuel listed a w → wpAnyH P md ops Q S fuel listed a w
  | 0, _, _, _, H => H
  | fuel + 1, _, _, _, H => ⟨H.1, fun i hi => wpOp_mono (fun a' w' h' => ⟨h _ h'.1, wpAnyH_stronger h fuel _ a' w' h'.2⟩) (H.2 i hi)⟩
/-- Behind what the step has made: from now on all that stands now stays. -/
theorem wpAnyH_now {W w1 : World} (hb : Below W.heap.size W w1) {fuel : Nat} {listed : Array Bool} {a : Act}
    (h : wpAnyH P md ops Q (fun w' => Below w1.heap.size w1 w') fuel listed a w1) : wpAnyH P md ops Q (fun w' => Below W.heap.size W w') fuel listed a w1 :=
  wpAnyH_stronger (fun _ h' => hb.trans (h'.mono hb.size)) _ _ _ _ h
/-- Behind a block that was made. -/
theorem wpAnyH_made {W w1 : World} {o : Obj} (hS : Below W.heap.size W w1) {fuel : Nat} {listed : Array Bool} {a : Act}
    (h : ∀ w2, w2 = w1.alloc o → Below W.heap.size W w2 → wpAnyH P md ops Q (fun w' => Below w2.heap.size w2 w') fuel listed a w2) : wpAnyH P md ops Q (fun w' => Below W.heap.size W w') fuel listed a (w1.alloc o) :=
  have hb : Below W.heap.size W (w1.alloc o) := hS.alloc hS.size o
  wpAnyH_stronger (fun _ h' => hb.trans (h'.mono hb.size)) _ _ _ _ (h _ rfl hb)
theorem wpAnyH_madeK {W w1 : World} {o : Obj} {B : Nat} (hS : Below B W w1) (hB : B ≤ w1.heap.size) {fuel : Nat} {listed : Array Bool} {a : Act}
    (h : ∀ w2, w2 = w1.alloc o → Below B W w2 → wpAnyH P md ops Q (fun w' => Below B W w') fuel listed a w2) : wpAnyH P md ops Q (fun w' => Below B W w') fuel listed a (w1.alloc o) :=
  h _ rfl (hS.alloc hB o)
end
end Go.Proofs.Ytdodkhhlbjamhaa
