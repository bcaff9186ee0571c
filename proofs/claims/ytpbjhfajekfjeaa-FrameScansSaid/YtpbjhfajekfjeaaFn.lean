
/- Function values held against nil. -/
import Derived.Test.YtpbjhfajekfjeaaMem2
namespace Go.Proofs.Ytpbjhfajekfjeaa
open Go.RowKit
section
variable {P : Program} {t : TypeId} {ps rs : Array TypeId} {vd : Bool}
theorem eqIn_nilf (h : P.underlying t = some (.func ps rs vd)) (w : World) (d : Nat) : (Op.equalIn (d + 1) t .nilFunc .nilFunc).run P w = .ok true w := by
  simp [Op.equalIn, run_underlying h]
theorem eql_nilf (h : P.underlying t = some (.func ps rs vd)) (w : World) : (binOp .eql t .nilFunc .nilFunc).run P w = .ok (.bool true) w := by
  simp only [binOp]
  simp [Op.equal, Op.maxDepth, eqIn_nilf h w 9999]
theorem eqIn_func (h : P.underlying t = some (.func ps rs vd)) (fn : Fn) (fi ca : Array Value) (w : World) (d : Nat) : (Op.equalIn (d + 1) t (.func fn fi ca) .nilFunc).run P w = .ok false w := by
  simp [Op.equalIn, run_underlying h]
theorem eql_func (h : P.underlying t = some (.func ps rs vd)) (fn : Fn) (fi ca : Array Value) (w : World) : (binOp .eql t (.func fn fi ca) .nilFunc).run P w = .ok (.bool false) w := by
  simp only [binOp]
  simp [Op.equal, Op.maxDepth, eqIn_func h fn fi ca w 9999]
end
end Go.Proofs.Ytpbjhfajekfjeaa
