/- The reckoning of the model, a part. No condition. -/
import Derived.Test.YtjhpjjbnojbikaaGreatM5
import Derived.KernelRfl
set_option linter.unusedSimpArgs false
set_option linter.unusedVariables false
namespace Go.Proofs.Tryz
set_option maxRecDepth 1000000
theorem jt4_11:bw 4 11=true:=by kernel_rfl
theorem jt4_12:bw 4 12=true:=by kernel_rfl
theorem jt4_13:bw 4 13=true:=by kernel_rfl
theorem jt4_14:bw 4 14=true:=by kernel_rfl
theorem jt4_15:bw 4 15=true:=by kernel_rfl
theorem jt4_16:bw 4 16=true:=by kernel_rfl
theorem jt4_17:bw 4 17=true:=by kernel_rfl
theorem jt4_18:bw 4 18=true:=by kernel_rfl
theorem jt4_19:bw 4 19=true:=by kernel_rfl
end Go.Proofs.Tryz
