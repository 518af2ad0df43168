/- The reckoning of the model, a part. No condition. -/
import Derived.Test.YtjhpjjbnojbikaaGreatM5
import Derived.KernelRfl
set_option linter.unusedSimpArgs false
set_option linter.unusedVariables false
namespace Go.Proofs.Tryz
set_option maxRecDepth 1000000
theorem jt4_0:bw 4 0=true:=by kernel_rfl
theorem jt4_1:bw 4 1=true:=by kernel_rfl
theorem jt4_2:bw 4 2=true:=by kernel_rfl
theorem jt4_3:bw 4 3=true:=by kernel_rfl
theorem jt4_4:bw 4 4=true:=by kernel_rfl
theorem jt4_5:bw 4 5=true:=by kernel_rfl
theorem jt4_6:bw 4 6=true:=by kernel_rfl
theorem jt4_7:bw 4 7=true:=by kernel_rfl
theorem jt4_8:bw 4 8=true:=by kernel_rfl
theorem jt4_9:bw 4 9=true:=by kernel_rfl
theorem jt4_10:bw 4 10=true:=by kernel_rfl
end Go.Proofs.Tryz
