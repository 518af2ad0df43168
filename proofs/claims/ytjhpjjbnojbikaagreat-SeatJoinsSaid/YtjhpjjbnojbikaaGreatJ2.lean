/- The reckoning of the model, a part. No condition. -/
import Derived.Test.YtjhpjjbnojbikaaGreatM5
import Derived.KernelRfl
set_option linter.unusedSimpArgs false
set_option linter.unusedVariables false
namespace Go.Proofs.Tryz
set_option maxRecDepth 1000000
theorem jt3_0:bw 3 0=true:=by kernel_rfl
theorem jt3_1:bw 3 1=true:=by kernel_rfl
theorem jt3_2:bw 3 2=true:=by kernel_rfl
theorem jt3_3:bw 3 3=true:=by kernel_rfl
theorem jt3_4:bw 3 4=true:=by kernel_rfl
theorem jt3_5:bw 3 5=true:=by kernel_rfl
theorem jt3_6:bw 3 6=true:=by kernel_rfl
theorem jt3_7:bw 3 7=true:=by kernel_rfl
theorem jt3_8:bw 3 8=true:=by kernel_rfl
theorem jt3_9:bw 3 9=true:=by kernel_rfl
theorem jt3_10:bw 3 10=true:=by kernel_rfl
theorem jt3_11:bw 3 11=true:=by kernel_rfl
theorem jt3_12:bw 3 12=true:=by kernel_rfl
theorem jt3_13:bw 3 13=true:=by kernel_rfl
theorem jt3_14:bw 3 14=true:=by kernel_rfl
theorem jt3_15:bw 3 15=true:=by kernel_rfl
theorem jt3_16:bw 3 16=true:=by kernel_rfl
theorem jt3_17:bw 3 17=true:=by kernel_rfl
theorem jt3_18:bw 3 18=true:=by kernel_rfl
theorem jt3_19:bw 3 19=true:=by kernel_rfl
end Go.Proofs.Tryz
