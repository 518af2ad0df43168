/- The reckoning of the model, a part. No condition. -/
import Derived.Test.YtjhpjjbnojbikaaGreatM5
import Derived.KernelRfl
set_option linter.unusedSimpArgs false
set_option linter.unusedVariables false
namespace Go.Proofs.Tryz
set_option maxRecDepth 1000000
theorem jt1_0:bw 1 0=true:=by kernel_rfl
theorem jt1_1:bw 1 1=true:=by kernel_rfl
theorem jt1_2:bw 1 2=true:=by kernel_rfl
theorem jt1_3:bw 1 3=true:=by kernel_rfl
theorem jt1_4:bw 1 4=true:=by kernel_rfl
theorem jt1_5:bw 1 5=true:=by kernel_rfl
theorem jt1_6:bw 1 6=true:=by kernel_rfl
theorem jt1_7:bw 1 7=true:=by kernel_rfl
theorem jt1_8:bw 1 8=true:=by kernel_rfl
theorem jt1_9:bw 1 9=true:=by kernel_rfl
theorem jt1_10:bw 1 10=true:=by kernel_rfl
theorem jt1_11:bw 1 11=true:=by kernel_rfl
theorem jt1_12:bw 1 12=true:=by kernel_rfl
theorem jt1_13:bw 1 13=true:=by kernel_rfl
theorem jt1_14:bw 1 14=true:=by kernel_rfl
theorem jt1_15:bw 1 15=true:=by kernel_rfl
theorem jt1_16:bw 1 16=true:=by kernel_rfl
theorem jt1_17:bw 1 17=true:=by kernel_rfl
theorem jt1_18:bw 1 18=true:=by kernel_rfl
theorem jt1_19:bw 1 19=true:=by kernel_rfl
theorem jt2_0:bw 2 0=true:=by kernel_rfl
theorem jt2_1:bw 2 1=true:=by kernel_rfl
theorem jt2_2:bw 2 2=true:=by kernel_rfl
theorem jt2_3:bw 2 3=true:=by kernel_rfl
theorem jt2_4:bw 2 4=true:=by kernel_rfl
theorem jt2_5:bw 2 5=true:=by kernel_rfl
theorem jt2_6:bw 2 6=true:=by kernel_rfl
theorem jt2_7:bw 2 7=true:=by kernel_rfl
theorem jt2_8:bw 2 8=true:=by kernel_rfl
theorem jt2_9:bw 2 9=true:=by kernel_rfl
theorem jt2_10:bw 2 10=true:=by kernel_rfl
theorem jt2_11:bw 2 11=true:=by kernel_rfl
theorem jt2_12:bw 2 12=true:=by kernel_rfl
theorem jt2_13:bw 2 13=true:=by kernel_rfl
theorem jt2_14:bw 2 14=true:=by kernel_rfl
theorem jt2_15:bw 2 15=true:=by kernel_rfl
theorem jt2_16:bw 2 16=true:=by kernel_rfl
theorem jt2_17:bw 2 17=true:=by kernel_rfl
theorem jt2_18:bw 2 18=true:=by kernel_rfl
theorem jt2_19:bw 2 19=true:=by kernel_rfl
end Go.Proofs.Tryz
