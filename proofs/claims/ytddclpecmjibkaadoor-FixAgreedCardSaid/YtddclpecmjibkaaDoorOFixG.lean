/- Where each function lies. -/
import Derived.Test.YtddclpecmjibkaaDoorOFixP
set_option maxRecDepth 100000
namespace Go.Oct.Fix
theorem get6 : prog.funcs.get 6 = some f6 := by kernel_rfl
theorem get13 : prog.funcs.get 13 = some f13 := by kernel_rfl
theorem get26 : prog.funcs.get 26 = some f26 := by kernel_rfl
theorem get31 : prog.funcs.get 31 = some f31 := by kernel_rfl
theorem get32 : prog.funcs.get 32 = some f32 := by kernel_rfl
theorem get33 : prog.funcs.get 33 = some f33 := by kernel_rfl
theorem get37 : prog.funcs.get 37 = some f37 := by kernel_rfl
theorem get40 : prog.funcs.get 40 = some f40 := by kernel_rfl
theorem get43 : prog.funcs.get 43 = some f43 := by kernel_rfl
theorem get45 : prog.funcs.get 45 = some f45 := by kernel_rfl
theorem get46 : prog.funcs.get 46 = some f46 := by kernel_rfl
theorem get47 : prog.funcs.get 47 = some f47 := by kernel_rfl
theorem get48 : prog.funcs.get 48 = some f48 := by kernel_rfl
theorem get49 : prog.funcs.get 49 = some f49 := by kernel_rfl
theorem get57 : prog.funcs.get 57 = some f57 := by kernel_rfl
theorem get64 : prog.funcs.get 64 = some f64 := by kernel_rfl
theorem get83 : prog.funcs.get 83 = some f83 := by kernel_rfl
theorem get84 : prog.funcs.get 84 = some f84 := by kernel_rfl
theorem get85 : prog.funcs.get 85 = some f85 := by kernel_rfl
theorem get86 : prog.funcs.get 86 = some f86 := by kernel_rfl
theorem get87 : prog.funcs.get 87 = some f87 := by kernel_rfl
theorem get102 : prog.funcs.get 102 = some f102 := by kernel_rfl
theorem get103 : prog.funcs.get 103 = some f103 := by kernel_rfl
theorem get104 : prog.funcs.get 104 = some f104 := by kernel_rfl
theorem get108 : prog.funcs.get 108 = some f108 := by kernel_rfl
theorem get109 : prog.funcs.get 109 = some f109 := by kernel_rfl
theorem get110 : prog.funcs.get 110 = some f110 := by kernel_rfl
theorem get111 : prog.funcs.get 111 = some f111 := by kernel_rfl
theorem get112 : prog.funcs.get 112 = some f112 := by kernel_rfl
theorem get113 : prog.funcs.get 113 = some f113 := by kernel_rfl
theorem get114 : prog.funcs.get 114 = some f114 := by kernel_rfl
theorem get115 : prog.funcs.get 115 = some f115 := by kernel_rfl
theorem get117 : prog.funcs.get 117 = some f117 := by kernel_rfl
theorem get118 : prog.funcs.get 118 = some f118 := by kernel_rfl
theorem get119 : prog.funcs.get 119 = some f119 := by kernel_rfl
theorem get120 : prog.funcs.get 120 = some f120 := by kernel_rfl
theorem get122 : prog.funcs.get 122 = some f122 := by kernel_rfl
theorem get123 : prog.funcs.get 123 = some f123 := by kernel_rfl
end Go.Oct.Fix
