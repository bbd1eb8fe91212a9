/- Where each function lies. -/
import Derived.Test.YtddkghgfbhhcdaaOCryP
set_option maxRecDepth 100000
namespace Go.Oct.Cry
theorem get5 : prog.funcs.get 5 = some f5 := by kernel_rfl
theorem get10 : prog.funcs.get 10 = some f10 := by kernel_rfl
theorem get11 : prog.funcs.get 11 = some f11 := by kernel_rfl
theorem get13 : prog.funcs.get 13 = some f13 := by kernel_rfl
theorem get15 : prog.funcs.get 15 = some f15 := by kernel_rfl
theorem get16 : prog.funcs.get 16 = some f16 := by kernel_rfl
theorem get24 : prog.funcs.get 24 = some f24 := by kernel_rfl
theorem get25 : prog.funcs.get 25 = some f25 := by kernel_rfl
theorem get26 : prog.funcs.get 26 = some f26 := by kernel_rfl
theorem get27 : prog.funcs.get 27 = some f27 := by kernel_rfl
theorem get28 : prog.funcs.get 28 = some f28 := by kernel_rfl
theorem get29 : prog.funcs.get 29 = some f29 := by kernel_rfl
theorem get30 : prog.funcs.get 30 = some f30 := by kernel_rfl
theorem get36 : prog.funcs.get 36 = some f36 := by kernel_rfl
theorem get56 : prog.funcs.get 56 = some f56 := by kernel_rfl
theorem get57 : prog.funcs.get 57 = some f57 := by kernel_rfl
theorem get58 : prog.funcs.get 58 = some f58 := by kernel_rfl
theorem get59 : prog.funcs.get 59 = some f59 := by kernel_rfl
theorem get60 : prog.funcs.get 60 = some f60 := by kernel_rfl
theorem get61 : prog.funcs.get 61 = some f61 := by kernel_rfl
theorem get62 : prog.funcs.get 62 = some f62 := by kernel_rfl
theorem get63 : prog.funcs.get 63 = some f63 := by kernel_rfl
theorem get64 : prog.funcs.get 64 = some f64 := by kernel_rfl
theorem get65 : prog.funcs.get 65 = some f65 := by kernel_rfl
theorem get66 : prog.funcs.get 66 = some f66 := by kernel_rfl
theorem get67 : prog.funcs.get 67 = some f67 := by kernel_rfl
theorem get68 : prog.funcs.get 68 = some f68 := by kernel_rfl
theorem get69 : prog.funcs.get 69 = some f69 := by kernel_rfl
theorem get110 : prog.funcs.get 110 = some f110 := by kernel_rfl
theorem get111 : prog.funcs.get 111 = some f111 := by kernel_rfl
theorem get112 : prog.funcs.get 112 = some f112 := by kernel_rfl
theorem get113 : prog.funcs.get 113 = some f113 := by kernel_rfl
theorem get114 : prog.funcs.get 114 = some f114 := by kernel_rfl
theorem get115 : prog.funcs.get 115 = some f115 := by kernel_rfl
theorem get116 : prog.funcs.get 116 = some f116 := by kernel_rfl
theorem get117 : prog.funcs.get 117 = some f117 := by kernel_rfl
theorem get118 : prog.funcs.get 118 = some f118 := by kernel_rfl
theorem get134 : prog.funcs.get 134 = some f134 := by kernel_rfl
theorem get143 : prog.funcs.get 143 = some f143 := by kernel_rfl
theorem get147 : prog.funcs.get 147 = some f147 := by kernel_rfl
theorem get155 : prog.funcs.get 155 = some f155 := by kernel_rfl
theorem get172 : prog.funcs.get 172 = some f172 := by kernel_rfl
theorem get173 : prog.funcs.get 173 = some f173 := by kernel_rfl
theorem get174 : prog.funcs.get 174 = some f174 := by kernel_rfl
theorem get175 : prog.funcs.get 175 = some f175 := by kernel_rfl
end Go.Oct.Cry
