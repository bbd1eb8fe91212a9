/- Where each function lies. -/
import Derived.Test.YtddkghgfbhhcdaaOCryP
set_option maxRecDepth 100000
namespace Go.Oct.Cry
theorem get6 : prog.funcs.get 6 = some f6 := by kernel_rfl
theorem get10 : prog.funcs.get 10 = some f10 := by kernel_rfl
theorem get13 : prog.funcs.get 13 = some f13 := by kernel_rfl
theorem get14 : prog.funcs.get 14 = some f14 := by kernel_rfl
theorem get15 : prog.funcs.get 15 = some f15 := by kernel_rfl
theorem get16 : prog.funcs.get 16 = some f16 := by kernel_rfl
theorem get25 : prog.funcs.get 25 = some f25 := by kernel_rfl
theorem get29 : prog.funcs.get 29 = some f29 := by kernel_rfl
theorem get31 : prog.funcs.get 31 = some f31 := by kernel_rfl
theorem get32 : prog.funcs.get 32 = some f32 := by kernel_rfl
theorem get36 : prog.funcs.get 36 = some f36 := by kernel_rfl
theorem get42 : prog.funcs.get 42 = some f42 := by kernel_rfl
theorem get43 : prog.funcs.get 43 = some f43 := by kernel_rfl
theorem get44 : prog.funcs.get 44 = some f44 := by kernel_rfl
theorem get63 : prog.funcs.get 63 = some f63 := by kernel_rfl
theorem get64 : prog.funcs.get 64 = some f64 := by kernel_rfl
theorem get70 : prog.funcs.get 70 = some f70 := by kernel_rfl
theorem get71 : prog.funcs.get 71 = some f71 := by kernel_rfl
theorem get72 : prog.funcs.get 72 = some f72 := by kernel_rfl
theorem get73 : prog.funcs.get 73 = some f73 := by kernel_rfl
theorem get74 : prog.funcs.get 74 = some f74 := by kernel_rfl
theorem get75 : prog.funcs.get 75 = some f75 := by kernel_rfl
theorem get88 : prog.funcs.get 88 = some f88 := by kernel_rfl
theorem get89 : prog.funcs.get 89 = some f89 := by kernel_rfl
theorem get90 : prog.funcs.get 90 = some f90 := by kernel_rfl
theorem get91 : prog.funcs.get 91 = some f91 := by kernel_rfl
theorem get92 : prog.funcs.get 92 = some f92 := by kernel_rfl
theorem get93 : prog.funcs.get 93 = some f93 := by kernel_rfl
theorem get119 : prog.funcs.get 119 = some f119 := by kernel_rfl
theorem get120 : prog.funcs.get 120 = some f120 := by kernel_rfl
theorem get121 : prog.funcs.get 121 = some f121 := by kernel_rfl
theorem get122 : prog.funcs.get 122 = some f122 := by kernel_rfl
theorem get129 : prog.funcs.get 129 = some f129 := by kernel_rfl
theorem get130 : prog.funcs.get 130 = some f130 := by kernel_rfl
theorem get144 : prog.funcs.get 144 = some f144 := by kernel_rfl
theorem get148 : prog.funcs.get 148 = some f148 := by kernel_rfl
theorem get177 : prog.funcs.get 177 = some f177 := by kernel_rfl
theorem get178 : prog.funcs.get 178 = some f178 := by kernel_rfl
theorem get179 : prog.funcs.get 179 = some f179 := by kernel_rfl
end Go.Oct.Cry
