/- Where each function lies. -/
import Derived.Test.YtddkghgfbhhcdaaGreatDoorOLogP
set_option maxRecDepth 100000
namespace Go.Oct.Log
theorem get3 : prog.funcs.get 3 = some f3 := by kernel_rfl
theorem get5 : prog.funcs.get 5 = some f5 := by kernel_rfl
theorem get6 : prog.funcs.get 6 = some f6 := by kernel_rfl
theorem get7 : prog.funcs.get 7 = some f7 := by kernel_rfl
theorem get8 : prog.funcs.get 8 = some f8 := by kernel_rfl
theorem get9 : prog.funcs.get 9 = some f9 := by kernel_rfl
theorem get10 : prog.funcs.get 10 = some f10 := by kernel_rfl
theorem get11 : prog.funcs.get 11 = some f11 := by kernel_rfl
theorem get12 : prog.funcs.get 12 = some f12 := by kernel_rfl
theorem get13 : prog.funcs.get 13 = some f13 := by kernel_rfl
theorem get14 : prog.funcs.get 14 = some f14 := by kernel_rfl
theorem get17 : prog.funcs.get 17 = some f17 := by kernel_rfl
theorem get20 : prog.funcs.get 20 = some f20 := by kernel_rfl
theorem get21 : prog.funcs.get 21 = some f21 := by kernel_rfl
theorem get24 : prog.funcs.get 24 = some f24 := by kernel_rfl
theorem get25 : prog.funcs.get 25 = some f25 := by kernel_rfl
theorem get26 : prog.funcs.get 26 = some f26 := by kernel_rfl
theorem get29 : prog.funcs.get 29 = some f29 := by kernel_rfl
theorem get30 : prog.funcs.get 30 = some f30 := by kernel_rfl
theorem get31 : prog.funcs.get 31 = some f31 := by kernel_rfl
theorem get32 : prog.funcs.get 32 = some f32 := by kernel_rfl
theorem get33 : prog.funcs.get 33 = some f33 := by kernel_rfl
theorem get34 : prog.funcs.get 34 = some f34 := by kernel_rfl
theorem get35 : prog.funcs.get 35 = some f35 := by kernel_rfl
theorem get36 : prog.funcs.get 36 = some f36 := by kernel_rfl
theorem get37 : prog.funcs.get 37 = some f37 := by kernel_rfl
theorem get38 : prog.funcs.get 38 = some f38 := by kernel_rfl
theorem get51 : prog.funcs.get 51 = some f51 := by kernel_rfl
theorem get52 : prog.funcs.get 52 = some f52 := by kernel_rfl
theorem get53 : prog.funcs.get 53 = some f53 := by kernel_rfl
theorem get54 : prog.funcs.get 54 = some f54 := by kernel_rfl
theorem get55 : prog.funcs.get 55 = some f55 := by kernel_rfl
theorem get56 : prog.funcs.get 56 = some f56 := by kernel_rfl
theorem get60 : prog.funcs.get 60 = some f60 := by kernel_rfl
theorem get61 : prog.funcs.get 61 = some f61 := by kernel_rfl
theorem get62 : prog.funcs.get 62 = some f62 := by kernel_rfl
theorem get63 : prog.funcs.get 63 = some f63 := by kernel_rfl
theorem get64 : prog.funcs.get 64 = some f64 := by kernel_rfl
theorem get65 : prog.funcs.get 65 = some f65 := by kernel_rfl
theorem get66 : prog.funcs.get 66 = some f66 := by kernel_rfl
theorem get67 : prog.funcs.get 67 = some f67 := by kernel_rfl
theorem get77 : prog.funcs.get 77 = some f77 := by kernel_rfl
theorem get78 : prog.funcs.get 78 = some f78 := by kernel_rfl
theorem get79 : prog.funcs.get 79 = some f79 := by kernel_rfl
theorem get80 : prog.funcs.get 80 = some f80 := by kernel_rfl
theorem get86 : prog.funcs.get 86 = some f86 := by kernel_rfl
theorem get95 : prog.funcs.get 95 = some f95 := by kernel_rfl
theorem get96 : prog.funcs.get 96 = some f96 := by kernel_rfl
theorem get97 : prog.funcs.get 97 = some f97 := by kernel_rfl
theorem get126 : prog.funcs.get 126 = some f126 := by kernel_rfl
theorem get127 : prog.funcs.get 127 = some f127 := by kernel_rfl
theorem get128 : prog.funcs.get 128 = some f128 := by kernel_rfl
end Go.Oct.Log
