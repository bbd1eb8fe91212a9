/- Where each function lies. -/
import Derived.Test.YtddclpecmjibkaaDoorOFixP
set_option maxRecDepth 100000
namespace Go.Oct.Fix
theorem get8 : prog.funcs.get 8 = some f8 := by kernel_rfl
theorem get11 : prog.funcs.get 11 = some f11 := by kernel_rfl
theorem get15 : prog.funcs.get 15 = some f15 := by kernel_rfl
theorem get17 : prog.funcs.get 17 = some f17 := by kernel_rfl
theorem get19 : prog.funcs.get 19 = some f19 := by kernel_rfl
theorem get21 : prog.funcs.get 21 = some f21 := by kernel_rfl
theorem get24 : prog.funcs.get 24 = some f24 := by kernel_rfl
theorem get26 : prog.funcs.get 26 = some f26 := by kernel_rfl
theorem get27 : prog.funcs.get 27 = some f27 := by kernel_rfl
theorem get29 : prog.funcs.get 29 = some f29 := by kernel_rfl
theorem get33 : prog.funcs.get 33 = some f33 := by kernel_rfl
theorem get36 : prog.funcs.get 36 = some f36 := by kernel_rfl
theorem get37 : prog.funcs.get 37 = some f37 := by kernel_rfl
theorem get38 : prog.funcs.get 38 = some f38 := by kernel_rfl
theorem get39 : prog.funcs.get 39 = some f39 := by kernel_rfl
theorem get40 : prog.funcs.get 40 = some f40 := by kernel_rfl
theorem get41 : prog.funcs.get 41 = some f41 := by kernel_rfl
theorem get42 : prog.funcs.get 42 = some f42 := by kernel_rfl
theorem get43 : prog.funcs.get 43 = some f43 := by kernel_rfl
theorem get44 : prog.funcs.get 44 = some f44 := by kernel_rfl
theorem get48 : prog.funcs.get 48 = some f48 := by kernel_rfl
theorem get55 : prog.funcs.get 55 = some f55 := by kernel_rfl
theorem get56 : prog.funcs.get 56 = some f56 := by kernel_rfl
theorem get57 : prog.funcs.get 57 = some f57 := by kernel_rfl
theorem get58 : prog.funcs.get 58 = some f58 := by kernel_rfl
theorem get59 : prog.funcs.get 59 = some f59 := by kernel_rfl
theorem get64 : prog.funcs.get 64 = some f64 := by kernel_rfl
theorem get65 : prog.funcs.get 65 = some f65 := by kernel_rfl
theorem get66 : prog.funcs.get 66 = some f66 := by kernel_rfl
theorem get67 : prog.funcs.get 67 = some f67 := by kernel_rfl
theorem get69 : prog.funcs.get 69 = some f69 := by kernel_rfl
theorem get70 : prog.funcs.get 70 = some f70 := by kernel_rfl
theorem get71 : prog.funcs.get 71 = some f71 := by kernel_rfl
theorem get72 : prog.funcs.get 72 = some f72 := by kernel_rfl
theorem get73 : prog.funcs.get 73 = some f73 := by kernel_rfl
theorem get76 : prog.funcs.get 76 = some f76 := by kernel_rfl
theorem get77 : prog.funcs.get 77 = some f77 := by kernel_rfl
theorem get78 : prog.funcs.get 78 = some f78 := by kernel_rfl
theorem get79 : prog.funcs.get 79 = some f79 := by kernel_rfl
theorem get80 : prog.funcs.get 80 = some f80 := by kernel_rfl
theorem get90 : prog.funcs.get 90 = some f90 := by kernel_rfl
theorem get91 : prog.funcs.get 91 = some f91 := by kernel_rfl
theorem get92 : prog.funcs.get 92 = some f92 := by kernel_rfl
theorem get93 : prog.funcs.get 93 = some f93 := by kernel_rfl
theorem get94 : prog.funcs.get 94 = some f94 := by kernel_rfl
theorem get95 : prog.funcs.get 95 = some f95 := by kernel_rfl
theorem get96 : prog.funcs.get 96 = some f96 := by kernel_rfl
theorem get100 : prog.funcs.get 100 = some f100 := by kernel_rfl
theorem get101 : prog.funcs.get 101 = some f101 := by kernel_rfl
theorem get105 : prog.funcs.get 105 = some f105 := by kernel_rfl
theorem get106 : prog.funcs.get 106 = some f106 := by kernel_rfl
theorem get139 : prog.funcs.get 139 = some f139 := by kernel_rfl
theorem get141 : prog.funcs.get 141 = some f141 := by kernel_rfl
end Go.Oct.Fix
