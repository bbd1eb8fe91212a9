/- Where each function lies. -/
import Derived.Test.YtcnemenlbbickaaORoundsP
set_option maxRecDepth 100000
namespace Go.Oct.Rounds
theorem get10 : prog.funcs.get 10 = some f10 := by kernel_rfl
theorem get16 : prog.funcs.get 16 = some f16 := by kernel_rfl
theorem get19 : prog.funcs.get 19 = some f19 := by kernel_rfl
theorem get25 : prog.funcs.get 25 = some f25 := by kernel_rfl
theorem get27 : prog.funcs.get 27 = some f27 := by kernel_rfl
theorem get28 : prog.funcs.get 28 = some f28 := by kernel_rfl
theorem get30 : prog.funcs.get 30 = some f30 := by kernel_rfl
theorem get32 : prog.funcs.get 32 = some f32 := by kernel_rfl
theorem get37 : prog.funcs.get 37 = some f37 := by kernel_rfl
theorem get38 : prog.funcs.get 38 = some f38 := by kernel_rfl
theorem get39 : prog.funcs.get 39 = some f39 := by kernel_rfl
theorem get40 : prog.funcs.get 40 = some f40 := by kernel_rfl
theorem get41 : prog.funcs.get 41 = some f41 := by kernel_rfl
theorem get47 : prog.funcs.get 47 = some f47 := by kernel_rfl
theorem get48 : prog.funcs.get 48 = some f48 := by kernel_rfl
theorem get51 : prog.funcs.get 51 = some f51 := by kernel_rfl
theorem get52 : prog.funcs.get 52 = some f52 := by kernel_rfl
theorem get57 : prog.funcs.get 57 = some f57 := by kernel_rfl
theorem get59 : prog.funcs.get 59 = some f59 := by kernel_rfl
theorem get61 : prog.funcs.get 61 = some f61 := by kernel_rfl
theorem get63 : prog.funcs.get 63 = some f63 := by kernel_rfl
theorem get64 : prog.funcs.get 64 = some f64 := by kernel_rfl
theorem get65 : prog.funcs.get 65 = some f65 := by kernel_rfl
theorem get66 : prog.funcs.get 66 = some f66 := by kernel_rfl
theorem get67 : prog.funcs.get 67 = some f67 := by kernel_rfl
theorem get68 : prog.funcs.get 68 = some f68 := by kernel_rfl
theorem get69 : prog.funcs.get 69 = some f69 := by kernel_rfl
theorem get70 : prog.funcs.get 70 = some f70 := by kernel_rfl
theorem get71 : prog.funcs.get 71 = some f71 := by kernel_rfl
theorem get72 : prog.funcs.get 72 = some f72 := by kernel_rfl
theorem get73 : prog.funcs.get 73 = some f73 := by kernel_rfl
theorem get75 : prog.funcs.get 75 = some f75 := by kernel_rfl
theorem get76 : prog.funcs.get 76 = some f76 := by kernel_rfl
theorem get77 : prog.funcs.get 77 = some f77 := by kernel_rfl
theorem get78 : prog.funcs.get 78 = some f78 := by kernel_rfl
theorem get79 : prog.funcs.get 79 = some f79 := by kernel_rfl
theorem get80 : prog.funcs.get 80 = some f80 := by kernel_rfl
theorem get81 : prog.funcs.get 81 = some f81 := by kernel_rfl
theorem get82 : prog.funcs.get 82 = some f82 := by kernel_rfl
theorem get83 : prog.funcs.get 83 = some f83 := by kernel_rfl
theorem get84 : prog.funcs.get 84 = some f84 := by kernel_rfl
theorem get85 : prog.funcs.get 85 = some f85 := by kernel_rfl
theorem get86 : prog.funcs.get 86 = some f86 := by kernel_rfl
theorem get87 : prog.funcs.get 87 = some f87 := by kernel_rfl
theorem get88 : prog.funcs.get 88 = some f88 := by kernel_rfl
theorem get89 : prog.funcs.get 89 = some f89 := by kernel_rfl
theorem get90 : prog.funcs.get 90 = some f90 := by kernel_rfl
theorem get91 : prog.funcs.get 91 = some f91 := by kernel_rfl
theorem get92 : prog.funcs.get 92 = some f92 := by kernel_rfl
end Go.Oct.Rounds
