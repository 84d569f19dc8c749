/- OrderNames, evaluated: calls that are known first. -/
import Derived.Test.YtbbefbgomdmldaaRows
import Derived.Test.YtbbefbgomdmldaaAbsMemo
import Derived.WalkKit
namespace Go.Proofs.Ytbbefbgomdmldaa.MemoOrderNames
open Go Go.Proofs.Ytbbefbgomdmldaa.Ab
set_option maxRecDepth 1000000
def wr : Nat → Bool := fun f => f == 78
def lits : Nat → Bool := fun f => f == 18
theorem m : Try.prog.follows .mixedOrders = true := by kernel_rfl
def t0 : List Known1 := []
theorem o0 : TabOk Try.prog t0 := trivial
def k1 : Known1 := ⟨17, [.d (.agg [.int .i64 9, .sl [.int .i64 18], .sl [.agg [.int .i64 4, .int .i64 13, .int .i64 2]], .sl [.agg [.int .i64 12, .int .i64 19, .int .i64 8], .agg [.int .i64 8, .int .i64 4, .int .i64 1]], .sl [.int .i64 8, .int .i64 0], .sl [.int .i64 5]])], .d (.int .i64 0)⟩
theorem e1 : evT Try.prog wr lits t0 60 k1.f k1.as [] = some (k1.r, []) := by kernel_rfl
def t1 : List Known1 := k1 :: t0
theorem o1 : TabOk Try.prog t1 := ⟨evT_ok m o0 60 _ _ _ _ _ e1, o0⟩
def k2 : Known1 := ⟨10, [.d (.agg [.int .i64 9, .sl [.int .i64 18], .sl [.agg [.int .i64 4, .int .i64 13, .int .i64 2]], .sl [.agg [.int .i64 12, .int .i64 19, .int .i64 8], .agg [.int .i64 8, .int .i64 4, .int .i64 1]], .sl [.int .i64 8, .int .i64 0], .sl [.int .i64 5]])], .tup [.agg [.d (.int .i64 1), .own 50 [.agg [.int .i64 9, .int .i64 2]], .own 48 [.agg [.int .i64 4, .int .i64 1], .agg [.int .i64 6, .int .i64 3]], .own 3 [.int .i64 6, .int .i64 0], .own 3 [.int .i64 5]], .own 3 [.int .i64 0, .int .i64 (-1), .int .i64 2, .int .i64 (-1), .int .i64 3, .int .i64 (-1), .int .i64 4, .int .i64 (-1), .int .i64 (-1), .int .i64 1], .d (.int .i64 0)]⟩
theorem e2 : evT Try.prog wr lits t1 60 k2.f k2.as [] = some (k2.r, []) := by kernel_rfl
def t2 : List Known1 := k2 :: t1
theorem o2 : TabOk Try.prog t2 := ⟨evT_ok m o1 60 _ _ _ _ _ e2, o1⟩
def k3 : Known1 := ⟨17, [.d (.agg [.int .i64 (-1), .sl [.int .i64 18], .sl [.agg [.int .i64 4, .int .i64 13, .int .i64 2]], .sl [.agg [.int .i64 12, .int .i64 19, .int .i64 8], .agg [.int .i64 8, .int .i64 4, .int .i64 1]], .sl [.int .i64 8, .int .i64 0], .sl [.int .i64 5]])], .d (.int .i64 8)⟩
theorem e3 : evT Try.prog wr lits t2 60 k3.f k3.as [] = some (k3.r, []) := by kernel_rfl
def t3 : List Known1 := k3 :: t2
theorem o3 : TabOk Try.prog t3 := ⟨evT_ok m o2 60 _ _ _ _ _ e3, o2⟩
def k4 : Known1 := ⟨10, [.d (.agg [.int .i64 (-1), .sl [.int .i64 18], .sl [.agg [.int .i64 4, .int .i64 13, .int .i64 2]], .sl [.agg [.int .i64 12, .int .i64 19, .int .i64 8], .agg [.int .i64 8, .int .i64 4, .int .i64 1]], .sl [.int .i64 8, .int .i64 0], .sl [.int .i64 5]])], .tup [.agg [.d (.int .i64 0), .emp true, .emp true, .emp true, .emp true], .emp true, .d (.int .i64 8)]⟩
theorem e4 : evT Try.prog wr lits t3 60 k4.f k4.as [] = some (k4.r, []) := by kernel_rfl
def t4 : List Known1 := k4 :: t3
theorem o4 : TabOk Try.prog t4 := ⟨evT_ok m o3 60 _ _ _ _ _ e4, o3⟩
def k5 : Known1 := ⟨17, [.d (.agg [.int .i64 1001, .sl [.int .i64 18], .sl [.agg [.int .i64 4, .int .i64 13, .int .i64 2]], .sl [.agg [.int .i64 12, .int .i64 19, .int .i64 8], .agg [.int .i64 8, .int .i64 4, .int .i64 1]], .sl [.int .i64 8, .int .i64 0], .sl [.int .i64 5]])], .d (.int .i64 4)⟩
theorem e5 : evT Try.prog wr lits t4 60 k5.f k5.as [] = some (k5.r, []) := by kernel_rfl
def t5 : List Known1 := k5 :: t4
theorem o5 : TabOk Try.prog t5 := ⟨evT_ok m o4 60 _ _ _ _ _ e5, o4⟩
def k6 : Known1 := ⟨10, [.d (.agg [.int .i64 1001, .sl [.int .i64 18], .sl [.agg [.int .i64 4, .int .i64 13, .int .i64 2]], .sl [.agg [.int .i64 12, .int .i64 19, .int .i64 8], .agg [.int .i64 8, .int .i64 4, .int .i64 1]], .sl [.int .i64 8, .int .i64 0], .sl [.int .i64 5]])], .tup [.agg [.d (.int .i64 0), .emp true, .emp true, .emp true, .emp true], .emp true, .d (.int .i64 4)]⟩
theorem e6 : evT Try.prog wr lits t5 60 k6.f k6.as [] = some (k6.r, []) := by kernel_rfl
def t6 : List Known1 := k6 :: t5
theorem o6 : TabOk Try.prog t6 := ⟨evT_ok m o5 60 _ _ _ _ _ e6, o5⟩
def k7 : Known1 := ⟨17, [.d (.agg [.int .i64 9, .sl (List.replicate 999 (.int .i64 0)), .sl [.agg [.int .i64 4, .int .i64 13, .int .i64 2]], .sl [.agg [.int .i64 12, .int .i64 19, .int .i64 8], .agg [.int .i64 8, .int .i64 4, .int .i64 1]], .sl [.int .i64 8, .int .i64 0], .sl [.int .i64 5]])], .d (.int .i64 4)⟩
theorem e7 : evT Try.prog wr lits t6 60 k7.f k7.as [] = some (k7.r, []) := by kernel_rfl
def t7 : List Known1 := k7 :: t6
theorem o7 : TabOk Try.prog t7 := ⟨evT_ok m o6 60 _ _ _ _ _ e7, o6⟩
def k8 : Known1 := ⟨10, [.d (.agg [.int .i64 9, .sl (List.replicate 999 (.int .i64 0)), .sl [.agg [.int .i64 4, .int .i64 13, .int .i64 2]], .sl [.agg [.int .i64 12, .int .i64 19, .int .i64 8], .agg [.int .i64 8, .int .i64 4, .int .i64 1]], .sl [.int .i64 8, .int .i64 0], .sl [.int .i64 5]])], .tup [.agg [.d (.int .i64 0), .emp true, .emp true, .emp true, .emp true], .emp true, .d (.int .i64 4)]⟩
theorem e8 : evT Try.prog wr lits t7 60 k8.f k8.as [] = some (k8.r, []) := by kernel_rfl
def t8 : List Known1 := k8 :: t7
theorem o8 : TabOk Try.prog t8 := ⟨evT_ok m o7 60 _ _ _ _ _ e8, o7⟩
def k9 : Known1 := ⟨17, [.d (.agg [.int .i64 9, .sl [.int .i64 18], .sl [.agg [.int .i64 4, .int .i64 13, .int .i64 2]], .sl [.agg [.int .i64 12, .int .i64 19, .int .i64 8], .agg [.int .i64 8, .int .i64 4, .int .i64 1]], .sl (List.replicate 101 (.int .i64 0)), .sl [.int .i64 5]])], .d (.int .i64 4)⟩
theorem e9 : evT Try.prog wr lits t8 60 k9.f k9.as [] = some (k9.r, []) := by kernel_rfl
def t9 : List Known1 := k9 :: t8
theorem o9 : TabOk Try.prog t9 := ⟨evT_ok m o8 60 _ _ _ _ _ e9, o8⟩
def k10 : Known1 := ⟨10, [.d (.agg [.int .i64 9, .sl [.int .i64 18], .sl [.agg [.int .i64 4, .int .i64 13, .int .i64 2]], .sl [.agg [.int .i64 12, .int .i64 19, .int .i64 8], .agg [.int .i64 8, .int .i64 4, .int .i64 1]], .sl (List.replicate 101 (.int .i64 0)), .sl [.int .i64 5]])], .tup [.agg [.d (.int .i64 0), .emp true, .emp true, .emp true, .emp true], .emp true, .d (.int .i64 4)]⟩
theorem e10 : evT Try.prog wr lits t9 60 k10.f k10.as [] = some (k10.r, []) := by kernel_rfl
def t10 : List Known1 := k10 :: t9
theorem o10 : TabOk Try.prog t10 := ⟨evT_ok m o9 60 _ _ _ _ _ e10, o9⟩
def k11 : Known1 := ⟨17, [.d (.agg [.int .i64 9, .sl [.int .i64 18], .sl [.agg [.int .i64 4, .int .i64 13, .int .i64 2]], .sl [.agg [.int .i64 12, .int .i64 19, .int .i64 8], .agg [.int .i64 8, .int .i64 4, .int .i64 1]], .sl [.int .i64 8, .int .i64 0], .sl (List.replicate 101 (.int .i64 0))])], .d (.int .i64 4)⟩
theorem e11 : evT Try.prog wr lits t10 60 k11.f k11.as [] = some (k11.r, []) := by kernel_rfl
def t11 : List Known1 := k11 :: t10
theorem o11 : TabOk Try.prog t11 := ⟨evT_ok m o10 60 _ _ _ _ _ e11, o10⟩
def k12 : Known1 := ⟨10, [.d (.agg [.int .i64 9, .sl [.int .i64 18], .sl [.agg [.int .i64 4, .int .i64 13, .int .i64 2]], .sl [.agg [.int .i64 12, .int .i64 19, .int .i64 8], .agg [.int .i64 8, .int .i64 4, .int .i64 1]], .sl [.int .i64 8, .int .i64 0], .sl (List.replicate 101 (.int .i64 0))])], .tup [.agg [.d (.int .i64 0), .emp true, .emp true, .emp true, .emp true], .emp true, .d (.int .i64 4)]⟩
theorem e12 : evT Try.prog wr lits t11 60 k12.f k12.as [] = some (k12.r, []) := by kernel_rfl
def t12 : List Known1 := k12 :: t11
theorem o12 : TabOk Try.prog t12 := ⟨evT_ok m o11 60 _ _ _ _ _ e12, o11⟩
def k13 : Known1 := ⟨17, [.d (.agg [.int .i64 9, .sl [.int .i64 19], .sl [.agg [.int .i64 4, .int .i64 13, .int .i64 2]], .sl [.agg [.int .i64 12, .int .i64 19, .int .i64 8], .agg [.int .i64 8, .int .i64 4, .int .i64 1]], .sl [.int .i64 8, .int .i64 0], .sl [.int .i64 5]])], .d (.int .i64 8)⟩
theorem e13 : evT Try.prog wr lits t12 60 k13.f k13.as [] = some (k13.r, []) := by kernel_rfl
def t13 : List Known1 := k13 :: t12
theorem o13 : TabOk Try.prog t13 := ⟨evT_ok m o12 60 _ _ _ _ _ e13, o12⟩
def k14 : Known1 := ⟨10, [.d (.agg [.int .i64 9, .sl [.int .i64 19], .sl [.agg [.int .i64 4, .int .i64 13, .int .i64 2]], .sl [.agg [.int .i64 12, .int .i64 19, .int .i64 8], .agg [.int .i64 8, .int .i64 4, .int .i64 1]], .sl [.int .i64 8, .int .i64 0], .sl [.int .i64 5]])], .tup [.agg [.d (.int .i64 0), .emp true, .emp true, .emp true, .emp true], .emp true, .d (.int .i64 8)]⟩
theorem e14 : evT Try.prog wr lits t13 60 k14.f k14.as [] = some (k14.r, []) := by kernel_rfl
def t14 : List Known1 := k14 :: t13
theorem o14 : TabOk Try.prog t14 := ⟨evT_ok m o13 60 _ _ _ _ _ e14, o13⟩
def k15 : Known1 := ⟨17, [.d (.agg [.int .i64 9, .sl [.int .i64 0], .sl [.agg [.int .i64 4, .int .i64 13, .int .i64 2]], .sl [.agg [.int .i64 12, .int .i64 19, .int .i64 8], .agg [.int .i64 8, .int .i64 4, .int .i64 1]], .sl [.int .i64 8, .int .i64 0], .sl [.int .i64 5]])], .d (.int .i64 8)⟩
theorem e15 : evT Try.prog wr lits t14 60 k15.f k15.as [] = some (k15.r, []) := by kernel_rfl
def t15 : List Known1 := k15 :: t14
theorem o15 : TabOk Try.prog t15 := ⟨evT_ok m o14 60 _ _ _ _ _ e15, o14⟩
def k16 : Known1 := ⟨10, [.d (.agg [.int .i64 9, .sl [.int .i64 0], .sl [.agg [.int .i64 4, .int .i64 13, .int .i64 2]], .sl [.agg [.int .i64 12, .int .i64 19, .int .i64 8], .agg [.int .i64 8, .int .i64 4, .int .i64 1]], .sl [.int .i64 8, .int .i64 0], .sl [.int .i64 5]])], .tup [.agg [.d (.int .i64 0), .emp true, .emp true, .emp true, .emp true], .emp true, .d (.int .i64 8)]⟩
theorem e16 : evT Try.prog wr lits t15 60 k16.f k16.as [] = some (k16.r, []) := by kernel_rfl
def t16 : List Known1 := k16 :: t15
theorem o16 : TabOk Try.prog t16 := ⟨evT_ok m o15 60 _ _ _ _ _ e16, o15⟩
def k17 : Known1 := ⟨17, [.d (.agg [.int .i64 9, .sl [.int .i64 20], .sl [.agg [.int .i64 4, .int .i64 13, .int .i64 2]], .sl [.agg [.int .i64 12, .int .i64 19, .int .i64 8], .agg [.int .i64 8, .int .i64 4, .int .i64 1]], .sl [.int .i64 8, .int .i64 0], .sl [.int .i64 5]])], .d (.int .i64 8)⟩
theorem e17 : evT Try.prog wr lits t16 60 k17.f k17.as [] = some (k17.r, []) := by kernel_rfl
def t17 : List Known1 := k17 :: t16
theorem o17 : TabOk Try.prog t17 := ⟨evT_ok m o16 60 _ _ _ _ _ e17, o16⟩
def k18 : Known1 := ⟨10, [.d (.agg [.int .i64 9, .sl [.int .i64 20], .sl [.agg [.int .i64 4, .int .i64 13, .int .i64 2]], .sl [.agg [.int .i64 12, .int .i64 19, .int .i64 8], .agg [.int .i64 8, .int .i64 4, .int .i64 1]], .sl [.int .i64 8, .int .i64 0], .sl [.int .i64 5]])], .tup [.agg [.d (.int .i64 0), .emp true, .emp true, .emp true, .emp true], .emp true, .d (.int .i64 8)]⟩
theorem e18 : evT Try.prog wr lits t17 60 k18.f k18.as [] = some (k18.r, []) := by kernel_rfl
def t18 : List Known1 := k18 :: t17
theorem o18 : TabOk Try.prog t18 := ⟨evT_ok m o17 60 _ _ _ _ _ e18, o17⟩
def k19 : Known1 := ⟨17, [.d (.agg [.int .i64 9, .sl [.int .i64 18], .sl [.agg [.int .i64 4, .int .i64 13, .int .i64 3]], .sl [.agg [.int .i64 12, .int .i64 19, .int .i64 8], .agg [.int .i64 8, .int .i64 4, .int .i64 1]], .sl [.int .i64 8, .int .i64 0], .sl [.int .i64 5]])], .d (.int .i64 8)⟩
theorem e19 : evT Try.prog wr lits t18 60 k19.f k19.as [] = some (k19.r, []) := by kernel_rfl
def t19 : List Known1 := k19 :: t18
theorem o19 : TabOk Try.prog t19 := ⟨evT_ok m o18 60 _ _ _ _ _ e19, o18⟩
def k20 : Known1 := ⟨10, [.d (.agg [.int .i64 9, .sl [.int .i64 18], .sl [.agg [.int .i64 4, .int .i64 13, .int .i64 3]], .sl [.agg [.int .i64 12, .int .i64 19, .int .i64 8], .agg [.int .i64 8, .int .i64 4, .int .i64 1]], .sl [.int .i64 8, .int .i64 0], .sl [.int .i64 5]])], .tup [.agg [.d (.int .i64 0), .emp true, .emp true, .emp true, .emp true], .emp true, .d (.int .i64 8)]⟩
theorem e20 : evT Try.prog wr lits t19 60 k20.f k20.as [] = some (k20.r, []) := by kernel_rfl
def t20 : List Known1 := k20 :: t19
theorem o20 : TabOk Try.prog t20 := ⟨evT_ok m o19 60 _ _ _ _ _ e20, o19⟩
def k21 : Known1 := ⟨17, [.d (.agg [.int .i64 9, .sl [.int .i64 18], .sl [.agg [.int .i64 4, .int .i64 13, .int .i64 2]], .sl [.agg [.int .i64 12, .int .i64 (-1), .int .i64 8], .agg [.int .i64 8, .int .i64 4, .int .i64 1]], .sl [.int .i64 8, .int .i64 0], .sl [.int .i64 5]])], .d (.int .i64 8)⟩
theorem e21 : evT Try.prog wr lits t20 60 k21.f k21.as [] = some (k21.r, []) := by kernel_rfl
def t21 : List Known1 := k21 :: t20
theorem o21 : TabOk Try.prog t21 := ⟨evT_ok m o20 60 _ _ _ _ _ e21, o20⟩
def k22 : Known1 := ⟨10, [.d (.agg [.int .i64 9, .sl [.int .i64 18], .sl [.agg [.int .i64 4, .int .i64 13, .int .i64 2]], .sl [.agg [.int .i64 12, .int .i64 (-1), .int .i64 8], .agg [.int .i64 8, .int .i64 4, .int .i64 1]], .sl [.int .i64 8, .int .i64 0], .sl [.int .i64 5]])], .tup [.agg [.d (.int .i64 0), .emp true, .emp true, .emp true, .emp true], .emp true, .d (.int .i64 8)]⟩
theorem e22 : evT Try.prog wr lits t21 60 k22.f k22.as [] = some (k22.r, []) := by kernel_rfl
def t22 : List Known1 := k22 :: t21
theorem o22 : TabOk Try.prog t22 := ⟨evT_ok m o21 60 _ _ _ _ _ e22, o21⟩
def k23 : Known1 := ⟨17, [.d (.agg [.int .i64 9, .sl [.int .i64 18], .sl [.agg [.int .i64 4, .int .i64 13, .int .i64 2]], .sl [.agg [.int .i64 12, .int .i64 19, .int .i64 8], .agg [.int .i64 8, .int .i64 4, .int .i64 1]], .sl [.int .i64 20], .sl [.int .i64 5]])], .d (.int .i64 8)⟩
theorem e23 : evT Try.prog wr lits t22 60 k23.f k23.as [] = some (k23.r, []) := by kernel_rfl
def t23 : List Known1 := k23 :: t22
theorem o23 : TabOk Try.prog t23 := ⟨evT_ok m o22 60 _ _ _ _ _ e23, o22⟩
def k24 : Known1 := ⟨10, [.d (.agg [.int .i64 9, .sl [.int .i64 18], .sl [.agg [.int .i64 4, .int .i64 13, .int .i64 2]], .sl [.agg [.int .i64 12, .int .i64 19, .int .i64 8], .agg [.int .i64 8, .int .i64 4, .int .i64 1]], .sl [.int .i64 20], .sl [.int .i64 5]])], .tup [.agg [.d (.int .i64 0), .emp true, .emp true, .emp true, .emp true], .emp true, .d (.int .i64 8)]⟩
theorem e24 : evT Try.prog wr lits t23 60 k24.f k24.as [] = some (k24.r, []) := by kernel_rfl
def t24 : List Known1 := k24 :: t23
theorem o24 : TabOk Try.prog t24 := ⟨evT_ok m o23 60 _ _ _ _ _ e24, o23⟩
def k25 : Known1 := ⟨17, [.d (.agg [.int .i64 9, .sl [.int .i64 18, .int .i64 4], .sl [.agg [.int .i64 4, .int .i64 13, .int .i64 2]], .sl [.agg [.int .i64 12, .int .i64 19, .int .i64 8], .agg [.int .i64 8, .int .i64 4, .int .i64 1]], .sl [.int .i64 8, .int .i64 0], .sl [.int .i64 5]])], .d (.int .i64 43)⟩
theorem e25 : evT Try.prog wr lits t24 60 k25.f k25.as [] = some (k25.r, []) := by kernel_rfl
def t25 : List Known1 := k25 :: t24
theorem o25 : TabOk Try.prog t25 := ⟨evT_ok m o24 60 _ _ _ _ _ e25, o24⟩
def k26 : Known1 := ⟨10, [.d (.agg [.int .i64 9, .sl [.int .i64 18, .int .i64 4], .sl [.agg [.int .i64 4, .int .i64 13, .int .i64 2]], .sl [.agg [.int .i64 12, .int .i64 19, .int .i64 8], .agg [.int .i64 8, .int .i64 4, .int .i64 1]], .sl [.int .i64 8, .int .i64 0], .sl [.int .i64 5]])], .tup [.agg [.d (.int .i64 0), .emp true, .emp true, .emp true, .emp true], .emp true, .d (.int .i64 43)]⟩
theorem e26 : evT Try.prog wr lits t25 60 k26.f k26.as [] = some (k26.r, []) := by kernel_rfl
def t26 : List Known1 := k26 :: t25
theorem o26 : TabOk Try.prog t26 := ⟨evT_ok m o25 60 _ _ _ _ _ e26, o25⟩
def k27 : Known1 := ⟨17, [.d (.agg [.int .i64 9, .sl [.int .i64 18], .sl [.agg [.int .i64 4, .int .i64 13, .int .i64 2]], .sl [.agg [.int .i64 12, .int .i64 19, .int .i64 8], .agg [.int .i64 18, .int .i64 4, .int .i64 1]], .sl [.int .i64 8, .int .i64 0], .sl [.int .i64 5]])], .d (.int .i64 43)⟩
theorem e27 : evT Try.prog wr lits t26 60 k27.f k27.as [] = some (k27.r, []) := by kernel_rfl
def t27 : List Known1 := k27 :: t26
theorem o27 : TabOk Try.prog t27 := ⟨evT_ok m o26 60 _ _ _ _ _ e27, o26⟩
def k28 : Known1 := ⟨10, [.d (.agg [.int .i64 9, .sl [.int .i64 18], .sl [.agg [.int .i64 4, .int .i64 13, .int .i64 2]], .sl [.agg [.int .i64 12, .int .i64 19, .int .i64 8], .agg [.int .i64 18, .int .i64 4, .int .i64 1]], .sl [.int .i64 8, .int .i64 0], .sl [.int .i64 5]])], .tup [.agg [.d (.int .i64 0), .emp true, .emp true, .emp true, .emp true], .emp true, .d (.int .i64 43)]⟩
theorem e28 : evT Try.prog wr lits t27 60 k28.f k28.as [] = some (k28.r, []) := by kernel_rfl
def t28 : List Known1 := k28 :: t27
theorem o28 : TabOk Try.prog t28 := ⟨evT_ok m o27 60 _ _ _ _ _ e28, o27⟩
def k29 : Known1 := ⟨17, [.d (.agg [.int .i64 9, .sl [.int .i64 18], .sl [.agg [.int .i64 4, .int .i64 13, .int .i64 2]], .sl [.agg [.int .i64 12, .int .i64 19, .int .i64 8], .agg [.int .i64 8, .int .i64 4, .int .i64 1]], .sl [.int .i64 8, .int .i64 0], .sl [.int .i64 2]])], .d (.int .i64 46)⟩
theorem e29 : evT Try.prog wr lits t28 60 k29.f k29.as [] = some (k29.r, []) := by kernel_rfl
def t29 : List Known1 := k29 :: t28
theorem o29 : TabOk Try.prog t29 := ⟨evT_ok m o28 60 _ _ _ _ _ e29, o28⟩
def k30 : Known1 := ⟨10, [.d (.agg [.int .i64 9, .sl [.int .i64 18], .sl [.agg [.int .i64 4, .int .i64 13, .int .i64 2]], .sl [.agg [.int .i64 12, .int .i64 19, .int .i64 8], .agg [.int .i64 8, .int .i64 4, .int .i64 1]], .sl [.int .i64 8, .int .i64 0], .sl [.int .i64 2]])], .tup [.agg [.d (.int .i64 0), .emp true, .emp true, .emp true, .emp true], .emp true, .d (.int .i64 46)]⟩
theorem e30 : evT Try.prog wr lits t29 60 k30.f k30.as [] = some (k30.r, []) := by kernel_rfl
def t30 : List Known1 := k30 :: t29
theorem o30 : TabOk Try.prog t30 := ⟨evT_ok m o29 60 _ _ _ _ _ e30, o29⟩
def k31 : Known1 := ⟨17, [.d (.agg [.int .i64 9, .sl [.int .i64 18], .sl [.agg [.int .i64 4, .int .i64 7, .int .i64 2]], .sl [.agg [.int .i64 12, .int .i64 19, .int .i64 8], .agg [.int .i64 8, .int .i64 4, .int .i64 1]], .sl [.int .i64 8, .int .i64 0], .sl [.int .i64 5]])], .d (.int .i64 46)⟩
theorem e31 : evT Try.prog wr lits t30 60 k31.f k31.as [] = some (k31.r, []) := by kernel_rfl
def t31 : List Known1 := k31 :: t30
theorem o31 : TabOk Try.prog t31 := ⟨evT_ok m o30 60 _ _ _ _ _ e31, o30⟩
def k32 : Known1 := ⟨10, [.d (.agg [.int .i64 9, .sl [.int .i64 18], .sl [.agg [.int .i64 4, .int .i64 7, .int .i64 2]], .sl [.agg [.int .i64 12, .int .i64 19, .int .i64 8], .agg [.int .i64 8, .int .i64 4, .int .i64 1]], .sl [.int .i64 8, .int .i64 0], .sl [.int .i64 5]])], .tup [.agg [.d (.int .i64 0), .emp true, .emp true, .emp true, .emp true], .emp true, .d (.int .i64 46)]⟩
theorem e32 : evT Try.prog wr lits t31 60 k32.f k32.as [] = some (k32.r, []) := by kernel_rfl
def t32 : List Known1 := k32 :: t31
theorem o32 : TabOk Try.prog t32 := ⟨evT_ok m o31 60 _ _ _ _ _ e32, o31⟩
def k33 : Known1 := ⟨17, [.d (.agg [.int .i64 9, .sl [.int .i64 18], .sl [.agg [.int .i64 4, .int .i64 13, .int .i64 2]], .sl [.agg [.int .i64 12, .int .i64 19, .int .i64 8], .agg [.int .i64 8, .int .i64 9, .int .i64 1]], .sl [.int .i64 8, .int .i64 0], .sl [.int .i64 5]])], .d (.int .i64 41)⟩
theorem e33 : evT Try.prog wr lits t32 60 k33.f k33.as [] = some (k33.r, []) := by kernel_rfl
def t33 : List Known1 := k33 :: t32
theorem o33 : TabOk Try.prog t33 := ⟨evT_ok m o32 60 _ _ _ _ _ e33, o32⟩
def k34 : Known1 := ⟨10, [.d (.agg [.int .i64 9, .sl [.int .i64 18], .sl [.agg [.int .i64 4, .int .i64 13, .int .i64 2]], .sl [.agg [.int .i64 12, .int .i64 19, .int .i64 8], .agg [.int .i64 8, .int .i64 9, .int .i64 1]], .sl [.int .i64 8, .int .i64 0], .sl [.int .i64 5]])], .tup [.agg [.d (.int .i64 0), .emp true, .emp true, .emp true, .emp true], .emp true, .d (.int .i64 41)]⟩
theorem e34 : evT Try.prog wr lits t33 60 k34.f k34.as [] = some (k34.r, []) := by kernel_rfl
def t34 : List Known1 := k34 :: t33
theorem o34 : TabOk Try.prog t34 := ⟨evT_ok m o33 60 _ _ _ _ _ e34, o33⟩
def k35 : Known1 := ⟨17, [.d (.agg [.int .i64 9, .sl [.int .i64 18], .sl [.agg [.int .i64 4, .int .i64 13, .int .i64 2]], .sl [.agg [.int .i64 12, .int .i64 19, .int .i64 8], .agg [.int .i64 8, .int .i64 4, .int .i64 12]], .sl [.int .i64 8, .int .i64 0], .sl [.int .i64 5]])], .d (.int .i64 41)⟩
theorem e35 : evT Try.prog wr lits t34 60 k35.f k35.as [] = some (k35.r, []) := by kernel_rfl
def t35 : List Known1 := k35 :: t34
theorem o35 : TabOk Try.prog t35 := ⟨evT_ok m o34 60 _ _ _ _ _ e35, o34⟩
def k36 : Known1 := ⟨10, [.d (.agg [.int .i64 9, .sl [.int .i64 18], .sl [.agg [.int .i64 4, .int .i64 13, .int .i64 2]], .sl [.agg [.int .i64 12, .int .i64 19, .int .i64 8], .agg [.int .i64 8, .int .i64 4, .int .i64 12]], .sl [.int .i64 8, .int .i64 0], .sl [.int .i64 5]])], .tup [.agg [.d (.int .i64 0), .emp true, .emp true, .emp true, .emp true], .emp true, .d (.int .i64 41)]⟩
theorem e36 : evT Try.prog wr lits t35 60 k36.f k36.as [] = some (k36.r, []) := by kernel_rfl
def t36 : List Known1 := k36 :: t35
theorem o36 : TabOk Try.prog t36 := ⟨evT_ok m o35 60 _ _ _ _ _ e36, o35⟩
def k37 : Known1 := ⟨17, [.agg [.d (.int .i64 0), .emp true, .emp true, .emp true, .emp true, .emp true]], .d (.int .i64 0)⟩
theorem e37 : evT Try.prog wr lits t36 60 k37.f k37.as [] = some (k37.r, []) := by kernel_rfl
def t37 : List Known1 := k37 :: t36
theorem o37 : TabOk Try.prog t37 := ⟨evT_ok m o36 60 _ _ _ _ _ e37, o36⟩
def k38 : Known1 := ⟨10, [.agg [.d (.int .i64 0), .emp true, .emp true, .emp true, .emp true, .emp true]], .tup [.agg [.d (.int .i64 0), .emp true, .emp true, .emp true, .emp true], .own 3 [.int .i64 0], .d (.int .i64 0)]⟩
theorem e38 : evT Try.prog wr lits t37 60 k38.f k38.as [] = some (k38.r, []) := by kernel_rfl
def t38 : List Known1 := k38 :: t37
theorem o38 : TabOk Try.prog t38 := ⟨evT_ok m o37 60 _ _ _ _ _ e38, o37⟩
def k39 : Known1 := ⟨17, [.agg [.d (.int .i64 4), .d (.sl [.int .i64 2, .int .i64 4]), .emp true, .d (.sl [.agg [.int .i64 6, .int .i64 4, .int .i64 8], .agg [.int .i64 8, .int .i64 2, .int .i64 4]]), .emp true, .emp true]], .d (.int .i64 0)⟩
theorem e39 : evT Try.prog wr lits t38 60 k39.f k39.as [] = some (k39.r, []) := by kernel_rfl
def t39 : List Known1 := k39 :: t38
theorem o39 : TabOk Try.prog t39 := ⟨evT_ok m o38 60 _ _ _ _ _ e39, o38⟩
def k40 : Known1 := ⟨10, [.agg [.d (.int .i64 4), .d (.sl [.int .i64 2, .int .i64 4]), .emp true, .d (.sl [.agg [.int .i64 6, .int .i64 4, .int .i64 8], .agg [.int .i64 8, .int .i64 2, .int .i64 4]]), .emp true, .emp true]], .tup [.agg [.d (.int .i64 2), .emp true, .own 48 [.agg [.int .i64 4, .int .i64 2], .agg [.int .i64 6, .int .i64 4]], .emp true, .emp true], .own 3 [.int .i64 0, .int .i64 1, .int .i64 2, .int .i64 4, .int .i64 3], .d (.int .i64 0)]⟩
theorem e40 : evT Try.prog wr lits t39 60 k40.f k40.as [] = some (k40.r, []) := by kernel_rfl
def t40 : List Known1 := k40 :: t39
theorem o40 : TabOk Try.prog t40 := ⟨evT_ok m o39 60 _ _ _ _ _ e40, o39⟩
def k41 : Known1 := ⟨17, [.agg [.d (.int .i64 4), .d (.sl [.int .i64 2, .int .i64 4]), .emp true, .d (.sl [.agg [.int .i64 6, .int .i64 8, .int .i64 2], .agg [.int .i64 8, .int .i64 6, .int .i64 2]]), .emp true, .emp true]], .d (.int .i64 41)⟩
theorem e41 : evT Try.prog wr lits t40 60 k41.f k41.as [] = some (k41.r, []) := by kernel_rfl
def t41 : List Known1 := k41 :: t40
theorem o41 : TabOk Try.prog t41 := ⟨evT_ok m o40 60 _ _ _ _ _ e41, o40⟩
theorem whole : evT Try.prog wr lits t41 60 6 [] [] = some (.d (.bool true), []) := by kernel_rfl
theorem icall : ICall Try.prog 6 [] [] (.d (.bool true)) [] := evT_ok m o41 60 _ _ _ _ _ whole
end Go.Proofs.Ytbbefbgomdmldaa.MemoOrderNames
