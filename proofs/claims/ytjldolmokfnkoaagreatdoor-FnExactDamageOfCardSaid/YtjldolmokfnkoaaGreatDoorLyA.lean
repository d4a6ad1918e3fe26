/- The code of the functions, as the interpreter reads it. Conditions: none. -/
import Derived.Test.YtjldolmokfnkoaaGreatDoorFwYa
namespace Go.Fw.Law
open Go Go.Fw
/-- loop.example/drawnanew/laws.FnExactDamageOf -/
def b5 : Ir := .gh (.frz 0) (.gh (.frz 1) (.gh (.frz 2) (.seq (reg [.box 5 (T 0), .box 6 (T 1), .mov 10 (.c (.bool false))]) (.seq (reg [.mov 11 (I 1048576)]) (.seq (reg [.load 17 5 [] (some (.b 5)) 5 true .bo, oM 18 11, .call 19 8 [.v (T 17), .v (T 18)] false, oM 11 19]) (.seq (.seq (reg [oM 20 11, .bin 21 .lss (T 20) (I 0)]) (.cond (T 21) (.seq (reg [.mov 10 (.c (.bool true))]) .ret) .skip)) (.seq (reg [.load 22 6 [] (some (.b 6)) 5 true .bo, oM 23 11, .call 24 8 [.v (T 22), .v (T 23)] false, oM 11 24]) (.seq (.seq (reg [oM 25 11, .bin 26 .lss (T 25) (I 0)]) (.cond (T 26) (.seq (reg [.mov 10 (.c (.bool true))]) .ret) .skip)) (.seq (reg [.alias 27 2 [], oM 28 11, .call 29 9 [.v (T 27), .v (T 28)] false, oM 11 29]) (.seq (.seq (reg [oM 30 11, .bin 31 .lss (T 30) (I 0)]) (.cond (T 31) (.seq (reg [.mov 10 (.c (.bool true))]) .ret) .skip)) (.seq (reg [.load 32 5 [] (some (.b 5)) 5 true .bo, .call 33 11 [.v (T 32)] false, .load 34 6 [] (some (.b 6)) 5 true .bo, .call 35 11 [.v (T 34)] false, .alias 36 2 [], .call 37 12 [.v (T 36)] false, oM 38 3, oM 39 4, .call 40 23 [.v (.m 33), .v (.m 35), .v (.m 37), .v (T 38), .v (T 39)] false, .alloc 12 [.int .i64 0, .int .i64 0, .int .i64 0, .int .i64 0], .store 12 [] (.b 12) 4 (T 40)]) (.seq (reg [.load 41 5 [] (some (.b 5)) 5 true .bo, .call 42 11 [.v (T 41)] false, .alloc 13 [.int .i64 0, .int .i64 0, .str [], .sl .sh 4 [], .sl .sh 5 []], .store 13 [] (.b 13) 5 (.m 42)]) (.gh (.frzb 13) (.seq (reg [.load 43 6 [] (some (.b 6)) 5 true .bo, .call 44 11 [.v (T 43)] false, .alloc 14 [.int .i64 0, .int .i64 0, .str [], .sl .sh 4 [], .sl .sh 5 []], .store 14 [] (.b 14) 5 (.m 44)]) (.gh (.frzb 14) (.seq (reg [.alias 45 2 [], .call 46 12 [.v (T 45)] false, .mov 15 (.m 46)]) (.gh (.frz 15) (.seq (reg [.load 47 13 [] (some (.b 13)) 5 true .bo, .load 48 14 [] (some (.b 14)) 5 true .bo, .alias 49 15 [], oM 50 3, oM 51 4, .call 52 24 [.v (T 47), .v (T 48), .v (T 49), .v (T 50), .v (T 51)] false, .alloc 16 [.int .i64 0, .int .i64 0, .int .i64 0, .int .i64 0], .store 16 [] (.b 16) 4 (T 52)]) (.seq (.seq (reg [.load 53 16 [] (some (.b 16)) 4 true .cp, .load 54 12 [] (some (.b 12)) 4 true .cp, .call 55 25 [.v (T 53), .v (T 54)] false, .not 56 (T 55)]) (.cond (T 56) (.seq (reg [.mov 10 (.c (.bool false))]) .ret) .skip)) (.seq (.seq (reg [.load 57 13 [] (some (.b 13)) 5 true .bo, .load 58 5 [] (some (.b 5)) 5 true .bo, .call 59 11 [.v (T 58)] false, .call 60 14 [.v (T 57), .v (.m 59)] false, .not 61 (T 60)]) (.cond (T 61) (.seq (reg [.mov 10 (.c (.bool false))]) .ret) .skip)) (.seq (.seq (reg [.load 62 14 [] (some (.b 14)) 5 true .bo, .load 63 6 [] (some (.b 6)) 5 true .bo, .call 64 11 [.v (T 63)] false, .call 65 14 [.v (T 62), .v (.m 64)] false, .not 66 (T 65)]) (.cond (T 66) (.seq (reg [.mov 10 (.c (.bool false))]) .ret) .skip)) (.seq (.seq (reg [oM 67 15, oM 68 2, .call 69 12 [.v (T 68)] false, .call 70 15 [.v (T 67), .v (.m 69)] false, .not 71 (T 70)]) (.cond (T 71) (.seq (reg [.mov 10 (.c (.bool false))]) .ret) .skip)) (.seq (reg [.mov 10 (.c (.bool true))]) .ret)))))))))))))))))))))))
def R5 : List RS := [.t 10]
def fi5 : Fi := ⟨b5, R5⟩

/-- loop.example/drawnanew/laws.szTree -/
def b8 : Ir := .gh (.frz 0) (.seq (reg [.box 2 (T 0), .mov 4 (I 0)]) (.seq (reg [oM 5 1, .fad 6 2 [] 2, oL 7 6 2, .slen 8 (T 7), .bin 9 .sub (T 5) (T 8), oM 1 9]) (.seq (.seq (reg [oM 10 1, .bin 11 .lss (T 10) (I 0)]) (.cond (T 11) (.seq (reg [.mov 4 (I (-1))]) .ret) .skip)) (.seq (reg [.fad 12 2 [] 3, .load 13 12 [] (some (.b 2)) 1 false .al, oM 14 1, .call 15 33 [.v (T 13), .v (T 14)] false, oM 1 15]) (.seq (.seq (reg [oM 16 1, .bin 17 .lss (T 16) (I 0)]) (.cond (T 17) (.seq (reg [.mov 4 (I (-1))]) .ret) .skip)) (.seq (reg [.fad 18 2 [] 4, .load 19 18 [] (some (.b 2)) 1 false .mv, oM 20 1, .call 21 34 [.v (T 19), .v (T 20)] false, oM 1 21]) (.seq (.seq (reg [oM 22 1, .bin 23 .lss (T 22) (I 0)]) (.cond (T 23) (.seq (reg [.mov 4 (I (-1))]) .ret) .skip)) (.seq (reg [oM 24 1, oM 4 24]) .ret))))))))
def R8 : List RS := [.t 4]
def fi8 : Fi := ⟨b8, R8⟩

/-- loop.example/drawnanew/laws.szRuleS -/
def k9_1 : Ir := .seq (reg [oM 26 1, oM 4 26]) .ret
def d9_1 : Ir := .seq (.seq (reg [oM 12 5, .alias 13 0 [], .len 14 (T 13) none, .bin 15 .lss (T 12) (T 14)]) (.cond (T 15) .skip (.exit 0))) (.seq (.block 1 (.seq (reg [.alias 18 0 [], oM 19 5, .iad 20 18 [] none (T 19) 8, .load 21 20 [] none 8 true .cp, oM 22 1, .call 23 35 [.v (T 21), .v (T 22)] false, oM 1 23]) (.seq (reg [oM 24 1, .bin 25 .lss (T 24) (I 0)]) (.cond (T 25) (.seq (reg [.mov 4 (I (-1))]) .ret) .skip)))) (reg [oM 16 5, .bin 17 .add (T 16) (I 1), oM 5 17]))
def c9_1 : Ir := d9_1
def g9_1 : Ir := .gh (.keep [0, 1, 5] []) c9_1
def b9 : Ir := .gh (.frz 0) (.seq (reg [.mov 4 (I 0)]) (.seq (reg [oM 6 1, .alias 7 0 [], .len 8 (T 7) none, .bin 9 .sub (T 6) (T 8), oM 1 9]) (.seq (.seq (reg [oM 10 1, .bin 11 .lss (T 10) (I 0)]) (.cond (T 11) (.seq (reg [.mov 4 (I (-1))]) .ret) .skip)) (.seq (.seq (reg [.mov 5 (I 0)]) (.block 0 (.loop g9_1))) k9_1))))
def R9 : List RS := [.t 4]
def fi9 : Fi := ⟨b9, R9⟩

/-- loop.example/drawnanew/laws.toTree -/
def b11 : Ir := .gh (.frz 0) (.seq (reg [.box 1 (T 0), .alloc 2 [.int .i64 0, .int .i64 0, .str [], .sl .own 4 [], .sl .own 5 []]]) (.seq (reg [.alloc 3 [.int .i64 0, .int .i64 0, .str [], .sl .own 4 [], .sl .own 5 []]]) (.seq (reg [.fad 4 1 [] 0, oL 5 4 1, .fad 6 3 [] 0, .store 6 [] (.b 3) 1 (T 5)]) (.seq (reg [.fad 7 1 [] 1, oL 8 7 1, .fad 9 3 [] 1, .store 9 [] (.b 3) 1 (T 8)]) (.seq (reg [.fad 10 1 [] 2, oL 11 10 1, .fad 12 3 [] 2, .store 12 [] (.b 3) 1 (T 11)]) (.seq (reg [.fad 13 1 [] 3, .load 14 13 [] (some (.b 1)) 1 false .al, .call 15 39 [.v (T 14)] false, .fad 16 3 [] 3, .store 16 [] (.b 3) 1 (.m 15)]) (.seq (reg [.fad 17 1 [] 4, .load 18 17 [] (some (.b 1)) 1 false .mv, .call 19 40 [.v (T 18)] false, .fad 20 3 [] 4, .store 20 [] (.b 3) 1 (.m 19)]) (.seq (reg [.load 21 3 [] (some (.b 3)) 5 true .mv, .store 2 [] (.b 2) 5 (.m 21)]) .ret))))))))
def R11 : List RS := [.c 2 5 true]
def fi11 : Fi := ⟨b11, R11⟩

/-- loop.example/drawnanew/laws.toRuleS -/
def k12_1 : Ir := .seq (reg [.mov 22 (.m 3), .mov 2 (.m 22)]) .ret
def d12_1 : Ir := .seq (.seq (reg [oM 8 4, .alias 9 0 [], .len 10 (T 9) none, .bin 11 .lss (T 8) (T 10)]) (.cond (T 11) .skip (.exit 0))) (.seq (.block 1 (reg [.alias 14 3 [], oM 15 4, .alias 16 0 [], oM 17 4, .iad 18 16 [] none (T 17) 8, .load 19 18 [] none 8 true .cp, .call 20 41 [.v (T 19)] false, .iad 21 14 [.t 3] (some (.t 3)) (T 15) 8, .store 21 [.t 3] (.t 3) 8 (T 20)])) (reg [oM 12 4, .bin 13 .add (T 12) (I 1), oM 4 13]))
def c12_1 : Ir := d12_1
def g12_1 : Ir := .gh (.keep [0, 3, 4] []) c12_1
def b12 : Ir := .gh (.frz 0) (.seq (reg [.mov 2 (.c (.sl .sh 8 []))]) (.seq (reg [.alias 5 0 [], .len 6 (T 5) none, .make 7 8 [.int .i64 0, .int .i64 0, .int .i64 0, .int .i64 0, .int .i64 0, .str [], .int .i64 0, .int .i64 0] 72 (T 6), .mov 3 (.m 7)]) (.seq (.seq (reg [.mov 4 (I 0)]) (.block 0 (.loop g12_1))) k12_1)))
def R12 : List RS := [.t 2]
def fi12 : Fi := ⟨b12, R12⟩

/-- loop.example/drawnanew/laws.eqTree -/
def b14 : Ir := .gh (.frz 0) (.gh (.frz 1) (.seq (reg [.box 2 (T 0), .box 3 (T 1), .mov 4 (.c (.bool false))]) (.seq (.seq (reg [.fad 5 2 [] 0, oL 6 5 2, .fad 7 3 [] 0, oL 8 7 3, .bin 9 .neq (T 6) (T 8)]) (.cond (T 9) (.seq (reg [.mov 4 (.c (.bool false))]) .ret) .skip)) (.seq (.seq (reg [.fad 10 2 [] 1, oL 11 10 2, .fad 12 3 [] 1, oL 13 12 3, .bin 14 .neq (T 11) (T 13)]) (.cond (T 14) (.seq (reg [.mov 4 (.c (.bool false))]) .ret) .skip)) (.seq (.seq (reg [.fad 15 2 [] 2, oL 16 15 2, .fad 17 3 [] 2, oL 18 17 3, .sbin 19 .neq (T 16) (T 18)]) (.cond (T 19) (.seq (reg [.mov 4 (.c (.bool false))]) .ret) .skip)) (.seq (.seq (reg [.fad 20 2 [] 3, .load 21 20 [] (some (.b 2)) 1 false .al, .fad 22 3 [] 3, .load 23 22 [] (some (.b 3)) 1 false .al, .call 24 45 [.v (T 21), .v (T 23)] false, .not 25 (T 24)]) (.cond (T 25) (.seq (reg [.mov 4 (.c (.bool false))]) .ret) .skip)) (.seq (.seq (reg [.fad 26 2 [] 4, .load 27 26 [] (some (.b 2)) 1 false .mv, .fad 28 3 [] 4, .load 29 28 [] (some (.b 3)) 1 false .mv, .call 30 46 [.v (T 27), .v (T 29)] false, .not 31 (T 30)]) (.cond (T 31) (.seq (reg [.mov 4 (.c (.bool false))]) .ret) .skip)) (.seq (reg [.mov 4 (.c (.bool true))]) .ret))))))))
def R14 : List RS := [.t 4]
def fi14 : Fi := ⟨b14, R14⟩

/-- loop.example/drawnanew/laws.eqRuleS -/
def k15_1 : Ir := .seq (reg [.mov 4 (.c (.bool true))]) .ret
def d15_1 : Ir := .seq (.seq (reg [oM 11 5, .alias 12 0 [], .len 13 (T 12) none, .bin 14 .lss (T 11) (T 13)]) (.cond (T 14) .skip (.exit 0))) (.seq (.block 1 (.seq (reg [.alias 17 0 [], oM 18 5, .iad 19 17 [] none (T 18) 8, .load 20 19 [] none 8 true .cp, .alias 21 1 [], oM 22 5, .iad 23 21 [] none (T 22) 8, .load 24 23 [] none 8 true .cp, .call 25 47 [.v (T 20), .v (T 24)] false, .not 26 (T 25)]) (.cond (T 26) (.seq (reg [.mov 4 (.c (.bool false))]) .ret) .skip))) (reg [oM 15 5, .bin 16 .add (T 15) (I 1), oM 5 16]))
def c15_1 : Ir := d15_1
def g15_1 : Ir := .gh (.keep [0, 1, 5] []) c15_1
def b15 : Ir := .gh (.frz 0) (.gh (.frz 1) (.seq (reg [.mov 4 (.c (.bool false))]) (.seq (.seq (reg [.alias 6 0 [], .len 7 (T 6) none, .alias 8 1 [], .len 9 (T 8) none, .bin 10 .neq (T 7) (T 9)]) (.cond (T 10) (.seq (reg [.mov 4 (.c (.bool false))]) .ret) .skip)) (.seq (.seq (reg [.mov 5 (I 0)]) (.block 0 (.loop g15_1))) k15_1))))
def R15 : List RS := [.t 4]
def fi15 : Fi := ⟨b15, R15⟩

/-- loop.example/drawnanew/spec.DamageOf -/
def b23 : Ir := .gh (.frz 0) (.gh (.frz 1) (.gh (.frz 2) (.seq (reg [.box 5 (T 0), .box 6 (T 1), .alloc 10 [.int .i64 0, .int .i64 0, .int .i64 0, .int .i64 0]]) (.seq (.seq (.region [⟨none, .load 11 5 [] (some (.b 5)) 5 true .bo⟩, ⟨none, .alias 12 2 []⟩, ⟨none, oM 13 3⟩, ⟨none, oM 14 4⟩, ⟨none, .call 15 36 [.v (T 11), .v (T 12), .v (T 13), .v (T 14)] false⟩, ⟨none, .not 16 (T 15)⟩, ⟨none, oM 17 16⟩, ⟨(some (17, false)), .load 18 6 [] (some (.b 6)) 5 true .bo⟩, ⟨(some (17, false)), .call 19 48 [.v (T 18)] false⟩, ⟨(some (17, false)), .not 20 (T 19)⟩, ⟨none, .pick 21 (T 17) (.c (.bool true)) (T 20)⟩]) (.cond (T 21) (.seq (reg [.build 22 [.int .i64 0, .int .i64 0, .int .i64 0, .int .i64 0] [], .store 10 [] (.b 10) 4 (T 22)]) .ret) .skip)) (.seq (reg [.load 23 5 [] (some (.b 5)) 5 true .bo, .alias 24 2 [], oM 25 3, oM 26 4, .call 27 38 [.v (T 23), .v (T 24), .v (T 25), .v (T 26)] true, .call 28 58 [.bx 27 27] false, .load 29 6 [] (some (.b 6)) 5 true .bo, .alias 30 2 [], oM 31 3, oM 32 4, .call 33 38 [.v (T 29), .v (T 30), .v (T 31), .v (T 32)] true, .call 34 58 [.bx 33 33] false, .call 35 57 [.v (.m 28), .v (.m 34)] false, .store 10 [] (.b 10) 4 (T 35)]) .ret)))))
def R23 : List RS := [.c 10 4 true]
def fi23 : Fi := ⟨b23, R23⟩

/-- loop.example/drawnanew/impl.DamageOf -/
def k24_1 : Ir := .seq (.seq (reg [oM 83 15, .bin 84 .lss (T 83) (I 0)]) (.cond (T 84) (.seq (reg [.build 85 [.int .i64 0, .int .i64 0, .int .i64 0, .int .i64 0] [], .store 10 [] (.b 10) 4 (T 85)]) .ret) .skip)) (.seq (reg [oM 86 13, oM 87 14, oM 88 15, oM 89 13, .bin 90 .sub (T 88) (T 89), .bin 91 .add (T 90) (I 1), oM 92 16, oM 93 14, .bin 94 .sub (T 92) (T 93), .bin 95 .add (T 94) (I 1), .build 96 [.int .i64 0, .int .i64 0, .int .i64 0, .int .i64 0] [(0, 1, (T 86)), (1, 1, (T 87)), (2, 1, (T 91)), (3, 1, (T 95))], .store 10 [] (.b 10) 4 (T 96)]) .ret)
def k24_2 : Ir := reg [.bin 82 .add (T 45) (I 1), oM 45 82]
def d24_2 : Ir := .seq (reg [.bin 54 .lss (T 53) (T 52)]) (.seq (.cond (T 54) .skip (.exit 2)) (.seq (.block 3 (.seq (reg [oM 55 53, oM 18 55]) (.seq (reg [.alias 56 11 [], oM 57 17, .iad 58 56 [] none (T 57) 1, .load 59 58 [] none 1 false .cp, oM 60 18, .idx 61 (T 59) (T 60), .alias 62 12 [], oM 63 17, .iad 64 62 [] none (T 63) 1, .load 65 64 [] none 1 false .cp, oM 66 18, .idx 67 (T 65) (T 66), .bin 68 .neq (T 61) (T 67)]) (.cond (T 68) (reg [oM 69 13, oM 70 18, .mm 71 false (T 69) (T 70), oM 72 14, oM 73 17, .mm 74 false (T 72) (T 73), oM 75 15, oM 76 18, .mm 77 true (T 75) (T 76), oM 78 16, oM 79 17, .mm 80 true (T 78) (T 79), oM 13 71, oM 14 74, oM 15 77, oM 16 80]) .skip)))) (reg [.bin 81 .add (T 53) (I 1), oM 53 81])))
def c24_2 : Ir := d24_2
def g24_2 : Ir := .gh (.keep [10, 11, 12, 13, 14, 15, 16, 17, 44, 45, 52, 53] [10]) c24_2
def d24_1 : Ir := .seq (reg [.bin 46 .lss (T 45) (T 44)]) (.seq (.cond (T 46) .skip (.exit 0)) (.seq (.block 1 (.seq (reg [oM 47 45, oM 17 47]) (.seq (reg [.alias 48 11 [], oM 49 17, .iad 50 48 [] none (T 49) 1, .load 51 50 [] none 1 false .cp, .slen 52 (T 51), .mov 53 (I 0)]) (.block 2 (.loop g24_2))))) k24_2))
def c24_1 : Ir := d24_1
def g24_1 : Ir := .gh (.keep [10, 11, 12, 13, 14, 15, 16, 44, 45] [10]) c24_1
def b24 : Ir := .gh (.frz 0) (.gh (.frz 1) (.gh (.frz 2) (.seq (reg [.box 5 (T 0), .box 6 (T 1), .alloc 10 [.int .i64 0, .int .i64 0, .int .i64 0, .int .i64 0]]) (.seq (.seq (.region [⟨none, .load 19 5 [] (some (.b 5)) 5 true .bo⟩, ⟨none, .alias 20 2 []⟩, ⟨none, oM 21 3⟩, ⟨none, oM 22 4⟩, ⟨none, .call 23 42 [.v (T 19), .v (T 20), .v (T 21), .v (T 22)] false⟩, ⟨none, .not 24 (T 23)⟩, ⟨none, oM 25 24⟩, ⟨(some (25, false)), .load 26 6 [] (some (.b 6)) 5 true .bo⟩, ⟨(some (25, false)), .call 27 51 [.v (T 26)] false⟩, ⟨(some (25, false)), .not 28 (T 27)⟩, ⟨none, .pick 29 (T 25) (.c (.bool true)) (T 28)⟩]) (.cond (T 29) (.seq (reg [.build 30 [.int .i64 0, .int .i64 0, .int .i64 0, .int .i64 0] [], .store 10 [] (.b 10) 4 (T 30)]) .ret) .skip)) (.seq (reg [.load 31 5 [] (some (.b 5)) 5 true .bo, .alias 32 2 [], oM 33 3, oM 34 4, .call 35 59 [.v (T 31), .v (T 32), .v (T 33), .v (T 34)] false, .load 36 6 [] (some (.b 6)) 5 true .bo, .alias 37 2 [], oM 38 3, oM 39 4, .call 40 59 [.v (T 36), .v (T 37), .v (T 38), .v (T 39)] false, .mov 11 (.m 35), .mov 12 (.m 40)]) (.gh (.frz 11) (.gh (.frz 12) (.seq (reg [oM 41 3, oM 42 4, oM 13 41, oM 14 42, .mov 15 (I (-1)), .mov 16 (I (-1))]) (.seq (.seq (reg [.alias 43 11 [], .len 44 (T 43) none, .mov 45 (I 0)]) (.block 0 (.loop g24_1))) k24_1)))))))))
def R24 : List RS := [.c 10 4 true]
def fi24 : Fi := ⟨b24, R24⟩

/-- loop.example/drawnanew/laws.eqBox -/
def b25 : Ir := .seq (reg [.box 2 (T 0), .box 3 (T 1), .mov 4 (.c (.bool false))]) (.seq (.seq (reg [.fad 5 2 [] 0, oL 6 5 2, .fad 7 3 [] 0, oL 8 7 3, .bin 9 .neq (T 6) (T 8)]) (.cond (T 9) (.seq (reg [.mov 4 (.c (.bool false))]) .ret) .skip)) (.seq (.seq (reg [.fad 10 2 [] 1, oL 11 10 2, .fad 12 3 [] 1, oL 13 12 3, .bin 14 .neq (T 11) (T 13)]) (.cond (T 14) (.seq (reg [.mov 4 (.c (.bool false))]) .ret) .skip)) (.seq (.seq (reg [.fad 15 2 [] 2, oL 16 15 2, .fad 17 3 [] 2, oL 18 17 3, .bin 19 .neq (T 16) (T 18)]) (.cond (T 19) (.seq (reg [.mov 4 (.c (.bool false))]) .ret) .skip)) (.seq (.seq (reg [.fad 20 2 [] 3, oL 21 20 2, .fad 22 3 [] 3, oL 23 22 3, .bin 24 .neq (T 21) (T 23)]) (.cond (T 24) (.seq (reg [.mov 4 (.c (.bool false))]) .ret) .skip)) (.seq (reg [.mov 4 (.c (.bool true))]) .ret)))))
def R25 : List RS := [.t 4]
def fi25 : Fi := ⟨b25, R25⟩

/-- loop.example/drawnanew/laws.szPropS -/
def k33_1 : Ir := .seq (reg [oM 26 1, oM 4 26]) .ret
def d33_1 : Ir := .seq (.seq (reg [oM 12 5, .alias 13 0 [], .len 14 (T 13) none, .bin 15 .lss (T 12) (T 14)]) (.cond (T 15) .skip (.exit 0))) (.seq (.block 1 (.seq (reg [.alias 18 0 [], oM 19 5, .iad 20 18 [] none (T 19) 4, .load 21 20 [] none 4 true .cp, oM 22 1, .call 23 67 [.v (T 21), .v (T 22)] false, oM 1 23]) (.seq (reg [oM 24 1, .bin 25 .lss (T 24) (I 0)]) (.cond (T 25) (.seq (reg [.mov 4 (I (-1))]) .ret) .skip)))) (reg [oM 16 5, .bin 17 .add (T 16) (I 1), oM 5 17]))
def c33_1 : Ir := d33_1
def g33_1 : Ir := .gh (.keep [0, 1, 5] []) c33_1
def b33 : Ir := .gh (.frz 0) (.seq (reg [.mov 4 (I 0)]) (.seq (reg [oM 6 1, .alias 7 0 [], .len 8 (T 7) none, .bin 9 .sub (T 6) (T 8), oM 1 9]) (.seq (.seq (reg [oM 10 1, .bin 11 .lss (T 10) (I 0)]) (.cond (T 11) (.seq (reg [.mov 4 (I (-1))]) .ret) .skip)) (.seq (.seq (reg [.mov 5 (I 0)]) (.block 0 (.loop g33_1))) k33_1))))
def R33 : List RS := [.t 4]
def fi33 : Fi := ⟨b33, R33⟩

/-- loop.example/drawnanew/laws.szTreeS -/
def k34_1 : Ir := .seq (reg [oM 26 1, oM 4 26]) .ret
def d34_1 : Ir := .seq (.seq (reg [oM 12 5, .alias 13 0 [], .len 14 (T 13) none, .bin 15 .lss (T 12) (T 14)]) (.cond (T 15) .skip (.exit 0))) (.seq (.block 1 (.seq (reg [.alias 18 0 [], oM 19 5, .iad 20 18 [] none (T 19) 5, .load 21 20 [] none 5 true .bo, oM 22 1, .call 23 8 [.v (T 21), .v (T 22)] false, oM 1 23]) (.seq (reg [oM 24 1, .bin 25 .lss (T 24) (I 0)]) (.cond (T 25) (.seq (reg [.mov 4 (I (-1))]) .ret) .skip)))) (reg [oM 16 5, .bin 17 .add (T 16) (I 1), oM 5 17]))
def c34_1 : Ir := d34_1
def g34_1 : Ir := .gh (.keep [0, 1, 5] []) c34_1
def b34 : Ir := .gh (.frz 0) (.seq (reg [.mov 4 (I 0)]) (.seq (reg [oM 6 1, .alias 7 0 [], .len 8 (T 7) none, .bin 9 .sub (T 6) (T 8), oM 1 9]) (.seq (.seq (reg [oM 10 1, .bin 11 .lss (T 10) (I 0)]) (.cond (T 11) (.seq (reg [.mov 4 (I (-1))]) .ret) .skip)) (.seq (.seq (reg [.mov 5 (I 0)]) (.block 0 (.loop g34_1))) k34_1))))
def R34 : List RS := [.t 4]
def fi34 : Fi := ⟨b34, R34⟩

/-- loop.example/drawnanew/laws.szRule -/
def b35 : Ir := .seq (reg [.box 2 (T 0), .mov 4 (I 0)]) (.seq (reg [.fad 5 2 [] 3, .load 6 5 [] (some (.b 2)) 3 true .cp, oM 7 1, .call 8 68 [.v (T 6), .v (T 7)] false, oM 1 8]) (.seq (.seq (reg [oM 9 1, .bin 10 .lss (T 9) (I 0)]) (.cond (T 10) (.seq (reg [.mov 4 (I (-1))]) .ret) .skip)) (.seq (reg [oM 11 1, oM 4 11]) .ret)))
def R35 : List RS := [.t 4]
def fi35 : Fi := ⟨b35, R35⟩

/-- loop.example/drawnanew/spec.validScreen -/
def b36 : Ir := .gh (.frz 0) (.gh (.frz 1) (.seq (reg [.box 4 (T 0), .mov 8 (.c (.bool false))]) (.seq (.region [⟨none, .load 9 4 [] (some (.b 4)) 5 true .mv⟩, ⟨none, .call 10 48 [.v (T 9)] false⟩, ⟨none, oM 11 10⟩, ⟨(some (11, true)), oM 12 1⟩, ⟨(some (11, true)), .call 13 49 [.v (T 12)] false⟩, ⟨none, .pick 14 (T 11) (T 13) (.c (.bool false))⟩, ⟨none, oM 15 14⟩, ⟨(some (15, true)), oM 16 2⟩, ⟨(some (15, true)), .call 17 37 [.v (T 16), .v (I 0), .v (I 60)] false⟩, ⟨none, .pick 18 (T 15) (T 17) (.c (.bool false))⟩, ⟨none, oM 19 18⟩, ⟨(some (19, true)), oM 20 3⟩, ⟨(some (19, true)), .call 21 37 [.v (T 20), .v (I 0), .v (I 30)] false⟩, ⟨none, .pick 22 (T 19) (T 21) (.c (.bool false))⟩, ⟨none, oM 8 22⟩]) .ret)))
def R36 : List RS := [.t 8]
def fi36 : Fi := ⟨b36, R36⟩

/-- loop.example/drawnanew/spec.inRange -/
def b37 : Ir := .seq (reg [.mov 6 (.c (.bool false))]) (.seq (.region [⟨none, oM 7 0⟩, ⟨none, oM 8 1⟩, ⟨none, .bin 9 .geq (T 7) (T 8)⟩, ⟨none, oM 10 9⟩, ⟨(some (10, true)), oM 11 0⟩, ⟨(some (10, true)), oM 12 2⟩, ⟨(some (10, true)), .bin 13 .leq (T 11) (T 12)⟩, ⟨none, .pick 14 (T 10) (T 13) (.c (.bool false))⟩, ⟨none, oM 6 14⟩]) .ret)
def R37 : List RS := [.t 6]
def fi37 : Fi := ⟨b37, R37⟩

/-- loop.example/drawnanew/spec.painted -/
def k38_1 : Ir := .seq (reg [oM 49 9, .load 50 4 [] (some (.b 4)) 5 true .bo, .mkrow 51 1 [.int .i64 0] 0 [], .make 52 1 [.int .i64 0] 8 (I 5), oM 53 2, oM 54 3, .build 55 [.int .i64 0, .int .i64 0, .int .i64 0, .int .i64 0] [(2, 1, (T 53)), (3, 1, (T 54))], .call 56 69 [.bx 49 27, .v (T 50), .v (.m 51), .v (.m 52), .v (T 55)] false]) (.seq (reg [oM 57 9, oM 8 57]) .ret)
def d38_1 : Ir := .seq (.seq (reg [oM 28 10, oM 29 9, .nilc 30 29 [], .fad 31 30 [] 5, .load 32 31 [] (some (.b 27)) 1 false .al, .len 33 (.t 32 [.b 27]) (some (.b 27)), .bin 34 .lss (T 28) (T 33)]) (.cond (T 34) .skip (.exit 0))) (.seq (.block 1 (.seq (reg [oM 37 9, .nilc 38 37 [], .fad 39 38 [] 5, .load 40 39 [] (some (.b 27)) 1 false .al, oM 41 10, .iad 42 40 [.b 27] (some (.b 27)) (T 41) 1, .store 42 [.b 27] (.b 27) 1 (.c (.int .u8 32))]) (reg [oM 43 9, .nilc 44 43 [], .fad 45 44 [] 6, .load 46 45 [] (some (.b 27)) 1 false .al, oM 47 10, .iad 48 46 [.b 27] (some (.b 27)) (T 47) 1, .store 48 [.b 27] (.b 27) 1 (I (-1))]))) (reg [oM 35 10, .bin 36 .add (T 35) (I 1), oM 10 36]))
def c38_1 : Ir := d38_1
def g38_1 : Ir := .gh (.keep [2, 3, 4, 9, 10] [4, 27]) c38_1
def b38 : Ir := .gh (.frz 0) (.gh (.frz 1) (.seq (reg [.box 4 (T 0), .mov 8 (.c .nilp)]) (.seq (reg [.alias 11 1 [], .load 12 4 [] (some (.b 4)) 5 true .bo, .alias 13 1 [], oM 14 2, .call 15 50 [.v (T 12), .v (T 13), .v (T 14)] false, oM 16 2, oM 17 3, oM 18 2, oM 19 3, .bin 20 .mul (T 18) (T 19), .make 21 1 [.int .u8 0] 1 (T 20), oM 22 2, oM 23 3, .bin 24 .mul (T 22) (T 23), .make 25 1 [.int .i64 0] 8 (T 24), .build 26 [.sl .own 8 [], .sl .own 4 [], .int .i64 0, .int .i64 0, .int .i64 0, .sl .own 1 [], .sl .own 1 []] [(0, 1, (T 11)), (1, 1, (.m 15)), (3, 1, (T 16)), (4, 1, (T 17)), (5, 1, (.m 21)), (6, 1, (.m 25))], .box 27 (.m 26), oM 9 27]) (.seq (.seq (reg [.mov 10 (I 0)]) (.block 0 (.loop g38_1))) k38_1))))
def R38 : List RS := [.t 8]
def fi38 : Fi := ⟨b38, R38⟩

/-- loop.example/drawnanew/laws.toPropS -/
def k39_1 : Ir := .seq (reg [.mov 22 (.m 3), .mov 2 (.m 22)]) .ret
def d39_1 : Ir := .seq (.seq (reg [oM 8 4, .alias 9 0 [], .len 10 (T 9) none, .bin 11 .lss (T 8) (T 10)]) (.cond (T 11) .skip (.exit 0))) (.seq (.block 1 (reg [.alias 14 3 [], oM 15 4, .alias 16 0 [], oM 17 4, .iad 18 16 [] none (T 17) 4, .load 19 18 [] none 4 true .cp, .call 20 70 [.v (T 19)] false, .iad 21 14 [.t 3] (some (.t 3)) (T 15) 4, .store 21 [.t 3] (.t 3) 4 (T 20)])) (reg [oM 12 4, .bin 13 .add (T 12) (I 1), oM 4 13]))
def c39_1 : Ir := d39_1
def g39_1 : Ir := .gh (.keep [0, 3, 4] []) c39_1
def b39 : Ir := .gh (.frz 0) (.seq (reg [.mov 2 (.c (.sl .sh 4 []))]) (.seq (reg [.alias 5 0 [], .len 6 (T 5) none, .make 7 4 [.int .i64 0, .int .i64 0, .int .i64 0, .str []] 40 (T 6), .mov 3 (.m 7)]) (.seq (.seq (reg [.mov 4 (I 0)]) (.block 0 (.loop g39_1))) k39_1)))
def R39 : List RS := [.t 2]
def fi39 : Fi := ⟨b39, R39⟩

/-- loop.example/drawnanew/laws.toTreeS -/
def k40_1 : Ir := .seq (reg [.mov 22 (.m 3), .mov 2 (.m 22)]) .ret
def d40_1 : Ir := .seq (.seq (reg [oM 8 4, .alias 9 0 [], .len 10 (T 9) none, .bin 11 .lss (T 8) (T 10)]) (.cond (T 11) .skip (.exit 0))) (.seq (.block 1 (reg [.alias 14 3 [], oM 15 4, .alias 16 0 [], oM 17 4, .iad 18 16 [] none (T 17) 5, .load 19 18 [] none 5 true .bo, .call 20 11 [.v (T 19)] false, .iad 21 14 [.t 3] (some (.t 3)) (T 15) 5, .store 21 [.t 3] (.t 3) 5 (.m 20)])) (reg [oM 12 4, .bin 13 .add (T 12) (I 1), oM 4 13]))
def c40_1 : Ir := d40_1
def g40_1 : Ir := .gh (.keep [0, 3, 4] []) c40_1
def b40 : Ir := .gh (.frz 0) (.seq (reg [.mov 2 (.c (.sl .sh 5 []))]) (.seq (reg [.alias 5 0 [], .len 6 (T 5) none, .make 7 5 [.int .i64 0, .int .i64 0, .str [], .sl .own 4 [], .sl .own 5 []] 80 (T 6), .mov 3 (.m 7)]) (.seq (.seq (reg [.mov 4 (I 0)]) (.block 0 (.loop g40_1))) k40_1)))
def R40 : List RS := [.t 2]
def fi40 : Fi := ⟨b40, R40⟩

/-- loop.example/drawnanew/laws.toRule -/
def b41 : Ir := .seq (reg [.box 1 (T 0), .alloc 2 [.int .i64 0, .int .i64 0, .int .i64 0, .int .i64 0, .int .i64 0, .str [], .int .i64 0, .int .i64 0]]) (.seq (reg [.alloc 3 [.int .i64 0, .int .i64 0, .int .i64 0, .int .i64 0, .int .i64 0, .str [], .int .i64 0, .int .i64 0]]) (.seq (reg [.fad 4 1 [] 0, oL 5 4 1, .fad 6 3 [] 0, .store 6 [] (.b 3) 1 (T 5)]) (.seq (reg [.fad 7 1 [] 1, oL 8 7 1, .fad 9 3 [] 1, .store 9 [] (.b 3) 1 (T 8)]) (.seq (reg [.fad 10 1 [] 2, oL 11 10 1, .fad 12 3 [] 2, .store 12 [] (.b 3) 1 (T 11)]) (.seq (reg [.fad 13 1 [] 3, .load 14 13 [] (some (.b 1)) 3 true .cp, .call 15 71 [.v (T 14)] false, .fad 16 3 [] 3, .store 16 [] (.b 3) 3 (T 15)]) (.seq (reg [.fad 17 1 [] 6, oL 18 17 1, .fad 19 3 [] 6, .store 19 [] (.b 3) 1 (T 18)]) (.seq (reg [.fad 20 1 [] 7, oL 21 20 1, .fad 22 3 [] 7, .store 22 [] (.b 3) 1 (T 21)]) (.seq (reg [.load 23 3 [] (some (.b 3)) 8 true .cp, .store 2 [] (.b 2) 8 (T 23)]) .ret))))))))
def R41 : List RS := [.c 2 8 true]
def fi41 : Fi := ⟨b41, R41⟩

/-- loop.example/drawnanew/impl.paintOk -/
def b42 : Ir := .gh (.frz 0) (.gh (.frz 1) (.seq (reg [.box 4 (T 0), .mov 8 (.c (.bool false))]) (.seq (.region [⟨none, .load 9 4 [] (some (.b 4)) 5 true .mv⟩, ⟨none, .call 10 51 [.v (T 9)] false⟩, ⟨none, oM 11 10⟩, ⟨(some (11, true)), oM 12 1⟩, ⟨(some (11, true)), .call 13 52 [.v (T 12)] false⟩, ⟨none, .pick 14 (T 11) (T 13) (.c (.bool false))⟩, ⟨none, oM 15 14⟩, ⟨(some (15, true)), oM 16 2⟩, ⟨(some (15, true)), .call 17 43 [.v (T 16), .v (I 0), .v (I 60)] false⟩, ⟨none, .pick 18 (T 15) (T 17) (.c (.bool false))⟩, ⟨none, oM 19 18⟩, ⟨(some (19, true)), oM 20 3⟩, ⟨(some (19, true)), .call 21 43 [.v (T 20), .v (I 0), .v (I 30)] false⟩, ⟨none, .pick 22 (T 19) (T 21) (.c (.bool false))⟩, ⟨none, oM 8 22⟩]) .ret)))
def R42 : List RS := [.t 8]
def fi42 : Fi := ⟨b42, R42⟩

/-- loop.example/drawnanew/impl.within -/
def b43 : Ir := .seq (reg [.mov 6 (.c (.bool false))]) (.seq (.region [⟨none, oM 7 0⟩, ⟨none, oM 8 1⟩, ⟨none, .bin 9 .geq (T 7) (T 8)⟩, ⟨none, oM 10 9⟩, ⟨(some (10, true)), oM 11 0⟩, ⟨(some (10, true)), oM 12 2⟩, ⟨(some (10, true)), .bin 13 .leq (T 11) (T 12)⟩, ⟨none, .pick 14 (T 10) (T 13) (.c (.bool false))⟩, ⟨none, oM 6 14⟩]) .ret)
def R43 : List RS := [.t 6]
def fi43 : Fi := ⟨b43, R43⟩

/-- loop.example/drawnanew/impl.newCanvas -/
def k44_1 : Ir := .seq (reg [oM 62 9, .load 63 4 [] (some (.b 4)) 5 true .mv, oM 64 2, oM 65 3, .build 66 [.int .i64 0, .int .i64 0, .int .i64 0, .int .i64 0] [(2, 1, (T 64)), (3, 1, (T 65))], .call 67 73 [.bx 62 21, .v (T 63), .v (T 66)] false]) (.seq (reg [oM 68 9, oM 8 68]) .ret)
def k44_2 : Ir := reg [oM 41 9, oM 42 9, oM 43 9, .nilc 44 43 [], .fad 45 44 [] 3, .mov 47 (.m 10), .mkrow 48 1 [.sl .own 1 []] 1 [(0, 1, (.m 47))], oM 50 9, .nilc 51 50 [], .fad 52 51 [] 4, .ldm 46 45 21 3 1 false, .ldm 53 52 21 4 1 false, .app 49 1 (.m 46) (.m 48) none 24, .mov 54 (.m 11), .mkrow 55 1 [.sl .own 1 []] 1 [(0, 1, (.m 54))], .app 56 1 (.m 53) (.m 55) none 24, .nilc 57 41 [], .fad 58 57 [] 3, .store 58 [] (.b 21) 1 (.m 49), .nilc 59 42 [], .fad 60 59 [] 4, .store 60 [] (.b 21) 1 (.m 56)]
def k44_3 : Ir := reg [.bin 61 .add (T 23) (I 1), oM 23 61]
def d44_2 : Ir := .seq (reg [.bin 32 .lss (T 31) (T 30)]) (.seq (.cond (T 32) .skip (.exit 2)) (.seq (.block 3 (.seq (reg [oM 33 31, oM 12 33]) (.seq (reg [.alias 34 10 [], oM 35 12, .iad 36 34 [.t 10] (some (.t 10)) (T 35) 1, .store 36 [.t 10] (.t 10) 1 (.c (.int .u8 32))]) (reg [.alias 37 11 [], oM 38 12, .iad 39 37 [.t 11] (some (.t 11)) (T 38) 1, .store 39 [.t 11] (.t 11) 1 (I (-1))])))) (reg [.bin 40 .add (T 31) (I 1), oM 31 40])))
def c44_2 : Ir := d44_2
def g44_2 : Ir := .gh (.keep [2, 3, 4, 9, 10, 11, 22, 23, 30, 31] [4, 21]) c44_2
def d44_1 : Ir := .seq (reg [.bin 24 .lss (T 23) (T 22)]) (.seq (.cond (T 24) .skip (.exit 0)) (.seq (.block 1 (.seq (reg [oM 25 2, .make 26 1 [.int .u8 0] 1 (T 25), oM 27 2, .make 28 1 [.int .i64 0] 8 (T 27), .mov 10 (.m 26), .mov 11 (.m 28)]) (.seq (.seq (reg [.alias 29 10 [], .len 30 (.t 29 [.t 10]) (some (.t 10)), .mov 31 (I 0)]) (.block 2 (.loop g44_2))) k44_2))) k44_3))
def c44_1 : Ir := d44_1
def g44_1 : Ir := .gh (.keep [2, 3, 4, 9, 22, 23] [4, 21]) c44_1
def b44 : Ir := .gh (.frz 0) (.gh (.frz 1) (.seq (reg [.box 4 (T 0), .mov 8 (.c .nilp)]) (.seq (reg [.load 13 4 [] (some (.b 4)) 5 true .bo, .alias 14 1 [], .call 15 72 [.v (T 13), .v (T 14), .v (.c (.sl .sh 1 [])), .v (I 0)] false, .load 16 4 [] (some (.b 4)) 5 true .bo, .alias 17 1 [], oM 18 2, .call 19 53 [.v (T 16), .v (T 17), .v (T 18)] false, .build 20 [.sl .own 1 [], .sl .own 4 [], .int .i64 0, .sl .own 1 [], .sl .own 1 []] [(0, 1, (T 15)), (1, 1, (.m 19))], .box 21 (.m 20), oM 9 21]) (.seq (.seq (reg [oM 22 3, .mov 23 (I 0)]) (.block 0 (.loop g44_1))) k44_1))))
def R44 : List RS := [.t 8]
def fi44 : Fi := ⟨b44, R44⟩

/-- loop.example/drawnanew/laws.eqPropS -/
def k45_1 : Ir := .seq (reg [.mov 4 (.c (.bool true))]) .ret
def d45_1 : Ir := .seq (.seq (reg [oM 11 5, .alias 12 0 [], .len 13 (T 12) none, .bin 14 .lss (T 11) (T 13)]) (.cond (T 14) .skip (.exit 0))) (.seq (.block 1 (.seq (reg [.alias 17 0 [], oM 18 5, .iad 19 17 [] none (T 18) 4, .load 20 19 [] none 4 true .cp, .alias 21 1 [], oM 22 5, .iad 23 21 [] none (T 22) 4, .load 24 23 [] none 4 true .cp, .call 25 74 [.v (T 20), .v (T 24)] false, .not 26 (T 25)]) (.cond (T 26) (.seq (reg [.mov 4 (.c (.bool false))]) .ret) .skip))) (reg [oM 15 5, .bin 16 .add (T 15) (I 1), oM 5 16]))
def c45_1 : Ir := d45_1
def g45_1 : Ir := .gh (.keep [0, 1, 5] []) c45_1
def b45 : Ir := .gh (.frz 0) (.gh (.frz 1) (.seq (reg [.mov 4 (.c (.bool false))]) (.seq (.seq (reg [.alias 6 0 [], .len 7 (T 6) none, .alias 8 1 [], .len 9 (T 8) none, .bin 10 .neq (T 7) (T 9)]) (.cond (T 10) (.seq (reg [.mov 4 (.c (.bool false))]) .ret) .skip)) (.seq (.seq (reg [.mov 5 (I 0)]) (.block 0 (.loop g45_1))) k45_1))))
def R45 : List RS := [.t 4]
def fi45 : Fi := ⟨b45, R45⟩

/-- loop.example/drawnanew/laws.eqTreeS -/
def k46_1 : Ir := .seq (reg [.mov 4 (.c (.bool true))]) .ret
def d46_1 : Ir := .seq (.seq (reg [oM 11 5, .alias 12 0 [], .len 13 (T 12) none, .bin 14 .lss (T 11) (T 13)]) (.cond (T 14) .skip (.exit 0))) (.seq (.block 1 (.seq (reg [.alias 17 0 [], oM 18 5, .iad 19 17 [] none (T 18) 5, .load 20 19 [] none 5 true .bo, .alias 21 1 [], oM 22 5, .iad 23 21 [] none (T 22) 5, .load 24 23 [] none 5 true .bo, .call 25 14 [.v (T 20), .v (T 24)] false, .not 26 (T 25)]) (.cond (T 26) (.seq (reg [.mov 4 (.c (.bool false))]) .ret) .skip))) (reg [oM 15 5, .bin 16 .add (T 15) (I 1), oM 5 16]))
def c46_1 : Ir := d46_1
def g46_1 : Ir := .gh (.keep [0, 1, 5] []) c46_1
def b46 : Ir := .gh (.frz 0) (.gh (.frz 1) (.seq (reg [.mov 4 (.c (.bool false))]) (.seq (.seq (reg [.alias 6 0 [], .len 7 (T 6) none, .alias 8 1 [], .len 9 (T 8) none, .bin 10 .neq (T 7) (T 9)]) (.cond (T 10) (.seq (reg [.mov 4 (.c (.bool false))]) .ret) .skip)) (.seq (.seq (reg [.mov 5 (I 0)]) (.block 0 (.loop g46_1))) k46_1))))
def R46 : List RS := [.t 4]
def fi46 : Fi := ⟨b46, R46⟩

/-- loop.example/drawnanew/laws.eqRule -/
def b47 : Ir := .seq (reg [.box 2 (T 0), .box 3 (T 1), .mov 4 (.c (.bool false))]) (.seq (.seq (reg [.fad 5 2 [] 0, oL 6 5 2, .fad 7 3 [] 0, oL 8 7 3, .bin 9 .neq (T 6) (T 8)]) (.cond (T 9) (.seq (reg [.mov 4 (.c (.bool false))]) .ret) .skip)) (.seq (.seq (reg [.fad 10 2 [] 1, oL 11 10 2, .fad 12 3 [] 1, oL 13 12 3, .bin 14 .neq (T 11) (T 13)]) (.cond (T 14) (.seq (reg [.mov 4 (.c (.bool false))]) .ret) .skip)) (.seq (.seq (reg [.fad 15 2 [] 2, oL 16 15 2, .fad 17 3 [] 2, oL 18 17 3, .bin 19 .neq (T 16) (T 18)]) (.cond (T 19) (.seq (reg [.mov 4 (.c (.bool false))]) .ret) .skip)) (.seq (.seq (reg [.fad 20 2 [] 3, .load 21 20 [] (some (.b 2)) 3 true .cp, .fad 22 3 [] 3, .load 23 22 [] (some (.b 3)) 3 true .cp, .call 24 75 [.v (T 21), .v (T 23)] false, .not 25 (T 24)]) (.cond (T 25) (.seq (reg [.mov 4 (.c (.bool false))]) .ret) .skip)) (.seq (.seq (reg [.fad 26 2 [] 6, oL 27 26 2, .fad 28 3 [] 6, oL 29 28 3, .bin 30 .neq (T 27) (T 29)]) (.cond (T 30) (.seq (reg [.mov 4 (.c (.bool false))]) .ret) .skip)) (.seq (.seq (reg [.fad 31 2 [] 7, oL 32 31 2, .fad 33 3 [] 7, oL 34 33 3, .bin 35 .neq (T 32) (T 34)]) (.cond (T 35) (.seq (reg [.mov 4 (.c (.bool false))]) .ret) .skip)) (.seq (reg [.mov 4 (.c (.bool true))]) .ret)))))))
def R47 : List RS := [.t 4]
def fi47 : Fi := ⟨b47, R47⟩

/-- loop.example/drawnanew/spec.validTree -/
def b48 : Ir := .gh (.frz 0) (.seq (reg [.box 1 (T 0), .mov 2 (.c (.bool false))]) (.seq (.region [⟨none, .load 3 1 [] (some (.b 1)) 5 true .bo⟩, ⟨none, .call 4 76 [.v (T 3), .v (I 1)] false⟩, ⟨none, .bin 5 .leq (T 4) (I 200)⟩, ⟨none, oM 6 5⟩, ⟨(some (6, true)), .load 7 1 [] (some (.b 1)) 5 true .mv⟩, ⟨(some (6, true)), .call 8 77 [.v (T 7)] false⟩, ⟨none, .pick 9 (T 6) (T 8) (.c (.bool false))⟩, ⟨none, oM 2 9⟩]) .ret))
def R48 : List RS := [.t 2]
def fi48 : Fi := ⟨b48, R48⟩

/-- loop.example/drawnanew/spec.validRules -/
def k49_1 : Ir := .seq (reg [.mov 2 (.c (.bool true))]) .ret
def d49_1 : Ir := .seq (.seq (reg [oM 7 3, .alias 8 0 [], .len 9 (T 8) none, .bin 10 .lss (T 7) (T 9)]) (.cond (T 10) .skip (.exit 0))) (.seq (.block 1 (.seq (reg [.alias 13 0 [], oM 14 3, .iad 15 13 [] none (T 14) 8, .load 16 15 [] none 8 true .cp, .call 17 78 [.v (T 16)] false, .not 18 (T 17)]) (.cond (T 18) (.seq (reg [.mov 2 (.c (.bool false))]) .ret) .skip))) (reg [oM 11 3, .bin 12 .add (T 11) (I 1), oM 3 12]))
def c49_1 : Ir := d49_1
def g49_1 : Ir := .gh (.keep [0, 3] []) c49_1
def b49 : Ir := .gh (.frz 0) (.seq (reg [.mov 2 (.c (.bool false))]) (.seq (.seq (reg [.alias 4 0 [], .len 5 (T 4) none, .bin 6 .gtr (T 5) (I 12)]) (.cond (T 6) (.seq (reg [.mov 2 (.c (.bool false))]) .ret) .skip)) (.seq (.seq (reg [.mov 3 (I 0)]) (.block 0 (.loop g49_1))) k49_1)))
def R49 : List RS := [.t 2]
def fi49 : Fi := ⟨b49, R49⟩

/-- loop.example/drawnanew/spec.boxes -/
def b50 : Ir := .gh (.frz 0) (.gh (.frz 1) (.seq (reg [.box 3 (T 0), .mov 6 (.c (.sl .sh 4 []))]) (.seq (reg [oM 8 1, .build 9 [.sl .own 8 [], .sl .own 4 []] [(0, 1, (T 8))], .box 10 (.m 9), oM 7 10]) (.seq (reg [oM 11 7, .load 12 3 [] (some (.b 3)) 5 true .bo, .mkrow 13 1 [.int .i64 0] 0 [], .make 14 1 [.int .i64 0] 8 (I 5), oM 15 2, .call 16 79 [.bx 11 10, .v (T 12), .v (.m 13), .v (.m 14), .v (I 0), .v (I 0), .v (T 15)] false]) (.seq (reg [oM 17 7, .nilc 18 17 [], .fad 19 18 [] 1, .load 20 19 [] (some (.b 10)) 1 false .mv, .mov 6 (.m 20)]) .ret)))))
def R50 : List RS := [.t 6]
def fi50 : Fi := ⟨b50, R50⟩

/-- loop.example/drawnanew/impl.TreeOk -/
def b51 : Ir := .gh (.frz 0) (.seq (reg [.box 1 (T 0), .mov 2 (.c (.bool false))]) (.seq (reg [.alloc 3 [.int .i64 0], .store 3 [] (.b 3) 1 (I 200)]) (.seq (reg [.load 4 1 [] (some (.b 1)) 5 true .mv, .call 5 80 [.v (T 4), .v (I 1), .bx 3 3] false, oM 2 5]) .ret)))
def R51 : List RS := [.t 2]
def fi51 : Fi := ⟨b51, R51⟩

/-- loop.example/drawnanew/impl.RulesOk -/
def k52_1 : Ir := .seq (reg [oM 55 0, .len 56 (T 55) none, .bin 57 .leq (T 56) (I 12), oM 2 57]) .ret
def d52_1 : Ir := .seq (reg [.bin 8 .lss (T 7) (T 6)]) (.seq (.cond (T 8) .skip (.exit 0)) (.seq (.block 1 (.seq (reg [.iad 9 5 [] none (T 7) 8, .load 10 9 [] none 8 true .cp, .alloc 4 [.int .i64 0, .int .i64 0, .int .i64 0, .int .i64 0, .int .i64 0, .str [], .int .i64 0, .int .i64 0], .store 4 [] (.b 4) 8 (T 10)]) (.seq (.seq (.region [⟨none, .fad 11 4 [] 0⟩, ⟨none, oL 12 11 4⟩, ⟨none, .call 13 43 [.v (T 12), .v (I (-1)), .v (I 4)] false⟩, ⟨none, .not 14 (T 13)⟩, ⟨none, oM 15 14⟩, ⟨(some (15, false)), .fad 16 4 [] 1⟩, ⟨(some (15, false)), oL 17 16 4⟩, ⟨(some (15, false)), .call 18 43 [.v (T 17), .v (I (-1)), .v (I 4)] false⟩, ⟨(some (15, false)), .not 19 (T 18)⟩, ⟨none, .pick 20 (T 15) (.c (.bool true)) (T 19)⟩, ⟨none, oM 21 20⟩, ⟨(some (21, false)), .fad 22 4 [] 2⟩, ⟨(some (21, false)), oL 23 22 4⟩, ⟨(some (21, false)), .call 24 43 [.v (T 23), .v (I (-1)), .v (I 3)] false⟩, ⟨(some (21, false)), .not 25 (T 24)⟩, ⟨none, .pick 26 (T 21) (.c (.bool true)) (T 25)⟩, ⟨none, oM 27 26⟩, ⟨(some (27, false)), .fad 28 4 [] 6⟩, ⟨(some (27, false)), oL 29 28 4⟩, ⟨(some (27, false)), .call 30 43 [.v (T 29), .v (I 0), .v (I 4)] false⟩, ⟨(some (27, false)), .not 31 (T 30)⟩, ⟨none, .pick 32 (T 27) (.c (.bool true)) (T 31)⟩, ⟨none, oM 33 32⟩, ⟨(some (33, false)), .fad 34 4 [] 7⟩, ⟨(some (33, false)), oL 35 34 4⟩, ⟨(some (33, false)), .call 36 43 [.v (T 35), .v (I 0), .v (I 60)] false⟩, ⟨(some (33, false)), .not 37 (T 36)⟩, ⟨none, .pick 38 (T 33) (.c (.bool true)) (T 37)⟩]) (.cond (T 38) (.seq (reg [.mov 2 (.c (.bool false))]) .ret) .skip)) (.seq (.region [⟨none, .fad 39 4 [] 2⟩, ⟨none, oL 40 39 4⟩, ⟨none, .bin 41 .eql (T 40) (I (-1))⟩, ⟨none, oM 42 41⟩, ⟨(some (42, true)), .fad 43 4 [] 3⟩, ⟨(some (42, true)), .load 44 43 [] (some (.b 4)) 3 true .cp⟩, ⟨(some (42, true)), .build 45 [.int .i64 0, .int .i64 0, .str []] []⟩, ⟨(some (42, true)), .ceq 46 true true [.int .i64, .int .i64, .str] (T 44) (T 45)⟩, ⟨none, .pick 47 (T 42) (T 46) (.c (.bool false))⟩, ⟨none, oM 48 47⟩, ⟨(some (48, false)), .fad 49 4 [] 3⟩, ⟨(some (48, false)), .load 50 49 [] (some (.b 4)) 3 true .cp⟩, ⟨(some (48, false)), .call 51 81 [.v (T 50)] false⟩, ⟨(some (48, false)), .not 52 (T 51)⟩, ⟨none, .pick 53 (T 48) (.c (.bool true)) (T 52)⟩]) (.cond (T 53) (.seq (reg [.mov 2 (.c (.bool false))]) .ret) .skip))))) (reg [.bin 54 .add (T 7) (I 1), oM 7 54])))
def c52_1 : Ir := d52_1
def g52_1 : Ir := .gh (.keep [0, 5, 6, 7] []) c52_1
def b52 : Ir := .gh (.frz 0) (.seq (reg [.mov 2 (.c (.bool false))]) (.seq (.seq (reg [.alias 5 0 [], .len 6 (T 5) none, .mov 7 (I 0)]) (.block 0 (.loop g52_1))) k52_1))
def R52 : List RS := [.t 2]
def fi52 : Fi := ⟨b52, R52⟩

/-- loop.example/drawnanew/impl.boxes -/
def b53 : Ir := .gh (.frz 0) (.gh (.frz 1) (.seq (reg [.box 3 (T 0), .mov 6 (.c (.sl .sh 4 []))]) (.seq (reg [.load 8 3 [] (some (.b 3)) 5 true .bo, oM 9 1, .call 10 72 [.v (T 8), .v (T 9), .v (.c (.sl .sh 1 [])), .v (I 0)] false, .build 11 [.sl .own 1 [], .int .i64 0, .sl .own 4 []] [(0, 1, (T 10))], .box 12 (.m 11), oM 7 12]) (.seq (reg [oM 13 7, .load 14 3 [] (some (.b 3)) 5 true .mv, oM 15 2, .call 16 82 [.bx 13 12, .v (T 14), .v (I 0), .v (I 0), .v (T 15)] false]) (.seq (reg [oM 17 7, .nilc 18 17 [], .fad 19 18 [] 2, .load 20 19 [] (some (.b 12)) 1 false .mv, .mov 6 (.m 20)]) .ret)))))
def R53 : List RS := [.t 6]
def fi53 : Fi := ⟨b53, R53⟩

/-- loop.example/drawnanew/spec.differs -/
def k57_1 : Ir := .seq (reg [.load 67 5 [] (some (.b 5)) 4 true .cp, .store 4 [] (.b 4) 4 (T 67)]) .ret
def k57_2 : Ir := reg [oM 15 7, .bin 16 .add (T 15) (I 1), oM 7 16]
def d57_2 : Ir := .seq (.seq (reg [oM 17 8, .alias 18 0 [], oM 19 7, .iad 20 18 [] none (T 19) 1, .load 21 20 [] none 1 false .cp, .slen 22 (T 21), .bin 23 .lss (T 17) (T 22)]) (.cond (T 23) .skip (.exit 2))) (.seq (.block 3 (.seq (.seq (reg [.alias 26 0 [], oM 27 7, .iad 28 26 [] none (T 27) 1, .load 29 28 [] none 1 false .cp, oM 30 8, .idx 31 (T 29) (T 30), .alias 32 1 [], oM 33 7, .iad 34 32 [] none (T 33) 1, .load 35 34 [] none 1 false .cp, oM 36 8, .idx 37 (T 35) (T 36), .bin 38 .eql (T 31) (T 37)]) (.cond (T 38) (.exit 3) .skip)) (.seq (.seq (reg [oM 39 6]) (.cond (T 39) (.seq (reg [oM 40 8, oM 41 7, .build 42 [.int .i64 0, .int .i64 0, .int .i64 0, .int .i64 0] [(0, 1, (T 40)), (1, 1, (T 41)), (2, 1, (I 1)), (3, 1, (I 1))], .store 5 [] (.b 5) 4 (T 42)]) (.seq (reg [.mov 6 (.c (.bool false))]) (.exit 3))) .skip)) (.seq (reg [.fad 43 5 [] 0, oL 44 43 5, .fad 45 5 [] 2, oL 46 45 5, .bin 47 .add (T 44) (T 46), oM 48 8, .bin 49 .add (T 48) (I 1), .mm 50 true (T 47) (T 49), oM 9 50]) (.seq (reg [.fad 51 5 [] 0, oL 52 51 5, oM 53 8, .mm 54 false (T 52) (T 53), .fad 55 5 [] 0, .store 55 [] (.b 5) 1 (T 54)]) (.seq (reg [oM 56 9, .fad 57 5 [] 0, oL 58 57 5, .bin 59 .sub (T 56) (T 58), .fad 60 5 [] 2, .store 60 [] (.b 5) 1 (T 59)]) (reg [oM 61 7, .bin 62 .add (T 61) (I 1), .fad 63 5 [] 1, oL 64 63 5, .bin 65 .sub (T 62) (T 64), .fad 66 5 [] 3, .store 66 [] (.b 5) 1 (T 65)]))))))) (reg [oM 24 8, .bin 25 .add (T 24) (I 1), oM 8 25]))
def c57_2 : Ir := d57_2
def g57_2 : Ir := .gh (.keep [0, 1, 4, 5, 6, 7, 8] [4, 5]) c57_2
def d57_1 : Ir := .seq (.seq (reg [oM 11 7, .alias 12 0 [], .len 13 (T 12) none, .bin 14 .lss (T 11) (T 13)]) (.cond (T 14) .skip (.exit 0))) (.seq (.block 1 (.seq (reg [.mov 8 (I 0)]) (.block 2 (.loop g57_2)))) k57_2)
def c57_1 : Ir := d57_1
def g57_1 : Ir := .gh (.keep [0, 1, 4, 5, 6, 7] [4, 5]) c57_1
def b57 : Ir := .gh (.frz 0) (.gh (.frz 1) (.seq (reg [.alloc 4 [.int .i64 0, .int .i64 0, .int .i64 0, .int .i64 0]]) (.seq (reg [.build 10 [.int .i64 0, .int .i64 0, .int .i64 0, .int .i64 0] [], .alloc 5 [.int .i64 0, .int .i64 0, .int .i64 0, .int .i64 0], .store 5 [] (.b 5) 4 (T 10)]) (.seq (reg [.mov 6 (.c (.bool true))]) (.seq (.seq (reg [.mov 7 (I 0)]) (.block 0 (.loop g57_1))) k57_1)))))
def R57 : List RS := [.c 4 4 true]
def fi57 : Fi := ⟨b57, R57⟩

/-- (*loop.example/drawnanew/spec.painter).rows -/
def k58_1 : Ir := .seq (reg [.mov 36 (.m 3), .mov 2 (.m 36)]) .ret
def d58_1 : Ir := .seq (.seq (reg [oM 6 4, oM 7 0, .nilc 8 7 [], .fad 9 8 [] 4, oL 10 9 0, .bin 11 .lss (T 6) (T 10)]) (.cond (T 11) .skip (.exit 0))) (.seq (.block 1 (reg [.mov 14 (.m 3), oM 15 0, .nilc 16 15 [], .fad 17 16 [] 5, .load 18 17 [] (some (.b 0)) 1 false .al, oM 19 4, oM 20 0, .nilc 21 20 [], .fad 22 21 [] 3, oL 23 22 0, .bin 24 .mul (T 19) (T 23), oM 25 4, .bin 26 .add (T 25) (I 1), oM 27 0, .nilc 28 27 [], .fad 29 28 [] 3, oL 30 29 0, .bin 31 .mul (T 26) (T 30), .slice 32 1 (.t 18 [.b 0]) (some (.b 0)) (some (T 24)) (some (T 31)), .toStr 33 (.t 32 [.b 0]) none, .mkrow 34 1 [.str []] 1 [(0, 1, (T 33))], .app 35 1 (.m 14) (.m 34) none 16, .mov 3 (.m 35)])) (reg [oM 12 4, .bin 13 .add (T 12) (I 1), oM 4 13]))
def c58_1 : Ir := d58_1
def g58_1 : Ir := .gh (.keep [0, 3, 4] [0]) c58_1
def b58 : Ir := .seq (reg [.mov 2 (.c (.sl .sh 1 []))]) (.seq (reg [.mkrow 5 1 [.str []] 0 [], .mov 3 (.m 5)]) (.seq (.seq (reg [.mov 4 (I 0)]) (.block 0 (.loop g58_1))) k58_1))
def R58 : List RS := [.t 2]
def fi58 : Fi := ⟨b58, R58⟩

/-- loop.example/drawnanew/impl.paint -/
def k59_1 : Ir := .seq (reg [.mov 31 (.m 9), .mov 8 (.m 31)]) .ret
def d59_1 : Ir := .seq (reg [.bin 22 .lss (T 21) (T 20)]) (.seq (.cond (T 22) .skip (.exit 0)) (.seq (.block 1 (.seq (reg [.iad 23 19 [] none (T 21) 1, .load 24 23 [] none 1 false .al, oM 11 24]) (reg [.mov 25 (.m 9), oM 26 11, .toStr 27 (T 26) none, .mkrow 28 1 [.str []] 1 [(0, 1, (T 27))], .app 29 1 (.m 25) (.m 28) none 16, .mov 9 (.m 29)]))) (reg [.bin 30 .add (T 21) (I 1), oM 21 30])))
def c59_1 : Ir := d59_1
def g59_1 : Ir := .gh (.keep [9, 19, 20, 21] []) c59_1
def b59 : Ir := .gh (.frz 0) (.gh (.frz 1) (.seq (reg [.box 4 (T 0), .mov 8 (.c (.sl .sh 1 []))]) (.seq (reg [.mov 9 (.c (.sl .own 1 []))]) (.seq (.seq (reg [.load 12 4 [] (some (.b 4)) 5 true .mv, oM 13 1, oM 14 2, oM 15 3, .call 16 44 [.v (T 12), .v (T 13), .v (T 14), .v (T 15)] true, .nilc 17 16 [], .fad 18 17 [] 3, .load 19 18 [] (some (.b 16)) 1 false .mv, .len 20 (T 19) (some (.t 19)), .mov 21 (I 0)]) (.gh (.frz 19) (.block 0 (.loop g59_1)))) k59_1))))
def R59 : List RS := [.t 8]
def fi59 : Fi := ⟨b59, R59⟩

/-- loop.example/drawnanew/laws.szProp -/
def b67 : Ir := .seq (reg [.box 2 (T 0), .mov 4 (I 0)]) (.seq (reg [.fad 5 2 [] 1, .load 6 5 [] (some (.b 2)) 3 true .cp, oM 7 1, .call 8 68 [.v (T 6), .v (T 7)] false, oM 1 8]) (.seq (.seq (reg [oM 9 1, .bin 10 .lss (T 9) (I 0)]) (.cond (T 10) (.seq (reg [.mov 4 (I (-1))]) .ret) .skip)) (.seq (reg [oM 11 1, oM 4 11]) .ret)))
def R67 : List RS := [.t 4]
def fi67 : Fi := ⟨b67, R67⟩

/-- loop.example/drawnanew/laws.szValue -/
def b68 : Ir := .seq (reg [.box 2 (T 0), .mov 4 (I 0)]) (.seq (reg [oM 5 1, .fad 6 2 [] 2, oL 7 6 2, .slen 8 (T 7), .bin 9 .sub (T 5) (T 8), oM 1 9]) (.seq (.seq (reg [oM 10 1, .bin 11 .lss (T 10) (I 0)]) (.cond (T 11) (.seq (reg [.mov 4 (I (-1))]) .ret) .skip)) (.seq (reg [oM 12 1, oM 4 12]) .ret)))
def R68 : List RS := [.t 4]
def fi68 : Fi := ⟨b68, R68⟩

/-- (*loop.example/drawnanew/spec.painter).part -/
def k69_3 : Ir := reg [oM 94 14, .bin 95 .add (T 94) (I 1), oM 14 95]
def d69_4 : Ir := .seq (.seq (reg [oM 98 15, .fad 99 9 [] 0, oL 100 99 9, .fad 101 9 [] 2, oL 102 101 9, .bin 103 .add (T 100) (T 102), .bin 104 .lss (T 98) (T 103)]) (.cond (T 104) .skip (.exit 4))) (.seq (.block 5 (reg [oM 107 0, .load 108 9 [] (some (.b 9)) 4 true .cp, oM 109 15, oM 110 14, .alias 111 10 [], .iad 112 111 [] none (I 4) 1, .load 113 112 [] none 1 false .cp, .call 114 94 [.v (T 113)] false, oM 115 11, .call 116 93 [.bx 107 0, .v (T 108), .v (T 109), .v (T 110), .v (T 114), .v (T 115)] false])) (reg [oM 105 15, .bin 106 .add (T 105) (I 1), oM 15 106]))
def c69_4 : Ir := d69_4
def g69_4 : Ir := .gh (.keep [0, 2, 6, 9, 10, 11, 14, 15] [0, 6, 9]) c69_4
def d69_3 : Ir := .seq (.seq (reg [oM 117 16, .fad 118 6 [] 4, .load 119 118 [] (some (.b 6)) 1 false .al, .len 120 (T 119) none, .bin 121 .lss (T 117) (T 120)]) (.cond (T 121) .skip (.exit 6))) (.seq (.block 7 (reg [oM 124 0, .fad 125 6 [] 4, .load 126 125 [] (some (.b 6)) 1 false .al, oM 127 16, .iad 128 126 [] none (T 127) 5, .load 129 128 [] none 5 true .bo, .mkrow 130 1 [.int .i64 0] 0 [], .alias 131 2 [], .app 132 1 (.m 130) (T 131) none 8, .fad 133 6 [] 0, oL 134 133 6, .mkrow 135 1 [.int .i64 0] 1 [(0, 1, (T 134))], .app 136 1 (.m 132) (.m 135) none 8, .alias 137 10 [], .load 138 9 [] (some (.b 9)) 4 true .cp, .call 139 69 [.bx 124 0, .v (T 129), .v (.m 136), .v (T 137), .v (T 138)] false])) (reg [oM 122 16, .bin 123 .add (T 122) (I 1), oM 16 123]))
def c69_3 : Ir := d69_3
def g69_3 : Ir := .gh (.keep [0, 2, 6, 9, 10, 16] [0, 6, 9]) c69_3
def k69_2 : Ir := .seq (reg [.mov 16 (I 0)]) (.block 6 (.loop g69_3))
def d69_2 : Ir := .seq (.seq (reg [oM 87 14, .fad 88 9 [] 1, oL 89 88 9, .fad 90 9 [] 3, oL 91 90 9, .bin 92 .add (T 89) (T 91), .bin 93 .lss (T 87) (T 92)]) (.cond (T 93) .skip (.exit 2))) (.seq (.block 3 (.seq (reg [.fad 96 9 [] 0, oL 97 96 9, oM 15 97]) (.block 4 (.loop g69_4)))) k69_3)
def c69_2 : Ir := d69_2
def g69_2 : Ir := .gh (.keep [0, 2, 6, 9, 10, 11, 14] [0, 6, 9]) c69_2
def k69_1 : Ir := .seq (.seq (reg [.alias 81 10 [], .iad 82 81 [] none (I 4) 1, .load 83 82 [] none 1 false .cp, .bin 84 .gtr (T 83) (I 0)]) (.cond (T 84) (.seq (reg [.fad 85 9 [] 1, oL 86 85 9, oM 14 86]) (.block 2 (.loop g69_2))) .skip)) k69_2
def d69_1 : Ir := .seq (.seq (.region [⟨none, oM 47 13⟩, ⟨none, .fad 48 6 [] 2⟩, ⟨none, oL 49 48 6⟩, ⟨none, .slen 50 (T 49)⟩, ⟨none, .bin 51 .lss (T 47) (T 50)⟩, ⟨none, oM 52 51⟩, ⟨(some (52, true)), .fad 53 12 [] 2⟩, ⟨(some (52, true)), oL 54 53 12⟩, ⟨(some (52, true)), .bin 55 .gtr (T 54) (I 0)⟩, ⟨none, .pick 56 (T 52) (T 55) (.c (.bool false))⟩]) (.cond (T 56) .skip (.exit 0))) (.seq (.block 1 (reg [oM 59 0, .load 60 9 [] (some (.b 9)) 4 true .cp, .fad 61 12 [] 0, oL 62 61 12, oM 63 13, .fad 64 12 [] 2, oL 65 64 12, .bin 66 .rem (T 63) (T 65), .bin 67 .add (T 62) (T 66), .fad 68 12 [] 1, oL 69 68 12, oM 70 13, .fad 71 12 [] 2, oL 72 71 12, .bin 73 .quo (T 70) (T 72), .bin 74 .add (T 69) (T 73), .fad 75 6 [] 2, oL 76 75 6, oM 77 13, .idx 78 (T 76) (T 77), oM 79 11, .call 80 93 [.bx 59 0, .v (T 60), .v (T 67), .v (T 74), .v (T 78), .v (T 79)] false])) (reg [oM 57 13, .bin 58 .add (T 57) (I 1), oM 13 58]))
def c69_1 : Ir := d69_1
def g69_1 : Ir := .gh (.keep [0, 6, 9, 11, 12, 13] [0, 6, 9, 12]) c69_1
def b69 : Ir := .gh (.frz 1) (.gh (.frz 2) (.gh (.frz 3) (.seq (reg [.box 6 (T 1), .box 9 (T 4)]) (.seq (reg [oM 17 0, .nilc 18 17 [], .fad 19 18 [] 0, .load 20 19 [] (some (.b 0)) 1 false .al, .load 21 6 [] (some (.b 6)) 5 true .bo, .alias 22 2 [], oM 23 3, .call 24 91 [.v (T 20), .v (T 21), .v (T 22), .v (T 23)] false, .mov 10 (.m 24)]) (.gh (.frz 10) (.seq (reg [oM 25 0, .nilc 26 25 [], .fad 27 26 [] 2, oL 28 27 0, oM 11 28]) (.seq (reg [oM 29 0, .nilc 30 29 [], .fad 31 30 [] 1, .load 32 31 [] (some (.b 0)) 1 false .al, oM 33 11, .iad 34 32 [.b 0] (some (.b 0)) (T 33) 4, .load 35 34 [.b 0] (some (.b 0)) 4 true .cp, .alloc 12 [.int .i64 0, .int .i64 0, .int .i64 0, .int .i64 0], .store 12 [] (.b 12) 4 (T 35)]) (.seq (reg [oM 36 0, oM 37 11, .bin 38 .add (T 37) (I 1), .nilc 39 36 [], .fad 40 39 [] 2, .store 40 [] (.b 0) 1 (T 38)]) (.seq (reg [.load 41 9 [] (some (.b 9)) 4 true .cp, .load 42 12 [] (some (.b 12)) 4 true .cp, .call 43 92 [.v (T 41), .v (T 42)] false, .store 9 [] (.b 9) 4 (T 43)]) (.seq (.seq (reg [.fad 44 6 [] 0, oL 45 44 6, .bin 46 .lss (T 45) (I 0)]) (.cond (T 46) (.seq (.seq (reg [.mov 13 (I 0)]) (.block 0 (.loop g69_1))) .ret) .skip)) k69_1))))))))))
def R69 : List RS := []
def fi69 : Fi := ⟨b69, R69⟩

/-- loop.example/drawnanew/laws.toProp -/
def b70 : Ir := .seq (reg [.box 1 (T 0), .alloc 2 [.int .i64 0, .int .i64 0, .int .i64 0, .str []]]) (.seq (reg [.alloc 3 [.int .i64 0, .int .i64 0, .int .i64 0, .str []]]) (.seq (reg [.fad 4 1 [] 0, oL 5 4 1, .fad 6 3 [] 0, .store 6 [] (.b 3) 1 (T 5)]) (.seq (reg [.fad 7 1 [] 1, .load 8 7 [] (some (.b 1)) 3 true .cp, .call 9 71 [.v (T 8)] false, .fad 10 3 [] 1, .store 10 [] (.b 3) 3 (T 9)]) (.seq (reg [.load 11 3 [] (some (.b 3)) 4 true .cp, .store 2 [] (.b 2) 4 (T 11)]) .ret))))
def R70 : List RS := [.c 2 4 true]
def fi70 : Fi := ⟨b70, R70⟩

/-- loop.example/drawnanew/laws.toValue -/
def b71 : Ir := .seq (reg [.box 1 (T 0), .alloc 2 [.int .i64 0, .int .i64 0, .str []]]) (.seq (reg [.alloc 3 [.int .i64 0, .int .i64 0, .str []]]) (.seq (reg [.fad 4 1 [] 0, oL 5 4 1, .fad 6 3 [] 0, .store 6 [] (.b 3) 1 (T 5)]) (.seq (reg [.fad 7 1 [] 1, oL 8 7 1, .fad 9 3 [] 1, .store 9 [] (.b 3) 1 (T 8)]) (.seq (reg [.fad 10 1 [] 2, oL 11 10 1, .fad 12 3 [] 2, .store 12 [] (.b 3) 1 (T 11)]) (.seq (reg [.load 13 3 [] (some (.b 3)) 3 true .cp, .store 2 [] (.b 2) 3 (T 13)]) .ret)))))
def R71 : List RS := [.c 2 3 true]
def fi71 : Fi := ⟨b71, R71⟩

/-- loop.example/drawnanew/impl.looks -/
def k72_3 : Ir := .seq (reg [.mov 86 (.m 10), .mov 8 (.m 86)]) (.gh (.frz 8) .ret)
def k72_2 : Ir := reg [.bin 61 .add (T 28) (I 1), oM 28 61]
def d72_3 : Ir := .seq (reg [.bin 34 .lss (T 33) (T 32)]) (.seq (.cond (T 34) .skip (.exit 2)) (.seq (.block 3 (.seq (reg [.iad 35 31 [] none (T 33) 8, .load 36 35 [] none 8 true .cp, .alloc 14 [.int .i64 0, .int .i64 0, .int .i64 0, .int .i64 0, .int .i64 0, .str [], .int .i64 0, .int .i64 0], .store 14 [] (.b 14) 8 (T 36)]) (.seq (.region [⟨none, .fad 37 14 [] 6⟩, ⟨none, oL 38 37 14⟩, ⟨none, oM 39 11⟩, ⟨none, .bin 40 .eql (T 38) (T 39)⟩, ⟨none, oM 41 40⟩, ⟨(some (41, true)), .load 42 14 [] (some (.b 14)) 8 true .cp⟩, ⟨(some (41, true)), .call 43 95 [.v (T 42)] false⟩, ⟨(some (41, true)), oM 44 12⟩, ⟨(some (41, true)), .bin 45 .geq (T 43) (T 44)⟩, ⟨none, .pick 46 (T 41) (T 45) (.c (.bool false))⟩, ⟨none, oM 47 46⟩, ⟨(some (47, true)), .load 48 14 [] (some (.b 14)) 8 true .cp⟩, ⟨(some (47, true)), .load 49 4 [] (some (.b 4)) 5 true .bo⟩, ⟨(some (47, true)), .alias 50 2 []⟩, ⟨(some (47, true)), .call 51 96 [.v (T 48), .v (T 49), .v (T 50)] false⟩, ⟨none, .pick 52 (T 47) (T 51) (.c (.bool false))⟩]) (.cond (T 52) (.seq (reg [.load 53 14 [] (some (.b 14)) 8 true .cp, .call 54 95 [.v (T 53)] false, oM 12 54]) (reg [.mov 55 (.t 9 [.t 10]), oM 56 11, .fad 57 14 [] 7, oL 58 57 14, .iad 59 55 [.t 10] (some (.t 10)) (T 56) 1, .storea 59 [.t 10] (.t 10) (T 58) 9 [.t 10]])) .skip)))) (reg [.bin 60 .add (T 33) (I 1), oM 33 60])))
def c72_3 : Ir := d72_3
def g72_3 : Ir := .gh (.keep [1, 2, 4, 9, 10, 11, 12, 28, 31, 32, 33] [4]) c72_3
def d72_2 : Ir := .seq (reg [.bin 73 .lss (T 72) (T 71)]) (.seq (.cond (T 73) .skip (.exit 4)) (.seq (.block 5 (.seq (reg [.iad 74 70 [] none (T 72) 5, .load 75 74 [] none 5 true .bo, .alloc 17 [.int .i64 0, .int .i64 0, .str [], .sl .sh 4 [], .sl .sh 5 []], .store 17 [] (.b 17) 5 (T 75)]) (reg [.mov 76 (.m 10), .load 77 17 [] (some (.b 17)) 5 true .bo, .alias 78 1 [], .alias 79 15 [], .alias 80 9 [], .iad 81 80 [] none (I 4) 1, .load 82 81 [] none 1 false .cp, .call 83 72 [.v (T 77), .v (T 78), .v (T 79), .v (T 82)] false, .app 84 1 (.m 76) (T 83) none 24, .mov 10 (.m 84)]))) (reg [.bin 85 .add (T 72) (I 1), oM 72 85])))
def c72_2 : Ir := d72_2
def g72_2 : Ir := .gh (.keep [1, 9, 10, 15, 70, 71, 72] []) c72_2
def k72_1 : Ir := .seq (.gh (.frza 9) (reg [.mkrow 62 1 [.int .i64 0] 0 [], oM 63 2, .app 64 1 (.m 62) (T 63) none 8, .fad 65 4 [] 0, oL 66 65 4, .mkrow 67 1 [.int .i64 0] 1 [(0, 1, (T 66))], .app 68 1 (.m 64) (.m 67) none 8, .mov 15 (.m 68)])) (.gh (.frz 15) (.seq (.seq (reg [.fad 69 4 [] 4, .load 70 69 [] (some (.b 4)) 1 false .mv, .len 71 (T 70) none, .mov 72 (I 0)]) (.block 4 (.loop g72_2))) k72_3))
def d72_1 : Ir := .seq (reg [.bin 29 .lss (T 28) (I 5)]) (.seq (.cond (T 29) .skip (.exit 0)) (.seq (.block 1 (.seq (reg [oM 30 28, oM 11 30]) (.seq (reg [.mov 12 (I (-1))]) (.seq (reg [.alias 31 1 [], .len 32 (T 31) none, .mov 33 (I 0)]) (.block 2 (.loop g72_3)))))) k72_2))
def c72_1 : Ir := d72_1
def g72_1 : Ir := .gh (.keep [1, 2, 4, 9, 10, 28] [4]) c72_1
def b72 : Ir := .gh (.frz 0) (.gh (.frz 1) (.gh (.frz 2) (.seq (reg [.box 4 (T 0), .mov 8 (.c (.sl .sh 1 []))]) (.seq (reg [.make 18 1 [.int .i64 0] 8 (I 5), .mov 9 (.m 18)]) (.seq (reg [.alias 19 9 [], oM 20 3, .iad 21 19 [.t 9] (some (.t 9)) (I 4) 1, .store 21 [.t 9] (.t 9) 1 (T 20)]) (.seq (reg [.mova 22 9 9 [], .mkrowa 23 22 9 [.t 22] [.sl .own 1 []], .mova 10 23 9 [.t 23]]) (.seq (.seq (reg [.fad 24 4 [] 0, oL 25 24 4, .bin 26 .eql (T 25) (I (-1))]) (.cond (T 26) (.seq (reg [.mov 27 (.m 10), .mov 8 (.m 27)]) (.gh (.frz 8) .ret)) .skip)) (.seq (.seq (reg [.mov 28 (I 0)]) (.block 0 (.loop g72_1))) k72_1))))))))
def R72 : List RS := [.t 8]
def fi72 : Fi := ⟨b72, R72⟩

/-- (*loop.example/drawnanew/impl.canvas).paint -/
def k73_1 : Ir := reg [oM 52 9, .bin 53 .add (T 52) (I 1), oM 9 53]
def k73_2 : Ir := reg [oM 104 13, .bin 105 .add (T 104) (I 1), oM 13 105]
def d73_6 : Ir := .seq (reg [.bin 135 .lss (T 134) (T 133)]) (.seq (.cond (T 135) .skip (.exit 8)) (.seq (.block 9 (.seq (reg [.iad 136 132 [] none (T 134) 5, .load 137 136 [] none 5 true .bo, .alloc 16 [.int .i64 0, .int .i64 0, .str [], .sl .sh 4 [], .sl .sh 5 []], .store 16 [] (.b 16) 5 (T 137)]) (reg [oM 138 0, .load 139 16 [] (some (.b 16)) 5 true .mv, .load 140 8 [] (some (.b 8)) 4 true .cp, .call 141 73 [.bx 138 0, .v (T 139), .v (T 140)] false]))) (reg [.bin 142 .add (T 134) (I 1), oM 134 142])))
def c73_6 : Ir := d73_6
def g73_6 : Ir := .gh (.keep [0, 8, 132, 133, 134] [0, 8]) c73_6
def d73_5 : Ir := .seq (.seq (reg [oM 108 14, .fad 109 8 [] 0, oL 110 109 8, .fad 111 8 [] 2, oL 112 111 8, .bin 113 .add (T 110) (T 112), .bin 114 .lss (T 108) (T 113)]) (.cond (T 114) .skip (.exit 6))) (.seq (.block 7 (reg [oM 117 0, oM 118 14, oM 119 13, oM 120 12, .bin 121 .rem (T 120) (I 9), .idx 122 (.c (.str [46, 58, 45, 61, 43, 42, 35, 37, 64])) (T 121), .call 123 98 [.bx 117 0, .v (T 118), .v (T 119), .v (T 122)] false])) (reg [oM 115 14, .bin 116 .add (T 115) (I 1), oM 14 116]))
def c73_5 : Ir := d73_5
def g73_5 : Ir := .gh (.keep [0, 4, 8, 12, 13, 14] [0, 4, 8]) c73_5
def d73_4 : Ir := .seq (.seq (reg [oM 56 10, .fad 57 8 [] 0, oL 58 57 8, .fad 59 8 [] 2, oL 60 59 8, .bin 61 .add (T 58) (T 60), .bin 62 .lss (T 56) (T 61)]) (.cond (T 62) .skip (.exit 2))) (.seq (.block 3 (.seq (reg [oM 65 9, .fad 66 6 [] 1, oL 67 66 6, .bin 68 .sub (T 65) (T 67), .fad 69 6 [] 2, oL 70 69 6, .bin 71 .mul (T 68) (T 70), oM 72 10, .bin 73 .add (T 71) (T 72), .fad 74 6 [] 0, oL 75 74 6, .bin 76 .sub (T 73) (T 75), oM 11 76]) (.seq (reg [oM 77 11, .fad 78 4 [] 2, oL 79 78 4, .slen 80 (T 79), .bin 81 .lss (T 77) (T 80)]) (.cond (T 81) (reg [oM 82 0, oM 83 10, oM 84 9, .fad 85 4 [] 2, oL 86 85 4, oM 87 11, .idx 88 (T 86) (T 87), .call 89 98 [.bx 82 0, .v (T 83), .v (T 84), .v (T 88)] false]) .skip)))) (reg [oM 63 10, .bin 64 .add (T 63) (I 1), oM 10 64]))
def c73_4 : Ir := d73_4
def g73_4 : Ir := .gh (.keep [0, 4, 6, 8, 9, 10] [0, 4, 6, 8]) c73_4
def d73_3 : Ir := .seq (reg [oM 124 0, .nilc 125 124 [], .fad 126 125 [] 2, oL 127 126 0, .bin 128 .add (T 127) (I 1), .nilc 129 124 [], .fad 130 129 [] 2, .store 130 [] (.b 0) 1 (T 128)]) (.seq (reg [.fad 131 4 [] 4, .load 132 131 [] (some (.b 4)) 1 false .mv, .len 133 (T 132) none, .mov 134 (I 0)]) (.block 8 (.loop g73_6)))
def c73_3 : Ir := d73_3
def g73_3 : Ir := .gh (.keep [0, 4, 8] [0, 4, 8]) c73_3
def d73_2 : Ir := .seq (.seq (reg [oM 97 13, .fad 98 8 [] 1, oL 99 98 8, .fad 100 8 [] 3, oL 101 100 8, .bin 102 .add (T 99) (T 101), .bin 103 .lss (T 97) (T 102)]) (.cond (T 103) .skip (.exit 4))) (.seq (.block 5 (.seq (reg [.fad 106 8 [] 0, oL 107 106 8, oM 14 107]) (.block 6 (.loop g73_5)))) k73_2)
def c73_2 : Ir := d73_2
def g73_2 : Ir := .gh (.keep [0, 4, 8, 12, 13] [0, 4, 8]) c73_2
def d73_1 : Ir := .seq (.seq (reg [oM 45 9, .fad 46 8 [] 1, oL 47 46 8, .fad 48 8 [] 3, oL 49 48 8, .bin 50 .add (T 47) (T 49), .bin 51 .lss (T 45) (T 50)]) (.cond (T 51) .skip (.exit 0))) (.seq (.block 1 (.seq (reg [.fad 54 8 [] 0, oL 55 54 8, oM 10 55]) (.block 2 (.loop g73_4)))) k73_1)
def c73_1 : Ir := d73_1
def g73_1 : Ir := .gh (.keep [0, 4, 6, 8, 9] [0, 4, 6, 8]) c73_1
def b73 : Ir := .gh (.frz 1) (.seq (reg [.box 4 (T 1), .box 5 (T 2)]) (.seq (reg [oM 17 0, .nilc 18 17 [], .fad 19 18 [] 1, .load 20 19 [] (some (.b 0)) 1 false .al, oM 21 0, .nilc 22 21 [], .fad 23 22 [] 2, oL 24 23 0, .iad 25 20 [.b 0] (some (.b 0)) (T 24) 4, .load 26 25 [.b 0] (some (.b 0)) 4 true .cp, oM 27 0, .nilc 28 27 [], .fad 29 28 [] 0, .load 30 29 [] (some (.b 0)) 1 false .al, oM 31 0, .nilc 32 31 [], .fad 33 32 [] 2, oL 34 33 0, .iad 35 30 [] none (T 34) 1, .load 36 35 [] none 1 false .al, .alloc 6 [.int .i64 0, .int .i64 0, .int .i64 0, .int .i64 0], .store 6 [] (.b 6) 4 (T 26), oM 7 36]) (.seq (reg [.load 37 6 [] (some (.b 6)) 4 true .cp, .load 38 5 [] (some (.b 5)) 4 true .cp, .call 39 97 [.v (T 37), .v (T 38)] false, .alloc 8 [.int .i64 0, .int .i64 0, .int .i64 0, .int .i64 0], .store 8 [] (.b 8) 4 (T 39)]) (.seq (.seq (reg [.fad 40 4 [] 0, oL 41 40 4, .bin 42 .eql (T 41) (I (-1))]) (.cond (T 42) (.seq (reg [.fad 43 8 [] 1, oL 44 43 8, oM 9 44]) (.block 0 (.loop g73_1))) (.seq (reg [oM 90 7, .iad 91 90 [] none (I 4) 1, .load 92 91 [] none 1 false .cp, oM 12 92]) (.seq (reg [oM 93 12, .bin 94 .neq (T 93) (I 0)]) (.cond (T 94) (.seq (reg [.fad 95 8 [] 1, oL 96 95 8, oM 13 96]) (.block 4 (.loop g73_2))) .skip))))) g73_3))))
def R73 : List RS := []
def fi73 : Fi := ⟨b73, R73⟩

/-- loop.example/drawnanew/laws.eqProp -/
def b74 : Ir := .seq (reg [.box 2 (T 0), .box 3 (T 1), .mov 4 (.c (.bool false))]) (.seq (.seq (reg [.fad 5 2 [] 0, oL 6 5 2, .fad 7 3 [] 0, oL 8 7 3, .bin 9 .neq (T 6) (T 8)]) (.cond (T 9) (.seq (reg [.mov 4 (.c (.bool false))]) .ret) .skip)) (.seq (.seq (reg [.fad 10 2 [] 1, .load 11 10 [] (some (.b 2)) 3 true .cp, .fad 12 3 [] 1, .load 13 12 [] (some (.b 3)) 3 true .cp, .call 14 75 [.v (T 11), .v (T 13)] false, .not 15 (T 14)]) (.cond (T 15) (.seq (reg [.mov 4 (.c (.bool false))]) .ret) .skip)) (.seq (reg [.mov 4 (.c (.bool true))]) .ret)))
def R74 : List RS := [.t 4]
def fi74 : Fi := ⟨b74, R74⟩

/-- loop.example/drawnanew/laws.eqValue -/
def b75 : Ir := .seq (reg [.box 2 (T 0), .box 3 (T 1), .mov 4 (.c (.bool false))]) (.seq (.seq (reg [.fad 5 2 [] 0, oL 6 5 2, .fad 7 3 [] 0, oL 8 7 3, .bin 9 .neq (T 6) (T 8)]) (.cond (T 9) (.seq (reg [.mov 4 (.c (.bool false))]) .ret) .skip)) (.seq (.seq (reg [.fad 10 2 [] 1, oL 11 10 2, .fad 12 3 [] 1, oL 13 12 3, .bin 14 .neq (T 11) (T 13)]) (.cond (T 14) (.seq (reg [.mov 4 (.c (.bool false))]) .ret) .skip)) (.seq (.seq (reg [.fad 15 2 [] 2, oL 16 15 2, .fad 17 3 [] 2, oL 18 17 3, .sbin 19 .neq (T 16) (T 18)]) (.cond (T 19) (.seq (reg [.mov 4 (.c (.bool false))]) .ret) .skip)) (.seq (reg [.mov 4 (.c (.bool true))]) .ret))))
def R75 : List RS := [.t 4]
def fi75 : Fi := ⟨b75, R75⟩

/-- loop.example/drawnanew/spec.treeSize -/
def k76_1 : Ir := .seq (reg [oM 30 5, .mm 31 false (T 30) (I 201), oM 4 31]) .ret
def d76_1 : Ir := .seq (.seq (.region [⟨none, oM 9 6⟩, ⟨none, .fad 10 2 [] 4⟩, ⟨none, .load 11 10 [] (some (.b 2)) 1 false .al⟩, ⟨none, .len 12 (T 11) none⟩, ⟨none, .bin 13 .lss (T 9) (T 12)⟩, ⟨none, oM 14 13⟩, ⟨(some (14, true)), oM 15 5⟩, ⟨(some (14, true)), .bin 16 .leq (T 15) (I 200)⟩, ⟨none, .pick 17 (T 14) (T 16) (.c (.bool false))⟩]) (.cond (T 17) .skip (.exit 0))) (.seq (.block 1 (reg [oM 20 5, .fad 21 2 [] 4, .load 22 21 [] (some (.b 2)) 1 false .al, oM 23 6, .iad 24 22 [] none (T 23) 5, .load 25 24 [] none 5 true .bo, oM 26 1, .bin 27 .add (T 26) (I 1), .call 28 76 [.v (T 25), .v (T 27)] false, .bin 29 .add (T 20) (T 28), oM 5 29])) (reg [oM 18 6, .bin 19 .add (T 18) (I 1), oM 6 19]))
def c76_1 : Ir := d76_1
def g76_1 : Ir := .gh (.keep [1, 2, 5, 6] [2]) c76_1
def b76 : Ir := .gh (.frz 0) (.seq (reg [.box 2 (T 0), .mov 4 (I 0)]) (.seq (reg [.mov 5 (I 1)]) (.seq (.seq (reg [oM 7 1, .bin 8 .gtr (T 7) (I 24)]) (.cond (T 8) (.seq (reg [.mov 4 (I 201)]) .ret) .skip)) (.seq (.seq (reg [.mov 6 (I 0)]) (.block 0 (.loop g76_1))) k76_1))))
def R76 : List RS := [.t 4]
def fi76 : Fi := ⟨b76, R76⟩

/-- loop.example/drawnanew/spec.validPart -/
def k77_1 : Ir := .seq (reg [.fad 62 1 [] 4, .load 63 62 [] (some (.b 1)) 1 false .mv, .call 64 101 [.v (T 63)] false, oM 2 64]) .ret
def d77_1 : Ir := .seq (.seq (reg [oM 48 3, .fad 49 1 [] 4, .load 50 49 [] (some (.b 1)) 1 false .al, .len 51 (T 50) none, .bin 52 .lss (T 48) (T 51)]) (.cond (T 52) .skip (.exit 0))) (.seq (.block 1 (.seq (reg [.fad 55 1 [] 4, .load 56 55 [] (some (.b 1)) 1 false .al, oM 57 3, .iad 58 56 [] none (T 57) 5, .load 59 58 [] none 5 true .bo, .call 60 77 [.v (T 59)] false, .not 61 (T 60)]) (.cond (T 61) (.seq (reg [.mov 2 (.c (.bool false))]) .ret) .skip))) (reg [oM 53 3, .bin 54 .add (T 53) (I 1), oM 3 54]))
def c77_1 : Ir := d77_1
def g77_1 : Ir := .gh (.keep [1, 3] [1]) c77_1
def b77 : Ir := .gh (.frz 0) (.seq (reg [.box 1 (T 0), .mov 2 (.c (.bool false))]) (.seq (.seq (reg [.fad 4 1 [] 0, oL 5 4 1, .bin 6 .eql (T 5) (I (-1))]) (.cond (T 6) (.seq (.region [⟨none, .fad 7 1 [] 1⟩, ⟨none, oL 8 7 1⟩, ⟨none, .bin 9 .eql (T 8) (I (-1))⟩, ⟨none, oM 10 9⟩, ⟨(some (10, true)), .fad 11 1 [] 3⟩, ⟨(some (10, true)), .load 12 11 [] (some (.b 1)) 1 false .mv⟩, ⟨(some (10, true)), .len 13 (T 12) none⟩, ⟨(some (10, true)), .bin 14 .eql (T 13) (I 0)⟩, ⟨none, .pick 15 (T 10) (T 14) (.c (.bool false))⟩, ⟨none, oM 16 15⟩, ⟨(some (16, true)), .fad 17 1 [] 4⟩, ⟨(some (16, true)), .load 18 17 [] (some (.b 1)) 1 false .mv⟩, ⟨(some (16, true)), .len 19 (T 18) none⟩, ⟨(some (16, true)), .bin 20 .eql (T 19) (I 0)⟩, ⟨none, .pick 21 (T 16) (T 20) (.c (.bool false))⟩, ⟨none, oM 22 21⟩, ⟨(some (22, true)), .fad 23 1 [] 2⟩, ⟨(some (22, true)), oL 24 23 1⟩, ⟨(some (22, true)), .call 25 99 [.v (T 24)] false⟩, ⟨none, .pick 26 (T 22) (T 25) (.c (.bool false))⟩, ⟨none, oM 2 26⟩]) .ret) .skip)) (.seq (.seq (.region [⟨none, .fad 27 1 [] 0⟩, ⟨none, oL 28 27 1⟩, ⟨none, .call 29 37 [.v (T 28), .v (I 0), .v (I 4)] false⟩, ⟨none, .not 30 (T 29)⟩, ⟨none, oM 31 30⟩, ⟨(some (31, false)), .fad 32 1 [] 1⟩, ⟨(some (31, false)), oL 33 32 1⟩, ⟨(some (31, false)), .call 34 37 [.v (T 33), .v (I (-1)), .v (I 99)] false⟩, ⟨(some (31, false)), .not 35 (T 34)⟩, ⟨none, .pick 36 (T 31) (.c (.bool true)) (T 35)⟩, ⟨none, oM 37 36⟩, ⟨(some (37, false)), .fad 38 1 [] 2⟩, ⟨(some (37, false)), oL 39 38 1⟩, ⟨(some (37, false)), .sbin 40 .neq (T 39) (.c (.str []))⟩, ⟨none, .pick 41 (T 37) (.c (.bool true)) (T 40)⟩, ⟨none, oM 42 41⟩, ⟨(some (42, false)), .fad 43 1 [] 3⟩, ⟨(some (42, false)), .load 44 43 [] (some (.b 1)) 1 false .al⟩, ⟨(some (42, false)), .call 45 100 [.v (T 44)] false⟩, ⟨(some (42, false)), .not 46 (T 45)⟩, ⟨none, .pick 47 (T 42) (.c (.bool true)) (T 46)⟩]) (.cond (T 47) (.seq (reg [.mov 2 (.c (.bool false))]) .ret) .skip)) (.seq (.seq (reg [.mov 3 (I 0)]) (.block 0 (.loop g77_1))) k77_1))))
def R77 : List RS := [.t 2]
def fi77 : Fi := ⟨b77, R77⟩

/-- loop.example/drawnanew/spec.validRule -/
def b78 : Ir := .seq (reg [.box 1 (T 0), .mov 2 (.c (.bool false))]) (.seq (.region [⟨none, .fad 3 1 [] 0⟩, ⟨none, oL 4 3 1⟩, ⟨none, .call 5 37 [.v (T 4), .v (I (-1)), .v (I 4)] false⟩, ⟨none, oM 6 5⟩, ⟨(some (6, true)), .fad 7 1 [] 1⟩, ⟨(some (6, true)), oL 8 7 1⟩, ⟨(some (6, true)), .call 9 37 [.v (T 8), .v (I (-1)), .v (I 4)] false⟩, ⟨none, .pick 10 (T 6) (T 9) (.c (.bool false))⟩, ⟨none, oM 11 10⟩, ⟨(some (11, true)), .fad 12 1 [] 2⟩, ⟨(some (11, true)), oL 13 12 1⟩, ⟨(some (11, true)), .call 14 37 [.v (T 13), .v (I (-1)), .v (I 3)] false⟩, ⟨none, .pick 15 (T 11) (T 14) (.c (.bool false))⟩, ⟨none, oM 16 15⟩, ⟨(some (16, true)), .fad 17 1 [] 3⟩, ⟨(some (16, true)), .load 18 17 [] (some (.b 1)) 3 true .cp⟩, ⟨(some (16, true)), .call 19 102 [.v (T 18)] false⟩, ⟨none, .pick 20 (T 16) (T 19) (.c (.bool false))⟩, ⟨none, oM 21 20⟩, ⟨(some (21, true)), .fad 22 1 [] 2⟩, ⟨(some (21, true)), oL 23 22 1⟩, ⟨(some (21, true)), .bin 24 .neq (T 23) (I (-1))⟩, ⟨(some (21, true)), oM 25 24⟩, ⟨(some (25, false)), .fad 26 1 [] 3⟩, ⟨(some (25, false)), .load 27 26 [] (some (.b 1)) 3 true .cp⟩, ⟨(some (25, false)), .build 28 [.int .i64 0, .int .i64 0, .str []] []⟩, ⟨(some (25, false)), .ceq 29 false true [.int .i64, .int .i64, .str] (T 27) (T 28)⟩, ⟨(some (21, true)), .pick 30 (T 25) (.c (.bool true)) (T 29)⟩, ⟨none, .pick 31 (T 21) (T 30) (.c (.bool false))⟩, ⟨none, oM 32 31⟩, ⟨(some (32, true)), .fad 33 1 [] 6⟩, ⟨(some (32, true)), oL 34 33 1⟩, ⟨(some (32, true)), .call 35 37 [.v (T 34), .v (I 0), .v (I 4)] false⟩, ⟨none, .pick 36 (T 32) (T 35) (.c (.bool false))⟩, ⟨none, oM 37 36⟩, ⟨(some (37, true)), .fad 38 1 [] 7⟩, ⟨(some (37, true)), oL 39 38 1⟩, ⟨(some (37, true)), .call 40 37 [.v (T 39), .v (I 0), .v (I 60)] false⟩, ⟨none, .pick 41 (T 37) (T 40) (.c (.bool false))⟩, ⟨none, oM 2 41⟩]) .ret)
def R78 : List RS := [.t 2]
def fi78 : Fi := ⟨b78, R78⟩

/-- (*loop.example/drawnanew/spec.placer).part -/
def d79_4 : Ir := .seq (reg [oM 140 0, .nilc 141 140 [], .fad 142 141 [] 1, .load 143 142 [] (some (.b 0)) 1 false .al, oM 144 16, .load 145 17 [] (some (.b 17)) 4 true .cp, .iad 146 143 [.b 0] (some (.b 0)) (T 144) 4, .store 146 [.b 0] (.b 0) 4 (T 145)]) (.seq (reg [.load 147 17 [] (some (.b 17)) 4 true .cp, .store 14 [] (.b 14) 4 (T 147)]) .ret)
def c79_4 : Ir := d79_4
def g79_4 : Ir := .gh (.keep [0, 14, 16, 17] [0, 14, 17]) c79_4
def d79_3 : Ir := .seq (reg [oM 127 21, oM 128 18, .bin 129 .mul (I 2) (T 128), .bin 130 .add (T 127) (T 129), .fad 131 17 [] 3, .store 131 [] (.b 17) 1 (T 130)]) (.seq (.seq (reg [.alias 132 15 [], .iad 133 132 [] none (I 1) 1, .load 134 133 [] none 1 false .cp, .bin 135 .gtr (T 134) (I 0)]) (.cond (T 135) (reg [oM 136 15, .iad 137 136 [] none (I 1) 1, .load 138 137 [] none 1 false .cp, .fad 139 17 [] 3, .store 139 [] (.b 17) 1 (T 138)]) .skip)) g79_4)
def c79_3 : Ir := d79_3
def g79_3 : Ir := .gh (.keep [0, 14, 15, 16, 17, 18, 21] [0, 14, 17]) c79_3
def d79_2 : Ir := reg [oM 114 0, .fad 115 8 [] 4, .load 116 115 [] (some (.b 8)) 1 false .mv, oM 117 20, .alias 118 15 [], oM 119 4, oM 120 18, .bin 121 .add (T 119) (T 120), oM 122 5, oM 123 18, .bin 124 .add (T 122) (T 123), oM 125 19, .call 126 105 [.bx 114 0, .v (T 116), .v (T 117), .v (T 118), .v (T 121), .v (T 124), .v (T 125)] false, oM 21 126]
def c79_2 : Ir := d79_2
def g79_2 : Ir := .gh (.keep [0, 4, 5, 8, 14, 15, 16, 17, 18, 19, 20] [0, 8, 14, 17]) c79_2
def d79_1 : Ir := .seq (reg [.alias 81 15 [], .iad 82 81 [] none (I 2) 1, .load 83 82 [] none 1 false .cp, oM 18 83]) (.seq (reg [.fad 84 17 [] 2, oL 85 84 17, oM 86 18, .bin 87 .mul (I 2) (T 86), .bin 88 .sub (T 85) (T 87), .mm 89 true (I 0) (T 88), oM 19 89]) (.seq (reg [.mkrow 90 1 [.int .i64 0] 0 [], oM 91 2, .app 92 1 (.m 90) (T 91) none 8, .fad 93 8 [] 0, oL 94 93 8, .mkrow 95 1 [.int .i64 0] 1 [(0, 1, (T 94))], .app 96 1 (.m 92) (.m 95) none 8, .mov 20 (.m 96)]) (.gh (.frz 20) (.seq (reg [.mov 21 (I 0)]) (.seq (.seq (reg [.alias 97 15 [], .iad 98 97 [] none (I 3) 1, .load 99 98 [] none 1 false .cp, .bin 100 .gtr (T 99) (I 0)]) (.cond (T 100) (reg [oM 101 0, .fad 102 8 [] 4, .load 103 102 [] (some (.b 8)) 1 false .mv, oM 104 20, .alias 105 15 [], oM 106 4, oM 107 18, .bin 108 .add (T 106) (T 107), oM 109 5, oM 110 18, .bin 111 .add (T 109) (T 110), oM 112 19, .call 113 104 [.bx 101 0, .v (T 103), .v (T 104), .v (T 105), .v (T 108), .v (T 111), .v (T 112)] false, oM 21 113]) g79_2)) g79_3)))))
def c79_1 : Ir := d79_1
def g79_1 : Ir := .gh (.keep [0, 2, 4, 5, 8, 14, 15, 16, 17] [0, 8, 14, 17]) c79_1
def b79 : Ir := .gh (.frz 1) (.gh (.frz 2) (.gh (.frz 3) (.seq (reg [.box 8 (T 1), .alloc 14 [.int .i64 0, .int .i64 0, .int .i64 0, .int .i64 0]]) (.seq (reg [oM 22 0, .nilc 23 22 [], .fad 24 23 [] 0, .load 25 24 [] (some (.b 0)) 1 false .al, .load 26 8 [] (some (.b 8)) 5 true .bo, .alias 27 2 [], oM 28 3, .call 29 91 [.v (T 25), .v (T 26), .v (T 27), .v (T 28)] false, .mov 15 (.m 29)]) (.gh (.frz 15) (.seq (reg [oM 30 0, .nilc 31 30 [], .fad 32 31 [] 1, .load 33 32 [] (some (.b 0)) 1 false .al, .len 34 (.t 33 [.b 0]) (some (.b 0)), oM 16 34]) (.seq (reg [oM 35 4, oM 36 5, .build 37 [.int .i64 0, .int .i64 0, .int .i64 0, .int .i64 0] [(0, 1, (T 35)), (1, 1, (T 36))], .alloc 17 [.int .i64 0, .int .i64 0, .int .i64 0, .int .i64 0], .store 17 [] (.b 17) 4 (T 37)]) (.seq (reg [oM 38 0, oM 39 0, .nilc 40 39 [], .fad 41 40 [] 1, .load 42 41 [] (some (.b 0)) 1 false .al, .load 43 17 [] (some (.b 17)) 4 true .cp, .mkrow 44 4 [.int .i64 0, .int .i64 0, .int .i64 0, .int .i64 0] 1 [(0, 4, (T 43))], .appa 45 4 42 [.b 0] 0 (.m 44) none 32, .nilc 46 38 [], .fad 47 46 [] 1, .store 47 [] (.b 0) 1 (.m 45)]) (.seq (.seq (reg [.fad 48 8 [] 0, oL 49 48 8, .bin 50 .lss (T 49) (I 0)]) (.cond (T 50) (.seq (reg [.fad 52 8 [] 2, oL 53 52 8, .slen 54 (T 53), oM 55 6, .call 56 103 [.v (T 54), .v (T 55)] false, oM 51 56, .ext 57 (T 51) 0 false, .ext 58 (T 51) 1 false, .fad 59 17 [] 2, .store 59 [] (.b 17) 1 (T 57), .fad 60 17 [] 3, .store 60 [] (.b 17) 1 (T 58)]) (.seq (reg [oM 61 0, .nilc 62 61 [], .fad 63 62 [] 1, .load 64 63 [] (some (.b 0)) 1 false .al, oM 65 16, .load 66 17 [] (some (.b 17)) 4 true .cp, .iad 67 64 [.b 0] (some (.b 0)) (T 65) 4, .store 67 [.b 0] (.b 0) 4 (T 66)]) (.seq (reg [.load 68 17 [] (some (.b 17)) 4 true .cp, .store 14 [] (.b 14) 4 (T 68)]) .ret))) .skip)) (.seq (reg [oM 69 6, .fad 70 17 [] 2, .store 70 [] (.b 17) 1 (T 69)]) (.seq (.seq (reg [.alias 71 15 [], .iad 72 71 [] none (I 0) 1, .load 73 72 [] none 1 false .cp, .bin 74 .gtr (T 73) (I 0)]) (.cond (T 74) (reg [oM 75 6, .alias 76 15 [], .iad 77 76 [] none (I 0) 1, .load 78 77 [] none 1 false .cp, .mm 79 false (T 75) (T 78), .fad 80 17 [] 2, .store 80 [] (.b 17) 1 (T 79)]) .skip)) g79_1)))))))))))
def R79 : List RS := [.c 14 4 true]
def fi79 : Fi := ⟨b79, R79⟩

/-- loop.example/drawnanew/impl.treeFits -/
def k80_2 : Ir := .seq (reg [.mov 6 (.c (.bool true))]) .ret
def d80_2 : Ir := .seq (reg [.bin 103 .lss (T 102) (T 101)]) (.seq (.cond (T 103) .skip (.exit 2)) (.seq (.block 3 (.seq (reg [.iad 104 100 [] none (T 102) 5, .load 105 104 [] none 5 true .bo, .alloc 11 [.int .i64 0, .int .i64 0, .str [], .sl .sh 4 [], .sl .sh 5 []], .store 11 [] (.b 11) 5 (T 105)]) (.seq (.seq (.region [⟨none, .fad 106 11 [] 1⟩, ⟨none, oL 107 106 11⟩, ⟨none, .bin 108 .neq (T 107) (I (-1))⟩, ⟨none, oM 109 108⟩, ⟨(some (109, true)), .alias 110 9 []⟩, ⟨(some (109, true)), .fad 111 11 [] 1⟩, ⟨(some (109, true)), oL 112 111 11⟩, ⟨(some (109, true)), .mlook 113 110 [.t 9] 9 (T 112)⟩, ⟨none, .pick 114 (T 109) (T 113) (.c (.bool false))⟩]) (.cond (T 114) (.seq (reg [.mov 6 (.c (.bool false))]) .ret) .skip)) (.seq (reg [.alias 115 9 [], .fad 116 11 [] 1, oL 117 116 11, .mset 115 [.t 9] 9 (T 117) (.c (.bool true))]) (.seq (reg [.load 118 11 [] (some (.b 11)) 5 true .mv, oM 119 1, .bin 120 .add (T 119) (I 1), oM 121 2, .call 122 80 [.v (T 118), .v (T 120), .bx 121 2] false, .not 123 (T 122)]) (.cond (T 123) (.seq (reg [.mov 6 (.c (.bool false))]) .ret) .skip)))))) (reg [.bin 124 .add (T 102) (I 1), oM 102 124])))
def c80_2 : Ir := d80_2
def g80_2 : Ir := .gh (.keep [1, 2, 9, 100, 101, 102] [2]) c80_2
def k80_1 : Ir := .seq (reg [.mkmap 98, .mov 9 (.m 98)]) (.seq (.seq (reg [.fad 99 3 [] 4, .load 100 99 [] (some (.b 3)) 1 false .mv, .len 101 (T 100) none, .mov 102 (I 0)]) (.block 2 (.loop g80_2))) k80_2)
def d80_1 : Ir := .seq (reg [.bin 67 .lss (T 66) (T 65)]) (.seq (.cond (T 67) .skip (.exit 0)) (.seq (.block 1 (.seq (reg [oM 68 66, .iad 69 64 [] none (T 66) 4, .load 70 69 [] none 4 true .cp, .alloc 8 [.int .i64 0, .int .i64 0, .int .i64 0, .str []], oM 7 68, .store 8 [] (.b 8) 4 (T 70)]) (.seq (.region [⟨none, .fad 71 8 [] 0⟩, ⟨none, oL 72 71 8⟩, ⟨none, .call 73 43 [.v (T 72), .v (I 0), .v (I 3)] false⟩, ⟨none, .not 74 (T 73)⟩, ⟨none, oM 75 74⟩, ⟨(some (75, false)), oM 76 7⟩, ⟨(some (75, false)), .bin 77 .gtr (T 76) (I 0)⟩, ⟨(some (75, false)), oM 78 77⟩, ⟨(some (78, true)), .fad 79 8 [] 0⟩, ⟨(some (78, true)), oL 80 79 8⟩, ⟨(some (78, true)), .fad 81 3 [] 3⟩, ⟨(some (78, true)), .load 82 81 [] (some (.b 3)) 1 false .al⟩, ⟨(some (78, true)), oM 83 7⟩, ⟨(some (78, true)), .bin 84 .sub (T 83) (I 1)⟩, ⟨(some (78, true)), .iad 85 82 [] none (T 84) 4⟩, ⟨(some (78, true)), .fad 86 85 [] 0⟩, ⟨(some (78, true)), .load 87 86 [] none 1 false .cp⟩, ⟨(some (78, true)), .bin 88 .leq (T 80) (T 87)⟩, ⟨(some (75, false)), .pick 89 (T 78) (T 88) (.c (.bool false))⟩, ⟨none, .pick 90 (T 75) (.c (.bool true)) (T 89)⟩, ⟨none, oM 91 90⟩, ⟨(some (91, false)), .fad 92 8 [] 1⟩, ⟨(some (91, false)), .load 93 92 [] (some (.b 8)) 3 true .cp⟩, ⟨(some (91, false)), .call 94 81 [.v (T 93)] false⟩, ⟨(some (91, false)), .not 95 (T 94)⟩, ⟨none, .pick 96 (T 91) (.c (.bool true)) (T 95)⟩]) (.cond (T 96) (.seq (reg [.mov 6 (.c (.bool false))]) .ret) .skip)))) (reg [.bin 97 .add (T 66) (I 1), oM 66 97])))
def c80_1 : Ir := d80_1
def g80_1 : Ir := .gh (.keep [1, 2, 3, 64, 65, 66] [2, 3]) c80_1
def b80 : Ir := .gh (.frz 0) (.seq (reg [.box 3 (T 0), .mov 6 (.c (.bool false))]) (.seq (reg [oM 12 2, .nilc 13 12 [], oL 14 13 2, .bin 15 .sub (T 14) (I 1), .nilc 16 12 [], .store 16 [] (.b 2) 1 (T 15)]) (.seq (.seq (.region [⟨none, oM 17 1⟩, ⟨none, .bin 18 .gtr (T 17) (I 24)⟩, ⟨none, oM 19 18⟩, ⟨(some (19, false)), oM 20 2⟩, ⟨(some (19, false)), .nilc 21 20 []⟩, ⟨(some (19, false)), oL 22 21 2⟩, ⟨(some (19, false)), .bin 23 .lss (T 22) (I 0)⟩, ⟨none, .pick 24 (T 19) (.c (.bool true)) (T 23)⟩]) (.cond (T 24) (.seq (reg [.mov 6 (.c (.bool false))]) .ret) .skip)) (.seq (.seq (reg [.fad 25 3 [] 0, oL 26 25 3, .bin 27 .eql (T 26) (I (-1))]) (.cond (T 27) (.seq (.region [⟨none, .fad 28 3 [] 1⟩, ⟨none, oL 29 28 3⟩, ⟨none, .bin 30 .eql (T 29) (I (-1))⟩, ⟨none, oM 31 30⟩, ⟨(some (31, true)), .fad 32 3 [] 2⟩, ⟨(some (31, true)), oL 33 32 3⟩, ⟨(some (31, true)), .call 34 106 [.v (T 33)] false⟩, ⟨none, .pick 35 (T 31) (T 34) (.c (.bool false))⟩, ⟨none, oM 36 35⟩, ⟨(some (36, true)), .fad 37 3 [] 3⟩, ⟨(some (36, true)), .load 38 37 [] (some (.b 3)) 1 false .mv⟩, ⟨(some (36, true)), .len 39 (T 38) none⟩, ⟨(some (36, true)), .bin 40 .eql (T 39) (I 0)⟩, ⟨none, .pick 41 (T 36) (T 40) (.c (.bool false))⟩, ⟨none, oM 42 41⟩, ⟨(some (42, true)), .fad 43 3 [] 4⟩, ⟨(some (42, true)), .load 44 43 [] (some (.b 3)) 1 false .mv⟩, ⟨(some (42, true)), .len 45 (T 44) none⟩, ⟨(some (42, true)), .bin 46 .eql (T 45) (I 0)⟩, ⟨none, .pick 47 (T 42) (T 46) (.c (.bool false))⟩, ⟨none, oM 6 47⟩]) .ret) .skip)) (.seq (.seq (.region [⟨none, .fad 48 3 [] 0⟩, ⟨none, oL 49 48 3⟩, ⟨none, .call 50 43 [.v (T 49), .v (I 0), .v (I 4)] false⟩, ⟨none, .not 51 (T 50)⟩, ⟨none, oM 52 51⟩, ⟨(some (52, false)), .fad 53 3 [] 1⟩, ⟨(some (52, false)), oL 54 53 3⟩, ⟨(some (52, false)), .call 55 43 [.v (T 54), .v (I (-1)), .v (I 99)] false⟩, ⟨(some (52, false)), .not 56 (T 55)⟩, ⟨none, .pick 57 (T 52) (.c (.bool true)) (T 56)⟩, ⟨none, oM 58 57⟩, ⟨(some (58, false)), .fad 59 3 [] 2⟩, ⟨(some (58, false)), oL 60 59 3⟩, ⟨(some (58, false)), .sbin 61 .neq (T 60) (.c (.str []))⟩, ⟨none, .pick 62 (T 58) (.c (.bool true)) (T 61)⟩]) (.cond (T 62) (.seq (reg [.mov 6 (.c (.bool false))]) .ret) .skip)) (.seq (.seq (reg [.fad 63 3 [] 3, .load 64 63 [] (some (.b 3)) 1 false .al, .len 65 (T 64) none, .mov 66 (I 0)]) (.block 0 (.loop g80_1))) k80_1))))))
def R80 : List RS := [.t 6]
def fi80 : Fi := ⟨b80, R80⟩

/-- loop.example/drawnanew/impl.ValOk -/
def b81 : Ir := .seq (reg [.box 1 (T 0), .mov 2 (.c (.bool false))]) (.seq (.seq (reg [.fad 3 1 [] 0, oL 4 3 1]) (.block 0 (.seq (reg [.bin 6 .eql (T 4) (I 0), oM 5 6]) (.cond (T 5) (.seq (.region [⟨none, .fad 7 1 [] 1⟩, ⟨none, oL 8 7 1⟩, ⟨none, .bin 9 .eql (T 8) (I 0)⟩, ⟨none, oM 10 9⟩, ⟨(some (10, true)), .fad 11 1 [] 2⟩, ⟨(some (10, true)), oL 12 11 1⟩, ⟨(some (10, true)), .sbin 13 .eql (T 12) (.c (.str []))⟩, ⟨none, .pick 14 (T 10) (T 13) (.c (.bool false))⟩, ⟨none, oM 2 14⟩]) .ret) (.seq (reg [.bin 16 .eql (T 4) (I 1), oM 15 16]) (.cond (T 15) (.seq (.region [⟨none, .fad 17 1 [] 1⟩, ⟨none, oL 18 17 1⟩, ⟨none, .call 19 43 [.v (T 18), .v (I (-1000)), .v (I 1000)] false⟩, ⟨none, oM 20 19⟩, ⟨(some (20, true)), .fad 21 1 [] 2⟩, ⟨(some (20, true)), oL 22 21 1⟩, ⟨(some (20, true)), .sbin 23 .eql (T 22) (.c (.str []))⟩, ⟨none, .pick 24 (T 20) (T 23) (.c (.bool false))⟩, ⟨none, oM 2 24⟩]) .ret) (.seq (reg [.bin 26 .eql (T 4) (I 2), oM 25 26]) (.cond (T 25) (.seq (.region [⟨none, .fad 27 1 [] 1⟩, ⟨none, oL 28 27 1⟩, ⟨none, .bin 29 .eql (T 28) (I 0)⟩, ⟨none, oM 30 29⟩, ⟨(some (30, true)), .fad 31 1 [] 2⟩, ⟨(some (30, true)), oL 32 31 1⟩, ⟨(some (30, true)), .call 33 107 [.v (T 32)] false⟩, ⟨none, .pick 34 (T 30) (T 33) (.c (.bool false))⟩, ⟨none, oM 2 34⟩]) .ret) .skip)))))))) (.seq (reg [.mov 2 (.c (.bool false))]) .ret))
def R81 : List RS := [.t 2]
def fi81 : Fi := ⟨b81, R81⟩

/-- (*loop.example/drawnanew/impl.boxer).lay -/
def k82_3 : Ir := reg [.bin 252 .add (T 205) (I 1), oM 205 252]
def d82_7 : Ir := .seq (reg [oM 232 17, oM 233 0, .load 234 29 [] (some (.b 29)) 5 true .bo, oM 235 27, oM 236 3, oM 237 15, .bin 238 .add (T 236) (T 237), .alias 239 21 [], oM 240 28, .iad 241 239 [.t 21] (some (.t 21)) (T 240) 1, .load 242 241 [.t 21] (some (.t 21)) 1 false .cp, .call 243 82 [.bx 233 0, .v (T 234), .v (T 235), .v (T 238), .v (T 242)] false, .fld 244 (T 243) 3 1 false, .mm 245 true (T 232) (T 244), oM 17 245]) (reg [oM 246 27, .alias 247 21 [], oM 248 28, .iad 249 247 [.t 21] (some (.t 21)) (T 248) 1, .load 250 249 [.t 21] (some (.t 21)) 1 false .cp, .bin 251 .add (T 246) (T 250), oM 27 251])
def c82_7 : Ir := d82_7
def g82_7 : Ir := .gh (.keep [0, 3, 10, 11, 12, 13, 15, 17, 20, 21, 22, 27, 28, 29, 203, 204, 205] [0, 10, 13, 29]) c82_7
def d82_6 : Ir := .seq (reg [oM 253 17, oM 254 15, .bin 255 .mul (I 2) (T 254), .bin 256 .add (T 253) (T 255), .fad 257 13 [] 3, .store 257 [] (.b 13) 1 (T 256)]) (.seq (.seq (reg [.alias 258 11 [], .iad 259 258 [] none (I 1) 1, .load 260 259 [] none 1 false .cp, .bin 261 .neq (T 260) (I 0)]) (.cond (T 261) (reg [oM 262 11, .iad 263 262 [] none (I 1) 1, .load 264 263 [] none 1 false .cp, .fad 265 13 [] 3, .store 265 [] (.b 13) 1 (T 264)]) .skip)) (.seq (reg [oM 266 0, .nilc 267 266 [], .fad 268 267 [] 2, .load 269 268 [] (some (.b 0)) 1 false .al, oM 270 12, .load 271 13 [] (some (.b 13)) 4 true .cp, .iad 272 269 [.b 0] (some (.b 0)) (T 270) 4, .store 272 [.b 0] (.b 0) 4 (T 271)]) (.seq (reg [.load 273 13 [] (some (.b 13)) 4 true .cp, .store 10 [] (.b 10) 4 (T 273)]) .ret)))
def c82_6 : Ir := d82_6
def g82_6 : Ir := .gh (.keep [0, 10, 11, 12, 13, 15, 17] [0, 10, 13]) c82_6
def d82_5 : Ir := .seq (reg [.bin 206 .lss (T 205) (T 204)]) (.seq (.cond (T 206) .skip (.exit 4)) (.seq (.block 5 (.seq (reg [oM 207 205, .iad 208 203 [] none (T 205) 5, .load 209 208 [] none 5 true .bo, .alloc 29 [.int .i64 0, .int .i64 0, .str [], .sl .sh 4 [], .sl .sh 5 []], oM 28 207, .store 29 [] (.b 29) 5 (T 209)]) (.seq (.seq (reg [.alias 210 21 [], oM 211 28, .iad 212 210 [.t 21] (some (.t 21)) (T 211) 1, .load 213 212 [.t 21] (some (.t 21)) 1 false .cp, .bin 214 .lss (T 213) (I 0)]) (.cond (T 214) (.seq (reg [.alias 215 21 [], oM 216 28, oM 217 20, oM 218 22, .bin 219 .add (T 217) (T 218), .bin 220 .sub (T 219) (I 1), oM 221 22, .bin 222 .quo (T 220) (T 221), .iad 223 215 [.t 21] (some (.t 21)) (T 216) 1, .store 223 [.t 21] (.t 21) 1 (T 222)]) (.seq (reg [oM 224 20, .alias 225 21 [], oM 226 28, .iad 227 225 [.t 21] (some (.t 21)) (T 226) 1, .load 228 227 [.t 21] (some (.t 21)) 1 false .cp, .bin 229 .sub (T 224) (T 228), oM 20 229]) (reg [oM 230 22, .bin 231 .sub (T 230) (I 1), oM 22 231]))) .skip)) g82_7))) k82_3))
def c82_5 : Ir := d82_5
def g82_5 : Ir := .gh (.keep [0, 3, 10, 11, 12, 13, 15, 17, 20, 21, 22, 27, 203, 204, 205] [0, 10, 13]) c82_5
def k82_2 : Ir := .seq (reg [oM 199 2, oM 200 15, .bin 201 .add (T 199) (T 200), oM 27 201]) (.seq (reg [.fad 202 6 [] 4, .load 203 202 [] (some (.b 6)) 1 false .mv, .len 204 (T 203) none, .mov 205 (I 0)]) (.block 4 (.loop g82_5)))
def d82_4 : Ir := .seq (reg [.bin 157 .lss (T 156) (T 155)]) (.seq (.cond (T 157) .skip (.exit 2)) (.seq (.block 3 (.seq (reg [oM 158 156, .iad 159 154 [] none (T 156) 5, .load 160 159 [] none 5 true .bo, .alloc 25 [.int .i64 0, .int .i64 0, .str [], .sl .sh 4 [], .sl .sh 5 []], oM 24 158, .store 25 [] (.b 25) 5 (T 160)]) (.seq (.seq (reg [oM 161 0, .nilc 162 161 [], .fad 163 162 [] 0, .load 164 163 [] (some (.b 0)) 1 false .al, oM 165 23, .iad 166 164 [] none (T 165) 1, .load 167 166 [] none 1 false .al, .iad 168 167 [] none (I 0) 1, .load 169 168 [] none 1 false .cp, oM 26 169]) (.seq (.region [⟨none, .fad 170 25 [] 0⟩, ⟨none, oL 171 170 25⟩, ⟨none, .bin 172 .neq (T 171) (I (-1))⟩, ⟨none, oM 173 172⟩, ⟨(some (173, true)), oM 174 26⟩, ⟨(some (173, true)), .bin 175 .neq (T 174) (I 0)⟩, ⟨none, .pick 176 (T 173) (T 175) (.c (.bool false))⟩]) (.cond (T 176) (.seq (reg [.alias 177 21 [], oM 178 24, oM 179 26, oM 180 20, .mm 181 false (T 179) (T 180), .iad 182 177 [.t 21] (some (.t 21)) (T 178) 1, .store 182 [.t 21] (.t 21) 1 (T 181)]) (reg [oM 183 20, .alias 184 21 [], oM 185 24, .iad 186 184 [.t 21] (some (.t 21)) (T 185) 1, .load 187 186 [.t 21] (some (.t 21)) 1 false .cp, .bin 188 .sub (T 183) (T 187), oM 20 188])) (.seq (reg [.alias 189 21 [], oM 190 24, .iad 191 189 [.t 21] (some (.t 21)) (T 190) 1, .store 191 [.t 21] (.t 21) 1 (I (-1))]) (reg [oM 192 22, .bin 193 .add (T 192) (I 1), oM 22 193]))))) (reg [oM 194 23, .load 195 25 [] (some (.b 25)) 5 true .mv, .call 196 87 [.v (T 195)] false, .bin 197 .add (T 194) (T 196), oM 23 197])))) (reg [.bin 198 .add (T 156) (I 1), oM 156 198])))
def c82_4 : Ir := d82_4
def g82_4 : Ir := .gh (.keep [0, 2, 3, 6, 10, 11, 12, 13, 15, 17, 20, 21, 22, 23, 154, 155, 156] [0, 6, 10, 13]) c82_4
def d82_3 : Ir := .seq (reg [.bin 125 .lss (T 124) (T 123)]) (.seq (.cond (T 125) .skip (.exit 0)) (.seq (.block 1 (.seq (reg [.iad 126 122 [] none (T 124) 5, .load 127 126 [] none 5 true .bo, .alloc 19 [.int .i64 0, .int .i64 0, .str [], .sl .sh 4 [], .sl .sh 5 []], .store 19 [] (.b 19) 5 (T 127)]) (reg [oM 128 17, oM 129 0, .load 130 19 [] (some (.b 19)) 5 true .mv, oM 131 2, oM 132 15, .bin 133 .add (T 131) (T 132), oM 134 3, oM 135 15, .bin 136 .add (T 134) (T 135), oM 137 17, .bin 138 .add (T 136) (T 137), oM 139 16, .call 140 82 [.bx 129 0, .v (T 130), .v (T 133), .v (T 138), .v (T 139)] false, .fld 141 (T 140) 3 1 false, .bin 142 .add (T 128) (T 141), oM 17 142]))) (reg [.bin 143 .add (T 124) (I 1), oM 124 143])))
def c82_3 : Ir := d82_3
def g82_3 : Ir := .gh (.keep [0, 2, 3, 10, 11, 12, 13, 15, 16, 17, 122, 123, 124] [0, 10, 13]) c82_3
def d82_2 : Ir := .seq (reg [.alias 108 11 [], .iad 109 108 [] none (I 2) 1, .load 110 109 [] none 1 false .cp, oM 15 110]) (.seq (reg [.fad 111 13 [] 2, oL 112 111 13, oM 113 15, .bin 114 .mul (I 2) (T 113), .bin 115 .sub (T 112) (T 114), .mm 116 true (T 115) (I 0), oM 16 116]) (.seq (reg [.mov 17 (I 0)]) (.seq (.seq (reg [.alias 117 11 [], .iad 118 117 [] none (I 3) 1, .load 119 118 [] none 1 false .cp, .bin 120 .eql (T 119) (I 0)]) (.cond (T 120) (.seq (reg [.fad 121 6 [] 4, .load 122 121 [] (some (.b 6)) 1 false .mv, .len 123 (T 122) none, .mov 124 (I 0)]) (.block 0 (.loop g82_3))) (.seq (reg [oM 144 16, oM 20 144]) (.seq (reg [.fad 145 6 [] 4, .load 146 145 [] (some (.b 6)) 1 false .al, .len 147 (T 146) none, .make 148 1 [.int .i64 0] 8 (T 147), .mov 21 (.m 148)]) (.seq (reg [.mov 22 (I 0)]) (.seq (reg [oM 149 0, .nilc 150 149 [], .fad 151 150 [] 1, oL 152 151 0, oM 23 152]) (.seq (.seq (reg [.fad 153 6 [] 4, .load 154 153 [] (some (.b 6)) 1 false .al, .len 155 (T 154) none, .mov 156 (I 0)]) (.block 2 (.loop g82_4))) k82_2))))))) g82_6)))
def c82_2 : Ir := d82_2
def g82_2 : Ir := .gh (.keep [0, 2, 3, 6, 10, 11, 12, 13] [0, 6, 10, 13]) c82_2
def k82_1 : Ir := .seq (reg [oM 96 4, .fad 97 13 [] 2, .store 97 [] (.b 13) 1 (T 96)]) (.seq (.seq (reg [.alias 98 11 [], .iad 99 98 [] none (I 0) 1, .load 100 99 [] none 1 false .cp, .bin 101 .neq (T 100) (I 0)]) (.cond (T 101) (reg [.alias 102 11 [], .iad 103 102 [] none (I 0) 1, .load 104 103 [] none 1 false .cp, oM 105 4, .mm 106 false (T 104) (T 105), .fad 107 13 [] 2, .store 107 [] (.b 13) 1 (T 106)]) .skip)) g82_2)
def d82_1 : Ir := .seq (reg [oM 88 0, .nilc 89 88 [], .fad 90 89 [] 2, .load 91 90 [] (some (.b 0)) 1 false .al, oM 92 12, .load 93 13 [] (some (.b 13)) 4 true .cp, .iad 94 91 [.b 0] (some (.b 0)) (T 92) 4, .store 94 [.b 0] (.b 0) 4 (T 93)]) (.seq (reg [.load 95 13 [] (some (.b 13)) 4 true .cp, .store 10 [] (.b 10) 4 (T 95)]) .ret)
def c82_1 : Ir := d82_1
def g82_1 : Ir := .gh (.keep [0, 10, 12, 13] [0, 10, 13]) c82_1
def b82 : Ir := .gh (.frz 1) (.seq (reg [.box 6 (T 1), .alloc 10 [.int .i64 0, .int .i64 0, .int .i64 0, .int .i64 0]]) (.seq (reg [oM 30 0, .nilc 31 30 [], .fad 32 31 [] 0, .load 33 32 [] (some (.b 0)) 1 false .al, oM 34 0, .nilc 35 34 [], .fad 36 35 [] 1, oL 37 36 0, .iad 38 33 [] none (T 37) 1, .load 39 38 [] none 1 false .al, oM 11 39]) (.seq (reg [oM 40 0, .nilc 41 40 [], .fad 42 41 [] 1, oL 43 42 0, .bin 44 .add (T 43) (I 1), .nilc 45 40 [], .fad 46 45 [] 1, .store 46 [] (.b 0) 1 (T 44)]) (.seq (reg [oM 47 0, .nilc 48 47 [], .fad 49 48 [] 2, .load 50 49 [] (some (.b 0)) 1 false .al, .len 51 (.t 50 [.b 0]) (some (.b 0)), oM 12 51]) (.seq (reg [oM 52 0, oM 53 0, .nilc 54 53 [], .fad 55 54 [] 2, .load 56 55 [] (some (.b 0)) 1 false .mv, .build 57 [.int .i64 0, .int .i64 0, .int .i64 0, .int .i64 0] [], .mkrow 58 4 [.int .i64 0, .int .i64 0, .int .i64 0, .int .i64 0] 1 [(0, 4, (T 57))], .app 59 4 (.m 56) (.m 58) none 32, .nilc 60 52 [], .fad 61 60 [] 2, .store 61 [] (.b 0) 1 (.m 59)]) (.seq (reg [oM 62 2, oM 63 3, .build 64 [.int .i64 0, .int .i64 0, .int .i64 0, .int .i64 0] [(0, 1, (T 62)), (1, 1, (T 63))], .alloc 13 [.int .i64 0, .int .i64 0, .int .i64 0, .int .i64 0], .store 13 [] (.b 13) 4 (T 64)]) (.seq (.seq (reg [.fad 65 6 [] 0, oL 66 65 6, .bin 67 .eql (T 66) (I (-1))]) (.cond (T 67) (.seq (.seq (reg [.fad 68 6 [] 2, oL 69 68 6, .slen 70 (T 69), oM 14 70]) (.seq (.region [⟨none, oM 71 14⟩, ⟨none, .bin 72 .gtr (T 71) (I 0)⟩, ⟨none, oM 73 72⟩, ⟨(some (73, true)), oM 74 4⟩, ⟨(some (73, true)), .bin 75 .gtr (T 74) (I 0)⟩, ⟨none, .pick 76 (T 73) (T 75) (.c (.bool false))⟩]) (.cond (T 76) (reg [oM 77 14, oM 78 4, .mm 79 false (T 77) (T 78), oM 80 14, oM 81 4, .bin 82 .add (T 80) (T 81), .bin 83 .sub (T 82) (I 1), oM 84 4, .bin 85 .quo (T 83) (T 84), .fad 86 13 [] 2, .store 86 [] (.b 13) 1 (T 79), .fad 87 13 [] 3, .store 87 [] (.b 13) 1 (T 85)]) .skip))) g82_1) .skip)) k82_1)))))))
def R82 : List RS := [.c 10 4 true]
def fi82 : Fi := ⟨b82, R82⟩

/-- loop.example/drawnanew/impl.treeCount -/
def k87_1 : Ir := .seq (reg [oM 18 3, oM 2 18]) .ret
def d87_1 : Ir := .seq (reg [.bin 10 .lss (T 9) (T 8)]) (.seq (.cond (T 10) .skip (.exit 0)) (.seq (.block 1 (.seq (reg [.iad 11 7 [] none (T 9) 5, .load 12 11 [] none 5 true .bo, .alloc 5 [.int .i64 0, .int .i64 0, .str [], .sl .sh 4 [], .sl .sh 5 []], .store 5 [] (.b 5) 5 (T 12)]) (reg [oM 13 3, .load 14 5 [] (some (.b 5)) 5 true .mv, .call 15 87 [.v (T 14)] false, .bin 16 .add (T 13) (T 15), oM 3 16]))) (reg [.bin 17 .add (T 9) (I 1), oM 9 17])))
def c87_1 : Ir := d87_1
def g87_1 : Ir := .gh (.keep [3, 7, 8, 9] []) c87_1
def b87 : Ir := .gh (.frz 0) (.seq (reg [.box 1 (T 0), .mov 2 (I 0)]) (.seq (reg [.mov 3 (I 1)]) (.seq (.seq (reg [.fad 6 1 [] 4, .load 7 6 [] (some (.b 1)) 1 false .mv, .len 8 (T 7) none, .mov 9 (I 0)]) (.block 0 (.loop g87_1))) k87_1)))
def R87 : List RS := [.t 2]
def fi87 : Fi := ⟨b87, R87⟩

/-- loop.example/drawnanew/spec.looksOf -/
def b91 : Ir := .gh (.frz 0) (.gh (.frz 1) (.gh (.frz 2) (.gh (.frz 3) (.seq (reg [.box 5 (T 1), .mov 8 (.c (.sl .sh 1 []))]) (.seq (.seq (reg [.fad 9 5 [] 0, oL 10 9 5, .bin 11 .lss (T 10) (I 0)]) (.cond (T 11) (.seq (reg [oM 12 3, .call 13 111 [.v (T 12)] false, .mov 8 (.m 13)]) .ret) .skip)) (.seq (reg [oM 14 0, .load 15 5 [] (some (.b 5)) 5 true .mv, oM 16 2, oM 17 3, .call 18 112 [.v (T 14), .v (T 15), .v (T 16), .v (T 17)] false, .mov 8 (.m 18)]) .ret))))))
def R91 : List RS := [.t 8]
def fi91 : Fi := ⟨b91, R91⟩

/-- loop.example/drawnanew/spec.meet -/
def b92 : Ir := .seq (reg [.box 2 (T 0), .box 3 (T 1), .alloc 4 [.int .i64 0, .int .i64 0, .int .i64 0, .int .i64 0]]) (.seq (reg [.fad 7 2 [] 0, oL 8 7 2, .fad 9 3 [] 0, oL 10 9 3, .mm 11 true (T 8) (T 10), oM 5 11]) (.seq (reg [.fad 12 2 [] 1, oL 13 12 2, .fad 14 3 [] 1, oL 15 14 3, .mm 16 true (T 13) (T 15), oM 6 16]) (.seq (reg [oM 17 5, oM 18 6, .fad 19 2 [] 0, oL 20 19 2, .fad 21 2 [] 2, oL 22 21 2, .bin 23 .add (T 20) (T 22), .fad 24 3 [] 0, oL 25 24 3, .fad 26 3 [] 2, oL 27 26 3, .bin 28 .add (T 25) (T 27), .mm 29 false (T 23) (T 28), oM 30 5, .bin 31 .sub (T 29) (T 30), .mm 32 true (I 0) (T 31), .fad 33 2 [] 1, oL 34 33 2, .fad 35 2 [] 3, oL 36 35 2, .bin 37 .add (T 34) (T 36), .fad 38 3 [] 1, oL 39 38 3, .fad 40 3 [] 3, oL 41 40 3, .bin 42 .add (T 39) (T 41), .mm 43 false (T 37) (T 42), oM 44 6, .bin 45 .sub (T 43) (T 44), .mm 46 true (I 0) (T 45), .build 47 [.int .i64 0, .int .i64 0, .int .i64 0, .int .i64 0] [(0, 1, (T 17)), (1, 1, (T 18)), (2, 1, (T 32)), (3, 1, (T 46))], .store 4 [] (.b 4) 4 (T 47)]) .ret)))
def R92 : List RS := [.c 4 4 true]
def fi92 : Fi := ⟨b92, R92⟩

/-- (*loop.example/drawnanew/spec.painter).cell -/
def b93 : Ir := .seq (reg [.box 7 (T 1)]) (.seq (reg [.load 12 7 [] (some (.b 7)) 4 true .cp, oM 13 2, oM 14 3, .call 15 113 [.v (T 12), .v (T 13), .v (T 14)] false]) (.cond (T 15) (.seq (reg [oM 16 0, .nilc 17 16 [], .fad 18 17 [] 5, .load 19 18 [] (some (.b 0)) 1 false .al, oM 20 3, oM 21 0, .nilc 22 21 [], .fad 23 22 [] 3, oL 24 23 0, .bin 25 .mul (T 20) (T 24), oM 26 2, .bin 27 .add (T 25) (T 26), oM 28 4, .iad 29 19 [.b 0] (some (.b 0)) (T 27) 1, .store 29 [.b 0] (.b 0) 1 (T 28)]) (reg [oM 30 0, .nilc 31 30 [], .fad 32 31 [] 6, .load 33 32 [] (some (.b 0)) 1 false .al, oM 34 3, oM 35 0, .nilc 36 35 [], .fad 37 36 [] 3, oL 38 37 0, .bin 39 .mul (T 34) (T 38), oM 40 2, .bin 41 .add (T 39) (T 40), oM 42 5, .iad 43 33 [.b 0] (some (.b 0)) (T 41) 1, .store 43 [.b 0] (.b 0) 1 (T 42)])) .skip))
def R93 : List RS := []
def fi93 : Fi := ⟨b93, R93⟩

/-- loop.example/drawnanew/spec.markOf -/
def b94 : Ir := .seq (reg [.mov 2 (.c (.int .u8 0))]) (.seq (reg [oM 3 0, .bin 4 .rem (T 3) (I 9), .idx 5 (.c (.str [46, 58, 45, 61, 43, 42, 35, 37, 64])) (T 4), oM 2 5]) .ret)
def R94 : List RS := [.t 2]
def fi94 : Fi := ⟨b94, R94⟩

/-- loop.example/drawnanew/impl.weight -/
def d95_1 : Ir := .seq (.seq (reg [.fad 9 1 [] 1, oL 10 9 1, .bin 11 .neq (T 10) (I (-1))]) (.cond (T 11) (reg [oM 12 3, .bin 13 .add (T 12) (I 1), oM 3 13]) .skip)) (.seq (.seq (reg [.fad 14 1 [] 2, oL 15 14 1, .bin 16 .neq (T 15) (I (-1))]) (.cond (T 16) (reg [oM 17 3, .bin 18 .add (T 17) (I 10), oM 3 18]) .skip)) (.seq (reg [oM 19 3, oM 2 19]) .ret))
def c95_1 : Ir := d95_1
def g95_1 : Ir := .gh (.keep [1, 3] [1]) c95_1
def b95 : Ir := .seq (reg [.box 1 (T 0), .mov 2 (I 0)]) (.seq (reg [.mov 3 (I 0)]) (.seq (.seq (reg [.fad 4 1 [] 0, oL 5 4 1, .bin 6 .neq (T 5) (I (-1))]) (.cond (T 6) (reg [oM 7 3, .bin 8 .add (T 7) (I 1), oM 3 8]) .skip)) g95_1))
def R95 : List RS := [.t 2]
def fi95 : Fi := ⟨b95, R95⟩

/-- loop.example/drawnanew/impl.meets -/
def k96_1 : Ir := .seq (reg [oM 39 7, .not 40 (T 39)]) (.cond (T 40) (.seq (reg [.mov 6 (.c (.bool false))]) .ret) .skip)
def k96_3 : Ir := .seq (reg [.mov 6 (.c (.bool false))]) .ret
def d96_3 : Ir := .seq (reg [.bin 48 .lss (T 47) (T 46)]) (.seq (.cond (T 48) .skip (.exit 2)) (.seq (.block 3 (.seq (reg [.iad 49 45 [] none (T 47) 4, .load 50 49 [] none 4 true .cp, .alloc 11 [.int .i64 0, .int .i64 0, .int .i64 0, .str []], .store 11 [] (.b 11) 4 (T 50)]) (.seq (.region [⟨none, .fad 51 11 [] 0⟩, ⟨none, oL 52 51 11⟩, ⟨none, .fad 53 3 [] 2⟩, ⟨none, oL 54 53 3⟩, ⟨none, .bin 55 .eql (T 52) (T 54)⟩, ⟨none, oM 56 55⟩, ⟨(some (56, true)), .fad 57 11 [] 1⟩, ⟨(some (56, true)), .load 58 57 [] (some (.b 11)) 3 true .cp⟩, ⟨(some (56, true)), .fad 59 3 [] 3⟩, ⟨(some (56, true)), .load 60 59 [] (some (.b 3)) 3 true .cp⟩, ⟨(some (56, true)), .ceq 61 false true [.int .i64, .int .i64, .str] (T 58) (T 60)⟩, ⟨none, .pick 62 (T 56) (T 61) (.c (.bool false))⟩]) (.cond (T 62) (.seq (reg [.mov 6 (.c (.bool true))]) .ret) .skip)))) (reg [.bin 63 .add (T 47) (I 1), oM 47 63])))
def c96_3 : Ir := d96_3
def g96_3 : Ir := .gh (.keep [3, 45, 46, 47] [3]) c96_3
def k96_2 : Ir := .seq (.seq (reg [.fad 41 3 [] 2, oL 42 41 3, .bin 43 .eql (T 42) (I (-1))]) (.cond (T 43) (.seq (reg [.mov 6 (.c (.bool true))]) .ret) .skip)) (.seq (.seq (reg [.fad 44 4 [] 3, .load 45 44 [] (some (.b 4)) 1 false .mv, .len 46 (T 45) none, .mov 47 (I 0)]) (.block 2 (.loop g96_3))) k96_3)
def d96_2 : Ir := .seq (reg [.bin 28 .lss (T 27) (T 26)]) (.seq (.cond (T 28) .skip (.exit 0)) (.seq (.block 1 (.seq (reg [.iad 29 25 [] none (T 27) 1, .load 30 29 [] none 1 false .cp, oM 9 30]) (.region [⟨none, oM 31 7⟩, ⟨none, oM 32 31⟩, ⟨(some (32, false)), oM 33 9⟩, ⟨(some (32, false)), .fad 34 3 [] 1⟩, ⟨(some (32, false)), oL 35 34 3⟩, ⟨(some (32, false)), .bin 36 .eql (T 33) (T 35)⟩, ⟨none, .pick 37 (T 32) (.c (.bool true)) (T 36)⟩, ⟨none, oM 7 37⟩]))) (reg [.bin 38 .add (T 27) (I 1), oM 27 38])))
def c96_2 : Ir := d96_2
def g96_2 : Ir := .gh (.keep [3, 4, 7, 25, 26, 27] [3, 4]) c96_2
def d96_1 : Ir := .seq (.seq (reg [.fad 22 3 [] 1, oL 23 22 3, .bin 24 .neq (T 23) (I (-1))]) (.cond (T 24) (.seq (reg [.mov 7 (.c (.bool false))]) (.seq (.seq (reg [oM 25 2, .len 26 (T 25) none, .mov 27 (I 0)]) (.block 0 (.loop g96_2))) k96_1)) .skip)) k96_2
def c96_1 : Ir := d96_1
def g96_1 : Ir := .gh (.keep [2, 3, 4] [3, 4]) c96_1
def b96 : Ir := .gh (.frz 1) (.gh (.frz 2) (.seq (reg [.box 3 (T 0), .box 4 (T 1), .mov 6 (.c (.bool false))]) (.seq (.seq (.region [⟨none, .fad 12 3 [] 0⟩, ⟨none, oL 13 12 3⟩, ⟨none, .bin 14 .neq (T 13) (I (-1))⟩, ⟨none, oM 15 14⟩, ⟨(some (15, true)), .fad 16 3 [] 0⟩, ⟨(some (15, true)), oL 17 16 3⟩, ⟨(some (15, true)), .fad 18 4 [] 0⟩, ⟨(some (15, true)), oL 19 18 4⟩, ⟨(some (15, true)), .bin 20 .neq (T 17) (T 19)⟩, ⟨none, .pick 21 (T 15) (T 20) (.c (.bool false))⟩]) (.cond (T 21) (.seq (reg [.mov 6 (.c (.bool false))]) .ret) .skip)) g96_1)))
def R96 : List RS := [.t 6]
def fi96 : Fi := ⟨b96, R96⟩

/-- loop.example/drawnanew/impl.boxMeet -/
def b97 : Ir := .seq (reg [.box 2 (T 0), .box 3 (T 1), .alloc 4 [.int .i64 0, .int .i64 0, .int .i64 0, .int .i64 0]]) (.seq (reg [.fad 7 2 [] 0, oL 8 7 2, .fad 9 3 [] 0, oL 10 9 3, .mm 11 true (T 8) (T 10), .fad 12 2 [] 1, oL 13 12 2, .fad 14 3 [] 1, oL 15 14 3, .mm 16 true (T 13) (T 15), oM 5 11, oM 6 16]) (.seq (reg [oM 17 5, oM 18 6, .fad 19 2 [] 0, oL 20 19 2, .fad 21 2 [] 2, oL 22 21 2, .bin 23 .add (T 20) (T 22), .fad 24 3 [] 0, oL 25 24 3, .fad 26 3 [] 2, oL 27 26 3, .bin 28 .add (T 25) (T 27), .mm 29 false (T 23) (T 28), oM 30 5, .bin 31 .sub (T 29) (T 30), .mm 32 true (T 31) (I 0), .fad 33 2 [] 1, oL 34 33 2, .fad 35 2 [] 3, oL 36 35 2, .bin 37 .add (T 34) (T 36), .fad 38 3 [] 1, oL 39 38 3, .fad 40 3 [] 3, oL 41 40 3, .bin 42 .add (T 39) (T 41), .mm 43 false (T 37) (T 42), oM 44 6, .bin 45 .sub (T 43) (T 44), .mm 46 true (T 45) (I 0), .build 47 [.int .i64 0, .int .i64 0, .int .i64 0, .int .i64 0] [(0, 1, (T 17)), (1, 1, (T 18)), (2, 1, (T 32)), (3, 1, (T 46))], .store 4 [] (.b 4) 4 (T 47)]) .ret))
def R97 : List RS := [.c 4 4 true]
def fi97 : Fi := ⟨b97, R97⟩

/-- (*loop.example/drawnanew/impl.canvas).put -/
def b98 : Ir := .seq (reg [oM 8 0, .nilc 9 8 [], .fad 10 9 [] 3, .load 11 10 [] (some (.b 0)) 1 false .al, oM 12 2, .iad 13 11 [.b 0] (some (.b 0)) (T 12) 1, .load 14 13 [.b 0] (some (.b 0)) 1 false .al, oM 15 1, oM 16 3, .iad 17 14 [.b 0] (some (.b 0)) (T 15) 1, .store 17 [.b 0] (.b 0) 1 (T 16)]) (reg [oM 18 0, .nilc 19 18 [], .fad 20 19 [] 4, .load 21 20 [] (some (.b 0)) 1 false .al, oM 22 2, .iad 23 21 [.b 0] (some (.b 0)) (T 22) 1, .load 24 23 [.b 0] (some (.b 0)) 1 false .al, oM 25 1, oM 26 0, .nilc 27 26 [], .fad 28 27 [] 2, oL 29 28 0, .iad 30 24 [.b 0] (some (.b 0)) (T 25) 1, .store 30 [.b 0] (.b 0) 1 (T 29)])
def R98 : List RS := []
def fi98 : Fi := ⟨b98, R98⟩

/-- loop.example/drawnanew/spec.validShown -/
def k99_1 : Ir := .seq (reg [.mov 2 (.c (.bool false))]) .ret
def d99_1 : Ir := .seq (.seq (reg [oM 14 3, .bin 15 .leq (T 14) (I 1000)]) (.cond (T 15) .skip (.exit 0))) (.seq (.block 1 (.seq (reg [oM 18 0, oM 19 3, .neg 20 (T 19), .call 21 115 [.v (T 20)] false, .sbin 22 .eql (T 18) (T 21)]) (.cond (T 22) (.seq (reg [.mov 2 (.c (.bool true))]) .ret) .skip))) (reg [oM 16 3, .bin 17 .add (T 16) (I 1), oM 3 17]))
def c99_1 : Ir := d99_1
def g99_1 : Ir := .gh (.keep [0, 3] []) c99_1
def b99 : Ir := .seq (reg [.mov 2 (.c (.bool false))]) (.seq (.seq (.region [⟨none, oM 4 0⟩, ⟨none, .slen 5 (T 4)⟩, ⟨none, .bin 6 .eql (T 5) (I 0)⟩, ⟨none, oM 7 6⟩, ⟨(some (7, false)), oM 8 0⟩, ⟨(some (7, false)), .idx 9 (T 8) (I 0)⟩, ⟨(some (7, false)), .bin 10 .neq (T 9) (.c (.int .u8 45))⟩, ⟨none, .pick 11 (T 7) (.c (.bool true)) (T 10)⟩]) (.cond (T 11) (.seq (reg [oM 12 0, .call 13 114 [.v (T 12)] false, oM 2 13]) .ret) .skip)) (.seq (.seq (reg [.mov 3 (I 1)]) (.block 0 (.loop g99_1))) k99_1))
def R99 : List RS := [.t 2]
def fi99 : Fi := ⟨b99, R99⟩

/-- loop.example/drawnanew/spec.validPropList -/
def k100_1 : Ir := .seq (reg [.mov 2 (.c (.bool true))]) .ret
def d100_1 : Ir := .seq (.seq (reg [oM 4 3, .alias 5 0 [], .len 6 (T 5) none, .bin 7 .lss (T 4) (T 6)]) (.cond (T 7) .skip (.exit 0))) (.seq (.block 1 (.seq (.region [⟨none, .alias 10 0 []⟩, ⟨none, oM 11 3⟩, ⟨none, .iad 12 10 [] none (T 11) 4⟩, ⟨none, .fad 13 12 [] 0⟩, ⟨none, .load 14 13 [] none 1 false .cp⟩, ⟨none, .call 15 37 [.v (T 14), .v (I 0), .v (I 3)] false⟩, ⟨none, .not 16 (T 15)⟩, ⟨none, oM 17 16⟩, ⟨(some (17, false)), .alias 18 0 []⟩, ⟨(some (17, false)), oM 19 3⟩, ⟨(some (17, false)), .iad 20 18 [] none (T 19) 4⟩, ⟨(some (17, false)), .fad 21 20 [] 1⟩, ⟨(some (17, false)), .load 22 21 [] none 3 true .cp⟩, ⟨(some (17, false)), .call 23 102 [.v (T 22)] false⟩, ⟨(some (17, false)), .not 24 (T 23)⟩, ⟨none, .pick 25 (T 17) (.c (.bool true)) (T 24)⟩, ⟨none, oM 26 25⟩, ⟨(some (26, false)), oM 27 3⟩, ⟨(some (26, false)), .bin 28 .gtr (T 27) (I 0)⟩, ⟨(some (26, false)), oM 29 28⟩, ⟨(some (29, true)), .alias 30 0 []⟩, ⟨(some (29, true)), oM 31 3⟩, ⟨(some (29, true)), .iad 32 30 [] none (T 31) 4⟩, ⟨(some (29, true)), .fad 33 32 [] 0⟩, ⟨(some (29, true)), .load 34 33 [] none 1 false .cp⟩, ⟨(some (29, true)), .alias 35 0 []⟩, ⟨(some (29, true)), oM 36 3⟩, ⟨(some (29, true)), .bin 37 .sub (T 36) (I 1)⟩, ⟨(some (29, true)), .iad 38 35 [] none (T 37) 4⟩, ⟨(some (29, true)), .fad 39 38 [] 0⟩, ⟨(some (29, true)), .load 40 39 [] none 1 false .cp⟩, ⟨(some (29, true)), .bin 41 .leq (T 34) (T 40)⟩, ⟨(some (26, false)), .pick 42 (T 29) (T 41) (.c (.bool false))⟩, ⟨none, .pick 43 (T 26) (.c (.bool true)) (T 42)⟩]) (.cond (T 43) (.seq (reg [.mov 2 (.c (.bool false))]) .ret) .skip))) (reg [oM 8 3, .bin 9 .add (T 8) (I 1), oM 3 9]))
def c100_1 : Ir := d100_1
def g100_1 : Ir := .gh (.keep [0, 3] []) c100_1
def b100 : Ir := .gh (.frz 0) (.seq (reg [.mov 2 (.c (.bool false))]) (.seq (.seq (reg [.mov 3 (I 0)]) (.block 0 (.loop g100_1))) k100_1))
def R100 : List RS := [.t 2]
def fi100 : Fi := ⟨b100, R100⟩

/-- loop.example/drawnanew/spec.keysApart -/
def k101_1 : Ir := .seq (reg [.mov 2 (.c (.bool true))]) .ret
def k101_2 : Ir := reg [oM 9 3, .bin 10 .add (T 9) (I 1), oM 3 10]
def d101_2 : Ir := .seq (.seq (reg [oM 11 4, oM 12 3, .bin 13 .lss (T 11) (T 12)]) (.cond (T 13) .skip (.exit 2))) (.seq (.block 3 (.seq (.region [⟨none, .alias 16 0 []⟩, ⟨none, oM 17 3⟩, ⟨none, .iad 18 16 [] none (T 17) 5⟩, ⟨none, .fad 19 18 [] 1⟩, ⟨none, .load 20 19 [] none 1 false .cp⟩, ⟨none, .bin 21 .neq (T 20) (I (-1))⟩, ⟨none, oM 22 21⟩, ⟨(some (22, true)), .alias 23 0 []⟩, ⟨(some (22, true)), oM 24 3⟩, ⟨(some (22, true)), .iad 25 23 [] none (T 24) 5⟩, ⟨(some (22, true)), .fad 26 25 [] 1⟩, ⟨(some (22, true)), .load 27 26 [] none 1 false .cp⟩, ⟨(some (22, true)), .alias 28 0 []⟩, ⟨(some (22, true)), oM 29 4⟩, ⟨(some (22, true)), .iad 30 28 [] none (T 29) 5⟩, ⟨(some (22, true)), .fad 31 30 [] 1⟩, ⟨(some (22, true)), .load 32 31 [] none 1 false .cp⟩, ⟨(some (22, true)), .bin 33 .eql (T 27) (T 32)⟩, ⟨none, .pick 34 (T 22) (T 33) (.c (.bool false))⟩]) (.cond (T 34) (.seq (reg [.mov 2 (.c (.bool false))]) .ret) .skip))) (reg [oM 14 4, .bin 15 .add (T 14) (I 1), oM 4 15]))
def c101_2 : Ir := d101_2
def g101_2 : Ir := .gh (.keep [0, 3, 4] []) c101_2
def d101_1 : Ir := .seq (.seq (reg [oM 5 3, .alias 6 0 [], .len 7 (T 6) none, .bin 8 .lss (T 5) (T 7)]) (.cond (T 8) .skip (.exit 0))) (.seq (.block 1 (.seq (reg [.mov 4 (I 0)]) (.block 2 (.loop g101_2)))) k101_2)
def c101_1 : Ir := d101_1
def g101_1 : Ir := .gh (.keep [0, 3] []) c101_1
def b101 : Ir := .gh (.frz 0) (.seq (reg [.mov 2 (.c (.bool false))]) (.seq (.seq (reg [.mov 3 (I 0)]) (.block 0 (.loop g101_1))) k101_1))
def R101 : List RS := [.t 2]
def fi101 : Fi := ⟨b101, R101⟩

/-- loop.example/drawnanew/spec.validValue -/
def b102 : Ir := .seq (reg [.box 1 (T 0), .mov 2 (.c (.bool false))]) (.seq (.seq (reg [.fad 3 1 [] 0, oL 4 3 1]) (.block 0 (.seq (reg [.bin 6 .eql (T 4) (I 0), oM 5 6]) (.cond (T 5) (.seq (.region [⟨none, .fad 7 1 [] 1⟩, ⟨none, oL 8 7 1⟩, ⟨none, .bin 9 .eql (T 8) (I 0)⟩, ⟨none, oM 10 9⟩, ⟨(some (10, true)), .fad 11 1 [] 2⟩, ⟨(some (10, true)), oL 12 11 1⟩, ⟨(some (10, true)), .sbin 13 .eql (T 12) (.c (.str []))⟩, ⟨none, .pick 14 (T 10) (T 13) (.c (.bool false))⟩, ⟨none, oM 2 14⟩]) .ret) (.seq (reg [.bin 16 .eql (T 4) (I 1), oM 15 16]) (.cond (T 15) (.seq (.region [⟨none, .fad 17 1 [] 1⟩, ⟨none, oL 18 17 1⟩, ⟨none, .call 19 37 [.v (T 18), .v (I (-1000)), .v (I 1000)] false⟩, ⟨none, oM 20 19⟩, ⟨(some (20, true)), .fad 21 1 [] 2⟩, ⟨(some (20, true)), oL 22 21 1⟩, ⟨(some (20, true)), .sbin 23 .eql (T 22) (.c (.str []))⟩, ⟨none, .pick 24 (T 20) (T 23) (.c (.bool false))⟩, ⟨none, oM 2 24⟩]) .ret) (.seq (reg [.bin 26 .eql (T 4) (I 2), oM 25 26]) (.cond (T 25) (.seq (.region [⟨none, .fad 27 1 [] 1⟩, ⟨none, oL 28 27 1⟩, ⟨none, .bin 29 .eql (T 28) (I 0)⟩, ⟨none, oM 30 29⟩, ⟨(some (30, true)), .fad 31 1 [] 2⟩, ⟨(some (30, true)), oL 32 31 1⟩, ⟨(some (30, true)), .call 33 114 [.v (T 32)] false⟩, ⟨none, .pick 34 (T 30) (T 33) (.c (.bool false))⟩, ⟨none, oM 2 34⟩]) .ret) .skip)))))))) (.seq (reg [.mov 2 (.c (.bool false))]) .ret))
def R102 : List RS := [.t 2]
def fi102 : Fi := ⟨b102, R102⟩

/-- loop.example/drawnanew/spec.textBox -/
def b103 : Ir := .seq (reg [.mov 4 (I 0), .mov 5 (I 0)]) (.seq (.seq (.region [⟨none, oM 6 1⟩, ⟨none, .bin 7 .leq (T 6) (I 0)⟩, ⟨none, oM 8 7⟩, ⟨(some (8, false)), oM 9 0⟩, ⟨(some (8, false)), .bin 10 .eql (T 9) (I 0)⟩, ⟨none, .pick 11 (T 8) (.c (.bool true)) (T 10)⟩]) (.cond (T 11) (.seq (reg [.mov 4 (I 0), .mov 5 (I 0)]) .ret) .skip)) (.seq (reg [oM 12 0, oM 13 1, .mm 14 false (T 12) (T 13), oM 15 0, oM 16 1, .bin 17 .add (T 15) (T 16), .bin 18 .sub (T 17) (I 1), oM 19 1, .bin 20 .quo (T 18) (T 19), oM 4 14, oM 5 20]) .ret))
def R103 : List RS := [.t 4, .t 5]
def fi103 : Fi := ⟨b103, R103⟩

/-- (*loop.example/drawnanew/spec.placer).across -/
def k104_1 : Ir := .seq (reg [oM 55 16, oM 14 55]) .ret
def d104_1 : Ir := .seq (.seq (reg [oM 25 17, .alias 26 1 [], .len 27 (T 26) none, .bin 28 .lss (T 25) (T 27)]) (.cond (T 28) .skip (.exit 0))) (.seq (.block 1 (.seq (reg [oM 31 0, .alias 32 1 [], oM 33 17, .iad 34 32 [] none (T 33) 5, .load 35 34 [] none 5 true .bo, .alias 36 2 [], .alias 37 3 [], oM 38 4, oM 39 5, .alias 40 15 [], oM 41 17, .iad 42 40 [] none (T 41) 1, .load 43 42 [] none 1 false .cp, .call 44 79 [.bx 31 0, .v (T 35), .v (T 36), .v (T 37), .v (T 38), .v (T 39), .v (T 43)] false, .alloc 18 [.int .i64 0, .int .i64 0, .int .i64 0, .int .i64 0], .store 18 [] (.b 18) 4 (T 44)]) (.seq (reg [oM 45 4, .alias 46 15 [], oM 47 17, .iad 48 46 [] none (T 47) 1, .load 49 48 [] none 1 false .cp, .bin 50 .add (T 45) (T 49), oM 4 50]) (reg [oM 51 16, .fad 52 18 [] 3, oL 53 52 18, .mm 54 true (T 51) (T 53), oM 16 54])))) (reg [oM 29 17, .bin 30 .add (T 29) (I 1), oM 17 30]))
def c104_1 : Ir := d104_1
def g104_1 : Ir := .gh (.keep [0, 1, 2, 3, 4, 5, 15, 16, 17] [0]) c104_1
def b104 : Ir := .gh (.frz 1) (.gh (.frz 2) (.gh (.frz 3) (.seq (reg [.mov 14 (I 0)]) (.seq (reg [oM 19 0, .alias 20 1 [], .alias 21 2 [], .alias 22 3 [], oM 23 6, .call 24 116 [.bx 19 0, .v (T 20), .v (T 21), .v (T 22), .v (T 23)] false, .mov 15 (.m 24)]) (.gh (.frz 15) (.seq (reg [.mov 16 (I 0)]) (.seq (.seq (reg [.mov 17 (I 0)]) (.block 0 (.loop g104_1))) k104_1)))))))
def R104 : List RS := [.t 14]
def fi104 : Fi := ⟨b104, R104⟩

/-- (*loop.example/drawnanew/spec.placer).down -/
def k105_1 : Ir := .seq (reg [oM 41 15, oM 14 41]) .ret
def d105_1 : Ir := .seq (.seq (reg [oM 18 16, .alias 19 1 [], .len 20 (T 19) none, .bin 21 .lss (T 18) (T 20)]) (.cond (T 21) .skip (.exit 0))) (.seq (.block 1 (.seq (reg [oM 24 0, .alias 25 1 [], oM 26 16, .iad 27 25 [] none (T 26) 5, .load 28 27 [] none 5 true .bo, .alias 29 2 [], .alias 30 3 [], oM 31 4, oM 32 5, oM 33 15, .bin 34 .add (T 32) (T 33), oM 35 6, .call 36 79 [.bx 24 0, .v (T 28), .v (T 29), .v (T 30), .v (T 31), .v (T 34), .v (T 35)] false, .alloc 17 [.int .i64 0, .int .i64 0, .int .i64 0, .int .i64 0], .store 17 [] (.b 17) 4 (T 36)]) (reg [oM 37 15, .fad 38 17 [] 3, oL 39 38 17, .bin 40 .add (T 37) (T 39), oM 15 40]))) (reg [oM 22 16, .bin 23 .add (T 22) (I 1), oM 16 23]))
def c105_1 : Ir := d105_1
def g105_1 : Ir := .gh (.keep [0, 1, 2, 3, 4, 5, 6, 15, 16] [0]) c105_1
def b105 : Ir := .gh (.frz 1) (.gh (.frz 2) (.gh (.frz 3) (.seq (reg [.mov 14 (I 0)]) (.seq (reg [.mov 15 (I 0)]) (.seq (.seq (reg [.mov 16 (I 0)]) (.block 0 (.loop g105_1))) k105_1)))))
def R105 : List RS := [.t 14]
def fi105 : Fi := ⟨b105, R105⟩

/-- loop.example/drawnanew/impl.shown -/
def b106 : Ir := .seq (reg [.mov 2 (.c (.bool false))]) (.seq (.seq (reg [oM 5 0, .call 6 107 [.v (T 5)] false]) (.cond (T 6) (.seq (reg [.mov 2 (.c (.bool true))]) .ret) .skip)) (.seq (reg [oM 8 0, .call 9 117 [.v (T 8)] false, oM 7 9, .ext 10 (T 7) 0 false, .ext 11 (T 7) 1 false, oM 3 10, oM 4 11]) (.seq (.region [⟨none, oM 12 4⟩, ⟨none, .ieq 13 false (T 12)⟩, ⟨none, oM 14 13⟩, ⟨(some (14, true)), oM 15 3⟩, ⟨(some (14, true)), .call 16 43 [.v (T 15), .v (I (-1000)), .v (I 1000)] false⟩, ⟨none, .pick 17 (T 14) (T 16) (.c (.bool false))⟩, ⟨none, oM 18 17⟩, ⟨(some (18, true)), oM 19 3⟩, ⟨(some (18, true)), .call 20 118 [.v (T 19)] false⟩, ⟨(some (18, true)), oM 21 0⟩, ⟨(some (18, true)), .sbin 22 .eql (T 20) (T 21)⟩, ⟨none, .pick 23 (T 18) (T 22) (.c (.bool false))⟩, ⟨none, oM 2 23⟩]) .ret)))
def R106 : List RS := [.t 2]
def fi106 : Fi := ⟨b106, R106⟩

/-- loop.example/drawnanew/impl.word -/
def k107_1 : Ir := .seq (reg [oM 33 0, .slen 34 (T 33), .bin 35 .leq (T 34) (I 12), oM 2 35]) .ret
def d107_2 : Ir := reg [oM 9 3, .bin 10 .add (T 9) (I 1), oM 3 10]
def c107_2 : Ir := d107_2
def g107_2 : Ir := .gh (.keep [0, 3] []) c107_2
def d107_1 : Ir := .seq (.seq (reg [oM 5 3, oM 6 0, .slen 7 (T 6), .bin 8 .lss (T 5) (T 7)]) (.cond (T 8) .skip (.exit 0))) (.seq (.block 1 (.seq (reg [oM 11 0, oM 12 3, .idx 13 (T 11) (T 12), oM 4 13]) (.seq (.region [⟨none, oM 14 4⟩, ⟨none, .bin 15 .geq (T 14) (.c (.int .u8 97))⟩, ⟨none, oM 16 15⟩, ⟨(some (16, true)), oM 17 4⟩, ⟨(some (16, true)), .bin 18 .leq (T 17) (.c (.int .u8 122))⟩, ⟨none, .pick 19 (T 16) (T 18) (.c (.bool false))⟩, ⟨none, oM 20 19⟩, ⟨(some (20, false)), oM 21 4⟩, ⟨(some (20, false)), .bin 22 .geq (T 21) (.c (.int .u8 48))⟩, ⟨(some (20, false)), oM 23 22⟩, ⟨(some (23, true)), oM 24 4⟩, ⟨(some (23, true)), .bin 25 .leq (T 24) (.c (.int .u8 57))⟩, ⟨(some (20, false)), .pick 26 (T 23) (T 25) (.c (.bool false))⟩, ⟨none, .pick 27 (T 20) (.c (.bool true)) (T 26)⟩, ⟨none, oM 28 27⟩, ⟨(some (28, false)), oM 29 4⟩, ⟨(some (28, false)), .bin 30 .eql (T 29) (.c (.int .u8 32))⟩, ⟨none, .pick 31 (T 28) (.c (.bool true)) (T 30)⟩, ⟨none, .not 32 (T 31)⟩]) (.cond (T 32) (.seq (reg [.mov 2 (.c (.bool false))]) .ret) .skip)))) g107_2)
def c107_1 : Ir := d107_1
def g107_1 : Ir := .gh (.keep [0, 3] []) c107_1
def b107 : Ir := .seq (reg [.mov 2 (.c (.bool false))]) (.seq (.seq (reg [.mov 3 (I 0)]) (.block 0 (.loop g107_1))) k107_1)
def R107 : List RS := [.t 2]
def fi107 : Fi := ⟨b107, R107⟩

/-- loop.example/drawnanew/spec.textLooks -/
def b111 : Ir := .gh (.frz 0) (.seq (reg [.mov 2 (.c (.sl .sh 1 []))]) (.seq (reg [.make 4 1 [.int .i64 0] 8 (I 5), .mov 3 (.m 4)]) (.seq (reg [.alias 5 3 [], oM 6 0, .iad 7 6 [] none (I 4) 1, .load 8 7 [] none 1 false .cp, .iad 9 5 [.t 3] (some (.t 3)) (I 4) 1, .store 9 [.t 3] (.t 3) 1 (T 8)]) (.seq (reg [.mov 10 (.m 3), .mov 2 (.m 10)]) .ret))))
def R111 : List RS := [.t 2]
def fi111 : Fi := ⟨b111, R111⟩

/-- loop.example/drawnanew/spec.looks -/
def k112_1 : Ir := .seq (reg [.mov 58 (.m 9), .mov 8 (.m 58)]) .ret
def d112_1 : Ir := .seq (.seq (reg [oM 20 11, .alias 21 0 [], .len 22 (T 21) none, .bin 23 .lss (T 20) (T 22)]) (.cond (T 23) .skip (.exit 0))) (.seq (.block 1 (.seq (reg [.alias 26 0 [], oM 27 11, .iad 28 26 [] none (T 27) 8, .load 29 28 [] none 8 true .cp, .alloc 12 [.int .i64 0, .int .i64 0, .int .i64 0, .int .i64 0, .int .i64 0, .str [], .int .i64 0, .int .i64 0], .store 12 [] (.b 12) 8 (T 29)]) (.seq (.region [⟨none, .load 30 12 [] (some (.b 12)) 8 true .cp⟩, ⟨none, .load 31 5 [] (some (.b 5)) 5 true .bo⟩, ⟨none, .alias 32 2 []⟩, ⟨none, .call 33 119 [.v (T 30), .v (T 31), .v (T 32)] false⟩, ⟨none, oM 34 33⟩, ⟨(some (34, true)), .load 35 12 [] (some (.b 12)) 8 true .cp⟩, ⟨(some (34, true)), .call 36 120 [.v (T 35)] false⟩, ⟨(some (34, true)), .bin 37 .add (T 36) (I 1)⟩, ⟨(some (34, true)), .alias 38 10 []⟩, ⟨(some (34, true)), .fad 39 12 [] 6⟩, ⟨(some (34, true)), oL 40 39 12⟩, ⟨(some (34, true)), .iad 41 38 [.t 10] (some (.t 10)) (T 40) 1⟩, ⟨(some (34, true)), .load 42 41 [.t 10] (some (.t 10)) 1 false .cp⟩, ⟨(some (34, true)), .bin 43 .geq (T 37) (T 42)⟩, ⟨none, .pick 44 (T 34) (T 43) (.c (.bool false))⟩]) (.cond (T 44) (.seq (reg [.alias 45 10 [], .fad 46 12 [] 6, oL 47 46 12, .load 48 12 [] (some (.b 12)) 8 true .cp, .call 49 120 [.v (T 48)] false, .bin 50 .add (T 49) (I 1), .iad 51 45 [.t 10] (some (.t 10)) (T 47) 1, .store 51 [.t 10] (.t 10) 1 (T 50)]) (reg [.alias 52 9 [], .fad 53 12 [] 6, oL 54 53 12, .fad 55 12 [] 7, oL 56 55 12, .iad 57 52 [.t 9] (some (.t 9)) (T 54) 1, .store 57 [.t 9] (.t 9) 1 (T 56)])) .skip)))) (reg [oM 24 11, .bin 25 .add (T 24) (I 1), oM 11 25]))
def c112_1 : Ir := d112_1
def g112_1 : Ir := .gh (.keep [0, 2, 5, 9, 10, 11] [5]) c112_1
def b112 : Ir := .gh (.frz 0) (.gh (.frz 1) (.gh (.frz 2) (.gh (.frz 3) (.seq (reg [.box 5 (T 1), .mov 8 (.c (.sl .sh 1 []))]) (.seq (reg [.make 13 1 [.int .i64 0] 8 (I 5), .mov 9 (.m 13)]) (.seq (reg [.make 14 1 [.int .i64 0] 8 (I 5), .mov 10 (.m 14)]) (.seq (reg [.alias 15 9 [], oM 16 3, .iad 17 16 [] none (I 4) 1, .load 18 17 [] none 1 false .cp, .iad 19 15 [.t 9] (some (.t 9)) (I 4) 1, .store 19 [.t 9] (.t 9) 1 (T 18)]) (.seq (.seq (reg [.mov 11 (I 0)]) (.block 0 (.loop g112_1))) k112_1))))))))
def R112 : List RS := [.t 8]
def fi112 : Fi := ⟨b112, R112⟩

/-- loop.example/drawnanew/spec.holds -/
def b113 : Ir := .seq (reg [.box 3 (T 0), .mov 6 (.c (.bool false))]) (.seq (.region [⟨none, oM 7 1⟩, ⟨none, .fad 8 3 [] 0⟩, ⟨none, oL 9 8 3⟩, ⟨none, .bin 10 .geq (T 7) (T 9)⟩, ⟨none, oM 11 10⟩, ⟨(some (11, true)), oM 12 1⟩, ⟨(some (11, true)), .fad 13 3 [] 0⟩, ⟨(some (11, true)), oL 14 13 3⟩, ⟨(some (11, true)), .fad 15 3 [] 2⟩, ⟨(some (11, true)), oL 16 15 3⟩, ⟨(some (11, true)), .bin 17 .add (T 14) (T 16)⟩, ⟨(some (11, true)), .bin 18 .lss (T 12) (T 17)⟩, ⟨none, .pick 19 (T 11) (T 18) (.c (.bool false))⟩, ⟨none, oM 20 19⟩, ⟨(some (20, true)), oM 21 2⟩, ⟨(some (20, true)), .fad 22 3 [] 1⟩, ⟨(some (20, true)), oL 23 22 3⟩, ⟨(some (20, true)), .bin 24 .geq (T 21) (T 23)⟩, ⟨none, .pick 25 (T 20) (T 24) (.c (.bool false))⟩, ⟨none, oM 26 25⟩, ⟨(some (26, true)), oM 27 2⟩, ⟨(some (26, true)), .fad 28 3 [] 1⟩, ⟨(some (26, true)), oL 29 28 3⟩, ⟨(some (26, true)), .fad 30 3 [] 3⟩, ⟨(some (26, true)), oL 31 30 3⟩, ⟨(some (26, true)), .bin 32 .add (T 29) (T 31)⟩, ⟨(some (26, true)), .bin 33 .lss (T 27) (T 32)⟩, ⟨none, .pick 34 (T 26) (T 33) (.c (.bool false))⟩, ⟨none, oM 6 34⟩]) .ret)
def R113 : List RS := [.t 6]
def fi113 : Fi := ⟨b113, R113⟩

/-- loop.example/drawnanew/spec.validWord -/
def k114_1 : Ir := .seq (reg [.mov 2 (.c (.bool true))]) .ret
def d114_1 : Ir := .seq (.seq (reg [oM 7 3, oM 8 0, .slen 9 (T 8), .bin 10 .lss (T 7) (T 9)]) (.cond (T 10) .skip (.exit 0))) (.seq (.block 1 (.seq (reg [oM 13 0, oM 14 3, .idx 15 (T 13) (T 14), .call 16 121 [.v (T 15)] false, .not 17 (T 16)]) (.cond (T 17) (.seq (reg [.mov 2 (.c (.bool false))]) .ret) .skip))) (reg [oM 11 3, .bin 12 .add (T 11) (I 1), oM 3 12]))
def c114_1 : Ir := d114_1
def g114_1 : Ir := .gh (.keep [0, 3] []) c114_1
def b114 : Ir := .seq (reg [.mov 2 (.c (.bool false))]) (.seq (.seq (reg [oM 4 0, .slen 5 (T 4), .bin 6 .gtr (T 5) (I 12)]) (.cond (T 6) (.seq (reg [.mov 2 (.c (.bool false))]) .ret) .skip)) (.seq (.seq (reg [.mov 3 (I 0)]) (.block 0 (.loop g114_1))) k114_1))
def R114 : List RS := [.t 2]
def fi114 : Fi := ⟨b114, R114⟩

/-- loop.example/drawnanew/spec.decimal -/
def b115 : Ir := .seq (reg [.mov 2 (.c (.str []))]) (.seq (.seq (reg [oM 3 0, .bin 4 .lss (T 3) (I 0)]) (.cond (T 4) (.seq (reg [oM 5 0, .neg 6 (T 5), .call 7 115 [.v (T 6)] false, .sbin 8 .add (.c (.str [45])) (T 7), oM 2 8]) .ret) .skip)) (.seq (.seq (reg [oM 9 0, .bin 10 .lss (T 9) (I 10)]) (.cond (T 10) (.seq (reg [oM 11 0, oM 12 0, .bin 13 .add (T 12) (I 1), .ssub 14 (.c (.str [48, 49, 50, 51, 52, 53, 54, 55, 56, 57])) (some (T 11)) (some (T 13)), oM 2 14]) .ret) .skip)) (.seq (reg [oM 15 0, .bin 16 .quo (T 15) (I 10), .call 17 115 [.v (T 16)] false, oM 18 0, .bin 19 .rem (T 18) (I 10), .call 20 115 [.v (T 19)] false, .sbin 21 .add (T 17) (T 20), oM 2 21]) .ret)))
def R115 : List RS := [.t 2]
def fi115 : Fi := ⟨b115, R115⟩

/-- (*loop.example/drawnanew/spec.placer).wishes -/
def k116_2 : Ir := .seq (reg [.mov 93 (.m 11), .mov 10 (.m 93)]) .ret
def d116_2 : Ir := .seq (.seq (reg [oM 56 16, .alias 57 1 [], .len 58 (T 57) none, .bin 59 .lss (T 56) (T 58)]) (.cond (T 59) .skip (.exit 2))) (.seq (.block 3 (.seq (reg [oM 62 0, .nilc 63 62 [], .fad 64 63 [] 0, .load 65 64 [] (some (.b 0)) 1 false .al, .alias 66 1 [], oM 67 16, .iad 68 66 [] none (T 67) 5, .load 69 68 [] none 5 true .bo, .alias 70 2 [], .alias 71 3 [], .call 72 91 [.v (T 65), .v (T 69), .v (T 70), .v (T 71)] false, .iad 73 72 [] (some (.t 72)) (I 0) 1, .load 74 73 [.t 72] (some (.t 72)) 1 false .cp, .bin 75 .eql (T 74) (I 0)]) (.cond (T 75) (.seq (reg [.alias 76 11 [], oM 77 16, oM 78 12, oM 79 13, .bin 80 .add (T 78) (T 79), .bin 81 .sub (T 80) (I 1), oM 82 13, .bin 83 .quo (T 81) (T 82), .iad 84 76 [.t 11] (some (.t 11)) (T 77) 1, .store 84 [.t 11] (.t 11) 1 (T 83)]) (.seq (reg [oM 85 12, .alias 86 11 [], oM 87 16, .iad 88 86 [.t 11] (some (.t 11)) (T 87) 1, .load 89 88 [.t 11] (some (.t 11)) 1 false .cp, .bin 90 .sub (T 85) (T 89), oM 12 90]) (reg [oM 91 13, .bin 92 .sub (T 91) (I 1), oM 13 92]))) .skip))) (reg [oM 60 16, .bin 61 .add (T 60) (I 1), oM 16 61]))
def c116_2 : Ir := d116_2
def g116_2 : Ir := .gh (.keep [0, 1, 2, 3, 11, 12, 13, 16] [0]) c116_2
def k116_1 : Ir := .seq (.seq (reg [.mov 16 (I 0)]) (.block 2 (.loop g116_2))) k116_2
def d116_1 : Ir := .seq (.seq (reg [oM 21 14, .alias 22 1 [], .len 23 (T 22) none, .bin 24 .lss (T 21) (T 23)]) (.cond (T 24) .skip (.exit 0))) (.seq (.block 1 (.seq (reg [oM 27 0, .nilc 28 27 [], .fad 29 28 [] 0, .load 30 29 [] (some (.b 0)) 1 false .al, .alias 31 1 [], oM 32 14, .iad 33 31 [] none (T 32) 5, .load 34 33 [] none 5 true .bo, .alias 35 2 [], .alias 36 3 [], .call 37 91 [.v (T 30), .v (T 34), .v (T 35), .v (T 36)] false, .iad 38 37 [] (some (.t 37)) (I 0) 1, .load 39 38 [.t 37] (some (.t 37)) 1 false .cp, oM 15 39]) (.seq (.seq (reg [oM 40 15, .bin 41 .eql (T 40) (I 0)]) (.cond (T 41) (.seq (reg [oM 42 13, .bin 43 .add (T 42) (I 1), oM 13 43]) (.exit 1)) .skip)) (.seq (reg [.alias 44 11 [], oM 45 14, oM 46 15, oM 47 12, .mm 48 false (T 46) (T 47), .iad 49 44 [.t 11] (some (.t 11)) (T 45) 1, .store 49 [.t 11] (.t 11) 1 (T 48)]) (reg [oM 50 12, .alias 51 11 [], oM 52 14, .iad 53 51 [.t 11] (some (.t 11)) (T 52) 1, .load 54 53 [.t 11] (some (.t 11)) 1 false .cp, .bin 55 .sub (T 50) (T 54), oM 12 55]))))) (reg [oM 25 14, .bin 26 .add (T 25) (I 1), oM 14 26]))
def c116_1 : Ir := d116_1
def g116_1 : Ir := .gh (.keep [0, 1, 2, 3, 11, 12, 13, 14] [0]) c116_1
def b116 : Ir := .gh (.frz 1) (.gh (.frz 2) (.gh (.frz 3) (.seq (reg [.mov 10 (.c (.sl .sh 1 []))]) (.seq (reg [.alias 17 1 [], .len 18 (T 17) none, .make 19 1 [.int .i64 0] 8 (T 18), .mov 11 (.m 19)]) (.seq (reg [oM 20 4, oM 12 20]) (.seq (reg [.mov 13 (I 0)]) (.seq (.seq (reg [.mov 14 (I 0)]) (.block 0 (.loop g116_1))) k116_1)))))))
def R116 : List RS := [.t 10]
def fi116 : Fi := ⟨b116, R116⟩

/-- loop.example/drawnanew/spec.meets -/
def d119_1 : Ir := .seq (.seq (reg [.fad 30 3 [] 2, oL 31 30 3, .bin 32 .eql (T 31) (I (-1))]) (.cond (T 32) (.seq (reg [.mov 6 (.c (.bool true))]) .ret) .skip)) (.seq (reg [.fad 33 4 [] 3, .load 34 33 [] (some (.b 4)) 1 false .al, .fad 35 3 [] 2, oL 36 35 3, .call 37 126 [.v (T 34), .v (T 36)] false, oM 7 37]) (.seq (.region [⟨none, oM 38 7⟩, ⟨none, .bin 39 .geq (T 38) (I 0)⟩, ⟨none, oM 40 39⟩, ⟨(some (40, true)), .fad 41 4 [] 3⟩, ⟨(some (40, true)), .load 42 41 [] (some (.b 4)) 1 false .al⟩, ⟨(some (40, true)), oM 43 7⟩, ⟨(some (40, true)), .iad 44 42 [] none (T 43) 4⟩, ⟨(some (40, true)), .fad 45 44 [] 1⟩, ⟨(some (40, true)), .load 46 45 [] none 3 true .cp⟩, ⟨(some (40, true)), .fad 47 3 [] 3⟩, ⟨(some (40, true)), .load 48 47 [] (some (.b 3)) 3 true .cp⟩, ⟨(some (40, true)), .ceq 49 false true [.int .i64, .int .i64, .str] (T 46) (T 48)⟩, ⟨none, .pick 50 (T 40) (T 49) (.c (.bool false))⟩, ⟨none, oM 6 50⟩]) .ret))
def c119_1 : Ir := d119_1
def g119_1 : Ir := .gh (.keep [3, 4] [3, 4]) c119_1
def b119 : Ir := .gh (.frz 1) (.gh (.frz 2) (.seq (reg [.box 3 (T 0), .box 4 (T 1), .mov 6 (.c (.bool false))]) (.seq (.seq (.region [⟨none, .fad 8 3 [] 0⟩, ⟨none, oL 9 8 3⟩, ⟨none, .bin 10 .neq (T 9) (I (-1))⟩, ⟨none, oM 11 10⟩, ⟨(some (11, true)), .fad 12 3 [] 0⟩, ⟨(some (11, true)), oL 13 12 3⟩, ⟨(some (11, true)), .fad 14 4 [] 0⟩, ⟨(some (11, true)), oL 15 14 4⟩, ⟨(some (11, true)), .bin 16 .neq (T 13) (T 15)⟩, ⟨none, .pick 17 (T 11) (T 16) (.c (.bool false))⟩, ⟨none, oM 18 17⟩, ⟨(some (18, false)), .fad 19 3 [] 1⟩, ⟨(some (18, false)), oL 20 19 3⟩, ⟨(some (18, false)), .bin 21 .neq (T 20) (I (-1))⟩, ⟨(some (18, false)), oM 22 21⟩, ⟨(some (22, true)), oM 23 2⟩, ⟨(some (22, true)), .fad 24 3 [] 1⟩, ⟨(some (22, true)), oL 25 24 3⟩, ⟨(some (22, true)), .call 26 125 [.v (T 23), .v (T 25)] false⟩, ⟨(some (22, true)), .not 27 (T 26)⟩, ⟨(some (18, false)), .pick 28 (T 22) (T 27) (.c (.bool false))⟩, ⟨none, .pick 29 (T 18) (.c (.bool true)) (T 28)⟩]) (.cond (T 29) (.seq (reg [.mov 6 (.c (.bool false))]) .ret) .skip)) g119_1)))
def R119 : List RS := [.t 6]
def fi119 : Fi := ⟨b119, R119⟩

/-- loop.example/drawnanew/spec.weight -/
def d120_1 : Ir := .seq (.seq (reg [.fad 9 1 [] 1, oL 10 9 1, .bin 11 .neq (T 10) (I (-1))]) (.cond (T 11) (reg [oM 12 3, .bin 13 .add (T 12) (I 1), oM 3 13]) .skip)) (.seq (.seq (reg [.fad 14 1 [] 2, oL 15 14 1, .bin 16 .neq (T 15) (I (-1))]) (.cond (T 16) (reg [oM 17 3, .bin 18 .add (T 17) (I 10), oM 3 18]) .skip)) (.seq (reg [oM 19 3, oM 2 19]) .ret))
def c120_1 : Ir := d120_1
def g120_1 : Ir := .gh (.keep [1, 3] [1]) c120_1
def b120 : Ir := .seq (reg [.box 1 (T 0), .mov 2 (I 0)]) (.seq (reg [.mov 3 (I 0)]) (.seq (.seq (reg [.fad 4 1 [] 0, oL 5 4 1, .bin 6 .neq (T 5) (I (-1))]) (.cond (T 6) (reg [oM 7 3, .bin 8 .add (T 7) (I 1), oM 3 8]) .skip)) g120_1))
def R120 : List RS := [.t 2]
def fi120 : Fi := ⟨b120, R120⟩

/-- loop.example/drawnanew/spec.plainByte -/
def b121 : Ir := .seq (reg [.mov 2 (.c (.bool false))]) (.seq (.region [⟨none, oM 3 0⟩, ⟨none, .bin 4 .geq (T 3) (.c (.int .u8 97))⟩, ⟨none, oM 5 4⟩, ⟨(some (5, true)), oM 6 0⟩, ⟨(some (5, true)), .bin 7 .leq (T 6) (.c (.int .u8 122))⟩, ⟨none, .pick 8 (T 5) (T 7) (.c (.bool false))⟩, ⟨none, oM 9 8⟩, ⟨(some (9, false)), oM 10 0⟩, ⟨(some (9, false)), .bin 11 .geq (T 10) (.c (.int .u8 48))⟩, ⟨(some (9, false)), oM 12 11⟩, ⟨(some (12, true)), oM 13 0⟩, ⟨(some (12, true)), .bin 14 .leq (T 13) (.c (.int .u8 57))⟩, ⟨(some (9, false)), .pick 15 (T 12) (T 14) (.c (.bool false))⟩, ⟨none, .pick 16 (T 9) (.c (.bool true)) (T 15)⟩, ⟨none, oM 17 16⟩, ⟨(some (17, false)), oM 18 0⟩, ⟨(some (17, false)), .bin 19 .eql (T 18) (.c (.int .u8 32))⟩, ⟨none, .pick 20 (T 17) (.c (.bool true)) (T 19)⟩, ⟨none, oM 2 20⟩]) .ret)
def R121 : List RS := [.t 2]
def fi121 : Fi := ⟨b121, R121⟩

/-- loop.example/drawnanew/spec.hasInt -/
def k125_1 : Ir := .seq (reg [.mov 4 (.c (.bool false))]) .ret
def d125_1 : Ir := .seq (.seq (reg [oM 6 5, .alias 7 0 [], .len 8 (T 7) none, .bin 9 .lss (T 6) (T 8)]) (.cond (T 9) .skip (.exit 0))) (.seq (.block 1 (.seq (reg [.alias 12 0 [], oM 13 5, .iad 14 12 [] none (T 13) 1, .load 15 14 [] none 1 false .cp, oM 16 1, .bin 17 .eql (T 15) (T 16)]) (.cond (T 17) (.seq (reg [.mov 4 (.c (.bool true))]) .ret) .skip))) (reg [oM 10 5, .bin 11 .add (T 10) (I 1), oM 5 11]))
def c125_1 : Ir := d125_1
def g125_1 : Ir := .gh (.keep [0, 1, 5] []) c125_1
def b125 : Ir := .gh (.frz 0) (.seq (reg [.mov 4 (.c (.bool false))]) (.seq (.seq (reg [.mov 5 (I 0)]) (.block 0 (.loop g125_1))) k125_1))
def R125 : List RS := [.t 4]
def fi125 : Fi := ⟨b125, R125⟩

/-- loop.example/drawnanew/spec.propAt -/
def k126_1 : Ir := .seq (reg [.mov 4 (I (-1))]) .ret
def d126_1 : Ir := .seq (.seq (reg [oM 6 5, .alias 7 0 [], .len 8 (T 7) none, .bin 9 .lss (T 6) (T 8)]) (.cond (T 9) .skip (.exit 0))) (.seq (.block 1 (.seq (reg [.alias 12 0 [], oM 13 5, .iad 14 12 [] none (T 13) 4, .fad 15 14 [] 0, .load 16 15 [] none 1 false .cp, oM 17 1, .bin 18 .eql (T 16) (T 17)]) (.cond (T 18) (.seq (reg [oM 19 5, oM 4 19]) .ret) .skip))) (reg [oM 10 5, .bin 11 .add (T 10) (I 1), oM 5 11]))
def c126_1 : Ir := d126_1
def g126_1 : Ir := .gh (.keep [0, 1, 5] []) c126_1
def b126 : Ir := .gh (.frz 0) (.seq (reg [.mov 4 (I 0)]) (.seq (.seq (reg [.mov 5 (I 0)]) (.block 0 (.loop g126_1))) k126_1))
def R126 : List RS := [.t 4]
def fi126 : Fi := ⟨b126, R126⟩

end Go.Fw.Law
