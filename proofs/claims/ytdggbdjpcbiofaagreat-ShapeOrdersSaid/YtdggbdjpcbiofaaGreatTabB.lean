/- Tables for the abstract interpreter: the functions of the seat, and that they are the program's. Printed by gen.py. -/
import Derived.KernelRfl
import Derived.Test.YtdggbdjpcbiofaaGreatProg
import Derived.Test.YtdggbdjpcbiofaaGreatEqs
import Derived.Test.YtdggbdjpcbiofaaGreatAiWalkD
namespace Go.Proofs
open Go.Ai
set_option maxRecDepth 100000
def Tryz.a13r0 : ACode := .region [⟨(some 0), .mv (.c (.bool false)), none⟩]
def Tryz.a13r1 : ACode := .region [⟨(some 8), .call (.c (.func 40 [] [])) [], none⟩,
  ⟨(some 9), .call (.c (.func 41 [] [])) [], none⟩,
  ⟨(some 1), .alloc 7 (.agg [.nils, .nils, .nils, .nils, (.int .i64 0), (.int .i64 0), (.int .i64 0)]) [], none⟩,
  ⟨(some 2), .alloc 12 (.agg [(.int .i64 0), (.int .i64 0), (.str (ByteArray.mk #[])), (.int .i64 0), (.int .i64 0), .nils, .nils, (.int .i64 0), (.int .i64 0), .nils, (.int .i64 0), .nils]) [], none⟩,
  ⟨none, .store 7 (.t 1) (.t 8) [], none⟩,
  ⟨none, .store 12 (.t 2) (.t 9) [], none⟩]
def Tryz.a13r2 : ACode := .region [⟨(some 10), .load true 12 (.t 2), none⟩,
  ⟨(some 3), .alloc 12 (.agg [(.int .i64 0), (.int .i64 0), (.str (ByteArray.mk #[])), (.int .i64 0), (.int .i64 0), .nils, .nils, (.int .i64 0), (.int .i64 0), .nils, (.int .i64 0), .nils]) [], none⟩,
  ⟨none, .store 12 (.t 3) (.t 10) [], none⟩]
def Tryz.a13r3 : ACode := .region [⟨(some 11), .build (.agg [(.int .i64 0), (.int .i64 0), (.int .i64 0)]) [((0, 1), (.c (.int .i64 0))), ((1, 1), (.c (.int .i64 1)))], none⟩,
  ⟨(some 12), .lit 3 [(.t 11)], none⟩,
  ⟨(some 13), .addo 5 (.t 3), none⟩,
  ⟨none, .store 1 (.t 13) (.t 12) [], none⟩]
def Tryz.a13r4 : ACode := .draw [⟨0, ⟨(some 14), .load true 7 (.t 1), none⟩, []⟩,
  ⟨1, ⟨(some 15), .load true 12 (.t 2), none⟩, []⟩,
  ⟨4, ⟨(some 18), .load true 12 (.t 2), none⟩, []⟩,
  ⟨5, ⟨(some 19), .lit 12 [(.t 18)], none⟩, []⟩,
  ⟨6, ⟨(some 20), .lit 1 [(.c (.int .i64 7))], none⟩, []⟩,
  ⟨8, ⟨(some 4), .pend 10, none⟩, []⟩,
  ⟨2, ⟨(some 16), .call (.c (.func 42 [] [])) [(.t 15)], none⟩, [0, 4]⟩,
  ⟨3, ⟨(some 17), .lit 5 [(.t 16)], none⟩, []⟩,
  ⟨7, ⟨(some 21), .build (.agg [.nils, .nils, .nils, .nils, (.int .i64 0), (.int .i64 0), (.int .i64 0), .nils, .nils, .nils]) [((0, 7), (.t 14)), ((7, 1), (.t 17)), ((8, 1), (.t 19)), ((9, 1), (.t 20))], none⟩, []⟩,
  ⟨9, ⟨none, .pstore 10 4 (.t 21), none⟩, []⟩] [[], [], [1], [1, 2], [], [4], [], [0, 1, 2, 3, 4, 5, 6], [], [0, 1, 2, 3, 4, 5, 6, 7, 8]]
def Tryz.a13r5 : ACode := .region [⟨(some 22), .load true 10 (.t 4), none⟩,
  ⟨(some 5), .alloc 10 (.agg [.nils, .nils, .nils, .nils, (.int .i64 0), (.int .i64 0), (.int .i64 0), .nils, .nils, .nils]) [], none⟩,
  ⟨none, .store 10 (.t 5) (.t 22) [], none⟩]
def Tryz.a13r6 : ACode := .region [⟨(some 23), .addo 7 (.t 5), none⟩,
  ⟨none, .store 1 (.t 23) (.c .nils) [], none⟩]
def Tryz.a13r7 : ACode := .region [⟨(some 25), .load true 12 (.t 2), none⟩,
  ⟨(some 26), .call (.c (.func 18 [] [])) [(.t 25), (.c (.int .i64 2))], none⟩,
  ⟨(some 24), .mv (.t 26), none⟩,
  ⟨(some 27), .ext 0 (.t 24), none⟩,
  ⟨(some 28), .ext 1 (.t 24), none⟩,
  ⟨(some 6), .alloc 20 (.agg [(.int .i64 0), (.int .i64 0), (.int .i64 0), (.int .i64 0), (.int .i64 0), (.int .i64 0), (.int .i64 0), (.int .i64 0), .nils, (.int .i64 0), (.int .i64 0), (.int .i64 0), .nils, (.int .i64 0), .nils, .nils, .nils, .nils, .nils, .nils]) [], none⟩,
  ⟨none, .store 20 (.t 6) (.t 27) [], none⟩,
  ⟨(some 7), .mv (.t 28), none⟩]
def Tryz.a13r8 : ACode := .region [⟨(some 29), .load true 7 (.t 1), none⟩,
  ⟨(some 30), .call (.c (.func 43 [] [])) [(.t 29)], none⟩,
  ⟨(some 31), .bin .eql 0 (.t 30) (.c (.int .i64 0)), none⟩,
  ⟨(some 32), .mv (.t 31), none⟩,
  ⟨(some 33), .build (.agg [.nils, .nils, .nils, .nils, (.int .i64 0), (.int .i64 0), (.int .i64 0)]) [], (some (32, true))⟩,
  ⟨(some 34), .call (.c (.func 43 [] [])) [(.t 33)], (some (32, true))⟩,
  ⟨(some 35), .bin .eql 0 (.t 34) (.c (.int .i64 60)), (some (32, true))⟩,
  ⟨(some 36), .pick (.t 32) (.t 35) (.c (.bool false)), none⟩,
  ⟨(some 37), .mv (.t 36), none⟩,
  ⟨(some 38), .load true 12 (.t 2), (some (37, true))⟩,
  ⟨(some 39), .load true 7 (.t 1), (some (37, true))⟩,
  ⟨(some 40), .call (.c (.func 44 [] [])) [(.t 38), (.t 39)], (some (37, true))⟩,
  ⟨(some 41), .bin .eql 0 (.t 40) (.c (.int .i64 0)), (some (37, true))⟩,
  ⟨(some 42), .pick (.t 37) (.t 41) (.c (.bool false)), none⟩,
  ⟨(some 43), .mv (.t 42), none⟩,
  ⟨(some 44), .load true 12 (.t 3), (some (43, true))⟩,
  ⟨(some 45), .load true 7 (.t 1), (some (43, true))⟩,
  ⟨(some 46), .call (.c (.func 44 [] [])) [(.t 44), (.t 45)], (some (43, true))⟩,
  ⟨(some 47), .bin .eql 0 (.t 46) (.c (.int .i64 60)), (some (43, true))⟩,
  ⟨(some 48), .pick (.t 43) (.t 47) (.c (.bool false)), none⟩,
  ⟨(some 49), .mv (.t 48), none⟩,
  ⟨(some 50), .load true 10 (.t 4), (some (49, true))⟩,
  ⟨(some 51), .call (.c (.func 25 [] [])) [(.t 50)], (some (49, true))⟩,
  ⟨(some 52), .bin .eql 0 (.t 51) (.c (.int .i64 0)), (some (49, true))⟩,
  ⟨(some 53), .pick (.t 49) (.t 52) (.c (.bool false)), none⟩,
  ⟨(some 54), .mv (.t 53), none⟩,
  ⟨(some 55), .load true 10 (.t 5), (some (54, true))⟩,
  ⟨(some 56), .call (.c (.func 25 [] [])) [(.t 55)], (some (54, true))⟩,
  ⟨(some 57), .bin .eql 0 (.t 56) (.c (.int .i64 60)), (some (54, true))⟩,
  ⟨(some 58), .pick (.t 54) (.t 57) (.c (.bool false)), none⟩,
  ⟨(some 59), .mv (.t 58), none⟩,
  ⟨(some 60), .load true 12 (.t 2), (some (59, true))⟩,
  ⟨(some 61), .call (.c (.func 15 [] [])) [(.t 60)], (some (59, true))⟩,
  ⟨(some 62), .lit 1 [(.c (.int .i64 1)), (.c (.int .i64 2)), (.c (.int .i64 9))], (some (59, true))⟩,
  ⟨(some 63), .call (.c (.func 31 [] [])) [(.t 61), (.t 62)], (some (59, true))⟩,
  ⟨(some 64), .pick (.t 59) (.t 63) (.c (.bool false)), none⟩,
  ⟨(some 65), .mv (.t 64), none⟩,
  ⟨(some 66), .mv (.t 7), (some (65, true))⟩,
  ⟨(some 67), .pick (.t 65) (.t 66) (.c (.bool false)), none⟩,
  ⟨(some 68), .mv (.t 67), none⟩,
  ⟨(some 69), .addo 1 (.t 6), (some (68, true))⟩,
  ⟨(some 70), .load false 1 (.t 69), (some (68, true))⟩,
  ⟨(some 71), .bin .eql 0 (.t 70) (.c (.int .i64 24)), (some (68, true))⟩,
  ⟨(some 72), .pick (.t 68) (.t 71) (.c (.bool false)), none⟩,
  ⟨(some 73), .mv (.t 72), none⟩,
  ⟨(some 74), .load true 10 (.t 4), (some (73, true))⟩,
  ⟨(some 75), .call (.c (.func 21 [] [])) [(.t 74)], (some (73, true))⟩,
  ⟨(some 76), .lit 1 [(.c (.int .i64 7))], (some (73, true))⟩,
  ⟨(some 77), .call (.c (.func 31 [] [])) [(.t 75), (.t 76)], (some (73, true))⟩,
  ⟨(some 78), .pick (.t 73) (.t 77) (.c (.bool false)), none⟩,
  ⟨(some 0), .mv (.t 78), none⟩]
def Tryz.c13 : ACode := .seq (Tryz.a13r0) (.seq (Tryz.a13r1) (.seq (Tryz.a13r2) (.seq (Tryz.a13r3) (.seq (Tryz.a13r4) (.seq (Tryz.a13r5) (.seq (Tryz.a13r6) (.seq (Tryz.a13r7) (.seq (Tryz.a13r8) (.ret)))))))))
def Tryz.a13 : AFunc := ⟨79, Tryz.c13, [(0, none)], false⟩
theorem Tryz.a13_ok : chkFunc Tryz.prog Tryz.eqs Tryz.f13 Tryz.a13 = true := by kernel_rfl
theorem Tryz.w13 {first caps args : List AVal} {heap : List AObj} {K : AVal → List AObj → Prop} (N : Nat) (h : Ex (cfg Tryz.prog Tryz.eqs N) Tryz.c13 ⟨(first ++ args ++ caps) ++ List.replicate (79 - (first ++ args ++ caps).length) .undef, heap⟩ (kfun (cfg Tryz.prog Tryz.eqs N) [(0, none)] false heap.length K)) : Hs Tryz.prog Tryz.eqs (.func 13 first caps) args heap K := Hs.enter Tryz.eqs_plain N (fn := Tryz.f13) (by kernel_rfl) Tryz.a13_ok h
def Tryz.a21r0 : ACode := .region [⟨(some 1), .box (.t 0) [], none⟩,
  ⟨(some 2), .mv (.c .nils), none⟩]
def Tryz.a21r1 : ACode := .region [⟨(some 3), .tokz 1 (.c .nils), none⟩]
def Tryz.a21r2 : ACode := .region [⟨(some 9), .mkmap, none⟩,
  ⟨(some 4), .alloc 1 .nilm [], none⟩,
  ⟨none, .store 1 (.t 4) (.t 9) [], none⟩]
def Tryz.a21r3 : ACode := .region [⟨(some 10), .addo 8 (.t 1), none⟩,
  ⟨(some 11), .load false 1 (.t 10), none⟩,
  ⟨(some 12), .len 0 (.t 11), none⟩,
  ⟨(some 13), .mv (.c (.int .i64 0)), none⟩]
def Tryz.a21r4 : ACode := .region [⟨(some 14), .bin .lss 0 (.t 13) (.t 12), none⟩]
def Tryz.a21r5 : ACode := .region [⟨(some 15), .idx 12 (.t 11) (.t 13), none⟩,
  ⟨(some 16), .load true 12 (.t 15), none⟩,
  ⟨(some 6), .alloc 12 (.agg [(.int .i64 0), (.int .i64 0), (.str (ByteArray.mk #[])), (.int .i64 0), (.int .i64 0), .nils, .nils, (.int .i64 0), (.int .i64 0), .nils, (.int .i64 0), .nils]) [], none⟩,
  ⟨none, .store 12 (.t 6) (.t 16) [], none⟩]
def Tryz.a21r6 : ACode := .region [⟨(some 17), .load false 1 (.t 4), none⟩,
  ⟨(some 18), .addo 0 (.t 6), none⟩,
  ⟨(some 19), .load false 1 (.t 18), none⟩,
  ⟨none, .mapset (.t 17) (.t 19) (.c (.bool true)), none⟩]
def Tryz.a21r7 : ACode := .region [⟨(some 20), .bin .add 0 (.t 13) (.c (.int .i64 1)), none⟩,
  ⟨(some 13), .mv (.t 20), none⟩]
def Tryz.a21l8 : ACode := .seq (Tryz.a21r4) (.seq (.cond (.t 14) (.skip) (.exit 0)) (.seq (.block 1 (.seq (Tryz.a21r5) (Tryz.a21r6))) (Tryz.a21r7)))
def Tryz.a21r9 : ACode := .region [⟨(some 21), .mkf 47 [] [(.t 4)], none⟩,
  ⟨(some 7), .mv (.t 21), none⟩]
def Tryz.a21r10 : ACode := .region [⟨(some 22), .addo 8 (.t 1), none⟩,
  ⟨(some 23), .load false 1 (.t 22), none⟩,
  ⟨(some 24), .mv (.t 7), none⟩,
  ⟨(some 25), .call (.c (.func 50 [] [])) [(.t 23), (.t 24)], none⟩,
  ⟨(some 8), .mv (.t 25), none⟩]
def Tryz.a21r11 : ACode := .region [⟨(some 26), .mv (.t 8), none⟩,
  ⟨(some 27), .bin .lss 0 (.t 26) (.c (.int .i64 0)), none⟩]
def Tryz.a21r12 : ACode := .region [⟨(some 28), .mv (.t 3), none⟩,
  ⟨(some 2), .mv (.t 28), none⟩]
def Tryz.a21r13 : ACode := .region [⟨(some 29), .mv (.t 3), none⟩,
  ⟨(some 30), .addo 8 (.t 1), none⟩,
  ⟨(some 31), .load false 1 (.t 30), none⟩,
  ⟨(some 32), .mv (.t 8), none⟩,
  ⟨(some 33), .idx 12 (.t 31) (.t 32), none⟩,
  ⟨(some 34), .addo 0 (.t 33), none⟩,
  ⟨(some 35), .load false 1 (.t 34), none⟩,
  ⟨(some 36), .lit 1 [(.t 35)], none⟩,
  ⟨(some 37), .append false 1 (.t 29) (.t 36), none⟩,
  ⟨(some 3), .mv (.t 37), none⟩]
def Tryz.a21r14 : ACode := .draw [⟨0, ⟨(some 38), .load false 1 (.t 4), none⟩, []⟩,
  ⟨1, ⟨(some 39), .addo 8 (.t 1), none⟩, []⟩,
  ⟨2, ⟨(some 40), .load false 1 (.t 39), none⟩, []⟩,
  ⟨3, ⟨(some 41), .mv (.t 8), none⟩, []⟩,
  ⟨4, ⟨(some 42), .idx 12 (.t 40) (.t 41), none⟩, []⟩,
  ⟨5, ⟨(some 43), .addo 0 (.t 42), none⟩, []⟩,
  ⟨6, ⟨(some 44), .load false 1 (.t 43), none⟩, []⟩,
  ⟨7, ⟨none, .mapdel (.t 38) (.t 44), none⟩, []⟩] [[], [], [1], [], [1, 2, 3], [1, 2, 3, 4], [1, 2, 3, 4, 5], [0, 1, 2, 3, 4, 5, 6]]
def Tryz.a21l15 : ACode := .block 3 (.seq (Tryz.a21r10) (.seq (.seq (Tryz.a21r11) (.cond (.t 27) (.seq (Tryz.a21r12) (.ret)) (.skip))) (.seq (Tryz.a21r13) (Tryz.a21r14))))
def Tryz.c21 : ACode := .seq (Tryz.a21r0) (.seq (Tryz.a21r1) (.seq (Tryz.a21r2) (.seq (.seq (Tryz.a21r3) (.block 0 (.loop [1, 3, 4, 11, 12, 13] Tryz.a21l8))) (.seq (Tryz.a21r9) (.block 2 (.loop [1, 3, 4, 7] Tryz.a21l15))))))
def Tryz.a21 : AFunc := ⟨45, Tryz.c21, [(2, none)], false⟩
theorem Tryz.a21_ok : chkFunc Tryz.prog Tryz.eqs Tryz.f21 Tryz.a21 = true := by kernel_rfl
theorem Tryz.w21 {first caps args : List AVal} {heap : List AObj} {K : AVal → List AObj → Prop} (N : Nat) (h : Ex (cfg Tryz.prog Tryz.eqs N) Tryz.c21 ⟨(first ++ args ++ caps) ++ List.replicate (45 - (first ++ args ++ caps).length) .undef, heap⟩ (kfun (cfg Tryz.prog Tryz.eqs N) [(2, none)] false heap.length K)) : Hs Tryz.prog Tryz.eqs (.func 21 first caps) args heap K := Hs.enter Tryz.eqs_plain N (fn := Tryz.f21) (by kernel_rfl) Tryz.a21_ok h
def Tryz.a23r0 : ACode := .region [⟨(some 1), .box (.t 0) [], none⟩,
  ⟨(some 2), .freeze (.c .nils), none⟩]
def Tryz.a23r1 : ACode := .region [⟨(some 3), .alloc 1 .nils [(0, 1048577)], none⟩]
def Tryz.a23r2 : ACode := .region [⟨(some 5), .addo 11 (.t 1), none⟩,
  ⟨(some 6), .load false 1 (.t 5), none⟩,
  ⟨(some 7), .call (.c (.func 46 [] [])) [(.t 6), (.c (.int .i64 1))], none⟩]
def Tryz.a23r3 : ACode := .region [⟨(some 4), .alloc 21 (.agg [(.int .i64 0), (.int .i64 0), (.int .i64 0), (.int .i64 0), (.int .i64 0), (.int .i64 0), (.int .i64 0), (.int .i64 0), .nils, (.int .i64 0), (.int .i64 0), (.int .i64 0), .nils, (.int .i64 0), .nils, .nils, .nils, .nils, .nils, .nils, (.int .i64 0)]) [], none⟩,
  ⟨none, .store 21 (.t 4) (.t 8) [], none⟩]
def Tryz.a23r4 : ACode := .region [⟨(some 9), .addo 0 (.t 4), none⟩,
  ⟨(some 10), .addo 1 (.t 9), none⟩,
  ⟨(some 11), .load false 1 (.t 10), none⟩,
  ⟨(some 12), .bin .eql 0 (.t 11) (.c (.int .i64 13)), none⟩]
def Tryz.a23r5 : ACode := .region [⟨(some 13), .load false 1 (.t 3), none⟩,
  ⟨(some 14), .addo 0 (.t 4), none⟩,
  ⟨(some 15), .addo 3 (.t 14), none⟩,
  ⟨(some 16), .load false 1 (.t 15), none⟩,
  ⟨(some 17), .lit 1 [(.t 16)], none⟩,
  ⟨(some 18), .append false 1 (.t 13) (.t 17), none⟩,
  ⟨none, .store 1 (.t 3) (.t 18) [], none⟩]
def Tryz.a23y6 : ACode := .block 1 (.seq (Tryz.a23r4) (.cond (.t 12) (Tryz.a23r5) (.skip)))
def Tryz.a23r7 : ACode := .region [⟨(some 19), .thawLoad (.t 3), none⟩,
  ⟨(some 20), .call (.c (.func 52 [] [])) [(.t 19)], none⟩]
def Tryz.a23r8 : ACode := .region [⟨(some 21), .thawLoad (.t 3), none⟩,
  ⟨(some 22), .call (.c (.func 53 [] [])) [(.t 21)], none⟩,
  ⟨(some 2), .freeze (.t 22), none⟩]
def Tryz.c23 : ACode := .seq (Tryz.a23r0) (.seq (Tryz.a23r1) (.seq (.seq (Tryz.a23r2) (.block 0 (.rangeFunc (.t 7) [8] (Tryz.a23r3) (Tryz.a23y6)))) (.seq (Tryz.a23r7) (.seq (Tryz.a23r8) (.ret)))))
def Tryz.a23 : AFunc := ⟨23, Tryz.c23, [(2, none)], false⟩
theorem Tryz.a23_ok : chkFunc Tryz.prog Tryz.eqs Tryz.f23 Tryz.a23 = true := by kernel_rfl
theorem Tryz.w23 {first caps args : List AVal} {heap : List AObj} {K : AVal → List AObj → Prop} (N : Nat) (h : Ex (cfg Tryz.prog Tryz.eqs N) Tryz.c23 ⟨(first ++ args ++ caps) ++ List.replicate (23 - (first ++ args ++ caps).length) .undef, heap⟩ (kfun (cfg Tryz.prog Tryz.eqs N) [(2, none)] false heap.length K)) : Hs Tryz.prog Tryz.eqs (.func 23 first caps) args heap K := Hs.enter Tryz.eqs_plain N (fn := Tryz.f23) (by kernel_rfl) Tryz.a23_ok h
def Tryz.a25r0 : ACode := .region [⟨(some 1), .box (.t 0) [], none⟩,
  ⟨(some 2), .mv (.c (.int .i64 0)), none⟩]
def Tryz.a25r1 : ACode := .region [⟨(some 13), .addo 0 (.t 1), none⟩,
  ⟨(some 14), .load true 7 (.t 13), none⟩,
  ⟨(some 15), .call (.c (.func 43 [] [])) [(.t 14)], none⟩,
  ⟨(some 16), .bin .neq 0 (.t 15) (.c (.int .i64 0)), none⟩,
  ⟨(some 17), .mv (.t 16), none⟩,
  ⟨(some 18), .load true 10 (.t 1), (some (17, false))⟩,
  ⟨(some 19), .call (.c (.func 54 [] [])) [(.t 18)], (some (17, false))⟩,
  ⟨(some 20), .un .not (.t 19), (some (17, false))⟩,
  ⟨(some 21), .pick (.t 17) (.c (.bool true)) (.t 20), none⟩,
  ⟨(some 22), .mv (.t 21), none⟩,
  ⟨(some 23), .addo 8 (.t 1), (some (22, false))⟩,
  ⟨(some 24), .load false 1 (.t 23), (some (22, false))⟩,
  ⟨(some 25), .len 0 (.t 24), (some (22, false))⟩,
  ⟨(some 26), .bin .gtr 0 (.t 25) (.c (.int .i64 40)), (some (22, false))⟩,
  ⟨(some 27), .pick (.t 22) (.c (.bool true)) (.t 26), none⟩,
  ⟨(some 28), .mv (.t 27), none⟩,
  ⟨(some 29), .addo 9 (.t 1), (some (28, false))⟩,
  ⟨(some 30), .load false 1 (.t 29), (some (28, false))⟩,
  ⟨(some 31), .len 0 (.t 30), (some (28, false))⟩,
  ⟨(some 32), .bin .gtr 0 (.t 31) (.c (.int .i64 4)), (some (28, false))⟩,
  ⟨(some 33), .pick (.t 28) (.c (.bool true)) (.t 32), none⟩]
def Tryz.a25r2 : ACode := .region [⟨(some 2), .mv (.c (.int .i64 60)), none⟩]
def Tryz.a25r3 : ACode := .region [⟨(some 34), .mkmap, none⟩,
  ⟨(some 3), .mv (.t 34), none⟩,
  ⟨(some 4), .mv (.c (.int .i64 0)), none⟩]
def Tryz.a25r4 : ACode := .region [⟨(some 35), .addo 8 (.t 1), none⟩,
  ⟨(some 36), .load false 1 (.t 35), none⟩,
  ⟨(some 37), .len 0 (.t 36), none⟩,
  ⟨(some 38), .mv (.c (.int .i64 0)), none⟩]
def Tryz.a25r5 : ACode := .region [⟨(some 39), .bin .lss 0 (.t 38) (.t 37), none⟩]
def Tryz.a25r6 : ACode := .region [⟨(some 40), .idx 12 (.t 36) (.t 38), none⟩,
  ⟨(some 41), .load true 12 (.t 40), none⟩,
  ⟨(some 6), .alloc 12 (.agg [(.int .i64 0), (.int .i64 0), (.str (ByteArray.mk #[])), (.int .i64 0), (.int .i64 0), .nils, .nils, (.int .i64 0), (.int .i64 0), .nils, (.int .i64 0), .nils]) [], none⟩,
  ⟨none, .store 12 (.t 6) (.t 41) [], none⟩]
def Tryz.a25r7 : ACode := .region [⟨(some 42), .addo 0 (.t 6), none⟩,
  ⟨(some 43), .load false 1 (.t 42), none⟩,
  ⟨(some 44), .mv (.t 4), none⟩,
  ⟨(some 45), .bin .leq 0 (.t 43) (.t 44), none⟩,
  ⟨(some 46), .mv (.t 45), none⟩,
  ⟨(some 47), .load true 10 (.t 1), (some (46, false))⟩,
  ⟨(some 48), .load true 12 (.t 6), (some (46, false))⟩,
  ⟨(some 49), .call (.c (.func 55 [] [])) [(.t 47), (.t 48)], (some (46, false))⟩,
  ⟨(some 50), .un .not (.t 49), (some (46, false))⟩,
  ⟨(some 51), .pick (.t 46) (.c (.bool true)) (.t 50), none⟩]
def Tryz.a25r8 : ACode := .region [⟨(some 2), .mv (.c (.int .i64 60)), none⟩]
def Tryz.a25r9 : ACode := .region [⟨(some 52), .addo 0 (.t 6), none⟩,
  ⟨(some 53), .load false 1 (.t 52), none⟩,
  ⟨(some 4), .mv (.t 53), none⟩]
def Tryz.a25r10 : ACode := .region [⟨(some 54), .load true 12 (.t 6), none⟩,
  ⟨(some 55), .call (.c (.func 15 [] [])) [(.t 54)], none⟩,
  ⟨(some 56), .len 0 (.t 55), none⟩,
  ⟨(some 57), .mv (.c (.int .i64 0)), none⟩]
def Tryz.a25r11 : ACode := .region [⟨(some 58), .bin .lss 0 (.t 57) (.t 56), none⟩]
def Tryz.a25r12 : ACode := .region [⟨(some 59), .idx 1 (.t 55) (.t 57), none⟩,
  ⟨(some 60), .load false 1 (.t 59), none⟩,
  ⟨(some 8), .mv (.t 60), none⟩]
def Tryz.a25r13 : ACode := .region [⟨(some 61), .mv (.t 3), none⟩,
  ⟨(some 62), .mv (.t 8), none⟩,
  ⟨(some 63), .lookup (.bool false) false (.t 61) (.t 62), none⟩]
def Tryz.a25r14 : ACode := .region [⟨(some 2), .mv (.c (.int .i64 60)), none⟩]
def Tryz.a25r15 : ACode := .region [⟨(some 64), .mv (.t 3), none⟩,
  ⟨(some 65), .mv (.t 8), none⟩,
  ⟨none, .mapset (.t 64) (.t 65) (.c (.bool true)), none⟩]
def Tryz.a25r16 : ACode := .region [⟨(some 66), .bin .add 0 (.t 57) (.c (.int .i64 1)), none⟩,
  ⟨(some 57), .mv (.t 66), none⟩]
def Tryz.a25l17 : ACode := .seq (Tryz.a25r11) (.seq (.cond (.t 58) (.skip) (.exit 2)) (.seq (.block 3 (.seq (Tryz.a25r12) (.seq (.seq (Tryz.a25r13) (.cond (.t 63) (.seq (Tryz.a25r14) (.ret)) (.skip))) (Tryz.a25r15)))) (Tryz.a25r16)))
def Tryz.a25r18 : ACode := .region [⟨(some 67), .bin .add 0 (.t 38) (.c (.int .i64 1)), none⟩,
  ⟨(some 38), .mv (.t 67), none⟩]
def Tryz.a25l19 : ACode := .seq (Tryz.a25r5) (.seq (.cond (.t 39) (.skip) (.exit 0)) (.seq (.block 1 (.seq (Tryz.a25r6) (.seq (.seq (Tryz.a25r7) (.cond (.t 51) (.seq (Tryz.a25r8) (.ret)) (.skip))) (.seq (Tryz.a25r9) (.seq (Tryz.a25r10) (.block 2 (.loop [1, 3, 4, 36, 37, 38, 55, 56, 57] Tryz.a25l17))))))) (Tryz.a25r18)))
def Tryz.a25r20 : ACode := .region [⟨(some 68), .addo 9 (.t 1), none⟩,
  ⟨(some 69), .load false 1 (.t 68), none⟩,
  ⟨(some 70), .len 0 (.t 69), none⟩,
  ⟨(some 71), .mv (.c (.int .i64 0)), none⟩]
def Tryz.a25r21 : ACode := .region [⟨(some 72), .bin .lss 0 (.t 71) (.t 70), none⟩]
def Tryz.a25r22 : ACode := .region [⟨(some 73), .idx 1 (.t 69) (.t 71), none⟩,
  ⟨(some 74), .load false 1 (.t 73), none⟩,
  ⟨(some 10), .mv (.t 74), none⟩]
def Tryz.a25r23 : ACode := .region [⟨(some 76), .load true 10 (.t 1), none⟩,
  ⟨(some 77), .mv (.t 10), none⟩,
  ⟨(some 78), .call (.c (.func 51 [] [])) [(.t 76), (.t 77)], none⟩,
  ⟨(some 75), .mv (.t 78), none⟩,
  ⟨(some 79), .ext 0 (.t 75), none⟩,
  ⟨(some 80), .ext 1 (.t 75), none⟩,
  ⟨(some 11), .alloc 12 (.agg [(.int .i64 0), (.int .i64 0), (.str (ByteArray.mk #[])), (.int .i64 0), (.int .i64 0), .nils, .nils, (.int .i64 0), (.int .i64 0), .nils, (.int .i64 0), .nils]) [], none⟩,
  ⟨none, .store 12 (.t 11) (.t 79) [], none⟩,
  ⟨(some 12), .mv (.t 80), none⟩]
def Tryz.a25r24 : ACode := .region [⟨(some 81), .mv (.t 12), none⟩,
  ⟨(some 82), .un .not (.t 81), none⟩,
  ⟨(some 83), .mv (.t 82), none⟩,
  ⟨(some 84), .addo 5 (.t 11), (some (83, false))⟩,
  ⟨(some 85), .load false 1 (.t 84), (some (83, false))⟩,
  ⟨(some 86), .len 0 (.t 85), (some (83, false))⟩,
  ⟨(some 87), .addo 6 (.t 11), (some (83, false))⟩,
  ⟨(some 88), .load false 1 (.t 87), (some (83, false))⟩,
  ⟨(some 89), .len 0 (.t 88), (some (83, false))⟩,
  ⟨(some 90), .bin .add 0 (.t 86) (.t 89), (some (83, false))⟩,
  ⟨(some 91), .bin .gtr 0 (.t 90) (.c (.int .i64 0)), (some (83, false))⟩,
  ⟨(some 92), .pick (.t 83) (.c (.bool true)) (.t 91), none⟩]
def Tryz.a25r25 : ACode := .region [⟨(some 2), .mv (.c (.int .i64 60)), none⟩]
def Tryz.a25r26 : ACode := .region [⟨(some 93), .bin .add 0 (.t 71) (.c (.int .i64 1)), none⟩,
  ⟨(some 71), .mv (.t 93), none⟩]
def Tryz.a25l27 : ACode := .seq (Tryz.a25r21) (.seq (.cond (.t 72) (.skip) (.exit 4)) (.seq (.block 5 (.seq (Tryz.a25r22) (.seq (Tryz.a25r23) (.seq (Tryz.a25r24) (.cond (.t 92) (.seq (Tryz.a25r25) (.ret)) (.skip)))))) (Tryz.a25r26)))
def Tryz.a25r28 : ACode := .draw [⟨0, ⟨(some 94), .load true 10 (.t 1), none⟩, []⟩,
  ⟨3, ⟨(some 97), .addo 8 (.t 1), none⟩, []⟩,
  ⟨4, ⟨(some 98), .load false 1 (.t 97), none⟩, []⟩,
  ⟨5, ⟨(some 99), .len 0 (.t 98), none⟩, []⟩,
  ⟨1, ⟨(some 95), .call (.c (.func 21 [] [])) [(.t 94)], none⟩, [4, 5]⟩,
  ⟨2, ⟨(some 96), .len 0 (.t 95), none⟩, []⟩,
  ⟨6, ⟨(some 100), .bin .neq 0 (.t 96) (.t 99), none⟩, []⟩] [[], [0], [0, 1], [], [3], [3, 4], [0, 1, 2, 3, 4, 5]]
def Tryz.a25r29 : ACode := .region [⟨(some 2), .mv (.c (.int .i64 180)), none⟩]
def Tryz.a25r30 : ACode := .region [⟨(some 2), .mv (.c (.int .i64 0)), none⟩]
def Tryz.c25 : ACode := .seq (Tryz.a25r0) (.seq (.seq (Tryz.a25r1) (.cond (.t 33) (.seq (Tryz.a25r2) (.ret)) (.skip))) (.seq (Tryz.a25r3) (.seq (.seq (Tryz.a25r4) (.block 0 (.loop [1, 3, 4, 36, 37, 38] Tryz.a25l19))) (.seq (.seq (Tryz.a25r20) (.block 4 (.loop [1, 69, 70, 71] Tryz.a25l27))) (.seq (.seq (Tryz.a25r28) (.cond (.t 100) (.seq (Tryz.a25r29) (.ret)) (.skip))) (.seq (Tryz.a25r30) (.ret)))))))
def Tryz.a25 : AFunc := ⟨101, Tryz.c25, [(2, none)], false⟩
theorem Tryz.a25_ok : chkFunc Tryz.prog Tryz.eqs Tryz.f25 Tryz.a25 = true := by kernel_rfl
theorem Tryz.w25 {first caps args : List AVal} {heap : List AObj} {K : AVal → List AObj → Prop} (N : Nat) (h : Ex (cfg Tryz.prog Tryz.eqs N) Tryz.c25 ⟨(first ++ args ++ caps) ++ List.replicate (101 - (first ++ args ++ caps).length) .undef, heap⟩ (kfun (cfg Tryz.prog Tryz.eqs N) [(2, none)] false heap.length K)) : Hs Tryz.prog Tryz.eqs (.func 25 first caps) args heap K := Hs.enter Tryz.eqs_plain N (fn := Tryz.f25) (by kernel_rfl) Tryz.a25_ok h
def Tryz.a31r0 : ACode := .region [⟨(some 4), .mv (.c (.bool false)), none⟩]
def Tryz.a31r1 : ACode := .region [⟨(some 6), .mv (.t 0), none⟩,
  ⟨(some 7), .len 0 (.t 6), none⟩,
  ⟨(some 8), .mv (.t 1), none⟩,
  ⟨(some 9), .len 0 (.t 8), none⟩,
  ⟨(some 10), .bin .neq 0 (.t 7) (.t 9), none⟩]
def Tryz.a31r2 : ACode := .region [⟨(some 4), .mv (.c (.bool false)), none⟩]
def Tryz.a31r3 : ACode := .region [⟨(some 5), .mv (.c (.int .i64 0)), none⟩]
def Tryz.a31r4 : ACode := .region [⟨(some 11), .mv (.t 5), none⟩,
  ⟨(some 12), .mv (.t 0), none⟩,
  ⟨(some 13), .len 0 (.t 12), none⟩,
  ⟨(some 14), .bin .lss 0 (.t 11) (.t 13), none⟩]
def Tryz.a31r5 : ACode := .draw [⟨0, ⟨(some 17), .mv (.t 0), none⟩, []⟩,
  ⟨1, ⟨(some 18), .mv (.t 5), none⟩, []⟩,
  ⟨2, ⟨(some 19), .idx 1 (.t 17) (.t 18), none⟩, []⟩,
  ⟨3, ⟨(some 20), .load false 1 (.t 19), none⟩, []⟩,
  ⟨4, ⟨(some 21), .mv (.t 1), none⟩, []⟩,
  ⟨5, ⟨(some 22), .mv (.t 5), none⟩, []⟩,
  ⟨6, ⟨(some 23), .idx 1 (.t 21) (.t 22), none⟩, []⟩,
  ⟨7, ⟨(some 24), .load false 1 (.t 23), none⟩, []⟩,
  ⟨8, ⟨(some 25), .bin .neq 0 (.t 20) (.t 24), none⟩, []⟩] [[], [], [0, 1], [0, 1, 2], [], [], [4, 5], [4, 5, 6], [0, 1, 2, 3, 4, 5, 6, 7]]
def Tryz.a31r6 : ACode := .region [⟨(some 4), .mv (.c (.bool false)), none⟩]
def Tryz.a31r7 : ACode := .region [⟨(some 15), .mv (.t 5), none⟩,
  ⟨(some 16), .bin .add 0 (.t 15) (.c (.int .i64 1)), none⟩,
  ⟨(some 5), .mv (.t 16), none⟩]
def Tryz.a31l8 : ACode := .seq (.seq (Tryz.a31r4) (.cond (.t 14) (.skip) (.exit 0))) (.seq (.block 1 (.seq (Tryz.a31r5) (.cond (.t 25) (.seq (Tryz.a31r6) (.ret)) (.skip)))) (Tryz.a31r7))
def Tryz.a31r9 : ACode := .region [⟨(some 4), .mv (.c (.bool true)), none⟩]
def Tryz.c31 : ACode := .seq (Tryz.a31r0) (.seq (.seq (Tryz.a31r1) (.cond (.t 10) (.seq (Tryz.a31r2) (.ret)) (.skip))) (.seq (.seq (Tryz.a31r3) (.block 0 (.loop [0, 1, 5] Tryz.a31l8))) (.seq (Tryz.a31r9) (.ret))))
def Tryz.a31 : AFunc := ⟨26, Tryz.c31, [(4, none)], false⟩
theorem Tryz.a31_ok : chkFunc Tryz.prog Tryz.eqs Tryz.f31 Tryz.a31 = true := by kernel_rfl
theorem Tryz.w31 {first caps args : List AVal} {heap : List AObj} {K : AVal → List AObj → Prop} (N : Nat) (h : Ex (cfg Tryz.prog Tryz.eqs N) Tryz.c31 ⟨(first ++ args ++ caps) ++ List.replicate (26 - (first ++ args ++ caps).length) .undef, heap⟩ (kfun (cfg Tryz.prog Tryz.eqs N) [(4, none)] false heap.length K)) : Hs Tryz.prog Tryz.eqs (.func 31 first caps) args heap K := Hs.enter Tryz.eqs_plain N (fn := Tryz.f31) (by kernel_rfl) Tryz.a31_ok h
def Tryz.a41r0 : ACode := .region [⟨(some 0), .alloc 12 (.agg [(.int .i64 0), (.int .i64 0), (.str (ByteArray.mk #[])), (.int .i64 0), (.int .i64 0), .nils, .nils, (.int .i64 0), (.int .i64 0), .nils, (.int .i64 0), .nils]) [], none⟩]
def Tryz.a41r1 : ACode := .region [⟨(some 1), .call (.c (.func 33 [] [])) [(.c (.int .i64 5))], none⟩,
  ⟨(some 2), .build (.agg [(.int .i64 0), (.int .i64 0), (.int .i64 0), (.int .i64 0), (.int .i64 0), (.int .i64 0), (.int .i64 0), (.int .i64 0), .nils, (.int .i64 0), (.int .i64 0), (.int .i64 0), .nils, (.int .i64 0), .nils, .nils, .nils, .nils, .nils, .nils]) [((0, 1), (.c (.int .i64 1))), ((1, 1), (.c (.int .i64 1))), ((5, 4), (.t 1))], none⟩,
  ⟨(some 3), .call (.c (.func 73 [] [])) [(.c (.int .i64 0))], none⟩,
  ⟨(some 4), .build (.agg [(.int .i64 0), (.int .i64 0), (.int .i64 0), (.int .i64 0), (.int .i64 0), (.int .i64 0), (.int .i64 0), (.int .i64 0), .nils, (.int .i64 0), (.int .i64 0), (.int .i64 0), .nils, (.int .i64 0), .nils, .nils, .nils, .nils, .nils, .nils]) [((0, 1), (.c (.int .i64 2))), ((1, 1), (.c (.int .i64 24))), ((5, 4), (.t 3))], none⟩,
  ⟨(some 5), .lit 20 [(.t 2), (.t 4)], none⟩,
  ⟨(some 6), .build (.agg [(.int .i64 0), (.int .i64 0), (.str (ByteArray.mk #[])), (.int .i64 0), (.int .i64 0), .nils, .nils, (.int .i64 0), (.int .i64 0), .nils, (.int .i64 0), .nils]) [((0, 1), (.c (.int .i64 7))), ((1, 1), (.c (.int .i64 9))), ((2, 1), (.c (.str (ByteArray.mk #[102])))), ((7, 1), (.c (.int .i64 1))), ((10, 1), (.c (.int .i64 10))), ((11, 1), (.t 5))], none⟩,
  ⟨none, .store 12 (.t 0) (.t 6) [], none⟩]
def Tryz.c41 : ACode := .seq (Tryz.a41r0) (.seq (Tryz.a41r1) (.ret))
def Tryz.a41 : AFunc := ⟨7, Tryz.c41, [(0, some (true, 12))], false⟩
theorem Tryz.a41_ok : chkFunc Tryz.prog Tryz.eqs Tryz.f41 Tryz.a41 = true := by kernel_rfl
theorem Tryz.w41 {first caps args : List AVal} {heap : List AObj} {K : AVal → List AObj → Prop} (N : Nat) (h : Ex (cfg Tryz.prog Tryz.eqs N) Tryz.c41 ⟨(first ++ args ++ caps) ++ List.replicate (7 - (first ++ args ++ caps).length) .undef, heap⟩ (kfun (cfg Tryz.prog Tryz.eqs N) [(0, some (true, 12))] false heap.length K)) : Hs Tryz.prog Tryz.eqs (.func 41 first caps) args heap K := Hs.enter Tryz.eqs_plain N (fn := Tryz.f41) (by kernel_rfl) Tryz.a41_ok h
def Tryz.a43r0 : ACode := .region [⟨(some 1), .box (.t 0) [], none⟩,
  ⟨(some 2), .mv (.c (.int .i64 0)), none⟩]
def Tryz.a43r1 : ACode := .region [⟨(some 3), .mv (.c (.func 74 [] [])), none⟩]
def Tryz.a43r2 : ACode := .region [⟨(some 4), .mv (.c (.func 77 [] [])), none⟩]
def Tryz.a43r3 : ACode := .region [⟨(some 5), .addo 0 (.t 1), none⟩,
  ⟨(some 6), .load false 1 (.t 5), none⟩,
  ⟨(some 7), .call (.c (.func 78 [] [])) [(.t 6), (.c (.int .i64 8)), (.c (.func 75 [] []))], none⟩,
  ⟨(some 8), .mv (.t 7), none⟩,
  ⟨(some 9), .addo 1 (.t 1), (some (8, true))⟩,
  ⟨(some 10), .load false 1 (.t 9), (some (8, true))⟩,
  ⟨(some 11), .call (.c (.func 78 [] [])) [(.t 10), (.c (.int .i64 8)), (.c (.func 75 [] []))], (some (8, true))⟩,
  ⟨(some 12), .pick (.t 8) (.t 11) (.c (.bool false)), none⟩,
  ⟨(some 13), .mv (.t 12), none⟩,
  ⟨(some 14), .addo 2 (.t 1), (some (13, true))⟩,
  ⟨(some 15), .load false 1 (.t 14), (some (13, true))⟩,
  ⟨(some 16), .mv (.t 3), (some (13, true))⟩,
  ⟨(some 17), .call (.c (.func 79 [] [])) [(.t 15), (.c (.int .i64 4)), (.t 16)], (some (13, true))⟩,
  ⟨(some 18), .pick (.t 13) (.t 17) (.c (.bool false)), none⟩,
  ⟨(some 19), .mv (.t 18), none⟩,
  ⟨(some 20), .addo 3 (.t 1), (some (19, true))⟩,
  ⟨(some 21), .load false 1 (.t 20), (some (19, true))⟩,
  ⟨(some 22), .mv (.t 4), (some (19, true))⟩,
  ⟨(some 23), .call (.c (.func 80 [] [])) [(.t 21), (.c (.int .i64 8)), (.t 22)], (some (19, true))⟩,
  ⟨(some 24), .pick (.t 19) (.t 23) (.c (.bool false)), none⟩,
  ⟨(some 25), .mv (.t 24), none⟩,
  ⟨(some 26), .addo 4 (.t 1), (some (25, true))⟩,
  ⟨(some 27), .load false 1 (.t 26), (some (25, true))⟩,
  ⟨(some 28), .call (.c (.func 76 [] [])) [(.t 27), (.c (.int .i64 0)), (.c (.int .i64 8))], (some (25, true))⟩,
  ⟨(some 29), .pick (.t 25) (.t 28) (.c (.bool false)), none⟩,
  ⟨(some 30), .mv (.t 29), none⟩,
  ⟨(some 31), .addo 5 (.t 1), (some (30, true))⟩,
  ⟨(some 32), .load false 1 (.t 31), (some (30, true))⟩,
  ⟨(some 33), .call (.c (.func 76 [] [])) [(.t 32), (.c (.int .i64 1)), (.c (.int .i64 16))], (some (30, true))⟩,
  ⟨(some 34), .pick (.t 30) (.t 33) (.c (.bool false)), none⟩,
  ⟨(some 35), .mv (.t 34), none⟩,
  ⟨(some 36), .addo 6 (.t 1), (some (35, true))⟩,
  ⟨(some 37), .load false 1 (.t 36), (some (35, true))⟩,
  ⟨(some 38), .call (.c (.func 76 [] [])) [(.t 37), (.c (.int .i64 1)), (.c (.int .i64 8))], (some (35, true))⟩,
  ⟨(some 39), .pick (.t 35) (.t 38) (.c (.bool false)), none⟩]
def Tryz.a43r4 : ACode := .region [⟨(some 2), .mv (.c (.int .i64 0)), none⟩]
def Tryz.a43r5 : ACode := .region [⟨(some 2), .mv (.c (.int .i64 60)), none⟩]
def Tryz.c43 : ACode := .seq (Tryz.a43r0) (.seq (Tryz.a43r1) (.seq (Tryz.a43r2) (.seq (.seq (Tryz.a43r3) (.cond (.t 39) (.seq (Tryz.a43r4) (.ret)) (.skip))) (.seq (Tryz.a43r5) (.ret)))))
def Tryz.a43 : AFunc := ⟨40, Tryz.c43, [(2, none)], false⟩
theorem Tryz.a43_ok : chkFunc Tryz.prog Tryz.eqs Tryz.f43 Tryz.a43 = true := by kernel_rfl
theorem Tryz.w43 {first caps args : List AVal} {heap : List AObj} {K : AVal → List AObj → Prop} (N : Nat) (h : Ex (cfg Tryz.prog Tryz.eqs N) Tryz.c43 ⟨(first ++ args ++ caps) ++ List.replicate (40 - (first ++ args ++ caps).length) .undef, heap⟩ (kfun (cfg Tryz.prog Tryz.eqs N) [(2, none)] false heap.length K)) : Hs Tryz.prog Tryz.eqs (.func 43 first caps) args heap K := Hs.enter Tryz.eqs_plain N (fn := Tryz.f43) (by kernel_rfl) Tryz.a43_ok h
def Tryz.a44r0 : ACode := .region [⟨(some 2), .box (.t 0) [], none⟩,
  ⟨(some 3), .box (.t 1) [], none⟩,
  ⟨(some 4), .alloc 1 (.int .i64 0) [], none⟩]
def Tryz.a44r1 : ACode := .region [⟨(some 10), .load true 12 (.t 2), none⟩,
  ⟨(some 11), .load true 7 (.t 3), none⟩,
  ⟨(some 12), .build (.agg [(.int .i64 0), (.int .i64 0), (.str (ByteArray.mk #[])), (.int .i64 0), (.int .i64 0), .nils, .nils, (.int .i64 0), (.int .i64 0), .nils, (.int .i64 0), .nils, .nils, .nils, .nils, .nils, (.int .i64 0), (.int .i64 0), (.int .i64 0)]) [((0, 12), (.t 10)), ((12, 7), (.t 11))], none⟩,
  ⟨(some 5), .alloc 19 (.agg [(.int .i64 0), (.int .i64 0), (.str (ByteArray.mk #[])), (.int .i64 0), (.int .i64 0), .nils, .nils, (.int .i64 0), (.int .i64 0), .nils, (.int .i64 0), .nils, .nils, .nils, .nils, .nils, (.int .i64 0), (.int .i64 0), (.int .i64 0)]) [], none⟩,
  ⟨none, .store 19 (.t 5) (.t 12) [], none⟩]
def Tryz.a44r2 : ACode := .region [⟨(some 13), .mkf 81 [] [(.t 2)], none⟩,
  ⟨(some 6), .mv (.t 13), none⟩]
def Tryz.a44r3 : ACode := .region [⟨(some 14), .addo 0 (.t 2), none⟩,
  ⟨(some 15), .load false 1 (.t 14), none⟩,
  ⟨(some 16), .call (.c (.func 76 [] [])) [(.t 15), (.c (.int .i64 1)), (.c (.int .i64 1073741824))], none⟩,
  ⟨(some 17), .mv (.t 16), none⟩,
  ⟨(some 18), .addo 1 (.t 2), (some (17, true))⟩,
  ⟨(some 19), .load false 1 (.t 18), (some (17, true))⟩,
  ⟨(some 20), .call (.c (.func 76 [] [])) [(.t 19), (.c (.int .i64 1)), (.c (.int .i64 1073741824))], (some (17, true))⟩,
  ⟨(some 21), .pick (.t 17) (.t 20) (.c (.bool false)), none⟩,
  ⟨(some 22), .mv (.t 21), none⟩,
  ⟨(some 23), .addo 2 (.t 2), (some (22, true))⟩,
  ⟨(some 24), .load false 1 (.t 23), (some (22, true))⟩,
  ⟨(some 25), .call (.c (.func 82 [] [])) [(.t 24)], (some (22, true))⟩,
  ⟨(some 26), .pick (.t 22) (.t 25) (.c (.bool false)), none⟩,
  ⟨(some 27), .mv (.t 26), none⟩,
  ⟨(some 28), .addo 3 (.t 2), (some (27, true))⟩,
  ⟨(some 29), .load false 1 (.t 28), (some (27, true))⟩,
  ⟨(some 30), .addo 6 (.t 3), (some (27, true))⟩,
  ⟨(some 31), .load false 1 (.t 30), (some (27, true))⟩,
  ⟨(some 32), .bin .sub 0 (.t 31) (.c (.int .i64 1)), (some (27, true))⟩,
  ⟨(some 33), .call (.c (.func 76 [] [])) [(.t 29), (.c (.int .i64 0)), (.t 32)], (some (27, true))⟩,
  ⟨(some 34), .pick (.t 27) (.t 33) (.c (.bool false)), none⟩,
  ⟨(some 35), .mv (.t 34), none⟩,
  ⟨(some 36), .addo 4 (.t 2), (some (35, true))⟩,
  ⟨(some 37), .load false 1 (.t 36), (some (35, true))⟩,
  ⟨(some 38), .addo 5 (.t 3), (some (35, true))⟩,
  ⟨(some 39), .load false 1 (.t 38), (some (35, true))⟩,
  ⟨(some 40), .bin .sub 0 (.t 39) (.c (.int .i64 1)), (some (35, true))⟩,
  ⟨(some 41), .call (.c (.func 76 [] [])) [(.t 37), (.c (.int .i64 0)), (.t 40)], (some (35, true))⟩,
  ⟨(some 42), .pick (.t 35) (.t 41) (.c (.bool false)), none⟩,
  ⟨(some 43), .mv (.t 42), none⟩,
  ⟨(some 44), .addo 7 (.t 2), (some (43, true))⟩,
  ⟨(some 45), .load false 1 (.t 44), (some (43, true))⟩,
  ⟨(some 46), .addo 5 (.t 2), (some (43, true))⟩,
  ⟨(some 47), .load false 1 (.t 46), (some (43, true))⟩,
  ⟨(some 48), .len 0 (.t 47), (some (43, true))⟩,
  ⟨(some 49), .call (.c (.func 76 [] [])) [(.t 45), (.t 48), (.c (.int .i64 12))], (some (43, true))⟩,
  ⟨(some 50), .pick (.t 43) (.t 49) (.c (.bool false)), none⟩,
  ⟨(some 51), .mv (.t 50), none⟩,
  ⟨(some 52), .addo 8 (.t 2), (some (51, true))⟩,
  ⟨(some 53), .load false 1 (.t 52), (some (51, true))⟩,
  ⟨(some 54), .addo 6 (.t 2), (some (51, true))⟩,
  ⟨(some 55), .load false 1 (.t 54), (some (51, true))⟩,
  ⟨(some 56), .len 0 (.t 55), (some (51, true))⟩,
  ⟨(some 57), .call (.c (.func 76 [] [])) [(.t 53), (.t 56), (.c (.int .i64 4))], (some (51, true))⟩,
  ⟨(some 58), .pick (.t 51) (.t 57) (.c (.bool false)), none⟩,
  ⟨(some 59), .mv (.t 58), none⟩,
  ⟨(some 60), .addo 10 (.t 2), (some (59, true))⟩,
  ⟨(some 61), .load false 1 (.t 60), (some (59, true))⟩,
  ⟨(some 62), .call (.c (.func 76 [] [])) [(.t 61), (.c (.int .i64 1)), (.c (.int .i64 20000))], (some (59, true))⟩,
  ⟨(some 63), .pick (.t 59) (.t 62) (.c (.bool false)), none⟩,
  ⟨(some 64), .mv (.t 63), none⟩,
  ⟨(some 65), .addo 5 (.t 2), (some (64, true))⟩,
  ⟨(some 66), .load false 1 (.t 65), (some (64, true))⟩,
  ⟨(some 67), .call (.c (.func 78 [] [])) [(.t 66), (.c (.int .i64 12)), (.c (.func 75 [] []))], (some (64, true))⟩,
  ⟨(some 68), .pick (.t 64) (.t 67) (.c (.bool false)), none⟩,
  ⟨(some 69), .mv (.t 68), none⟩,
  ⟨(some 70), .addo 6 (.t 2), (some (69, true))⟩,
  ⟨(some 71), .load false 1 (.t 70), (some (69, true))⟩,
  ⟨(some 72), .call (.c (.func 78 [] [])) [(.t 71), (.c (.int .i64 4)), (.c (.func 75 [] []))], (some (69, true))⟩,
  ⟨(some 73), .pick (.t 69) (.t 72) (.c (.bool false)), none⟩,
  ⟨(some 74), .mv (.t 73), none⟩,
  ⟨(some 75), .addo 9 (.t 2), (some (74, true))⟩,
  ⟨(some 76), .load false 1 (.t 75), (some (74, true))⟩,
  ⟨(some 77), .mv (.t 6), (some (74, true))⟩,
  ⟨(some 78), .call (.c (.func 83 [] [])) [(.t 76), (.c (.int .i64 4)), (.t 77)], (some (74, true))⟩,
  ⟨(some 79), .pick (.t 74) (.t 78) (.c (.bool false)), none⟩,
  ⟨(some 7), .mv (.t 79), none⟩]
def Tryz.a44r4 : ACode := .region [⟨(some 80), .mv (.t 7), none⟩,
  ⟨(some 81), .un .not (.t 80), none⟩]
def Tryz.a44r5 : ACode := .region [⟨none, .store 1 (.t 4) (.c (.int .i64 60)) [], none⟩]
def Tryz.a44r6 : ACode := .region [⟨(some 82), .mkmap, none⟩,
  ⟨(some 83), .addo 1 (.t 2), none⟩,
  ⟨(some 84), .load false 1 (.t 83), none⟩,
  ⟨none, .mapset (.t 82) (.t 84) (.c (.bool true)), none⟩,
  ⟨(some 85), .mv (.t 82), none⟩,
  ⟨(some 8), .alloc 1 .nilm [], none⟩,
  ⟨none, .store 1 (.t 8) (.t 85) [], none⟩]
def Tryz.a44r7 : ACode := .region [⟨(some 86), .addo 11 (.t 2), none⟩,
  ⟨(some 87), .load false 1 (.t 86), none⟩,
  ⟨(some 88), .call (.c (.func 46 [] [])) [(.t 87), (.c (.int .i64 1))], none⟩]
def Tryz.a44r8 : ACode := .region [⟨(some 9), .alloc 21 (.agg [(.int .i64 0), (.int .i64 0), (.int .i64 0), (.int .i64 0), (.int .i64 0), (.int .i64 0), (.int .i64 0), (.int .i64 0), .nils, (.int .i64 0), (.int .i64 0), (.int .i64 0), .nils, (.int .i64 0), .nils, .nils, .nils, .nils, .nils, .nils, (.int .i64 0)]) [], none⟩,
  ⟨none, .store 21 (.t 9) (.t 89) [], none⟩]
def Tryz.a44r9 : ACode := .region [⟨(some 90), .addo 20 (.t 9), none⟩,
  ⟨(some 91), .load false 1 (.t 90), none⟩,
  ⟨(some 92), .bin .gtr 0 (.t 91) (.c (.int .i64 10)), none⟩,
  ⟨(some 93), .mv (.t 92), none⟩,
  ⟨(some 94), .load false 1 (.t 8), (some (93, false))⟩,
  ⟨(some 95), .len 2 (.t 94), (some (93, false))⟩,
  ⟨(some 96), .bin .gtr 0 (.t 95) (.c (.int .i64 200)), (some (93, false))⟩,
  ⟨(some 97), .pick (.t 93) (.c (.bool true)) (.t 96), none⟩,
  ⟨(some 98), .mv (.t 97), none⟩,
  ⟨(some 99), .load false 1 (.t 8), (some (98, false))⟩,
  ⟨(some 100), .addo 0 (.t 9), (some (98, false))⟩,
  ⟨(some 101), .addo 0 (.t 100), (some (98, false))⟩,
  ⟨(some 102), .load false 1 (.t 101), (some (98, false))⟩,
  ⟨(some 103), .lookup (.bool false) false (.t 99) (.t 102), (some (98, false))⟩,
  ⟨(some 104), .pick (.t 98) (.c (.bool true)) (.t 103), none⟩,
  ⟨(some 105), .mv (.t 104), none⟩,
  ⟨(some 106), .load true 19 (.t 5), (some (105, false))⟩,
  ⟨(some 107), .addo 0 (.t 9), (some (105, false))⟩,
  ⟨(some 108), .load true 20 (.t 107), (some (105, false))⟩,
  ⟨(some 109), .call (.c (.func 84 [] [])) [(.t 106), (.t 108)], (some (105, false))⟩,
  ⟨(some 110), .un .not (.t 109), (some (105, false))⟩,
  ⟨(some 111), .pick (.t 105) (.c (.bool true)) (.t 110), none⟩]
def Tryz.a44r10 : ACode := .region [⟨none, .store 1 (.t 4) (.c (.int .i64 60)) [], none⟩]
def Tryz.a44r11 : ACode := .region [⟨(some 112), .load false 1 (.t 8), none⟩,
  ⟨(some 113), .addo 0 (.t 9), none⟩,
  ⟨(some 114), .addo 0 (.t 113), none⟩,
  ⟨(some 115), .load false 1 (.t 114), none⟩,
  ⟨none, .mapset (.t 112) (.t 115) (.c (.bool true)), none⟩]
def Tryz.a44y12 : ACode := .block 1 (.seq (.seq (Tryz.a44r9) (.cond (.t 111) (.seq (Tryz.a44r10) (.ret)) (.skip))) (Tryz.a44r11))
def Tryz.a44r13 : ACode := .region [⟨none, .store 1 (.t 4) (.c (.int .i64 0)) [], none⟩]
def Tryz.c44 : ACode := .seq (Tryz.a44r0) (.seq (Tryz.a44r1) (.seq (Tryz.a44r2) (.seq (Tryz.a44r3) (.seq (.seq (Tryz.a44r4) (.cond (.t 81) (.seq (Tryz.a44r5) (.ret)) (.skip))) (.seq (Tryz.a44r6) (.seq (.seq (Tryz.a44r7) (.block 0 (.rangeFunc (.t 88) [89] (Tryz.a44r8) (Tryz.a44y12)))) (.seq (Tryz.a44r13) (.ret))))))))
def Tryz.a44 : AFunc := ⟨116, Tryz.c44, [(4, some (false, 1))], false⟩
theorem Tryz.a44_ok : chkFunc Tryz.prog Tryz.eqs Tryz.f44 Tryz.a44 = true := by kernel_rfl
theorem Tryz.w44 {first caps args : List AVal} {heap : List AObj} {K : AVal → List AObj → Prop} (N : Nat) (h : Ex (cfg Tryz.prog Tryz.eqs N) Tryz.c44 ⟨(first ++ args ++ caps) ++ List.replicate (116 - (first ++ args ++ caps).length) .undef, heap⟩ (kfun (cfg Tryz.prog Tryz.eqs N) [(4, some (false, 1))] false heap.length K)) : Hs Tryz.prog Tryz.eqs (.func 44 first caps) args heap K := Hs.enter Tryz.eqs_plain N (fn := Tryz.f44) (by kernel_rfl) Tryz.a44_ok h
def Tryz.a47r0 : ACode := .region [⟨(some 2), .box (.t 0) [], none⟩,
  ⟨(some 3), .mv (.c (.bool false)), none⟩]
def Tryz.a47r1 : ACode := .region [⟨(some 4), .load false 1 (.t 1), none⟩,
  ⟨(some 5), .addo 0 (.t 2), none⟩,
  ⟨(some 6), .load false 1 (.t 5), none⟩,
  ⟨(some 7), .lookup (.bool false) false (.t 4) (.t 6), none⟩,
  ⟨(some 8), .mv (.t 7), none⟩,
  ⟨(some 9), .load true 12 (.t 2), (some (8, true))⟩,
  ⟨(some 10), .call (.c (.func 23 [] [])) [(.t 9)], (some (8, true))⟩,
  ⟨(some 11), .mkf 49 [] [(.t 1)], (some (8, true))⟩,
  ⟨(some 12), .call (.c (.func 48 [] [])) [(.t 10), (.t 11)], (some (8, true))⟩,
  ⟨(some 13), .un .not (.t 12), (some (8, true))⟩,
  ⟨(some 14), .pick (.t 8) (.t 13) (.c (.bool false)), none⟩,
  ⟨(some 3), .mv (.t 14), none⟩]
def Tryz.c47 : ACode := .seq (Tryz.a47r0) (.seq (Tryz.a47r1) (.ret))
def Tryz.a47 : AFunc := ⟨15, Tryz.c47, [(3, none)], false⟩
theorem Tryz.a47_ok : chkFunc Tryz.prog Tryz.eqs Tryz.f47 Tryz.a47 = true := by kernel_rfl
theorem Tryz.w47 {first caps args : List AVal} {heap : List AObj} {K : AVal → List AObj → Prop} (N : Nat) (h : Ex (cfg Tryz.prog Tryz.eqs N) Tryz.c47 ⟨(first ++ args ++ caps) ++ List.replicate (15 - (first ++ args ++ caps).length) .undef, heap⟩ (kfun (cfg Tryz.prog Tryz.eqs N) [(3, none)] false heap.length K)) : Hs Tryz.prog Tryz.eqs (.func 47 first caps) args heap K := Hs.enter Tryz.eqs_plain N (fn := Tryz.f47) (by kernel_rfl) Tryz.a47_ok h
def Tryz.a48r0 : ACode := .region [⟨(some 4), .mv (.c (.bool false)), none⟩]
def Tryz.a48r1 : ACode := .region [⟨(some 5), .mv (.t 0), none⟩,
  ⟨(some 6), .mv (.t 1), none⟩,
  ⟨(some 7), .call (.c (.func 89 [] [])) [(.t 5), (.t 6)], none⟩,
  ⟨(some 8), .bin .geq 0 (.t 7) (.c (.int .i64 0)), none⟩,
  ⟨(some 4), .mv (.t 8), none⟩]
def Tryz.c48 : ACode := .seq (Tryz.a48r0) (.seq (Tryz.a48r1) (.ret))
def Tryz.a48 : AFunc := ⟨9, Tryz.c48, [(4, none)], false⟩
theorem Tryz.a48_ok : chkFunc Tryz.prog Tryz.eqs Tryz.f48 Tryz.a48 = true := by kernel_rfl
theorem Tryz.w48 {first caps args : List AVal} {heap : List AObj} {K : AVal → List AObj → Prop} (N : Nat) (h : Ex (cfg Tryz.prog Tryz.eqs N) Tryz.c48 ⟨(first ++ args ++ caps) ++ List.replicate (9 - (first ++ args ++ caps).length) .undef, heap⟩ (kfun (cfg Tryz.prog Tryz.eqs N) [(4, none)] false heap.length K)) : Hs Tryz.prog Tryz.eqs (.func 48 first caps) args heap K := Hs.enter Tryz.eqs_plain N (fn := Tryz.f48) (by kernel_rfl) Tryz.a48_ok h
def Tryz.a49r0 : ACode := .region [⟨(some 3), .mv (.c (.bool false)), none⟩]
def Tryz.a49r1 : ACode := .region [⟨(some 4), .load false 1 (.t 1), none⟩,
  ⟨(some 5), .mv (.t 0), none⟩,
  ⟨(some 6), .lookup (.bool false) false (.t 4) (.t 5), none⟩,
  ⟨(some 3), .mv (.t 6), none⟩]
def Tryz.c49 : ACode := .seq (Tryz.a49r0) (.seq (Tryz.a49r1) (.ret))
def Tryz.a49 : AFunc := ⟨7, Tryz.c49, [(3, none)], false⟩
theorem Tryz.a49_ok : chkFunc Tryz.prog Tryz.eqs Tryz.f49 Tryz.a49 = true := by kernel_rfl
theorem Tryz.w49 {first caps args : List AVal} {heap : List AObj} {K : AVal → List AObj → Prop} (N : Nat) (h : Ex (cfg Tryz.prog Tryz.eqs N) Tryz.c49 ⟨(first ++ args ++ caps) ++ List.replicate (7 - (first ++ args ++ caps).length) .undef, heap⟩ (kfun (cfg Tryz.prog Tryz.eqs N) [(3, none)] false heap.length K)) : Hs Tryz.prog Tryz.eqs (.func 49 first caps) args heap K := Hs.enter Tryz.eqs_plain N (fn := Tryz.f49) (by kernel_rfl) Tryz.a49_ok h
def Tryz.a50r0 : ACode := .region [⟨(some 4), .mv (.c (.int .i64 0)), none⟩]
def Tryz.a50r1 : ACode := .region [⟨(some 6), .mv (.t 0), none⟩,
  ⟨(some 7), .len 0 (.t 6), none⟩,
  ⟨(some 8), .mv (.c (.int .i64 0)), none⟩]
def Tryz.a50r2 : ACode := .region [⟨(some 9), .bin .lss 0 (.t 8) (.t 7), none⟩]
def Tryz.a50r3 : ACode := .region [⟨(some 10), .mv (.t 8), none⟩,
  ⟨(some 5), .mv (.t 10), none⟩]
def Tryz.a50r4 : ACode := .region [⟨(some 11), .mv (.t 1), none⟩,
  ⟨(some 12), .mv (.t 0), none⟩,
  ⟨(some 13), .mv (.t 5), none⟩,
  ⟨(some 14), .idx 12 (.t 12) (.t 13), none⟩,
  ⟨(some 15), .load true 12 (.t 14), none⟩,
  ⟨(some 16), .call (.t 11) [(.t 15)], none⟩]
def Tryz.a50r5 : ACode := .region [⟨(some 17), .mv (.t 5), none⟩,
  ⟨(some 4), .mv (.t 17), none⟩]
def Tryz.a50r6 : ACode := .region [⟨(some 18), .bin .add 0 (.t 8) (.c (.int .i64 1)), none⟩,
  ⟨(some 8), .mv (.t 18), none⟩]
def Tryz.a50l7 : ACode := .seq (Tryz.a50r2) (.seq (.cond (.t 9) (.skip) (.exit 0)) (.seq (.block 1 (.seq (Tryz.a50r3) (.seq (Tryz.a50r4) (.cond (.t 16) (.seq (Tryz.a50r5) (.ret)) (.skip))))) (Tryz.a50r6)))
def Tryz.a50r8 : ACode := .region [⟨(some 4), .mv (.c (.int .i64 (-1))), none⟩]
def Tryz.c50 : ACode := .seq (Tryz.a50r0) (.seq (.seq (Tryz.a50r1) (.block 0 (.loop [0, 1, 7, 8] Tryz.a50l7))) (.seq (Tryz.a50r8) (.ret)))
def Tryz.a50 : AFunc := ⟨19, Tryz.c50, [(4, none)], false⟩
theorem Tryz.a50_ok : chkFunc Tryz.prog Tryz.eqs Tryz.f50 Tryz.a50 = true := by kernel_rfl
theorem Tryz.w50 {first caps args : List AVal} {heap : List AObj} {K : AVal → List AObj → Prop} (N : Nat) (h : Ex (cfg Tryz.prog Tryz.eqs N) Tryz.c50 ⟨(first ++ args ++ caps) ++ List.replicate (19 - (first ++ args ++ caps).length) .undef, heap⟩ (kfun (cfg Tryz.prog Tryz.eqs N) [(4, none)] false heap.length K)) : Hs Tryz.prog Tryz.eqs (.func 50 first caps) args heap K := Hs.enter Tryz.eqs_plain N (fn := Tryz.f50) (by kernel_rfl) Tryz.a50_ok h
def Tryz.a51r0 : ACode := .region [⟨(some 2), .box (.t 0) [], none⟩,
  ⟨(some 4), .alloc 12 (.agg [(.int .i64 0), (.int .i64 0), (.str (ByteArray.mk #[])), (.int .i64 0), (.int .i64 0), .nils, .nils, (.int .i64 0), (.int .i64 0), .nils, (.int .i64 0), .nils]) [], none⟩,
  ⟨(some 5), .mv (.c (.bool false)), none⟩]
def Tryz.a51r1 : ACode := .region [⟨(some 8), .addo 8 (.t 2), none⟩,
  ⟨(some 9), .load false 1 (.t 8), none⟩,
  ⟨(some 10), .len 0 (.t 9), none⟩,
  ⟨(some 11), .mv (.c (.int .i64 0)), none⟩]
def Tryz.a51r2 : ACode := .region [⟨(some 12), .bin .lss 0 (.t 11) (.t 10), none⟩]
def Tryz.a51r3 : ACode := .region [⟨(some 13), .idx 12 (.t 9) (.t 11), none⟩,
  ⟨(some 14), .load true 12 (.t 13), none⟩,
  ⟨(some 7), .alloc 12 (.agg [(.int .i64 0), (.int .i64 0), (.str (ByteArray.mk #[])), (.int .i64 0), (.int .i64 0), .nils, .nils, (.int .i64 0), (.int .i64 0), .nils, (.int .i64 0), .nils]) [], none⟩,
  ⟨none, .store 12 (.t 7) (.t 14) [], none⟩]
def Tryz.a51r4 : ACode := .region [⟨(some 15), .addo 0 (.t 7), none⟩,
  ⟨(some 16), .load false 1 (.t 15), none⟩,
  ⟨(some 17), .mv (.t 1), none⟩,
  ⟨(some 18), .bin .eql 0 (.t 16) (.t 17), none⟩]
def Tryz.a51r5 : ACode := .region [⟨(some 19), .load true 12 (.t 7), none⟩,
  ⟨none, .store 12 (.t 4) (.t 19) [], none⟩,
  ⟨(some 5), .mv (.c (.bool true)), none⟩]
def Tryz.a51r6 : ACode := .region [⟨(some 20), .bin .add 0 (.t 11) (.c (.int .i64 1)), none⟩,
  ⟨(some 11), .mv (.t 20), none⟩]
def Tryz.a51l7 : ACode := .seq (Tryz.a51r2) (.seq (.cond (.t 12) (.skip) (.exit 0)) (.seq (.block 1 (.seq (Tryz.a51r3) (.seq (Tryz.a51r4) (.cond (.t 18) (.seq (Tryz.a51r5) (.ret)) (.skip))))) (Tryz.a51r6)))
def Tryz.a51r8 : ACode := .region [⟨(some 21), .build (.agg [(.int .i64 0), (.int .i64 0), (.str (ByteArray.mk #[])), (.int .i64 0), (.int .i64 0), .nils, .nils, (.int .i64 0), (.int .i64 0), .nils, (.int .i64 0), .nils]) [], none⟩,
  ⟨none, .store 12 (.t 4) (.t 21) [], none⟩,
  ⟨(some 5), .mv (.c (.bool false)), none⟩]
def Tryz.c51 : ACode := .seq (Tryz.a51r0) (.seq (.seq (Tryz.a51r1) (.block 0 (.loop [1, 4, 9, 10, 11] Tryz.a51l7))) (.seq (Tryz.a51r8) (.ret)))
def Tryz.a51 : AFunc := ⟨22, Tryz.c51, [(4, some (true, 12)), (5, none)], false⟩
theorem Tryz.a51_ok : chkFunc Tryz.prog Tryz.eqs Tryz.f51 Tryz.a51 = true := by kernel_rfl
theorem Tryz.w51 {first caps args : List AVal} {heap : List AObj} {K : AVal → List AObj → Prop} (N : Nat) (h : Ex (cfg Tryz.prog Tryz.eqs N) Tryz.c51 ⟨(first ++ args ++ caps) ++ List.replicate (22 - (first ++ args ++ caps).length) .undef, heap⟩ (kfun (cfg Tryz.prog Tryz.eqs N) [(4, some (true, 12)), (5, none)] false heap.length K)) : Hs Tryz.prog Tryz.eqs (.func 51 first caps) args heap K := Hs.enter Tryz.eqs_plain N (fn := Tryz.f51) (by kernel_rfl) Tryz.a51_ok h
def Tryz.a52r0 : ACode := .region [⟨(some 3), .mv (.t 0), none⟩,
  ⟨(some 4), .len 0 (.t 3), none⟩,
  ⟨(some 2), .mv (.t 4), none⟩]
def Tryz.a52r1 : ACode := .region [⟨(some 5), .mv (.t 0), none⟩,
  ⟨(some 6), .mv (.t 2), none⟩,
  ⟨(some 7), .mv (.t 2), none⟩,
  ⟨(some 8), .conv .u64 (.t 7), none⟩,
  ⟨(some 9), .call (.c (.func 91 [] [])) [(.t 8)], none⟩,
  ⟨(some 10), .call (.c (.func 90 [] [])) [(.t 5), (.c (.int .i64 0)), (.t 6), (.t 9)], none⟩]
def Tryz.c52 : ACode := .seq (Tryz.a52r0) (Tryz.a52r1)
def Tryz.a52 : AFunc := ⟨11, Tryz.c52, [], false⟩
theorem Tryz.a52_ok : chkFunc Tryz.prog Tryz.eqs Tryz.f52 Tryz.a52 = true := by kernel_rfl
theorem Tryz.w52 {first caps args : List AVal} {heap : List AObj} {K : AVal → List AObj → Prop} (N : Nat) (h : Ex (cfg Tryz.prog Tryz.eqs N) Tryz.c52 ⟨(first ++ args ++ caps) ++ List.replicate (11 - (first ++ args ++ caps).length) .undef, heap⟩ (kfun (cfg Tryz.prog Tryz.eqs N) [] false heap.length K)) : Hs Tryz.prog Tryz.eqs (.func 52 first caps) args heap K := Hs.enter Tryz.eqs_plain N (fn := Tryz.f52) (by kernel_rfl) Tryz.a52_ok h
def Tryz.a53r0 : ACode := .region [⟨(some 2), .mv (.c .nils), none⟩]
def Tryz.a53r1 : ACode := .region [⟨(some 6), .mv (.t 0), none⟩,
  ⟨(some 7), .len 0 (.t 6), none⟩,
  ⟨(some 8), .bin .lss 0 (.t 7) (.c (.int .i64 2)), none⟩]
def Tryz.a53r2 : ACode := .region [⟨(some 9), .mv (.t 0), none⟩,
  ⟨(some 2), .mv (.t 9), none⟩]
def Tryz.a53r3 : ACode := .region [⟨(some 3), .mv (.c (.int .i64 1)), none⟩]
def Tryz.a53r4 : ACode := .region [⟨(some 10), .mv (.t 3), none⟩,
  ⟨(some 11), .mv (.t 0), none⟩,
  ⟨(some 12), .len 0 (.t 11), none⟩,
  ⟨(some 13), .bin .lss 0 (.t 10) (.t 12), none⟩]
def Tryz.a53r5 : ACode := .draw [⟨0, ⟨(some 16), .mv (.t 0), none⟩, []⟩,
  ⟨1, ⟨(some 17), .mv (.t 3), none⟩, []⟩,
  ⟨2, ⟨(some 18), .idx 1 (.t 16) (.t 17), none⟩, []⟩,
  ⟨3, ⟨(some 19), .load false 1 (.t 18), none⟩, []⟩,
  ⟨4, ⟨(some 20), .mv (.t 0), none⟩, []⟩,
  ⟨5, ⟨(some 21), .mv (.t 3), none⟩, []⟩,
  ⟨6, ⟨(some 22), .bin .sub 0 (.t 21) (.c (.int .i64 1)), none⟩, []⟩,
  ⟨7, ⟨(some 23), .idx 1 (.t 20) (.t 22), none⟩, []⟩,
  ⟨8, ⟨(some 24), .load false 1 (.t 23), none⟩, []⟩,
  ⟨9, ⟨(some 25), .bin .eql 0 (.t 19) (.t 24), none⟩, []⟩] [[], [], [0, 1], [0, 1, 2], [], [], [5], [4, 5, 6], [4, 5, 6, 7], [0, 1, 2, 3, 4, 5, 6, 7, 8]]
def Tryz.a53r6 : ACode := .region [⟨(some 26), .mv (.t 0), none⟩,
  ⟨(some 27), .mv (.t 3), none⟩,
  ⟨(some 28), .slice 1 (.t 26) (some (.t 27)) none, none⟩,
  ⟨(some 4), .mv (.t 28), none⟩]
def Tryz.a53r7 : ACode := .region [⟨(some 5), .mv (.c (.int .i64 1)), none⟩]
def Tryz.a53r8 : ACode := .region [⟨(some 29), .mv (.t 5), none⟩,
  ⟨(some 30), .mv (.t 4), none⟩,
  ⟨(some 31), .len 0 (.t 30), none⟩,
  ⟨(some 32), .bin .lss 0 (.t 29) (.t 31), none⟩]
def Tryz.a53r9 : ACode := .draw [⟨0, ⟨(some 35), .mv (.t 4), none⟩, []⟩,
  ⟨1, ⟨(some 36), .mv (.t 5), none⟩, []⟩,
  ⟨2, ⟨(some 37), .idx 1 (.t 35) (.t 36), none⟩, []⟩,
  ⟨3, ⟨(some 38), .load false 1 (.t 37), none⟩, []⟩,
  ⟨4, ⟨(some 39), .mv (.t 4), none⟩, []⟩,
  ⟨5, ⟨(some 40), .mv (.t 5), none⟩, []⟩,
  ⟨6, ⟨(some 41), .bin .sub 0 (.t 40) (.c (.int .i64 1)), none⟩, []⟩,
  ⟨7, ⟨(some 42), .idx 1 (.t 39) (.t 41), none⟩, []⟩,
  ⟨8, ⟨(some 43), .load false 1 (.t 42), none⟩, []⟩,
  ⟨9, ⟨(some 44), .bin .neq 0 (.t 38) (.t 43), none⟩, []⟩] [[], [], [0, 1], [0, 1, 2], [], [], [5], [4, 5, 6], [4, 5, 6, 7], [0, 1, 2, 3, 4, 5, 6, 7, 8]]
def Tryz.a53r10 : ACode := .region [⟨(some 45), .mv (.t 0), none⟩,
  ⟨(some 46), .mv (.t 3), none⟩,
  ⟨(some 47), .mv (.t 4), none⟩,
  ⟨(some 48), .mv (.t 5), none⟩,
  ⟨(some 49), .idx 1 (.t 47) (.t 48), none⟩,
  ⟨(some 50), .load false 1 (.t 49), none⟩,
  ⟨(some 51), .idx 1 (.t 45) (.t 46), none⟩,
  ⟨none, .store 1 (.t 51) (.t 50) [], none⟩]
def Tryz.a53r11 : ACode := .region [⟨(some 52), .mv (.t 3), none⟩,
  ⟨(some 53), .bin .add 0 (.t 52) (.c (.int .i64 1)), none⟩,
  ⟨(some 3), .mv (.t 53), none⟩]
def Tryz.a53r12 : ACode := .region [⟨(some 33), .mv (.t 5), none⟩,
  ⟨(some 34), .bin .add 0 (.t 33) (.c (.int .i64 1)), none⟩,
  ⟨(some 5), .mv (.t 34), none⟩]
def Tryz.a53l13 : ACode := .seq (.seq (Tryz.a53r8) (.cond (.t 32) (.skip) (.exit 2))) (.seq (.block 3 (.seq (Tryz.a53r9) (.cond (.t 44) (.seq (Tryz.a53r10) (Tryz.a53r11)) (.skip)))) (Tryz.a53r12))
def Tryz.a53r14 : ACode := .region [⟨(some 54), .mv (.t 0), none⟩,
  ⟨(some 55), .mv (.t 3), none⟩,
  ⟨(some 56), .slice 1 (.t 54) (some (.t 55)) none, none⟩,
  ⟨none, .clear 1 (.int .i64 0) (.t 56), none⟩]
def Tryz.a53r15 : ACode := .region [⟨(some 57), .mv (.t 0), none⟩,
  ⟨(some 58), .mv (.t 3), none⟩,
  ⟨(some 59), .slice 1 (.t 57) none (some (.t 58)), none⟩,
  ⟨(some 2), .mv (.t 59), none⟩]
def Tryz.a53r16 : ACode := .region [⟨(some 14), .mv (.t 3), none⟩,
  ⟨(some 15), .bin .add 0 (.t 14) (.c (.int .i64 1)), none⟩,
  ⟨(some 3), .mv (.t 15), none⟩]
def Tryz.a53l17 : ACode := .seq (.seq (Tryz.a53r4) (.cond (.t 13) (.skip) (.exit 0))) (.seq (.block 1 (.seq (Tryz.a53r5) (.cond (.t 25) (.seq (Tryz.a53r6) (.seq (.seq (Tryz.a53r7) (.block 2 (.loop [0, 3, 4, 5] Tryz.a53l13))) (.seq (Tryz.a53r14) (.seq (Tryz.a53r15) (.ret))))) (.skip)))) (Tryz.a53r16))
def Tryz.a53r18 : ACode := .region [⟨(some 60), .mv (.t 0), none⟩,
  ⟨(some 2), .mv (.t 60), none⟩]
def Tryz.c53 : ACode := .seq (Tryz.a53r0) (.seq (.seq (Tryz.a53r1) (.cond (.t 8) (.seq (Tryz.a53r2) (.ret)) (.skip))) (.seq (.seq (Tryz.a53r3) (.block 0 (.loop [0, 3] Tryz.a53l17))) (.seq (Tryz.a53r18) (.ret))))
def Tryz.a53 : AFunc := ⟨61, Tryz.c53, [(2, none)], false⟩
theorem Tryz.a53_ok : chkFunc Tryz.prog Tryz.eqs Tryz.f53 Tryz.a53 = true := by kernel_rfl
theorem Tryz.w53 {first caps args : List AVal} {heap : List AObj} {K : AVal → List AObj → Prop} (N : Nat) (h : Ex (cfg Tryz.prog Tryz.eqs N) Tryz.c53 ⟨(first ++ args ++ caps) ++ List.replicate (61 - (first ++ args ++ caps).length) .undef, heap⟩ (kfun (cfg Tryz.prog Tryz.eqs N) [(2, none)] false heap.length K)) : Hs Tryz.prog Tryz.eqs (.func 53 first caps) args heap K := Hs.enter Tryz.eqs_plain N (fn := Tryz.f53) (by kernel_rfl) Tryz.a53_ok h
def Tryz.a54r0 : ACode := .region [⟨(some 1), .box (.t 0) [], none⟩,
  ⟨(some 2), .mv (.c (.bool false)), none⟩]
def Tryz.a54r1 : ACode := .region [⟨(some 3), .alloc 1 (.int .i64 0) [], none⟩,
  ⟨none, .store 1 (.t 3) (.c (.int .i64 0)) [], none⟩]
def Tryz.a54r2 : ACode := .region [⟨(some 4), .addo 7 (.t 1), none⟩,
  ⟨(some 5), .load false 1 (.t 4), none⟩,
  ⟨(some 6), .mkf 93 [] [(.t 3), (.t 1)], none⟩,
  ⟨(some 7), .call (.c (.func 92 [] [])) [(.t 5), (.c (.int .i64 40)), (.t 6)], none⟩,
  ⟨(some 2), .mv (.t 7), none⟩]
def Tryz.c54 : ACode := .seq (Tryz.a54r0) (.seq (Tryz.a54r1) (.seq (Tryz.a54r2) (.ret)))
def Tryz.a54 : AFunc := ⟨8, Tryz.c54, [(2, none)], false⟩
theorem Tryz.a54_ok : chkFunc Tryz.prog Tryz.eqs Tryz.f54 Tryz.a54 = true := by kernel_rfl
theorem Tryz.w54 {first caps args : List AVal} {heap : List AObj} {K : AVal → List AObj → Prop} (N : Nat) (h : Ex (cfg Tryz.prog Tryz.eqs N) Tryz.c54 ⟨(first ++ args ++ caps) ++ List.replicate (8 - (first ++ args ++ caps).length) .undef, heap⟩ (kfun (cfg Tryz.prog Tryz.eqs N) [(2, none)] false heap.length K)) : Hs Tryz.prog Tryz.eqs (.func 54 first caps) args heap K := Hs.enter Tryz.eqs_plain N (fn := Tryz.f54) (by kernel_rfl) Tryz.a54_ok h
def Tryz.a55r0 : ACode := .region [⟨(some 2), .box (.t 0) [], none⟩,
  ⟨(some 3), .box (.t 1) [], none⟩,
  ⟨(some 4), .alloc 1 (.bool false) [], none⟩]
def Tryz.a55r1 : ACode := .region [⟨(some 10), .load true 12 (.t 3), none⟩,
  ⟨(some 11), .addo 0 (.t 2), none⟩,
  ⟨(some 12), .load true 7 (.t 11), none⟩,
  ⟨(some 13), .call (.c (.func 44 [] [])) [(.t 10), (.t 12)], none⟩,
  ⟨(some 14), .bin .neq 0 (.t 13) (.c (.int .i64 0)), none⟩]
def Tryz.a55r2 : ACode := .region [⟨none, .store 1 (.t 4) (.c (.bool false)) [], none⟩]
def Tryz.a55r3 : ACode := .region [⟨(some 16), .load true 10 (.t 2), none⟩,
  ⟨(some 17), .addo 0 (.t 3), none⟩,
  ⟨(some 18), .load false 1 (.t 17), none⟩,
  ⟨(some 19), .call (.c (.func 56 [] [])) [(.t 16), (.t 18)], none⟩,
  ⟨(some 15), .mv (.t 19), none⟩,
  ⟨(some 20), .ext 0 (.t 15), none⟩,
  ⟨(some 21), .ext 1 (.t 15), none⟩,
  ⟨(some 5), .alloc 5 (.agg [(.int .i64 0), (.int .i64 0), (.int .i64 0), .nils, .nils]) [], none⟩,
  ⟨none, .store 5 (.t 5) (.t 20) [], none⟩,
  ⟨(some 6), .mv (.t 21), none⟩]
def Tryz.a55r4 : ACode := .region [⟨(some 22), .mv (.t 6), none⟩,
  ⟨(some 23), .un .not (.t 22), none⟩,
  ⟨(some 24), .mv (.t 23), none⟩,
  ⟨(some 25), .addo 1 (.t 5), (some (24, false))⟩,
  ⟨(some 26), .load false 1 (.t 25), (some (24, false))⟩,
  ⟨(some 27), .addo 3 (.t 3), (some (24, false))⟩,
  ⟨(some 28), .load false 1 (.t 27), (some (24, false))⟩,
  ⟨(some 29), .bin .neq 0 (.t 26) (.t 28), (some (24, false))⟩,
  ⟨(some 30), .pick (.t 24) (.c (.bool true)) (.t 29), none⟩,
  ⟨(some 31), .mv (.t 30), none⟩,
  ⟨(some 32), .addo 2 (.t 5), (some (31, false))⟩,
  ⟨(some 33), .load false 1 (.t 32), (some (31, false))⟩,
  ⟨(some 34), .addo 4 (.t 3), (some (31, false))⟩,
  ⟨(some 35), .load false 1 (.t 34), (some (31, false))⟩,
  ⟨(some 36), .bin .neq 0 (.t 33) (.t 35), (some (31, false))⟩,
  ⟨(some 37), .pick (.t 31) (.c (.bool true)) (.t 36), none⟩,
  ⟨(some 38), .mv (.t 37), none⟩,
  ⟨(some 39), .addo 3 (.t 5), (some (38, false))⟩,
  ⟨(some 40), .load false 1 (.t 39), (some (38, false))⟩,
  ⟨(some 41), .addo 5 (.t 3), (some (38, false))⟩,
  ⟨(some 42), .load false 1 (.t 41), (some (38, false))⟩,
  ⟨(some 43), .call (.c (.func 94 [] [])) [(.t 40), (.t 42)], (some (38, false))⟩,
  ⟨(some 44), .un .not (.t 43), (some (38, false))⟩,
  ⟨(some 45), .pick (.t 38) (.c (.bool true)) (.t 44), none⟩,
  ⟨(some 46), .mv (.t 45), none⟩,
  ⟨(some 47), .addo 4 (.t 5), (some (46, false))⟩,
  ⟨(some 48), .load false 1 (.t 47), (some (46, false))⟩,
  ⟨(some 49), .addo 6 (.t 3), (some (46, false))⟩,
  ⟨(some 50), .load false 1 (.t 49), (some (46, false))⟩,
  ⟨(some 51), .call (.c (.func 94 [] [])) [(.t 48), (.t 50)], (some (46, false))⟩,
  ⟨(some 52), .un .not (.t 51), (some (46, false))⟩,
  ⟨(some 53), .pick (.t 46) (.c (.bool true)) (.t 52), none⟩]
def Tryz.a55r5 : ACode := .region [⟨none, .store 1 (.t 4) (.c (.bool false)) [], none⟩]
def Tryz.a55r6 : ACode := .region [⟨(some 54), .addo 11 (.t 3), none⟩,
  ⟨(some 55), .load false 1 (.t 54), none⟩,
  ⟨(some 56), .call (.c (.func 46 [] [])) [(.t 55), (.c (.int .i64 1))], none⟩]
def Tryz.a55r7 : ACode := .region [⟨(some 7), .alloc 21 (.agg [(.int .i64 0), (.int .i64 0), (.int .i64 0), (.int .i64 0), (.int .i64 0), (.int .i64 0), (.int .i64 0), (.int .i64 0), .nils, (.int .i64 0), (.int .i64 0), (.int .i64 0), .nils, (.int .i64 0), .nils, .nils, .nils, .nils, .nils, .nils, (.int .i64 0)]) [], none⟩,
  ⟨none, .store 21 (.t 7) (.t 57) [], none⟩]
def Tryz.a55r8 : ACode := .region [⟨(some 58), .addo 0 (.t 7), none⟩,
  ⟨(some 59), .addo 1 (.t 58), none⟩,
  ⟨(some 60), .load false 1 (.t 59), none⟩,
  ⟨(some 61), .bin .neq 0 (.t 60) (.c (.int .i64 13)), none⟩]
def Tryz.a55r9 : ACode := .region [⟨(some 63), .load true 10 (.t 2), none⟩,
  ⟨(some 64), .addo 0 (.t 7), none⟩,
  ⟨(some 65), .addo 3 (.t 64), none⟩,
  ⟨(some 66), .load false 1 (.t 65), none⟩,
  ⟨(some 67), .call (.c (.func 56 [] [])) [(.t 63), (.t 66)], none⟩,
  ⟨(some 62), .mv (.t 67), none⟩,
  ⟨(some 68), .ext 0 (.t 62), none⟩,
  ⟨(some 69), .ext 1 (.t 62), none⟩,
  ⟨(some 8), .alloc 5 (.agg [(.int .i64 0), (.int .i64 0), (.int .i64 0), .nils, .nils]) [], none⟩,
  ⟨none, .store 5 (.t 8) (.t 68) [], none⟩,
  ⟨(some 9), .mv (.t 69), none⟩]
def Tryz.a55r10 : ACode := .region [⟨(some 70), .mv (.t 9), none⟩,
  ⟨(some 71), .un .not (.t 70), none⟩,
  ⟨(some 72), .mv (.t 71), none⟩,
  ⟨(some 73), .addo 3 (.t 8), (some (72, false))⟩,
  ⟨(some 74), .load false 1 (.t 73), (some (72, false))⟩,
  ⟨(some 75), .len 0 (.t 74), (some (72, false))⟩,
  ⟨(some 76), .addo 0 (.t 7), (some (72, false))⟩,
  ⟨(some 77), .addo 16 (.t 76), (some (72, false))⟩,
  ⟨(some 78), .load false 1 (.t 77), (some (72, false))⟩,
  ⟨(some 79), .len 0 (.t 78), (some (72, false))⟩,
  ⟨(some 80), .bin .neq 0 (.t 75) (.t 79), (some (72, false))⟩,
  ⟨(some 81), .pick (.t 72) (.c (.bool true)) (.t 80), none⟩,
  ⟨(some 82), .mv (.t 81), none⟩,
  ⟨(some 83), .addo 4 (.t 8), (some (82, false))⟩,
  ⟨(some 84), .load false 1 (.t 83), (some (82, false))⟩,
  ⟨(some 85), .len 0 (.t 84), (some (82, false))⟩,
  ⟨(some 86), .addo 0 (.t 7), (some (82, false))⟩,
  ⟨(some 87), .addo 17 (.t 86), (some (82, false))⟩,
  ⟨(some 88), .load false 1 (.t 87), (some (82, false))⟩,
  ⟨(some 89), .len 0 (.t 88), (some (82, false))⟩,
  ⟨(some 90), .bin .neq 0 (.t 85) (.t 89), (some (82, false))⟩,
  ⟨(some 91), .pick (.t 82) (.c (.bool true)) (.t 90), none⟩]
def Tryz.a55r11 : ACode := .region [⟨none, .store 1 (.t 4) (.c (.bool false)) [], none⟩]
def Tryz.a55y12 : ACode := .block 1 (.seq (.seq (Tryz.a55r8) (.cond (.t 61) (.exit 1) (.skip))) (.seq (Tryz.a55r9) (.seq (Tryz.a55r10) (.cond (.t 91) (.seq (Tryz.a55r11) (.ret)) (.skip)))))
def Tryz.a55r13 : ACode := .region [⟨none, .store 1 (.t 4) (.c (.bool true)) [], none⟩]
def Tryz.c55 : ACode := .seq (Tryz.a55r0) (.seq (.seq (Tryz.a55r1) (.cond (.t 14) (.seq (Tryz.a55r2) (.ret)) (.skip))) (.seq (Tryz.a55r3) (.seq (.seq (Tryz.a55r4) (.cond (.t 53) (.seq (Tryz.a55r5) (.ret)) (.skip))) (.seq (.seq (Tryz.a55r6) (.block 0 (.rangeFunc (.t 56) [57] (Tryz.a55r7) (Tryz.a55y12)))) (.seq (Tryz.a55r13) (.ret))))))
def Tryz.a55 : AFunc := ⟨92, Tryz.c55, [(4, some (false, 1))], false⟩
theorem Tryz.a55_ok : chkFunc Tryz.prog Tryz.eqs Tryz.f55 Tryz.a55 = true := by kernel_rfl
theorem Tryz.w55 {first caps args : List AVal} {heap : List AObj} {K : AVal → List AObj → Prop} (N : Nat) (h : Ex (cfg Tryz.prog Tryz.eqs N) Tryz.c55 ⟨(first ++ args ++ caps) ++ List.replicate (92 - (first ++ args ++ caps).length) .undef, heap⟩ (kfun (cfg Tryz.prog Tryz.eqs N) [(4, some (false, 1))] false heap.length K)) : Hs Tryz.prog Tryz.eqs (.func 55 first caps) args heap K := Hs.enter Tryz.eqs_plain N (fn := Tryz.f55) (by kernel_rfl) Tryz.a55_ok h
def Tryz.a56r0 : ACode := .region [⟨(some 2), .box (.t 0) [], none⟩,
  ⟨(some 4), .alloc 5 (.agg [(.int .i64 0), (.int .i64 0), (.int .i64 0), .nils, .nils]) [], none⟩,
  ⟨(some 5), .mv (.c (.bool false)), none⟩]
def Tryz.a56r1 : ACode := .region [⟨(some 8), .addo 7 (.t 2), none⟩,
  ⟨(some 9), .load false 1 (.t 8), none⟩,
  ⟨(some 10), .len 0 (.t 9), none⟩,
  ⟨(some 11), .mv (.c (.int .i64 0)), none⟩]
def Tryz.a56r2 : ACode := .region [⟨(some 12), .bin .lss 0 (.t 11) (.t 10), none⟩]
def Tryz.a56r3 : ACode := .region [⟨(some 13), .idx 5 (.t 9) (.t 11), none⟩,
  ⟨(some 14), .load true 5 (.t 13), none⟩,
  ⟨(some 7), .alloc 5 (.agg [(.int .i64 0), (.int .i64 0), (.int .i64 0), .nils, .nils]) [], none⟩,
  ⟨none, .store 5 (.t 7) (.t 14) [], none⟩]
def Tryz.a56r4 : ACode := .region [⟨(some 15), .addo 0 (.t 7), none⟩,
  ⟨(some 16), .load false 1 (.t 15), none⟩,
  ⟨(some 17), .mv (.t 1), none⟩,
  ⟨(some 18), .bin .eql 0 (.t 16) (.t 17), none⟩]
def Tryz.a56r5 : ACode := .region [⟨(some 19), .load true 5 (.t 7), none⟩,
  ⟨none, .store 5 (.t 4) (.t 19) [], none⟩,
  ⟨(some 5), .mv (.c (.bool true)), none⟩]
def Tryz.a56r6 : ACode := .region [⟨(some 20), .bin .add 0 (.t 11) (.c (.int .i64 1)), none⟩,
  ⟨(some 11), .mv (.t 20), none⟩]
def Tryz.a56l7 : ACode := .seq (Tryz.a56r2) (.seq (.cond (.t 12) (.skip) (.exit 0)) (.seq (.block 1 (.seq (Tryz.a56r3) (.seq (Tryz.a56r4) (.cond (.t 18) (.seq (Tryz.a56r5) (.ret)) (.skip))))) (Tryz.a56r6)))
def Tryz.a56r8 : ACode := .region [⟨(some 21), .build (.agg [(.int .i64 0), (.int .i64 0), (.int .i64 0), .nils, .nils]) [], none⟩,
  ⟨none, .store 5 (.t 4) (.t 21) [], none⟩,
  ⟨(some 5), .mv (.c (.bool false)), none⟩]
def Tryz.c56 : ACode := .seq (Tryz.a56r0) (.seq (.seq (Tryz.a56r1) (.block 0 (.loop [1, 4, 9, 10, 11] Tryz.a56l7))) (.seq (Tryz.a56r8) (.ret)))
def Tryz.a56 : AFunc := ⟨22, Tryz.c56, [(4, some (true, 5)), (5, none)], false⟩
theorem Tryz.a56_ok : chkFunc Tryz.prog Tryz.eqs Tryz.f56 Tryz.a56 = true := by kernel_rfl
theorem Tryz.w56 {first caps args : List AVal} {heap : List AObj} {K : AVal → List AObj → Prop} (N : Nat) (h : Ex (cfg Tryz.prog Tryz.eqs N) Tryz.c56 ⟨(first ++ args ++ caps) ++ List.replicate (22 - (first ++ args ++ caps).length) .undef, heap⟩ (kfun (cfg Tryz.prog Tryz.eqs N) [(4, some (true, 5)), (5, none)] false heap.length K)) : Hs Tryz.prog Tryz.eqs (.func 56 first caps) args heap K := Hs.enter Tryz.eqs_plain N (fn := Tryz.f56) (by kernel_rfl) Tryz.a56_ok h
def Tryz.a74r0 : ACode := .region [⟨(some 1), .box (.t 0) [], none⟩,
  ⟨(some 2), .mv (.c (.bool false)), none⟩]
def Tryz.a74r1 : ACode := .region [⟨(some 3), .addo 1 (.t 1), none⟩,
  ⟨(some 4), .load true 3 (.t 3), none⟩,
  ⟨(some 5), .call (.c (.func 75 [] [])) [(.t 4)], none⟩,
  ⟨(some 6), .mv (.t 5), none⟩,
  ⟨(some 7), .addo 0 (.t 1), (some (6, true))⟩,
  ⟨(some 8), .load false 1 (.t 7), (some (6, true))⟩,
  ⟨(some 9), .call (.c (.func 76 [] [])) [(.t 8), (.c (.int .i64 1)), (.c (.int .i64 16))], (some (6, true))⟩,
  ⟨(some 10), .pick (.t 6) (.t 9) (.c (.bool false)), none⟩,
  ⟨(some 2), .mv (.t 10), none⟩]
def Tryz.c74 : ACode := .seq (Tryz.a74r0) (.seq (Tryz.a74r1) (.ret))
def Tryz.a74 : AFunc := ⟨11, Tryz.c74, [(2, none)], false⟩
theorem Tryz.a74_ok : chkFunc Tryz.prog Tryz.eqs Tryz.f74 Tryz.a74 = true := by kernel_rfl
theorem Tryz.w74 {first caps args : List AVal} {heap : List AObj} {K : AVal → List AObj → Prop} (N : Nat) (h : Ex (cfg Tryz.prog Tryz.eqs N) Tryz.c74 ⟨(first ++ args ++ caps) ++ List.replicate (11 - (first ++ args ++ caps).length) .undef, heap⟩ (kfun (cfg Tryz.prog Tryz.eqs N) [(2, none)] false heap.length K)) : Hs Tryz.prog Tryz.eqs (.func 74 first caps) args heap K := Hs.enter Tryz.eqs_plain N (fn := Tryz.f74) (by kernel_rfl) Tryz.a74_ok h
def Tryz.a75r0 : ACode := .region [⟨(some 1), .box (.t 0) [], none⟩,
  ⟨(some 2), .mv (.c (.bool false)), none⟩]
def Tryz.a75r1 : ACode := .region [⟨(some 3), .addo 0 (.t 1), none⟩,
  ⟨(some 4), .load false 1 (.t 3), none⟩,
  ⟨(some 5), .addo 1 (.t 1), none⟩,
  ⟨(some 6), .load false 1 (.t 5), none⟩,
  ⟨(some 7), .call (.c (.func 76 [] [])) [(.t 4), (.c (.int .i64 (-2147483648))), (.t 6)], none⟩,
  ⟨(some 8), .mv (.t 7), none⟩,
  ⟨(some 9), .addo 1 (.t 1), (some (8, true))⟩,
  ⟨(some 10), .load false 1 (.t 9), (some (8, true))⟩,
  ⟨(some 11), .bin .leq 0 (.t 10) (.c (.int .i64 2147483647)), (some (8, true))⟩,
  ⟨(some 12), .pick (.t 8) (.t 11) (.c (.bool false)), none⟩,
  ⟨(some 13), .mv (.t 12), none⟩,
  ⟨(some 14), .addo 2 (.t 1), (some (13, true))⟩,
  ⟨(some 15), .load false 1 (.t 14), (some (13, true))⟩,
  ⟨(some 16), .call (.c (.func 76 [] [])) [(.t 15), (.c (.int .i64 0)), (.c (.int .i64 255))], (some (13, true))⟩,
  ⟨(some 17), .pick (.t 13) (.t 16) (.c (.bool false)), none⟩,
  ⟨(some 2), .mv (.t 17), none⟩]
def Tryz.c75 : ACode := .seq (Tryz.a75r0) (.seq (Tryz.a75r1) (.ret))
def Tryz.a75 : AFunc := ⟨18, Tryz.c75, [(2, none)], false⟩
theorem Tryz.a75_ok : chkFunc Tryz.prog Tryz.eqs Tryz.f75 Tryz.a75 = true := by kernel_rfl
theorem Tryz.w75 {first caps args : List AVal} {heap : List AObj} {K : AVal → List AObj → Prop} (N : Nat) (h : Ex (cfg Tryz.prog Tryz.eqs N) Tryz.c75 ⟨(first ++ args ++ caps) ++ List.replicate (18 - (first ++ args ++ caps).length) .undef, heap⟩ (kfun (cfg Tryz.prog Tryz.eqs N) [(2, none)] false heap.length K)) : Hs Tryz.prog Tryz.eqs (.func 75 first caps) args heap K := Hs.enter Tryz.eqs_plain N (fn := Tryz.f75) (by kernel_rfl) Tryz.a75_ok h
def Tryz.a76r0 : ACode := .region [⟨(some 6), .mv (.c (.bool false)), none⟩]
def Tryz.a76r1 : ACode := .region [⟨(some 7), .mv (.t 1), none⟩,
  ⟨(some 8), .mv (.t 0), none⟩,
  ⟨(some 9), .bin .leq 0 (.t 7) (.t 8), none⟩,
  ⟨(some 10), .mv (.t 9), none⟩,
  ⟨(some 11), .mv (.t 0), (some (10, true))⟩,
  ⟨(some 12), .mv (.t 2), (some (10, true))⟩,
  ⟨(some 13), .bin .leq 0 (.t 11) (.t 12), (some (10, true))⟩,
  ⟨(some 14), .pick (.t 10) (.t 13) (.c (.bool false)), none⟩,
  ⟨(some 6), .mv (.t 14), none⟩]
def Tryz.c76 : ACode := .seq (Tryz.a76r0) (.seq (Tryz.a76r1) (.ret))
def Tryz.a76 : AFunc := ⟨15, Tryz.c76, [(6, none)], false⟩
theorem Tryz.a76_ok : chkFunc Tryz.prog Tryz.eqs Tryz.f76 Tryz.a76 = true := by kernel_rfl
theorem Tryz.w76 {first caps args : List AVal} {heap : List AObj} {K : AVal → List AObj → Prop} (N : Nat) (h : Ex (cfg Tryz.prog Tryz.eqs N) Tryz.c76 ⟨(first ++ args ++ caps) ++ List.replicate (15 - (first ++ args ++ caps).length) .undef, heap⟩ (kfun (cfg Tryz.prog Tryz.eqs N) [(6, none)] false heap.length K)) : Hs Tryz.prog Tryz.eqs (.func 76 first caps) args heap K := Hs.enter Tryz.eqs_plain N (fn := Tryz.f76) (by kernel_rfl) Tryz.a76_ok h
def Tryz.a77r0 : ACode := .region [⟨(some 2), .mv (.c (.bool false)), none⟩]
def Tryz.a77r1 : ACode := .region [⟨(some 3), .mv (.t 0), none⟩,
  ⟨(some 4), .call (.c (.func 76 [] [])) [(.t 3), (.c (.int .i64 0)), (.c (.int .i64 255))], none⟩,
  ⟨(some 2), .mv (.t 4), none⟩]
def Tryz.c77 : ACode := .seq (Tryz.a77r0) (.seq (Tryz.a77r1) (.ret))
def Tryz.a77 : AFunc := ⟨5, Tryz.c77, [(2, none)], false⟩
theorem Tryz.a77_ok : chkFunc Tryz.prog Tryz.eqs Tryz.f77 Tryz.a77 = true := by kernel_rfl
theorem Tryz.w77 {first caps args : List AVal} {heap : List AObj} {K : AVal → List AObj → Prop} (N : Nat) (h : Ex (cfg Tryz.prog Tryz.eqs N) Tryz.c77 ⟨(first ++ args ++ caps) ++ List.replicate (5 - (first ++ args ++ caps).length) .undef, heap⟩ (kfun (cfg Tryz.prog Tryz.eqs N) [(2, none)] false heap.length K)) : Hs Tryz.prog Tryz.eqs (.func 77 first caps) args heap K := Hs.enter Tryz.eqs_plain N (fn := Tryz.f77) (by kernel_rfl) Tryz.a77_ok h
def Tryz.a78r0 : ACode := .region [⟨(some 5), .box (.t 2) [], none⟩,
  ⟨(some 6), .mv (.c (.bool false)), none⟩]
def Tryz.a78r1 : ACode := .region [⟨(some 7), .mv (.t 0), none⟩,
  ⟨(some 8), .len 0 (.t 7), none⟩,
  ⟨(some 9), .mv (.t 1), none⟩,
  ⟨(some 10), .bin .leq 0 (.t 8) (.t 9), none⟩,
  ⟨(some 11), .mv (.t 10), none⟩,
  ⟨(some 12), .mv (.t 0), (some (11, true))⟩,
  ⟨(some 13), .mkf 116 [] [(.t 5)], (some (11, true))⟩,
  ⟨(some 14), .call (.c (.func 115 [] [])) [(.t 12), (.t 13)], (some (11, true))⟩,
  ⟨(some 15), .un .not (.t 14), (some (11, true))⟩,
  ⟨(some 16), .pick (.t 11) (.t 15) (.c (.bool false)), none⟩,
  ⟨(some 6), .mv (.t 16), none⟩]
def Tryz.c78 : ACode := .seq (Tryz.a78r0) (.seq (Tryz.a78r1) (.ret))
def Tryz.a78 : AFunc := ⟨17, Tryz.c78, [(6, none)], false⟩
theorem Tryz.a78_ok : chkFunc Tryz.prog Tryz.eqs Tryz.f78 Tryz.a78 = true := by kernel_rfl
theorem Tryz.w78 {first caps args : List AVal} {heap : List AObj} {K : AVal → List AObj → Prop} (N : Nat) (h : Ex (cfg Tryz.prog Tryz.eqs N) Tryz.c78 ⟨(first ++ args ++ caps) ++ List.replicate (17 - (first ++ args ++ caps).length) .undef, heap⟩ (kfun (cfg Tryz.prog Tryz.eqs N) [(6, none)] false heap.length K)) : Hs Tryz.prog Tryz.eqs (.func 78 first caps) args heap K := Hs.enter Tryz.eqs_plain N (fn := Tryz.f78) (by kernel_rfl) Tryz.a78_ok h
def Tryz.a79r0 : ACode := .region [⟨(some 5), .box (.t 2) [], none⟩,
  ⟨(some 6), .mv (.c (.bool false)), none⟩]
def Tryz.a79r1 : ACode := .region [⟨(some 7), .mv (.t 0), none⟩,
  ⟨(some 8), .len 0 (.t 7), none⟩,
  ⟨(some 9), .mv (.t 1), none⟩,
  ⟨(some 10), .bin .leq 0 (.t 8) (.t 9), none⟩,
  ⟨(some 11), .mv (.t 10), none⟩,
  ⟨(some 12), .mv (.t 0), (some (11, true))⟩,
  ⟨(some 13), .mkf 118 [] [(.t 5)], (some (11, true))⟩,
  ⟨(some 14), .call (.c (.func 117 [] [])) [(.t 12), (.t 13)], (some (11, true))⟩,
  ⟨(some 15), .un .not (.t 14), (some (11, true))⟩,
  ⟨(some 16), .pick (.t 11) (.t 15) (.c (.bool false)), none⟩,
  ⟨(some 6), .mv (.t 16), none⟩]
def Tryz.c79 : ACode := .seq (Tryz.a79r0) (.seq (Tryz.a79r1) (.ret))
def Tryz.a79 : AFunc := ⟨17, Tryz.c79, [(6, none)], false⟩
theorem Tryz.a79_ok : chkFunc Tryz.prog Tryz.eqs Tryz.f79 Tryz.a79 = true := by kernel_rfl
theorem Tryz.w79 {first caps args : List AVal} {heap : List AObj} {K : AVal → List AObj → Prop} (N : Nat) (h : Ex (cfg Tryz.prog Tryz.eqs N) Tryz.c79 ⟨(first ++ args ++ caps) ++ List.replicate (17 - (first ++ args ++ caps).length) .undef, heap⟩ (kfun (cfg Tryz.prog Tryz.eqs N) [(6, none)] false heap.length K)) : Hs Tryz.prog Tryz.eqs (.func 79 first caps) args heap K := Hs.enter Tryz.eqs_plain N (fn := Tryz.f79) (by kernel_rfl) Tryz.a79_ok h
def Tryz.a80r0 : ACode := .region [⟨(some 5), .box (.t 2) [], none⟩,
  ⟨(some 6), .mv (.c (.bool false)), none⟩]
def Tryz.a80r1 : ACode := .region [⟨(some 7), .mv (.t 0), none⟩,
  ⟨(some 8), .len 0 (.t 7), none⟩,
  ⟨(some 9), .mv (.t 1), none⟩,
  ⟨(some 10), .bin .leq 0 (.t 8) (.t 9), none⟩,
  ⟨(some 11), .mv (.t 10), none⟩,
  ⟨(some 12), .mv (.t 0), (some (11, true))⟩,
  ⟨(some 13), .mkf 119 [] [(.t 5)], (some (11, true))⟩,
  ⟨(some 14), .call (.c (.func 48 [] [])) [(.t 12), (.t 13)], (some (11, true))⟩,
  ⟨(some 15), .un .not (.t 14), (some (11, true))⟩,
  ⟨(some 16), .pick (.t 11) (.t 15) (.c (.bool false)), none⟩,
  ⟨(some 6), .mv (.t 16), none⟩]
def Tryz.c80 : ACode := .seq (Tryz.a80r0) (.seq (Tryz.a80r1) (.ret))
def Tryz.a80 : AFunc := ⟨17, Tryz.c80, [(6, none)], false⟩
theorem Tryz.a80_ok : chkFunc Tryz.prog Tryz.eqs Tryz.f80 Tryz.a80 = true := by kernel_rfl
theorem Tryz.w80 {first caps args : List AVal} {heap : List AObj} {K : AVal → List AObj → Prop} (N : Nat) (h : Ex (cfg Tryz.prog Tryz.eqs N) Tryz.c80 ⟨(first ++ args ++ caps) ++ List.replicate (17 - (first ++ args ++ caps).length) .undef, heap⟩ (kfun (cfg Tryz.prog Tryz.eqs N) [(6, none)] false heap.length K)) : Hs Tryz.prog Tryz.eqs (.func 80 first caps) args heap K := Hs.enter Tryz.eqs_plain N (fn := Tryz.f80) (by kernel_rfl) Tryz.a80_ok h
def Tryz.a81r0 : ACode := .region [⟨(some 2), .box (.t 0) [], none⟩,
  ⟨(some 3), .mv (.c (.bool false)), none⟩]
def Tryz.a81r1 : ACode := .region [⟨(some 4), .addo 0 (.t 2), none⟩,
  ⟨(some 5), .load false 1 (.t 4), none⟩,
  ⟨(some 6), .call (.c (.func 76 [] [])) [(.t 5), (.c (.int .i64 1)), (.c (.int .i64 64))], none⟩,
  ⟨(some 7), .mv (.t 6), none⟩,
  ⟨(some 8), .addo 1 (.t 2), (some (7, true))⟩,
  ⟨(some 9), .load false 1 (.t 8), (some (7, true))⟩,
  ⟨(some 10), .addo 5 (.t 1), (some (7, true))⟩,
  ⟨(some 11), .load false 1 (.t 10), (some (7, true))⟩,
  ⟨(some 12), .len 0 (.t 11), (some (7, true))⟩,
  ⟨(some 13), .call (.c (.func 76 [] [])) [(.t 9), (.c (.int .i64 0)), (.t 12)], (some (7, true))⟩,
  ⟨(some 14), .pick (.t 7) (.t 13) (.c (.bool false)), none⟩,
  ⟨(some 3), .mv (.t 14), none⟩]
def Tryz.c81 : ACode := .seq (Tryz.a81r0) (.seq (Tryz.a81r1) (.ret))
def Tryz.a81 : AFunc := ⟨15, Tryz.c81, [(3, none)], false⟩
theorem Tryz.a81_ok : chkFunc Tryz.prog Tryz.eqs Tryz.f81 Tryz.a81 = true := by kernel_rfl
theorem Tryz.w81 {first caps args : List AVal} {heap : List AObj} {K : AVal → List AObj → Prop} (N : Nat) (h : Ex (cfg Tryz.prog Tryz.eqs N) Tryz.c81 ⟨(first ++ args ++ caps) ++ List.replicate (15 - (first ++ args ++ caps).length) .undef, heap⟩ (kfun (cfg Tryz.prog Tryz.eqs N) [(3, none)] false heap.length K)) : Hs Tryz.prog Tryz.eqs (.func 81 first caps) args heap K := Hs.enter Tryz.eqs_plain N (fn := Tryz.f81) (by kernel_rfl) Tryz.a81_ok h
def Tryz.a82r0 : ACode := .region [⟨(some 2), .mv (.c (.bool false)), none⟩]
def Tryz.a82r1 : ACode := .region [⟨(some 6), .mv (.t 0), none⟩,
  ⟨(some 7), .len 1 (.t 6), none⟩,
  ⟨(some 8), .mv (.c (.int .i64 0)), none⟩]
def Tryz.a82r2 : ACode := .region [⟨(some 9), .bin .lss 0 (.t 8) (.t 7), none⟩]
def Tryz.a82r3 : ACode := .region [⟨(some 10), .mv (.t 8), none⟩,
  ⟨(some 3), .mv (.t 10), none⟩]
def Tryz.a82r4 : ACode := .region [⟨(some 11), .mv (.t 0), none⟩,
  ⟨(some 12), .mv (.t 3), none⟩,
  ⟨(some 13), .indexStr (.t 11) (.t 12), none⟩,
  ⟨(some 4), .mv (.t 13), none⟩]
def Tryz.a82r5 : ACode := .region [⟨(some 14), .mv (.t 4), none⟩,
  ⟨(some 15), .bin .leq 0 (.c (.int .u8 97)) (.t 14), none⟩,
  ⟨(some 16), .mv (.t 15), none⟩,
  ⟨(some 17), .mv (.t 4), (some (16, true))⟩,
  ⟨(some 18), .bin .leq 0 (.t 17) (.c (.int .u8 122)), (some (16, true))⟩,
  ⟨(some 19), .pick (.t 16) (.t 18) (.c (.bool false)), none⟩,
  ⟨(some 20), .mv (.t 19), none⟩,
  ⟨(some 21), .mv (.t 4), (some (20, false))⟩,
  ⟨(some 22), .bin .leq 0 (.c (.int .u8 65)) (.t 21), (some (20, false))⟩,
  ⟨(some 23), .mv (.t 22), (some (20, false))⟩,
  ⟨(some 24), .mv (.t 4), (some (23, true))⟩,
  ⟨(some 25), .bin .leq 0 (.t 24) (.c (.int .u8 90)), (some (23, true))⟩,
  ⟨(some 26), .pick (.t 23) (.t 25) (.c (.bool false)), (some (20, false))⟩,
  ⟨(some 27), .pick (.t 20) (.c (.bool true)) (.t 26), none⟩,
  ⟨(some 5), .mv (.t 27), none⟩]
def Tryz.a82r6 : ACode := .region [⟨(some 28), .mv (.t 5), none⟩,
  ⟨(some 29), .un .not (.t 28), none⟩,
  ⟨(some 30), .mv (.t 29), none⟩,
  ⟨(some 31), .mv (.t 3), (some (30, true))⟩,
  ⟨(some 32), .bin .eql 0 (.t 31) (.c (.int .i64 0)), (some (30, true))⟩,
  ⟨(some 33), .mv (.t 32), (some (30, true))⟩,
  ⟨(some 34), .mv (.t 4), (some (33, false))⟩,
  ⟨(some 35), .bin .neq 0 (.t 34) (.c (.int .u8 95)), (some (33, false))⟩,
  ⟨(some 36), .mv (.t 35), (some (33, false))⟩,
  ⟨(some 37), .mv (.t 4), (some (36, true))⟩,
  ⟨(some 38), .bin .lss 0 (.t 37) (.c (.int .u8 48)), (some (36, true))⟩,
  ⟨(some 39), .mv (.t 38), (some (36, true))⟩,
  ⟨(some 40), .mv (.t 4), (some (39, false))⟩,
  ⟨(some 41), .bin .gtr 0 (.t 40) (.c (.int .u8 57)), (some (39, false))⟩,
  ⟨(some 42), .pick (.t 39) (.c (.bool true)) (.t 41), (some (36, true))⟩,
  ⟨(some 43), .pick (.t 36) (.t 42) (.c (.bool false)), (some (33, false))⟩,
  ⟨(some 44), .pick (.t 33) (.c (.bool true)) (.t 43), (some (30, true))⟩,
  ⟨(some 45), .pick (.t 30) (.t 44) (.c (.bool false)), none⟩]
def Tryz.a82r7 : ACode := .region [⟨(some 2), .mv (.c (.bool false)), none⟩]
def Tryz.a82r8 : ACode := .region [⟨(some 46), .bin .add 0 (.t 8) (.c (.int .i64 1)), none⟩,
  ⟨(some 8), .mv (.t 46), none⟩]
def Tryz.a82l9 : ACode := .seq (Tryz.a82r2) (.seq (.cond (.t 9) (.skip) (.exit 0)) (.seq (.block 1 (.seq (Tryz.a82r3) (.seq (Tryz.a82r4) (.seq (Tryz.a82r5) (.seq (Tryz.a82r6) (.cond (.t 45) (.seq (Tryz.a82r7) (.ret)) (.skip))))))) (Tryz.a82r8)))
def Tryz.a82r10 : ACode := .region [⟨(some 47), .mv (.t 0), none⟩,
  ⟨(some 48), .len 1 (.t 47), none⟩,
  ⟨(some 49), .call (.c (.func 76 [] [])) [(.t 48), (.c (.int .i64 1)), (.c (.int .i64 20))], none⟩,
  ⟨(some 2), .mv (.t 49), none⟩]
def Tryz.c82 : ACode := .seq (Tryz.a82r0) (.seq (.seq (Tryz.a82r1) (.block 0 (.loop [0, 7, 8] Tryz.a82l9))) (.seq (Tryz.a82r10) (.ret)))
def Tryz.a82 : AFunc := ⟨50, Tryz.c82, [(2, none)], false⟩
theorem Tryz.a82_ok : chkFunc Tryz.prog Tryz.eqs Tryz.f82 Tryz.a82 = true := by kernel_rfl
theorem Tryz.w82 {first caps args : List AVal} {heap : List AObj} {K : AVal → List AObj → Prop} (N : Nat) (h : Ex (cfg Tryz.prog Tryz.eqs N) Tryz.c82 ⟨(first ++ args ++ caps) ++ List.replicate (50 - (first ++ args ++ caps).length) .undef, heap⟩ (kfun (cfg Tryz.prog Tryz.eqs N) [(2, none)] false heap.length K)) : Hs Tryz.prog Tryz.eqs (.func 82 first caps) args heap K := Hs.enter Tryz.eqs_plain N (fn := Tryz.f82) (by kernel_rfl) Tryz.a82_ok h
def Tryz.a83r0 : ACode := .region [⟨(some 5), .box (.t 2) [], none⟩,
  ⟨(some 6), .mv (.c (.bool false)), none⟩]
def Tryz.a83r1 : ACode := .region [⟨(some 7), .mv (.t 0), none⟩,
  ⟨(some 8), .len 0 (.t 7), none⟩,
  ⟨(some 9), .mv (.t 1), none⟩,
  ⟨(some 10), .bin .leq 0 (.t 8) (.t 9), none⟩,
  ⟨(some 11), .mv (.t 10), none⟩,
  ⟨(some 12), .mv (.t 0), (some (11, true))⟩,
  ⟨(some 13), .mkf 121 [] [(.t 5)], (some (11, true))⟩,
  ⟨(some 14), .call (.c (.func 120 [] [])) [(.t 12), (.t 13)], (some (11, true))⟩,
  ⟨(some 15), .un .not (.t 14), (some (11, true))⟩,
  ⟨(some 16), .pick (.t 11) (.t 15) (.c (.bool false)), none⟩,
  ⟨(some 6), .mv (.t 16), none⟩]
def Tryz.c83 : ACode := .seq (Tryz.a83r0) (.seq (Tryz.a83r1) (.ret))
def Tryz.a83 : AFunc := ⟨17, Tryz.c83, [(6, none)], false⟩
theorem Tryz.a83_ok : chkFunc Tryz.prog Tryz.eqs Tryz.f83 Tryz.a83 = true := by kernel_rfl
theorem Tryz.w83 {first caps args : List AVal} {heap : List AObj} {K : AVal → List AObj → Prop} (N : Nat) (h : Ex (cfg Tryz.prog Tryz.eqs N) Tryz.c83 ⟨(first ++ args ++ caps) ++ List.replicate (17 - (first ++ args ++ caps).length) .undef, heap⟩ (kfun (cfg Tryz.prog Tryz.eqs N) [(6, none)] false heap.length K)) : Hs Tryz.prog Tryz.eqs (.func 83 first caps) args heap K := Hs.enter Tryz.eqs_plain N (fn := Tryz.f83) (by kernel_rfl) Tryz.a83_ok h
def Tryz.a84r0 : ACode := .region [⟨(some 2), .box (.t 0) [], none⟩,
  ⟨(some 3), .box (.t 1) [], none⟩,
  ⟨(some 4), .mv (.c (.bool false)), none⟩]
def Tryz.a84r1 : ACode := .region [⟨(some 10), .addo 1 (.t 3), none⟩,
  ⟨(some 11), .load false 1 (.t 10), none⟩,
  ⟨(some 12), .call (.c (.func 122 [] [])) [(.t 11)], none⟩,
  ⟨(some 5), .alloc 9 (.agg [(.int .i64 0), (.int .i64 0), (.int .i64 0), (.bool false), (.bool false), (.bool false), (.bool false), (.bool false), (.bool false)]) [], none⟩,
  ⟨none, .store 9 (.t 5) (.t 12) [], none⟩]
def Tryz.a84r2 : ACode := .region [⟨(some 13), .load true 9 (.t 5), none⟩,
  ⟨(some 14), .build (.agg [(.int .i64 0), (.int .i64 0), (.int .i64 0), (.bool false), (.bool false), (.bool false), (.bool false), (.bool false), (.bool false)]) [], none⟩,
  ⟨(some 15), .bin .eql 19675 (.t 13) (.t 14), none⟩,
  ⟨(some 16), .mv (.t 15), none⟩,
  ⟨(some 17), .addo 0 (.t 3), (some (16, false))⟩,
  ⟨(some 18), .load false 1 (.t 17), (some (16, false))⟩,
  ⟨(some 19), .call (.c (.func 76 [] [])) [(.t 18), (.c (.int .i64 1)), (.c (.int .i64 1073741824))], (some (16, false))⟩,
  ⟨(some 20), .un .not (.t 19), (some (16, false))⟩,
  ⟨(some 21), .pick (.t 16) (.c (.bool true)) (.t 20), none⟩,
  ⟨(some 22), .mv (.t 21), none⟩,
  ⟨(some 23), .load true 19 (.t 2), (some (22, false))⟩,
  ⟨(some 24), .addo 0 (.t 5), (some (22, false))⟩,
  ⟨(some 25), .load false 1 (.t 24), (some (22, false))⟩,
  ⟨(some 26), .addo 2 (.t 3), (some (22, false))⟩,
  ⟨(some 27), .load false 1 (.t 26), (some (22, false))⟩,
  ⟨(some 28), .call (.c (.func 123 [] [])) [(.t 23), (.t 25), (.t 27)], (some (22, false))⟩,
  ⟨(some 29), .un .not (.t 28), (some (22, false))⟩,
  ⟨(some 30), .pick (.t 22) (.c (.bool true)) (.t 29), none⟩,
  ⟨(some 31), .mv (.t 30), none⟩,
  ⟨(some 32), .load true 19 (.t 2), (some (31, false))⟩,
  ⟨(some 33), .addo 1 (.t 5), (some (31, false))⟩,
  ⟨(some 34), .load false 1 (.t 33), (some (31, false))⟩,
  ⟨(some 35), .addo 3 (.t 3), (some (31, false))⟩,
  ⟨(some 36), .load false 1 (.t 35), (some (31, false))⟩,
  ⟨(some 37), .call (.c (.func 123 [] [])) [(.t 32), (.t 34), (.t 36)], (some (31, false))⟩,
  ⟨(some 38), .un .not (.t 37), (some (31, false))⟩,
  ⟨(some 39), .pick (.t 31) (.c (.bool true)) (.t 38), none⟩,
  ⟨(some 40), .mv (.t 39), none⟩,
  ⟨(some 41), .load true 19 (.t 2), (some (40, false))⟩,
  ⟨(some 42), .addo 2 (.t 5), (some (40, false))⟩,
  ⟨(some 43), .load false 1 (.t 42), (some (40, false))⟩,
  ⟨(some 44), .addo 4 (.t 3), (some (40, false))⟩,
  ⟨(some 45), .load false 1 (.t 44), (some (40, false))⟩,
  ⟨(some 46), .call (.c (.func 123 [] [])) [(.t 41), (.t 43), (.t 45)], (some (40, false))⟩,
  ⟨(some 47), .un .not (.t 46), (some (40, false))⟩,
  ⟨(some 48), .pick (.t 40) (.c (.bool true)) (.t 47), none⟩]
def Tryz.a84r3 : ACode := .region [⟨(some 4), .mv (.c (.bool false)), none⟩]
def Tryz.a84r4 : ACode := .region [⟨(some 49), .mkf 124 [] [(.t 2)], none⟩,
  ⟨(some 6), .mv (.t 49), none⟩]
def Tryz.a84r5 : ACode := .region [⟨(some 50), .addo 5 (.t 5), none⟩,
  ⟨(some 51), .load false 1 (.t 50), none⟩,
  ⟨(some 52), .mv (.t 51), none⟩,
  ⟨(some 53), .load true 19 (.t 2), (some (52, true))⟩,
  ⟨(some 54), .addo 13 (.t 3), (some (52, true))⟩,
  ⟨(some 55), .load true 3 (.t 54), (some (52, true))⟩,
  ⟨(some 56), .call (.c (.func 126 [] [])) [(.t 53), (.t 55)], (some (52, true))⟩,
  ⟨(some 57), .pick (.t 52) (.t 56) (.c (.bool false)), none⟩,
  ⟨(some 58), .mv (.t 57), none⟩,
  ⟨(some 59), .addo 5 (.t 5), (some (58, false))⟩,
  ⟨(some 60), .load false 1 (.t 59), (some (58, false))⟩,
  ⟨(some 61), .un .not (.t 60), (some (58, false))⟩,
  ⟨(some 62), .mv (.t 61), (some (58, false))⟩,
  ⟨(some 63), .addo 13 (.t 3), (some (62, true))⟩,
  ⟨(some 64), .addo 0 (.t 63), (some (62, true))⟩,
  ⟨(some 65), .load false 1 (.t 64), (some (62, true))⟩,
  ⟨(some 66), .bin .eql 0 (.t 65) (.c (.int .i64 0)), (some (62, true))⟩,
  ⟨(some 67), .pick (.t 62) (.t 66) (.c (.bool false)), (some (58, false))⟩,
  ⟨(some 68), .mv (.t 67), (some (58, false))⟩,
  ⟨(some 69), .addo 13 (.t 3), (some (68, true))⟩,
  ⟨(some 70), .addo 1 (.t 69), (some (68, true))⟩,
  ⟨(some 71), .load false 1 (.t 70), (some (68, true))⟩,
  ⟨(some 72), .len 0 (.t 71), (some (68, true))⟩,
  ⟨(some 73), .addo 13 (.t 3), (some (68, true))⟩,
  ⟨(some 74), .addo 2 (.t 73), (some (68, true))⟩,
  ⟨(some 75), .load false 1 (.t 74), (some (68, true))⟩,
  ⟨(some 76), .len 0 (.t 75), (some (68, true))⟩,
  ⟨(some 77), .bin .add 0 (.t 72) (.t 76), (some (68, true))⟩,
  ⟨(some 78), .bin .eql 0 (.t 77) (.c (.int .i64 0)), (some (68, true))⟩,
  ⟨(some 79), .pick (.t 68) (.t 78) (.c (.bool false)), (some (58, false))⟩,
  ⟨(some 80), .pick (.t 58) (.c (.bool true)) (.t 79), none⟩,
  ⟨(some 7), .mv (.t 80), none⟩]
def Tryz.a84r6 : ACode := .region [⟨(some 81), .mkf 127 [] [(.t 2)], none⟩,
  ⟨(some 8), .mv (.t 81), none⟩]
def Tryz.a84r7 : ACode := .region [⟨(some 82), .addo 6 (.t 5), none⟩,
  ⟨(some 83), .load false 1 (.t 82), none⟩,
  ⟨(some 84), .mv (.t 83), none⟩,
  ⟨(some 85), .addo 16 (.t 3), (some (84, true))⟩,
  ⟨(some 86), .load false 1 (.t 85), (some (84, true))⟩,
  ⟨(some 87), .load true 19 (.t 2), (some (84, true))⟩,
  ⟨(some 88), .mkf 125 [(.t 87)] [], (some (84, true))⟩,
  ⟨(some 89), .call (.c (.func 128 [] [])) [(.t 86), (.c (.int .i64 12)), (.t 88)], (some (84, true))⟩,
  ⟨(some 90), .pick (.t 84) (.t 89) (.c (.bool false)), none⟩,
  ⟨(some 91), .mv (.t 90), none⟩,
  ⟨(some 92), .addo 17 (.t 3), (some (91, true))⟩,
  ⟨(some 93), .load false 1 (.t 92), (some (91, true))⟩,
  ⟨(some 94), .mv (.t 8), (some (91, true))⟩,
  ⟨(some 95), .call (.c (.func 80 [] [])) [(.t 93), (.c (.int .i64 4)), (.t 94)], (some (91, true))⟩,
  ⟨(some 96), .pick (.t 91) (.t 95) (.c (.bool false)), none⟩,
  ⟨(some 97), .mv (.t 96), none⟩,
  ⟨(some 98), .addo 6 (.t 5), (some (97, false))⟩,
  ⟨(some 99), .load false 1 (.t 98), (some (97, false))⟩,
  ⟨(some 100), .un .not (.t 99), (some (97, false))⟩,
  ⟨(some 101), .mv (.t 100), (some (97, false))⟩,
  ⟨(some 102), .addo 16 (.t 3), (some (101, true))⟩,
  ⟨(some 103), .load false 1 (.t 102), (some (101, true))⟩,
  ⟨(some 104), .len 0 (.t 103), (some (101, true))⟩,
  ⟨(some 105), .addo 17 (.t 3), (some (101, true))⟩,
  ⟨(some 106), .load false 1 (.t 105), (some (101, true))⟩,
  ⟨(some 107), .len 0 (.t 106), (some (101, true))⟩,
  ⟨(some 108), .bin .add 0 (.t 104) (.t 107), (some (101, true))⟩,
  ⟨(some 109), .bin .eql 0 (.t 108) (.c (.int .i64 0)), (some (101, true))⟩,
  ⟨(some 110), .pick (.t 101) (.t 109) (.c (.bool false)), (some (97, false))⟩,
  ⟨(some 111), .pick (.t 97) (.c (.bool true)) (.t 110), none⟩,
  ⟨(some 9), .mv (.t 111), none⟩]
def Tryz.a84r8 : ACode := .region [⟨(some 112), .mv (.t 6), none⟩,
  ⟨(some 113), .addo 3 (.t 5), none⟩,
  ⟨(some 114), .load false 1 (.t 113), none⟩,
  ⟨(some 115), .addo 5 (.t 3), none⟩,
  ⟨(some 116), .load true 4 (.t 115), none⟩,
  ⟨(some 117), .call (.t 112) [(.t 114), (.t 116)], none⟩,
  ⟨(some 118), .mv (.t 117), none⟩,
  ⟨(some 119), .mv (.t 6), (some (118, true))⟩,
  ⟨(some 120), .addo 4 (.t 5), (some (118, true))⟩,
  ⟨(some 121), .load false 1 (.t 120), (some (118, true))⟩,
  ⟨(some 122), .addo 9 (.t 3), (some (118, true))⟩,
  ⟨(some 123), .load true 4 (.t 122), (some (118, true))⟩,
  ⟨(some 124), .call (.t 119) [(.t 121), (.t 123)], (some (118, true))⟩,
  ⟨(some 125), .pick (.t 118) (.t 124) (.c (.bool false)), none⟩,
  ⟨(some 126), .mv (.t 125), none⟩,
  ⟨(some 127), .mv (.t 7), (some (126, true))⟩,
  ⟨(some 128), .pick (.t 126) (.t 127) (.c (.bool false)), none⟩,
  ⟨(some 129), .mv (.t 128), none⟩,
  ⟨(some 130), .mv (.t 9), (some (129, true))⟩,
  ⟨(some 131), .pick (.t 129) (.t 130) (.c (.bool false)), none⟩,
  ⟨(some 132), .mv (.t 131), none⟩,
  ⟨(some 133), .addo 7 (.t 5), (some (132, true))⟩,
  ⟨(some 134), .load false 1 (.t 133), (some (132, true))⟩,
  ⟨(some 135), .mv (.t 134), (some (132, true))⟩,
  ⟨(some 136), .addo 18 (.t 3), (some (135, false))⟩,
  ⟨(some 137), .load false 1 (.t 136), (some (135, false))⟩,
  ⟨(some 138), .len 0 (.t 137), (some (135, false))⟩,
  ⟨(some 139), .bin .eql 0 (.t 138) (.c (.int .i64 0)), (some (135, false))⟩,
  ⟨(some 140), .pick (.t 135) (.c (.bool true)) (.t 139), (some (132, true))⟩,
  ⟨(some 141), .pick (.t 132) (.t 140) (.c (.bool false)), none⟩,
  ⟨(some 142), .mv (.t 141), none⟩,
  ⟨(some 143), .addo 8 (.t 5), (some (142, true))⟩,
  ⟨(some 144), .load false 1 (.t 143), (some (142, true))⟩,
  ⟨(some 145), .mv (.t 144), (some (142, true))⟩,
  ⟨(some 146), .addo 19 (.t 3), (some (145, false))⟩,
  ⟨(some 147), .load false 1 (.t 146), (some (145, false))⟩,
  ⟨(some 148), .len 0 (.t 147), (some (145, false))⟩,
  ⟨(some 149), .bin .eql 0 (.t 148) (.c (.int .i64 0)), (some (145, false))⟩,
  ⟨(some 150), .pick (.t 145) (.c (.bool true)) (.t 149), (some (142, true))⟩,
  ⟨(some 151), .pick (.t 142) (.t 150) (.c (.bool false)), none⟩,
  ⟨(some 4), .mv (.t 151), none⟩]
def Tryz.c84 : ACode := .seq (Tryz.a84r0) (.seq (Tryz.a84r1) (.seq (.seq (Tryz.a84r2) (.cond (.t 48) (.seq (Tryz.a84r3) (.ret)) (.skip))) (.seq (Tryz.a84r4) (.seq (Tryz.a84r5) (.seq (Tryz.a84r6) (.seq (Tryz.a84r7) (.seq (Tryz.a84r8) (.ret))))))))
def Tryz.a84 : AFunc := ⟨152, Tryz.c84, [(4, none)], false⟩
theorem Tryz.a84_ok : chkFunc Tryz.prog Tryz.eqs Tryz.f84 Tryz.a84 = true := by kernel_rfl
theorem Tryz.w84 {first caps args : List AVal} {heap : List AObj} {K : AVal → List AObj → Prop} (N : Nat) (h : Ex (cfg Tryz.prog Tryz.eqs N) Tryz.c84 ⟨(first ++ args ++ caps) ++ List.replicate (152 - (first ++ args ++ caps).length) .undef, heap⟩ (kfun (cfg Tryz.prog Tryz.eqs N) [(4, none)] false heap.length K)) : Hs Tryz.prog Tryz.eqs (.func 84 first caps) args heap K := Hs.enter Tryz.eqs_plain N (fn := Tryz.f84) (by kernel_rfl) Tryz.a84_ok h
def Tryz.a89r0 : ACode := .region [⟨(some 4), .mv (.c (.int .i64 0)), none⟩]
def Tryz.a89r1 : ACode := .region [⟨(some 6), .mv (.t 0), none⟩,
  ⟨(some 7), .len 0 (.t 6), none⟩,
  ⟨(some 8), .mv (.c (.int .i64 0)), none⟩]
def Tryz.a89r2 : ACode := .region [⟨(some 9), .bin .lss 0 (.t 8) (.t 7), none⟩]
def Tryz.a89r3 : ACode := .region [⟨(some 10), .mv (.t 8), none⟩,
  ⟨(some 5), .mv (.t 10), none⟩]
def Tryz.a89r4 : ACode := .region [⟨(some 11), .mv (.t 1), none⟩,
  ⟨(some 12), .mv (.t 0), none⟩,
  ⟨(some 13), .mv (.t 5), none⟩,
  ⟨(some 14), .idx 1 (.t 12) (.t 13), none⟩,
  ⟨(some 15), .load false 1 (.t 14), none⟩,
  ⟨(some 16), .call (.t 11) [(.t 15)], none⟩]
def Tryz.a89r5 : ACode := .region [⟨(some 17), .mv (.t 5), none⟩,
  ⟨(some 4), .mv (.t 17), none⟩]
def Tryz.a89r6 : ACode := .region [⟨(some 18), .bin .add 0 (.t 8) (.c (.int .i64 1)), none⟩,
  ⟨(some 8), .mv (.t 18), none⟩]
def Tryz.a89l7 : ACode := .seq (Tryz.a89r2) (.seq (.cond (.t 9) (.skip) (.exit 0)) (.seq (.block 1 (.seq (Tryz.a89r3) (.seq (Tryz.a89r4) (.cond (.t 16) (.seq (Tryz.a89r5) (.ret)) (.skip))))) (Tryz.a89r6)))
def Tryz.a89r8 : ACode := .region [⟨(some 4), .mv (.c (.int .i64 (-1))), none⟩]
def Tryz.c89 : ACode := .seq (Tryz.a89r0) (.seq (.seq (Tryz.a89r1) (.block 0 (.loop [0, 1, 7, 8] Tryz.a89l7))) (.seq (Tryz.a89r8) (.ret)))
def Tryz.a89 : AFunc := ⟨19, Tryz.c89, [(4, none)], false⟩
theorem Tryz.a89_ok : chkFunc Tryz.prog Tryz.eqs Tryz.f89 Tryz.a89 = true := by kernel_rfl
theorem Tryz.w89 {first caps args : List AVal} {heap : List AObj} {K : AVal → List AObj → Prop} (N : Nat) (h : Ex (cfg Tryz.prog Tryz.eqs N) Tryz.c89 ⟨(first ++ args ++ caps) ++ List.replicate (19 - (first ++ args ++ caps).length) .undef, heap⟩ (kfun (cfg Tryz.prog Tryz.eqs N) [(4, none)] false heap.length K)) : Hs Tryz.prog Tryz.eqs (.func 89 first caps) args heap K := Hs.enter Tryz.eqs_plain N (fn := Tryz.f89) (by kernel_rfl) Tryz.a89_ok h
def Tryz.a90r0 : ACode := .region [⟨(some 8), .mv (.c (.bool true)), none⟩]
def Tryz.a90r1 : ACode := .region [⟨(some 9), .mv (.c (.bool true)), none⟩]
def Tryz.a90r2 : ACode := .region [⟨(some 19), .mv (.t 2), none⟩,
  ⟨(some 20), .mv (.t 1), none⟩,
  ⟨(some 21), .bin .sub 0 (.t 19) (.t 20), none⟩,
  ⟨(some 10), .mv (.t 21), none⟩]
def Tryz.a90r3 : ACode := .region [⟨(some 22), .mv (.t 10), none⟩,
  ⟨(some 23), .bin .leq 0 (.t 22) (.c (.int .i64 12)), none⟩]
def Tryz.a90r4 : ACode := .region [⟨(some 24), .mv (.t 0), none⟩,
  ⟨(some 25), .mv (.t 1), none⟩,
  ⟨(some 26), .mv (.t 2), none⟩,
  ⟨(some 27), .call (.c (.func 131 [] [])) [(.t 24), (.t 25), (.t 26)], none⟩]
def Tryz.a90r5 : ACode := .region [⟨(some 28), .mv (.t 3), none⟩,
  ⟨(some 29), .bin .eql 0 (.t 28) (.c (.int .i64 0)), none⟩]
def Tryz.a90r6 : ACode := .region [⟨(some 30), .mv (.t 0), none⟩,
  ⟨(some 31), .mv (.t 1), none⟩,
  ⟨(some 32), .mv (.t 2), none⟩,
  ⟨(some 33), .call (.c (.func 132 [] [])) [(.t 30), (.t 31), (.t 32)], none⟩]
def Tryz.a90r7 : ACode := .region [⟨(some 34), .mv (.t 8), none⟩,
  ⟨(some 35), .un .not (.t 34), none⟩]
def Tryz.a90r8 : ACode := .region [⟨(some 36), .mv (.t 0), none⟩,
  ⟨(some 37), .mv (.t 1), none⟩,
  ⟨(some 38), .mv (.t 2), none⟩,
  ⟨(some 39), .call (.c (.func 133 [] [])) [(.t 36), (.t 37), (.t 38)], none⟩]
def Tryz.a90r9 : ACode := .region [⟨(some 40), .mv (.t 3), none⟩,
  ⟨(some 41), .bin .sub 0 (.t 40) (.c (.int .i64 1)), none⟩,
  ⟨(some 3), .mv (.t 41), none⟩]
def Tryz.a90r10 : ACode := .region [⟨(some 43), .mv (.t 0), none⟩,
  ⟨(some 44), .mv (.t 1), none⟩,
  ⟨(some 45), .mv (.t 2), none⟩,
  ⟨(some 46), .call (.c (.func 134 [] [])) [(.t 43), (.t 44), (.t 45)], none⟩,
  ⟨(some 42), .mv (.t 46), none⟩,
  ⟨(some 47), .ext 0 (.t 42), none⟩,
  ⟨(some 48), .ext 1 (.t 42), none⟩,
  ⟨(some 11), .mv (.t 47), none⟩,
  ⟨(some 12), .mv (.t 48), none⟩]
def Tryz.a90r11 : ACode := .region [⟨(some 49), .mv (.t 12), none⟩,
  ⟨(some 50), .bin .eql 0 (.t 49) (.c (.int .i64 2)), none⟩]
def Tryz.a90r12 : ACode := .region [⟨(some 51), .mv (.t 0), none⟩,
  ⟨(some 52), .mv (.t 1), none⟩,
  ⟨(some 53), .mv (.t 2), none⟩,
  ⟨(some 54), .call (.c (.func 135 [] [])) [(.t 51), (.t 52), (.t 53)], none⟩]
def Tryz.a90r13 : ACode := .region [⟨(some 55), .mv (.t 2), none⟩,
  ⟨(some 56), .bin .sub 0 (.t 55) (.c (.int .i64 1)), none⟩,
  ⟨(some 57), .mv (.t 11), none⟩,
  ⟨(some 58), .mv (.t 1), none⟩,
  ⟨(some 59), .bin .sub 0 (.t 57) (.t 58), none⟩,
  ⟨(some 60), .bin .sub 0 (.t 56) (.t 59), none⟩,
  ⟨(some 11), .mv (.t 60), none⟩]
def Tryz.a90r14 : ACode := .region [⟨(some 12), .mv (.c (.int .i64 1)), none⟩]
def Tryz.a90r15 : ACode := .region [⟨(some 61), .mv (.t 8), none⟩,
  ⟨(some 62), .mv (.t 61), none⟩,
  ⟨(some 63), .mv (.t 9), (some (62, true))⟩,
  ⟨(some 64), .pick (.t 62) (.t 63) (.c (.bool false)), none⟩,
  ⟨(some 65), .mv (.t 64), none⟩,
  ⟨(some 66), .mv (.t 12), (some (65, true))⟩,
  ⟨(some 67), .bin .eql 0 (.t 66) (.c (.int .i64 1)), (some (65, true))⟩,
  ⟨(some 68), .pick (.t 65) (.t 67) (.c (.bool false)), none⟩]
def Tryz.a90r16 : ACode := .region [⟨(some 69), .mv (.t 0), none⟩,
  ⟨(some 70), .mv (.t 1), none⟩,
  ⟨(some 71), .mv (.t 2), none⟩,
  ⟨(some 72), .call (.c (.func 136 [] [])) [(.t 69), (.t 70), (.t 71)], none⟩]
def Tryz.a90r17 : ACode := .draw [⟨0, ⟨(some 73), .mv (.t 1), none⟩, []⟩,
  ⟨1, ⟨(some 74), .bin .gtr 0 (.t 73) (.c (.int .i64 0)), none⟩, []⟩,
  ⟨2, ⟨(some 75), .mv (.t 74), none⟩, []⟩,
  ⟨3, ⟨(some 76), .mv (.t 0), (some (75, true))⟩, []⟩,
  ⟨4, ⟨(some 77), .mv (.t 1), (some (75, true))⟩, []⟩,
  ⟨5, ⟨(some 78), .bin .sub 0 (.t 77) (.c (.int .i64 1)), (some (75, true))⟩, []⟩,
  ⟨6, ⟨(some 79), .idx 1 (.t 76) (.t 78), (some (75, true))⟩, []⟩,
  ⟨7, ⟨(some 80), .load false 1 (.t 79), (some (75, true))⟩, []⟩,
  ⟨8, ⟨(some 81), .mv (.t 0), (some (75, true))⟩, []⟩,
  ⟨9, ⟨(some 82), .mv (.t 11), (some (75, true))⟩, []⟩,
  ⟨10, ⟨(some 83), .idx 1 (.t 81) (.t 82), (some (75, true))⟩, []⟩,
  ⟨11, ⟨(some 84), .load false 1 (.t 83), (some (75, true))⟩, []⟩,
  ⟨12, ⟨(some 85), .call (.c (.func 137 [] [])) [(.t 80), (.t 84)], (some (75, true))⟩, []⟩,
  ⟨13, ⟨(some 86), .un .not (.t 85), (some (75, true))⟩, []⟩,
  ⟨14, ⟨(some 87), .pick (.t 75) (.t 86) (.c (.bool false)), none⟩, []⟩] [[], [0], [0, 1], [0, 1, 2], [0, 1, 2], [0, 1, 2, 4], [0, 1, 2, 3, 4, 5], [0, 1, 2, 3, 4, 5, 6], [0, 1, 2], [0, 1, 2], [0, 1, 2, 8, 9], [0, 1, 2, 8, 9, 10], [0, 1, 2, 3, 4, 5, 6, 7, 8, 9, 10, 11], [0, 1, 2, 3, 4, 5, 6, 7, 8, 9, 10, 11, 12], [0, 1, 2, 3, 4, 5, 6, 7, 8, 9, 10, 11, 12, 13]]
def Tryz.a90r18 : ACode := .region [⟨(some 88), .mv (.t 0), none⟩,
  ⟨(some 89), .mv (.t 1), none⟩,
  ⟨(some 90), .mv (.t 2), none⟩,
  ⟨(some 91), .mv (.t 11), none⟩,
  ⟨(some 92), .call (.c (.func 138 [] [])) [(.t 88), (.t 89), (.t 90), (.t 91)], none⟩,
  ⟨(some 13), .mv (.t 92), none⟩]
def Tryz.a90r19 : ACode := .region [⟨(some 93), .mv (.t 13), none⟩,
  ⟨(some 1), .mv (.t 93), none⟩]
def Tryz.a90r20 : ACode := .region [⟨(some 95), .mv (.t 0), none⟩,
  ⟨(some 96), .mv (.t 1), none⟩,
  ⟨(some 97), .mv (.t 2), none⟩,
  ⟨(some 98), .mv (.t 11), none⟩,
  ⟨(some 99), .call (.c (.func 139 [] [])) [(.t 95), (.t 96), (.t 97), (.t 98)], none⟩,
  ⟨(some 94), .mv (.t 99), none⟩,
  ⟨(some 100), .ext 0 (.t 94), none⟩,
  ⟨(some 101), .ext 1 (.t 94), none⟩,
  ⟨(some 14), .mv (.t 100), none⟩,
  ⟨(some 15), .mv (.t 101), none⟩]
def Tryz.a90r21 : ACode := .region [⟨(some 102), .mv (.t 15), none⟩,
  ⟨(some 9), .mv (.t 102), none⟩]
def Tryz.a90r22 : ACode := .region [⟨(some 103), .mv (.t 14), none⟩,
  ⟨(some 104), .mv (.t 1), none⟩,
  ⟨(some 105), .bin .sub 0 (.t 103) (.t 104), none⟩,
  ⟨(some 106), .mv (.t 2), none⟩,
  ⟨(some 107), .mv (.t 14), none⟩,
  ⟨(some 108), .bin .sub 0 (.t 106) (.t 107), none⟩,
  ⟨(some 16), .mv (.t 105), none⟩,
  ⟨(some 17), .mv (.t 108), none⟩]
def Tryz.a90r23 : ACode := .region [⟨(some 109), .mv (.t 10), none⟩,
  ⟨(some 110), .bin .quo 0 (.t 109) (.c (.int .i64 8)), none⟩,
  ⟨(some 18), .mv (.t 110), none⟩]
def Tryz.a90r24 : ACode := .region [⟨(some 111), .mv (.t 16), none⟩,
  ⟨(some 112), .mv (.t 17), none⟩,
  ⟨(some 113), .bin .lss 0 (.t 111) (.t 112), none⟩]
def Tryz.a90r25 : ACode := .region [⟨(some 114), .mv (.t 16), none⟩,
  ⟨(some 115), .mv (.t 18), none⟩,
  ⟨(some 116), .bin .geq 0 (.t 114) (.t 115), none⟩,
  ⟨(some 8), .mv (.t 116), none⟩]
def Tryz.a90r26 : ACode := .region [⟨(some 117), .mv (.t 0), none⟩,
  ⟨(some 118), .mv (.t 1), none⟩,
  ⟨(some 119), .mv (.t 14), none⟩,
  ⟨(some 120), .mv (.t 3), none⟩,
  ⟨(some 121), .call (.c (.func 90 [] [])) [(.t 117), (.t 118), (.t 119), (.t 120)], none⟩]
def Tryz.a90r27 : ACode := .region [⟨(some 122), .mv (.t 14), none⟩,
  ⟨(some 123), .bin .add 0 (.t 122) (.c (.int .i64 1)), none⟩,
  ⟨(some 1), .mv (.t 123), none⟩]
def Tryz.a90r28 : ACode := .region [⟨(some 124), .mv (.t 17), none⟩,
  ⟨(some 125), .mv (.t 18), none⟩,
  ⟨(some 126), .bin .geq 0 (.t 124) (.t 125), none⟩,
  ⟨(some 8), .mv (.t 126), none⟩]
def Tryz.a90r29 : ACode := .region [⟨(some 127), .mv (.t 0), none⟩,
  ⟨(some 128), .mv (.t 14), none⟩,
  ⟨(some 129), .bin .add 0 (.t 128) (.c (.int .i64 1)), none⟩,
  ⟨(some 130), .mv (.t 2), none⟩,
  ⟨(some 131), .mv (.t 3), none⟩,
  ⟨(some 132), .call (.c (.func 90 [] [])) [(.t 127), (.t 129), (.t 130), (.t 131)], none⟩]
def Tryz.a90r30 : ACode := .region [⟨(some 133), .mv (.t 14), none⟩,
  ⟨(some 2), .mv (.t 133), none⟩]
def Tryz.a90l31 : ACode := .block 1 (.seq (Tryz.a90r2) (.seq (.seq (Tryz.a90r3) (.cond (.t 23) (.seq (Tryz.a90r4) (.ret)) (.skip))) (.seq (.seq (Tryz.a90r5) (.cond (.t 29) (.seq (Tryz.a90r6) (.ret)) (.skip))) (.seq (.seq (Tryz.a90r7) (.cond (.t 35) (.seq (Tryz.a90r8) (Tryz.a90r9)) (.skip))) (.seq (Tryz.a90r10) (.seq (.seq (Tryz.a90r11) (.cond (.t 50) (.seq (Tryz.a90r12) (.seq (Tryz.a90r13) (Tryz.a90r14))) (.skip))) (.seq (.seq (Tryz.a90r15) (.cond (.t 68) (.seq (Tryz.a90r16) (.cond (.t 72) (.ret) (.skip))) (.skip))) (.seq (.seq (Tryz.a90r17) (.cond (.t 87) (.seq (Tryz.a90r18) (.seq (Tryz.a90r19) (.exit 1))) (.skip))) (.seq (Tryz.a90r20) (.seq (Tryz.a90r21) (.seq (Tryz.a90r22) (.seq (Tryz.a90r23) (.seq (Tryz.a90r24) (.cond (.t 113) (.seq (Tryz.a90r25) (.seq (Tryz.a90r26) (Tryz.a90r27))) (.seq (Tryz.a90r28) (.seq (Tryz.a90r29) (Tryz.a90r30)))))))))))))))))
def Tryz.c90 : ACode := .seq (Tryz.a90r0) (.seq (Tryz.a90r1) (.block 0 (.loop [0, 1, 2, 3, 8, 9] Tryz.a90l31)))
def Tryz.a90 : AFunc := ⟨134, Tryz.c90, [], false⟩
theorem Tryz.a90_ok : chkFunc Tryz.prog Tryz.eqs Tryz.f90 Tryz.a90 = true := by kernel_rfl
theorem Tryz.w90 {first caps args : List AVal} {heap : List AObj} {K : AVal → List AObj → Prop} (N : Nat) (h : Ex (cfg Tryz.prog Tryz.eqs N) Tryz.c90 ⟨(first ++ args ++ caps) ++ List.replicate (134 - (first ++ args ++ caps).length) .undef, heap⟩ (kfun (cfg Tryz.prog Tryz.eqs N) [] false heap.length K)) : Hs Tryz.prog Tryz.eqs (.func 90 first caps) args heap K := Hs.enter Tryz.eqs_plain N (fn := Tryz.f90) (by kernel_rfl) Tryz.a90_ok h
def Tryz.a91r0 : ACode := .region [⟨(some 2), .mv (.c (.int .i64 0)), none⟩]
def Tryz.a91r1 : ACode := .region [⟨(some 3), .mv (.t 0), none⟩,
  ⟨(some 4), .conv .u32 (.t 3), none⟩,
  ⟨(some 5), .call (.c (.func 140 [] [])) [(.t 4)], none⟩,
  ⟨(some 2), .mv (.t 5), none⟩]
def Tryz.a91r2 : ACode := .region [⟨(some 6), .mv (.t 0), none⟩,
  ⟨(some 7), .call (.c (.func 141 [] [])) [(.t 6)], none⟩,
  ⟨(some 2), .mv (.t 7), none⟩]
def Tryz.c91 : ACode := .seq (Tryz.a91r0) (.seq (.cond (.c (.bool false)) (.seq (Tryz.a91r1) (.ret)) (.skip)) (.seq (Tryz.a91r2) (.ret)))
def Tryz.a91 : AFunc := ⟨8, Tryz.c91, [(2, none)], false⟩
theorem Tryz.a91_ok : chkFunc Tryz.prog Tryz.eqs Tryz.f91 Tryz.a91 = true := by kernel_rfl
theorem Tryz.w91 {first caps args : List AVal} {heap : List AObj} {K : AVal → List AObj → Prop} (N : Nat) (h : Ex (cfg Tryz.prog Tryz.eqs N) Tryz.c91 ⟨(first ++ args ++ caps) ++ List.replicate (8 - (first ++ args ++ caps).length) .undef, heap⟩ (kfun (cfg Tryz.prog Tryz.eqs N) [(2, none)] false heap.length K)) : Hs Tryz.prog Tryz.eqs (.func 91 first caps) args heap K := Hs.enter Tryz.eqs_plain N (fn := Tryz.f91) (by kernel_rfl) Tryz.a91_ok h
def Tryz.a92r0 : ACode := .region [⟨(some 5), .box (.t 2) [], none⟩,
  ⟨(some 6), .mv (.c (.bool false)), none⟩]
def Tryz.a92r1 : ACode := .region [⟨(some 7), .mv (.t 0), none⟩,
  ⟨(some 8), .len 0 (.t 7), none⟩,
  ⟨(some 9), .mv (.t 1), none⟩,
  ⟨(some 10), .bin .leq 0 (.t 8) (.t 9), none⟩,
  ⟨(some 11), .mv (.t 10), none⟩,
  ⟨(some 12), .mv (.t 0), (some (11, true))⟩,
  ⟨(some 13), .mkf 143 [] [(.t 5)], (some (11, true))⟩,
  ⟨(some 14), .call (.c (.func 142 [] [])) [(.t 12), (.t 13)], (some (11, true))⟩,
  ⟨(some 15), .un .not (.t 14), (some (11, true))⟩,
  ⟨(some 16), .pick (.t 11) (.t 15) (.c (.bool false)), none⟩,
  ⟨(some 6), .mv (.t 16), none⟩]
def Tryz.c92 : ACode := .seq (Tryz.a92r0) (.seq (Tryz.a92r1) (.ret))
def Tryz.a92 : AFunc := ⟨17, Tryz.c92, [(6, none)], false⟩
theorem Tryz.a92_ok : chkFunc Tryz.prog Tryz.eqs Tryz.f92 Tryz.a92 = true := by kernel_rfl
theorem Tryz.w92 {first caps args : List AVal} {heap : List AObj} {K : AVal → List AObj → Prop} (N : Nat) (h : Ex (cfg Tryz.prog Tryz.eqs N) Tryz.c92 ⟨(first ++ args ++ caps) ++ List.replicate (17 - (first ++ args ++ caps).length) .undef, heap⟩ (kfun (cfg Tryz.prog Tryz.eqs N) [(6, none)] false heap.length K)) : Hs Tryz.prog Tryz.eqs (.func 92 first caps) args heap K := Hs.enter Tryz.eqs_plain N (fn := Tryz.f92) (by kernel_rfl) Tryz.a92_ok h
def Tryz.a93r0 : ACode := .region [⟨(some 3), .box (.t 0) [], none⟩,
  ⟨(some 4), .mv (.c (.bool false)), none⟩]
def Tryz.a93r1 : ACode := .region [⟨(some 6), .addo 0 (.t 3), none⟩,
  ⟨(some 7), .load false 1 (.t 6), none⟩,
  ⟨(some 8), .load false 1 (.t 1), none⟩,
  ⟨(some 9), .bin .add 0 (.t 8) (.c (.int .i64 1)), none⟩,
  ⟨(some 10), .call (.c (.func 76 [] [])) [(.t 7), (.t 9), (.c (.int .i64 1073741824))], none⟩,
  ⟨(some 11), .mv (.t 10), none⟩,
  ⟨(some 12), .addo 1 (.t 3), (some (11, true))⟩,
  ⟨(some 13), .load false 1 (.t 12), (some (11, true))⟩,
  ⟨(some 14), .addo 0 (.t 2), (some (11, true))⟩,
  ⟨(some 15), .addo 6 (.t 14), (some (11, true))⟩,
  ⟨(some 16), .load false 1 (.t 15), (some (11, true))⟩,
  ⟨(some 17), .bin .sub 0 (.t 16) (.c (.int .i64 1)), (some (11, true))⟩,
  ⟨(some 18), .call (.c (.func 76 [] [])) [(.t 13), (.c (.int .i64 0)), (.t 17)], (some (11, true))⟩,
  ⟨(some 19), .pick (.t 11) (.t 18) (.c (.bool false)), none⟩,
  ⟨(some 20), .mv (.t 19), none⟩,
  ⟨(some 21), .addo 2 (.t 3), (some (20, true))⟩,
  ⟨(some 22), .load false 1 (.t 21), (some (20, true))⟩,
  ⟨(some 23), .addo 0 (.t 2), (some (20, true))⟩,
  ⟨(some 24), .addo 5 (.t 23), (some (20, true))⟩,
  ⟨(some 25), .load false 1 (.t 24), (some (20, true))⟩,
  ⟨(some 26), .bin .sub 0 (.t 25) (.c (.int .i64 1)), (some (20, true))⟩,
  ⟨(some 27), .call (.c (.func 76 [] [])) [(.t 22), (.c (.int .i64 0)), (.t 26)], (some (20, true))⟩,
  ⟨(some 28), .pick (.t 20) (.t 27) (.c (.bool false)), none⟩,
  ⟨(some 29), .mv (.t 28), none⟩,
  ⟨(some 30), .addo 3 (.t 3), (some (29, true))⟩,
  ⟨(some 31), .load false 1 (.t 30), (some (29, true))⟩,
  ⟨(some 32), .call (.c (.func 78 [] [])) [(.t 31), (.c (.int .i64 12)), (.c (.func 75 [] []))], (some (29, true))⟩,
  ⟨(some 33), .pick (.t 29) (.t 32) (.c (.bool false)), none⟩,
  ⟨(some 34), .mv (.t 33), none⟩,
  ⟨(some 35), .addo 4 (.t 3), (some (34, true))⟩,
  ⟨(some 36), .load false 1 (.t 35), (some (34, true))⟩,
  ⟨(some 37), .call (.c (.func 78 [] [])) [(.t 36), (.c (.int .i64 4)), (.c (.func 75 [] []))], (some (34, true))⟩,
  ⟨(some 38), .pick (.t 34) (.t 37) (.c (.bool false)), none⟩,
  ⟨(some 5), .mv (.t 38), none⟩]
def Tryz.a93r2 : ACode := .region [⟨(some 39), .addo 0 (.t 3), none⟩,
  ⟨(some 40), .load false 1 (.t 39), none⟩,
  ⟨none, .store 1 (.t 1) (.t 40) [], none⟩]
def Tryz.a93r3 : ACode := .region [⟨(some 41), .mv (.t 5), none⟩,
  ⟨(some 4), .mv (.t 41), none⟩]
def Tryz.c93 : ACode := .seq (Tryz.a93r0) (.seq (Tryz.a93r1) (.seq (Tryz.a93r2) (.seq (Tryz.a93r3) (.ret))))
def Tryz.a93 : AFunc := ⟨42, Tryz.c93, [(4, none)], false⟩
theorem Tryz.a93_ok : chkFunc Tryz.prog Tryz.eqs Tryz.f93 Tryz.a93 = true := by kernel_rfl
theorem Tryz.w93 {first caps args : List AVal} {heap : List AObj} {K : AVal → List AObj → Prop} (N : Nat) (h : Ex (cfg Tryz.prog Tryz.eqs N) Tryz.c93 ⟨(first ++ args ++ caps) ++ List.replicate (42 - (first ++ args ++ caps).length) .undef, heap⟩ (kfun (cfg Tryz.prog Tryz.eqs N) [(4, none)] false heap.length K)) : Hs Tryz.prog Tryz.eqs (.func 93 first caps) args heap K := Hs.enter Tryz.eqs_plain N (fn := Tryz.f93) (by kernel_rfl) Tryz.a93_ok h
def Tryz.a94r0 : ACode := .region [⟨(some 4), .mv (.c (.bool false)), none⟩]
def Tryz.a94r1 : ACode := .region [⟨(some 6), .mv (.t 0), none⟩,
  ⟨(some 7), .len 0 (.t 6), none⟩,
  ⟨(some 8), .mv (.t 1), none⟩,
  ⟨(some 9), .len 0 (.t 8), none⟩,
  ⟨(some 10), .bin .neq 0 (.t 7) (.t 9), none⟩]
def Tryz.a94r2 : ACode := .region [⟨(some 4), .mv (.c (.bool false)), none⟩]
def Tryz.a94r3 : ACode := .region [⟨(some 11), .mv (.t 0), none⟩,
  ⟨(some 12), .len 0 (.t 11), none⟩,
  ⟨(some 13), .mv (.c (.int .i64 0)), none⟩]
def Tryz.a94r4 : ACode := .region [⟨(some 14), .bin .lss 0 (.t 13) (.t 12), none⟩]
def Tryz.a94r5 : ACode := .region [⟨(some 15), .mv (.t 13), none⟩,
  ⟨(some 5), .mv (.t 15), none⟩]
def Tryz.a94r6 : ACode := .draw [⟨0, ⟨(some 16), .mv (.t 0), none⟩, []⟩,
  ⟨1, ⟨(some 17), .mv (.t 5), none⟩, []⟩,
  ⟨2, ⟨(some 18), .idx 3 (.t 16) (.t 17), none⟩, []⟩,
  ⟨3, ⟨(some 19), .load true 3 (.t 18), none⟩, []⟩,
  ⟨4, ⟨(some 20), .mv (.t 1), none⟩, []⟩,
  ⟨5, ⟨(some 21), .mv (.t 5), none⟩, []⟩,
  ⟨6, ⟨(some 22), .idx 3 (.t 20) (.t 21), none⟩, []⟩,
  ⟨7, ⟨(some 23), .load true 3 (.t 22), none⟩, []⟩,
  ⟨8, ⟨(some 24), .bin .neq 19 (.t 19) (.t 23), none⟩, []⟩] [[], [], [0, 1], [0, 1, 2], [], [], [4, 5], [4, 5, 6], [0, 1, 2, 3, 4, 5, 6, 7]]
def Tryz.a94r7 : ACode := .region [⟨(some 4), .mv (.c (.bool false)), none⟩]
def Tryz.a94r8 : ACode := .region [⟨(some 25), .bin .add 0 (.t 13) (.c (.int .i64 1)), none⟩,
  ⟨(some 13), .mv (.t 25), none⟩]
def Tryz.a94l9 : ACode := .seq (Tryz.a94r4) (.seq (.cond (.t 14) (.skip) (.exit 0)) (.seq (.block 1 (.seq (Tryz.a94r5) (.seq (Tryz.a94r6) (.cond (.t 24) (.seq (Tryz.a94r7) (.ret)) (.skip))))) (Tryz.a94r8)))
def Tryz.a94r10 : ACode := .region [⟨(some 4), .mv (.c (.bool true)), none⟩]
def Tryz.c94 : ACode := .seq (Tryz.a94r0) (.seq (.seq (Tryz.a94r1) (.cond (.t 10) (.seq (Tryz.a94r2) (.ret)) (.skip))) (.seq (.seq (Tryz.a94r3) (.block 0 (.loop [0, 1, 12, 13] Tryz.a94l9))) (.seq (Tryz.a94r10) (.ret))))
def Tryz.a94 : AFunc := ⟨26, Tryz.c94, [(4, none)], false⟩
theorem Tryz.a94_ok : chkFunc Tryz.prog Tryz.eqs Tryz.f94 Tryz.a94 = true := by kernel_rfl
theorem Tryz.w94 {first caps args : List AVal} {heap : List AObj} {K : AVal → List AObj → Prop} (N : Nat) (h : Ex (cfg Tryz.prog Tryz.eqs N) Tryz.c94 ⟨(first ++ args ++ caps) ++ List.replicate (26 - (first ++ args ++ caps).length) .undef, heap⟩ (kfun (cfg Tryz.prog Tryz.eqs N) [(4, none)] false heap.length K)) : Hs Tryz.prog Tryz.eqs (.func 94 first caps) args heap K := Hs.enter Tryz.eqs_plain N (fn := Tryz.f94) (by kernel_rfl) Tryz.a94_ok h
def Tryz.a115r0 : ACode := .region [⟨(some 4), .mv (.c (.bool false)), none⟩]
def Tryz.a115r1 : ACode := .region [⟨(some 5), .mv (.t 0), none⟩,
  ⟨(some 6), .mv (.t 1), none⟩,
  ⟨(some 7), .call (.c (.func 160 [] [])) [(.t 5), (.t 6)], none⟩,
  ⟨(some 8), .bin .geq 0 (.t 7) (.c (.int .i64 0)), none⟩,
  ⟨(some 4), .mv (.t 8), none⟩]
def Tryz.c115 : ACode := .seq (Tryz.a115r0) (.seq (Tryz.a115r1) (.ret))
def Tryz.a115 : AFunc := ⟨9, Tryz.c115, [(4, none)], false⟩
theorem Tryz.a115_ok : chkFunc Tryz.prog Tryz.eqs Tryz.f115 Tryz.a115 = true := by kernel_rfl
theorem Tryz.w115 {first caps args : List AVal} {heap : List AObj} {K : AVal → List AObj → Prop} (N : Nat) (h : Ex (cfg Tryz.prog Tryz.eqs N) Tryz.c115 ⟨(first ++ args ++ caps) ++ List.replicate (9 - (first ++ args ++ caps).length) .undef, heap⟩ (kfun (cfg Tryz.prog Tryz.eqs N) [(4, none)] false heap.length K)) : Hs Tryz.prog Tryz.eqs (.func 115 first caps) args heap K := Hs.enter Tryz.eqs_plain N (fn := Tryz.f115) (by kernel_rfl) Tryz.a115_ok h
def Tryz.a116r0 : ACode := .region [⟨(some 2), .box (.t 0) [], none⟩,
  ⟨(some 3), .mv (.c (.bool false)), none⟩]
def Tryz.a116r1 : ACode := .region [⟨(some 4), .load false 1 (.t 1), none⟩,
  ⟨(some 5), .load true 3 (.t 2), none⟩,
  ⟨(some 6), .call (.t 4) [(.t 5)], none⟩,
  ⟨(some 7), .un .not (.t 6), none⟩,
  ⟨(some 3), .mv (.t 7), none⟩]
def Tryz.c116 : ACode := .seq (Tryz.a116r0) (.seq (Tryz.a116r1) (.ret))
def Tryz.a116 : AFunc := ⟨8, Tryz.c116, [(3, none)], false⟩
theorem Tryz.a116_ok : chkFunc Tryz.prog Tryz.eqs Tryz.f116 Tryz.a116 = true := by kernel_rfl
theorem Tryz.w116 {first caps args : List AVal} {heap : List AObj} {K : AVal → List AObj → Prop} (N : Nat) (h : Ex (cfg Tryz.prog Tryz.eqs N) Tryz.c116 ⟨(first ++ args ++ caps) ++ List.replicate (8 - (first ++ args ++ caps).length) .undef, heap⟩ (kfun (cfg Tryz.prog Tryz.eqs N) [(3, none)] false heap.length K)) : Hs Tryz.prog Tryz.eqs (.func 116 first caps) args heap K := Hs.enter Tryz.eqs_plain N (fn := Tryz.f116) (by kernel_rfl) Tryz.a116_ok h
def Tryz.a117r0 : ACode := .region [⟨(some 4), .mv (.c (.bool false)), none⟩]
def Tryz.a117r1 : ACode := .region [⟨(some 5), .mv (.t 0), none⟩,
  ⟨(some 6), .mv (.t 1), none⟩,
  ⟨(some 7), .call (.c (.func 161 [] [])) [(.t 5), (.t 6)], none⟩,
  ⟨(some 8), .bin .geq 0 (.t 7) (.c (.int .i64 0)), none⟩,
  ⟨(some 4), .mv (.t 8), none⟩]
def Tryz.c117 : ACode := .seq (Tryz.a117r0) (.seq (Tryz.a117r1) (.ret))
def Tryz.a117 : AFunc := ⟨9, Tryz.c117, [(4, none)], false⟩
theorem Tryz.a117_ok : chkFunc Tryz.prog Tryz.eqs Tryz.f117 Tryz.a117 = true := by kernel_rfl
theorem Tryz.w117 {first caps args : List AVal} {heap : List AObj} {K : AVal → List AObj → Prop} (N : Nat) (h : Ex (cfg Tryz.prog Tryz.eqs N) Tryz.c117 ⟨(first ++ args ++ caps) ++ List.replicate (9 - (first ++ args ++ caps).length) .undef, heap⟩ (kfun (cfg Tryz.prog Tryz.eqs N) [(4, none)] false heap.length K)) : Hs Tryz.prog Tryz.eqs (.func 117 first caps) args heap K := Hs.enter Tryz.eqs_plain N (fn := Tryz.f117) (by kernel_rfl) Tryz.a117_ok h
def Tryz.a118r0 : ACode := .region [⟨(some 2), .box (.t 0) [], none⟩,
  ⟨(some 3), .mv (.c (.bool false)), none⟩]
def Tryz.a118r1 : ACode := .region [⟨(some 4), .load false 1 (.t 1), none⟩,
  ⟨(some 5), .load true 4 (.t 2), none⟩,
  ⟨(some 6), .call (.t 4) [(.t 5)], none⟩,
  ⟨(some 7), .un .not (.t 6), none⟩,
  ⟨(some 3), .mv (.t 7), none⟩]
def Tryz.c118 : ACode := .seq (Tryz.a118r0) (.seq (Tryz.a118r1) (.ret))
def Tryz.a118 : AFunc := ⟨8, Tryz.c118, [(3, none)], false⟩
theorem Tryz.a118_ok : chkFunc Tryz.prog Tryz.eqs Tryz.f118 Tryz.a118 = true := by kernel_rfl
theorem Tryz.w118 {first caps args : List AVal} {heap : List AObj} {K : AVal → List AObj → Prop} (N : Nat) (h : Ex (cfg Tryz.prog Tryz.eqs N) Tryz.c118 ⟨(first ++ args ++ caps) ++ List.replicate (8 - (first ++ args ++ caps).length) .undef, heap⟩ (kfun (cfg Tryz.prog Tryz.eqs N) [(3, none)] false heap.length K)) : Hs Tryz.prog Tryz.eqs (.func 118 first caps) args heap K := Hs.enter Tryz.eqs_plain N (fn := Tryz.f118) (by kernel_rfl) Tryz.a118_ok h
def Tryz.a119r0 : ACode := .region [⟨(some 3), .mv (.c (.bool false)), none⟩]
def Tryz.a119r1 : ACode := .region [⟨(some 4), .load false 1 (.t 1), none⟩,
  ⟨(some 5), .mv (.t 0), none⟩,
  ⟨(some 6), .call (.t 4) [(.t 5)], none⟩,
  ⟨(some 7), .un .not (.t 6), none⟩,
  ⟨(some 3), .mv (.t 7), none⟩]
def Tryz.c119 : ACode := .seq (Tryz.a119r0) (.seq (Tryz.a119r1) (.ret))
def Tryz.a119 : AFunc := ⟨8, Tryz.c119, [(3, none)], false⟩
theorem Tryz.a119_ok : chkFunc Tryz.prog Tryz.eqs Tryz.f119 Tryz.a119 = true := by kernel_rfl
theorem Tryz.w119 {first caps args : List AVal} {heap : List AObj} {K : AVal → List AObj → Prop} (N : Nat) (h : Ex (cfg Tryz.prog Tryz.eqs N) Tryz.c119 ⟨(first ++ args ++ caps) ++ List.replicate (8 - (first ++ args ++ caps).length) .undef, heap⟩ (kfun (cfg Tryz.prog Tryz.eqs N) [(3, none)] false heap.length K)) : Hs Tryz.prog Tryz.eqs (.func 119 first caps) args heap K := Hs.enter Tryz.eqs_plain N (fn := Tryz.f119) (by kernel_rfl) Tryz.a119_ok h
def Tryz.a120r0 : ACode := .region [⟨(some 4), .mv (.c (.bool false)), none⟩]
def Tryz.a120r1 : ACode := .region [⟨(some 5), .mv (.t 0), none⟩,
  ⟨(some 6), .mv (.t 1), none⟩,
  ⟨(some 7), .call (.c (.func 162 [] [])) [(.t 5), (.t 6)], none⟩,
  ⟨(some 8), .bin .geq 0 (.t 7) (.c (.int .i64 0)), none⟩,
  ⟨(some 4), .mv (.t 8), none⟩]
def Tryz.c120 : ACode := .seq (Tryz.a120r0) (.seq (Tryz.a120r1) (.ret))
def Tryz.a120 : AFunc := ⟨9, Tryz.c120, [(4, none)], false⟩
theorem Tryz.a120_ok : chkFunc Tryz.prog Tryz.eqs Tryz.f120 Tryz.a120 = true := by kernel_rfl
theorem Tryz.w120 {first caps args : List AVal} {heap : List AObj} {K : AVal → List AObj → Prop} (N : Nat) (h : Ex (cfg Tryz.prog Tryz.eqs N) Tryz.c120 ⟨(first ++ args ++ caps) ++ List.replicate (9 - (first ++ args ++ caps).length) .undef, heap⟩ (kfun (cfg Tryz.prog Tryz.eqs N) [(4, none)] false heap.length K)) : Hs Tryz.prog Tryz.eqs (.func 120 first caps) args heap K := Hs.enter Tryz.eqs_plain N (fn := Tryz.f120) (by kernel_rfl) Tryz.a120_ok h
def Tryz.a121r0 : ACode := .region [⟨(some 2), .box (.t 0) [], none⟩,
  ⟨(some 3), .mv (.c (.bool false)), none⟩]
def Tryz.a121r1 : ACode := .region [⟨(some 4), .load false 1 (.t 1), none⟩,
  ⟨(some 5), .load true 2 (.t 2), none⟩,
  ⟨(some 6), .call (.t 4) [(.t 5)], none⟩,
  ⟨(some 7), .un .not (.t 6), none⟩,
  ⟨(some 3), .mv (.t 7), none⟩]
def Tryz.c121 : ACode := .seq (Tryz.a121r0) (.seq (Tryz.a121r1) (.ret))
def Tryz.a121 : AFunc := ⟨8, Tryz.c121, [(3, none)], false⟩
theorem Tryz.a121_ok : chkFunc Tryz.prog Tryz.eqs Tryz.f121 Tryz.a121 = true := by kernel_rfl
theorem Tryz.w121 {first caps args : List AVal} {heap : List AObj} {K : AVal → List AObj → Prop} (N : Nat) (h : Ex (cfg Tryz.prog Tryz.eqs N) Tryz.c121 ⟨(first ++ args ++ caps) ++ List.replicate (8 - (first ++ args ++ caps).length) .undef, heap⟩ (kfun (cfg Tryz.prog Tryz.eqs N) [(3, none)] false heap.length K)) : Hs Tryz.prog Tryz.eqs (.func 121 first caps) args heap K := Hs.enter Tryz.eqs_plain N (fn := Tryz.f121) (by kernel_rfl) Tryz.a121_ok h
def Tryz.a122r0 : ACode := .region [⟨(some 2), .alloc 9 (.agg [(.int .i64 0), (.int .i64 0), (.int .i64 0), (.bool false), (.bool false), (.bool false), (.bool false), (.bool false), (.bool false)]) [], none⟩]
def Tryz.a122r1 : ACode := .region [⟨(some 3), .mv (.t 0), none⟩]
def Tryz.a122r2 : ACode := .region [⟨(some 5), .bin .eql 0 (.t 3) (.c (.int .i64 1)), none⟩,
  ⟨(some 4), .mv (.t 5), none⟩]
def Tryz.a122r3 : ACode := .region [⟨(some 6), .build (.agg [(.int .i64 0), (.int .i64 0), (.int .i64 0), (.bool false), (.bool false), (.bool false), (.bool false), (.bool false), (.bool false)]) [((0, 1), (.c (.int .i64 1))), ((3, 1), (.c (.bool true)))], none⟩,
  ⟨none, .store 9 (.t 2) (.t 6) [], none⟩]
def Tryz.a122r4 : ACode := .region [⟨(some 8), .bin .eql 0 (.t 3) (.c (.int .i64 2)), none⟩,
  ⟨(some 7), .mv (.t 8), none⟩]
def Tryz.a122r5 : ACode := .region [⟨(some 9), .build (.agg [(.int .i64 0), (.int .i64 0), (.int .i64 0), (.bool false), (.bool false), (.bool false), (.bool false), (.bool false), (.bool false)]) [((0, 1), (.c (.int .i64 1))), ((1, 1), (.c (.int .i64 4))), ((3, 1), (.c (.bool true)))], none⟩,
  ⟨none, .store 9 (.t 2) (.t 9) [], none⟩]
def Tryz.a122r6 : ACode := .region [⟨(some 11), .bin .eql 0 (.t 3) (.c (.int .i64 3)), none⟩,
  ⟨(some 10), .mv (.t 11), none⟩]
def Tryz.a122r7 : ACode := .region [⟨(some 12), .build (.agg [(.int .i64 0), (.int .i64 0), (.int .i64 0), (.bool false), (.bool false), (.bool false), (.bool false), (.bool false), (.bool false)]) [((1, 1), (.c (.int .i64 4))), ((3, 1), (.c (.bool true))), ((4, 1), (.c (.bool true)))], none⟩,
  ⟨none, .store 9 (.t 2) (.t 12) [], none⟩]
def Tryz.a122r8 : ACode := .region [⟨(some 14), .bin .eql 0 (.t 3) (.c (.int .i64 4)), none⟩,
  ⟨(some 13), .mv (.t 14), none⟩]
def Tryz.a122r9 : ACode := .region [⟨(some 15), .build (.agg [(.int .i64 0), (.int .i64 0), (.int .i64 0), (.bool false), (.bool false), (.bool false), (.bool false), (.bool false), (.bool false)]) [((0, 1), (.c (.int .i64 1))), ((1, 1), (.c (.int .i64 5)))], none⟩,
  ⟨none, .store 9 (.t 2) (.t 15) [], none⟩]
def Tryz.a122r10 : ACode := .region [⟨(some 17), .bin .eql 0 (.t 3) (.c (.int .i64 20)), none⟩,
  ⟨(some 16), .mv (.t 17), none⟩]
def Tryz.a122r11 : ACode := .region [⟨(some 18), .build (.agg [(.int .i64 0), (.int .i64 0), (.int .i64 0), (.bool false), (.bool false), (.bool false), (.bool false), (.bool false), (.bool false)]) [((0, 1), (.c (.int .i64 1))), ((1, 1), (.c (.int .i64 6)))], none⟩,
  ⟨none, .store 9 (.t 2) (.t 18) [], none⟩]
def Tryz.a122r12 : ACode := .region [⟨(some 20), .bin .eql 0 (.t 3) (.c (.int .i64 19)), none⟩,
  ⟨(some 19), .mv (.t 20), none⟩]
def Tryz.a122r13 : ACode := .region [⟨(some 21), .build (.agg [(.int .i64 0), (.int .i64 0), (.int .i64 0), (.bool false), (.bool false), (.bool false), (.bool false), (.bool false), (.bool false)]) [((0, 1), (.c (.int .i64 1))), ((1, 1), (.c (.int .i64 7)))], none⟩,
  ⟨none, .store 9 (.t 2) (.t 21) [], none⟩]
def Tryz.a122r14 : ACode := .region [⟨(some 23), .bin .eql 0 (.t 3) (.c (.int .i64 5)), none⟩,
  ⟨(some 22), .mv (.t 23), none⟩]
def Tryz.a122r15 : ACode := .region [⟨(some 24), .build (.agg [(.int .i64 0), (.int .i64 0), (.int .i64 0), (.bool false), (.bool false), (.bool false), (.bool false), (.bool false), (.bool false)]) [((1, 1), (.c (.int .i64 5))), ((3, 1), (.c (.bool true)))], none⟩,
  ⟨none, .store 9 (.t 2) (.t 24) [], none⟩]
def Tryz.a122r16 : ACode := .region [⟨(some 26), .bin .eql 0 (.t 3) (.c (.int .i64 18)), none⟩,
  ⟨(some 25), .mv (.t 26), none⟩]
def Tryz.a122r17 : ACode := .region [⟨(some 27), .build (.agg [(.int .i64 0), (.int .i64 0), (.int .i64 0), (.bool false), (.bool false), (.bool false), (.bool false), (.bool false), (.bool false)]) [((1, 1), (.c (.int .i64 7))), ((3, 1), (.c (.bool true)))], none⟩,
  ⟨none, .store 9 (.t 2) (.t 27) [], none⟩]
def Tryz.a122r18 : ACode := .region [⟨(some 29), .bin .eql 0 (.t 3) (.c (.int .i64 21)), none⟩,
  ⟨(some 28), .mv (.t 29), none⟩]
def Tryz.a122r19 : ACode := .region [⟨(some 30), .build (.agg [(.int .i64 0), (.int .i64 0), (.int .i64 0), (.bool false), (.bool false), (.bool false), (.bool false), (.bool false), (.bool false)]) [((1, 1), (.c (.int .i64 8))), ((3, 1), (.c (.bool true)))], none⟩,
  ⟨none, .store 9 (.t 2) (.t 30) [], none⟩]
def Tryz.a122r20 : ACode := .region [⟨(some 32), .bin .eql 0 (.t 3) (.c (.int .i64 6)), none⟩,
  ⟨(some 31), .mv (.t 32), none⟩]
def Tryz.a122r21 : ACode := .region [⟨(some 33), .bin .eql 0 (.t 3) (.c (.int .i64 7)), none⟩,
  ⟨(some 31), .mv (.t 33), none⟩]
def Tryz.a122r22 : ACode := .region [⟨(some 34), .build (.agg [(.int .i64 0), (.int .i64 0), (.int .i64 0), (.bool false), (.bool false), (.bool false), (.bool false), (.bool false), (.bool false)]) [((0, 1), (.c (.int .i64 3)))], none⟩,
  ⟨none, .store 9 (.t 2) (.t 34) [], none⟩]
def Tryz.a122r23 : ACode := .region [⟨(some 36), .bin .eql 0 (.t 3) (.c (.int .i64 8)), none⟩,
  ⟨(some 35), .mv (.t 36), none⟩]
def Tryz.a122r24 : ACode := .region [⟨(some 37), .build (.agg [(.int .i64 0), (.int .i64 0), (.int .i64 0), (.bool false), (.bool false), (.bool false), (.bool false), (.bool false), (.bool false)]) [((0, 1), (.c (.int .i64 3))), ((1, 1), (.c (.int .i64 3)))], none⟩,
  ⟨none, .store 9 (.t 2) (.t 37) [], none⟩]
def Tryz.a122r25 : ACode := .region [⟨(some 39), .bin .eql 0 (.t 3) (.c (.int .i64 9)), none⟩,
  ⟨(some 38), .mv (.t 39), none⟩]
def Tryz.a122r26 : ACode := .region [⟨(some 40), .build (.agg [(.int .i64 0), (.int .i64 0), (.int .i64 0), (.bool false), (.bool false), (.bool false), (.bool false), (.bool false), (.bool false)]) [((0, 1), (.c (.int .i64 3))), ((3, 1), (.c (.bool true)))], none⟩,
  ⟨none, .store 9 (.t 2) (.t 40) [], none⟩]
def Tryz.a122r27 : ACode := .region [⟨(some 42), .bin .eql 0 (.t 3) (.c (.int .i64 10)), none⟩,
  ⟨(some 41), .mv (.t 42), none⟩]
def Tryz.a122r28 : ACode := .region [⟨(some 43), .build (.agg [(.int .i64 0), (.int .i64 0), (.int .i64 0), (.bool false), (.bool false), (.bool false), (.bool false), (.bool false), (.bool false)]) [((0, 1), (.c (.int .i64 1))), ((1, 1), (.c (.int .i64 3)))], none⟩,
  ⟨none, .store 9 (.t 2) (.t 43) [], none⟩]
def Tryz.a122r29 : ACode := .region [⟨(some 44), .mv (.t 0), none⟩,
  ⟨(some 45), .call (.c (.func 163 [] [])) [(.t 44)], none⟩,
  ⟨none, .store 9 (.t 2) (.t 45) [], none⟩]
def Tryz.c122 : ACode := .seq (Tryz.a122r0) (.seq (.seq (Tryz.a122r1) (.block 0 (.seq (Tryz.a122r2) (.cond (.t 4) (.seq (Tryz.a122r3) (.ret)) (.seq (Tryz.a122r4) (.cond (.t 7) (.seq (Tryz.a122r5) (.ret)) (.seq (Tryz.a122r6) (.cond (.t 10) (.seq (Tryz.a122r7) (.ret)) (.seq (Tryz.a122r8) (.cond (.t 13) (.seq (Tryz.a122r9) (.ret)) (.seq (Tryz.a122r10) (.cond (.t 16) (.seq (Tryz.a122r11) (.ret)) (.seq (Tryz.a122r12) (.cond (.t 19) (.seq (Tryz.a122r13) (.ret)) (.seq (Tryz.a122r14) (.cond (.t 22) (.seq (Tryz.a122r15) (.ret)) (.seq (Tryz.a122r16) (.cond (.t 25) (.seq (Tryz.a122r17) (.ret)) (.seq (Tryz.a122r18) (.cond (.t 28) (.seq (Tryz.a122r19) (.ret)) (.seq (.seq (Tryz.a122r20) (.cond (.t 31) (.skip) (Tryz.a122r21))) (.cond (.t 31) (.seq (Tryz.a122r22) (.ret)) (.seq (Tryz.a122r23) (.cond (.t 35) (.seq (Tryz.a122r24) (.ret)) (.seq (Tryz.a122r25) (.cond (.t 38) (.seq (Tryz.a122r26) (.ret)) (.seq (Tryz.a122r27) (.cond (.t 41) (.seq (Tryz.a122r28) (.ret)) (.skip))))))))))))))))))))))))))))) (.seq (Tryz.a122r29) (.ret)))
def Tryz.a122 : AFunc := ⟨46, Tryz.c122, [(2, some (true, 9))], false⟩
theorem Tryz.a122_ok : chkFunc Tryz.prog Tryz.eqs Tryz.f122 Tryz.a122 = true := by kernel_rfl
theorem Tryz.w122 {first caps args : List AVal} {heap : List AObj} {K : AVal → List AObj → Prop} (N : Nat) (h : Ex (cfg Tryz.prog Tryz.eqs N) Tryz.c122 ⟨(first ++ args ++ caps) ++ List.replicate (46 - (first ++ args ++ caps).length) .undef, heap⟩ (kfun (cfg Tryz.prog Tryz.eqs N) [(2, some (true, 9))] false heap.length K)) : Hs Tryz.prog Tryz.eqs (.func 122 first caps) args heap K := Hs.enter Tryz.eqs_plain N (fn := Tryz.f122) (by kernel_rfl) Tryz.a122_ok h
def Tryz.a123r0 : ACode := .region [⟨(some 3), .box (.t 0) [], none⟩,
  ⟨(some 6), .mv (.c (.bool false)), none⟩]
def Tryz.a123r1 : ACode := .region [⟨(some 7), .mv (.t 1), none⟩]
def Tryz.a123r2 : ACode := .region [⟨(some 9), .bin .eql 0 (.t 7) (.c (.int .i64 1)), none⟩,
  ⟨(some 8), .mv (.t 9), none⟩]
def Tryz.a123r3 : ACode := .region [⟨(some 10), .mv (.t 2), none⟩,
  ⟨(some 11), .addo 0 (.t 3), none⟩,
  ⟨(some 12), .addo 5 (.t 11), none⟩,
  ⟨(some 13), .load false 1 (.t 12), none⟩,
  ⟨(some 14), .len 0 (.t 13), none⟩,
  ⟨(some 15), .addo 0 (.t 3), none⟩,
  ⟨(some 16), .addo 7 (.t 15), none⟩,
  ⟨(some 17), .load false 1 (.t 16), none⟩,
  ⟨(some 18), .bin .sub 0 (.t 17) (.c (.int .i64 1)), none⟩,
  ⟨(some 19), .call (.c (.func 76 [] [])) [(.t 10), (.t 14), (.t 18)], none⟩,
  ⟨(some 6), .mv (.t 19), none⟩]
def Tryz.a123r4 : ACode := .region [⟨(some 21), .bin .eql 0 (.t 7) (.c (.int .i64 2)), none⟩,
  ⟨(some 20), .mv (.t 21), none⟩]
def Tryz.a123r5 : ACode := .region [⟨(some 22), .mv (.t 2), none⟩,
  ⟨(some 23), .bin .eql 0 (.t 22) (.c (.int .i64 (-1))), none⟩,
  ⟨(some 24), .mv (.t 23), none⟩,
  ⟨(some 25), .mv (.t 2), (some (24, false))⟩,
  ⟨(some 26), .addo 0 (.t 3), (some (24, false))⟩,
  ⟨(some 27), .addo 5 (.t 26), (some (24, false))⟩,
  ⟨(some 28), .load false 1 (.t 27), (some (24, false))⟩,
  ⟨(some 29), .len 0 (.t 28), (some (24, false))⟩,
  ⟨(some 30), .addo 0 (.t 3), (some (24, false))⟩,
  ⟨(some 31), .addo 7 (.t 30), (some (24, false))⟩,
  ⟨(some 32), .load false 1 (.t 31), (some (24, false))⟩,
  ⟨(some 33), .bin .sub 0 (.t 32) (.c (.int .i64 1)), (some (24, false))⟩,
  ⟨(some 34), .call (.c (.func 76 [] [])) [(.t 25), (.t 29), (.t 33)], (some (24, false))⟩,
  ⟨(some 35), .pick (.t 24) (.c (.bool true)) (.t 34), none⟩,
  ⟨(some 6), .mv (.t 35), none⟩]
def Tryz.a123r6 : ACode := .region [⟨(some 37), .bin .eql 0 (.t 7) (.c (.int .i64 3)), none⟩,
  ⟨(some 36), .mv (.t 37), none⟩]
def Tryz.a123r7 : ACode := .region [⟨(some 38), .mv (.t 2), none⟩,
  ⟨(some 39), .addo 0 (.t 3), none⟩,
  ⟨(some 40), .addo 8 (.t 39), none⟩,
  ⟨(some 41), .load false 1 (.t 40), none⟩,
  ⟨(some 42), .bin .sub 0 (.t 41) (.c (.int .i64 1)), none⟩,
  ⟨(some 43), .call (.c (.func 76 [] [])) [(.t 38), (.c (.int .i64 0)), (.t 42)], none⟩,
  ⟨(some 6), .mv (.t 43), none⟩]
def Tryz.a123r8 : ACode := .region [⟨(some 45), .bin .eql 0 (.t 7) (.c (.int .i64 4)), none⟩,
  ⟨(some 44), .mv (.t 45), none⟩]
def Tryz.a123r9 : ACode := .region [⟨(some 46), .mv (.t 2), none⟩,
  ⟨(some 47), .addo 0 (.t 3), none⟩,
  ⟨(some 48), .addo 9 (.t 47), none⟩,
  ⟨(some 49), .load false 1 (.t 48), none⟩,
  ⟨(some 50), .len 0 (.t 49), none⟩,
  ⟨(some 51), .bin .sub 0 (.t 50) (.c (.int .i64 1)), none⟩,
  ⟨(some 52), .call (.c (.func 76 [] [])) [(.t 46), (.c (.int .i64 0)), (.t 51)], none⟩,
  ⟨(some 6), .mv (.t 52), none⟩]
def Tryz.a123r10 : ACode := .region [⟨(some 54), .bin .eql 0 (.t 7) (.c (.int .i64 5)), none⟩,
  ⟨(some 53), .mv (.t 54), none⟩]
def Tryz.a123r11 : ACode := .region [⟨(some 55), .mv (.t 2), none⟩,
  ⟨(some 56), .addo 12 (.t 3), none⟩,
  ⟨(some 57), .addo 0 (.t 56), none⟩,
  ⟨(some 58), .load false 1 (.t 57), none⟩,
  ⟨(some 59), .len 0 (.t 58), none⟩,
  ⟨(some 60), .bin .sub 0 (.t 59) (.c (.int .i64 1)), none⟩,
  ⟨(some 61), .call (.c (.func 76 [] [])) [(.t 55), (.c (.int .i64 0)), (.t 60)], none⟩,
  ⟨(some 6), .mv (.t 61), none⟩]
def Tryz.a123r12 : ACode := .region [⟨(some 63), .bin .eql 0 (.t 7) (.c (.int .i64 6)), none⟩,
  ⟨(some 62), .mv (.t 63), none⟩]
def Tryz.a123r13 : ACode := .region [⟨(some 64), .mv (.t 2), none⟩,
  ⟨(some 65), .addo 12 (.t 3), none⟩,
  ⟨(some 66), .addo 1 (.t 65), none⟩,
  ⟨(some 67), .load false 1 (.t 66), none⟩,
  ⟨(some 68), .len 0 (.t 67), none⟩,
  ⟨(some 69), .bin .sub 0 (.t 68) (.c (.int .i64 1)), none⟩,
  ⟨(some 70), .call (.c (.func 76 [] [])) [(.t 64), (.c (.int .i64 0)), (.t 69)], none⟩,
  ⟨(some 6), .mv (.t 70), none⟩]
def Tryz.a123r14 : ACode := .region [⟨(some 72), .bin .eql 0 (.t 7) (.c (.int .i64 7)), none⟩,
  ⟨(some 71), .mv (.t 72), none⟩]
def Tryz.a123r15 : ACode := .region [⟨(some 73), .mv (.t 2), none⟩,
  ⟨(some 74), .addo 12 (.t 3), none⟩,
  ⟨(some 75), .addo 2 (.t 74), none⟩,
  ⟨(some 76), .load false 1 (.t 75), none⟩,
  ⟨(some 77), .len 0 (.t 76), none⟩,
  ⟨(some 78), .bin .sub 0 (.t 77) (.c (.int .i64 1)), none⟩,
  ⟨(some 79), .call (.c (.func 76 [] [])) [(.t 73), (.c (.int .i64 0)), (.t 78)], none⟩,
  ⟨(some 6), .mv (.t 79), none⟩]
def Tryz.a123r16 : ACode := .region [⟨(some 81), .bin .eql 0 (.t 7) (.c (.int .i64 8)), none⟩,
  ⟨(some 80), .mv (.t 81), none⟩]
def Tryz.a123r17 : ACode := .region [⟨(some 82), .mv (.t 2), none⟩,
  ⟨(some 83), .addo 12 (.t 3), none⟩,
  ⟨(some 84), .addo 3 (.t 83), none⟩,
  ⟨(some 85), .load false 1 (.t 84), none⟩,
  ⟨(some 86), .len 0 (.t 85), none⟩,
  ⟨(some 87), .bin .sub 0 (.t 86) (.c (.int .i64 1)), none⟩,
  ⟨(some 88), .call (.c (.func 76 [] [])) [(.t 82), (.c (.int .i64 0)), (.t 87)], none⟩,
  ⟨(some 6), .mv (.t 88), none⟩]
def Tryz.a123r18 : ACode := .region [⟨(some 90), .bin .eql 0 (.t 7) (.c (.int .i64 9)), none⟩,
  ⟨(some 89), .mv (.t 90), none⟩]
def Tryz.a123r19 : ACode := .region [⟨(some 91), .mv (.t 2), none⟩,
  ⟨(some 92), .addo 12 (.t 3), none⟩,
  ⟨(some 93), .addo 4 (.t 92), none⟩,
  ⟨(some 94), .load false 1 (.t 93), none⟩,
  ⟨(some 95), .bin .sub 0 (.t 94) (.c (.int .i64 1)), none⟩,
  ⟨(some 96), .call (.c (.func 76 [] [])) [(.t 91), (.c (.int .i64 0)), (.t 95)], none⟩,
  ⟨(some 6), .mv (.t 96), none⟩]
def Tryz.a123r20 : ACode := .region [⟨(some 98), .bin .eql 0 (.t 7) (.c (.int .i64 10)), none⟩,
  ⟨(some 97), .mv (.t 98), none⟩]
def Tryz.a123r21 : ACode := .region [⟨(some 99), .mv (.t 2), none⟩,
  ⟨(some 100), .addo 12 (.t 3), none⟩,
  ⟨(some 101), .addo 5 (.t 100), none⟩,
  ⟨(some 102), .load false 1 (.t 101), none⟩,
  ⟨(some 103), .bin .sub 0 (.t 102) (.c (.int .i64 1)), none⟩,
  ⟨(some 104), .call (.c (.func 76 [] [])) [(.t 99), (.c (.int .i64 0)), (.t 103)], none⟩,
  ⟨(some 6), .mv (.t 104), none⟩]
def Tryz.a123r22 : ACode := .region [⟨(some 106), .bin .eql 0 (.t 7) (.c (.int .i64 11)), none⟩,
  ⟨(some 105), .mv (.t 106), none⟩]
def Tryz.a123r23 : ACode := .region [⟨(some 107), .mv (.t 2), none⟩,
  ⟨(some 108), .call (.c (.func 76 [] [])) [(.t 107), (.c (.int .i64 1)), (.c (.int .i64 1073741824))], none⟩,
  ⟨(some 6), .mv (.t 108), none⟩]
def Tryz.a123r24 : ACode := .region [⟨(some 110), .bin .eql 0 (.t 7) (.c (.int .i64 12)), none⟩,
  ⟨(some 109), .mv (.t 110), none⟩]
def Tryz.a123r25 : ACode := .region [⟨(some 111), .mv (.t 2), none⟩,
  ⟨(some 112), .call (.c (.func 76 [] [])) [(.t 111), (.c (.int .i64 1)), (.c (.int .i64 16))], none⟩,
  ⟨(some 6), .mv (.t 112), none⟩]
def Tryz.a123r26 : ACode := .region [⟨(some 114), .bin .eql 0 (.t 7) (.c (.int .i64 13)), none⟩,
  ⟨(some 113), .mv (.t 114), none⟩]
def Tryz.a123r27 : ACode := .region [⟨(some 115), .mv (.t 2), none⟩,
  ⟨(some 116), .call (.c (.func 76 [] [])) [(.t 115), (.c (.int .i64 1)), (.c (.int .i64 31))], none⟩,
  ⟨(some 6), .mv (.t 116), none⟩]
def Tryz.a123r28 : ACode := .region [⟨(some 117), .mv (.t 2), none⟩,
  ⟨(some 118), .bin .eql 0 (.t 117) (.c (.int .i64 0)), none⟩,
  ⟨(some 6), .mv (.t 118), none⟩]
def Tryz.c123 : ACode := .seq (Tryz.a123r0) (.seq (.seq (Tryz.a123r1) (.block 0 (.seq (Tryz.a123r2) (.cond (.t 8) (.seq (Tryz.a123r3) (.ret)) (.seq (Tryz.a123r4) (.cond (.t 20) (.seq (Tryz.a123r5) (.ret)) (.seq (Tryz.a123r6) (.cond (.t 36) (.seq (Tryz.a123r7) (.ret)) (.seq (Tryz.a123r8) (.cond (.t 44) (.seq (Tryz.a123r9) (.ret)) (.seq (Tryz.a123r10) (.cond (.t 53) (.seq (Tryz.a123r11) (.ret)) (.seq (Tryz.a123r12) (.cond (.t 62) (.seq (Tryz.a123r13) (.ret)) (.seq (Tryz.a123r14) (.cond (.t 71) (.seq (Tryz.a123r15) (.ret)) (.seq (Tryz.a123r16) (.cond (.t 80) (.seq (Tryz.a123r17) (.ret)) (.seq (Tryz.a123r18) (.cond (.t 89) (.seq (Tryz.a123r19) (.ret)) (.seq (Tryz.a123r20) (.cond (.t 97) (.seq (Tryz.a123r21) (.ret)) (.seq (Tryz.a123r22) (.cond (.t 105) (.seq (Tryz.a123r23) (.ret)) (.seq (Tryz.a123r24) (.cond (.t 109) (.seq (Tryz.a123r25) (.ret)) (.seq (Tryz.a123r26) (.cond (.t 113) (.seq (Tryz.a123r27) (.ret)) (.skip))))))))))))))))))))))))))))) (.seq (Tryz.a123r28) (.ret)))
def Tryz.a123 : AFunc := ⟨119, Tryz.c123, [(6, none)], false⟩
theorem Tryz.a123_ok : chkFunc Tryz.prog Tryz.eqs Tryz.f123 Tryz.a123 = true := by kernel_rfl
theorem Tryz.w123 {first caps args : List AVal} {heap : List AObj} {K : AVal → List AObj → Prop} (N : Nat) (h : Ex (cfg Tryz.prog Tryz.eqs N) Tryz.c123 ⟨(first ++ args ++ caps) ++ List.replicate (119 - (first ++ args ++ caps).length) .undef, heap⟩ (kfun (cfg Tryz.prog Tryz.eqs N) [(6, none)] false heap.length K)) : Hs Tryz.prog Tryz.eqs (.func 123 first caps) args heap K := Hs.enter Tryz.eqs_plain N (fn := Tryz.f123) (by kernel_rfl) Tryz.a123_ok h
def Tryz.a124r0 : ACode := .region [⟨(some 4), .box (.t 1) [], none⟩,
  ⟨(some 5), .mv (.c (.bool false)), none⟩]
def Tryz.a124r1 : ACode := .region [⟨(some 6), .mv (.t 0), none⟩,
  ⟨(some 7), .mv (.t 6), none⟩,
  ⟨(some 8), .load true 19 (.t 2), (some (7, true))⟩,
  ⟨(some 9), .load true 4 (.t 4), (some (7, true))⟩,
  ⟨(some 10), .call (.c (.func 125 [] [])) [(.t 8), (.t 9)], (some (7, true))⟩,
  ⟨(some 11), .pick (.t 7) (.t 10) (.c (.bool false)), none⟩,
  ⟨(some 12), .mv (.t 11), none⟩,
  ⟨(some 13), .mv (.t 0), (some (12, false))⟩,
  ⟨(some 14), .un .not (.t 13), (some (12, false))⟩,
  ⟨(some 15), .mv (.t 14), (some (12, false))⟩,
  ⟨(some 16), .addo 0 (.t 4), (some (15, true))⟩,
  ⟨(some 17), .load false 1 (.t 16), (some (15, true))⟩,
  ⟨(some 18), .bin .eql 0 (.t 17) (.c (.int .i64 0)), (some (15, true))⟩,
  ⟨(some 19), .pick (.t 15) (.t 18) (.c (.bool false)), (some (12, false))⟩,
  ⟨(some 20), .mv (.t 19), (some (12, false))⟩,
  ⟨(some 21), .addo 1 (.t 4), (some (20, true))⟩,
  ⟨(some 22), .load false 1 (.t 21), (some (20, true))⟩,
  ⟨(some 23), .bin .eql 0 (.t 22) (.c (.int .i64 0)), (some (20, true))⟩,
  ⟨(some 24), .pick (.t 20) (.t 23) (.c (.bool false)), (some (12, false))⟩,
  ⟨(some 25), .mv (.t 24), (some (12, false))⟩,
  ⟨(some 26), .addo 2 (.t 4), (some (25, true))⟩,
  ⟨(some 27), .load false 1 (.t 26), (some (25, true))⟩,
  ⟨(some 28), .bin .eql 0 (.t 27) (.c (.int .i64 0)), (some (25, true))⟩,
  ⟨(some 29), .pick (.t 25) (.t 28) (.c (.bool false)), (some (12, false))⟩,
  ⟨(some 30), .mv (.t 29), (some (12, false))⟩,
  ⟨(some 31), .addo 3 (.t 4), (some (30, true))⟩,
  ⟨(some 32), .load false 1 (.t 31), (some (30, true))⟩,
  ⟨(some 33), .len 0 (.t 32), (some (30, true))⟩,
  ⟨(some 34), .bin .eql 0 (.t 33) (.c (.int .i64 0)), (some (30, true))⟩,
  ⟨(some 35), .pick (.t 30) (.t 34) (.c (.bool false)), (some (12, false))⟩,
  ⟨(some 36), .pick (.t 12) (.c (.bool true)) (.t 35), none⟩,
  ⟨(some 5), .mv (.t 36), none⟩]
def Tryz.c124 : ACode := .seq (Tryz.a124r0) (.seq (Tryz.a124r1) (.ret))
def Tryz.a124 : AFunc := ⟨37, Tryz.c124, [(5, none)], false⟩
theorem Tryz.a124_ok : chkFunc Tryz.prog Tryz.eqs Tryz.f124 Tryz.a124 = true := by kernel_rfl
theorem Tryz.w124 {first caps args : List AVal} {heap : List AObj} {K : AVal → List AObj → Prop} (N : Nat) (h : Ex (cfg Tryz.prog Tryz.eqs N) Tryz.c124 ⟨(first ++ args ++ caps) ++ List.replicate (37 - (first ++ args ++ caps).length) .undef, heap⟩ (kfun (cfg Tryz.prog Tryz.eqs N) [(5, none)] false heap.length K)) : Hs Tryz.prog Tryz.eqs (.func 124 first caps) args heap K := Hs.enter Tryz.eqs_plain N (fn := Tryz.f124) (by kernel_rfl) Tryz.a124_ok h
def Tryz.a125r0 : ACode := .region [⟨(some 2), .box (.t 0) [], none⟩,
  ⟨(some 3), .box (.t 1) [], none⟩,
  ⟨(some 4), .mv (.c (.bool false)), none⟩]
def Tryz.a125r1 : ACode := .region [⟨(some 8), .load true 19 (.t 2), none⟩,
  ⟨(some 9), .load true 4 (.t 3), none⟩,
  ⟨(some 10), .call (.c (.func 164 [] [])) [(.t 8), (.t 9), (.c (.int .i64 1))], none⟩,
  ⟨(some 7), .mv (.t 10), none⟩,
  ⟨(some 11), .ext 0 (.t 7), none⟩,
  ⟨(some 12), .ext 1 (.t 7), none⟩,
  ⟨(some 5), .mv (.t 11), none⟩,
  ⟨(some 6), .mv (.t 12), none⟩]
def Tryz.a125r2 : ACode := .region [⟨(some 13), .mv (.t 6), none⟩,
  ⟨(some 14), .mv (.t 13), none⟩,
  ⟨(some 15), .mv (.t 5), (some (14, true))⟩,
  ⟨(some 16), .bin .leq 0 (.t 15) (.c (.int .i64 60)), (some (14, true))⟩,
  ⟨(some 17), .pick (.t 14) (.t 16) (.c (.bool false)), none⟩,
  ⟨(some 4), .mv (.t 17), none⟩]
def Tryz.c125 : ACode := .seq (Tryz.a125r0) (.seq (Tryz.a125r1) (.seq (Tryz.a125r2) (.ret)))
def Tryz.a125 : AFunc := ⟨18, Tryz.c125, [(4, none)], false⟩
theorem Tryz.a125_ok : chkFunc Tryz.prog Tryz.eqs Tryz.f125 Tryz.a125 = true := by kernel_rfl
theorem Tryz.w125 {first caps args : List AVal} {heap : List AObj} {K : AVal → List AObj → Prop} (N : Nat) (h : Ex (cfg Tryz.prog Tryz.eqs N) Tryz.c125 ⟨(first ++ args ++ caps) ++ List.replicate (18 - (first ++ args ++ caps).length) .undef, heap⟩ (kfun (cfg Tryz.prog Tryz.eqs N) [(4, none)] false heap.length K)) : Hs Tryz.prog Tryz.eqs (.func 125 first caps) args heap K := Hs.enter Tryz.eqs_plain N (fn := Tryz.f125) (by kernel_rfl) Tryz.a125_ok h
def Tryz.a126r0 : ACode := .region [⟨(some 2), .box (.t 0) [], none⟩,
  ⟨(some 3), .box (.t 1) [], none⟩,
  ⟨(some 4), .mv (.c (.bool false)), none⟩]
def Tryz.a126r1 : ACode := .region [⟨(some 8), .load true 19 (.t 2), none⟩,
  ⟨(some 9), .load true 3 (.t 3), none⟩,
  ⟨(some 10), .call (.c (.func 165 [] [])) [(.t 8), (.t 9), (.c (.int .i64 1))], none⟩,
  ⟨(some 7), .mv (.t 10), none⟩,
  ⟨(some 11), .ext 0 (.t 7), none⟩,
  ⟨(some 12), .ext 1 (.t 7), none⟩,
  ⟨(some 5), .mv (.t 11), none⟩,
  ⟨(some 6), .mv (.t 12), none⟩]
def Tryz.a126r2 : ACode := .region [⟨(some 13), .mv (.t 6), none⟩,
  ⟨(some 14), .mv (.t 13), none⟩,
  ⟨(some 15), .mv (.t 5), (some (14, true))⟩,
  ⟨(some 16), .bin .leq 0 (.t 15) (.c (.int .i64 60)), (some (14, true))⟩,
  ⟨(some 17), .pick (.t 14) (.t 16) (.c (.bool false)), none⟩,
  ⟨(some 4), .mv (.t 17), none⟩]
def Tryz.c126 : ACode := .seq (Tryz.a126r0) (.seq (Tryz.a126r1) (.seq (Tryz.a126r2) (.ret)))
def Tryz.a126 : AFunc := ⟨18, Tryz.c126, [(4, none)], false⟩
theorem Tryz.a126_ok : chkFunc Tryz.prog Tryz.eqs Tryz.f126 Tryz.a126 = true := by kernel_rfl
theorem Tryz.w126 {first caps args : List AVal} {heap : List AObj} {K : AVal → List AObj → Prop} (N : Nat) (h : Ex (cfg Tryz.prog Tryz.eqs N) Tryz.c126 ⟨(first ++ args ++ caps) ++ List.replicate (18 - (first ++ args ++ caps).length) .undef, heap⟩ (kfun (cfg Tryz.prog Tryz.eqs N) [(4, none)] false heap.length K)) : Hs Tryz.prog Tryz.eqs (.func 126 first caps) args heap K := Hs.enter Tryz.eqs_plain N (fn := Tryz.f126) (by kernel_rfl) Tryz.a126_ok h
def Tryz.a127r0 : ACode := .region [⟨(some 3), .mv (.c (.bool false)), none⟩]
def Tryz.a127r1 : ACode := .region [⟨(some 4), .load true 19 (.t 1), none⟩,
  ⟨(some 5), .mv (.t 0), none⟩,
  ⟨(some 6), .call (.c (.func 123 [] [])) [(.t 4), (.c (.int .i64 3)), (.t 5)], none⟩,
  ⟨(some 3), .mv (.t 6), none⟩]
def Tryz.c127 : ACode := .seq (Tryz.a127r0) (.seq (Tryz.a127r1) (.ret))
def Tryz.a127 : AFunc := ⟨7, Tryz.c127, [(3, none)], false⟩
theorem Tryz.a127_ok : chkFunc Tryz.prog Tryz.eqs Tryz.f127 Tryz.a127 = true := by kernel_rfl
theorem Tryz.w127 {first caps args : List AVal} {heap : List AObj} {K : AVal → List AObj → Prop} (N : Nat) (h : Ex (cfg Tryz.prog Tryz.eqs N) Tryz.c127 ⟨(first ++ args ++ caps) ++ List.replicate (7 - (first ++ args ++ caps).length) .undef, heap⟩ (kfun (cfg Tryz.prog Tryz.eqs N) [(3, none)] false heap.length K)) : Hs Tryz.prog Tryz.eqs (.func 127 first caps) args heap K := Hs.enter Tryz.eqs_plain N (fn := Tryz.f127) (by kernel_rfl) Tryz.a127_ok h
def Tryz.a128r0 : ACode := .region [⟨(some 5), .box (.t 2) [], none⟩,
  ⟨(some 6), .mv (.c (.bool false)), none⟩]
def Tryz.a128r1 : ACode := .region [⟨(some 7), .mv (.t 0), none⟩,
  ⟨(some 8), .len 0 (.t 7), none⟩,
  ⟨(some 9), .mv (.t 1), none⟩,
  ⟨(some 10), .bin .leq 0 (.t 8) (.t 9), none⟩,
  ⟨(some 11), .mv (.t 10), none⟩,
  ⟨(some 12), .mv (.t 0), (some (11, true))⟩,
  ⟨(some 13), .mkf 167 [] [(.t 5)], (some (11, true))⟩,
  ⟨(some 14), .call (.c (.func 166 [] [])) [(.t 12), (.t 13)], (some (11, true))⟩,
  ⟨(some 15), .un .not (.t 14), (some (11, true))⟩,
  ⟨(some 16), .pick (.t 11) (.t 15) (.c (.bool false)), none⟩,
  ⟨(some 6), .mv (.t 16), none⟩]
def Tryz.c128 : ACode := .seq (Tryz.a128r0) (.seq (Tryz.a128r1) (.ret))
def Tryz.a128 : AFunc := ⟨17, Tryz.c128, [(6, none)], false⟩
theorem Tryz.a128_ok : chkFunc Tryz.prog Tryz.eqs Tryz.f128 Tryz.a128 = true := by kernel_rfl
theorem Tryz.w128 {first caps args : List AVal} {heap : List AObj} {K : AVal → List AObj → Prop} (N : Nat) (h : Ex (cfg Tryz.prog Tryz.eqs N) Tryz.c128 ⟨(first ++ args ++ caps) ++ List.replicate (17 - (first ++ args ++ caps).length) .undef, heap⟩ (kfun (cfg Tryz.prog Tryz.eqs N) [(6, none)] false heap.length K)) : Hs Tryz.prog Tryz.eqs (.func 128 first caps) args heap K := Hs.enter Tryz.eqs_plain N (fn := Tryz.f128) (by kernel_rfl) Tryz.a128_ok h
def Tryz.a131r0 : ACode := .region [⟨(some 8), .mv (.t 1), none⟩,
  ⟨(some 9), .bin .add 0 (.t 8) (.c (.int .i64 1)), none⟩,
  ⟨(some 6), .mv (.t 9), none⟩]
def Tryz.a131r1 : ACode := .region [⟨(some 10), .mv (.t 6), none⟩,
  ⟨(some 11), .mv (.t 2), none⟩,
  ⟨(some 12), .bin .lss 0 (.t 10) (.t 11), none⟩]
def Tryz.a131r2 : ACode := .region [⟨(some 15), .mv (.t 6), none⟩,
  ⟨(some 7), .mv (.t 15), none⟩]
def Tryz.a131r3 : ACode := .draw [⟨0, ⟨(some 16), .mv (.t 7), none⟩, []⟩,
  ⟨1, ⟨(some 17), .mv (.t 1), none⟩, []⟩,
  ⟨2, ⟨(some 18), .bin .gtr 0 (.t 16) (.t 17), none⟩, []⟩,
  ⟨3, ⟨(some 19), .mv (.t 18), none⟩, []⟩,
  ⟨4, ⟨(some 20), .mv (.t 0), (some (19, true))⟩, []⟩,
  ⟨5, ⟨(some 21), .mv (.t 7), (some (19, true))⟩, []⟩,
  ⟨6, ⟨(some 22), .idx 1 (.t 20) (.t 21), (some (19, true))⟩, []⟩,
  ⟨7, ⟨(some 23), .load false 1 (.t 22), (some (19, true))⟩, []⟩,
  ⟨8, ⟨(some 24), .mv (.t 0), (some (19, true))⟩, []⟩,
  ⟨9, ⟨(some 25), .mv (.t 7), (some (19, true))⟩, []⟩,
  ⟨10, ⟨(some 26), .bin .sub 0 (.t 25) (.c (.int .i64 1)), (some (19, true))⟩, []⟩,
  ⟨11, ⟨(some 27), .idx 1 (.t 24) (.t 26), (some (19, true))⟩, []⟩,
  ⟨12, ⟨(some 28), .load false 1 (.t 27), (some (19, true))⟩, []⟩,
  ⟨13, ⟨(some 29), .call (.c (.func 137 [] [])) [(.t 23), (.t 28)], (some (19, true))⟩, []⟩,
  ⟨14, ⟨(some 30), .pick (.t 19) (.t 29) (.c (.bool false)), none⟩, []⟩] [[], [], [0, 1], [0, 1, 2], [0, 1, 2, 3], [0, 1, 2, 3], [0, 1, 2, 3, 4, 5], [0, 1, 2, 3, 4, 5, 6], [0, 1, 2, 3], [0, 1, 2, 3], [0, 1, 2, 3, 9], [0, 1, 2, 3, 8, 9, 10], [0, 1, 2, 3, 8, 9, 10, 11], [0, 1, 2, 3, 4, 5, 6, 7, 8, 9, 10, 11, 12], [0, 1, 2, 3, 4, 5, 6, 7, 8, 9, 10, 11, 12, 13]]
def Tryz.a131r4 : ACode := .draw [⟨0, ⟨(some 33), .mv (.t 0), none⟩, []⟩,
  ⟨1, ⟨(some 34), .mv (.t 7), none⟩, []⟩,
  ⟨2, ⟨(some 35), .mv (.t 0), none⟩, []⟩,
  ⟨3, ⟨(some 36), .mv (.t 7), none⟩, []⟩,
  ⟨4, ⟨(some 37), .bin .sub 0 (.t 36) (.c (.int .i64 1)), none⟩, []⟩,
  ⟨5, ⟨(some 38), .mv (.t 0), none⟩, []⟩,
  ⟨6, ⟨(some 39), .mv (.t 7), none⟩, []⟩,
  ⟨7, ⟨(some 40), .bin .sub 0 (.t 39) (.c (.int .i64 1)), none⟩, []⟩,
  ⟨8, ⟨(some 41), .idx 1 (.t 38) (.t 40), none⟩, []⟩,
  ⟨9, ⟨(some 42), .load false 1 (.t 41), none⟩, []⟩,
  ⟨10, ⟨(some 43), .mv (.t 0), none⟩, []⟩,
  ⟨11, ⟨(some 44), .mv (.t 7), none⟩, []⟩,
  ⟨12, ⟨(some 45), .idx 1 (.t 43) (.t 44), none⟩, []⟩,
  ⟨13, ⟨(some 46), .load false 1 (.t 45), none⟩, []⟩,
  ⟨14, ⟨(some 47), .idx 1 (.t 33) (.t 34), none⟩, []⟩,
  ⟨15, ⟨none, .store 1 (.t 47) (.t 42) [], none⟩, []⟩,
  ⟨16, ⟨(some 48), .idx 1 (.t 35) (.t 37), none⟩, []⟩,
  ⟨17, ⟨none, .store 1 (.t 48) (.t 46) [], none⟩, []⟩] [[], [], [], [], [3], [], [], [6], [5, 6, 7], [5, 6, 7, 8], [], [], [10, 11], [10, 11, 12], [0, 1, 5, 6, 7, 8, 9, 10, 11, 12, 13], [0, 1, 5, 6, 7, 8, 9, 10, 11, 12, 13, 14], [0, 1, 2, 3, 4, 5, 6, 7, 8, 9, 10, 11, 12, 13, 14, 15], [0, 1, 2, 3, 4, 5, 6, 7, 8, 9, 10, 11, 12, 13, 14, 15, 16]]
def Tryz.a131r5 : ACode := .region [⟨(some 31), .mv (.t 7), none⟩,
  ⟨(some 32), .bin .sub 0 (.t 31) (.c (.int .i64 1)), none⟩,
  ⟨(some 7), .mv (.t 32), none⟩]
def Tryz.a131l6 : ACode := .seq (.seq (Tryz.a131r3) (.cond (.t 30) (.skip) (.exit 2))) (.seq (.block 3 (Tryz.a131r4)) (Tryz.a131r5))
def Tryz.a131r7 : ACode := .region [⟨(some 13), .mv (.t 6), none⟩,
  ⟨(some 14), .bin .add 0 (.t 13) (.c (.int .i64 1)), none⟩,
  ⟨(some 6), .mv (.t 14), none⟩]
def Tryz.a131l8 : ACode := .seq (.seq (Tryz.a131r1) (.cond (.t 12) (.skip) (.exit 0))) (.seq (.block 1 (.seq (Tryz.a131r2) (.block 2 (.loop [0, 1, 2, 6, 7] Tryz.a131l6)))) (Tryz.a131r7))
def Tryz.c131 : ACode := .seq (Tryz.a131r0) (.block 0 (.loop [0, 1, 2, 6] Tryz.a131l8))
def Tryz.a131 : AFunc := ⟨49, Tryz.c131, [], false⟩
theorem Tryz.a131_ok : chkFunc Tryz.prog Tryz.eqs Tryz.f131 Tryz.a131 = true := by kernel_rfl
theorem Tryz.w131 {first caps args : List AVal} {heap : List AObj} {K : AVal → List AObj → Prop} (N : Nat) (h : Ex (cfg Tryz.prog Tryz.eqs N) Tryz.c131 ⟨(first ++ args ++ caps) ++ List.replicate (49 - (first ++ args ++ caps).length) .undef, heap⟩ (kfun (cfg Tryz.prog Tryz.eqs N) [] false heap.length K)) : Hs Tryz.prog Tryz.eqs (.func 131 first caps) args heap K := Hs.enter Tryz.eqs_plain N (fn := Tryz.f131) (by kernel_rfl) Tryz.a131_ok h
def Tryz.a132r0 : ACode := .region [⟨(some 11), .mv (.t 1), none⟩,
  ⟨(some 6), .mv (.t 11), none⟩]
def Tryz.a132r1 : ACode := .region [⟨(some 7), .mv (.c (.int .i64 0)), none⟩]
def Tryz.a132r2 : ACode := .region [⟨(some 12), .mv (.t 2), none⟩,
  ⟨(some 13), .mv (.t 1), none⟩,
  ⟨(some 14), .bin .sub 0 (.t 12) (.t 13), none⟩,
  ⟨(some 8), .mv (.t 14), none⟩]
def Tryz.a132r3 : ACode := .region [⟨(some 15), .mv (.t 8), none⟩,
  ⟨(some 16), .bin .sub 0 (.t 15) (.c (.int .i64 1)), none⟩,
  ⟨(some 17), .bin .quo 0 (.t 16) (.c (.int .i64 2)), none⟩,
  ⟨(some 9), .mv (.t 17), none⟩]
def Tryz.a132r4 : ACode := .region [⟨(some 18), .mv (.t 9), none⟩,
  ⟨(some 19), .bin .geq 0 (.t 18) (.c (.int .i64 0)), none⟩]
def Tryz.a132r5 : ACode := .region [⟨(some 22), .mv (.t 0), none⟩,
  ⟨(some 23), .mv (.t 9), none⟩,
  ⟨(some 24), .mv (.t 8), none⟩,
  ⟨(some 25), .mv (.t 6), none⟩,
  ⟨(some 26), .call (.c (.func 170 [] [])) [(.t 22), (.t 23), (.t 24), (.t 25)], none⟩]
def Tryz.a132r6 : ACode := .region [⟨(some 20), .mv (.t 9), none⟩,
  ⟨(some 21), .bin .sub 0 (.t 20) (.c (.int .i64 1)), none⟩,
  ⟨(some 9), .mv (.t 21), none⟩]
def Tryz.a132l7 : ACode := .seq (.seq (Tryz.a132r4) (.cond (.t 19) (.skip) (.exit 0))) (.seq (.block 1 (Tryz.a132r5)) (Tryz.a132r6))
def Tryz.a132r8 : ACode := .region [⟨(some 27), .mv (.t 8), none⟩,
  ⟨(some 28), .bin .sub 0 (.t 27) (.c (.int .i64 1)), none⟩,
  ⟨(some 10), .mv (.t 28), none⟩]
def Tryz.a132r9 : ACode := .region [⟨(some 29), .mv (.t 10), none⟩,
  ⟨(some 30), .bin .geq 0 (.t 29) (.c (.int .i64 0)), none⟩]
def Tryz.a132r10 : ACode := .draw [⟨0, ⟨(some 33), .mv (.t 0), none⟩, []⟩,
  ⟨1, ⟨(some 34), .mv (.t 6), none⟩, []⟩,
  ⟨2, ⟨(some 35), .mv (.t 0), none⟩, []⟩,
  ⟨3, ⟨(some 36), .mv (.t 6), none⟩, []⟩,
  ⟨4, ⟨(some 37), .mv (.t 10), none⟩, []⟩,
  ⟨5, ⟨(some 38), .bin .add 0 (.t 36) (.t 37), none⟩, []⟩,
  ⟨6, ⟨(some 39), .mv (.t 0), none⟩, []⟩,
  ⟨7, ⟨(some 40), .mv (.t 6), none⟩, []⟩,
  ⟨8, ⟨(some 41), .mv (.t 10), none⟩, []⟩,
  ⟨9, ⟨(some 42), .bin .add 0 (.t 40) (.t 41), none⟩, []⟩,
  ⟨10, ⟨(some 43), .idx 1 (.t 39) (.t 42), none⟩, []⟩,
  ⟨11, ⟨(some 44), .load false 1 (.t 43), none⟩, []⟩,
  ⟨12, ⟨(some 45), .mv (.t 0), none⟩, []⟩,
  ⟨13, ⟨(some 46), .mv (.t 6), none⟩, []⟩,
  ⟨14, ⟨(some 47), .idx 1 (.t 45) (.t 46), none⟩, []⟩,
  ⟨15, ⟨(some 48), .load false 1 (.t 47), none⟩, []⟩,
  ⟨16, ⟨(some 49), .idx 1 (.t 33) (.t 34), none⟩, []⟩,
  ⟨17, ⟨none, .store 1 (.t 49) (.t 44) [], none⟩, []⟩,
  ⟨18, ⟨(some 50), .idx 1 (.t 35) (.t 38), none⟩, []⟩,
  ⟨19, ⟨none, .store 1 (.t 50) (.t 48) [], none⟩, []⟩] [[], [], [], [], [], [3, 4], [], [], [], [7, 8], [6, 7, 8, 9], [6, 7, 8, 9, 10], [], [], [12, 13], [12, 13, 14], [0, 1, 6, 7, 8, 9, 10, 11, 12, 13, 14, 15], [0, 1, 6, 7, 8, 9, 10, 11, 12, 13, 14, 15, 16], [0, 1, 2, 3, 4, 5, 6, 7, 8, 9, 10, 11, 12, 13, 14, 15, 16, 17], [0, 1, 2, 3, 4, 5, 6, 7, 8, 9, 10, 11, 12, 13, 14, 15, 16, 17, 18]]
def Tryz.a132r11 : ACode := .region [⟨(some 51), .mv (.t 0), none⟩,
  ⟨(some 52), .mv (.t 7), none⟩,
  ⟨(some 53), .mv (.t 10), none⟩,
  ⟨(some 54), .mv (.t 6), none⟩,
  ⟨(some 55), .call (.c (.func 170 [] [])) [(.t 51), (.t 52), (.t 53), (.t 54)], none⟩]
def Tryz.a132r12 : ACode := .region [⟨(some 31), .mv (.t 10), none⟩,
  ⟨(some 32), .bin .sub 0 (.t 31) (.c (.int .i64 1)), none⟩,
  ⟨(some 10), .mv (.t 32), none⟩]
def Tryz.a132l13 : ACode := .seq (.seq (Tryz.a132r9) (.cond (.t 30) (.skip) (.exit 2))) (.seq (.block 3 (.seq (Tryz.a132r10) (Tryz.a132r11))) (Tryz.a132r12))
def Tryz.c132 : ACode := .seq (Tryz.a132r0) (.seq (Tryz.a132r1) (.seq (Tryz.a132r2) (.seq (.seq (Tryz.a132r3) (.block 0 (.loop [0, 6, 7, 8, 9] Tryz.a132l7))) (.seq (Tryz.a132r8) (.block 2 (.loop [0, 6, 7, 10] Tryz.a132l13))))))
def Tryz.a132 : AFunc := ⟨56, Tryz.c132, [], false⟩
theorem Tryz.a132_ok : chkFunc Tryz.prog Tryz.eqs Tryz.f132 Tryz.a132 = true := by kernel_rfl
theorem Tryz.w132 {first caps args : List AVal} {heap : List AObj} {K : AVal → List AObj → Prop} (N : Nat) (h : Ex (cfg Tryz.prog Tryz.eqs N) Tryz.c132 ⟨(first ++ args ++ caps) ++ List.replicate (56 - (first ++ args ++ caps).length) .undef, heap⟩ (kfun (cfg Tryz.prog Tryz.eqs N) [] false heap.length K)) : Hs Tryz.prog Tryz.eqs (.func 132 first caps) args heap K := Hs.enter Tryz.eqs_plain N (fn := Tryz.f132) (by kernel_rfl) Tryz.a132_ok h
def Tryz.a133r0 : ACode := .region [⟨(some 11), .mv (.t 2), none⟩,
  ⟨(some 12), .mv (.t 1), none⟩,
  ⟨(some 13), .bin .sub 0 (.t 11) (.t 12), none⟩,
  ⟨(some 6), .mv (.t 13), none⟩]
def Tryz.a133r1 : ACode := .region [⟨(some 14), .mv (.t 6), none⟩,
  ⟨(some 15), .bin .geq 0 (.t 14) (.c (.int .i64 8)), none⟩]
def Tryz.a133r2 : ACode := .region [⟨(some 16), .mv (.t 6), none⟩,
  ⟨(some 17), .conv .u64 (.t 16), none⟩,
  ⟨(some 7), .alloc 1 (.int .u64 0) [], none⟩,
  ⟨none, .store 1 (.t 7) (.t 17) [], none⟩]
def Tryz.a133r3 : ACode := .region [⟨(some 18), .mv (.t 6), none⟩,
  ⟨(some 19), .call (.c (.func 171 [] [])) [(.t 18)], none⟩,
  ⟨(some 8), .mv (.t 19), none⟩]
def Tryz.a133r4 : ACode := .region [⟨(some 20), .mv (.t 1), none⟩,
  ⟨(some 21), .mv (.t 6), none⟩,
  ⟨(some 22), .bin .quo 0 (.t 21) (.c (.int .i64 4)), none⟩,
  ⟨(some 23), .bin .mul 0 (.t 22) (.c (.int .i64 2)), none⟩,
  ⟨(some 24), .bin .add 0 (.t 20) (.t 23), none⟩,
  ⟨(some 25), .bin .sub 0 (.t 24) (.c (.int .i64 1)), none⟩,
  ⟨(some 9), .mv (.t 25), none⟩]
def Tryz.a133r5 : ACode := .region [⟨(some 26), .mv (.t 9), none⟩,
  ⟨(some 27), .mv (.t 1), none⟩,
  ⟨(some 28), .mv (.t 6), none⟩,
  ⟨(some 29), .bin .quo 0 (.t 28) (.c (.int .i64 4)), none⟩,
  ⟨(some 30), .bin .mul 0 (.t 29) (.c (.int .i64 2)), none⟩,
  ⟨(some 31), .bin .add 0 (.t 27) (.t 30), none⟩,
  ⟨(some 32), .bin .add 0 (.t 31) (.c (.int .i64 1)), none⟩,
  ⟨(some 33), .bin .leq 0 (.t 26) (.t 32), none⟩]
def Tryz.a133r6 : ACode := .region [⟨(some 36), .call (.c (.func 172 [] [])) [(.t 7)], none⟩,
  ⟨(some 37), .mv (.t 8), none⟩,
  ⟨(some 38), .bin .sub 0 (.t 37) (.c (.int .u64 1)), none⟩,
  ⟨(some 39), .bin .and 0 (.t 36) (.t 38), none⟩,
  ⟨(some 40), .conv .i64 (.t 39), none⟩,
  ⟨(some 10), .mv (.t 40), none⟩]
def Tryz.a133r7 : ACode := .region [⟨(some 41), .mv (.t 10), none⟩,
  ⟨(some 42), .mv (.t 6), none⟩,
  ⟨(some 43), .bin .geq 0 (.t 41) (.t 42), none⟩]
def Tryz.a133r8 : ACode := .region [⟨(some 44), .mv (.t 10), none⟩,
  ⟨(some 45), .mv (.t 6), none⟩,
  ⟨(some 46), .bin .sub 0 (.t 44) (.t 45), none⟩,
  ⟨(some 10), .mv (.t 46), none⟩]
def Tryz.a133r9 : ACode := .draw [⟨0, ⟨(some 47), .mv (.t 0), none⟩, []⟩,
  ⟨1, ⟨(some 48), .mv (.t 9), none⟩, []⟩,
  ⟨2, ⟨(some 49), .mv (.t 0), none⟩, []⟩,
  ⟨3, ⟨(some 50), .mv (.t 1), none⟩, []⟩,
  ⟨4, ⟨(some 51), .mv (.t 10), none⟩, []⟩,
  ⟨5, ⟨(some 52), .bin .add 0 (.t 50) (.t 51), none⟩, []⟩,
  ⟨6, ⟨(some 53), .mv (.t 0), none⟩, []⟩,
  ⟨7, ⟨(some 54), .mv (.t 1), none⟩, []⟩,
  ⟨8, ⟨(some 55), .mv (.t 10), none⟩, []⟩,
  ⟨9, ⟨(some 56), .bin .add 0 (.t 54) (.t 55), none⟩, []⟩,
  ⟨10, ⟨(some 57), .idx 1 (.t 53) (.t 56), none⟩, []⟩,
  ⟨11, ⟨(some 58), .load false 1 (.t 57), none⟩, []⟩,
  ⟨12, ⟨(some 59), .mv (.t 0), none⟩, []⟩,
  ⟨13, ⟨(some 60), .mv (.t 9), none⟩, []⟩,
  ⟨14, ⟨(some 61), .idx 1 (.t 59) (.t 60), none⟩, []⟩,
  ⟨15, ⟨(some 62), .load false 1 (.t 61), none⟩, []⟩,
  ⟨16, ⟨(some 63), .idx 1 (.t 47) (.t 48), none⟩, []⟩,
  ⟨17, ⟨none, .store 1 (.t 63) (.t 58) [], none⟩, []⟩,
  ⟨18, ⟨(some 64), .idx 1 (.t 49) (.t 52), none⟩, []⟩,
  ⟨19, ⟨none, .store 1 (.t 64) (.t 62) [], none⟩, []⟩] [[], [], [], [], [], [3, 4], [], [], [], [7, 8], [6, 7, 8, 9], [6, 7, 8, 9, 10], [], [], [12, 13], [12, 13, 14], [0, 1, 6, 7, 8, 9, 10, 11, 12, 13, 14, 15], [0, 1, 6, 7, 8, 9, 10, 11, 12, 13, 14, 15, 16], [0, 1, 2, 3, 4, 5, 6, 7, 8, 9, 10, 11, 12, 13, 14, 15, 16, 17], [0, 1, 2, 3, 4, 5, 6, 7, 8, 9, 10, 11, 12, 13, 14, 15, 16, 17, 18]]
def Tryz.a133r10 : ACode := .region [⟨(some 34), .mv (.t 9), none⟩,
  ⟨(some 35), .bin .add 0 (.t 34) (.c (.int .i64 1)), none⟩,
  ⟨(some 9), .mv (.t 35), none⟩]
def Tryz.a133l11 : ACode := .seq (.seq (Tryz.a133r5) (.cond (.t 33) (.skip) (.exit 0))) (.seq (.block 1 (.seq (Tryz.a133r6) (.seq (.seq (Tryz.a133r7) (.cond (.t 43) (Tryz.a133r8) (.skip))) (Tryz.a133r9)))) (Tryz.a133r10))
def Tryz.c133 : ACode := .seq (Tryz.a133r0) (.seq (Tryz.a133r1) (.cond (.t 15) (.seq (Tryz.a133r2) (.seq (Tryz.a133r3) (.seq (Tryz.a133r4) (.block 0 (.loop [0, 1, 6, 7, 8, 9] Tryz.a133l11))))) (.skip)))
def Tryz.a133 : AFunc := ⟨65, Tryz.c133, [], false⟩
theorem Tryz.a133_ok : chkFunc Tryz.prog Tryz.eqs Tryz.f133 Tryz.a133 = true := by kernel_rfl
theorem Tryz.w133 {first caps args : List AVal} {heap : List AObj} {K : AVal → List AObj → Prop} (N : Nat) (h : Ex (cfg Tryz.prog Tryz.eqs N) Tryz.c133 ⟨(first ++ args ++ caps) ++ List.replicate (65 - (first ++ args ++ caps).length) .undef, heap⟩ (kfun (cfg Tryz.prog Tryz.eqs N) [] false heap.length K)) : Hs Tryz.prog Tryz.eqs (.func 133 first caps) args heap K := Hs.enter Tryz.eqs_plain N (fn := Tryz.f133) (by kernel_rfl) Tryz.a133_ok h
def Tryz.a134r0 : ACode := .region [⟨(some 6), .mv (.c (.int .i64 0)), none⟩,
  ⟨(some 7), .mv (.c (.int .i64 0)), none⟩]
def Tryz.a134r1 : ACode := .region [⟨(some 13), .mv (.t 2), none⟩,
  ⟨(some 14), .mv (.t 1), none⟩,
  ⟨(some 15), .bin .sub 0 (.t 13) (.t 14), none⟩,
  ⟨(some 8), .mv (.t 15), none⟩]
def Tryz.a134r2 : ACode := .region [⟨(some 9), .alloc 1 (.int .i64 0) [], none⟩]
def Tryz.a134r3 : ACode := .region [⟨(some 16), .mv (.t 1), none⟩,
  ⟨(some 17), .mv (.t 8), none⟩,
  ⟨(some 18), .bin .quo 0 (.t 17) (.c (.int .i64 4)), none⟩,
  ⟨(some 19), .bin .mul 0 (.t 18) (.c (.int .i64 1)), none⟩,
  ⟨(some 20), .bin .add 0 (.t 16) (.t 19), none⟩,
  ⟨(some 10), .mv (.t 20), none⟩]
def Tryz.a134r4 : ACode := .region [⟨(some 21), .mv (.t 1), none⟩,
  ⟨(some 22), .mv (.t 8), none⟩,
  ⟨(some 23), .bin .quo 0 (.t 22) (.c (.int .i64 4)), none⟩,
  ⟨(some 24), .bin .mul 0 (.t 23) (.c (.int .i64 2)), none⟩,
  ⟨(some 25), .bin .add 0 (.t 21) (.t 24), none⟩,
  ⟨(some 11), .mv (.t 25), none⟩]
def Tryz.a134r5 : ACode := .region [⟨(some 26), .mv (.t 1), none⟩,
  ⟨(some 27), .mv (.t 8), none⟩,
  ⟨(some 28), .bin .quo 0 (.t 27) (.c (.int .i64 4)), none⟩,
  ⟨(some 29), .bin .mul 0 (.t 28) (.c (.int .i64 3)), none⟩,
  ⟨(some 30), .bin .add 0 (.t 26) (.t 29), none⟩,
  ⟨(some 12), .mv (.t 30), none⟩]
def Tryz.a134r6 : ACode := .region [⟨(some 31), .mv (.t 8), none⟩,
  ⟨(some 32), .bin .geq 0 (.t 31) (.c (.int .i64 8)), none⟩]
def Tryz.a134r7 : ACode := .region [⟨(some 33), .mv (.t 8), none⟩,
  ⟨(some 34), .bin .geq 0 (.t 33) (.c (.int .i64 50)), none⟩]
def Tryz.a134r8 : ACode := .region [⟨(some 35), .mv (.t 0), none⟩,
  ⟨(some 36), .mv (.t 10), none⟩,
  ⟨(some 37), .call (.c (.func 173 [] [])) [(.t 35), (.t 36), (.t 9)], none⟩,
  ⟨(some 10), .mv (.t 37), none⟩]
def Tryz.a134r9 : ACode := .region [⟨(some 38), .mv (.t 0), none⟩,
  ⟨(some 39), .mv (.t 11), none⟩,
  ⟨(some 40), .call (.c (.func 173 [] [])) [(.t 38), (.t 39), (.t 9)], none⟩,
  ⟨(some 11), .mv (.t 40), none⟩]
def Tryz.a134r10 : ACode := .region [⟨(some 41), .mv (.t 0), none⟩,
  ⟨(some 42), .mv (.t 12), none⟩,
  ⟨(some 43), .call (.c (.func 173 [] [])) [(.t 41), (.t 42), (.t 9)], none⟩,
  ⟨(some 12), .mv (.t 43), none⟩]
def Tryz.a134r11 : ACode := .region [⟨(some 44), .mv (.t 0), none⟩,
  ⟨(some 45), .mv (.t 10), none⟩,
  ⟨(some 46), .mv (.t 11), none⟩,
  ⟨(some 47), .mv (.t 12), none⟩,
  ⟨(some 48), .call (.c (.func 174 [] [])) [(.t 44), (.t 45), (.t 46), (.t 47), (.t 9)], none⟩,
  ⟨(some 11), .mv (.t 48), none⟩]
def Tryz.a134r12 : ACode := .region [⟨(some 49), .load false 1 (.t 9), none⟩]
def Tryz.a134r13 : ACode := .region [⟨(some 52), .bin .eql 0 (.t 49) (.c (.int .i64 0)), none⟩,
  ⟨(some 51), .mv (.t 52), none⟩]
def Tryz.a134r14 : ACode := .region [⟨(some 53), .mv (.t 11), none⟩,
  ⟨(some 6), .mv (.t 53), none⟩,
  ⟨(some 7), .mv (.c (.int .i64 1)), none⟩]
def Tryz.a134r15 : ACode := .region [⟨(some 55), .bin .eql 0 (.t 49) (.c (.int .i64 12)), none⟩,
  ⟨(some 54), .mv (.t 55), none⟩]
def Tryz.a134r16 : ACode := .region [⟨(some 56), .mv (.t 11), none⟩,
  ⟨(some 6), .mv (.t 56), none⟩,
  ⟨(some 7), .mv (.c (.int .i64 2)), none⟩]
def Tryz.a134r17 : ACode := .region [⟨(some 50), .mv (.t 11), none⟩,
  ⟨(some 6), .mv (.t 50), none⟩,
  ⟨(some 7), .mv (.c (.int .i64 0)), none⟩]
def Tryz.c134 : ACode := .seq (Tryz.a134r0) (.seq (Tryz.a134r1) (.seq (Tryz.a134r2) (.seq (Tryz.a134r3) (.seq (Tryz.a134r4) (.seq (Tryz.a134r5) (.seq (.seq (Tryz.a134r6) (.cond (.t 32) (.seq (.seq (Tryz.a134r7) (.cond (.t 34) (.seq (Tryz.a134r8) (.seq (Tryz.a134r9) (Tryz.a134r10))) (.skip))) (Tryz.a134r11)) (.skip))) (.seq (Tryz.a134r12) (.block 0 (.seq (Tryz.a134r13) (.cond (.t 51) (.seq (Tryz.a134r14) (.ret)) (.seq (Tryz.a134r15) (.cond (.t 54) (.seq (Tryz.a134r16) (.ret)) (.seq (Tryz.a134r17) (.ret))))))))))))))
def Tryz.a134 : AFunc := ⟨57, Tryz.c134, [(6, none), (7, none)], false⟩
theorem Tryz.a134_ok : chkFunc Tryz.prog Tryz.eqs Tryz.f134 Tryz.a134 = true := by kernel_rfl
theorem Tryz.w134 {first caps args : List AVal} {heap : List AObj} {K : AVal → List AObj → Prop} (N : Nat) (h : Ex (cfg Tryz.prog Tryz.eqs N) Tryz.c134 ⟨(first ++ args ++ caps) ++ List.replicate (57 - (first ++ args ++ caps).length) .undef, heap⟩ (kfun (cfg Tryz.prog Tryz.eqs N) [(6, none), (7, none)] false heap.length K)) : Hs Tryz.prog Tryz.eqs (.func 134 first caps) args heap K := Hs.enter Tryz.eqs_plain N (fn := Tryz.f134) (by kernel_rfl) Tryz.a134_ok h
def Tryz.a135r0 : ACode := .region [⟨(some 8), .mv (.t 1), none⟩,
  ⟨(some 6), .mv (.t 8), none⟩]
def Tryz.a135r1 : ACode := .region [⟨(some 9), .mv (.t 2), none⟩,
  ⟨(some 10), .bin .sub 0 (.t 9) (.c (.int .i64 1)), none⟩,
  ⟨(some 7), .mv (.t 10), none⟩]
def Tryz.a135r2 : ACode := .region [⟨(some 11), .mv (.t 6), none⟩,
  ⟨(some 12), .mv (.t 7), none⟩,
  ⟨(some 13), .bin .lss 0 (.t 11) (.t 12), none⟩]
def Tryz.a135r3 : ACode := .draw [⟨0, ⟨(some 14), .mv (.t 0), none⟩, []⟩,
  ⟨1, ⟨(some 15), .mv (.t 6), none⟩, []⟩,
  ⟨2, ⟨(some 16), .mv (.t 0), none⟩, []⟩,
  ⟨3, ⟨(some 17), .mv (.t 7), none⟩, []⟩,
  ⟨4, ⟨(some 18), .mv (.t 0), none⟩, []⟩,
  ⟨5, ⟨(some 19), .mv (.t 7), none⟩, []⟩,
  ⟨6, ⟨(some 20), .idx 1 (.t 18) (.t 19), none⟩, []⟩,
  ⟨7, ⟨(some 21), .load false 1 (.t 20), none⟩, []⟩,
  ⟨8, ⟨(some 22), .mv (.t 0), none⟩, []⟩,
  ⟨9, ⟨(some 23), .mv (.t 6), none⟩, []⟩,
  ⟨10, ⟨(some 24), .idx 1 (.t 22) (.t 23), none⟩, []⟩,
  ⟨11, ⟨(some 25), .load false 1 (.t 24), none⟩, []⟩,
  ⟨12, ⟨(some 26), .idx 1 (.t 14) (.t 15), none⟩, []⟩,
  ⟨13, ⟨none, .store 1 (.t 26) (.t 21) [], none⟩, []⟩,
  ⟨14, ⟨(some 27), .idx 1 (.t 16) (.t 17), none⟩, []⟩,
  ⟨15, ⟨none, .store 1 (.t 27) (.t 25) [], none⟩, []⟩] [[], [], [], [], [], [], [4, 5], [4, 5, 6], [], [], [8, 9], [8, 9, 10], [0, 1, 4, 5, 6, 7, 8, 9, 10, 11], [0, 1, 4, 5, 6, 7, 8, 9, 10, 11, 12], [0, 1, 2, 3, 4, 5, 6, 7, 8, 9, 10, 11, 12, 13], [0, 1, 2, 3, 4, 5, 6, 7, 8, 9, 10, 11, 12, 13, 14]]
def Tryz.a135r4 : ACode := .region [⟨(some 28), .mv (.t 6), none⟩,
  ⟨(some 29), .bin .add 0 (.t 28) (.c (.int .i64 1)), none⟩,
  ⟨(some 6), .mv (.t 29), none⟩]
def Tryz.a135r5 : ACode := .region [⟨(some 30), .mv (.t 7), none⟩,
  ⟨(some 31), .bin .sub 0 (.t 30) (.c (.int .i64 1)), none⟩,
  ⟨(some 7), .mv (.t 31), none⟩]
def Tryz.a135l6 : ACode := .seq (.seq (Tryz.a135r2) (.cond (.t 13) (.skip) (.exit 0))) (.block 1 (.seq (Tryz.a135r3) (.seq (Tryz.a135r4) (Tryz.a135r5))))
def Tryz.c135 : ACode := .seq (Tryz.a135r0) (.seq (Tryz.a135r1) (.block 0 (.loop [0, 6, 7] Tryz.a135l6)))
def Tryz.a135 : AFunc := ⟨32, Tryz.c135, [], false⟩
theorem Tryz.a135_ok : chkFunc Tryz.prog Tryz.eqs Tryz.f135 Tryz.a135 = true := by kernel_rfl
theorem Tryz.w135 {first caps args : List AVal} {heap : List AObj} {K : AVal → List AObj → Prop} (N : Nat) (h : Ex (cfg Tryz.prog Tryz.eqs N) Tryz.c135 ⟨(first ++ args ++ caps) ++ List.replicate (32 - (first ++ args ++ caps).length) .undef, heap⟩ (kfun (cfg Tryz.prog Tryz.eqs N) [] false heap.length K)) : Hs Tryz.prog Tryz.eqs (.func 135 first caps) args heap K := Hs.enter Tryz.eqs_plain N (fn := Tryz.f135) (by kernel_rfl) Tryz.a135_ok h
def Tryz.a136r0 : ACode := .region [⟨(some 6), .mv (.c (.bool false)), none⟩]
def Tryz.a136r1 : ACode := .region [⟨(some 11), .mv (.t 1), none⟩,
  ⟨(some 12), .bin .add 0 (.t 11) (.c (.int .i64 1)), none⟩,
  ⟨(some 7), .mv (.t 12), none⟩]
def Tryz.a136r2 : ACode := .region [⟨(some 8), .mv (.c (.int .i64 0)), none⟩]
def Tryz.a136r3 : ACode := .region [⟨(some 13), .mv (.t 8), none⟩,
  ⟨(some 14), .bin .lss 0 (.t 13) (.c (.int .i64 5)), none⟩]
def Tryz.a136r4 : ACode := .draw [⟨0, ⟨(some 17), .mv (.t 7), none⟩, []⟩,
  ⟨1, ⟨(some 18), .mv (.t 2), none⟩, []⟩,
  ⟨2, ⟨(some 19), .bin .lss 0 (.t 17) (.t 18), none⟩, []⟩,
  ⟨3, ⟨(some 20), .mv (.t 19), none⟩, []⟩,
  ⟨4, ⟨(some 21), .mv (.t 0), (some (20, true))⟩, []⟩,
  ⟨5, ⟨(some 22), .mv (.t 7), (some (20, true))⟩, []⟩,
  ⟨6, ⟨(some 23), .idx 1 (.t 21) (.t 22), (some (20, true))⟩, []⟩,
  ⟨7, ⟨(some 24), .load false 1 (.t 23), (some (20, true))⟩, []⟩,
  ⟨8, ⟨(some 25), .mv (.t 0), (some (20, true))⟩, []⟩,
  ⟨9, ⟨(some 26), .mv (.t 7), (some (20, true))⟩, []⟩,
  ⟨10, ⟨(some 27), .bin .sub 0 (.t 26) (.c (.int .i64 1)), (some (20, true))⟩, []⟩,
  ⟨11, ⟨(some 28), .idx 1 (.t 25) (.t 27), (some (20, true))⟩, []⟩,
  ⟨12, ⟨(some 29), .load false 1 (.t 28), (some (20, true))⟩, []⟩,
  ⟨13, ⟨(some 30), .call (.c (.func 137 [] [])) [(.t 24), (.t 29)], (some (20, true))⟩, []⟩,
  ⟨14, ⟨(some 31), .un .not (.t 30), (some (20, true))⟩, []⟩,
  ⟨15, ⟨(some 32), .pick (.t 20) (.t 31) (.c (.bool false)), none⟩, []⟩] [[], [], [0, 1], [0, 1, 2], [0, 1, 2, 3], [0, 1, 2, 3], [0, 1, 2, 3, 4, 5], [0, 1, 2, 3, 4, 5, 6], [0, 1, 2, 3], [0, 1, 2, 3], [0, 1, 2, 3, 9], [0, 1, 2, 3, 8, 9, 10], [0, 1, 2, 3, 8, 9, 10, 11], [0, 1, 2, 3, 4, 5, 6, 7, 8, 9, 10, 11, 12], [0, 1, 2, 3, 4, 5, 6, 7, 8, 9, 10, 11, 12, 13], [0, 1, 2, 3, 4, 5, 6, 7, 8, 9, 10, 11, 12, 13, 14]]
def Tryz.a136r5 : ACode := .region [⟨(some 33), .mv (.t 7), none⟩,
  ⟨(some 34), .bin .add 0 (.t 33) (.c (.int .i64 1)), none⟩,
  ⟨(some 7), .mv (.t 34), none⟩]
def Tryz.a136l6 : ACode := .seq (.seq (Tryz.a136r4) (.cond (.t 32) (.skip) (.exit 2))) (.block 3 (Tryz.a136r5))
def Tryz.a136r7 : ACode := .region [⟨(some 35), .mv (.t 7), none⟩,
  ⟨(some 36), .mv (.t 2), none⟩,
  ⟨(some 37), .bin .eql 0 (.t 35) (.t 36), none⟩]
def Tryz.a136r8 : ACode := .region [⟨(some 6), .mv (.c (.bool true)), none⟩]
def Tryz.a136r9 : ACode := .region [⟨(some 38), .mv (.t 2), none⟩,
  ⟨(some 39), .mv (.t 1), none⟩,
  ⟨(some 40), .bin .sub 0 (.t 38) (.t 39), none⟩,
  ⟨(some 41), .bin .lss 0 (.t 40) (.c (.int .i64 50)), none⟩]
def Tryz.a136r10 : ACode := .region [⟨(some 6), .mv (.c (.bool false)), none⟩]
def Tryz.a136r11 : ACode := .draw [⟨0, ⟨(some 42), .mv (.t 0), none⟩, []⟩,
  ⟨1, ⟨(some 43), .mv (.t 7), none⟩, []⟩,
  ⟨2, ⟨(some 44), .mv (.t 0), none⟩, []⟩,
  ⟨3, ⟨(some 45), .mv (.t 7), none⟩, []⟩,
  ⟨4, ⟨(some 46), .bin .sub 0 (.t 45) (.c (.int .i64 1)), none⟩, []⟩,
  ⟨5, ⟨(some 47), .mv (.t 0), none⟩, []⟩,
  ⟨6, ⟨(some 48), .mv (.t 7), none⟩, []⟩,
  ⟨7, ⟨(some 49), .bin .sub 0 (.t 48) (.c (.int .i64 1)), none⟩, []⟩,
  ⟨8, ⟨(some 50), .idx 1 (.t 47) (.t 49), none⟩, []⟩,
  ⟨9, ⟨(some 51), .load false 1 (.t 50), none⟩, []⟩,
  ⟨10, ⟨(some 52), .mv (.t 0), none⟩, []⟩,
  ⟨11, ⟨(some 53), .mv (.t 7), none⟩, []⟩,
  ⟨12, ⟨(some 54), .idx 1 (.t 52) (.t 53), none⟩, []⟩,
  ⟨13, ⟨(some 55), .load false 1 (.t 54), none⟩, []⟩,
  ⟨14, ⟨(some 56), .idx 1 (.t 42) (.t 43), none⟩, []⟩,
  ⟨15, ⟨none, .store 1 (.t 56) (.t 51) [], none⟩, []⟩,
  ⟨16, ⟨(some 57), .idx 1 (.t 44) (.t 46), none⟩, []⟩,
  ⟨17, ⟨none, .store 1 (.t 57) (.t 55) [], none⟩, []⟩] [[], [], [], [], [3], [], [], [6], [5, 6, 7], [5, 6, 7, 8], [], [], [10, 11], [10, 11, 12], [0, 1, 5, 6, 7, 8, 9, 10, 11, 12, 13], [0, 1, 5, 6, 7, 8, 9, 10, 11, 12, 13, 14], [0, 1, 2, 3, 4, 5, 6, 7, 8, 9, 10, 11, 12, 13, 14, 15], [0, 1, 2, 3, 4, 5, 6, 7, 8, 9, 10, 11, 12, 13, 14, 15, 16]]
def Tryz.a136r12 : ACode := .region [⟨(some 58), .mv (.t 7), none⟩,
  ⟨(some 59), .mv (.t 1), none⟩,
  ⟨(some 60), .bin .sub 0 (.t 58) (.t 59), none⟩,
  ⟨(some 61), .bin .geq 0 (.t 60) (.c (.int .i64 2)), none⟩]
def Tryz.a136r13 : ACode := .region [⟨(some 62), .mv (.t 7), none⟩,
  ⟨(some 63), .bin .sub 0 (.t 62) (.c (.int .i64 1)), none⟩,
  ⟨(some 9), .mv (.t 63), none⟩]
def Tryz.a136r14 : ACode := .region [⟨(some 64), .mv (.t 9), none⟩,
  ⟨(some 65), .bin .geq 0 (.t 64) (.c (.int .i64 1)), none⟩]
def Tryz.a136r15 : ACode := .draw [⟨0, ⟨(some 68), .mv (.t 0), none⟩, []⟩,
  ⟨1, ⟨(some 69), .mv (.t 9), none⟩, []⟩,
  ⟨2, ⟨(some 70), .idx 1 (.t 68) (.t 69), none⟩, []⟩,
  ⟨3, ⟨(some 71), .load false 1 (.t 70), none⟩, []⟩,
  ⟨4, ⟨(some 72), .mv (.t 0), none⟩, []⟩,
  ⟨5, ⟨(some 73), .mv (.t 9), none⟩, []⟩,
  ⟨6, ⟨(some 74), .bin .sub 0 (.t 73) (.c (.int .i64 1)), none⟩, []⟩,
  ⟨7, ⟨(some 75), .idx 1 (.t 72) (.t 74), none⟩, []⟩,
  ⟨8, ⟨(some 76), .load false 1 (.t 75), none⟩, []⟩,
  ⟨9, ⟨(some 77), .call (.c (.func 137 [] [])) [(.t 71), (.t 76)], none⟩, []⟩,
  ⟨10, ⟨(some 78), .un .not (.t 77), none⟩, []⟩] [[], [], [0, 1], [0, 1, 2], [], [], [5], [4, 5, 6], [4, 5, 6, 7], [0, 1, 2, 3, 4, 5, 6, 7, 8], [0, 1, 2, 3, 4, 5, 6, 7, 8, 9]]
def Tryz.a136r16 : ACode := .draw [⟨0, ⟨(some 79), .mv (.t 0), none⟩, []⟩,
  ⟨1, ⟨(some 80), .mv (.t 9), none⟩, []⟩,
  ⟨2, ⟨(some 81), .mv (.t 0), none⟩, []⟩,
  ⟨3, ⟨(some 82), .mv (.t 9), none⟩, []⟩,
  ⟨4, ⟨(some 83), .bin .sub 0 (.t 82) (.c (.int .i64 1)), none⟩, []⟩,
  ⟨5, ⟨(some 84), .mv (.t 0), none⟩, []⟩,
  ⟨6, ⟨(some 85), .mv (.t 9), none⟩, []⟩,
  ⟨7, ⟨(some 86), .bin .sub 0 (.t 85) (.c (.int .i64 1)), none⟩, []⟩,
  ⟨8, ⟨(some 87), .idx 1 (.t 84) (.t 86), none⟩, []⟩,
  ⟨9, ⟨(some 88), .load false 1 (.t 87), none⟩, []⟩,
  ⟨10, ⟨(some 89), .mv (.t 0), none⟩, []⟩,
  ⟨11, ⟨(some 90), .mv (.t 9), none⟩, []⟩,
  ⟨12, ⟨(some 91), .idx 1 (.t 89) (.t 90), none⟩, []⟩,
  ⟨13, ⟨(some 92), .load false 1 (.t 91), none⟩, []⟩,
  ⟨14, ⟨(some 93), .idx 1 (.t 79) (.t 80), none⟩, []⟩,
  ⟨15, ⟨none, .store 1 (.t 93) (.t 88) [], none⟩, []⟩,
  ⟨16, ⟨(some 94), .idx 1 (.t 81) (.t 83), none⟩, []⟩,
  ⟨17, ⟨none, .store 1 (.t 94) (.t 92) [], none⟩, []⟩] [[], [], [], [], [3], [], [], [6], [5, 6, 7], [5, 6, 7, 8], [], [], [10, 11], [10, 11, 12], [0, 1, 5, 6, 7, 8, 9, 10, 11, 12, 13], [0, 1, 5, 6, 7, 8, 9, 10, 11, 12, 13, 14], [0, 1, 2, 3, 4, 5, 6, 7, 8, 9, 10, 11, 12, 13, 14, 15], [0, 1, 2, 3, 4, 5, 6, 7, 8, 9, 10, 11, 12, 13, 14, 15, 16]]
def Tryz.a136r17 : ACode := .region [⟨(some 66), .mv (.t 9), none⟩,
  ⟨(some 67), .bin .sub 0 (.t 66) (.c (.int .i64 1)), none⟩,
  ⟨(some 9), .mv (.t 67), none⟩]
def Tryz.a136l18 : ACode := .seq (.seq (Tryz.a136r14) (.cond (.t 65) (.skip) (.exit 4))) (.seq (.block 5 (.seq (.seq (Tryz.a136r15) (.cond (.t 78) (.exit 4) (.skip))) (Tryz.a136r16))) (Tryz.a136r17))
def Tryz.a136r19 : ACode := .region [⟨(some 95), .mv (.t 2), none⟩,
  ⟨(some 96), .mv (.t 7), none⟩,
  ⟨(some 97), .bin .sub 0 (.t 95) (.t 96), none⟩,
  ⟨(some 98), .bin .geq 0 (.t 97) (.c (.int .i64 2)), none⟩]
def Tryz.a136r20 : ACode := .region [⟨(some 99), .mv (.t 7), none⟩,
  ⟨(some 100), .bin .add 0 (.t 99) (.c (.int .i64 1)), none⟩,
  ⟨(some 10), .mv (.t 100), none⟩]
def Tryz.a136r21 : ACode := .region [⟨(some 101), .mv (.t 10), none⟩,
  ⟨(some 102), .mv (.t 2), none⟩,
  ⟨(some 103), .bin .lss 0 (.t 101) (.t 102), none⟩]
def Tryz.a136r22 : ACode := .draw [⟨0, ⟨(some 106), .mv (.t 0), none⟩, []⟩,
  ⟨1, ⟨(some 107), .mv (.t 10), none⟩, []⟩,
  ⟨2, ⟨(some 108), .idx 1 (.t 106) (.t 107), none⟩, []⟩,
  ⟨3, ⟨(some 109), .load false 1 (.t 108), none⟩, []⟩,
  ⟨4, ⟨(some 110), .mv (.t 0), none⟩, []⟩,
  ⟨5, ⟨(some 111), .mv (.t 10), none⟩, []⟩,
  ⟨6, ⟨(some 112), .bin .sub 0 (.t 111) (.c (.int .i64 1)), none⟩, []⟩,
  ⟨7, ⟨(some 113), .idx 1 (.t 110) (.t 112), none⟩, []⟩,
  ⟨8, ⟨(some 114), .load false 1 (.t 113), none⟩, []⟩,
  ⟨9, ⟨(some 115), .call (.c (.func 137 [] [])) [(.t 109), (.t 114)], none⟩, []⟩,
  ⟨10, ⟨(some 116), .un .not (.t 115), none⟩, []⟩] [[], [], [0, 1], [0, 1, 2], [], [], [5], [4, 5, 6], [4, 5, 6, 7], [0, 1, 2, 3, 4, 5, 6, 7, 8], [0, 1, 2, 3, 4, 5, 6, 7, 8, 9]]
def Tryz.a136r23 : ACode := .draw [⟨0, ⟨(some 117), .mv (.t 0), none⟩, []⟩,
  ⟨1, ⟨(some 118), .mv (.t 10), none⟩, []⟩,
  ⟨2, ⟨(some 119), .mv (.t 0), none⟩, []⟩,
  ⟨3, ⟨(some 120), .mv (.t 10), none⟩, []⟩,
  ⟨4, ⟨(some 121), .bin .sub 0 (.t 120) (.c (.int .i64 1)), none⟩, []⟩,
  ⟨5, ⟨(some 122), .mv (.t 0), none⟩, []⟩,
  ⟨6, ⟨(some 123), .mv (.t 10), none⟩, []⟩,
  ⟨7, ⟨(some 124), .bin .sub 0 (.t 123) (.c (.int .i64 1)), none⟩, []⟩,
  ⟨8, ⟨(some 125), .idx 1 (.t 122) (.t 124), none⟩, []⟩,
  ⟨9, ⟨(some 126), .load false 1 (.t 125), none⟩, []⟩,
  ⟨10, ⟨(some 127), .mv (.t 0), none⟩, []⟩,
  ⟨11, ⟨(some 128), .mv (.t 10), none⟩, []⟩,
  ⟨12, ⟨(some 129), .idx 1 (.t 127) (.t 128), none⟩, []⟩,
  ⟨13, ⟨(some 130), .load false 1 (.t 129), none⟩, []⟩,
  ⟨14, ⟨(some 131), .idx 1 (.t 117) (.t 118), none⟩, []⟩,
  ⟨15, ⟨none, .store 1 (.t 131) (.t 126) [], none⟩, []⟩,
  ⟨16, ⟨(some 132), .idx 1 (.t 119) (.t 121), none⟩, []⟩,
  ⟨17, ⟨none, .store 1 (.t 132) (.t 130) [], none⟩, []⟩] [[], [], [], [], [3], [], [], [6], [5, 6, 7], [5, 6, 7, 8], [], [], [10, 11], [10, 11, 12], [0, 1, 5, 6, 7, 8, 9, 10, 11, 12, 13], [0, 1, 5, 6, 7, 8, 9, 10, 11, 12, 13, 14], [0, 1, 2, 3, 4, 5, 6, 7, 8, 9, 10, 11, 12, 13, 14, 15], [0, 1, 2, 3, 4, 5, 6, 7, 8, 9, 10, 11, 12, 13, 14, 15, 16]]
def Tryz.a136r24 : ACode := .region [⟨(some 104), .mv (.t 10), none⟩,
  ⟨(some 105), .bin .add 0 (.t 104) (.c (.int .i64 1)), none⟩,
  ⟨(some 10), .mv (.t 105), none⟩]
def Tryz.a136l25 : ACode := .seq (.seq (Tryz.a136r21) (.cond (.t 103) (.skip) (.exit 6))) (.seq (.block 7 (.seq (.seq (Tryz.a136r22) (.cond (.t 116) (.exit 6) (.skip))) (Tryz.a136r23))) (Tryz.a136r24))
def Tryz.a136r26 : ACode := .region [⟨(some 15), .mv (.t 8), none⟩,
  ⟨(some 16), .bin .add 0 (.t 15) (.c (.int .i64 1)), none⟩,
  ⟨(some 8), .mv (.t 16), none⟩]
def Tryz.a136l27 : ACode := .seq (.seq (Tryz.a136r3) (.cond (.t 14) (.skip) (.exit 0))) (.seq (.block 1 (.seq (.block 2 (.loop [0, 1, 2, 7, 8] Tryz.a136l6)) (.seq (.seq (Tryz.a136r7) (.cond (.t 37) (.seq (Tryz.a136r8) (.ret)) (.skip))) (.seq (.seq (Tryz.a136r9) (.cond (.t 41) (.seq (Tryz.a136r10) (.ret)) (.skip))) (.seq (Tryz.a136r11) (.seq (.seq (Tryz.a136r12) (.cond (.t 61) (.seq (Tryz.a136r13) (.block 4 (.loop [0, 1, 2, 7, 8, 9] Tryz.a136l18))) (.skip))) (.seq (Tryz.a136r19) (.cond (.t 98) (.seq (Tryz.a136r20) (.block 6 (.loop [0, 1, 2, 7, 8, 10] Tryz.a136l25))) (.skip))))))))) (Tryz.a136r26))
def Tryz.a136r28 : ACode := .region [⟨(some 6), .mv (.c (.bool false)), none⟩]
def Tryz.c136 : ACode := .seq (Tryz.a136r0) (.seq (Tryz.a136r1) (.seq (.seq (Tryz.a136r2) (.block 0 (.loop [0, 1, 2, 7, 8] Tryz.a136l27))) (.seq (Tryz.a136r28) (.ret))))
def Tryz.a136 : AFunc := ⟨133, Tryz.c136, [(6, none)], false⟩
theorem Tryz.a136_ok : chkFunc Tryz.prog Tryz.eqs Tryz.f136 Tryz.a136 = true := by kernel_rfl
theorem Tryz.w136 {first caps args : List AVal} {heap : List AObj} {K : AVal → List AObj → Prop} (N : Nat) (h : Ex (cfg Tryz.prog Tryz.eqs N) Tryz.c136 ⟨(first ++ args ++ caps) ++ List.replicate (133 - (first ++ args ++ caps).length) .undef, heap⟩ (kfun (cfg Tryz.prog Tryz.eqs N) [(6, none)] false heap.length K)) : Hs Tryz.prog Tryz.eqs (.func 136 first caps) args heap K := Hs.enter Tryz.eqs_plain N (fn := Tryz.f136) (by kernel_rfl) Tryz.a136_ok h
def Tryz.a137r0 : ACode := .region [⟨(some 4), .mv (.c (.bool false)), none⟩]
def Tryz.a137r1 : ACode := .region [⟨(some 5), .mv (.t 0), none⟩,
  ⟨(some 6), .call (.c (.func 175 [] [])) [(.t 5)], none⟩,
  ⟨(some 7), .mv (.t 6), none⟩,
  ⟨(some 8), .mv (.t 1), (some (7, true))⟩,
  ⟨(some 9), .call (.c (.func 175 [] [])) [(.t 8)], (some (7, true))⟩,
  ⟨(some 10), .un .not (.t 9), (some (7, true))⟩,
  ⟨(some 11), .pick (.t 7) (.t 10) (.c (.bool false)), none⟩,
  ⟨(some 12), .mv (.t 11), none⟩,
  ⟨(some 13), .mv (.t 0), (some (12, false))⟩,
  ⟨(some 14), .mv (.t 1), (some (12, false))⟩,
  ⟨(some 15), .bin .lss 0 (.t 13) (.t 14), (some (12, false))⟩,
  ⟨(some 16), .pick (.t 12) (.c (.bool true)) (.t 15), none⟩,
  ⟨(some 4), .mv (.t 16), none⟩]
def Tryz.c137 : ACode := .seq (Tryz.a137r0) (.seq (Tryz.a137r1) (.ret))
def Tryz.a137 : AFunc := ⟨17, Tryz.c137, [(4, none)], false⟩
theorem Tryz.a137_ok : chkFunc Tryz.prog Tryz.eqs Tryz.f137 Tryz.a137 = true := by kernel_rfl
theorem Tryz.w137 {first caps args : List AVal} {heap : List AObj} {K : AVal → List AObj → Prop} (N : Nat) (h : Ex (cfg Tryz.prog Tryz.eqs N) Tryz.c137 ⟨(first ++ args ++ caps) ++ List.replicate (17 - (first ++ args ++ caps).length) .undef, heap⟩ (kfun (cfg Tryz.prog Tryz.eqs N) [(4, none)] false heap.length K)) : Hs Tryz.prog Tryz.eqs (.func 137 first caps) args heap K := Hs.enter Tryz.eqs_plain N (fn := Tryz.f137) (by kernel_rfl) Tryz.a137_ok h
def Tryz.a138r0 : ACode := .region [⟨(some 8), .mv (.c (.int .i64 0)), none⟩]
def Tryz.a138r1 : ACode := .draw [⟨0, ⟨(some 11), .mv (.t 0), none⟩, []⟩,
  ⟨1, ⟨(some 12), .mv (.t 1), none⟩, []⟩,
  ⟨2, ⟨(some 13), .mv (.t 0), none⟩, []⟩,
  ⟨3, ⟨(some 14), .mv (.t 3), none⟩, []⟩,
  ⟨4, ⟨(some 15), .mv (.t 0), none⟩, []⟩,
  ⟨5, ⟨(some 16), .mv (.t 3), none⟩, []⟩,
  ⟨6, ⟨(some 17), .idx 1 (.t 15) (.t 16), none⟩, []⟩,
  ⟨7, ⟨(some 18), .load false 1 (.t 17), none⟩, []⟩,
  ⟨8, ⟨(some 19), .mv (.t 0), none⟩, []⟩,
  ⟨9, ⟨(some 20), .mv (.t 1), none⟩, []⟩,
  ⟨10, ⟨(some 21), .idx 1 (.t 19) (.t 20), none⟩, []⟩,
  ⟨11, ⟨(some 22), .load false 1 (.t 21), none⟩, []⟩,
  ⟨12, ⟨(some 23), .idx 1 (.t 11) (.t 12), none⟩, []⟩,
  ⟨13, ⟨none, .store 1 (.t 23) (.t 18) [], none⟩, []⟩,
  ⟨14, ⟨(some 24), .idx 1 (.t 13) (.t 14), none⟩, []⟩,
  ⟨15, ⟨none, .store 1 (.t 24) (.t 22) [], none⟩, []⟩] [[], [], [], [], [], [], [4, 5], [4, 5, 6], [], [], [8, 9], [8, 9, 10], [0, 1, 4, 5, 6, 7, 8, 9, 10, 11], [0, 1, 4, 5, 6, 7, 8, 9, 10, 11, 12], [0, 1, 2, 3, 4, 5, 6, 7, 8, 9, 10, 11, 12, 13], [0, 1, 2, 3, 4, 5, 6, 7, 8, 9, 10, 11, 12, 13, 14]]
def Tryz.a138r2 : ACode := .region [⟨(some 25), .mv (.t 1), none⟩,
  ⟨(some 26), .bin .add 0 (.t 25) (.c (.int .i64 1)), none⟩,
  ⟨(some 27), .mv (.t 2), none⟩,
  ⟨(some 28), .bin .sub 0 (.t 27) (.c (.int .i64 1)), none⟩,
  ⟨(some 9), .mv (.t 26), none⟩,
  ⟨(some 10), .mv (.t 28), none⟩]
def Tryz.a138r3 : ACode := .draw [⟨0, ⟨(some 29), .mv (.t 9), none⟩, []⟩,
  ⟨1, ⟨(some 30), .mv (.t 10), none⟩, []⟩,
  ⟨2, ⟨(some 31), .bin .leq 0 (.t 29) (.t 30), none⟩, []⟩,
  ⟨3, ⟨(some 32), .mv (.t 31), none⟩, []⟩,
  ⟨4, ⟨(some 33), .mv (.t 0), (some (32, true))⟩, []⟩,
  ⟨5, ⟨(some 34), .mv (.t 1), (some (32, true))⟩, []⟩,
  ⟨6, ⟨(some 35), .idx 1 (.t 33) (.t 34), (some (32, true))⟩, []⟩,
  ⟨7, ⟨(some 36), .load false 1 (.t 35), (some (32, true))⟩, []⟩,
  ⟨8, ⟨(some 37), .mv (.t 0), (some (32, true))⟩, []⟩,
  ⟨9, ⟨(some 38), .mv (.t 9), (some (32, true))⟩, []⟩,
  ⟨10, ⟨(some 39), .idx 1 (.t 37) (.t 38), (some (32, true))⟩, []⟩,
  ⟨11, ⟨(some 40), .load false 1 (.t 39), (some (32, true))⟩, []⟩,
  ⟨12, ⟨(some 41), .call (.c (.func 137 [] [])) [(.t 36), (.t 40)], (some (32, true))⟩, []⟩,
  ⟨13, ⟨(some 42), .un .not (.t 41), (some (32, true))⟩, []⟩,
  ⟨14, ⟨(some 43), .pick (.t 32) (.t 42) (.c (.bool false)), none⟩, []⟩] [[], [], [0, 1], [0, 1, 2], [0, 1, 2, 3], [0, 1, 2, 3], [0, 1, 2, 3, 4, 5], [0, 1, 2, 3, 4, 5, 6], [0, 1, 2, 3], [0, 1, 2, 3], [0, 1, 2, 3, 8, 9], [0, 1, 2, 3, 8, 9, 10], [0, 1, 2, 3, 4, 5, 6, 7, 8, 9, 10, 11], [0, 1, 2, 3, 4, 5, 6, 7, 8, 9, 10, 11, 12], [0, 1, 2, 3, 4, 5, 6, 7, 8, 9, 10, 11, 12, 13]]
def Tryz.a138r4 : ACode := .region [⟨(some 44), .mv (.t 9), none⟩,
  ⟨(some 45), .bin .add 0 (.t 44) (.c (.int .i64 1)), none⟩,
  ⟨(some 9), .mv (.t 45), none⟩]
def Tryz.a138l5 : ACode := .seq (.seq (Tryz.a138r3) (.cond (.t 43) (.skip) (.exit 2))) (.block 3 (Tryz.a138r4))
def Tryz.a138r6 : ACode := .draw [⟨0, ⟨(some 46), .mv (.t 9), none⟩, []⟩,
  ⟨1, ⟨(some 47), .mv (.t 10), none⟩, []⟩,
  ⟨2, ⟨(some 48), .bin .leq 0 (.t 46) (.t 47), none⟩, []⟩,
  ⟨3, ⟨(some 49), .mv (.t 48), none⟩, []⟩,
  ⟨4, ⟨(some 50), .mv (.t 0), (some (49, true))⟩, []⟩,
  ⟨5, ⟨(some 51), .mv (.t 1), (some (49, true))⟩, []⟩,
  ⟨6, ⟨(some 52), .idx 1 (.t 50) (.t 51), (some (49, true))⟩, []⟩,
  ⟨7, ⟨(some 53), .load false 1 (.t 52), (some (49, true))⟩, []⟩,
  ⟨8, ⟨(some 54), .mv (.t 0), (some (49, true))⟩, []⟩,
  ⟨9, ⟨(some 55), .mv (.t 10), (some (49, true))⟩, []⟩,
  ⟨10, ⟨(some 56), .idx 1 (.t 54) (.t 55), (some (49, true))⟩, []⟩,
  ⟨11, ⟨(some 57), .load false 1 (.t 56), (some (49, true))⟩, []⟩,
  ⟨12, ⟨(some 58), .call (.c (.func 137 [] [])) [(.t 53), (.t 57)], (some (49, true))⟩, []⟩,
  ⟨13, ⟨(some 59), .pick (.t 49) (.t 58) (.c (.bool false)), none⟩, []⟩] [[], [], [0, 1], [0, 1, 2], [0, 1, 2, 3], [0, 1, 2, 3], [0, 1, 2, 3, 4, 5], [0, 1, 2, 3, 4, 5, 6], [0, 1, 2, 3], [0, 1, 2, 3], [0, 1, 2, 3, 8, 9], [0, 1, 2, 3, 8, 9, 10], [0, 1, 2, 3, 4, 5, 6, 7, 8, 9, 10, 11], [0, 1, 2, 3, 4, 5, 6, 7, 8, 9, 10, 11, 12]]
def Tryz.a138r7 : ACode := .region [⟨(some 60), .mv (.t 10), none⟩,
  ⟨(some 61), .bin .sub 0 (.t 60) (.c (.int .i64 1)), none⟩,
  ⟨(some 10), .mv (.t 61), none⟩]
def Tryz.a138l8 : ACode := .seq (.seq (Tryz.a138r6) (.cond (.t 59) (.skip) (.exit 4))) (.block 5 (Tryz.a138r7))
def Tryz.a138r9 : ACode := .region [⟨(some 62), .mv (.t 9), none⟩,
  ⟨(some 63), .mv (.t 10), none⟩,
  ⟨(some 64), .bin .gtr 0 (.t 62) (.t 63), none⟩]
def Tryz.a138r10 : ACode := .draw [⟨0, ⟨(some 65), .mv (.t 0), none⟩, []⟩,
  ⟨1, ⟨(some 66), .mv (.t 9), none⟩, []⟩,
  ⟨2, ⟨(some 67), .mv (.t 0), none⟩, []⟩,
  ⟨3, ⟨(some 68), .mv (.t 10), none⟩, []⟩,
  ⟨4, ⟨(some 69), .mv (.t 0), none⟩, []⟩,
  ⟨5, ⟨(some 70), .mv (.t 10), none⟩, []⟩,
  ⟨6, ⟨(some 71), .idx 1 (.t 69) (.t 70), none⟩, []⟩,
  ⟨7, ⟨(some 72), .load false 1 (.t 71), none⟩, []⟩,
  ⟨8, ⟨(some 73), .mv (.t 0), none⟩, []⟩,
  ⟨9, ⟨(some 74), .mv (.t 9), none⟩, []⟩,
  ⟨10, ⟨(some 75), .idx 1 (.t 73) (.t 74), none⟩, []⟩,
  ⟨11, ⟨(some 76), .load false 1 (.t 75), none⟩, []⟩,
  ⟨12, ⟨(some 77), .idx 1 (.t 65) (.t 66), none⟩, []⟩,
  ⟨13, ⟨none, .store 1 (.t 77) (.t 72) [], none⟩, []⟩,
  ⟨14, ⟨(some 78), .idx 1 (.t 67) (.t 68), none⟩, []⟩,
  ⟨15, ⟨none, .store 1 (.t 78) (.t 76) [], none⟩, []⟩] [[], [], [], [], [], [], [4, 5], [4, 5, 6], [], [], [8, 9], [8, 9, 10], [0, 1, 4, 5, 6, 7, 8, 9, 10, 11], [0, 1, 4, 5, 6, 7, 8, 9, 10, 11, 12], [0, 1, 2, 3, 4, 5, 6, 7, 8, 9, 10, 11, 12, 13], [0, 1, 2, 3, 4, 5, 6, 7, 8, 9, 10, 11, 12, 13, 14]]
def Tryz.a138r11 : ACode := .region [⟨(some 79), .mv (.t 9), none⟩,
  ⟨(some 80), .bin .add 0 (.t 79) (.c (.int .i64 1)), none⟩,
  ⟨(some 9), .mv (.t 80), none⟩]
def Tryz.a138r12 : ACode := .region [⟨(some 81), .mv (.t 10), none⟩,
  ⟨(some 82), .bin .sub 0 (.t 81) (.c (.int .i64 1)), none⟩,
  ⟨(some 10), .mv (.t 82), none⟩]
def Tryz.a138l13 : ACode := .block 1 (.seq (.block 2 (.loop [0, 1, 9, 10] Tryz.a138l5)) (.seq (.block 4 (.loop [0, 1, 9, 10] Tryz.a138l8)) (.seq (.seq (Tryz.a138r9) (.cond (.t 64) (.exit 0) (.skip))) (.seq (Tryz.a138r10) (.seq (Tryz.a138r11) (Tryz.a138r12))))))
def Tryz.a138r14 : ACode := .region [⟨(some 83), .mv (.t 9), none⟩,
  ⟨(some 8), .mv (.t 83), none⟩]
def Tryz.c138 : ACode := .seq (Tryz.a138r0) (.seq (Tryz.a138r1) (.seq (Tryz.a138r2) (.seq (.block 0 (.loop [0, 1, 9, 10] Tryz.a138l13)) (.seq (Tryz.a138r14) (.ret)))))
def Tryz.a138 : AFunc := ⟨84, Tryz.c138, [(8, none)], false⟩
theorem Tryz.a138_ok : chkFunc Tryz.prog Tryz.eqs Tryz.f138 Tryz.a138 = true := by kernel_rfl
theorem Tryz.w138 {first caps args : List AVal} {heap : List AObj} {K : AVal → List AObj → Prop} (N : Nat) (h : Ex (cfg Tryz.prog Tryz.eqs N) Tryz.c138 ⟨(first ++ args ++ caps) ++ List.replicate (84 - (first ++ args ++ caps).length) .undef, heap⟩ (kfun (cfg Tryz.prog Tryz.eqs N) [(8, none)] false heap.length K)) : Hs Tryz.prog Tryz.eqs (.func 138 first caps) args heap K := Hs.enter Tryz.eqs_plain N (fn := Tryz.f138) (by kernel_rfl) Tryz.a138_ok h
def Tryz.a139r0 : ACode := .region [⟨(some 8), .mv (.c (.int .i64 0)), none⟩,
  ⟨(some 9), .mv (.c (.bool false)), none⟩]
def Tryz.a139r1 : ACode := .draw [⟨0, ⟨(some 12), .mv (.t 0), none⟩, []⟩,
  ⟨1, ⟨(some 13), .mv (.t 1), none⟩, []⟩,
  ⟨2, ⟨(some 14), .mv (.t 0), none⟩, []⟩,
  ⟨3, ⟨(some 15), .mv (.t 3), none⟩, []⟩,
  ⟨4, ⟨(some 16), .mv (.t 0), none⟩, []⟩,
  ⟨5, ⟨(some 17), .mv (.t 3), none⟩, []⟩,
  ⟨6, ⟨(some 18), .idx 1 (.t 16) (.t 17), none⟩, []⟩,
  ⟨7, ⟨(some 19), .load false 1 (.t 18), none⟩, []⟩,
  ⟨8, ⟨(some 20), .mv (.t 0), none⟩, []⟩,
  ⟨9, ⟨(some 21), .mv (.t 1), none⟩, []⟩,
  ⟨10, ⟨(some 22), .idx 1 (.t 20) (.t 21), none⟩, []⟩,
  ⟨11, ⟨(some 23), .load false 1 (.t 22), none⟩, []⟩,
  ⟨12, ⟨(some 24), .idx 1 (.t 12) (.t 13), none⟩, []⟩,
  ⟨13, ⟨none, .store 1 (.t 24) (.t 19) [], none⟩, []⟩,
  ⟨14, ⟨(some 25), .idx 1 (.t 14) (.t 15), none⟩, []⟩,
  ⟨15, ⟨none, .store 1 (.t 25) (.t 23) [], none⟩, []⟩] [[], [], [], [], [], [], [4, 5], [4, 5, 6], [], [], [8, 9], [8, 9, 10], [0, 1, 4, 5, 6, 7, 8, 9, 10, 11], [0, 1, 4, 5, 6, 7, 8, 9, 10, 11, 12], [0, 1, 2, 3, 4, 5, 6, 7, 8, 9, 10, 11, 12, 13], [0, 1, 2, 3, 4, 5, 6, 7, 8, 9, 10, 11, 12, 13, 14]]
def Tryz.a139r2 : ACode := .region [⟨(some 26), .mv (.t 1), none⟩,
  ⟨(some 27), .bin .add 0 (.t 26) (.c (.int .i64 1)), none⟩,
  ⟨(some 28), .mv (.t 2), none⟩,
  ⟨(some 29), .bin .sub 0 (.t 28) (.c (.int .i64 1)), none⟩,
  ⟨(some 10), .mv (.t 27), none⟩,
  ⟨(some 11), .mv (.t 29), none⟩]
def Tryz.a139r3 : ACode := .draw [⟨0, ⟨(some 30), .mv (.t 10), none⟩, []⟩,
  ⟨1, ⟨(some 31), .mv (.t 11), none⟩, []⟩,
  ⟨2, ⟨(some 32), .bin .leq 0 (.t 30) (.t 31), none⟩, []⟩,
  ⟨3, ⟨(some 33), .mv (.t 32), none⟩, []⟩,
  ⟨4, ⟨(some 34), .mv (.t 0), (some (33, true))⟩, []⟩,
  ⟨5, ⟨(some 35), .mv (.t 10), (some (33, true))⟩, []⟩,
  ⟨6, ⟨(some 36), .idx 1 (.t 34) (.t 35), (some (33, true))⟩, []⟩,
  ⟨7, ⟨(some 37), .load false 1 (.t 36), (some (33, true))⟩, []⟩,
  ⟨8, ⟨(some 38), .mv (.t 0), (some (33, true))⟩, []⟩,
  ⟨9, ⟨(some 39), .mv (.t 1), (some (33, true))⟩, []⟩,
  ⟨10, ⟨(some 40), .idx 1 (.t 38) (.t 39), (some (33, true))⟩, []⟩,
  ⟨11, ⟨(some 41), .load false 1 (.t 40), (some (33, true))⟩, []⟩,
  ⟨12, ⟨(some 42), .call (.c (.func 137 [] [])) [(.t 37), (.t 41)], (some (33, true))⟩, []⟩,
  ⟨13, ⟨(some 43), .pick (.t 33) (.t 42) (.c (.bool false)), none⟩, []⟩] [[], [], [0, 1], [0, 1, 2], [0, 1, 2, 3], [0, 1, 2, 3], [0, 1, 2, 3, 4, 5], [0, 1, 2, 3, 4, 5, 6], [0, 1, 2, 3], [0, 1, 2, 3], [0, 1, 2, 3, 8, 9], [0, 1, 2, 3, 8, 9, 10], [0, 1, 2, 3, 4, 5, 6, 7, 8, 9, 10, 11], [0, 1, 2, 3, 4, 5, 6, 7, 8, 9, 10, 11, 12]]
def Tryz.a139r4 : ACode := .region [⟨(some 44), .mv (.t 10), none⟩,
  ⟨(some 45), .bin .add 0 (.t 44) (.c (.int .i64 1)), none⟩,
  ⟨(some 10), .mv (.t 45), none⟩]
def Tryz.a139l5 : ACode := .seq (.seq (Tryz.a139r3) (.cond (.t 43) (.skip) (.exit 0))) (.block 1 (Tryz.a139r4))
def Tryz.a139r6 : ACode := .draw [⟨0, ⟨(some 46), .mv (.t 10), none⟩, []⟩,
  ⟨1, ⟨(some 47), .mv (.t 11), none⟩, []⟩,
  ⟨2, ⟨(some 48), .bin .leq 0 (.t 46) (.t 47), none⟩, []⟩,
  ⟨3, ⟨(some 49), .mv (.t 48), none⟩, []⟩,
  ⟨4, ⟨(some 50), .mv (.t 0), (some (49, true))⟩, []⟩,
  ⟨5, ⟨(some 51), .mv (.t 11), (some (49, true))⟩, []⟩,
  ⟨6, ⟨(some 52), .idx 1 (.t 50) (.t 51), (some (49, true))⟩, []⟩,
  ⟨7, ⟨(some 53), .load false 1 (.t 52), (some (49, true))⟩, []⟩,
  ⟨8, ⟨(some 54), .mv (.t 0), (some (49, true))⟩, []⟩,
  ⟨9, ⟨(some 55), .mv (.t 1), (some (49, true))⟩, []⟩,
  ⟨10, ⟨(some 56), .idx 1 (.t 54) (.t 55), (some (49, true))⟩, []⟩,
  ⟨11, ⟨(some 57), .load false 1 (.t 56), (some (49, true))⟩, []⟩,
  ⟨12, ⟨(some 58), .call (.c (.func 137 [] [])) [(.t 53), (.t 57)], (some (49, true))⟩, []⟩,
  ⟨13, ⟨(some 59), .un .not (.t 58), (some (49, true))⟩, []⟩,
  ⟨14, ⟨(some 60), .pick (.t 49) (.t 59) (.c (.bool false)), none⟩, []⟩] [[], [], [0, 1], [0, 1, 2], [0, 1, 2, 3], [0, 1, 2, 3], [0, 1, 2, 3, 4, 5], [0, 1, 2, 3, 4, 5, 6], [0, 1, 2, 3], [0, 1, 2, 3], [0, 1, 2, 3, 8, 9], [0, 1, 2, 3, 8, 9, 10], [0, 1, 2, 3, 4, 5, 6, 7, 8, 9, 10, 11], [0, 1, 2, 3, 4, 5, 6, 7, 8, 9, 10, 11, 12], [0, 1, 2, 3, 4, 5, 6, 7, 8, 9, 10, 11, 12, 13]]
def Tryz.a139r7 : ACode := .region [⟨(some 61), .mv (.t 11), none⟩,
  ⟨(some 62), .bin .sub 0 (.t 61) (.c (.int .i64 1)), none⟩,
  ⟨(some 11), .mv (.t 62), none⟩]
def Tryz.a139l8 : ACode := .seq (.seq (Tryz.a139r6) (.cond (.t 60) (.skip) (.exit 2))) (.block 3 (Tryz.a139r7))
def Tryz.a139r9 : ACode := .region [⟨(some 63), .mv (.t 10), none⟩,
  ⟨(some 64), .mv (.t 11), none⟩,
  ⟨(some 65), .bin .gtr 0 (.t 63) (.t 64), none⟩]
def Tryz.a139r10 : ACode := .draw [⟨0, ⟨(some 66), .mv (.t 0), none⟩, []⟩,
  ⟨1, ⟨(some 67), .mv (.t 11), none⟩, []⟩,
  ⟨2, ⟨(some 68), .mv (.t 0), none⟩, []⟩,
  ⟨3, ⟨(some 69), .mv (.t 1), none⟩, []⟩,
  ⟨4, ⟨(some 70), .mv (.t 0), none⟩, []⟩,
  ⟨5, ⟨(some 71), .mv (.t 1), none⟩, []⟩,
  ⟨6, ⟨(some 72), .idx 1 (.t 70) (.t 71), none⟩, []⟩,
  ⟨7, ⟨(some 73), .load false 1 (.t 72), none⟩, []⟩,
  ⟨8, ⟨(some 74), .mv (.t 0), none⟩, []⟩,
  ⟨9, ⟨(some 75), .mv (.t 11), none⟩, []⟩,
  ⟨10, ⟨(some 76), .idx 1 (.t 74) (.t 75), none⟩, []⟩,
  ⟨11, ⟨(some 77), .load false 1 (.t 76), none⟩, []⟩,
  ⟨12, ⟨(some 78), .idx 1 (.t 66) (.t 67), none⟩, []⟩,
  ⟨13, ⟨none, .store 1 (.t 78) (.t 73) [], none⟩, []⟩,
  ⟨14, ⟨(some 79), .idx 1 (.t 68) (.t 69), none⟩, []⟩,
  ⟨15, ⟨none, .store 1 (.t 79) (.t 77) [], none⟩, []⟩] [[], [], [], [], [], [], [4, 5], [4, 5, 6], [], [], [8, 9], [8, 9, 10], [0, 1, 4, 5, 6, 7, 8, 9, 10, 11], [0, 1, 4, 5, 6, 7, 8, 9, 10, 11, 12], [0, 1, 2, 3, 4, 5, 6, 7, 8, 9, 10, 11, 12, 13], [0, 1, 2, 3, 4, 5, 6, 7, 8, 9, 10, 11, 12, 13, 14]]
def Tryz.a139r11 : ACode := .region [⟨(some 80), .mv (.t 11), none⟩,
  ⟨(some 8), .mv (.t 80), none⟩,
  ⟨(some 9), .mv (.c (.bool true)), none⟩]
def Tryz.a139r12 : ACode := .draw [⟨0, ⟨(some 81), .mv (.t 0), none⟩, []⟩,
  ⟨1, ⟨(some 82), .mv (.t 10), none⟩, []⟩,
  ⟨2, ⟨(some 83), .mv (.t 0), none⟩, []⟩,
  ⟨3, ⟨(some 84), .mv (.t 11), none⟩, []⟩,
  ⟨4, ⟨(some 85), .mv (.t 0), none⟩, []⟩,
  ⟨5, ⟨(some 86), .mv (.t 11), none⟩, []⟩,
  ⟨6, ⟨(some 87), .idx 1 (.t 85) (.t 86), none⟩, []⟩,
  ⟨7, ⟨(some 88), .load false 1 (.t 87), none⟩, []⟩,
  ⟨8, ⟨(some 89), .mv (.t 0), none⟩, []⟩,
  ⟨9, ⟨(some 90), .mv (.t 10), none⟩, []⟩,
  ⟨10, ⟨(some 91), .idx 1 (.t 89) (.t 90), none⟩, []⟩,
  ⟨11, ⟨(some 92), .load false 1 (.t 91), none⟩, []⟩,
  ⟨12, ⟨(some 93), .idx 1 (.t 81) (.t 82), none⟩, []⟩,
  ⟨13, ⟨none, .store 1 (.t 93) (.t 88) [], none⟩, []⟩,
  ⟨14, ⟨(some 94), .idx 1 (.t 83) (.t 84), none⟩, []⟩,
  ⟨15, ⟨none, .store 1 (.t 94) (.t 92) [], none⟩, []⟩] [[], [], [], [], [], [], [4, 5], [4, 5, 6], [], [], [8, 9], [8, 9, 10], [0, 1, 4, 5, 6, 7, 8, 9, 10, 11], [0, 1, 4, 5, 6, 7, 8, 9, 10, 11, 12], [0, 1, 2, 3, 4, 5, 6, 7, 8, 9, 10, 11, 12, 13], [0, 1, 2, 3, 4, 5, 6, 7, 8, 9, 10, 11, 12, 13, 14]]
def Tryz.a139r13 : ACode := .region [⟨(some 95), .mv (.t 10), none⟩,
  ⟨(some 96), .bin .add 0 (.t 95) (.c (.int .i64 1)), none⟩,
  ⟨(some 10), .mv (.t 96), none⟩]
def Tryz.a139r14 : ACode := .region [⟨(some 97), .mv (.t 11), none⟩,
  ⟨(some 98), .bin .sub 0 (.t 97) (.c (.int .i64 1)), none⟩,
  ⟨(some 11), .mv (.t 98), none⟩]
def Tryz.a139r15 : ACode := .draw [⟨0, ⟨(some 99), .mv (.t 10), none⟩, []⟩,
  ⟨1, ⟨(some 100), .mv (.t 11), none⟩, []⟩,
  ⟨2, ⟨(some 101), .bin .leq 0 (.t 99) (.t 100), none⟩, []⟩,
  ⟨3, ⟨(some 102), .mv (.t 101), none⟩, []⟩,
  ⟨4, ⟨(some 103), .mv (.t 0), (some (102, true))⟩, []⟩,
  ⟨5, ⟨(some 104), .mv (.t 10), (some (102, true))⟩, []⟩,
  ⟨6, ⟨(some 105), .idx 1 (.t 103) (.t 104), (some (102, true))⟩, []⟩,
  ⟨7, ⟨(some 106), .load false 1 (.t 105), (some (102, true))⟩, []⟩,
  ⟨8, ⟨(some 107), .mv (.t 0), (some (102, true))⟩, []⟩,
  ⟨9, ⟨(some 108), .mv (.t 1), (some (102, true))⟩, []⟩,
  ⟨10, ⟨(some 109), .idx 1 (.t 107) (.t 108), (some (102, true))⟩, []⟩,
  ⟨11, ⟨(some 110), .load false 1 (.t 109), (some (102, true))⟩, []⟩,
  ⟨12, ⟨(some 111), .call (.c (.func 137 [] [])) [(.t 106), (.t 110)], (some (102, true))⟩, []⟩,
  ⟨13, ⟨(some 112), .pick (.t 102) (.t 111) (.c (.bool false)), none⟩, []⟩] [[], [], [0, 1], [0, 1, 2], [0, 1, 2, 3], [0, 1, 2, 3], [0, 1, 2, 3, 4, 5], [0, 1, 2, 3, 4, 5, 6], [0, 1, 2, 3], [0, 1, 2, 3], [0, 1, 2, 3, 8, 9], [0, 1, 2, 3, 8, 9, 10], [0, 1, 2, 3, 4, 5, 6, 7, 8, 9, 10, 11], [0, 1, 2, 3, 4, 5, 6, 7, 8, 9, 10, 11, 12]]
def Tryz.a139r16 : ACode := .region [⟨(some 113), .mv (.t 10), none⟩,
  ⟨(some 114), .bin .add 0 (.t 113) (.c (.int .i64 1)), none⟩,
  ⟨(some 10), .mv (.t 114), none⟩]
def Tryz.a139l17 : ACode := .seq (.seq (Tryz.a139r15) (.cond (.t 112) (.skip) (.exit 6))) (.block 7 (Tryz.a139r16))
def Tryz.a139r18 : ACode := .draw [⟨0, ⟨(some 115), .mv (.t 10), none⟩, []⟩,
  ⟨1, ⟨(some 116), .mv (.t 11), none⟩, []⟩,
  ⟨2, ⟨(some 117), .bin .leq 0 (.t 115) (.t 116), none⟩, []⟩,
  ⟨3, ⟨(some 118), .mv (.t 117), none⟩, []⟩,
  ⟨4, ⟨(some 119), .mv (.t 0), (some (118, true))⟩, []⟩,
  ⟨5, ⟨(some 120), .mv (.t 11), (some (118, true))⟩, []⟩,
  ⟨6, ⟨(some 121), .idx 1 (.t 119) (.t 120), (some (118, true))⟩, []⟩,
  ⟨7, ⟨(some 122), .load false 1 (.t 121), (some (118, true))⟩, []⟩,
  ⟨8, ⟨(some 123), .mv (.t 0), (some (118, true))⟩, []⟩,
  ⟨9, ⟨(some 124), .mv (.t 1), (some (118, true))⟩, []⟩,
  ⟨10, ⟨(some 125), .idx 1 (.t 123) (.t 124), (some (118, true))⟩, []⟩,
  ⟨11, ⟨(some 126), .load false 1 (.t 125), (some (118, true))⟩, []⟩,
  ⟨12, ⟨(some 127), .call (.c (.func 137 [] [])) [(.t 122), (.t 126)], (some (118, true))⟩, []⟩,
  ⟨13, ⟨(some 128), .un .not (.t 127), (some (118, true))⟩, []⟩,
  ⟨14, ⟨(some 129), .pick (.t 118) (.t 128) (.c (.bool false)), none⟩, []⟩] [[], [], [0, 1], [0, 1, 2], [0, 1, 2, 3], [0, 1, 2, 3], [0, 1, 2, 3, 4, 5], [0, 1, 2, 3, 4, 5, 6], [0, 1, 2, 3], [0, 1, 2, 3], [0, 1, 2, 3, 8, 9], [0, 1, 2, 3, 8, 9, 10], [0, 1, 2, 3, 4, 5, 6, 7, 8, 9, 10, 11], [0, 1, 2, 3, 4, 5, 6, 7, 8, 9, 10, 11, 12], [0, 1, 2, 3, 4, 5, 6, 7, 8, 9, 10, 11, 12, 13]]
def Tryz.a139r19 : ACode := .region [⟨(some 130), .mv (.t 11), none⟩,
  ⟨(some 131), .bin .sub 0 (.t 130) (.c (.int .i64 1)), none⟩,
  ⟨(some 11), .mv (.t 131), none⟩]
def Tryz.a139l20 : ACode := .seq (.seq (Tryz.a139r18) (.cond (.t 129) (.skip) (.exit 8))) (.block 9 (Tryz.a139r19))
def Tryz.a139r21 : ACode := .region [⟨(some 132), .mv (.t 10), none⟩,
  ⟨(some 133), .mv (.t 11), none⟩,
  ⟨(some 134), .bin .gtr 0 (.t 132) (.t 133), none⟩]
def Tryz.a139r22 : ACode := .draw [⟨0, ⟨(some 135), .mv (.t 0), none⟩, []⟩,
  ⟨1, ⟨(some 136), .mv (.t 10), none⟩, []⟩,
  ⟨2, ⟨(some 137), .mv (.t 0), none⟩, []⟩,
  ⟨3, ⟨(some 138), .mv (.t 11), none⟩, []⟩,
  ⟨4, ⟨(some 139), .mv (.t 0), none⟩, []⟩,
  ⟨5, ⟨(some 140), .mv (.t 11), none⟩, []⟩,
  ⟨6, ⟨(some 141), .idx 1 (.t 139) (.t 140), none⟩, []⟩,
  ⟨7, ⟨(some 142), .load false 1 (.t 141), none⟩, []⟩,
  ⟨8, ⟨(some 143), .mv (.t 0), none⟩, []⟩,
  ⟨9, ⟨(some 144), .mv (.t 10), none⟩, []⟩,
  ⟨10, ⟨(some 145), .idx 1 (.t 143) (.t 144), none⟩, []⟩,
  ⟨11, ⟨(some 146), .load false 1 (.t 145), none⟩, []⟩,
  ⟨12, ⟨(some 147), .idx 1 (.t 135) (.t 136), none⟩, []⟩,
  ⟨13, ⟨none, .store 1 (.t 147) (.t 142) [], none⟩, []⟩,
  ⟨14, ⟨(some 148), .idx 1 (.t 137) (.t 138), none⟩, []⟩,
  ⟨15, ⟨none, .store 1 (.t 148) (.t 146) [], none⟩, []⟩] [[], [], [], [], [], [], [4, 5], [4, 5, 6], [], [], [8, 9], [8, 9, 10], [0, 1, 4, 5, 6, 7, 8, 9, 10, 11], [0, 1, 4, 5, 6, 7, 8, 9, 10, 11, 12], [0, 1, 2, 3, 4, 5, 6, 7, 8, 9, 10, 11, 12, 13], [0, 1, 2, 3, 4, 5, 6, 7, 8, 9, 10, 11, 12, 13, 14]]
def Tryz.a139r23 : ACode := .region [⟨(some 149), .mv (.t 10), none⟩,
  ⟨(some 150), .bin .add 0 (.t 149) (.c (.int .i64 1)), none⟩,
  ⟨(some 10), .mv (.t 150), none⟩]
def Tryz.a139r24 : ACode := .region [⟨(some 151), .mv (.t 11), none⟩,
  ⟨(some 152), .bin .sub 0 (.t 151) (.c (.int .i64 1)), none⟩,
  ⟨(some 11), .mv (.t 152), none⟩]
def Tryz.a139l25 : ACode := .block 5 (.seq (.block 6 (.loop [0, 1, 10, 11] Tryz.a139l17)) (.seq (.block 8 (.loop [0, 1, 10, 11] Tryz.a139l20)) (.seq (.seq (Tryz.a139r21) (.cond (.t 134) (.exit 4) (.skip))) (.seq (Tryz.a139r22) (.seq (Tryz.a139r23) (Tryz.a139r24))))))
def Tryz.a139r26 : ACode := .draw [⟨0, ⟨(some 153), .mv (.t 0), none⟩, []⟩,
  ⟨1, ⟨(some 154), .mv (.t 11), none⟩, []⟩,
  ⟨2, ⟨(some 155), .mv (.t 0), none⟩, []⟩,
  ⟨3, ⟨(some 156), .mv (.t 1), none⟩, []⟩,
  ⟨4, ⟨(some 157), .mv (.t 0), none⟩, []⟩,
  ⟨5, ⟨(some 158), .mv (.t 1), none⟩, []⟩,
  ⟨6, ⟨(some 159), .idx 1 (.t 157) (.t 158), none⟩, []⟩,
  ⟨7, ⟨(some 160), .load false 1 (.t 159), none⟩, []⟩,
  ⟨8, ⟨(some 161), .mv (.t 0), none⟩, []⟩,
  ⟨9, ⟨(some 162), .mv (.t 11), none⟩, []⟩,
  ⟨10, ⟨(some 163), .idx 1 (.t 161) (.t 162), none⟩, []⟩,
  ⟨11, ⟨(some 164), .load false 1 (.t 163), none⟩, []⟩,
  ⟨12, ⟨(some 165), .idx 1 (.t 153) (.t 154), none⟩, []⟩,
  ⟨13, ⟨none, .store 1 (.t 165) (.t 160) [], none⟩, []⟩,
  ⟨14, ⟨(some 166), .idx 1 (.t 155) (.t 156), none⟩, []⟩,
  ⟨15, ⟨none, .store 1 (.t 166) (.t 164) [], none⟩, []⟩] [[], [], [], [], [], [], [4, 5], [4, 5, 6], [], [], [8, 9], [8, 9, 10], [0, 1, 4, 5, 6, 7, 8, 9, 10, 11], [0, 1, 4, 5, 6, 7, 8, 9, 10, 11, 12], [0, 1, 2, 3, 4, 5, 6, 7, 8, 9, 10, 11, 12, 13], [0, 1, 2, 3, 4, 5, 6, 7, 8, 9, 10, 11, 12, 13, 14]]
def Tryz.a139r27 : ACode := .region [⟨(some 167), .mv (.t 11), none⟩,
  ⟨(some 8), .mv (.t 167), none⟩,
  ⟨(some 9), .mv (.c (.bool false)), none⟩]
def Tryz.c139 : ACode := .seq (Tryz.a139r0) (.seq (Tryz.a139r1) (.seq (Tryz.a139r2) (.seq (.block 0 (.loop [0, 1, 10, 11] Tryz.a139l5)) (.seq (.block 2 (.loop [0, 1, 10, 11] Tryz.a139l8)) (.seq (.seq (Tryz.a139r9) (.cond (.t 65) (.seq (Tryz.a139r10) (.seq (Tryz.a139r11) (.ret))) (.skip))) (.seq (Tryz.a139r12) (.seq (Tryz.a139r13) (.seq (Tryz.a139r14) (.seq (.block 4 (.loop [0, 1, 10, 11] Tryz.a139l25)) (.seq (Tryz.a139r26) (.seq (Tryz.a139r27) (.ret))))))))))))
def Tryz.a139 : AFunc := ⟨168, Tryz.c139, [(8, none), (9, none)], false⟩
theorem Tryz.a139_ok : chkFunc Tryz.prog Tryz.eqs Tryz.f139 Tryz.a139 = true := by kernel_rfl
theorem Tryz.w139 {first caps args : List AVal} {heap : List AObj} {K : AVal → List AObj → Prop} (N : Nat) (h : Ex (cfg Tryz.prog Tryz.eqs N) Tryz.c139 ⟨(first ++ args ++ caps) ++ List.replicate (168 - (first ++ args ++ caps).length) .undef, heap⟩ (kfun (cfg Tryz.prog Tryz.eqs N) [(8, none), (9, none)] false heap.length K)) : Hs Tryz.prog Tryz.eqs (.func 139 first caps) args heap K := Hs.enter Tryz.eqs_plain N (fn := Tryz.f139) (by kernel_rfl) Tryz.a139_ok h
def Tryz.a140r0 : ACode := .region [⟨(some 2), .mv (.c (.int .i64 0)), none⟩]
def Tryz.a140r1 : ACode := .region [⟨(some 3), .mv (.t 0), none⟩,
  ⟨(some 4), .bin .geq 0 (.t 3) (.c (.int .u32 65536)), none⟩]
def Tryz.a140r2 : ACode := .region [⟨(some 5), .mv (.t 0), none⟩,
  ⟨(some 6), .bin .shr 0 (.t 5) (.c (.int .u64 16)), none⟩,
  ⟨(some 0), .mv (.t 6), none⟩]
def Tryz.a140r3 : ACode := .region [⟨(some 2), .mv (.c (.int .i64 16)), none⟩]
def Tryz.a140r4 : ACode := .region [⟨(some 7), .mv (.t 0), none⟩,
  ⟨(some 8), .bin .geq 0 (.t 7) (.c (.int .u32 256)), none⟩]
def Tryz.a140r5 : ACode := .region [⟨(some 9), .mv (.t 0), none⟩,
  ⟨(some 10), .bin .shr 0 (.t 9) (.c (.int .u64 8)), none⟩,
  ⟨(some 0), .mv (.t 10), none⟩]
def Tryz.a140r6 : ACode := .region [⟨(some 11), .mv (.t 2), none⟩,
  ⟨(some 12), .bin .add 0 (.t 11) (.c (.int .i64 8)), none⟩,
  ⟨(some 2), .mv (.t 12), none⟩]
def Tryz.a140r7 : ACode := .region [⟨(some 13), .mv (.t 2), none⟩,
  ⟨(some 14), .mv (.t 0), none⟩,
  ⟨(some 15), .conv .u8 (.t 14), none⟩,
  ⟨(some 16), .indexStr (.c (.str (ByteArray.mk #[0, 1, 2, 2, 3, 3, 3, 3, 4, 4, 4, 4, 4, 4, 4, 4, 5, 5, 5, 5, 5, 5, 5, 5, 5, 5, 5, 5, 5, 5, 5, 5, 6, 6, 6, 6, 6, 6, 6, 6, 6, 6, 6, 6, 6, 6, 6, 6, 6, 6, 6, 6, 6, 6, 6, 6, 6, 6, 6, 6, 6, 6, 6, 6, 7, 7, 7, 7, 7, 7, 7, 7, 7, 7, 7, 7, 7, 7, 7, 7, 7, 7, 7, 7, 7, 7, 7, 7, 7, 7, 7, 7, 7, 7, 7, 7, 7, 7, 7, 7, 7, 7, 7, 7, 7, 7, 7, 7, 7, 7, 7, 7, 7, 7, 7, 7, 7, 7, 7, 7, 7, 7, 7, 7, 7, 7, 7, 7, 8, 8, 8, 8, 8, 8, 8, 8, 8, 8, 8, 8, 8, 8, 8, 8, 8, 8, 8, 8, 8, 8, 8, 8, 8, 8, 8, 8, 8, 8, 8, 8, 8, 8, 8, 8, 8, 8, 8, 8, 8, 8, 8, 8, 8, 8, 8, 8, 8, 8, 8, 8, 8, 8, 8, 8, 8, 8, 8, 8, 8, 8, 8, 8, 8, 8, 8, 8, 8, 8, 8, 8, 8, 8, 8, 8, 8, 8, 8, 8, 8, 8, 8, 8, 8, 8, 8, 8, 8, 8, 8, 8, 8, 8, 8, 8, 8, 8, 8, 8, 8, 8, 8, 8, 8, 8, 8, 8, 8, 8, 8, 8, 8, 8, 8, 8, 8, 8, 8, 8, 8, 8, 8, 8, 8, 8, 8, 8]))) (.t 15), none⟩,
  ⟨(some 17), .conv .i64 (.t 16), none⟩,
  ⟨(some 18), .bin .add 0 (.t 13) (.t 17), none⟩,
  ⟨(some 2), .mv (.t 18), none⟩]
def Tryz.c140 : ACode := .seq (Tryz.a140r0) (.seq (.seq (Tryz.a140r1) (.cond (.t 4) (.seq (Tryz.a140r2) (Tryz.a140r3)) (.skip))) (.seq (.seq (Tryz.a140r4) (.cond (.t 8) (.seq (Tryz.a140r5) (Tryz.a140r6)) (.skip))) (.seq (Tryz.a140r7) (.ret))))
def Tryz.a140 : AFunc := ⟨19, Tryz.c140, [(2, none)], false⟩
theorem Tryz.a140_ok : chkFunc Tryz.prog Tryz.eqs Tryz.f140 Tryz.a140 = true := by kernel_rfl
theorem Tryz.w140 {first caps args : List AVal} {heap : List AObj} {K : AVal → List AObj → Prop} (N : Nat) (h : Ex (cfg Tryz.prog Tryz.eqs N) Tryz.c140 ⟨(first ++ args ++ caps) ++ List.replicate (19 - (first ++ args ++ caps).length) .undef, heap⟩ (kfun (cfg Tryz.prog Tryz.eqs N) [(2, none)] false heap.length K)) : Hs Tryz.prog Tryz.eqs (.func 140 first caps) args heap K := Hs.enter Tryz.eqs_plain N (fn := Tryz.f140) (by kernel_rfl) Tryz.a140_ok h
def Tryz.a141r0 : ACode := .region [⟨(some 2), .mv (.c (.int .i64 0)), none⟩]
def Tryz.a141r1 : ACode := .region [⟨(some 3), .mv (.t 0), none⟩,
  ⟨(some 4), .bin .geq 0 (.t 3) (.c (.int .u64 4294967296)), none⟩]
def Tryz.a141r2 : ACode := .region [⟨(some 5), .mv (.t 0), none⟩,
  ⟨(some 6), .bin .shr 0 (.t 5) (.c (.int .u64 32)), none⟩,
  ⟨(some 0), .mv (.t 6), none⟩]
def Tryz.a141r3 : ACode := .region [⟨(some 2), .mv (.c (.int .i64 32)), none⟩]
def Tryz.a141r4 : ACode := .region [⟨(some 7), .mv (.t 0), none⟩,
  ⟨(some 8), .bin .geq 0 (.t 7) (.c (.int .u64 65536)), none⟩]
def Tryz.a141r5 : ACode := .region [⟨(some 9), .mv (.t 0), none⟩,
  ⟨(some 10), .bin .shr 0 (.t 9) (.c (.int .u64 16)), none⟩,
  ⟨(some 0), .mv (.t 10), none⟩]
def Tryz.a141r6 : ACode := .region [⟨(some 11), .mv (.t 2), none⟩,
  ⟨(some 12), .bin .add 0 (.t 11) (.c (.int .i64 16)), none⟩,
  ⟨(some 2), .mv (.t 12), none⟩]
def Tryz.a141r7 : ACode := .region [⟨(some 13), .mv (.t 0), none⟩,
  ⟨(some 14), .bin .geq 0 (.t 13) (.c (.int .u64 256)), none⟩]
def Tryz.a141r8 : ACode := .region [⟨(some 15), .mv (.t 0), none⟩,
  ⟨(some 16), .bin .shr 0 (.t 15) (.c (.int .u64 8)), none⟩,
  ⟨(some 0), .mv (.t 16), none⟩]
def Tryz.a141r9 : ACode := .region [⟨(some 17), .mv (.t 2), none⟩,
  ⟨(some 18), .bin .add 0 (.t 17) (.c (.int .i64 8)), none⟩,
  ⟨(some 2), .mv (.t 18), none⟩]
def Tryz.a141r10 : ACode := .region [⟨(some 19), .mv (.t 2), none⟩,
  ⟨(some 20), .mv (.t 0), none⟩,
  ⟨(some 21), .conv .u8 (.t 20), none⟩,
  ⟨(some 22), .indexStr (.c (.str (ByteArray.mk #[0, 1, 2, 2, 3, 3, 3, 3, 4, 4, 4, 4, 4, 4, 4, 4, 5, 5, 5, 5, 5, 5, 5, 5, 5, 5, 5, 5, 5, 5, 5, 5, 6, 6, 6, 6, 6, 6, 6, 6, 6, 6, 6, 6, 6, 6, 6, 6, 6, 6, 6, 6, 6, 6, 6, 6, 6, 6, 6, 6, 6, 6, 6, 6, 7, 7, 7, 7, 7, 7, 7, 7, 7, 7, 7, 7, 7, 7, 7, 7, 7, 7, 7, 7, 7, 7, 7, 7, 7, 7, 7, 7, 7, 7, 7, 7, 7, 7, 7, 7, 7, 7, 7, 7, 7, 7, 7, 7, 7, 7, 7, 7, 7, 7, 7, 7, 7, 7, 7, 7, 7, 7, 7, 7, 7, 7, 7, 7, 8, 8, 8, 8, 8, 8, 8, 8, 8, 8, 8, 8, 8, 8, 8, 8, 8, 8, 8, 8, 8, 8, 8, 8, 8, 8, 8, 8, 8, 8, 8, 8, 8, 8, 8, 8, 8, 8, 8, 8, 8, 8, 8, 8, 8, 8, 8, 8, 8, 8, 8, 8, 8, 8, 8, 8, 8, 8, 8, 8, 8, 8, 8, 8, 8, 8, 8, 8, 8, 8, 8, 8, 8, 8, 8, 8, 8, 8, 8, 8, 8, 8, 8, 8, 8, 8, 8, 8, 8, 8, 8, 8, 8, 8, 8, 8, 8, 8, 8, 8, 8, 8, 8, 8, 8, 8, 8, 8, 8, 8, 8, 8, 8, 8, 8, 8, 8, 8, 8, 8, 8, 8, 8, 8, 8, 8, 8, 8]))) (.t 21), none⟩,
  ⟨(some 23), .conv .i64 (.t 22), none⟩,
  ⟨(some 24), .bin .add 0 (.t 19) (.t 23), none⟩,
  ⟨(some 2), .mv (.t 24), none⟩]
def Tryz.c141 : ACode := .seq (Tryz.a141r0) (.seq (.seq (Tryz.a141r1) (.cond (.t 4) (.seq (Tryz.a141r2) (Tryz.a141r3)) (.skip))) (.seq (.seq (Tryz.a141r4) (.cond (.t 8) (.seq (Tryz.a141r5) (Tryz.a141r6)) (.skip))) (.seq (.seq (Tryz.a141r7) (.cond (.t 14) (.seq (Tryz.a141r8) (Tryz.a141r9)) (.skip))) (.seq (Tryz.a141r10) (.ret)))))
def Tryz.a141 : AFunc := ⟨25, Tryz.c141, [(2, none)], false⟩
theorem Tryz.a141_ok : chkFunc Tryz.prog Tryz.eqs Tryz.f141 Tryz.a141 = true := by kernel_rfl
theorem Tryz.w141 {first caps args : List AVal} {heap : List AObj} {K : AVal → List AObj → Prop} (N : Nat) (h : Ex (cfg Tryz.prog Tryz.eqs N) Tryz.c141 ⟨(first ++ args ++ caps) ++ List.replicate (25 - (first ++ args ++ caps).length) .undef, heap⟩ (kfun (cfg Tryz.prog Tryz.eqs N) [(2, none)] false heap.length K)) : Hs Tryz.prog Tryz.eqs (.func 141 first caps) args heap K := Hs.enter Tryz.eqs_plain N (fn := Tryz.f141) (by kernel_rfl) Tryz.a141_ok h
def Tryz.a142r0 : ACode := .region [⟨(some 4), .mv (.c (.bool false)), none⟩]
def Tryz.a142r1 : ACode := .region [⟨(some 5), .mv (.t 0), none⟩,
  ⟨(some 6), .mv (.t 1), none⟩,
  ⟨(some 7), .call (.c (.func 176 [] [])) [(.t 5), (.t 6)], none⟩,
  ⟨(some 8), .bin .geq 0 (.t 7) (.c (.int .i64 0)), none⟩,
  ⟨(some 4), .mv (.t 8), none⟩]
def Tryz.c142 : ACode := .seq (Tryz.a142r0) (.seq (Tryz.a142r1) (.ret))
def Tryz.a142 : AFunc := ⟨9, Tryz.c142, [(4, none)], false⟩
theorem Tryz.a142_ok : chkFunc Tryz.prog Tryz.eqs Tryz.f142 Tryz.a142 = true := by kernel_rfl
theorem Tryz.w142 {first caps args : List AVal} {heap : List AObj} {K : AVal → List AObj → Prop} (N : Nat) (h : Ex (cfg Tryz.prog Tryz.eqs N) Tryz.c142 ⟨(first ++ args ++ caps) ++ List.replicate (9 - (first ++ args ++ caps).length) .undef, heap⟩ (kfun (cfg Tryz.prog Tryz.eqs N) [(4, none)] false heap.length K)) : Hs Tryz.prog Tryz.eqs (.func 142 first caps) args heap K := Hs.enter Tryz.eqs_plain N (fn := Tryz.f142) (by kernel_rfl) Tryz.a142_ok h
def Tryz.a143r0 : ACode := .region [⟨(some 2), .box (.t 0) [], none⟩,
  ⟨(some 3), .mv (.c (.bool false)), none⟩]
def Tryz.a143r1 : ACode := .region [⟨(some 4), .load false 1 (.t 1), none⟩,
  ⟨(some 5), .load true 5 (.t 2), none⟩,
  ⟨(some 6), .call (.t 4) [(.t 5)], none⟩,
  ⟨(some 7), .un .not (.t 6), none⟩,
  ⟨(some 3), .mv (.t 7), none⟩]
def Tryz.c143 : ACode := .seq (Tryz.a143r0) (.seq (Tryz.a143r1) (.ret))
def Tryz.a143 : AFunc := ⟨8, Tryz.c143, [(3, none)], false⟩
theorem Tryz.a143_ok : chkFunc Tryz.prog Tryz.eqs Tryz.f143 Tryz.a143 = true := by kernel_rfl
theorem Tryz.w143 {first caps args : List AVal} {heap : List AObj} {K : AVal → List AObj → Prop} (N : Nat) (h : Ex (cfg Tryz.prog Tryz.eqs N) Tryz.c143 ⟨(first ++ args ++ caps) ++ List.replicate (8 - (first ++ args ++ caps).length) .undef, heap⟩ (kfun (cfg Tryz.prog Tryz.eqs N) [(3, none)] false heap.length K)) : Hs Tryz.prog Tryz.eqs (.func 143 first caps) args heap K := Hs.enter Tryz.eqs_plain N (fn := Tryz.f143) (by kernel_rfl) Tryz.a143_ok h
def Tryz.a160r0 : ACode := .region [⟨(some 4), .mv (.c (.int .i64 0)), none⟩]
def Tryz.a160r1 : ACode := .region [⟨(some 6), .mv (.t 0), none⟩,
  ⟨(some 7), .len 0 (.t 6), none⟩,
  ⟨(some 8), .mv (.c (.int .i64 0)), none⟩]
def Tryz.a160r2 : ACode := .region [⟨(some 9), .bin .lss 0 (.t 8) (.t 7), none⟩]
def Tryz.a160r3 : ACode := .region [⟨(some 10), .mv (.t 8), none⟩,
  ⟨(some 5), .mv (.t 10), none⟩]
def Tryz.a160r4 : ACode := .region [⟨(some 11), .mv (.t 1), none⟩,
  ⟨(some 12), .mv (.t 0), none⟩,
  ⟨(some 13), .mv (.t 5), none⟩,
  ⟨(some 14), .idx 3 (.t 12) (.t 13), none⟩,
  ⟨(some 15), .load true 3 (.t 14), none⟩,
  ⟨(some 16), .call (.t 11) [(.t 15)], none⟩]
def Tryz.a160r5 : ACode := .region [⟨(some 17), .mv (.t 5), none⟩,
  ⟨(some 4), .mv (.t 17), none⟩]
def Tryz.a160r6 : ACode := .region [⟨(some 18), .bin .add 0 (.t 8) (.c (.int .i64 1)), none⟩,
  ⟨(some 8), .mv (.t 18), none⟩]
def Tryz.a160l7 : ACode := .seq (Tryz.a160r2) (.seq (.cond (.t 9) (.skip) (.exit 0)) (.seq (.block 1 (.seq (Tryz.a160r3) (.seq (Tryz.a160r4) (.cond (.t 16) (.seq (Tryz.a160r5) (.ret)) (.skip))))) (Tryz.a160r6)))
def Tryz.a160r8 : ACode := .region [⟨(some 4), .mv (.c (.int .i64 (-1))), none⟩]
def Tryz.c160 : ACode := .seq (Tryz.a160r0) (.seq (.seq (Tryz.a160r1) (.block 0 (.loop [0, 1, 7, 8] Tryz.a160l7))) (.seq (Tryz.a160r8) (.ret)))
def Tryz.a160 : AFunc := ⟨19, Tryz.c160, [(4, none)], false⟩
theorem Tryz.a160_ok : chkFunc Tryz.prog Tryz.eqs Tryz.f160 Tryz.a160 = true := by kernel_rfl
theorem Tryz.w160 {first caps args : List AVal} {heap : List AObj} {K : AVal → List AObj → Prop} (N : Nat) (h : Ex (cfg Tryz.prog Tryz.eqs N) Tryz.c160 ⟨(first ++ args ++ caps) ++ List.replicate (19 - (first ++ args ++ caps).length) .undef, heap⟩ (kfun (cfg Tryz.prog Tryz.eqs N) [(4, none)] false heap.length K)) : Hs Tryz.prog Tryz.eqs (.func 160 first caps) args heap K := Hs.enter Tryz.eqs_plain N (fn := Tryz.f160) (by kernel_rfl) Tryz.a160_ok h
def Tryz.a161r0 : ACode := .region [⟨(some 4), .mv (.c (.int .i64 0)), none⟩]
def Tryz.a161r1 : ACode := .region [⟨(some 6), .mv (.t 0), none⟩,
  ⟨(some 7), .len 0 (.t 6), none⟩,
  ⟨(some 8), .mv (.c (.int .i64 0)), none⟩]
def Tryz.a161r2 : ACode := .region [⟨(some 9), .bin .lss 0 (.t 8) (.t 7), none⟩]
def Tryz.a161r3 : ACode := .region [⟨(some 10), .mv (.t 8), none⟩,
  ⟨(some 5), .mv (.t 10), none⟩]
def Tryz.a161r4 : ACode := .region [⟨(some 11), .mv (.t 1), none⟩,
  ⟨(some 12), .mv (.t 0), none⟩,
  ⟨(some 13), .mv (.t 5), none⟩,
  ⟨(some 14), .idx 4 (.t 12) (.t 13), none⟩,
  ⟨(some 15), .load true 4 (.t 14), none⟩,
  ⟨(some 16), .call (.t 11) [(.t 15)], none⟩]
def Tryz.a161r5 : ACode := .region [⟨(some 17), .mv (.t 5), none⟩,
  ⟨(some 4), .mv (.t 17), none⟩]
def Tryz.a161r6 : ACode := .region [⟨(some 18), .bin .add 0 (.t 8) (.c (.int .i64 1)), none⟩,
  ⟨(some 8), .mv (.t 18), none⟩]
def Tryz.a161l7 : ACode := .seq (Tryz.a161r2) (.seq (.cond (.t 9) (.skip) (.exit 0)) (.seq (.block 1 (.seq (Tryz.a161r3) (.seq (Tryz.a161r4) (.cond (.t 16) (.seq (Tryz.a161r5) (.ret)) (.skip))))) (Tryz.a161r6)))
def Tryz.a161r8 : ACode := .region [⟨(some 4), .mv (.c (.int .i64 (-1))), none⟩]
def Tryz.c161 : ACode := .seq (Tryz.a161r0) (.seq (.seq (Tryz.a161r1) (.block 0 (.loop [0, 1, 7, 8] Tryz.a161l7))) (.seq (Tryz.a161r8) (.ret)))
def Tryz.a161 : AFunc := ⟨19, Tryz.c161, [(4, none)], false⟩
theorem Tryz.a161_ok : chkFunc Tryz.prog Tryz.eqs Tryz.f161 Tryz.a161 = true := by kernel_rfl
theorem Tryz.w161 {first caps args : List AVal} {heap : List AObj} {K : AVal → List AObj → Prop} (N : Nat) (h : Ex (cfg Tryz.prog Tryz.eqs N) Tryz.c161 ⟨(first ++ args ++ caps) ++ List.replicate (19 - (first ++ args ++ caps).length) .undef, heap⟩ (kfun (cfg Tryz.prog Tryz.eqs N) [(4, none)] false heap.length K)) : Hs Tryz.prog Tryz.eqs (.func 161 first caps) args heap K := Hs.enter Tryz.eqs_plain N (fn := Tryz.f161) (by kernel_rfl) Tryz.a161_ok h
def Tryz.a162r0 : ACode := .region [⟨(some 4), .mv (.c (.int .i64 0)), none⟩]
def Tryz.a162r1 : ACode := .region [⟨(some 6), .mv (.t 0), none⟩,
  ⟨(some 7), .len 0 (.t 6), none⟩,
  ⟨(some 8), .mv (.c (.int .i64 0)), none⟩]
def Tryz.a162r2 : ACode := .region [⟨(some 9), .bin .lss 0 (.t 8) (.t 7), none⟩]
def Tryz.a162r3 : ACode := .region [⟨(some 10), .mv (.t 8), none⟩,
  ⟨(some 5), .mv (.t 10), none⟩]
def Tryz.a162r4 : ACode := .region [⟨(some 11), .mv (.t 1), none⟩,
  ⟨(some 12), .mv (.t 0), none⟩,
  ⟨(some 13), .mv (.t 5), none⟩,
  ⟨(some 14), .idx 2 (.t 12) (.t 13), none⟩,
  ⟨(some 15), .load true 2 (.t 14), none⟩,
  ⟨(some 16), .call (.t 11) [(.t 15)], none⟩]
def Tryz.a162r5 : ACode := .region [⟨(some 17), .mv (.t 5), none⟩,
  ⟨(some 4), .mv (.t 17), none⟩]
def Tryz.a162r6 : ACode := .region [⟨(some 18), .bin .add 0 (.t 8) (.c (.int .i64 1)), none⟩,
  ⟨(some 8), .mv (.t 18), none⟩]
def Tryz.a162l7 : ACode := .seq (Tryz.a162r2) (.seq (.cond (.t 9) (.skip) (.exit 0)) (.seq (.block 1 (.seq (Tryz.a162r3) (.seq (Tryz.a162r4) (.cond (.t 16) (.seq (Tryz.a162r5) (.ret)) (.skip))))) (Tryz.a162r6)))
def Tryz.a162r8 : ACode := .region [⟨(some 4), .mv (.c (.int .i64 (-1))), none⟩]
def Tryz.c162 : ACode := .seq (Tryz.a162r0) (.seq (.seq (Tryz.a162r1) (.block 0 (.loop [0, 1, 7, 8] Tryz.a162l7))) (.seq (Tryz.a162r8) (.ret)))
def Tryz.a162 : AFunc := ⟨19, Tryz.c162, [(4, none)], false⟩
theorem Tryz.a162_ok : chkFunc Tryz.prog Tryz.eqs Tryz.f162 Tryz.a162 = true := by kernel_rfl
theorem Tryz.w162 {first caps args : List AVal} {heap : List AObj} {K : AVal → List AObj → Prop} (N : Nat) (h : Ex (cfg Tryz.prog Tryz.eqs N) Tryz.c162 ⟨(first ++ args ++ caps) ++ List.replicate (19 - (first ++ args ++ caps).length) .undef, heap⟩ (kfun (cfg Tryz.prog Tryz.eqs N) [(4, none)] false heap.length K)) : Hs Tryz.prog Tryz.eqs (.func 162 first caps) args heap K := Hs.enter Tryz.eqs_plain N (fn := Tryz.f162) (by kernel_rfl) Tryz.a162_ok h
def Tryz.a163r0 : ACode := .region [⟨(some 2), .alloc 9 (.agg [(.int .i64 0), (.int .i64 0), (.int .i64 0), (.bool false), (.bool false), (.bool false), (.bool false), (.bool false), (.bool false)]) [], none⟩]
def Tryz.a163r1 : ACode := .region [⟨(some 3), .mv (.t 0), none⟩]
def Tryz.a163r2 : ACode := .region [⟨(some 5), .bin .eql 0 (.t 3) (.c (.int .i64 11)), none⟩,
  ⟨(some 4), .mv (.t 5), none⟩]
def Tryz.a163r3 : ACode := .region [⟨(some 6), .build (.agg [(.int .i64 0), (.int .i64 0), (.int .i64 0), (.bool false), (.bool false), (.bool false), (.bool false), (.bool false), (.bool false)]) [((5, 1), (.c (.bool true))), ((7, 1), (.c (.bool true))), ((8, 1), (.c (.bool true)))], none⟩,
  ⟨none, .store 9 (.t 2) (.t 6) [], none⟩]
def Tryz.a163r4 : ACode := .region [⟨(some 8), .bin .eql 0 (.t 3) (.c (.int .i64 12)), none⟩,
  ⟨(some 7), .mv (.t 8), none⟩]
def Tryz.a163r5 : ACode := .region [⟨(some 9), .build (.agg [(.int .i64 0), (.int .i64 0), (.int .i64 0), (.bool false), (.bool false), (.bool false), (.bool false), (.bool false), (.bool false)]) [((2, 1), (.c (.int .i64 12))), ((5, 1), (.c (.bool true))), ((7, 1), (.c (.bool true)))], none⟩,
  ⟨none, .store 9 (.t 2) (.t 9) [], none⟩]
def Tryz.a163r6 : ACode := .region [⟨(some 11), .bin .eql 0 (.t 3) (.c (.int .i64 13)), none⟩,
  ⟨(some 10), .mv (.t 11), none⟩]
def Tryz.a163r7 : ACode := .region [⟨(some 12), .build (.agg [(.int .i64 0), (.int .i64 0), (.int .i64 0), (.bool false), (.bool false), (.bool false), (.bool false), (.bool false), (.bool false)]) [((0, 1), (.c (.int .i64 2))), ((1, 1), (.c (.int .i64 11))), ((6, 1), (.c (.bool true)))], none⟩,
  ⟨none, .store 9 (.t 2) (.t 12) [], none⟩]
def Tryz.a163r8 : ACode := .region [⟨(some 14), .bin .eql 0 (.t 3) (.c (.int .i64 14)), none⟩,
  ⟨(some 13), .mv (.t 14), none⟩]
def Tryz.a163r9 : ACode := .region [⟨(some 15), .build (.agg [(.int .i64 0), (.int .i64 0), (.int .i64 0), (.bool false), (.bool false), (.bool false), (.bool false), (.bool false), (.bool false)]) [((2, 1), (.c (.int .i64 13)))], none⟩,
  ⟨none, .store 9 (.t 2) (.t 15) [], none⟩]
def Tryz.a163r10 : ACode := .region [⟨(some 17), .bin .eql 0 (.t 3) (.c (.int .i64 15)), none⟩,
  ⟨(some 16), .mv (.t 17), none⟩]
def Tryz.a163r11 : ACode := .region [⟨(some 18), .build (.agg [(.int .i64 0), (.int .i64 0), (.int .i64 0), (.bool false), (.bool false), (.bool false), (.bool false), (.bool false), (.bool false)]) [((0, 1), (.c (.int .i64 1))), ((7, 1), (.c (.bool true))), ((8, 1), (.c (.bool true)))], none⟩,
  ⟨none, .store 9 (.t 2) (.t 18) [], none⟩]
def Tryz.a163r12 : ACode := .region [⟨(some 20), .bin .eql 0 (.t 3) (.c (.int .i64 16)), none⟩,
  ⟨(some 19), .mv (.t 20), none⟩]
def Tryz.a163r13 : ACode := .region [⟨(some 21), .bin .eql 0 (.t 3) (.c (.int .i64 17)), none⟩,
  ⟨(some 19), .mv (.t 21), none⟩]
def Tryz.a163r14 : ACode := .region [⟨(some 22), .build (.agg [(.int .i64 0), (.int .i64 0), (.int .i64 0), (.bool false), (.bool false), (.bool false), (.bool false), (.bool false), (.bool false)]) [((1, 1), (.c (.int .i64 9)))], none⟩,
  ⟨none, .store 9 (.t 2) (.t 22) [], none⟩]
def Tryz.a163r15 : ACode := .region [⟨(some 24), .bin .eql 0 (.t 3) (.c (.int .i64 22)), none⟩,
  ⟨(some 23), .mv (.t 24), none⟩]
def Tryz.a163r16 : ACode := .region [⟨(some 25), .build (.agg [(.int .i64 0), (.int .i64 0), (.int .i64 0), (.bool false), (.bool false), (.bool false), (.bool false), (.bool false), (.bool false)]) [((1, 1), (.c (.int .i64 10)))], none⟩,
  ⟨none, .store 9 (.t 2) (.t 25) [], none⟩]
def Tryz.a163r17 : ACode := .region [⟨(some 27), .bin .eql 0 (.t 3) (.c (.int .i64 23)), none⟩,
  ⟨(some 26), .mv (.t 27), none⟩]
def Tryz.a163r18 : ACode := .region [⟨(some 28), .build (.agg [(.int .i64 0), (.int .i64 0), (.int .i64 0), (.bool false), (.bool false), (.bool false), (.bool false), (.bool false), (.bool false)]) [((5, 1), (.c (.bool true)))], none⟩,
  ⟨none, .store 9 (.t 2) (.t 28) [], none⟩]
def Tryz.a163r19 : ACode := .region [⟨(some 30), .bin .eql 0 (.t 3) (.c (.int .i64 24)), none⟩,
  ⟨(some 29), .mv (.t 30), none⟩]
def Tryz.a163r20 : ACode := .region [⟨(some 31), .build (.agg [(.int .i64 0), (.int .i64 0), (.int .i64 0), (.bool false), (.bool false), (.bool false), (.bool false), (.bool false), (.bool false)]) [((3, 1), (.c (.bool true)))], none⟩,
  ⟨none, .store 9 (.t 2) (.t 31) [], none⟩]
def Tryz.a163r21 : ACode := .region [⟨(some 32), .build (.agg [(.int .i64 0), (.int .i64 0), (.int .i64 0), (.bool false), (.bool false), (.bool false), (.bool false), (.bool false), (.bool false)]) [], none⟩,
  ⟨none, .store 9 (.t 2) (.t 32) [], none⟩]
def Tryz.c163 : ACode := .seq (Tryz.a163r0) (.seq (.seq (Tryz.a163r1) (.block 0 (.seq (Tryz.a163r2) (.cond (.t 4) (.seq (Tryz.a163r3) (.ret)) (.seq (Tryz.a163r4) (.cond (.t 7) (.seq (Tryz.a163r5) (.ret)) (.seq (Tryz.a163r6) (.cond (.t 10) (.seq (Tryz.a163r7) (.ret)) (.seq (Tryz.a163r8) (.cond (.t 13) (.seq (Tryz.a163r9) (.ret)) (.seq (Tryz.a163r10) (.cond (.t 16) (.seq (Tryz.a163r11) (.ret)) (.seq (.seq (Tryz.a163r12) (.cond (.t 19) (.skip) (Tryz.a163r13))) (.cond (.t 19) (.seq (Tryz.a163r14) (.ret)) (.seq (Tryz.a163r15) (.cond (.t 23) (.seq (Tryz.a163r16) (.ret)) (.seq (Tryz.a163r17) (.cond (.t 26) (.seq (Tryz.a163r18) (.ret)) (.seq (Tryz.a163r19) (.cond (.t 29) (.seq (Tryz.a163r20) (.ret)) (.skip))))))))))))))))))))) (.seq (Tryz.a163r21) (.ret)))
def Tryz.a163 : AFunc := ⟨33, Tryz.c163, [(2, some (true, 9))], false⟩
theorem Tryz.a163_ok : chkFunc Tryz.prog Tryz.eqs Tryz.f163 Tryz.a163 = true := by kernel_rfl
theorem Tryz.w163 {first caps args : List AVal} {heap : List AObj} {K : AVal → List AObj → Prop} (N : Nat) (h : Ex (cfg Tryz.prog Tryz.eqs N) Tryz.c163 ⟨(first ++ args ++ caps) ++ List.replicate (33 - (first ++ args ++ caps).length) .undef, heap⟩ (kfun (cfg Tryz.prog Tryz.eqs N) [(2, some (true, 9))] false heap.length K)) : Hs Tryz.prog Tryz.eqs (.func 163 first caps) args heap K := Hs.enter Tryz.eqs_plain N (fn := Tryz.f163) (by kernel_rfl) Tryz.a163_ok h
def Tryz.a164r0 : ACode := .region [⟨(some 3), .box (.t 0) [], none⟩,
  ⟨(some 4), .box (.t 1) [], none⟩,
  ⟨(some 6), .mv (.c (.int .i64 0)), none⟩,
  ⟨(some 7), .mv (.c (.bool false)), none⟩]
def Tryz.a164r1 : ACode := .region [⟨(some 14), .addo 3 (.t 4), none⟩,
  ⟨(some 15), .load false 1 (.t 14), none⟩,
  ⟨(some 16), .len 0 (.t 15), none⟩,
  ⟨(some 17), .bin .eql 0 (.t 16) (.c (.int .i64 0)), none⟩,
  ⟨(some 18), .mv (.t 17), none⟩,
  ⟨(some 19), .mv (.t 2), (some (18, true))⟩,
  ⟨(some 20), .bin .leq 0 (.t 19) (.c (.int .i64 10)), (some (18, true))⟩,
  ⟨(some 21), .pick (.t 18) (.t 20) (.c (.bool false)), none⟩,
  ⟨(some 8), .mv (.t 21), none⟩]
def Tryz.a164r2 : ACode := .region [⟨(some 22), .addo 0 (.t 4), none⟩,
  ⟨(some 23), .load false 1 (.t 22), none⟩]
def Tryz.a164r3 : ACode := .region [⟨(some 25), .bin .eql 0 (.t 23) (.c (.int .i64 1)), none⟩,
  ⟨(some 24), .mv (.t 25), none⟩]
def Tryz.a164r4 : ACode := .region [⟨(some 26), .mv (.t 8), none⟩,
  ⟨(some 27), .mv (.t 26), none⟩,
  ⟨(some 28), .addo 1 (.t 4), (some (27, true))⟩,
  ⟨(some 29), .load false 1 (.t 28), (some (27, true))⟩,
  ⟨(some 30), .bin .eql 0 (.t 29) (.c (.int .i64 0)), (some (27, true))⟩,
  ⟨(some 31), .pick (.t 27) (.t 30) (.c (.bool false)), none⟩,
  ⟨(some 32), .mv (.t 31), none⟩,
  ⟨(some 33), .addo 2 (.t 4), (some (32, true))⟩,
  ⟨(some 34), .load false 1 (.t 33), (some (32, true))⟩,
  ⟨(some 35), .call (.c (.func 76 [] [])) [(.t 34), (.c (.int .i64 (-2147483648))), (.c (.int .i64 2147483647))], (some (32, true))⟩,
  ⟨(some 36), .pick (.t 32) (.t 35) (.c (.bool false)), none⟩,
  ⟨(some 6), .mv (.c (.int .i64 1)), none⟩,
  ⟨(some 7), .mv (.t 36), none⟩]
def Tryz.a164r5 : ACode := .region [⟨(some 38), .bin .eql 0 (.t 23) (.c (.int .i64 2)), none⟩,
  ⟨(some 37), .mv (.t 38), none⟩]
def Tryz.a164r6 : ACode := .region [⟨(some 39), .mv (.t 8), none⟩,
  ⟨(some 40), .mv (.t 39), none⟩,
  ⟨(some 41), .addo 2 (.t 4), (some (40, true))⟩,
  ⟨(some 42), .load false 1 (.t 41), (some (40, true))⟩,
  ⟨(some 43), .bin .eql 0 (.t 42) (.c (.int .i64 0)), (some (40, true))⟩,
  ⟨(some 44), .pick (.t 40) (.t 43) (.c (.bool false)), none⟩,
  ⟨(some 45), .mv (.t 44), none⟩,
  ⟨(some 46), .addo 1 (.t 4), (some (45, true))⟩,
  ⟨(some 47), .load false 1 (.t 46), (some (45, true))⟩,
  ⟨(some 48), .addo 0 (.t 3), (some (45, true))⟩,
  ⟨(some 49), .addo 7 (.t 48), (some (45, true))⟩,
  ⟨(some 50), .load false 1 (.t 49), (some (45, true))⟩,
  ⟨(some 51), .bin .sub 0 (.t 50) (.c (.int .i64 1)), (some (45, true))⟩,
  ⟨(some 52), .call (.c (.func 76 [] [])) [(.t 47), (.c (.int .i64 0)), (.t 51)], (some (45, true))⟩,
  ⟨(some 53), .pick (.t 45) (.t 52) (.c (.bool false)), none⟩,
  ⟨(some 6), .mv (.c (.int .i64 1)), none⟩,
  ⟨(some 7), .mv (.t 53), none⟩]
def Tryz.a164r7 : ACode := .region [⟨(some 55), .bin .eql 0 (.t 23) (.c (.int .i64 3)), none⟩,
  ⟨(some 54), .mv (.t 55), none⟩]
def Tryz.a164r8 : ACode := .region [⟨(some 56), .mv (.t 8), none⟩,
  ⟨(some 57), .mv (.t 56), none⟩,
  ⟨(some 58), .addo 2 (.t 4), (some (57, true))⟩,
  ⟨(some 59), .load false 1 (.t 58), (some (57, true))⟩,
  ⟨(some 60), .bin .eql 0 (.t 59) (.c (.int .i64 0)), (some (57, true))⟩,
  ⟨(some 61), .pick (.t 57) (.t 60) (.c (.bool false)), none⟩,
  ⟨(some 62), .mv (.t 61), none⟩,
  ⟨(some 63), .addo 1 (.t 4), (some (62, true))⟩,
  ⟨(some 64), .load false 1 (.t 63), (some (62, true))⟩,
  ⟨(some 65), .addo 0 (.t 3), (some (62, true))⟩,
  ⟨(some 66), .addo 9 (.t 65), (some (62, true))⟩,
  ⟨(some 67), .load false 1 (.t 66), (some (62, true))⟩,
  ⟨(some 68), .len 0 (.t 67), (some (62, true))⟩,
  ⟨(some 69), .bin .sub 0 (.t 68) (.c (.int .i64 1)), (some (62, true))⟩,
  ⟨(some 70), .call (.c (.func 76 [] [])) [(.t 64), (.c (.int .i64 0)), (.t 69)], (some (62, true))⟩,
  ⟨(some 71), .pick (.t 62) (.t 70) (.c (.bool false)), none⟩,
  ⟨(some 6), .mv (.c (.int .i64 1)), none⟩,
  ⟨(some 7), .mv (.t 71), none⟩]
def Tryz.a164r9 : ACode := .region [⟨(some 72), .addo 0 (.t 4), none⟩,
  ⟨(some 73), .load false 1 (.t 72), none⟩,
  ⟨(some 74), .call (.c (.func 76 [] [])) [(.t 73), (.c (.int .i64 4)), (.c (.int .i64 10))], none⟩,
  ⟨(some 75), .un .not (.t 74), none⟩,
  ⟨(some 76), .mv (.t 75), none⟩,
  ⟨(some 77), .addo 1 (.t 4), (some (76, false))⟩,
  ⟨(some 78), .load false 1 (.t 77), (some (76, false))⟩,
  ⟨(some 79), .bin .neq 0 (.t 78) (.c (.int .i64 0)), (some (76, false))⟩,
  ⟨(some 80), .pick (.t 76) (.c (.bool true)) (.t 79), none⟩,
  ⟨(some 81), .mv (.t 80), none⟩,
  ⟨(some 82), .addo 2 (.t 4), (some (81, false))⟩,
  ⟨(some 83), .load false 1 (.t 82), (some (81, false))⟩,
  ⟨(some 84), .bin .neq 0 (.t 83) (.c (.int .i64 0)), (some (81, false))⟩,
  ⟨(some 85), .pick (.t 81) (.c (.bool true)) (.t 84), none⟩,
  ⟨(some 86), .mv (.t 85), none⟩,
  ⟨(some 87), .addo 3 (.t 4), (some (86, false))⟩,
  ⟨(some 88), .load false 1 (.t 87), (some (86, false))⟩,
  ⟨(some 89), .len 0 (.t 88), (some (86, false))⟩,
  ⟨(some 90), .bin .neq 0 (.t 89) (.c (.int .i64 2)), (some (86, false))⟩,
  ⟨(some 91), .pick (.t 86) (.c (.bool true)) (.t 90), none⟩,
  ⟨(some 92), .mv (.t 91), none⟩,
  ⟨(some 93), .mv (.t 2), (some (92, false))⟩,
  ⟨(some 94), .bin .geq 0 (.t 93) (.c (.int .i64 10)), (some (92, false))⟩,
  ⟨(some 95), .pick (.t 92) (.c (.bool true)) (.t 94), none⟩]
def Tryz.a164r10 : ACode := .region [⟨(some 6), .mv (.c (.int .i64 0)), none⟩,
  ⟨(some 7), .mv (.c (.bool false)), none⟩]
def Tryz.a164r11 : ACode := .region [⟨(some 9), .mv (.c (.int .i64 1)), none⟩]
def Tryz.a164r12 : ACode := .region [⟨(some 96), .addo 3 (.t 4), none⟩,
  ⟨(some 97), .load false 1 (.t 96), none⟩,
  ⟨(some 98), .len 0 (.t 97), none⟩,
  ⟨(some 99), .mv (.c (.int .i64 0)), none⟩]
def Tryz.a164r13 : ACode := .region [⟨(some 100), .bin .lss 0 (.t 99) (.t 98), none⟩]
def Tryz.a164r14 : ACode := .region [⟨(some 101), .idx 4 (.t 97) (.t 99), none⟩,
  ⟨(some 102), .load true 4 (.t 101), none⟩,
  ⟨(some 11), .alloc 4 (.agg [(.int .i64 0), (.int .i64 0), (.int .i64 0), .nils]) [], none⟩,
  ⟨none, .store 4 (.t 11) (.t 102) [], none⟩]
def Tryz.a164r15 : ACode := .region [⟨(some 104), .load true 19 (.t 3), none⟩,
  ⟨(some 105), .load true 4 (.t 11), none⟩,
  ⟨(some 106), .mv (.t 2), none⟩,
  ⟨(some 107), .bin .add 0 (.t 106) (.c (.int .i64 1)), none⟩,
  ⟨(some 108), .call (.c (.func 164 [] [])) [(.t 104), (.t 105), (.t 107)], none⟩,
  ⟨(some 103), .mv (.t 108), none⟩,
  ⟨(some 109), .ext 0 (.t 103), none⟩,
  ⟨(some 110), .ext 1 (.t 103), none⟩,
  ⟨(some 12), .mv (.t 109), none⟩,
  ⟨(some 13), .mv (.t 110), none⟩]
def Tryz.a164r16 : ACode := .region [⟨(some 111), .mv (.t 13), none⟩,
  ⟨(some 112), .un .not (.t 111), none⟩]
def Tryz.a164r17 : ACode := .region [⟨(some 6), .mv (.c (.int .i64 0)), none⟩,
  ⟨(some 7), .mv (.c (.bool false)), none⟩]
def Tryz.a164r18 : ACode := .region [⟨(some 113), .mv (.t 9), none⟩,
  ⟨(some 114), .mv (.t 12), none⟩,
  ⟨(some 115), .bin .add 0 (.t 113) (.t 114), none⟩,
  ⟨(some 9), .mv (.t 115), none⟩]
def Tryz.a164r19 : ACode := .region [⟨(some 116), .bin .add 0 (.t 99) (.c (.int .i64 1)), none⟩,
  ⟨(some 99), .mv (.t 116), none⟩]
def Tryz.a164l20 : ACode := .seq (Tryz.a164r13) (.seq (.cond (.t 100) (.skip) (.exit 1)) (.seq (.block 2 (.seq (Tryz.a164r14) (.seq (Tryz.a164r15) (.seq (.seq (Tryz.a164r16) (.cond (.t 112) (.seq (Tryz.a164r17) (.ret)) (.skip))) (Tryz.a164r18))))) (Tryz.a164r19)))
def Tryz.a164r21 : ACode := .region [⟨(some 117), .mv (.t 9), none⟩,
  ⟨(some 6), .mv (.t 117), none⟩,
  ⟨(some 7), .mv (.c (.bool true)), none⟩]
def Tryz.c164 : ACode := .seq (Tryz.a164r0) (.seq (Tryz.a164r1) (.seq (.seq (Tryz.a164r2) (.block 0 (.seq (Tryz.a164r3) (.cond (.t 24) (.seq (Tryz.a164r4) (.ret)) (.seq (Tryz.a164r5) (.cond (.t 37) (.seq (Tryz.a164r6) (.ret)) (.seq (Tryz.a164r7) (.cond (.t 54) (.seq (Tryz.a164r8) (.ret)) (.skip))))))))) (.seq (.seq (Tryz.a164r9) (.cond (.t 95) (.seq (Tryz.a164r10) (.ret)) (.skip))) (.seq (Tryz.a164r11) (.seq (.seq (Tryz.a164r12) (.block 1 (.loop [2, 3, 9, 97, 98, 99] Tryz.a164l20))) (.seq (Tryz.a164r21) (.ret)))))))
def Tryz.a164 : AFunc := ⟨118, Tryz.c164, [(6, none), (7, none)], false⟩
theorem Tryz.a164_ok : chkFunc Tryz.prog Tryz.eqs Tryz.f164 Tryz.a164 = true := by kernel_rfl
theorem Tryz.w164 {first caps args : List AVal} {heap : List AObj} {K : AVal → List AObj → Prop} (N : Nat) (h : Ex (cfg Tryz.prog Tryz.eqs N) Tryz.c164 ⟨(first ++ args ++ caps) ++ List.replicate (118 - (first ++ args ++ caps).length) .undef, heap⟩ (kfun (cfg Tryz.prog Tryz.eqs N) [(6, none), (7, none)] false heap.length K)) : Hs Tryz.prog Tryz.eqs (.func 164 first caps) args heap K := Hs.enter Tryz.eqs_plain N (fn := Tryz.f164) (by kernel_rfl) Tryz.a164_ok h
def Tryz.a165r0 : ACode := .region [⟨(some 3), .box (.t 0) [], none⟩,
  ⟨(some 4), .box (.t 1) [], none⟩,
  ⟨(some 6), .mv (.c (.int .i64 0)), none⟩,
  ⟨(some 7), .mv (.c (.bool false)), none⟩]
def Tryz.a165r1 : ACode := .region [⟨(some 19), .addo 1 (.t 4), none⟩,
  ⟨(some 20), .load false 1 (.t 19), none⟩,
  ⟨(some 21), .len 0 (.t 20), none⟩,
  ⟨(some 22), .addo 2 (.t 4), none⟩,
  ⟨(some 23), .load false 1 (.t 22), none⟩,
  ⟨(some 24), .len 0 (.t 23), none⟩,
  ⟨(some 25), .build (.agg [(.int .i64 0), (.int .i64 0)]) [((0, 1), (.t 21)), ((1, 1), (.t 24))], none⟩,
  ⟨(some 8), .alloc 2 (.agg [(.int .i64 0), (.int .i64 0)]) [], none⟩,
  ⟨none, .store 2 (.t 8) (.t 25) [], none⟩]
def Tryz.a165r2 : ACode := .region [⟨(some 26), .build (.agg [(.int .i64 0), (.int .i64 0)]) [], none⟩,
  ⟨(some 9), .alloc 2 (.agg [(.int .i64 0), (.int .i64 0)]) [], none⟩,
  ⟨none, .store 2 (.t 9) (.t 26) [], none⟩]
def Tryz.a165r3 : ACode := .region [⟨(some 27), .addo 0 (.t 4), none⟩,
  ⟨(some 28), .load false 1 (.t 27), none⟩]
def Tryz.a165r4 : ACode := .region [⟨(some 30), .bin .eql 0 (.t 28) (.c (.int .i64 1)), none⟩,
  ⟨(some 29), .mv (.t 30), none⟩]
def Tryz.a165r5 : ACode := .region [⟨(some 32), .bin .eql 0 (.t 28) (.c (.int .i64 2)), none⟩,
  ⟨(some 31), .mv (.t 32), none⟩]
def Tryz.a165r6 : ACode := .region [⟨(some 33), .bin .eql 0 (.t 28) (.c (.int .i64 3)), none⟩,
  ⟨(some 31), .mv (.t 33), none⟩]
def Tryz.a165r7 : ACode := .region [⟨(some 34), .bin .eql 0 (.t 28) (.c (.int .i64 4)), none⟩,
  ⟨(some 31), .mv (.t 34), none⟩]
def Tryz.a165r8 : ACode := .region [⟨(some 35), .addo 0 (.t 9), none⟩,
  ⟨none, .store 1 (.t 35) (.c (.int .i64 2)) [], none⟩]
def Tryz.a165r9 : ACode := .region [⟨(some 37), .bin .eql 0 (.t 28) (.c (.int .i64 5)), none⟩,
  ⟨(some 36), .mv (.t 37), none⟩]
def Tryz.a165r10 : ACode := .region [⟨(some 38), .addo 1 (.t 9), none⟩,
  ⟨none, .store 1 (.t 38) (.c (.int .i64 1)) [], none⟩]
def Tryz.a165r11 : ACode := .region [⟨(some 40), .bin .eql 0 (.t 28) (.c (.int .i64 6)), none⟩,
  ⟨(some 39), .mv (.t 40), none⟩]
def Tryz.a165r12 : ACode := .region [⟨(some 41), .bin .eql 0 (.t 28) (.c (.int .i64 7)), none⟩,
  ⟨(some 39), .mv (.t 41), none⟩]
def Tryz.a165r13 : ACode := .region [⟨(some 42), .addo 1 (.t 9), none⟩,
  ⟨none, .store 1 (.t 42) (.c (.int .i64 2)) [], none⟩]
def Tryz.a165r14 : ACode := .region [⟨(some 6), .mv (.c (.int .i64 0)), none⟩,
  ⟨(some 7), .mv (.c (.bool false)), none⟩]
def Tryz.a165r15 : ACode := .region [⟨(some 43), .load true 2 (.t 8), none⟩,
  ⟨(some 44), .load true 2 (.t 9), none⟩,
  ⟨(some 45), .bin .neq 10 (.t 43) (.t 44), none⟩,
  ⟨(some 46), .mv (.t 45), none⟩,
  ⟨(some 47), .mv (.t 2), (some (46, false))⟩,
  ⟨(some 48), .bin .gtr 0 (.t 47) (.c (.int .i64 10)), (some (46, false))⟩,
  ⟨(some 49), .pick (.t 46) (.c (.bool true)) (.t 48), none⟩]
def Tryz.a165r16 : ACode := .region [⟨(some 6), .mv (.c (.int .i64 0)), none⟩,
  ⟨(some 7), .mv (.c (.bool false)), none⟩]
def Tryz.a165r17 : ACode := .region [⟨(some 10), .mv (.c (.int .i64 1)), none⟩]
def Tryz.a165r18 : ACode := .region [⟨(some 50), .addo 1 (.t 4), none⟩,
  ⟨(some 51), .load false 1 (.t 50), none⟩,
  ⟨(some 52), .len 0 (.t 51), none⟩,
  ⟨(some 53), .mv (.c (.int .i64 0)), none⟩]
def Tryz.a165r19 : ACode := .region [⟨(some 54), .bin .lss 0 (.t 53) (.t 52), none⟩]
def Tryz.a165r20 : ACode := .region [⟨(some 55), .idx 4 (.t 51) (.t 53), none⟩,
  ⟨(some 56), .load true 4 (.t 55), none⟩,
  ⟨(some 12), .alloc 4 (.agg [(.int .i64 0), (.int .i64 0), (.int .i64 0), .nils]) [], none⟩,
  ⟨none, .store 4 (.t 12) (.t 56) [], none⟩]
def Tryz.a165r21 : ACode := .region [⟨(some 58), .load true 19 (.t 3), none⟩,
  ⟨(some 59), .load true 4 (.t 12), none⟩,
  ⟨(some 60), .mv (.t 2), none⟩,
  ⟨(some 61), .bin .add 0 (.t 60) (.c (.int .i64 1)), none⟩,
  ⟨(some 62), .call (.c (.func 164 [] [])) [(.t 58), (.t 59), (.t 61)], none⟩,
  ⟨(some 57), .mv (.t 62), none⟩,
  ⟨(some 63), .ext 0 (.t 57), none⟩,
  ⟨(some 64), .ext 1 (.t 57), none⟩,
  ⟨(some 13), .mv (.t 63), none⟩,
  ⟨(some 14), .mv (.t 64), none⟩]
def Tryz.a165r22 : ACode := .region [⟨(some 65), .mv (.t 14), none⟩,
  ⟨(some 66), .un .not (.t 65), none⟩]
def Tryz.a165r23 : ACode := .region [⟨(some 6), .mv (.c (.int .i64 0)), none⟩,
  ⟨(some 7), .mv (.c (.bool false)), none⟩]
def Tryz.a165r24 : ACode := .region [⟨(some 67), .mv (.t 10), none⟩,
  ⟨(some 68), .mv (.t 13), none⟩,
  ⟨(some 69), .bin .add 0 (.t 67) (.t 68), none⟩,
  ⟨(some 10), .mv (.t 69), none⟩]
def Tryz.a165r25 : ACode := .region [⟨(some 70), .bin .add 0 (.t 53) (.c (.int .i64 1)), none⟩,
  ⟨(some 53), .mv (.t 70), none⟩]
def Tryz.a165l26 : ACode := .seq (Tryz.a165r19) (.seq (.cond (.t 54) (.skip) (.exit 1)) (.seq (.block 2 (.seq (Tryz.a165r20) (.seq (Tryz.a165r21) (.seq (.seq (Tryz.a165r22) (.cond (.t 66) (.seq (Tryz.a165r23) (.ret)) (.skip))) (Tryz.a165r24))))) (Tryz.a165r25)))
def Tryz.a165r27 : ACode := .region [⟨(some 71), .addo 2 (.t 4), none⟩,
  ⟨(some 72), .load false 1 (.t 71), none⟩,
  ⟨(some 73), .len 0 (.t 72), none⟩,
  ⟨(some 74), .mv (.c (.int .i64 0)), none⟩]
def Tryz.a165r28 : ACode := .region [⟨(some 75), .bin .lss 0 (.t 74) (.t 73), none⟩]
def Tryz.a165r29 : ACode := .region [⟨(some 76), .idx 3 (.t 72) (.t 74), none⟩,
  ⟨(some 77), .load true 3 (.t 76), none⟩,
  ⟨(some 16), .alloc 3 (.agg [(.int .i64 0), .nils, .nils]) [], none⟩,
  ⟨none, .store 3 (.t 16) (.t 77) [], none⟩]
def Tryz.a165r30 : ACode := .region [⟨(some 79), .load true 19 (.t 3), none⟩,
  ⟨(some 80), .load true 3 (.t 16), none⟩,
  ⟨(some 81), .mv (.t 2), none⟩,
  ⟨(some 82), .bin .add 0 (.t 81) (.c (.int .i64 1)), none⟩,
  ⟨(some 83), .call (.c (.func 165 [] [])) [(.t 79), (.t 80), (.t 82)], none⟩,
  ⟨(some 78), .mv (.t 83), none⟩,
  ⟨(some 84), .ext 0 (.t 78), none⟩,
  ⟨(some 85), .ext 1 (.t 78), none⟩,
  ⟨(some 17), .mv (.t 84), none⟩,
  ⟨(some 18), .mv (.t 85), none⟩]
def Tryz.a165r31 : ACode := .region [⟨(some 86), .mv (.t 18), none⟩,
  ⟨(some 87), .un .not (.t 86), none⟩]
def Tryz.a165r32 : ACode := .region [⟨(some 6), .mv (.c (.int .i64 0)), none⟩,
  ⟨(some 7), .mv (.c (.bool false)), none⟩]
def Tryz.a165r33 : ACode := .region [⟨(some 88), .mv (.t 10), none⟩,
  ⟨(some 89), .mv (.t 17), none⟩,
  ⟨(some 90), .bin .add 0 (.t 88) (.t 89), none⟩,
  ⟨(some 10), .mv (.t 90), none⟩]
def Tryz.a165r34 : ACode := .region [⟨(some 91), .bin .add 0 (.t 74) (.c (.int .i64 1)), none⟩,
  ⟨(some 74), .mv (.t 91), none⟩]
def Tryz.a165l35 : ACode := .seq (Tryz.a165r28) (.seq (.cond (.t 75) (.skip) (.exit 3)) (.seq (.block 4 (.seq (Tryz.a165r29) (.seq (Tryz.a165r30) (.seq (.seq (Tryz.a165r31) (.cond (.t 87) (.seq (Tryz.a165r32) (.ret)) (.skip))) (Tryz.a165r33))))) (Tryz.a165r34)))
def Tryz.a165r36 : ACode := .region [⟨(some 92), .mv (.t 10), none⟩,
  ⟨(some 6), .mv (.t 92), none⟩,
  ⟨(some 7), .mv (.c (.bool true)), none⟩]
def Tryz.c165 : ACode := .seq (Tryz.a165r0) (.seq (Tryz.a165r1) (.seq (Tryz.a165r2) (.seq (.seq (Tryz.a165r3) (.block 0 (.seq (Tryz.a165r4) (.cond (.t 29) (.skip) (.seq (.seq (Tryz.a165r5) (.cond (.t 31) (.skip) (.seq (Tryz.a165r6) (.cond (.t 31) (.skip) (Tryz.a165r7))))) (.cond (.t 31) (Tryz.a165r8) (.seq (Tryz.a165r9) (.cond (.t 36) (Tryz.a165r10) (.seq (.seq (Tryz.a165r11) (.cond (.t 39) (.skip) (Tryz.a165r12))) (.cond (.t 39) (Tryz.a165r13) (.seq (Tryz.a165r14) (.ret)))))))))))) (.seq (.seq (Tryz.a165r15) (.cond (.t 49) (.seq (Tryz.a165r16) (.ret)) (.skip))) (.seq (Tryz.a165r17) (.seq (.seq (Tryz.a165r18) (.block 1 (.loop [2, 3, 4, 10, 51, 52, 53] Tryz.a165l26))) (.seq (.seq (Tryz.a165r27) (.block 3 (.loop [2, 3, 10, 72, 73, 74] Tryz.a165l35))) (.seq (Tryz.a165r36) (.ret)))))))))
def Tryz.a165 : AFunc := ⟨93, Tryz.c165, [(6, none), (7, none)], false⟩
theorem Tryz.a165_ok : chkFunc Tryz.prog Tryz.eqs Tryz.f165 Tryz.a165 = true := by kernel_rfl
theorem Tryz.w165 {first caps args : List AVal} {heap : List AObj} {K : AVal → List AObj → Prop} (N : Nat) (h : Ex (cfg Tryz.prog Tryz.eqs N) Tryz.c165 ⟨(first ++ args ++ caps) ++ List.replicate (93 - (first ++ args ++ caps).length) .undef, heap⟩ (kfun (cfg Tryz.prog Tryz.eqs N) [(6, none), (7, none)] false heap.length K)) : Hs Tryz.prog Tryz.eqs (.func 165 first caps) args heap K := Hs.enter Tryz.eqs_plain N (fn := Tryz.f165) (by kernel_rfl) Tryz.a165_ok h
def Tryz.a166r0 : ACode := .region [⟨(some 4), .mv (.c (.bool false)), none⟩]
def Tryz.a166r1 : ACode := .region [⟨(some 5), .mv (.t 0), none⟩,
  ⟨(some 6), .mv (.t 1), none⟩,
  ⟨(some 7), .call (.c (.func 181 [] [])) [(.t 5), (.t 6)], none⟩,
  ⟨(some 8), .bin .geq 0 (.t 7) (.c (.int .i64 0)), none⟩,
  ⟨(some 4), .mv (.t 8), none⟩]
def Tryz.c166 : ACode := .seq (Tryz.a166r0) (.seq (Tryz.a166r1) (.ret))
def Tryz.a166 : AFunc := ⟨9, Tryz.c166, [(4, none)], false⟩
theorem Tryz.a166_ok : chkFunc Tryz.prog Tryz.eqs Tryz.f166 Tryz.a166 = true := by kernel_rfl
theorem Tryz.w166 {first caps args : List AVal} {heap : List AObj} {K : AVal → List AObj → Prop} (N : Nat) (h : Ex (cfg Tryz.prog Tryz.eqs N) Tryz.c166 ⟨(first ++ args ++ caps) ++ List.replicate (9 - (first ++ args ++ caps).length) .undef, heap⟩ (kfun (cfg Tryz.prog Tryz.eqs N) [(4, none)] false heap.length K)) : Hs Tryz.prog Tryz.eqs (.func 166 first caps) args heap K := Hs.enter Tryz.eqs_plain N (fn := Tryz.f166) (by kernel_rfl) Tryz.a166_ok h
def Tryz.a167r0 : ACode := .region [⟨(some 2), .box (.t 0) [], none⟩,
  ⟨(some 3), .mv (.c (.bool false)), none⟩]
def Tryz.a167r1 : ACode := .region [⟨(some 4), .load false 1 (.t 1), none⟩,
  ⟨(some 5), .load true 4 (.t 2), none⟩,
  ⟨(some 6), .call (.t 4) [(.t 5)], none⟩,
  ⟨(some 7), .un .not (.t 6), none⟩,
  ⟨(some 3), .mv (.t 7), none⟩]
def Tryz.c167 : ACode := .seq (Tryz.a167r0) (.seq (Tryz.a167r1) (.ret))
def Tryz.a167 : AFunc := ⟨8, Tryz.c167, [(3, none)], false⟩
theorem Tryz.a167_ok : chkFunc Tryz.prog Tryz.eqs Tryz.f167 Tryz.a167 = true := by kernel_rfl
theorem Tryz.w167 {first caps args : List AVal} {heap : List AObj} {K : AVal → List AObj → Prop} (N : Nat) (h : Ex (cfg Tryz.prog Tryz.eqs N) Tryz.c167 ⟨(first ++ args ++ caps) ++ List.replicate (8 - (first ++ args ++ caps).length) .undef, heap⟩ (kfun (cfg Tryz.prog Tryz.eqs N) [(3, none)] false heap.length K)) : Hs Tryz.prog Tryz.eqs (.func 167 first caps) args heap K := Hs.enter Tryz.eqs_plain N (fn := Tryz.f167) (by kernel_rfl) Tryz.a167_ok h
def Tryz.a170r0 : ACode := .region [⟨(some 10), .mv (.t 1), none⟩,
  ⟨(some 8), .mv (.t 10), none⟩]
def Tryz.a170r1 : ACode := .region [⟨(some 11), .mv (.t 8), none⟩,
  ⟨(some 12), .bin .mul 0 (.c (.int .i64 2)) (.t 11), none⟩,
  ⟨(some 13), .bin .add 0 (.t 12) (.c (.int .i64 1)), none⟩,
  ⟨(some 9), .mv (.t 13), none⟩]
def Tryz.a170r2 : ACode := .region [⟨(some 14), .mv (.t 9), none⟩,
  ⟨(some 15), .mv (.t 2), none⟩,
  ⟨(some 16), .bin .geq 0 (.t 14) (.t 15), none⟩]
def Tryz.a170r3 : ACode := .draw [⟨0, ⟨(some 17), .mv (.t 9), none⟩, []⟩,
  ⟨1, ⟨(some 18), .bin .add 0 (.t 17) (.c (.int .i64 1)), none⟩, []⟩,
  ⟨2, ⟨(some 19), .mv (.t 2), none⟩, []⟩,
  ⟨3, ⟨(some 20), .bin .lss 0 (.t 18) (.t 19), none⟩, []⟩,
  ⟨4, ⟨(some 21), .mv (.t 20), none⟩, []⟩,
  ⟨5, ⟨(some 22), .mv (.t 0), (some (21, true))⟩, []⟩,
  ⟨6, ⟨(some 23), .mv (.t 3), (some (21, true))⟩, []⟩,
  ⟨7, ⟨(some 24), .mv (.t 9), (some (21, true))⟩, []⟩,
  ⟨8, ⟨(some 25), .bin .add 0 (.t 23) (.t 24), (some (21, true))⟩, []⟩,
  ⟨9, ⟨(some 26), .idx 1 (.t 22) (.t 25), (some (21, true))⟩, []⟩,
  ⟨10, ⟨(some 27), .load false 1 (.t 26), (some (21, true))⟩, []⟩,
  ⟨11, ⟨(some 28), .mv (.t 0), (some (21, true))⟩, []⟩,
  ⟨12, ⟨(some 29), .mv (.t 3), (some (21, true))⟩, []⟩,
  ⟨13, ⟨(some 30), .mv (.t 9), (some (21, true))⟩, []⟩,
  ⟨14, ⟨(some 31), .bin .add 0 (.t 29) (.t 30), (some (21, true))⟩, []⟩,
  ⟨15, ⟨(some 32), .bin .add 0 (.t 31) (.c (.int .i64 1)), (some (21, true))⟩, []⟩,
  ⟨16, ⟨(some 33), .idx 1 (.t 28) (.t 32), (some (21, true))⟩, []⟩,
  ⟨17, ⟨(some 34), .load false 1 (.t 33), (some (21, true))⟩, []⟩,
  ⟨18, ⟨(some 35), .call (.c (.func 137 [] [])) [(.t 27), (.t 34)], (some (21, true))⟩, []⟩,
  ⟨19, ⟨(some 36), .pick (.t 21) (.t 35) (.c (.bool false)), none⟩, []⟩] [[], [0], [], [0, 1, 2], [0, 1, 2, 3], [0, 1, 2, 3, 4], [0, 1, 2, 3, 4], [0, 1, 2, 3, 4], [0, 1, 2, 3, 4, 6, 7], [0, 1, 2, 3, 4, 5, 6, 7, 8], [0, 1, 2, 3, 4, 5, 6, 7, 8, 9], [0, 1, 2, 3, 4], [0, 1, 2, 3, 4], [0, 1, 2, 3, 4], [0, 1, 2, 3, 4, 12, 13], [0, 1, 2, 3, 4, 12, 13, 14], [0, 1, 2, 3, 4, 11, 12, 13, 14, 15], [0, 1, 2, 3, 4, 11, 12, 13, 14, 15, 16], [0, 1, 2, 3, 4, 5, 6, 7, 8, 9, 10, 11, 12, 13, 14, 15, 16, 17], [0, 1, 2, 3, 4, 5, 6, 7, 8, 9, 10, 11, 12, 13, 14, 15, 16, 17, 18]]
def Tryz.a170r4 : ACode := .region [⟨(some 37), .mv (.t 9), none⟩,
  ⟨(some 38), .bin .add 0 (.t 37) (.c (.int .i64 1)), none⟩,
  ⟨(some 9), .mv (.t 38), none⟩]
def Tryz.a170r5 : ACode := .draw [⟨0, ⟨(some 39), .mv (.t 0), none⟩, []⟩,
  ⟨1, ⟨(some 40), .mv (.t 3), none⟩, []⟩,
  ⟨2, ⟨(some 41), .mv (.t 8), none⟩, []⟩,
  ⟨3, ⟨(some 42), .bin .add 0 (.t 40) (.t 41), none⟩, []⟩,
  ⟨4, ⟨(some 43), .idx 1 (.t 39) (.t 42), none⟩, []⟩,
  ⟨5, ⟨(some 44), .load false 1 (.t 43), none⟩, []⟩,
  ⟨6, ⟨(some 45), .mv (.t 0), none⟩, []⟩,
  ⟨7, ⟨(some 46), .mv (.t 3), none⟩, []⟩,
  ⟨8, ⟨(some 47), .mv (.t 9), none⟩, []⟩,
  ⟨9, ⟨(some 48), .bin .add 0 (.t 46) (.t 47), none⟩, []⟩,
  ⟨10, ⟨(some 49), .idx 1 (.t 45) (.t 48), none⟩, []⟩,
  ⟨11, ⟨(some 50), .load false 1 (.t 49), none⟩, []⟩,
  ⟨12, ⟨(some 51), .call (.c (.func 137 [] [])) [(.t 44), (.t 50)], none⟩, []⟩,
  ⟨13, ⟨(some 52), .un .not (.t 51), none⟩, []⟩] [[], [], [], [1, 2], [0, 1, 2, 3], [0, 1, 2, 3, 4], [], [], [], [7, 8], [6, 7, 8, 9], [6, 7, 8, 9, 10], [0, 1, 2, 3, 4, 5, 6, 7, 8, 9, 10, 11], [0, 1, 2, 3, 4, 5, 6, 7, 8, 9, 10, 11, 12]]
def Tryz.a170r6 : ACode := .draw [⟨0, ⟨(some 53), .mv (.t 0), none⟩, []⟩,
  ⟨1, ⟨(some 54), .mv (.t 3), none⟩, []⟩,
  ⟨2, ⟨(some 55), .mv (.t 8), none⟩, []⟩,
  ⟨3, ⟨(some 56), .bin .add 0 (.t 54) (.t 55), none⟩, []⟩,
  ⟨4, ⟨(some 57), .mv (.t 0), none⟩, []⟩,
  ⟨5, ⟨(some 58), .mv (.t 3), none⟩, []⟩,
  ⟨6, ⟨(some 59), .mv (.t 9), none⟩, []⟩,
  ⟨7, ⟨(some 60), .bin .add 0 (.t 58) (.t 59), none⟩, []⟩,
  ⟨8, ⟨(some 61), .mv (.t 0), none⟩, []⟩,
  ⟨9, ⟨(some 62), .mv (.t 3), none⟩, []⟩,
  ⟨10, ⟨(some 63), .mv (.t 9), none⟩, []⟩,
  ⟨11, ⟨(some 64), .bin .add 0 (.t 62) (.t 63), none⟩, []⟩,
  ⟨12, ⟨(some 65), .idx 1 (.t 61) (.t 64), none⟩, []⟩,
  ⟨13, ⟨(some 66), .load false 1 (.t 65), none⟩, []⟩,
  ⟨14, ⟨(some 67), .mv (.t 0), none⟩, []⟩,
  ⟨15, ⟨(some 68), .mv (.t 3), none⟩, []⟩,
  ⟨16, ⟨(some 69), .mv (.t 8), none⟩, []⟩,
  ⟨17, ⟨(some 70), .bin .add 0 (.t 68) (.t 69), none⟩, []⟩,
  ⟨18, ⟨(some 71), .idx 1 (.t 67) (.t 70), none⟩, []⟩,
  ⟨19, ⟨(some 72), .load false 1 (.t 71), none⟩, []⟩,
  ⟨20, ⟨(some 73), .idx 1 (.t 53) (.t 56), none⟩, []⟩,
  ⟨21, ⟨none, .store 1 (.t 73) (.t 66) [], none⟩, []⟩,
  ⟨22, ⟨(some 74), .idx 1 (.t 57) (.t 60), none⟩, []⟩,
  ⟨23, ⟨none, .store 1 (.t 74) (.t 72) [], none⟩, []⟩] [[], [], [], [1, 2], [], [], [], [5, 6], [], [], [], [9, 10], [8, 9, 10, 11], [8, 9, 10, 11, 12], [], [], [], [15, 16], [14, 15, 16, 17], [14, 15, 16, 17, 18], [0, 1, 2, 3, 8, 9, 10, 11, 12, 13, 14, 15, 16, 17, 18, 19], [0, 1, 2, 3, 8, 9, 10, 11, 12, 13, 14, 15, 16, 17, 18, 19, 20], [0, 1, 2, 3, 4, 5, 6, 7, 8, 9, 10, 11, 12, 13, 14, 15, 16, 17, 18, 19, 20, 21], [0, 1, 2, 3, 4, 5, 6, 7, 8, 9, 10, 11, 12, 13, 14, 15, 16, 17, 18, 19, 20, 21, 22]]
def Tryz.a170r7 : ACode := .region [⟨(some 75), .mv (.t 9), none⟩,
  ⟨(some 8), .mv (.t 75), none⟩]
def Tryz.a170l8 : ACode := .block 1 (.seq (Tryz.a170r1) (.seq (.seq (Tryz.a170r2) (.cond (.t 16) (.exit 0) (.skip))) (.seq (.seq (Tryz.a170r3) (.cond (.t 36) (Tryz.a170r4) (.skip))) (.seq (.seq (Tryz.a170r5) (.cond (.t 52) (.ret) (.skip))) (.seq (Tryz.a170r6) (Tryz.a170r7))))))
def Tryz.c170 : ACode := .seq (Tryz.a170r0) (.block 0 (.loop [0, 2, 3, 8] Tryz.a170l8))
def Tryz.a170 : AFunc := ⟨76, Tryz.c170, [], false⟩
theorem Tryz.a170_ok : chkFunc Tryz.prog Tryz.eqs Tryz.f170 Tryz.a170 = true := by kernel_rfl
theorem Tryz.w170 {first caps args : List AVal} {heap : List AObj} {K : AVal → List AObj → Prop} (N : Nat) (h : Ex (cfg Tryz.prog Tryz.eqs N) Tryz.c170 ⟨(first ++ args ++ caps) ++ List.replicate (76 - (first ++ args ++ caps).length) .undef, heap⟩ (kfun (cfg Tryz.prog Tryz.eqs N) [] false heap.length K)) : Hs Tryz.prog Tryz.eqs (.func 170 first caps) args heap K := Hs.enter Tryz.eqs_plain N (fn := Tryz.f170) (by kernel_rfl) Tryz.a170_ok h
def Tryz.a171r0 : ACode := .region [⟨(some 2), .mv (.c (.int .u64 0)), none⟩]
def Tryz.a171r1 : ACode := .region [⟨(some 3), .mv (.t 0), none⟩,
  ⟨(some 4), .conv .u64 (.t 3), none⟩,
  ⟨(some 5), .call (.c (.func 91 [] [])) [(.t 4)], none⟩,
  ⟨(some 6), .bin .shl 0 (.c (.int .u64 1)) (.t 5), none⟩,
  ⟨(some 2), .mv (.t 6), none⟩]
def Tryz.c171 : ACode := .seq (Tryz.a171r0) (.seq (Tryz.a171r1) (.ret))
def Tryz.a171 : AFunc := ⟨7, Tryz.c171, [(2, none)], false⟩
theorem Tryz.a171_ok : chkFunc Tryz.prog Tryz.eqs Tryz.f171 Tryz.a171 = true := by kernel_rfl
theorem Tryz.w171 {first caps args : List AVal} {heap : List AObj} {K : AVal → List AObj → Prop} (N : Nat) (h : Ex (cfg Tryz.prog Tryz.eqs N) Tryz.c171 ⟨(first ++ args ++ caps) ++ List.replicate (7 - (first ++ args ++ caps).length) .undef, heap⟩ (kfun (cfg Tryz.prog Tryz.eqs N) [(2, none)] false heap.length K)) : Hs Tryz.prog Tryz.eqs (.func 171 first caps) args heap K := Hs.enter Tryz.eqs_plain N (fn := Tryz.f171) (by kernel_rfl) Tryz.a171_ok h
def Tryz.a172r0 : ACode := .region [⟨(some 2), .mv (.c (.int .u64 0)), none⟩]
def Tryz.a172r1 : ACode := .draw [⟨0, ⟨(some 3), .mv (.t 0), none⟩, []⟩,
  ⟨1, ⟨(some 4), .nilc (.t 3), none⟩, []⟩,
  ⟨2, ⟨(some 5), .load false 1 (.t 4), none⟩, []⟩,
  ⟨3, ⟨(some 6), .mv (.t 0), none⟩, []⟩,
  ⟨4, ⟨(some 7), .nilc (.t 6), none⟩, []⟩,
  ⟨5, ⟨(some 8), .load false 1 (.t 7), none⟩, []⟩,
  ⟨6, ⟨(some 9), .bin .shl 0 (.t 8) (.c (.int .u64 13)), none⟩, []⟩,
  ⟨7, ⟨(some 10), .bin .xor 0 (.t 5) (.t 9), none⟩, []⟩,
  ⟨8, ⟨(some 11), .nilc (.t 3), none⟩, []⟩,
  ⟨9, ⟨none, .store 1 (.t 11) (.t 10) [], none⟩, []⟩] [[], [0], [0, 1], [], [3], [3, 4], [3, 4, 5], [0, 1, 2, 3, 4, 5, 6], [0, 1, 2, 3, 4, 5, 6, 7], [0, 1, 2, 3, 4, 5, 6, 7, 8]]
def Tryz.a172r2 : ACode := .draw [⟨0, ⟨(some 12), .mv (.t 0), none⟩, []⟩,
  ⟨1, ⟨(some 13), .nilc (.t 12), none⟩, []⟩,
  ⟨2, ⟨(some 14), .load false 1 (.t 13), none⟩, []⟩,
  ⟨3, ⟨(some 15), .mv (.t 0), none⟩, []⟩,
  ⟨4, ⟨(some 16), .nilc (.t 15), none⟩, []⟩,
  ⟨5, ⟨(some 17), .load false 1 (.t 16), none⟩, []⟩,
  ⟨6, ⟨(some 18), .bin .shr 0 (.t 17) (.c (.int .u64 7)), none⟩, []⟩,
  ⟨7, ⟨(some 19), .bin .xor 0 (.t 14) (.t 18), none⟩, []⟩,
  ⟨8, ⟨(some 20), .nilc (.t 12), none⟩, []⟩,
  ⟨9, ⟨none, .store 1 (.t 20) (.t 19) [], none⟩, []⟩] [[], [0], [0, 1], [], [3], [3, 4], [3, 4, 5], [0, 1, 2, 3, 4, 5, 6], [0, 1, 2, 3, 4, 5, 6, 7], [0, 1, 2, 3, 4, 5, 6, 7, 8]]
def Tryz.a172r3 : ACode := .draw [⟨0, ⟨(some 21), .mv (.t 0), none⟩, []⟩,
  ⟨1, ⟨(some 22), .nilc (.t 21), none⟩, []⟩,
  ⟨2, ⟨(some 23), .load false 1 (.t 22), none⟩, []⟩,
  ⟨3, ⟨(some 24), .mv (.t 0), none⟩, []⟩,
  ⟨4, ⟨(some 25), .nilc (.t 24), none⟩, []⟩,
  ⟨5, ⟨(some 26), .load false 1 (.t 25), none⟩, []⟩,
  ⟨6, ⟨(some 27), .bin .shl 0 (.t 26) (.c (.int .u64 17)), none⟩, []⟩,
  ⟨7, ⟨(some 28), .bin .xor 0 (.t 23) (.t 27), none⟩, []⟩,
  ⟨8, ⟨(some 29), .nilc (.t 21), none⟩, []⟩,
  ⟨9, ⟨none, .store 1 (.t 29) (.t 28) [], none⟩, []⟩] [[], [0], [0, 1], [], [3], [3, 4], [3, 4, 5], [0, 1, 2, 3, 4, 5, 6], [0, 1, 2, 3, 4, 5, 6, 7], [0, 1, 2, 3, 4, 5, 6, 7, 8]]
def Tryz.a172r4 : ACode := .region [⟨(some 30), .mv (.t 0), none⟩,
  ⟨(some 31), .nilc (.t 30), none⟩,
  ⟨(some 32), .load false 1 (.t 31), none⟩,
  ⟨(some 2), .mv (.t 32), none⟩]
def Tryz.c172 : ACode := .seq (Tryz.a172r0) (.seq (Tryz.a172r1) (.seq (Tryz.a172r2) (.seq (Tryz.a172r3) (.seq (Tryz.a172r4) (.ret)))))
def Tryz.a172 : AFunc := ⟨33, Tryz.c172, [(2, none)], false⟩
theorem Tryz.a172_ok : chkFunc Tryz.prog Tryz.eqs Tryz.f172 Tryz.a172 = true := by kernel_rfl
theorem Tryz.w172 {first caps args : List AVal} {heap : List AObj} {K : AVal → List AObj → Prop} (N : Nat) (h : Ex (cfg Tryz.prog Tryz.eqs N) Tryz.c172 ⟨(first ++ args ++ caps) ++ List.replicate (33 - (first ++ args ++ caps).length) .undef, heap⟩ (kfun (cfg Tryz.prog Tryz.eqs N) [(2, none)] false heap.length K)) : Hs Tryz.prog Tryz.eqs (.func 172 first caps) args heap K := Hs.enter Tryz.eqs_plain N (fn := Tryz.f172) (by kernel_rfl) Tryz.a172_ok h
def Tryz.a173r0 : ACode := .region [⟨(some 6), .mv (.c (.int .i64 0)), none⟩]
def Tryz.a173r1 : ACode := .region [⟨(some 7), .mv (.t 0), none⟩,
  ⟨(some 8), .mv (.t 1), none⟩,
  ⟨(some 9), .bin .sub 0 (.t 8) (.c (.int .i64 1)), none⟩,
  ⟨(some 10), .mv (.t 1), none⟩,
  ⟨(some 11), .mv (.t 1), none⟩,
  ⟨(some 12), .bin .add 0 (.t 11) (.c (.int .i64 1)), none⟩,
  ⟨(some 13), .mv (.t 2), none⟩,
  ⟨(some 14), .call (.c (.func 174 [] [])) [(.t 7), (.t 9), (.t 10), (.t 12), (.t 13)], none⟩,
  ⟨(some 6), .mv (.t 14), none⟩]
def Tryz.c173 : ACode := .seq (Tryz.a173r0) (.seq (Tryz.a173r1) (.ret))
def Tryz.a173 : AFunc := ⟨15, Tryz.c173, [(6, none)], false⟩
theorem Tryz.a173_ok : chkFunc Tryz.prog Tryz.eqs Tryz.f173 Tryz.a173 = true := by kernel_rfl
theorem Tryz.w173 {first caps args : List AVal} {heap : List AObj} {K : AVal → List AObj → Prop} (N : Nat) (h : Ex (cfg Tryz.prog Tryz.eqs N) Tryz.c173 ⟨(first ++ args ++ caps) ++ List.replicate (15 - (first ++ args ++ caps).length) .undef, heap⟩ (kfun (cfg Tryz.prog Tryz.eqs N) [(6, none)] false heap.length K)) : Hs Tryz.prog Tryz.eqs (.func 173 first caps) args heap K := Hs.enter Tryz.eqs_plain N (fn := Tryz.f173) (by kernel_rfl) Tryz.a173_ok h
def Tryz.a174r0 : ACode := .region [⟨(some 10), .mv (.c (.int .i64 0)), none⟩]
def Tryz.a174r1 : ACode := .region [⟨(some 12), .mv (.t 0), none⟩,
  ⟨(some 13), .mv (.t 1), none⟩,
  ⟨(some 14), .mv (.t 2), none⟩,
  ⟨(some 15), .mv (.t 4), none⟩,
  ⟨(some 16), .call (.c (.func 188 [] [])) [(.t 12), (.t 13), (.t 14), (.t 15)], none⟩,
  ⟨(some 11), .mv (.t 16), none⟩,
  ⟨(some 17), .ext 0 (.t 11), none⟩,
  ⟨(some 18), .ext 1 (.t 11), none⟩,
  ⟨(some 1), .mv (.t 17), none⟩,
  ⟨(some 2), .mv (.t 18), none⟩]
def Tryz.a174r2 : ACode := .region [⟨(some 20), .mv (.t 0), none⟩,
  ⟨(some 21), .mv (.t 2), none⟩,
  ⟨(some 22), .mv (.t 3), none⟩,
  ⟨(some 23), .mv (.t 4), none⟩,
  ⟨(some 24), .call (.c (.func 188 [] [])) [(.t 20), (.t 21), (.t 22), (.t 23)], none⟩,
  ⟨(some 19), .mv (.t 24), none⟩,
  ⟨(some 25), .ext 0 (.t 19), none⟩,
  ⟨(some 26), .ext 1 (.t 19), none⟩,
  ⟨(some 2), .mv (.t 25), none⟩,
  ⟨(some 3), .mv (.t 26), none⟩]
def Tryz.a174r3 : ACode := .region [⟨(some 28), .mv (.t 0), none⟩,
  ⟨(some 29), .mv (.t 1), none⟩,
  ⟨(some 30), .mv (.t 2), none⟩,
  ⟨(some 31), .mv (.t 4), none⟩,
  ⟨(some 32), .call (.c (.func 188 [] [])) [(.t 28), (.t 29), (.t 30), (.t 31)], none⟩,
  ⟨(some 27), .mv (.t 32), none⟩,
  ⟨(some 33), .ext 0 (.t 27), none⟩,
  ⟨(some 34), .ext 1 (.t 27), none⟩,
  ⟨(some 1), .mv (.t 33), none⟩,
  ⟨(some 2), .mv (.t 34), none⟩]
def Tryz.a174r4 : ACode := .region [⟨(some 35), .mv (.t 2), none⟩,
  ⟨(some 10), .mv (.t 35), none⟩]
def Tryz.c174 : ACode := .seq (Tryz.a174r0) (.seq (Tryz.a174r1) (.seq (Tryz.a174r2) (.seq (Tryz.a174r3) (.seq (Tryz.a174r4) (.ret)))))
def Tryz.a174 : AFunc := ⟨36, Tryz.c174, [(10, none)], false⟩
theorem Tryz.a174_ok : chkFunc Tryz.prog Tryz.eqs Tryz.f174 Tryz.a174 = true := by kernel_rfl
theorem Tryz.w174 {first caps args : List AVal} {heap : List AObj} {K : AVal → List AObj → Prop} (N : Nat) (h : Ex (cfg Tryz.prog Tryz.eqs N) Tryz.c174 ⟨(first ++ args ++ caps) ++ List.replicate (36 - (first ++ args ++ caps).length) .undef, heap⟩ (kfun (cfg Tryz.prog Tryz.eqs N) [(10, none)] false heap.length K)) : Hs Tryz.prog Tryz.eqs (.func 174 first caps) args heap K := Hs.enter Tryz.eqs_plain N (fn := Tryz.f174) (by kernel_rfl) Tryz.a174_ok h
def Tryz.a175r0 : ACode := .region [⟨(some 2), .mv (.c (.bool false)), none⟩]
def Tryz.a175r1 : ACode := .region [⟨(some 3), .mv (.t 0), none⟩,
  ⟨(some 4), .mv (.t 0), none⟩,
  ⟨(some 5), .bin .neq 0 (.t 3) (.t 4), none⟩,
  ⟨(some 2), .mv (.t 5), none⟩]
def Tryz.c175 : ACode := .seq (Tryz.a175r0) (.seq (Tryz.a175r1) (.ret))
def Tryz.a175 : AFunc := ⟨6, Tryz.c175, [(2, none)], false⟩
theorem Tryz.a175_ok : chkFunc Tryz.prog Tryz.eqs Tryz.f175 Tryz.a175 = true := by kernel_rfl
theorem Tryz.w175 {first caps args : List AVal} {heap : List AObj} {K : AVal → List AObj → Prop} (N : Nat) (h : Ex (cfg Tryz.prog Tryz.eqs N) Tryz.c175 ⟨(first ++ args ++ caps) ++ List.replicate (6 - (first ++ args ++ caps).length) .undef, heap⟩ (kfun (cfg Tryz.prog Tryz.eqs N) [(2, none)] false heap.length K)) : Hs Tryz.prog Tryz.eqs (.func 175 first caps) args heap K := Hs.enter Tryz.eqs_plain N (fn := Tryz.f175) (by kernel_rfl) Tryz.a175_ok h
def Tryz.a176r0 : ACode := .region [⟨(some 4), .mv (.c (.int .i64 0)), none⟩]
def Tryz.a176r1 : ACode := .region [⟨(some 6), .mv (.t 0), none⟩,
  ⟨(some 7), .len 0 (.t 6), none⟩,
  ⟨(some 8), .mv (.c (.int .i64 0)), none⟩]
def Tryz.a176r2 : ACode := .region [⟨(some 9), .bin .lss 0 (.t 8) (.t 7), none⟩]
def Tryz.a176r3 : ACode := .region [⟨(some 10), .mv (.t 8), none⟩,
  ⟨(some 5), .mv (.t 10), none⟩]
def Tryz.a176r4 : ACode := .region [⟨(some 11), .mv (.t 1), none⟩,
  ⟨(some 12), .mv (.t 0), none⟩,
  ⟨(some 13), .mv (.t 5), none⟩,
  ⟨(some 14), .idx 5 (.t 12) (.t 13), none⟩,
  ⟨(some 15), .load true 5 (.t 14), none⟩,
  ⟨(some 16), .call (.t 11) [(.t 15)], none⟩]
def Tryz.a176r5 : ACode := .region [⟨(some 17), .mv (.t 5), none⟩,
  ⟨(some 4), .mv (.t 17), none⟩]
def Tryz.a176r6 : ACode := .region [⟨(some 18), .bin .add 0 (.t 8) (.c (.int .i64 1)), none⟩,
  ⟨(some 8), .mv (.t 18), none⟩]
def Tryz.a176l7 : ACode := .seq (Tryz.a176r2) (.seq (.cond (.t 9) (.skip) (.exit 0)) (.seq (.block 1 (.seq (Tryz.a176r3) (.seq (Tryz.a176r4) (.cond (.t 16) (.seq (Tryz.a176r5) (.ret)) (.skip))))) (Tryz.a176r6)))
def Tryz.a176r8 : ACode := .region [⟨(some 4), .mv (.c (.int .i64 (-1))), none⟩]
def Tryz.c176 : ACode := .seq (Tryz.a176r0) (.seq (.seq (Tryz.a176r1) (.block 0 (.loop [0, 1, 7, 8] Tryz.a176l7))) (.seq (Tryz.a176r8) (.ret)))
def Tryz.a176 : AFunc := ⟨19, Tryz.c176, [(4, none)], false⟩
theorem Tryz.a176_ok : chkFunc Tryz.prog Tryz.eqs Tryz.f176 Tryz.a176 = true := by kernel_rfl
theorem Tryz.w176 {first caps args : List AVal} {heap : List AObj} {K : AVal → List AObj → Prop} (N : Nat) (h : Ex (cfg Tryz.prog Tryz.eqs N) Tryz.c176 ⟨(first ++ args ++ caps) ++ List.replicate (19 - (first ++ args ++ caps).length) .undef, heap⟩ (kfun (cfg Tryz.prog Tryz.eqs N) [(4, none)] false heap.length K)) : Hs Tryz.prog Tryz.eqs (.func 176 first caps) args heap K := Hs.enter Tryz.eqs_plain N (fn := Tryz.f176) (by kernel_rfl) Tryz.a176_ok h
def Tryz.a181r0 : ACode := .region [⟨(some 4), .mv (.c (.int .i64 0)), none⟩]
def Tryz.a181r1 : ACode := .region [⟨(some 6), .mv (.t 0), none⟩,
  ⟨(some 7), .len 0 (.t 6), none⟩,
  ⟨(some 8), .mv (.c (.int .i64 0)), none⟩]
def Tryz.a181r2 : ACode := .region [⟨(some 9), .bin .lss 0 (.t 8) (.t 7), none⟩]
def Tryz.a181r3 : ACode := .region [⟨(some 10), .mv (.t 8), none⟩,
  ⟨(some 5), .mv (.t 10), none⟩]
def Tryz.a181r4 : ACode := .region [⟨(some 11), .mv (.t 1), none⟩,
  ⟨(some 12), .mv (.t 0), none⟩,
  ⟨(some 13), .mv (.t 5), none⟩,
  ⟨(some 14), .idx 4 (.t 12) (.t 13), none⟩,
  ⟨(some 15), .load true 4 (.t 14), none⟩,
  ⟨(some 16), .call (.t 11) [(.t 15)], none⟩]
def Tryz.a181r5 : ACode := .region [⟨(some 17), .mv (.t 5), none⟩,
  ⟨(some 4), .mv (.t 17), none⟩]
def Tryz.a181r6 : ACode := .region [⟨(some 18), .bin .add 0 (.t 8) (.c (.int .i64 1)), none⟩,
  ⟨(some 8), .mv (.t 18), none⟩]
def Tryz.a181l7 : ACode := .seq (Tryz.a181r2) (.seq (.cond (.t 9) (.skip) (.exit 0)) (.seq (.block 1 (.seq (Tryz.a181r3) (.seq (Tryz.a181r4) (.cond (.t 16) (.seq (Tryz.a181r5) (.ret)) (.skip))))) (Tryz.a181r6)))
def Tryz.a181r8 : ACode := .region [⟨(some 4), .mv (.c (.int .i64 (-1))), none⟩]
def Tryz.c181 : ACode := .seq (Tryz.a181r0) (.seq (.seq (Tryz.a181r1) (.block 0 (.loop [0, 1, 7, 8] Tryz.a181l7))) (.seq (Tryz.a181r8) (.ret)))
def Tryz.a181 : AFunc := ⟨19, Tryz.c181, [(4, none)], false⟩
theorem Tryz.a181_ok : chkFunc Tryz.prog Tryz.eqs Tryz.f181 Tryz.a181 = true := by kernel_rfl
theorem Tryz.w181 {first caps args : List AVal} {heap : List AObj} {K : AVal → List AObj → Prop} (N : Nat) (h : Ex (cfg Tryz.prog Tryz.eqs N) Tryz.c181 ⟨(first ++ args ++ caps) ++ List.replicate (19 - (first ++ args ++ caps).length) .undef, heap⟩ (kfun (cfg Tryz.prog Tryz.eqs N) [(4, none)] false heap.length K)) : Hs Tryz.prog Tryz.eqs (.func 181 first caps) args heap K := Hs.enter Tryz.eqs_plain N (fn := Tryz.f181) (by kernel_rfl) Tryz.a181_ok h
def Tryz.a188r0 : ACode := .region [⟨(some 8), .mv (.c (.int .i64 0)), none⟩,
  ⟨(some 9), .mv (.c (.int .i64 0)), none⟩]
def Tryz.a188r1 : ACode := .draw [⟨0, ⟨(some 10), .mv (.t 0), none⟩, []⟩,
  ⟨1, ⟨(some 11), .mv (.t 2), none⟩, []⟩,
  ⟨2, ⟨(some 12), .idx 1 (.t 10) (.t 11), none⟩, []⟩,
  ⟨3, ⟨(some 13), .load false 1 (.t 12), none⟩, []⟩,
  ⟨4, ⟨(some 14), .mv (.t 0), none⟩, []⟩,
  ⟨5, ⟨(some 15), .mv (.t 1), none⟩, []⟩,
  ⟨6, ⟨(some 16), .idx 1 (.t 14) (.t 15), none⟩, []⟩,
  ⟨7, ⟨(some 17), .load false 1 (.t 16), none⟩, []⟩,
  ⟨8, ⟨(some 18), .call (.c (.func 137 [] [])) [(.t 13), (.t 17)], none⟩, []⟩] [[], [], [0, 1], [0, 1, 2], [], [], [4, 5], [4, 5, 6], [0, 1, 2, 3, 4, 5, 6, 7]]
def Tryz.a188r2 : ACode := .region [⟨(some 19), .mv (.t 3), none⟩,
  ⟨(some 20), .nilc (.t 19), none⟩,
  ⟨(some 21), .load false 1 (.t 20), none⟩,
  ⟨(some 22), .bin .add 0 (.t 21) (.c (.int .i64 1)), none⟩,
  ⟨(some 23), .nilc (.t 19), none⟩,
  ⟨none, .store 1 (.t 23) (.t 22) [], none⟩]
def Tryz.a188r3 : ACode := .region [⟨(some 24), .mv (.t 2), none⟩,
  ⟨(some 25), .mv (.t 1), none⟩,
  ⟨(some 8), .mv (.t 24), none⟩,
  ⟨(some 9), .mv (.t 25), none⟩]
def Tryz.a188r4 : ACode := .region [⟨(some 26), .mv (.t 1), none⟩,
  ⟨(some 27), .mv (.t 2), none⟩,
  ⟨(some 8), .mv (.t 26), none⟩,
  ⟨(some 9), .mv (.t 27), none⟩]
def Tryz.c188 : ACode := .seq (Tryz.a188r0) (.seq (.seq (Tryz.a188r1) (.cond (.t 18) (.seq (Tryz.a188r2) (.seq (Tryz.a188r3) (.ret))) (.skip))) (.seq (Tryz.a188r4) (.ret)))
def Tryz.a188 : AFunc := ⟨28, Tryz.c188, [(8, none), (9, none)], false⟩
theorem Tryz.a188_ok : chkFunc Tryz.prog Tryz.eqs Tryz.f188 Tryz.a188 = true := by kernel_rfl
theorem Tryz.w188 {first caps args : List AVal} {heap : List AObj} {K : AVal → List AObj → Prop} (N : Nat) (h : Ex (cfg Tryz.prog Tryz.eqs N) Tryz.c188 ⟨(first ++ args ++ caps) ++ List.replicate (28 - (first ++ args ++ caps).length) .undef, heap⟩ (kfun (cfg Tryz.prog Tryz.eqs N) [(8, none), (9, none)] false heap.length K)) : Hs Tryz.prog Tryz.eqs (.func 188 first caps) args heap K := Hs.enter Tryz.eqs_plain N (fn := Tryz.f188) (by kernel_rfl) Tryz.a188_ok h
end Go.Proofs

