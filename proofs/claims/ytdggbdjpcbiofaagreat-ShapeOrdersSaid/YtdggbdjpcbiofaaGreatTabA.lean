/- Tables for the abstract interpreter: the functions of the seat, and that they are the program's. Printed by gen.py. -/
import Derived.Test.YtdggbdjpcbiofaaGreatEqs
import Derived.KernelRfl
namespace Go.Proofs
open Go.Ai
set_option maxRecDepth 100000
def Tryz.a3r0 : ACode := .region [⟨(some 2), .box (.t 0) [], none⟩,
  ⟨(some 4), .mv (.c (.bool false)), none⟩]
def Tryz.a3r1 : ACode := .region [⟨(some 15), .call (.c (.func 13 [] [])) [], none⟩,
  ⟨(some 5), .mv (.t 15), none⟩]
def Tryz.a3r2 : ACode := .region [⟨(some 16), .mv (.t 5), none⟩,
  ⟨(some 17), .un .not (.t 16), none⟩]
def Tryz.a3r3 : ACode := .region [⟨(some 4), .mv (.c (.bool false)), none⟩]
def Tryz.a3r4 : ACode := .region [⟨(some 18), .load true 1 (.t 2), none⟩,
  ⟨(some 19), .call (.c (.func 14 [] [])) [(.t 18)], none⟩,
  ⟨(some 6), .alloc 10 (.agg [.nils, .nils, .nils, .nils, (.int .i64 0), (.int .i64 0), (.int .i64 0), .nils, .nils, .nils]) [], none⟩,
  ⟨none, .store 10 (.t 6) (.t 19) [], none⟩]
def Tryz.a3r5 : ACode := .region [⟨(some 7), .mv (.c (.int .i64 0)), none⟩]
def Tryz.a3r6 : ACode := .region [⟨(some 20), .mv (.t 7), none⟩,
  ⟨(some 21), .addo 8 (.t 6), none⟩,
  ⟨(some 22), .load false 1 (.t 21), none⟩,
  ⟨(some 23), .len 0 (.t 22), none⟩,
  ⟨(some 24), .bin .lss 0 (.t 20) (.t 23), none⟩]
def Tryz.a3r7 : ACode := .region [⟨(some 27), .addo 8 (.t 6), none⟩,
  ⟨(some 28), .load false 1 (.t 27), none⟩,
  ⟨(some 29), .mv (.t 7), none⟩,
  ⟨(some 30), .idx 12 (.t 28) (.t 29), none⟩,
  ⟨(some 31), .load true 12 (.t 30), none⟩,
  ⟨(some 8), .alloc 12 (.agg [(.int .i64 0), (.int .i64 0), (.str (ByteArray.mk #[])), (.int .i64 0), (.int .i64 0), .nils, .nils, (.int .i64 0), (.int .i64 0), .nils, (.int .i64 0), .nils]) [], none⟩,
  ⟨none, .store 12 (.t 8) (.t 31) [], none⟩]
def Tryz.a3r8 : ACode := .region [⟨(some 32), .load true 12 (.t 8), none⟩,
  ⟨(some 33), .call (.c (.func 15 [] [])) [(.t 32)], none⟩,
  ⟨(some 9), .mv (.t 33), none⟩]
def Tryz.a3r9 : ACode := .draw [⟨0, ⟨(some 34), .mv (.t 9), none⟩, []⟩,
  ⟨1, ⟨(some 35), .len 0 (.t 34), none⟩, []⟩,
  ⟨2, ⟨(some 36), .bin .eql 0 (.t 35) (.c (.int .i64 0)), none⟩, []⟩,
  ⟨3, ⟨(some 37), .mv (.t 36), none⟩, []⟩,
  ⟨4, ⟨(some 38), .mv (.t 9), (some (37, false))⟩, []⟩,
  ⟨5, ⟨(some 39), .mv (.t 9), (some (37, false))⟩, []⟩,
  ⟨6, ⟨(some 40), .len 0 (.t 39), (some (37, false))⟩, []⟩,
  ⟨7, ⟨(some 41), .bin .sub 0 (.t 40) (.c (.int .i64 1)), (some (37, false))⟩, []⟩,
  ⟨8, ⟨(some 42), .idx 1 (.t 38) (.t 41), (some (37, false))⟩, []⟩,
  ⟨9, ⟨(some 43), .load false 1 (.t 42), (some (37, false))⟩, []⟩,
  ⟨10, ⟨(some 44), .addo 1 (.t 8), (some (37, false))⟩, []⟩,
  ⟨11, ⟨(some 45), .load false 1 (.t 44), (some (37, false))⟩, []⟩,
  ⟨12, ⟨(some 46), .bin .neq 0 (.t 43) (.t 45), (some (37, false))⟩, []⟩,
  ⟨13, ⟨(some 47), .pick (.t 37) (.c (.bool true)) (.t 46), none⟩, []⟩,
  ⟨14, ⟨(some 48), .mv (.t 47), none⟩, []⟩,
  ⟨15, ⟨(some 49), .mv (.t 9), (some (48, false))⟩, []⟩,
  ⟨16, ⟨(some 50), .call (.c (.func 16 [] [])) [(.t 49)], (some (48, false))⟩, []⟩,
  ⟨17, ⟨(some 51), .un .not (.t 50), (some (48, false))⟩, []⟩,
  ⟨18, ⟨(some 52), .pick (.t 48) (.c (.bool true)) (.t 51), none⟩, []⟩,
  ⟨19, ⟨(some 53), .mv (.t 52), none⟩, []⟩,
  ⟨20, ⟨(some 54), .mv (.t 9), (some (53, false))⟩, []⟩,
  ⟨21, ⟨(some 55), .len 0 (.t 54), (some (53, false))⟩, []⟩,
  ⟨22, ⟨(some 56), .addo 11 (.t 8), (some (53, false))⟩, []⟩,
  ⟨23, ⟨(some 57), .load false 1 (.t 56), (some (53, false))⟩, []⟩,
  ⟨24, ⟨(some 58), .call (.c (.func 17 [] [])) [(.t 57)], (some (53, false))⟩, [21]⟩,
  ⟨25, ⟨(some 59), .bin .add 0 (.c (.int .i64 1)) (.t 58), (some (53, false))⟩, []⟩,
  ⟨26, ⟨(some 60), .bin .neq 0 (.t 55) (.t 59), (some (53, false))⟩, []⟩,
  ⟨27, ⟨(some 61), .pick (.t 53) (.c (.bool true)) (.t 60), none⟩, []⟩] [[], [0], [0, 1], [0, 1, 2], [0, 1, 2, 3], [0, 1, 2, 3], [0, 1, 2, 3, 5], [0, 1, 2, 3, 5, 6], [0, 1, 2, 3, 4, 5, 6, 7], [0, 1, 2, 3, 4, 5, 6, 7, 8], [0, 1, 2, 3], [0, 1, 2, 3, 10], [0, 1, 2, 3, 4, 5, 6, 7, 8, 9, 10, 11], [0, 1, 2, 3, 4, 5, 6, 7, 8, 9, 10, 11, 12], [0, 1, 2, 3, 4, 5, 6, 7, 8, 9, 10, 11, 12, 13], [0, 1, 2, 3, 4, 5, 6, 7, 8, 9, 10, 11, 12, 13, 14], [0, 1, 2, 3, 4, 5, 6, 7, 8, 9, 10, 11, 12, 13, 14, 15], [0, 1, 2, 3, 4, 5, 6, 7, 8, 9, 10, 11, 12, 13, 14, 15, 16], [0, 1, 2, 3, 4, 5, 6, 7, 8, 9, 10, 11, 12, 13, 14, 15, 16, 17], [0, 1, 2, 3, 4, 5, 6, 7, 8, 9, 10, 11, 12, 13, 14, 15, 16, 17, 18], [0, 1, 2, 3, 4, 5, 6, 7, 8, 9, 10, 11, 12, 13, 14, 15, 16, 17, 18, 19], [0, 1, 2, 3, 4, 5, 6, 7, 8, 9, 10, 11, 12, 13, 14, 15, 16, 17, 18, 19, 20], [0, 1, 2, 3, 4, 5, 6, 7, 8, 9, 10, 11, 12, 13, 14, 15, 16, 17, 18, 19], [0, 1, 2, 3, 4, 5, 6, 7, 8, 9, 10, 11, 12, 13, 14, 15, 16, 17, 18, 19, 22], [0, 1, 2, 3, 4, 5, 6, 7, 8, 9, 10, 11, 12, 13, 14, 15, 16, 17, 18, 19, 22, 23], [0, 1, 2, 3, 4, 5, 6, 7, 8, 9, 10, 11, 12, 13, 14, 15, 16, 17, 18, 19, 22, 23, 24], [0, 1, 2, 3, 4, 5, 6, 7, 8, 9, 10, 11, 12, 13, 14, 15, 16, 17, 18, 19, 20, 21, 22, 23, 24, 25], [0, 1, 2, 3, 4, 5, 6, 7, 8, 9, 10, 11, 12, 13, 14, 15, 16, 17, 18, 19, 20, 21, 22, 23, 24, 25, 26]]
def Tryz.a3r10 : ACode := .region [⟨(some 4), .mv (.c (.bool false)), none⟩]
def Tryz.a3r11 : ACode := .region [⟨(some 10), .mv (.c (.int .i64 0)), none⟩]
def Tryz.a3r12 : ACode := .region [⟨(some 62), .mv (.t 10), none⟩,
  ⟨(some 63), .mv (.t 9), none⟩,
  ⟨(some 64), .len 0 (.t 63), none⟩,
  ⟨(some 65), .bin .lss 0 (.t 62) (.t 64), none⟩]
def Tryz.a3r13 : ACode := .draw [⟨0, ⟨(some 69), .load true 12 (.t 8), none⟩, []⟩,
  ⟨1, ⟨(some 70), .mv (.t 9), none⟩, []⟩,
  ⟨2, ⟨(some 71), .mv (.t 10), none⟩, []⟩,
  ⟨3, ⟨(some 72), .idx 1 (.t 70) (.t 71), none⟩, []⟩,
  ⟨4, ⟨(some 73), .load false 1 (.t 72), none⟩, []⟩,
  ⟨9, ⟨(some 11), .pend 20, none⟩, []⟩,
  ⟨5, ⟨(some 74), .call (.c (.func 18 [] [])) [(.t 69), (.t 73)], none⟩, []⟩,
  ⟨6, ⟨(some 68), .mv (.t 74), none⟩, []⟩,
  ⟨7, ⟨(some 75), .ext 0 (.t 68), none⟩, []⟩,
  ⟨8, ⟨(some 76), .ext 1 (.t 68), none⟩, []⟩,
  ⟨10, ⟨none, .pstore 20 11 (.t 75), none⟩, []⟩,
  ⟨11, ⟨(some 12), .mv (.t 76), none⟩, []⟩] [[], [], [], [1, 2], [1, 2, 3], [0, 1, 2, 3, 4], [0, 1, 2, 3, 4, 5], [0, 1, 2, 3, 4, 5, 6], [0, 1, 2, 3, 4, 5, 6], [], [0, 1, 2, 3, 4, 5, 6, 7, 9], [0, 1, 2, 3, 4, 5, 6, 7, 8, 9, 10]]
def Tryz.a3r14 : ACode := .draw [⟨0, ⟨(some 77), .mv (.t 12), none⟩, []⟩,
  ⟨1, ⟨(some 78), .mv (.t 10), none⟩, []⟩,
  ⟨2, ⟨(some 79), .mv (.t 9), none⟩, []⟩,
  ⟨3, ⟨(some 80), .len 0 (.t 79), none⟩, []⟩,
  ⟨4, ⟨(some 81), .bin .sub 0 (.t 80) (.c (.int .i64 1)), none⟩, []⟩,
  ⟨5, ⟨(some 82), .bin .lss 0 (.t 78) (.t 81), none⟩, []⟩,
  ⟨6, ⟨(some 83), .bin .neq 1 (.t 77) (.t 82), none⟩, []⟩,
  ⟨7, ⟨(some 84), .mv (.t 83), none⟩, []⟩,
  ⟨8, ⟨(some 85), .mv (.t 12), (some (84, false))⟩, []⟩,
  ⟨9, ⟨(some 86), .mv (.t 85), (some (84, false))⟩, []⟩,
  ⟨10, ⟨(some 87), .addo 0 (.t 11), (some (86, true))⟩, []⟩,
  ⟨11, ⟨(some 88), .load false 1 (.t 87), (some (86, true))⟩, []⟩,
  ⟨12, ⟨(some 89), .mv (.t 9), (some (86, true))⟩, []⟩,
  ⟨13, ⟨(some 90), .mv (.t 10), (some (86, true))⟩, []⟩,
  ⟨14, ⟨(some 91), .idx 1 (.t 89) (.t 90), (some (86, true))⟩, []⟩,
  ⟨15, ⟨(some 92), .load false 1 (.t 91), (some (86, true))⟩, []⟩,
  ⟨16, ⟨(some 93), .bin .neq 0 (.t 88) (.t 92), (some (86, true))⟩, []⟩,
  ⟨17, ⟨(some 94), .pick (.t 86) (.t 93) (.c (.bool false)), (some (84, false))⟩, []⟩,
  ⟨18, ⟨(some 95), .pick (.t 84) (.c (.bool true)) (.t 94), none⟩, []⟩] [[], [], [], [2], [2, 3], [1, 2, 3, 4], [0, 1, 2, 3, 4, 5], [0, 1, 2, 3, 4, 5, 6], [0, 1, 2, 3, 4, 5, 6, 7], [0, 1, 2, 3, 4, 5, 6, 7, 8], [0, 1, 2, 3, 4, 5, 6, 7, 8, 9], [0, 1, 2, 3, 4, 5, 6, 7, 8, 9, 10], [0, 1, 2, 3, 4, 5, 6, 7, 8, 9], [0, 1, 2, 3, 4, 5, 6, 7, 8, 9], [0, 1, 2, 3, 4, 5, 6, 7, 8, 9, 12, 13], [0, 1, 2, 3, 4, 5, 6, 7, 8, 9, 12, 13, 14], [0, 1, 2, 3, 4, 5, 6, 7, 8, 9, 10, 11, 12, 13, 14, 15], [0, 1, 2, 3, 4, 5, 6, 7, 8, 9, 10, 11, 12, 13, 14, 15, 16], [0, 1, 2, 3, 4, 5, 6, 7, 8, 9, 10, 11, 12, 13, 14, 15, 16, 17]]
def Tryz.a3r15 : ACode := .region [⟨(some 4), .mv (.c (.bool false)), none⟩]
def Tryz.a3r16 : ACode := .region [⟨(some 66), .mv (.t 10), none⟩,
  ⟨(some 67), .bin .add 0 (.t 66) (.c (.int .i64 1)), none⟩,
  ⟨(some 10), .mv (.t 67), none⟩]
def Tryz.a3l17 : ACode := .seq (.seq (Tryz.a3r12) (.cond (.t 65) (.skip) (.exit 2))) (.seq (.block 3 (.seq (Tryz.a3r13) (.seq (Tryz.a3r14) (.cond (.t 95) (.seq (Tryz.a3r15) (.ret)) (.skip))))) (Tryz.a3r16))
def Tryz.a3r18 : ACode := .region [⟨(some 97), .load true 12 (.t 8), none⟩,
  ⟨(some 98), .mv (.t 1), none⟩,
  ⟨(some 99), .call (.c (.func 18 [] [])) [(.t 97), (.t 98)], none⟩,
  ⟨(some 96), .mv (.t 99), none⟩,
  ⟨(some 100), .ext 0 (.t 96), none⟩,
  ⟨(some 101), .ext 1 (.t 96), none⟩,
  ⟨(some 13), .alloc 20 (.agg [(.int .i64 0), (.int .i64 0), (.int .i64 0), (.int .i64 0), (.int .i64 0), (.int .i64 0), (.int .i64 0), (.int .i64 0), .nils, (.int .i64 0), (.int .i64 0), (.int .i64 0), .nils, (.int .i64 0), .nils, .nils, .nils, .nils, .nils, .nils]) [], none⟩,
  ⟨none, .store 20 (.t 13) (.t 100) [], none⟩,
  ⟨(some 14), .mv (.t 101), none⟩]
def Tryz.a3r19 : ACode := .region [⟨(some 102), .mv (.t 14), none⟩,
  ⟨(some 103), .mv (.t 9), none⟩,
  ⟨(some 104), .mv (.t 1), none⟩,
  ⟨(some 105), .call (.c (.func 19 [] [])) [(.t 103), (.t 104)], none⟩,
  ⟨(some 106), .mv (.t 105), none⟩,
  ⟨(some 107), .mv (.t 1), (some (106, true))⟩,
  ⟨(some 108), .addo 1 (.t 8), (some (106, true))⟩,
  ⟨(some 109), .load false 1 (.t 108), (some (106, true))⟩,
  ⟨(some 110), .bin .neq 0 (.t 107) (.t 109), (some (106, true))⟩,
  ⟨(some 111), .pick (.t 106) (.t 110) (.c (.bool false)), none⟩,
  ⟨(some 112), .bin .neq 1 (.t 102) (.t 111), none⟩]
def Tryz.a3r20 : ACode := .region [⟨(some 4), .mv (.c (.bool false)), none⟩]
def Tryz.a3r21 : ACode := .region [⟨(some 25), .mv (.t 7), none⟩,
  ⟨(some 26), .bin .add 0 (.t 25) (.c (.int .i64 1)), none⟩,
  ⟨(some 7), .mv (.t 26), none⟩]
def Tryz.a3l22 : ACode := .seq (.seq (Tryz.a3r6) (.cond (.t 24) (.skip) (.exit 0))) (.seq (.block 1 (.seq (Tryz.a3r7) (.seq (Tryz.a3r8) (.seq (.seq (Tryz.a3r9) (.cond (.t 61) (.seq (Tryz.a3r10) (.ret)) (.skip))) (.seq (.seq (Tryz.a3r11) (.block 2 (.loop [1, 5, 6, 7, 8, 9, 10] Tryz.a3l17))) (.seq (Tryz.a3r18) (.seq (Tryz.a3r19) (.cond (.t 112) (.seq (Tryz.a3r20) (.ret)) (.skip))))))))) (Tryz.a3r21))
def Tryz.a3r23 : ACode := .region [⟨(some 113), .mv (.t 5), none⟩,
  ⟨(some 4), .mv (.t 113), none⟩]
def Tryz.c3 : ACode := .seq (Tryz.a3r0) (.seq (Tryz.a3r1) (.seq (.seq (Tryz.a3r2) (.cond (.t 17) (.seq (Tryz.a3r3) (.ret)) (.skip))) (.seq (Tryz.a3r4) (.seq (.seq (Tryz.a3r5) (.block 0 (.loop [1, 5, 6, 7] Tryz.a3l22))) (.seq (Tryz.a3r23) (.ret))))))
def Tryz.a3 : AFunc := ⟨114, Tryz.c3, [(4, none)], false⟩
theorem Tryz.a3_ok : chkFunc Tryz.prog Tryz.eqs Tryz.f3 Tryz.a3 = true := by kernel_rfl
theorem Tryz.w3 {first caps args : List AVal} {heap : List AObj} {K : AVal → List AObj → Prop} (N : Nat) (h : Ex (cfg Tryz.prog Tryz.eqs N) Tryz.c3 ⟨(first ++ args ++ caps) ++ List.replicate (114 - (first ++ args ++ caps).length) .undef, heap⟩ (kfun (cfg Tryz.prog Tryz.eqs N) [(4, none)] false heap.length K)) : Hs Tryz.prog Tryz.eqs (.func 3 first caps) args heap K := Hs.enter Tryz.eqs_plain N (fn := Tryz.f3) (by kernel_rfl) Tryz.a3_ok h
def Tryz.a14r0 : ACode := .region [⟨(some 1), .box (.t 0) [], none⟩,
  ⟨(some 2), .alloc 10 (.agg [.nils, .nils, .nils, .nils, (.int .i64 0), (.int .i64 0), (.int .i64 0), .nils, .nils, .nils]) [], none⟩]
def Tryz.a14r1 : ACode := .region [⟨(some 3), .load true 1 (.t 1), none⟩,
  ⟨(some 4), .call (.c (.func 45 [] [])) [(.t 3), (.c (.bool false))], none⟩,
  ⟨none, .store 10 (.t 2) (.t 4) [], none⟩]
def Tryz.c14 : ACode := .seq (Tryz.a14r0) (.seq (Tryz.a14r1) (.ret))
def Tryz.a14 : AFunc := ⟨5, Tryz.c14, [(2, some (true, 10))], false⟩
theorem Tryz.a14_ok : chkFunc Tryz.prog Tryz.eqs Tryz.f14 Tryz.a14 = true := by kernel_rfl
theorem Tryz.w14 {first caps args : List AVal} {heap : List AObj} {K : AVal → List AObj → Prop} (N : Nat) (h : Ex (cfg Tryz.prog Tryz.eqs N) Tryz.c14 ⟨(first ++ args ++ caps) ++ List.replicate (5 - (first ++ args ++ caps).length) .undef, heap⟩ (kfun (cfg Tryz.prog Tryz.eqs N) [(2, some (true, 10))] false heap.length K)) : Hs Tryz.prog Tryz.eqs (.func 14 first caps) args heap K := Hs.enter Tryz.eqs_plain N (fn := Tryz.f14) (by kernel_rfl) Tryz.a14_ok h
def Tryz.a15r0 : ACode := .region [⟨(some 1), .box (.t 0) [], none⟩,
  ⟨(some 2), .tokz 1 (.c .nils), none⟩]
def Tryz.a15r1 : ACode := .region [⟨(some 3), .alloc 1 .nils [(0, 1)], none⟩]
def Tryz.a15r2 : ACode := .region [⟨(some 5), .addo 11 (.t 1), none⟩,
  ⟨(some 6), .load false 1 (.t 5), none⟩,
  ⟨(some 7), .call (.c (.func 46 [] [])) [(.t 6), (.c (.int .i64 1))], none⟩]
def Tryz.a15r3 : ACode := .region [⟨(some 4), .alloc 21 (.agg [(.int .i64 0), (.int .i64 0), (.int .i64 0), (.int .i64 0), (.int .i64 0), (.int .i64 0), (.int .i64 0), (.int .i64 0), .nils, (.int .i64 0), (.int .i64 0), (.int .i64 0), .nils, (.int .i64 0), .nils, .nils, .nils, .nils, .nils, .nils, (.int .i64 0)]) [], none⟩,
  ⟨none, .store 21 (.t 4) (.t 8) [], none⟩]
def Tryz.a15r4 : ACode := .region [⟨(some 9), .load false 1 (.t 3), none⟩,
  ⟨(some 10), .addo 0 (.t 4), none⟩,
  ⟨(some 11), .addo 0 (.t 10), none⟩,
  ⟨(some 12), .load false 1 (.t 11), none⟩,
  ⟨(some 13), .lit 1 [(.t 12)], none⟩,
  ⟨(some 14), .append false 1 (.t 9) (.t 13), none⟩,
  ⟨none, .store 1 (.t 3) (.t 14) [], none⟩]
def Tryz.a15y5 : ACode := .block 1 (Tryz.a15r4)
def Tryz.a15r6 : ACode := .region [⟨(some 15), .load false 1 (.t 3), none⟩,
  ⟨(some 16), .addo 1 (.t 1), none⟩,
  ⟨(some 17), .load false 1 (.t 16), none⟩,
  ⟨(some 18), .lit 1 [(.t 17)], none⟩,
  ⟨(some 19), .append false 1 (.t 15) (.t 18), none⟩,
  ⟨(some 2), .mv (.t 19), none⟩]
def Tryz.c15 : ACode := .seq (Tryz.a15r0) (.seq (Tryz.a15r1) (.seq (.seq (Tryz.a15r2) (.block 0 (.rangeFunc (.t 7) [8] (Tryz.a15r3) (Tryz.a15y5)))) (.seq (Tryz.a15r6) (.ret))))
def Tryz.a15 : AFunc := ⟨20, Tryz.c15, [(2, none)], false⟩
theorem Tryz.a15_ok : chkFunc Tryz.prog Tryz.eqs Tryz.f15 Tryz.a15 = true := by kernel_rfl
theorem Tryz.w15 {first caps args : List AVal} {heap : List AObj} {K : AVal → List AObj → Prop} (N : Nat) (h : Ex (cfg Tryz.prog Tryz.eqs N) Tryz.c15 ⟨(first ++ args ++ caps) ++ List.replicate (20 - (first ++ args ++ caps).length) .undef, heap⟩ (kfun (cfg Tryz.prog Tryz.eqs N) [(2, none)] false heap.length K)) : Hs Tryz.prog Tryz.eqs (.func 15 first caps) args heap K := Hs.enter Tryz.eqs_plain N (fn := Tryz.f15) (by kernel_rfl) Tryz.a15_ok h
def Tryz.a16r0 : ACode := .region [⟨(some 2), .mv (.c (.bool false)), none⟩]
def Tryz.a16r1 : ACode := .region [⟨(some 3), .mv (.c (.int .i64 0)), none⟩]
def Tryz.a16r2 : ACode := .region [⟨(some 5), .mv (.t 3), none⟩,
  ⟨(some 6), .mv (.t 0), none⟩,
  ⟨(some 7), .len 0 (.t 6), none⟩,
  ⟨(some 8), .bin .lss 0 (.t 5) (.t 7), none⟩]
def Tryz.a16r3 : ACode := .region [⟨(some 4), .mv (.c (.int .i64 0)), none⟩]
def Tryz.a16r4 : ACode := .region [⟨(some 11), .mv (.t 4), none⟩,
  ⟨(some 12), .mv (.t 3), none⟩,
  ⟨(some 13), .bin .lss 0 (.t 11) (.t 12), none⟩]
def Tryz.a16r5 : ACode := .draw [⟨0, ⟨(some 16), .mv (.t 0), none⟩, []⟩,
  ⟨1, ⟨(some 17), .mv (.t 3), none⟩, []⟩,
  ⟨2, ⟨(some 18), .idx 1 (.t 16) (.t 17), none⟩, []⟩,
  ⟨3, ⟨(some 19), .load false 1 (.t 18), none⟩, []⟩,
  ⟨4, ⟨(some 20), .mv (.t 0), none⟩, []⟩,
  ⟨5, ⟨(some 21), .mv (.t 4), none⟩, []⟩,
  ⟨6, ⟨(some 22), .idx 1 (.t 20) (.t 21), none⟩, []⟩,
  ⟨7, ⟨(some 23), .load false 1 (.t 22), none⟩, []⟩,
  ⟨8, ⟨(some 24), .bin .eql 0 (.t 19) (.t 23), none⟩, []⟩] [[], [], [0, 1], [0, 1, 2], [], [], [4, 5], [4, 5, 6], [0, 1, 2, 3, 4, 5, 6, 7]]
def Tryz.a16r6 : ACode := .region [⟨(some 2), .mv (.c (.bool false)), none⟩]
def Tryz.a16r7 : ACode := .region [⟨(some 14), .mv (.t 4), none⟩,
  ⟨(some 15), .bin .add 0 (.t 14) (.c (.int .i64 1)), none⟩,
  ⟨(some 4), .mv (.t 15), none⟩]
def Tryz.a16l8 : ACode := .seq (.seq (Tryz.a16r4) (.cond (.t 13) (.skip) (.exit 2))) (.seq (.block 3 (.seq (Tryz.a16r5) (.cond (.t 24) (.seq (Tryz.a16r6) (.ret)) (.skip)))) (Tryz.a16r7))
def Tryz.a16r9 : ACode := .region [⟨(some 9), .mv (.t 3), none⟩,
  ⟨(some 10), .bin .add 0 (.t 9) (.c (.int .i64 1)), none⟩,
  ⟨(some 3), .mv (.t 10), none⟩]
def Tryz.a16l10 : ACode := .seq (.seq (Tryz.a16r2) (.cond (.t 8) (.skip) (.exit 0))) (.seq (.block 1 (.seq (Tryz.a16r3) (.block 2 (.loop [0, 3, 4] Tryz.a16l8)))) (Tryz.a16r9))
def Tryz.a16r11 : ACode := .region [⟨(some 2), .mv (.c (.bool true)), none⟩]
def Tryz.c16 : ACode := .seq (Tryz.a16r0) (.seq (.seq (Tryz.a16r1) (.block 0 (.loop [0, 3] Tryz.a16l10))) (.seq (Tryz.a16r11) (.ret)))
def Tryz.a16 : AFunc := ⟨25, Tryz.c16, [(2, none)], false⟩
theorem Tryz.a16_ok : chkFunc Tryz.prog Tryz.eqs Tryz.f16 Tryz.a16 = true := by kernel_rfl
theorem Tryz.w16 {first caps args : List AVal} {heap : List AObj} {K : AVal → List AObj → Prop} (N : Nat) (h : Ex (cfg Tryz.prog Tryz.eqs N) Tryz.c16 ⟨(first ++ args ++ caps) ++ List.replicate (25 - (first ++ args ++ caps).length) .undef, heap⟩ (kfun (cfg Tryz.prog Tryz.eqs N) [(2, none)] false heap.length K)) : Hs Tryz.prog Tryz.eqs (.func 16 first caps) args heap K := Hs.enter Tryz.eqs_plain N (fn := Tryz.f16) (by kernel_rfl) Tryz.a16_ok h
def Tryz.a17r0 : ACode := .region [⟨(some 2), .mv (.c (.int .i64 0)), none⟩]
def Tryz.a17r1 : ACode := .region [⟨(some 5), .mv (.t 0), none⟩,
  ⟨(some 6), .len 0 (.t 5), none⟩,
  ⟨(some 3), .mv (.t 6), none⟩]
def Tryz.a17r2 : ACode := .region [⟨(some 4), .mv (.c (.int .i64 0)), none⟩]
def Tryz.a17r3 : ACode := .region [⟨(some 7), .mv (.t 4), none⟩,
  ⟨(some 8), .mv (.t 0), none⟩,
  ⟨(some 9), .len 0 (.t 8), none⟩,
  ⟨(some 10), .bin .lss 0 (.t 7) (.t 9), none⟩]
def Tryz.a17r4 : ACode := .draw [⟨0, ⟨(some 13), .mv (.t 3), none⟩, []⟩,
  ⟨1, ⟨(some 14), .mv (.t 0), none⟩, []⟩,
  ⟨2, ⟨(some 15), .mv (.t 4), none⟩, []⟩,
  ⟨3, ⟨(some 16), .idx 20 (.t 14) (.t 15), none⟩, []⟩,
  ⟨4, ⟨(some 17), .addo 18 (.t 16), none⟩, []⟩,
  ⟨5, ⟨(some 18), .load false 1 (.t 17), none⟩, []⟩,
  ⟨7, ⟨(some 20), .mv (.t 0), none⟩, []⟩,
  ⟨8, ⟨(some 21), .mv (.t 4), none⟩, []⟩,
  ⟨9, ⟨(some 22), .idx 20 (.t 20) (.t 21), none⟩, []⟩,
  ⟨10, ⟨(some 23), .addo 19 (.t 22), none⟩, []⟩,
  ⟨11, ⟨(some 24), .load false 1 (.t 23), none⟩, []⟩,
  ⟨6, ⟨(some 19), .call (.c (.func 17 [] [])) [(.t 18)], none⟩, [11]⟩,
  ⟨12, ⟨(some 25), .call (.c (.func 17 [] [])) [(.t 24)], none⟩, []⟩,
  ⟨13, ⟨(some 26), .bin .add 0 (.t 19) (.t 25), none⟩, []⟩,
  ⟨14, ⟨(some 27), .bin .add 0 (.t 13) (.t 26), none⟩, []⟩,
  ⟨15, ⟨(some 3), .set (.t 27), none⟩, []⟩] [[], [], [], [1, 2], [1, 2, 3], [1, 2, 3, 4], [1, 2, 3, 4, 5], [], [], [7, 8], [7, 8, 9], [7, 8, 9, 10], [1, 2, 3, 4, 5, 6, 7, 8, 9, 10, 11], [1, 2, 3, 4, 5, 6, 7, 8, 9, 10, 11, 12], [0, 1, 2, 3, 4, 5, 6, 7, 8, 9, 10, 11, 12, 13], [0, 1, 2, 3, 4, 5, 6, 7, 8, 9, 10, 11, 12, 13, 14]]
def Tryz.a17r5 : ACode := .region [⟨(some 11), .mv (.t 4), none⟩,
  ⟨(some 12), .bin .add 0 (.t 11) (.c (.int .i64 1)), none⟩,
  ⟨(some 4), .mv (.t 12), none⟩]
def Tryz.a17l6 : ACode := .seq (.seq (Tryz.a17r3) (.cond (.t 10) (.skip) (.exit 0))) (.seq (.block 1 (Tryz.a17r4)) (Tryz.a17r5))
def Tryz.a17r7 : ACode := .region [⟨(some 28), .mv (.t 3), none⟩,
  ⟨(some 2), .mv (.t 28), none⟩]
def Tryz.c17 : ACode := .seq (Tryz.a17r0) (.seq (Tryz.a17r1) (.seq (.seq (Tryz.a17r2) (.block 0 (.loop [0, 3, 4] Tryz.a17l6))) (.seq (Tryz.a17r7) (.ret))))
def Tryz.a17 : AFunc := ⟨29, Tryz.c17, [(2, none)], false⟩
theorem Tryz.a17_ok : chkFunc Tryz.prog Tryz.eqs Tryz.f17 Tryz.a17 = true := by kernel_rfl
theorem Tryz.w17 {first caps args : List AVal} {heap : List AObj} {K : AVal → List AObj → Prop} (N : Nat) (h : Ex (cfg Tryz.prog Tryz.eqs N) Tryz.c17 ⟨(first ++ args ++ caps) ++ List.replicate (29 - (first ++ args ++ caps).length) .undef, heap⟩ (kfun (cfg Tryz.prog Tryz.eqs N) [(2, none)] false heap.length K)) : Hs Tryz.prog Tryz.eqs (.func 17 first caps) args heap K := Hs.enter Tryz.eqs_plain N (fn := Tryz.f17) (by kernel_rfl) Tryz.a17_ok h
def Tryz.a18r0 : ACode := .region [⟨(some 2), .box (.t 0) [], none⟩,
  ⟨(some 3), .box (.t 1) [], none⟩,
  ⟨(some 4), .alloc 20 (.agg [(.int .i64 0), (.int .i64 0), (.int .i64 0), (.int .i64 0), (.int .i64 0), (.int .i64 0), (.int .i64 0), (.int .i64 0), .nils, (.int .i64 0), (.int .i64 0), (.int .i64 0), .nils, (.int .i64 0), .nils, .nils, .nils, .nils, .nils, .nils]) [], none⟩,
  ⟨(some 5), .alloc 1 (.bool false) [], none⟩]
def Tryz.a18r1 : ACode := .region [⟨(some 7), .addo 11 (.t 2), none⟩,
  ⟨(some 8), .load false 1 (.t 7), none⟩,
  ⟨(some 9), .call (.c (.func 46 [] [])) [(.t 8), (.c (.int .i64 1))], none⟩]
def Tryz.a18r2 : ACode := .region [⟨(some 6), .alloc 21 (.agg [(.int .i64 0), (.int .i64 0), (.int .i64 0), (.int .i64 0), (.int .i64 0), (.int .i64 0), (.int .i64 0), (.int .i64 0), .nils, (.int .i64 0), (.int .i64 0), (.int .i64 0), .nils, (.int .i64 0), .nils, .nils, .nils, .nils, .nils, .nils, (.int .i64 0)]) [], none⟩,
  ⟨none, .store 21 (.t 6) (.t 10) [], none⟩]
def Tryz.a18r3 : ACode := .region [⟨(some 11), .addo 0 (.t 6), none⟩,
  ⟨(some 12), .addo 0 (.t 11), none⟩,
  ⟨(some 13), .load false 1 (.t 12), none⟩,
  ⟨(some 14), .load false 1 (.t 3), none⟩,
  ⟨(some 15), .bin .eql 0 (.t 13) (.t 14), none⟩]
def Tryz.a18r4 : ACode := .region [⟨(some 16), .addo 0 (.t 6), none⟩,
  ⟨(some 17), .load true 20 (.t 16), none⟩,
  ⟨none, .store 20 (.t 4) (.t 17) [], none⟩,
  ⟨none, .store 1 (.t 5) (.c (.bool true)) [], none⟩]
def Tryz.a18y5 : ACode := .block 1 (.seq (Tryz.a18r3) (.cond (.t 15) (.seq (Tryz.a18r4) (.ret)) (.skip)))
def Tryz.a18r6 : ACode := .region [⟨(some 18), .build (.agg [(.int .i64 0), (.int .i64 0), (.int .i64 0), (.int .i64 0), (.int .i64 0), (.int .i64 0), (.int .i64 0), (.int .i64 0), .nils, (.int .i64 0), (.int .i64 0), (.int .i64 0), .nils, (.int .i64 0), .nils, .nils, .nils, .nils, .nils, .nils]) [], none⟩,
  ⟨none, .store 20 (.t 4) (.t 18) [], none⟩,
  ⟨none, .store 1 (.t 5) (.c (.bool false)) [], none⟩]
def Tryz.c18 : ACode := .seq (Tryz.a18r0) (.seq (.seq (Tryz.a18r1) (.block 0 (.rangeFunc (.t 9) [10] (Tryz.a18r2) (Tryz.a18y5)))) (.seq (Tryz.a18r6) (.ret)))
def Tryz.a18 : AFunc := ⟨19, Tryz.c18, [(4, some (true, 20)), (5, some (false, 1))], false⟩
theorem Tryz.a18_ok : chkFunc Tryz.prog Tryz.eqs Tryz.f18 Tryz.a18 = true := by kernel_rfl
theorem Tryz.w18 {first caps args : List AVal} {heap : List AObj} {K : AVal → List AObj → Prop} (N : Nat) (h : Ex (cfg Tryz.prog Tryz.eqs N) Tryz.c18 ⟨(first ++ args ++ caps) ++ List.replicate (19 - (first ++ args ++ caps).length) .undef, heap⟩ (kfun (cfg Tryz.prog Tryz.eqs N) [(4, some (true, 20)), (5, some (false, 1))] false heap.length K)) : Hs Tryz.prog Tryz.eqs (.func 18 first caps) args heap K := Hs.enter Tryz.eqs_plain N (fn := Tryz.f18) (by kernel_rfl) Tryz.a18_ok h
def Tryz.a19r0 : ACode := .region [⟨(some 4), .mv (.c (.bool false)), none⟩]
def Tryz.a19r1 : ACode := .region [⟨(some 5), .mv (.c (.int .i64 0)), none⟩]
def Tryz.a19r2 : ACode := .region [⟨(some 6), .mv (.t 5), none⟩,
  ⟨(some 7), .mv (.t 0), none⟩,
  ⟨(some 8), .len 0 (.t 7), none⟩,
  ⟨(some 9), .bin .lss 0 (.t 6) (.t 8), none⟩]
def Tryz.a19r3 : ACode := .region [⟨(some 12), .mv (.t 0), none⟩,
  ⟨(some 13), .mv (.t 5), none⟩,
  ⟨(some 14), .idx 1 (.t 12) (.t 13), none⟩,
  ⟨(some 15), .load false 1 (.t 14), none⟩,
  ⟨(some 16), .mv (.t 1), none⟩,
  ⟨(some 17), .bin .eql 0 (.t 15) (.t 16), none⟩]
def Tryz.a19r4 : ACode := .region [⟨(some 4), .mv (.c (.bool true)), none⟩]
def Tryz.a19r5 : ACode := .region [⟨(some 10), .mv (.t 5), none⟩,
  ⟨(some 11), .bin .add 0 (.t 10) (.c (.int .i64 1)), none⟩,
  ⟨(some 5), .mv (.t 11), none⟩]
def Tryz.a19l6 : ACode := .seq (.seq (Tryz.a19r2) (.cond (.t 9) (.skip) (.exit 0))) (.seq (.block 1 (.seq (Tryz.a19r3) (.cond (.t 17) (.seq (Tryz.a19r4) (.ret)) (.skip)))) (Tryz.a19r5))
def Tryz.a19r7 : ACode := .region [⟨(some 4), .mv (.c (.bool false)), none⟩]
def Tryz.c19 : ACode := .seq (Tryz.a19r0) (.seq (.seq (Tryz.a19r1) (.block 0 (.loop [0, 1, 5] Tryz.a19l6))) (.seq (Tryz.a19r7) (.ret)))
def Tryz.a19 : AFunc := ⟨18, Tryz.c19, [(4, none)], false⟩
theorem Tryz.a19_ok : chkFunc Tryz.prog Tryz.eqs Tryz.f19 Tryz.a19 = true := by kernel_rfl
theorem Tryz.w19 {first caps args : List AVal} {heap : List AObj} {K : AVal → List AObj → Prop} (N : Nat) (h : Ex (cfg Tryz.prog Tryz.eqs N) Tryz.c19 ⟨(first ++ args ++ caps) ++ List.replicate (18 - (first ++ args ++ caps).length) .undef, heap⟩ (kfun (cfg Tryz.prog Tryz.eqs N) [(4, none)] false heap.length K)) : Hs Tryz.prog Tryz.eqs (.func 19 first caps) args heap K := Hs.enter Tryz.eqs_plain N (fn := Tryz.f19) (by kernel_rfl) Tryz.a19_ok h
def Tryz.a33r0 : ACode := .region [⟨(some 2), .alloc 4 (.agg [(.int .i64 0), (.int .i64 0), (.int .i64 0), .nils]) [], none⟩]
def Tryz.a33r1 : ACode := .region [⟨(some 3), .mv (.t 0), none⟩,
  ⟨(some 4), .build (.agg [(.int .i64 0), (.int .i64 0), (.int .i64 0), .nils]) [((0, 1), (.c (.int .i64 1))), ((2, 1), (.t 3))], none⟩,
  ⟨none, .store 4 (.t 2) (.t 4) [], none⟩]
def Tryz.c33 : ACode := .seq (Tryz.a33r0) (.seq (Tryz.a33r1) (.ret))
def Tryz.a33 : AFunc := ⟨5, Tryz.c33, [(2, some (true, 4))], false⟩
theorem Tryz.a33_ok : chkFunc Tryz.prog Tryz.eqs Tryz.f33 Tryz.a33 = true := by kernel_rfl
theorem Tryz.w33 {first caps args : List AVal} {heap : List AObj} {K : AVal → List AObj → Prop} (N : Nat) (h : Ex (cfg Tryz.prog Tryz.eqs N) Tryz.c33 ⟨(first ++ args ++ caps) ++ List.replicate (5 - (first ++ args ++ caps).length) .undef, heap⟩ (kfun (cfg Tryz.prog Tryz.eqs N) [(2, some (true, 4))] false heap.length K)) : Hs Tryz.prog Tryz.eqs (.func 33 first caps) args heap K := Hs.enter Tryz.eqs_plain N (fn := Tryz.f33) (by kernel_rfl) Tryz.a33_ok h
def Tryz.a40r0 : ACode := .region [⟨(some 0), .alloc 7 (.agg [.nils, .nils, .nils, .nils, (.int .i64 0), (.int .i64 0), (.int .i64 0)]) [], none⟩]
def Tryz.a40r1 : ACode := .region [⟨(some 1), .build (.agg [(.int .i64 0), (.int .i64 0), (.int .i64 0)]) [((0, 1), (.c (.int .i64 0))), ((1, 1), (.c (.int .i64 20))), ((2, 1), (.c (.int .i64 1)))], none⟩,
  ⟨(some 2), .build (.agg [(.int .i64 0), (.int .i64 0), (.int .i64 0)]) [((0, 1), (.c (.int .i64 (-5)))), ((1, 1), (.c (.int .i64 5)))], none⟩,
  ⟨(some 3), .lit 3 [(.t 1), (.t 2)], none⟩,
  ⟨(some 4), .build (.agg [(.int .i64 0), (.int .i64 0), (.int .i64 0)]) [((0, 1), (.c (.int .i64 0))), ((1, 1), (.c (.int .i64 9))), ((2, 1), (.c (.int .i64 1)))], none⟩,
  ⟨(some 5), .build (.agg [(.int .i64 0), (.int .i64 0), (.int .i64 0)]) [((0, 1), (.c (.int .i64 0))), ((1, 1), (.c (.int .i64 100))), ((2, 1), (.c (.int .i64 2)))], none⟩,
  ⟨(some 6), .lit 3 [(.t 4), (.t 5)], none⟩,
  ⟨(some 7), .build (.agg [(.int .i64 0), (.int .i64 0), (.int .i64 0)]) [((0, 1), (.c (.int .i64 0))), ((1, 1), (.c (.int .i64 15))), ((2, 1), (.c (.int .i64 1)))], none⟩,
  ⟨(some 8), .build (.agg [(.int .i64 0), (.int .i64 0), (.int .i64 0), (.int .i64 0)]) [((0, 1), (.c (.int .i64 2))), ((1, 3), (.t 7))], none⟩,
  ⟨(some 9), .lit 4 [(.t 8)], none⟩,
  ⟨(some 10), .lit 1 [(.c (.int .i64 0)), (.c (.int .i64 1)), (.c (.int .i64 3))], none⟩,
  ⟨(some 11), .build (.agg [.nils, .nils, .nils, .nils, (.int .i64 0), (.int .i64 0), (.int .i64 0)]) [((0, 1), (.t 3)), ((1, 1), (.t 6)), ((2, 1), (.t 9)), ((3, 1), (.t 10)), ((4, 1), (.c (.int .i64 3))), ((5, 1), (.c (.int .i64 3))), ((6, 1), (.c (.int .i64 2)))], none⟩,
  ⟨none, .store 7 (.t 0) (.t 11) [], none⟩]
def Tryz.c40 : ACode := .seq (Tryz.a40r0) (.seq (Tryz.a40r1) (.ret))
def Tryz.a40 : AFunc := ⟨12, Tryz.c40, [(0, some (true, 7))], false⟩
theorem Tryz.a40_ok : chkFunc Tryz.prog Tryz.eqs Tryz.f40 Tryz.a40 = true := by kernel_rfl
theorem Tryz.w40 {first caps args : List AVal} {heap : List AObj} {K : AVal → List AObj → Prop} (N : Nat) (h : Ex (cfg Tryz.prog Tryz.eqs N) Tryz.c40 ⟨(first ++ args ++ caps) ++ List.replicate (12 - (first ++ args ++ caps).length) .undef, heap⟩ (kfun (cfg Tryz.prog Tryz.eqs N) [(0, some (true, 7))] false heap.length K)) : Hs Tryz.prog Tryz.eqs (.func 40 first caps) args heap K := Hs.enter Tryz.eqs_plain N (fn := Tryz.f40) (by kernel_rfl) Tryz.a40_ok h
def Tryz.a42r0 : ACode := .region [⟨(some 1), .box (.t 0) [], none⟩,
  ⟨(some 2), .alloc 5 (.agg [(.int .i64 0), (.int .i64 0), (.int .i64 0), .nils, .nils]) [], none⟩]
def Tryz.a42r1 : ACode := .region [⟨(some 3), .addo 0 (.t 1), none⟩,
  ⟨(some 4), .load false 1 (.t 3), none⟩,
  ⟨(some 5), .addo 3 (.t 1), none⟩,
  ⟨(some 6), .load false 1 (.t 5), none⟩,
  ⟨(some 7), .addo 4 (.t 1), none⟩,
  ⟨(some 8), .load false 1 (.t 7), none⟩,
  ⟨(some 9), .addo 5 (.t 1), none⟩,
  ⟨(some 10), .load false 1 (.t 9), none⟩,
  ⟨(some 11), .addo 6 (.t 1), none⟩,
  ⟨(some 12), .load false 1 (.t 11), none⟩,
  ⟨(some 13), .build (.agg [(.int .i64 0), (.int .i64 0), (.int .i64 0), .nils, .nils]) [((0, 1), (.t 4)), ((1, 1), (.t 6)), ((2, 1), (.t 8)), ((3, 1), (.t 10)), ((4, 1), (.t 12))], none⟩,
  ⟨none, .store 5 (.t 2) (.t 13) [], none⟩]
def Tryz.c42 : ACode := .seq (Tryz.a42r0) (.seq (Tryz.a42r1) (.ret))
def Tryz.a42 : AFunc := ⟨14, Tryz.c42, [(2, some (true, 5))], false⟩
theorem Tryz.a42_ok : chkFunc Tryz.prog Tryz.eqs Tryz.f42 Tryz.a42 = true := by kernel_rfl
theorem Tryz.w42 {first caps args : List AVal} {heap : List AObj} {K : AVal → List AObj → Prop} (N : Nat) (h : Ex (cfg Tryz.prog Tryz.eqs N) Tryz.c42 ⟨(first ++ args ++ caps) ++ List.replicate (14 - (first ++ args ++ caps).length) .undef, heap⟩ (kfun (cfg Tryz.prog Tryz.eqs N) [(2, some (true, 5))] false heap.length K)) : Hs Tryz.prog Tryz.eqs (.func 42 first caps) args heap K := Hs.enter Tryz.eqs_plain N (fn := Tryz.f42) (by kernel_rfl) Tryz.a42_ok h
def Tryz.a45r0 : ACode := .region [⟨(some 2), .box (.t 0) [], none⟩,
  ⟨(some 4), .alloc 10 (.agg [.nils, .nils, .nils, .nils, (.int .i64 0), (.int .i64 0), (.int .i64 0), .nils, .nils, .nils]) [], none⟩]
def Tryz.a45r1 : ACode := .draw [⟨0, ⟨(some 9), .addo 0 (.t 2), none⟩, []⟩,
  ⟨1, ⟨(some 10), .load false 1 (.t 9), none⟩, []⟩,
  ⟨2, ⟨(some 11), .mv (.t 1), none⟩, []⟩,
  ⟨3, ⟨(some 12), .call (.c (.func 40 [] [])) [], none⟩, [1]⟩,
  ⟨4, ⟨(some 13), .build (.agg [.nils, .nils, .nils, .nils, (.int .i64 0), (.int .i64 0), (.int .i64 0), .nils, .nils, .nils]) [((0, 7), (.t 12))], none⟩, []⟩,
  ⟨5, ⟨(some 14), .build (.agg [.nils, (.int .i64 0), .nils, .nils, .nils, .nils, (.int .i64 0), (.int .i64 0), (.int .i64 0), .nils, .nils, .nils, (.int .i64 0), (.int .i64 0), (.str (ByteArray.mk #[])), (.int .i64 0), (.int .i64 0), .nils, .nils, (.int .i64 0), (.int .i64 0), .nils, (.int .i64 0), .nils, (.int .i64 0), (.int .i64 0), (.int .i64 0), (.int .i64 0), (.bool false)]) [((0, 1), (.t 10)), ((24, 1), (.c (.int .i64 100))), ((28, 1), (.t 11)), ((2, 10), (.t 13))], none⟩, []⟩,
  ⟨6, ⟨(some 15), .box (.t 14) [(9, 5), (10, 12), (11, 1)], none⟩, []⟩,
  ⟨7, ⟨(some 5), .mv (.t 15), none⟩, []⟩] [[], [0], [], [], [3], [0, 1, 2, 3, 4], [0, 1, 2, 3, 4, 5], [0, 1, 2, 3, 4, 5, 6]]
def Tryz.a45r2 : ACode := .region [⟨(some 16), .mv (.t 5), none⟩,
  ⟨(some 17), .call (.c (.func 85 [] [])) [(.t 16), (.c (.int .i64 4))], none⟩,
  ⟨(some 18), .bin .add 0 (.c (.int .i64 1)) (.t 17), none⟩,
  ⟨(some 6), .mv (.t 18), none⟩]
def Tryz.a45r3 : ACode := .region [⟨(some 7), .mv (.c (.int .i64 0)), none⟩]
def Tryz.a45r4 : ACode := .region [⟨(some 19), .mv (.t 7), none⟩,
  ⟨(some 20), .mv (.t 6), none⟩,
  ⟨(some 21), .bin .lss 0 (.t 19) (.t 20), none⟩]
def Tryz.a45r5 : ACode := .region [⟨(some 24), .mv (.t 5), none⟩,
  ⟨(some 25), .mv (.t 7), none⟩,
  ⟨(some 26), .bin .add 0 (.c (.int .i64 11)) (.t 25), none⟩,
  ⟨(some 27), .mv (.t 7), none⟩,
  ⟨(some 28), .mv (.t 6), none⟩,
  ⟨(some 29), .bin .sub 0 (.t 28) (.c (.int .i64 1)), none⟩,
  ⟨(some 30), .bin .eql 0 (.t 27) (.t 29), none⟩,
  ⟨(some 31), .mv (.t 30), none⟩,
  ⟨(some 32), .mv (.t 5), (some (31, false))⟩,
  ⟨(some 33), .call (.c (.func 85 [] [])) [(.t 32), (.c (.int .i64 5))], (some (31, false))⟩,
  ⟨(some 34), .bin .eql 0 (.t 33) (.c (.int .i64 0)), (some (31, false))⟩,
  ⟨(some 35), .pick (.t 31) (.c (.bool true)) (.t 34), none⟩,
  ⟨(some 36), .call (.c (.func 86 [] [])) [(.t 24), (.t 26), (.t 35)], none⟩]
def Tryz.a45r6 : ACode := .region [⟨(some 22), .mv (.t 7), none⟩,
  ⟨(some 23), .bin .add 0 (.t 22) (.c (.int .i64 1)), none⟩,
  ⟨(some 7), .mv (.t 23), none⟩]
def Tryz.a45l7 : ACode := .seq (.seq (Tryz.a45r4) (.cond (.t 21) (.skip) (.exit 0))) (.seq (.block 1 (Tryz.a45r5)) (Tryz.a45r6))
def Tryz.a45r8 : ACode := .region [⟨(some 37), .mv (.t 6), none⟩,
  ⟨(some 38), .bin .sub 0 (.t 37) (.c (.int .i64 1)), none⟩,
  ⟨(some 8), .mv (.t 38), none⟩]
def Tryz.a45r9 : ACode := .region [⟨(some 39), .mv (.t 8), none⟩,
  ⟨(some 40), .bin .geq 0 (.t 39) (.c (.int .i64 0)), none⟩,
  ⟨(some 41), .mv (.t 40), none⟩,
  ⟨(some 42), .mv (.t 5), (some (41, true))⟩,
  ⟨(some 43), .nilc (.t 42), (some (41, true))⟩,
  ⟨(some 44), .addo 2 (.t 43), (some (41, true))⟩,
  ⟨(some 45), .addo 9 (.t 44), (some (41, true))⟩,
  ⟨(some 46), .load false 1 (.t 45), (some (41, true))⟩,
  ⟨(some 47), .len 0 (.t 46), (some (41, true))⟩,
  ⟨(some 48), .bin .lss 0 (.t 47) (.c (.int .i64 2)), (some (41, true))⟩,
  ⟨(some 49), .pick (.t 41) (.t 48) (.c (.bool false)), none⟩]
def Tryz.a45r10 : ACode := .draw [⟨0, ⟨(some 52), .mv (.t 5), none⟩, []⟩,
  ⟨1, ⟨(some 53), .nilc (.t 52), none⟩, []⟩,
  ⟨2, ⟨(some 54), .addo 2 (.t 53), none⟩, []⟩,
  ⟨3, ⟨(some 55), .addo 8 (.t 54), none⟩, []⟩,
  ⟨4, ⟨(some 56), .load false 1 (.t 55), none⟩, []⟩,
  ⟨5, ⟨(some 57), .mv (.t 8), none⟩, []⟩,
  ⟨6, ⟨(some 58), .idx 12 (.t 56) (.t 57), none⟩, []⟩,
  ⟨7, ⟨(some 59), .addo 5 (.t 58), none⟩, []⟩,
  ⟨8, ⟨(some 60), .load false 1 (.t 59), none⟩, []⟩,
  ⟨9, ⟨(some 61), .len 0 (.t 60), none⟩, []⟩,
  ⟨10, ⟨(some 62), .mv (.t 5), none⟩, []⟩,
  ⟨11, ⟨(some 63), .nilc (.t 62), none⟩, []⟩,
  ⟨12, ⟨(some 64), .addo 2 (.t 63), none⟩, []⟩,
  ⟨13, ⟨(some 65), .addo 8 (.t 64), none⟩, []⟩,
  ⟨14, ⟨(some 66), .load false 1 (.t 65), none⟩, []⟩,
  ⟨15, ⟨(some 67), .mv (.t 8), none⟩, []⟩,
  ⟨16, ⟨(some 68), .idx 12 (.t 66) (.t 67), none⟩, []⟩,
  ⟨17, ⟨(some 69), .addo 6 (.t 68), none⟩, []⟩,
  ⟨18, ⟨(some 70), .load false 1 (.t 69), none⟩, []⟩,
  ⟨19, ⟨(some 71), .len 0 (.t 70), none⟩, []⟩,
  ⟨20, ⟨(some 72), .bin .add 0 (.t 61) (.t 71), none⟩, []⟩,
  ⟨21, ⟨(some 73), .bin .eql 0 (.t 72) (.c (.int .i64 0)), none⟩, []⟩] [[], [0], [0, 1], [0, 1, 2], [0, 1, 2, 3], [], [0, 1, 2, 3, 4, 5], [0, 1, 2, 3, 4, 5, 6], [0, 1, 2, 3, 4, 5, 6, 7], [0, 1, 2, 3, 4, 5, 6, 7, 8], [], [10], [10, 11], [10, 11, 12], [10, 11, 12, 13], [], [10, 11, 12, 13, 14, 15], [10, 11, 12, 13, 14, 15, 16], [10, 11, 12, 13, 14, 15, 16, 17], [10, 11, 12, 13, 14, 15, 16, 17, 18], [0, 1, 2, 3, 4, 5, 6, 7, 8, 9, 10, 11, 12, 13, 14, 15, 16, 17, 18, 19], [0, 1, 2, 3, 4, 5, 6, 7, 8, 9, 10, 11, 12, 13, 14, 15, 16, 17, 18, 19, 20]]
def Tryz.a45r11 : ACode := .draw [⟨0, ⟨(some 74), .mv (.t 5), none⟩, []⟩,
  ⟨1, ⟨(some 75), .mv (.t 5), none⟩, []⟩,
  ⟨2, ⟨(some 76), .nilc (.t 75), none⟩, []⟩,
  ⟨3, ⟨(some 77), .addo 2 (.t 76), none⟩, []⟩,
  ⟨4, ⟨(some 78), .addo 9 (.t 77), none⟩, []⟩,
  ⟨5, ⟨(some 79), .load false 1 (.t 78), none⟩, []⟩,
  ⟨6, ⟨(some 80), .mv (.t 5), none⟩, []⟩,
  ⟨7, ⟨(some 81), .nilc (.t 80), none⟩, []⟩,
  ⟨8, ⟨(some 82), .addo 2 (.t 81), none⟩, []⟩,
  ⟨9, ⟨(some 83), .addo 8 (.t 82), none⟩, []⟩,
  ⟨10, ⟨(some 84), .load false 1 (.t 83), none⟩, []⟩,
  ⟨11, ⟨(some 85), .mv (.t 8), none⟩, []⟩,
  ⟨12, ⟨(some 86), .idx 12 (.t 84) (.t 85), none⟩, []⟩,
  ⟨13, ⟨(some 87), .addo 0 (.t 86), none⟩, []⟩,
  ⟨14, ⟨(some 88), .load false 1 (.t 87), none⟩, []⟩,
  ⟨15, ⟨(some 89), .lit 1 [(.t 88)], none⟩, []⟩,
  ⟨16, ⟨(some 90), .append false 1 (.t 79) (.t 89), none⟩, []⟩,
  ⟨17, ⟨(some 91), .nilc (.t 74), none⟩, []⟩,
  ⟨18, ⟨(some 92), .addo 2 (.t 91), none⟩, []⟩,
  ⟨19, ⟨(some 93), .addo 9 (.t 92), none⟩, []⟩,
  ⟨20, ⟨none, .store 1 (.t 93) (.t 90) [], none⟩, []⟩] [[], [], [1], [1, 2], [1, 2, 3], [1, 2, 3, 4], [], [6], [6, 7], [6, 7, 8], [6, 7, 8, 9], [], [6, 7, 8, 9, 10, 11], [6, 7, 8, 9, 10, 11, 12], [6, 7, 8, 9, 10, 11, 12, 13], [6, 7, 8, 9, 10, 11, 12, 13, 14], [1, 2, 3, 4, 5, 6, 7, 8, 9, 10, 11, 12, 13, 14, 15], [0, 1, 2, 3, 4, 5, 6, 7, 8, 9, 10, 11, 12, 13, 14, 15, 16], [0, 1, 2, 3, 4, 5, 6, 7, 8, 9, 10, 11, 12, 13, 14, 15, 16, 17], [0, 1, 2, 3, 4, 5, 6, 7, 8, 9, 10, 11, 12, 13, 14, 15, 16, 17, 18], [0, 1, 2, 3, 4, 5, 6, 7, 8, 9, 10, 11, 12, 13, 14, 15, 16, 17, 18, 19]]
def Tryz.a45r12 : ACode := .region [⟨(some 50), .mv (.t 8), none⟩,
  ⟨(some 51), .bin .sub 0 (.t 50) (.c (.int .i64 1)), none⟩,
  ⟨(some 8), .mv (.t 51), none⟩]
def Tryz.a45l13 : ACode := .seq (.seq (Tryz.a45r9) (.cond (.t 49) (.skip) (.exit 2))) (.seq (.block 3 (.seq (Tryz.a45r10) (.cond (.t 73) (Tryz.a45r11) (.skip)))) (Tryz.a45r12))
def Tryz.a45r14 : ACode := .region [⟨(some 94), .mv (.t 5), none⟩,
  ⟨(some 95), .call (.c (.func 85 [] [])) [(.t 94), (.c (.int .i64 3))], none⟩,
  ⟨(some 96), .bin .eql 0 (.t 95) (.c (.int .i64 0)), none⟩]
def Tryz.a45r15 : ACode := .region [⟨(some 97), .mv (.t 5), none⟩,
  ⟨(some 98), .mv (.t 5), none⟩,
  ⟨(some 99), .nilc (.t 98), none⟩,
  ⟨(some 100), .addo 2 (.t 99), none⟩,
  ⟨(some 101), .addo 9 (.t 100), none⟩,
  ⟨(some 102), .load false 1 (.t 101), none⟩,
  ⟨(some 103), .slice 1 (.t 102) none (some (.c (.int .i64 1))), none⟩,
  ⟨(some 104), .nilc (.t 97), none⟩,
  ⟨(some 105), .addo 2 (.t 104), none⟩,
  ⟨(some 106), .addo 9 (.t 105), none⟩,
  ⟨none, .store 1 (.t 106) (.t 103) [], none⟩]
def Tryz.a45r16 : ACode := .region [⟨(some 107), .mv (.t 5), none⟩,
  ⟨(some 108), .nilc (.t 107), none⟩,
  ⟨(some 109), .addo 2 (.t 108), none⟩,
  ⟨(some 110), .load true 10 (.t 109), none⟩,
  ⟨none, .store 10 (.t 4) (.t 110) [], none⟩]
def Tryz.c45 : ACode := .seq (Tryz.a45r0) (.seq (Tryz.a45r1) (.seq (Tryz.a45r2) (.seq (.seq (Tryz.a45r3) (.block 0 (.loop [4, 5, 6, 7] Tryz.a45l7))) (.seq (.seq (Tryz.a45r8) (.block 2 (.loop [4, 5, 8] Tryz.a45l13))) (.seq (.seq (Tryz.a45r14) (.cond (.t 96) (Tryz.a45r15) (.skip))) (.seq (Tryz.a45r16) (.ret)))))))
def Tryz.a45 : AFunc := ⟨111, Tryz.c45, [(4, some (true, 10))], false⟩
theorem Tryz.a45_ok : chkFunc Tryz.prog Tryz.eqs Tryz.f45 Tryz.a45 = true := by kernel_rfl
theorem Tryz.w45 {first caps args : List AVal} {heap : List AObj} {K : AVal → List AObj → Prop} (N : Nat) (h : Ex (cfg Tryz.prog Tryz.eqs N) Tryz.c45 ⟨(first ++ args ++ caps) ++ List.replicate (111 - (first ++ args ++ caps).length) .undef, heap⟩ (kfun (cfg Tryz.prog Tryz.eqs N) [(4, some (true, 10))] false heap.length K)) : Hs Tryz.prog Tryz.eqs (.func 45 first caps) args heap K := Hs.enter Tryz.eqs_plain N (fn := Tryz.f45) (by kernel_rfl) Tryz.a45_ok h
def Tryz.a46r0 : ACode := .region [⟨(some 2), .box (.t 0) [], none⟩,
  ⟨(some 3), .box (.t 1) [], none⟩,
  ⟨(some 4), .mv (.c .nilf), none⟩]
def Tryz.a46r1 : ACode := .region [⟨(some 5), .mkf 87 [] [(.t 2), (.t 3)], none⟩,
  ⟨(some 4), .mv (.t 5), none⟩]
def Tryz.c46 : ACode := .seq (Tryz.a46r0) (.seq (Tryz.a46r1) (.ret))
def Tryz.a46 : AFunc := ⟨6, Tryz.c46, [(4, none)], true⟩
theorem Tryz.a46_ok : chkFunc Tryz.prog Tryz.eqs Tryz.f46 Tryz.a46 = true := by kernel_rfl
theorem Tryz.w46 {first caps args : List AVal} {heap : List AObj} {K : AVal → List AObj → Prop} (N : Nat) (h : Ex (cfg Tryz.prog Tryz.eqs N) Tryz.c46 ⟨(first ++ args ++ caps) ++ List.replicate (6 - (first ++ args ++ caps).length) .undef, heap⟩ (kfun (cfg Tryz.prog Tryz.eqs N) [(4, none)] true heap.length K)) : Hs Tryz.prog Tryz.eqs (.func 46 first caps) args heap K := Hs.enter Tryz.eqs_plain N (fn := Tryz.f46) (by kernel_rfl) Tryz.a46_ok h
def Tryz.a73r0 : ACode := .region [⟨(some 2), .alloc 4 (.agg [(.int .i64 0), (.int .i64 0), (.int .i64 0), .nils]) [], none⟩]
def Tryz.a73r1 : ACode := .region [⟨(some 3), .mv (.t 0), none⟩,
  ⟨(some 4), .build (.agg [(.int .i64 0), (.int .i64 0), (.int .i64 0), .nils]) [((0, 1), (.c (.int .i64 2))), ((1, 1), (.t 3))], none⟩,
  ⟨none, .store 4 (.t 2) (.t 4) [], none⟩]
def Tryz.c73 : ACode := .seq (Tryz.a73r0) (.seq (Tryz.a73r1) (.ret))
def Tryz.a73 : AFunc := ⟨5, Tryz.c73, [(2, some (true, 4))], false⟩
theorem Tryz.a73_ok : chkFunc Tryz.prog Tryz.eqs Tryz.f73 Tryz.a73 = true := by kernel_rfl
theorem Tryz.w73 {first caps args : List AVal} {heap : List AObj} {K : AVal → List AObj → Prop} (N : Nat) (h : Ex (cfg Tryz.prog Tryz.eqs N) Tryz.c73 ⟨(first ++ args ++ caps) ++ List.replicate (5 - (first ++ args ++ caps).length) .undef, heap⟩ (kfun (cfg Tryz.prog Tryz.eqs N) [(2, some (true, 4))] false heap.length K)) : Hs Tryz.prog Tryz.eqs (.func 73 first caps) args heap K := Hs.enter Tryz.eqs_plain N (fn := Tryz.f73) (by kernel_rfl) Tryz.a73_ok h
def Tryz.a85r0 : ACode := .region [⟨(some 4), .mv (.c (.int .i64 0)), none⟩]
def Tryz.a85r1 : ACode := .region [⟨(some 5), .mv (.t 0), none⟩,
  ⟨(some 6), .nilc (.t 5), none⟩,
  ⟨(some 7), .addo 1 (.t 6), none⟩,
  ⟨(some 8), .load false 1 (.t 7), none⟩,
  ⟨(some 9), .bin .add 0 (.t 8) (.c (.int .i64 1)), none⟩,
  ⟨(some 10), .nilc (.t 5), none⟩,
  ⟨(some 11), .addo 1 (.t 10), none⟩,
  ⟨none, .store 1 (.t 11) (.t 9) [], none⟩]
def Tryz.a85r2 : ACode := .draw [⟨0, ⟨(some 12), .mv (.t 0), none⟩, []⟩,
  ⟨1, ⟨(some 13), .nilc (.t 12), none⟩, []⟩,
  ⟨2, ⟨(some 14), .addo 1 (.t 13), none⟩, []⟩,
  ⟨3, ⟨(some 15), .load false 1 (.t 14), none⟩, []⟩,
  ⟨4, ⟨(some 16), .mv (.t 0), none⟩, []⟩,
  ⟨5, ⟨(some 17), .nilc (.t 16), none⟩, []⟩,
  ⟨6, ⟨(some 18), .addo 0 (.t 17), none⟩, []⟩,
  ⟨7, ⟨(some 19), .load false 1 (.t 18), none⟩, []⟩,
  ⟨8, ⟨(some 20), .len 0 (.t 19), none⟩, []⟩,
  ⟨9, ⟨(some 21), .bin .gtr 0 (.t 15) (.t 20), none⟩, []⟩] [[], [0], [0, 1], [0, 1, 2], [], [4], [4, 5], [4, 5, 6], [4, 5, 6, 7], [0, 1, 2, 3, 4, 5, 6, 7, 8]]
def Tryz.a85r3 : ACode := .region [⟨(some 4), .mv (.c (.int .i64 0)), none⟩]
def Tryz.a85r4 : ACode := .draw [⟨0, ⟨(some 22), .mv (.t 0), none⟩, []⟩,
  ⟨1, ⟨(some 23), .nilc (.t 22), none⟩, []⟩,
  ⟨2, ⟨(some 24), .addo 0 (.t 23), none⟩, []⟩,
  ⟨3, ⟨(some 25), .load false 1 (.t 24), none⟩, []⟩,
  ⟨4, ⟨(some 26), .mv (.t 0), none⟩, []⟩,
  ⟨5, ⟨(some 27), .nilc (.t 26), none⟩, []⟩,
  ⟨6, ⟨(some 28), .addo 1 (.t 27), none⟩, []⟩,
  ⟨7, ⟨(some 29), .load false 1 (.t 28), none⟩, []⟩,
  ⟨8, ⟨(some 30), .bin .sub 0 (.t 29) (.c (.int .i64 1)), none⟩, []⟩,
  ⟨9, ⟨(some 31), .idx 1 (.t 25) (.t 30), none⟩, []⟩,
  ⟨10, ⟨(some 32), .load false 1 (.t 31), none⟩, []⟩,
  ⟨11, ⟨(some 33), .conv .i64 (.t 32), none⟩, []⟩,
  ⟨12, ⟨(some 34), .mv (.t 1), none⟩, []⟩,
  ⟨13, ⟨(some 35), .bin .rem 0 (.t 33) (.t 34), none⟩, []⟩,
  ⟨14, ⟨(some 4), .mv (.t 35), none⟩, []⟩] [[], [0], [0, 1], [0, 1, 2], [], [4], [4, 5], [4, 5, 6], [4, 5, 6, 7], [0, 1, 2, 3, 4, 5, 6, 7, 8], [0, 1, 2, 3, 4, 5, 6, 7, 8, 9], [0, 1, 2, 3, 4, 5, 6, 7, 8, 9, 10], [], [0, 1, 2, 3, 4, 5, 6, 7, 8, 9, 10, 11, 12], [0, 1, 2, 3, 4, 5, 6, 7, 8, 9, 10, 11, 12, 13]]
def Tryz.c85 : ACode := .seq (Tryz.a85r0) (.seq (Tryz.a85r1) (.seq (.seq (Tryz.a85r2) (.cond (.t 21) (.seq (Tryz.a85r3) (.ret)) (.skip))) (.seq (Tryz.a85r4) (.ret))))
def Tryz.a85 : AFunc := ⟨36, Tryz.c85, [(4, none)], false⟩
theorem Tryz.a85_ok : chkFunc Tryz.prog Tryz.eqs Tryz.f85 Tryz.a85 = true := by kernel_rfl
theorem Tryz.w85 {first caps args : List AVal} {heap : List AObj} {K : AVal → List AObj → Prop} (N : Nat) (h : Ex (cfg Tryz.prog Tryz.eqs N) Tryz.c85 ⟨(first ++ args ++ caps) ++ List.replicate (36 - (first ++ args ++ caps).length) .undef, heap⟩ (kfun (cfg Tryz.prog Tryz.eqs N) [(4, none)] false heap.length K)) : Hs Tryz.prog Tryz.eqs (.func 85 first caps) args heap K := Hs.enter Tryz.eqs_plain N (fn := Tryz.f85) (by kernel_rfl) Tryz.a85_ok h
def Tryz.a86r0 : ACode := .draw [⟨0, ⟨(some 8), .mv (.t 0), none⟩, []⟩,
  ⟨1, ⟨(some 9), .mv (.t 1), none⟩, []⟩,
  ⟨2, ⟨(some 10), .mv (.t 1), none⟩, []⟩,
  ⟨3, ⟨(some 11), .bin .rem 0 (.t 10) (.c (.int .i64 8)), none⟩, []⟩,
  ⟨4, ⟨(some 12), .mv (.t 1), none⟩, []⟩,
  ⟨5, ⟨(some 13), .bin .rem 0 (.t 12) (.c (.int .i64 8)), none⟩, []⟩,
  ⟨6, ⟨(some 14), .bin .add 0 (.t 13) (.c (.int .i64 1)), none⟩, []⟩,
  ⟨7, ⟨(some 15), .sliceStr (.c (.str (ByteArray.mk #[97, 98, 99, 100, 101, 102, 103, 104]))) (some (.t 11)) (some (.t 14)), none⟩, []⟩,
  ⟨8, ⟨(some 16), .mv (.t 0), none⟩, []⟩,
  ⟨10, ⟨(some 18), .mv (.t 0), none⟩, []⟩,
  ⟨14, ⟨(some 22), .lit 1 [(.c (.int .i64 400)), (.c (.int .i64 60)), (.c (.int .i64 20)), (.c (.int .i64 2000))], none⟩, []⟩,
  ⟨15, ⟨(some 23), .mv (.t 0), none⟩, []⟩,
  ⟨9, ⟨(some 17), .call (.c (.func 85 [] [])) [(.t 16), (.c (.int .i64 2))], none⟩, []⟩,
  ⟨11, ⟨(some 19), .call (.c (.func 85 [] [])) [(.t 18), (.c (.int .i64 6))], none⟩, []⟩,
  ⟨12, ⟨(some 20), .bin .quo 0 (.t 19) (.c (.int .i64 2)), none⟩, []⟩,
  ⟨13, ⟨(some 21), .bin .rem 0 (.t 20) (.c (.int .i64 3)), none⟩, []⟩,
  ⟨16, ⟨(some 24), .call (.c (.func 85 [] [])) [(.t 23), (.c (.int .i64 4))], none⟩, []⟩,
  ⟨17, ⟨(some 25), .idx 1 (.t 22) (.t 24), none⟩, []⟩,
  ⟨18, ⟨(some 26), .load false 1 (.t 25), none⟩, []⟩,
  ⟨19, ⟨(some 27), .build (.agg [(.int .i64 0), (.int .i64 0), (.str (ByteArray.mk #[])), (.int .i64 0), (.int .i64 0), .nils, .nils, (.int .i64 0), (.int .i64 0), .nils, (.int .i64 0), .nils]) [((0, 1), (.t 9)), ((2, 1), (.t 15)), ((3, 1), (.t 17)), ((4, 1), (.t 21)), ((10, 1), (.t 26))], none⟩, []⟩,
  ⟨20, ⟨(some 28), .nilc (.t 8), none⟩, []⟩,
  ⟨21, ⟨(some 29), .addo 12 (.t 28), none⟩, []⟩,
  ⟨22, ⟨none, .store 12 (.t 29) (.t 27) [(5, 3)], none⟩, []⟩] [[], [], [], [2], [], [4], [4, 5], [2, 3, 4, 5, 6], [], [8], [], [8, 9, 10], [8, 9, 10, 11], [8, 9, 10, 11, 12], [], [], [8, 9, 10, 11, 15], [8, 9, 10, 11, 14, 15, 16], [8, 9, 10, 11, 14, 15, 16, 17], [1, 2, 3, 4, 5, 6, 7, 8, 9, 10, 11, 12, 13, 14, 15, 16, 17, 18], [0, 1, 2, 3, 4, 5, 6, 7, 8, 9, 10, 11, 12, 13, 14, 15, 16, 17, 18, 19], [0, 1, 2, 3, 4, 5, 6, 7, 8, 9, 10, 11, 12, 13, 14, 15, 16, 17, 18, 19, 20], [0, 1, 2, 3, 4, 5, 6, 7, 8, 9, 10, 11, 12, 13, 14, 15, 16, 17, 18, 19, 20, 21]]
def Tryz.a86r1 : ACode := .region [⟨(some 30), .mv (.t 0), none⟩,
  ⟨(some 31), .call (.c (.func 85 [] [])) [(.t 30), (.c (.int .i64 2))], none⟩,
  ⟨(some 32), .bin .eql 0 (.t 31) (.c (.int .i64 0)), none⟩]
def Tryz.a86r2 : ACode := .region [⟨(some 33), .mv (.t 0), none⟩,
  ⟨(some 34), .nilc (.t 33), none⟩,
  ⟨(some 35), .addo 12 (.t 34), none⟩,
  ⟨(some 36), .addo 4 (.t 35), none⟩,
  ⟨none, .store 1 (.t 36) (.c (.int .i64 0)) [], none⟩]
def Tryz.a86r3 : ACode := .region [⟨(some 37), .mv (.t 0), none⟩,
  ⟨(some 38), .nilc (.t 37), none⟩,
  ⟨(some 39), .addo 28 (.t 38), none⟩,
  ⟨(some 40), .load false 1 (.t 39), none⟩]
def Tryz.a86r4 : ACode := .region [⟨(some 41), .mv (.t 0), none⟩,
  ⟨(some 42), .nilc (.t 41), none⟩,
  ⟨(some 43), .addo 12 (.t 42), none⟩,
  ⟨(some 44), .addo 10 (.t 43), none⟩,
  ⟨none, .store 1 (.t 44) (.c (.int .i64 20000)) [], none⟩]
def Tryz.a86r5 : ACode := .region [⟨(some 45), .build (.agg [(.int .i64 0), (.int .i64 0), (.int .i64 0)]) [((0, 1), (.c (.int .i64 0))), ((1, 1), (.c (.int .i64 3)))], none⟩,
  ⟨(some 46), .build (.agg [(.int .i64 0), (.int .i64 0), (.int .i64 0)]) [((0, 1), (.c (.int .i64 (-2)))), ((1, 1), (.c (.int .i64 5))), ((2, 1), (.c (.int .i64 1)))], none⟩,
  ⟨(some 47), .build (.agg [(.int .i64 0), (.int .i64 0), (.int .i64 0)]) [((0, 1), (.c (.int .i64 0))), ((1, 1), (.c (.int .i64 9))), ((2, 1), (.c (.int .i64 3)))], none⟩,
  ⟨(some 48), .build (.agg [(.int .i64 0), (.int .i64 0), (.int .i64 0)]) [((0, 1), (.c (.int .i64 2))), ((1, 1), (.c (.int .i64 2)))], none⟩,
  ⟨(some 49), .lit 3 [(.t 45), (.t 46), (.t 47), (.t 48)], none⟩,
  ⟨(some 6), .mv (.t 49), none⟩]
def Tryz.a86r6 : ACode := .region [⟨(some 50), .mv (.t 0), none⟩,
  ⟨(some 51), .call (.c (.func 85 [] [])) [(.t 50), (.c (.int .i64 3))], none⟩,
  ⟨(some 7), .mv (.t 51), none⟩]
def Tryz.a86r7 : ACode := .region [⟨(some 52), .mv (.t 7), none⟩,
  ⟨(some 53), .bin .gtr 0 (.t 52) (.c (.int .i64 0)), none⟩,
  ⟨(some 54), .mv (.t 53), none⟩,
  ⟨(some 55), .mv (.t 2), (some (54, true))⟩,
  ⟨(some 56), .un .not (.t 55), (some (54, true))⟩,
  ⟨(some 57), .pick (.t 54) (.t 56) (.c (.bool false)), none⟩]
def Tryz.a86r8 : ACode := .draw [⟨0, ⟨(some 60), .mv (.t 0), none⟩, []⟩,
  ⟨1, ⟨(some 61), .mv (.t 0), none⟩, []⟩,
  ⟨2, ⟨(some 62), .nilc (.t 61), none⟩, []⟩,
  ⟨3, ⟨(some 63), .addo 12 (.t 62), none⟩, []⟩,
  ⟨4, ⟨(some 64), .addo 5 (.t 63), none⟩, []⟩,
  ⟨5, ⟨(some 65), .load false 1 (.t 64), none⟩, []⟩,
  ⟨6, ⟨(some 66), .mv (.t 6), none⟩, []⟩,
  ⟨7, ⟨(some 67), .mv (.t 0), none⟩, []⟩,
  ⟨8, ⟨(some 68), .call (.c (.func 85 [] [])) [(.t 67), (.c (.int .i64 4))], none⟩, [5]⟩,
  ⟨9, ⟨(some 69), .idx 3 (.t 66) (.t 68), none⟩, []⟩,
  ⟨10, ⟨(some 70), .load true 3 (.t 69), none⟩, []⟩,
  ⟨11, ⟨(some 71), .lit 3 [(.t 70)], none⟩, []⟩,
  ⟨12, ⟨(some 72), .append false 3 (.t 65) (.t 71), none⟩, []⟩,
  ⟨13, ⟨(some 73), .nilc (.t 60), none⟩, []⟩,
  ⟨14, ⟨(some 74), .addo 12 (.t 73), none⟩, []⟩,
  ⟨15, ⟨(some 75), .addo 5 (.t 74), none⟩, []⟩,
  ⟨16, ⟨none, .store 1 (.t 75) (.t 72) [], none⟩, []⟩] [[], [], [1], [1, 2], [1, 2, 3], [1, 2, 3, 4], [], [], [7], [6, 7, 8], [6, 7, 8, 9], [6, 7, 8, 9, 10], [1, 2, 3, 4, 5, 6, 7, 8, 9, 10, 11], [0, 1, 2, 3, 4, 5, 6, 7, 8, 9, 10, 11, 12], [0, 1, 2, 3, 4, 5, 6, 7, 8, 9, 10, 11, 12, 13], [0, 1, 2, 3, 4, 5, 6, 7, 8, 9, 10, 11, 12, 13, 14], [0, 1, 2, 3, 4, 5, 6, 7, 8, 9, 10, 11, 12, 13, 14, 15]]
def Tryz.a86r9 : ACode := .region [⟨(some 58), .mv (.t 7), none⟩,
  ⟨(some 59), .bin .sub 0 (.t 58) (.c (.int .i64 1)), none⟩,
  ⟨(some 7), .mv (.t 59), none⟩]
def Tryz.a86l10 : ACode := .seq (.seq (Tryz.a86r7) (.cond (.t 57) (.skip) (.exit 0))) (.seq (.block 1 (Tryz.a86r8)) (Tryz.a86r9))
def Tryz.a86r11 : ACode := .region [⟨(some 76), .mv (.t 0), none⟩,
  ⟨(some 77), .call (.c (.func 85 [] [])) [(.t 76), (.c (.int .i64 4))], none⟩,
  ⟨(some 78), .bin .eql 0 (.t 77) (.c (.int .i64 0)), none⟩,
  ⟨(some 79), .mv (.t 78), none⟩,
  ⟨(some 80), .mv (.t 2), (some (79, true))⟩,
  ⟨(some 81), .un .not (.t 80), (some (79, true))⟩,
  ⟨(some 82), .pick (.t 79) (.t 81) (.c (.bool false)), none⟩]
def Tryz.a86r12 : ACode := .region [⟨(some 83), .mv (.t 0), none⟩,
  ⟨(some 84), .build (.agg [(.int .i64 0), (.int .i64 0), (.int .i64 0)]) [((0, 1), (.c (.int .i64 (-10)))), ((1, 1), (.c (.int .i64 10))), ((2, 1), (.c (.int .i64 1)))], none⟩,
  ⟨(some 85), .lit 3 [(.t 84)], none⟩,
  ⟨(some 86), .nilc (.t 83), none⟩,
  ⟨(some 87), .addo 12 (.t 86), none⟩,
  ⟨(some 88), .addo 6 (.t 87), none⟩,
  ⟨none, .store 1 (.t 88) (.t 85) [], none⟩]
def Tryz.a86r13 : ACode := .draw [⟨0, ⟨(some 89), .mv (.t 0), none⟩, []⟩,
  ⟨1, ⟨(some 90), .mv (.t 0), none⟩, []⟩,
  ⟨2, ⟨(some 91), .nilc (.t 90), none⟩, []⟩,
  ⟨3, ⟨(some 92), .addo 12 (.t 91), none⟩, []⟩,
  ⟨4, ⟨(some 93), .addo 5 (.t 92), none⟩, []⟩,
  ⟨5, ⟨(some 94), .load false 1 (.t 93), none⟩, []⟩,
  ⟨6, ⟨(some 95), .len 0 (.t 94), none⟩, []⟩,
  ⟨7, ⟨(some 96), .bin .add 0 (.t 95) (.c (.int .i64 2)), none⟩, []⟩,
  ⟨8, ⟨(some 97), .mv (.t 0), none⟩, []⟩,
  ⟨9, ⟨(some 98), .call (.c (.func 85 [] [])) [(.t 97), (.c (.int .i64 2))], none⟩, [5, 6]⟩,
  ⟨10, ⟨(some 99), .bin .add 0 (.t 96) (.t 98), none⟩, []⟩,
  ⟨11, ⟨(some 100), .nilc (.t 89), none⟩, []⟩,
  ⟨12, ⟨(some 101), .addo 12 (.t 100), none⟩, []⟩,
  ⟨13, ⟨(some 102), .addo 7 (.t 101), none⟩, []⟩,
  ⟨14, ⟨none, .store 1 (.t 102) (.t 99) [], none⟩, []⟩] [[], [], [1], [1, 2], [1, 2, 3], [1, 2, 3, 4], [1, 2, 3, 4, 5], [1, 2, 3, 4, 5, 6], [], [8], [1, 2, 3, 4, 5, 6, 7, 8, 9], [0, 1, 2, 3, 4, 5, 6, 7, 8, 9, 10], [0, 1, 2, 3, 4, 5, 6, 7, 8, 9, 10, 11], [0, 1, 2, 3, 4, 5, 6, 7, 8, 9, 10, 11, 12], [0, 1, 2, 3, 4, 5, 6, 7, 8, 9, 10, 11, 12, 13]]
def Tryz.a86r14 : ACode := .region [⟨(some 103), .mv (.t 0), none⟩,
  ⟨(some 104), .nilc (.t 103), none⟩,
  ⟨(some 105), .addo 12 (.t 104), none⟩,
  ⟨(some 106), .addo 8 (.t 105), none⟩,
  ⟨none, .store 1 (.t 106) (.c (.int .i64 2)) [], none⟩]
def Tryz.a86r15 : ACode := .region [⟨(some 107), .mv (.t 0), none⟩,
  ⟨(some 108), .build (.agg [(.int .i64 0), (.int .i64 0)]) [((0, 1), (.c (.int .i64 4)))], none⟩,
  ⟨(some 109), .litTok 2 [(.t 108)], none⟩,
  ⟨(some 110), .nilc (.t 107), none⟩,
  ⟨(some 111), .addo 12 (.t 110), none⟩,
  ⟨(some 112), .addo 9 (.t 111), none⟩,
  ⟨none, .store 1 (.t 112) (.t 109) [], none⟩]
def Tryz.a86r16 : ACode := .region [⟨(some 113), .mv (.t 0), none⟩,
  ⟨(some 114), .nilc (.t 113), none⟩,
  ⟨(some 115), .addo 12 (.t 114), none⟩,
  ⟨(some 116), .addo 5 (.t 115), none⟩,
  ⟨(some 117), .load false 1 (.t 116), none⟩,
  ⟨(some 118), .len 0 (.t 117), none⟩,
  ⟨(some 119), .bin .gtr 0 (.t 118) (.c (.int .i64 0)), none⟩,
  ⟨(some 120), .mv (.t 119), none⟩,
  ⟨(some 121), .mv (.t 0), (some (120, true))⟩,
  ⟨(some 122), .call (.c (.func 85 [] [])) [(.t 121), (.c (.int .i64 2))], (some (120, true))⟩,
  ⟨(some 123), .bin .eql 0 (.t 122) (.c (.int .i64 0)), (some (120, true))⟩,
  ⟨(some 124), .pick (.t 120) (.t 123) (.c (.bool false)), none⟩]
def Tryz.a86r17 : ACode := .region [⟨(some 125), .mv (.t 0), none⟩,
  ⟨(some 126), .mv (.t 0), none⟩,
  ⟨(some 127), .nilc (.t 126), none⟩,
  ⟨(some 128), .addo 12 (.t 127), none⟩,
  ⟨(some 129), .addo 9 (.t 128), none⟩,
  ⟨(some 130), .load false 1 (.t 129), none⟩,
  ⟨(some 131), .build (.agg [(.int .i64 0), (.int .i64 0)]) [((0, 1), (.c (.int .i64 8))), ((1, 1), (.c (.int .i64 1)))], none⟩,
  ⟨(some 132), .lit 2 [(.t 131)], none⟩,
  ⟨(some 133), .append false 2 (.t 130) (.t 132), none⟩,
  ⟨(some 134), .nilc (.t 125), none⟩,
  ⟨(some 135), .addo 12 (.t 134), none⟩,
  ⟨(some 136), .addo 9 (.t 135), none⟩,
  ⟨none, .store 1 (.t 136) (.t 133) [], none⟩]
def Tryz.a86r18 : ACode := .region [⟨(some 137), .mv (.t 0), none⟩,
  ⟨(some 138), .nilc (.t 137), none⟩,
  ⟨(some 139), .addo 25 (.t 138), none⟩,
  ⟨none, .store 1 (.t 139) (.c (.int .i64 9)) [], none⟩]
def Tryz.a86r19 : ACode := .region [⟨(some 140), .mv (.t 0), none⟩,
  ⟨(some 141), .nilc (.t 140), none⟩,
  ⟨(some 142), .addo 27 (.t 141), none⟩,
  ⟨none, .store 1 (.t 142) (.c (.int .i64 0)) [], none⟩]
def Tryz.a86r20 : ACode := .region [⟨(some 143), .mv (.t 0), none⟩,
  ⟨(some 144), .mv (.t 0), none⟩,
  ⟨(some 145), .mv (.t 0), none⟩,
  ⟨(some 146), .call (.c (.func 85 [] [])) [(.t 145), (.c (.int .i64 5))], none⟩,
  ⟨(some 147), .bin .add 0 (.c (.int .i64 1)) (.t 146), none⟩,
  ⟨(some 148), .call (.c (.func 129 [] [])) [(.t 144), (.t 147), (.c (.int .i64 2))], none⟩,
  ⟨(some 149), .nilc (.t 143), none⟩,
  ⟨(some 150), .addo 12 (.t 149), none⟩,
  ⟨(some 151), .addo 11 (.t 150), none⟩,
  ⟨none, .store 1 (.t 151) (.t 148) [], none⟩]
def Tryz.a86r21 : ACode := .region [⟨(some 152), .mv (.t 0), none⟩,
  ⟨(some 153), .nilc (.t 152), none⟩,
  ⟨(some 154), .addo 28 (.t 153), none⟩,
  ⟨(some 155), .load false 1 (.t 154), none⟩,
  ⟨(some 156), .mv (.t 155), none⟩,
  ⟨(some 157), .mv (.t 0), (some (156, true))⟩,
  ⟨(some 158), .nilc (.t 157), (some (156, true))⟩,
  ⟨(some 159), .addo 12 (.t 158), (some (156, true))⟩,
  ⟨(some 160), .addo 6 (.t 159), (some (156, true))⟩,
  ⟨(some 161), .load false 1 (.t 160), (some (156, true))⟩,
  ⟨(some 162), .len 0 (.t 161), (some (156, true))⟩,
  ⟨(some 163), .bin .gtr 0 (.t 162) (.c (.int .i64 0)), (some (156, true))⟩,
  ⟨(some 164), .pick (.t 156) (.t 163) (.c (.bool false)), none⟩]
def Tryz.a86r22 : ACode := .draw [⟨0, ⟨(some 165), .mv (.t 0), none⟩, []⟩,
  ⟨1, ⟨(some 166), .mv (.t 0), none⟩, []⟩,
  ⟨5, ⟨(some 170), .mv (.t 0), none⟩, []⟩,
  ⟨6, ⟨(some 171), .nilc (.t 170), none⟩, []⟩,
  ⟨7, ⟨(some 172), .addo 12 (.t 171), none⟩, []⟩,
  ⟨8, ⟨(some 173), .addo 11 (.t 172), none⟩, []⟩,
  ⟨9, ⟨(some 174), .load false 1 (.t 173), none⟩, []⟩,
  ⟨2, ⟨(some 167), .call (.c (.func 130 [] [])) [(.t 166)], none⟩, [9]⟩,
  ⟨3, ⟨(some 168), .build (.agg [(.int .i64 0), (.int .i64 0), (.int .i64 0), (.int .i64 0), (.int .i64 0), (.int .i64 0), (.int .i64 0), (.int .i64 0), .nils, (.int .i64 0), (.int .i64 0), (.int .i64 0), .nils, (.int .i64 0), .nils, .nils, .nils, .nils, .nils, .nils]) [((0, 1), (.t 167)), ((1, 1), (.c (.int .i64 7))), ((2, 1), (.c (.int .i64 0)))], none⟩, []⟩,
  ⟨4, ⟨(some 169), .lit 20 [(.t 168)], none⟩, []⟩,
  ⟨10, ⟨(some 175), .append false 20 (.t 169) (.t 174), none⟩, []⟩,
  ⟨11, ⟨(some 176), .nilc (.t 165), none⟩, []⟩,
  ⟨12, ⟨(some 177), .addo 12 (.t 176), none⟩, []⟩,
  ⟨13, ⟨(some 178), .addo 11 (.t 177), none⟩, []⟩,
  ⟨14, ⟨none, .store 1 (.t 178) (.t 175) [], none⟩, []⟩] [[], [], [1], [1, 2], [1, 2, 3], [], [5], [5, 6], [5, 6, 7], [5, 6, 7, 8], [1, 2, 3, 4, 5, 6, 7, 8, 9], [0, 1, 2, 3, 4, 5, 6, 7, 8, 9, 10], [0, 1, 2, 3, 4, 5, 6, 7, 8, 9, 10, 11], [0, 1, 2, 3, 4, 5, 6, 7, 8, 9, 10, 11, 12], [0, 1, 2, 3, 4, 5, 6, 7, 8, 9, 10, 11, 12, 13]]
def Tryz.a86r23 : ACode := .region [⟨(some 179), .mv (.t 0), none⟩,
  ⟨(some 180), .mv (.t 0), none⟩,
  ⟨(some 181), .call (.c (.func 130 [] [])) [(.t 180)], none⟩,
  ⟨(some 182), .nilc (.t 179), none⟩,
  ⟨(some 183), .addo 12 (.t 182), none⟩,
  ⟨(some 184), .addo 1 (.t 183), none⟩,
  ⟨none, .store 1 (.t 184) (.t 181) [], none⟩]
def Tryz.a86r24 : ACode := .draw [⟨0, ⟨(some 185), .mv (.t 0), none⟩, []⟩,
  ⟨1, ⟨(some 186), .mv (.t 0), none⟩, []⟩,
  ⟨2, ⟨(some 187), .nilc (.t 186), none⟩, []⟩,
  ⟨3, ⟨(some 188), .addo 2 (.t 187), none⟩, []⟩,
  ⟨4, ⟨(some 189), .addo 8 (.t 188), none⟩, []⟩,
  ⟨5, ⟨(some 190), .load false 1 (.t 189), none⟩, []⟩,
  ⟨6, ⟨(some 191), .mv (.t 0), none⟩, []⟩,
  ⟨7, ⟨(some 192), .nilc (.t 191), none⟩, []⟩,
  ⟨8, ⟨(some 193), .addo 12 (.t 192), none⟩, []⟩,
  ⟨9, ⟨(some 194), .load true 12 (.t 193), none⟩, []⟩,
  ⟨10, ⟨(some 195), .lit 12 [(.t 194)], none⟩, []⟩,
  ⟨11, ⟨(some 196), .append false 12 (.t 190) (.t 195), none⟩, []⟩,
  ⟨12, ⟨(some 197), .nilc (.t 185), none⟩, []⟩,
  ⟨13, ⟨(some 198), .addo 2 (.t 197), none⟩, []⟩,
  ⟨14, ⟨(some 199), .addo 8 (.t 198), none⟩, []⟩,
  ⟨15, ⟨none, .store 1 (.t 199) (.t 196) [], none⟩, []⟩] [[], [], [1], [1, 2], [1, 2, 3], [1, 2, 3, 4], [], [6], [6, 7], [6, 7, 8], [6, 7, 8, 9], [1, 2, 3, 4, 5, 6, 7, 8, 9, 10], [0, 1, 2, 3, 4, 5, 6, 7, 8, 9, 10, 11], [0, 1, 2, 3, 4, 5, 6, 7, 8, 9, 10, 11, 12], [0, 1, 2, 3, 4, 5, 6, 7, 8, 9, 10, 11, 12, 13], [0, 1, 2, 3, 4, 5, 6, 7, 8, 9, 10, 11, 12, 13, 14]]
def Tryz.a86r25 : ACode := .draw [⟨0, ⟨(some 200), .mv (.t 0), none⟩, []⟩,
  ⟨1, ⟨(some 201), .mv (.t 0), none⟩, []⟩,
  ⟨2, ⟨(some 202), .nilc (.t 201), none⟩, []⟩,
  ⟨3, ⟨(some 203), .addo 2 (.t 202), none⟩, []⟩,
  ⟨4, ⟨(some 204), .addo 7 (.t 203), none⟩, []⟩,
  ⟨5, ⟨(some 205), .load false 1 (.t 204), none⟩, []⟩,
  ⟨6, ⟨(some 206), .mv (.t 0), none⟩, []⟩,
  ⟨7, ⟨(some 207), .nilc (.t 206), none⟩, []⟩,
  ⟨8, ⟨(some 208), .addo 12 (.t 207), none⟩, []⟩,
  ⟨9, ⟨(some 209), .load true 12 (.t 208), none⟩, []⟩,
  ⟨10, ⟨(some 210), .call (.c (.func 42 [] [])) [(.t 209)], none⟩, [5]⟩,
  ⟨11, ⟨(some 211), .lit 5 [(.t 210)], none⟩, []⟩,
  ⟨12, ⟨(some 212), .append false 5 (.t 205) (.t 211), none⟩, []⟩,
  ⟨13, ⟨(some 213), .nilc (.t 200), none⟩, []⟩,
  ⟨14, ⟨(some 214), .addo 2 (.t 213), none⟩, []⟩,
  ⟨15, ⟨(some 215), .addo 7 (.t 214), none⟩, []⟩,
  ⟨16, ⟨none, .store 1 (.t 215) (.t 212) [], none⟩, []⟩] [[], [], [1], [1, 2], [1, 2, 3], [1, 2, 3, 4], [], [6], [6, 7], [6, 7, 8], [6, 7, 8, 9], [6, 7, 8, 9, 10], [1, 2, 3, 4, 5, 6, 7, 8, 9, 10, 11], [0, 1, 2, 3, 4, 5, 6, 7, 8, 9, 10, 11, 12], [0, 1, 2, 3, 4, 5, 6, 7, 8, 9, 10, 11, 12, 13], [0, 1, 2, 3, 4, 5, 6, 7, 8, 9, 10, 11, 12, 13, 14], [0, 1, 2, 3, 4, 5, 6, 7, 8, 9, 10, 11, 12, 13, 14, 15]]
def Tryz.c86 : ACode := .seq (Tryz.a86r0) (.seq (.seq (Tryz.a86r1) (.cond (.t 32) (Tryz.a86r2) (.skip))) (.seq (.seq (Tryz.a86r3) (.cond (.t 40) (Tryz.a86r4) (.skip))) (.seq (Tryz.a86r5) (.seq (.seq (Tryz.a86r6) (.block 0 (.loop [0, 2, 6, 7] Tryz.a86l10))) (.seq (.seq (Tryz.a86r11) (.cond (.t 82) (Tryz.a86r12) (.skip))) (.seq (Tryz.a86r13) (.seq (Tryz.a86r14) (.seq (Tryz.a86r15) (.seq (.seq (Tryz.a86r16) (.cond (.t 124) (Tryz.a86r17) (.skip))) (.seq (Tryz.a86r18) (.seq (Tryz.a86r19) (.seq (Tryz.a86r20) (.seq (.seq (Tryz.a86r21) (.cond (.t 164) (Tryz.a86r22) (.skip))) (.seq (Tryz.a86r23) (.seq (Tryz.a86r24) (Tryz.a86r25))))))))))))))))
def Tryz.a86 : AFunc := ⟨216, Tryz.c86, [], false⟩
theorem Tryz.a86_ok : chkFunc Tryz.prog Tryz.eqs Tryz.f86 Tryz.a86 = true := by kernel_rfl
theorem Tryz.w86 {first caps args : List AVal} {heap : List AObj} {K : AVal → List AObj → Prop} (N : Nat) (h : Ex (cfg Tryz.prog Tryz.eqs N) Tryz.c86 ⟨(first ++ args ++ caps) ++ List.replicate (216 - (first ++ args ++ caps).length) .undef, heap⟩ (kfun (cfg Tryz.prog Tryz.eqs N) [] false heap.length K)) : Hs Tryz.prog Tryz.eqs (.func 86 first caps) args heap K := Hs.enter Tryz.eqs_plain N (fn := Tryz.f86) (by kernel_rfl) Tryz.a86_ok h
def Tryz.a87r0 : ACode := .region [⟨(some 4), .load false 1 (.t 1), none⟩,
  ⟨(some 5), .load false 1 (.t 2), none⟩,
  ⟨(some 6), .mv (.t 0), none⟩,
  ⟨(some 7), .call (.c (.func 88 [] [])) [(.t 4), (.t 5), (.t 6)], none⟩]
def Tryz.c87 : ACode := Tryz.a87r0
def Tryz.a87 : AFunc := ⟨8, Tryz.c87, [], false⟩
theorem Tryz.a87_ok : chkFunc Tryz.prog Tryz.eqs Tryz.f87 Tryz.a87 = true := by kernel_rfl
theorem Tryz.w87 {first caps args : List AVal} {heap : List AObj} {K : AVal → List AObj → Prop} (N : Nat) (h : Ex (cfg Tryz.prog Tryz.eqs N) Tryz.c87 ⟨(first ++ args ++ caps) ++ List.replicate (8 - (first ++ args ++ caps).length) .undef, heap⟩ (kfun (cfg Tryz.prog Tryz.eqs N) [] false heap.length K)) : Hs Tryz.prog Tryz.eqs (.func 87 first caps) args heap K := Hs.enter Tryz.eqs_plain N (fn := Tryz.f87) (by kernel_rfl) Tryz.a87_ok h
def Tryz.a88r0 : ACode := .region [⟨(some 6), .mv (.c (.bool false)), none⟩]
def Tryz.a88r1 : ACode := .region [⟨(some 9), .mv (.t 0), none⟩,
  ⟨(some 10), .len 0 (.t 9), none⟩,
  ⟨(some 11), .mv (.c (.int .i64 0)), none⟩]
def Tryz.a88r2 : ACode := .region [⟨(some 12), .bin .lss 0 (.t 11) (.t 10), none⟩]
def Tryz.a88r3 : ACode := .region [⟨(some 13), .idx 20 (.t 9) (.t 11), none⟩,
  ⟨(some 14), .load true 20 (.t 13), none⟩,
  ⟨(some 8), .alloc 20 (.agg [(.int .i64 0), (.int .i64 0), (.int .i64 0), (.int .i64 0), (.int .i64 0), (.int .i64 0), (.int .i64 0), (.int .i64 0), .nils, (.int .i64 0), (.int .i64 0), (.int .i64 0), .nils, (.int .i64 0), .nils, .nils, .nils, .nils, .nils, .nils]) [], none⟩,
  ⟨none, .store 20 (.t 8) (.t 14) [], none⟩]
def Tryz.a88r4 : ACode := .region [⟨(some 15), .mv (.t 2), none⟩,
  ⟨(some 16), .load true 20 (.t 8), none⟩,
  ⟨(some 17), .mv (.t 1), none⟩,
  ⟨(some 18), .build (.agg [(.int .i64 0), (.int .i64 0), (.int .i64 0), (.int .i64 0), (.int .i64 0), (.int .i64 0), (.int .i64 0), (.int .i64 0), .nils, (.int .i64 0), (.int .i64 0), (.int .i64 0), .nils, (.int .i64 0), .nils, .nils, .nils, .nils, .nils, .nils, (.int .i64 0)]) [((0, 20), (.t 16)), ((20, 1), (.t 17))], none⟩,
  ⟨(some 19), .call (.t 15) [(.t 18)], none⟩,
  ⟨(some 20), .un .not (.t 19), none⟩,
  ⟨(some 21), .mv (.t 20), none⟩,
  ⟨(some 22), .addo 18 (.t 8), (some (21, false))⟩,
  ⟨(some 23), .load false 1 (.t 22), (some (21, false))⟩,
  ⟨(some 24), .mv (.t 1), (some (21, false))⟩,
  ⟨(some 25), .bin .add 0 (.t 24) (.c (.int .i64 1)), (some (21, false))⟩,
  ⟨(some 26), .mv (.t 2), (some (21, false))⟩,
  ⟨(some 27), .call (.c (.func 88 [] [])) [(.t 23), (.t 25), (.t 26)], (some (21, false))⟩,
  ⟨(some 28), .un .not (.t 27), (some (21, false))⟩,
  ⟨(some 29), .pick (.t 21) (.c (.bool true)) (.t 28), none⟩,
  ⟨(some 30), .mv (.t 29), none⟩,
  ⟨(some 31), .addo 19 (.t 8), (some (30, false))⟩,
  ⟨(some 32), .load false 1 (.t 31), (some (30, false))⟩,
  ⟨(some 33), .mv (.t 1), (some (30, false))⟩,
  ⟨(some 34), .bin .add 0 (.t 33) (.c (.int .i64 1)), (some (30, false))⟩,
  ⟨(some 35), .mv (.t 2), (some (30, false))⟩,
  ⟨(some 36), .call (.c (.func 88 [] [])) [(.t 32), (.t 34), (.t 35)], (some (30, false))⟩,
  ⟨(some 37), .un .not (.t 36), (some (30, false))⟩,
  ⟨(some 38), .pick (.t 30) (.c (.bool true)) (.t 37), none⟩]
def Tryz.a88r5 : ACode := .region [⟨(some 6), .mv (.c (.bool false)), none⟩]
def Tryz.a88r6 : ACode := .region [⟨(some 39), .bin .add 0 (.t 11) (.c (.int .i64 1)), none⟩,
  ⟨(some 11), .mv (.t 39), none⟩]
def Tryz.a88l7 : ACode := .seq (Tryz.a88r2) (.seq (.cond (.t 12) (.skip) (.exit 0)) (.seq (.block 1 (.seq (Tryz.a88r3) (.seq (Tryz.a88r4) (.cond (.t 38) (.seq (Tryz.a88r5) (.ret)) (.skip))))) (Tryz.a88r6)))
def Tryz.a88r8 : ACode := .region [⟨(some 6), .mv (.c (.bool true)), none⟩]
def Tryz.c88 : ACode := .seq (Tryz.a88r0) (.seq (.seq (Tryz.a88r1) (.block 0 (.loop [1, 2, 9, 10, 11] Tryz.a88l7))) (.seq (Tryz.a88r8) (.ret)))
def Tryz.a88 : AFunc := ⟨40, Tryz.c88, [(6, none)], false⟩
theorem Tryz.a88_ok : chkFunc Tryz.prog Tryz.eqs Tryz.f88 Tryz.a88 = true := by kernel_rfl
theorem Tryz.w88 {first caps args : List AVal} {heap : List AObj} {K : AVal → List AObj → Prop} (N : Nat) (h : Ex (cfg Tryz.prog Tryz.eqs N) Tryz.c88 ⟨(first ++ args ++ caps) ++ List.replicate (40 - (first ++ args ++ caps).length) .undef, heap⟩ (kfun (cfg Tryz.prog Tryz.eqs N) [(6, none)] false heap.length K)) : Hs Tryz.prog Tryz.eqs (.func 88 first caps) args heap K := Hs.enter Tryz.eqs_plain N (fn := Tryz.f88) (by kernel_rfl) Tryz.a88_ok h
def Tryz.a129r0 : ACode := .region [⟨(some 6), .mv (.c .nils), none⟩]
def Tryz.a129r1 : ACode := .region [⟨(some 12), .lit 20 [], none⟩,
  ⟨(some 7), .tokz 20 (.t 12), none⟩]
def Tryz.a129r2 : ACode := .region [⟨(some 8), .mv (.c (.int .i64 0)), none⟩]
def Tryz.a129r3 : ACode := .region [⟨(some 13), .mv (.t 8), none⟩,
  ⟨(some 14), .mv (.t 1), none⟩,
  ⟨(some 15), .bin .lss 0 (.t 13) (.t 14), none⟩,
  ⟨(some 16), .mv (.t 15), none⟩,
  ⟨(some 17), .mv (.t 0), (some (16, true))⟩,
  ⟨(some 18), .nilc (.t 17), (some (16, true))⟩,
  ⟨(some 19), .addo 25 (.t 18), (some (16, true))⟩,
  ⟨(some 20), .load false 1 (.t 19), (some (16, true))⟩,
  ⟨(some 21), .bin .gtr 0 (.t 20) (.c (.int .i64 0)), (some (16, true))⟩,
  ⟨(some 22), .pick (.t 16) (.t 21) (.c (.bool false)), none⟩]
def Tryz.a129r4 : ACode := .region [⟨(some 25), .mv (.t 0), none⟩,
  ⟨(some 26), .nilc (.t 25), none⟩,
  ⟨(some 27), .addo 25 (.t 26), none⟩,
  ⟨(some 28), .load false 1 (.t 27), none⟩,
  ⟨(some 29), .bin .sub 0 (.t 28) (.c (.int .i64 1)), none⟩,
  ⟨(some 30), .nilc (.t 25), none⟩,
  ⟨(some 31), .addo 25 (.t 30), none⟩,
  ⟨none, .store 1 (.t 31) (.t 29) [], none⟩]
def Tryz.a129r5 : ACode := .region [⟨(some 32), .mv (.t 0), none⟩,
  ⟨(some 33), .call (.c (.func 85 [] [])) [(.t 32), (.c (.int .i64 16))], none⟩,
  ⟨(some 9), .mv (.t 33), none⟩]
def Tryz.a129r6 : ACode := .region [⟨(some 35), .mv (.t 0), none⟩,
  ⟨(some 36), .mv (.t 9), none⟩,
  ⟨(some 37), .mv (.t 2), none⟩,
  ⟨(some 38), .call (.c (.func 168 [] [])) [(.t 35), (.t 36), (.t 37)], none⟩,
  ⟨(some 34), .mv (.t 38), none⟩,
  ⟨(some 39), .ext 0 (.t 34), none⟩,
  ⟨(some 40), .ext 1 (.t 34), none⟩,
  ⟨(some 10), .alloc 20 (.agg [(.int .i64 0), (.int .i64 0), (.int .i64 0), (.int .i64 0), (.int .i64 0), (.int .i64 0), (.int .i64 0), (.int .i64 0), .nils, (.int .i64 0), (.int .i64 0), (.int .i64 0), .nils, (.int .i64 0), .nils, .nils, .nils, .nils, .nils, .nils]) [], none⟩,
  ⟨none, .store 20 (.t 10) (.t 39) [], none⟩,
  ⟨(some 11), .mv (.t 40), none⟩]
def Tryz.a129r7 : ACode := .region [⟨(some 41), .mv (.t 11), none⟩]
def Tryz.a129r8 : ACode := .region [⟨(some 42), .mv (.t 7), none⟩,
  ⟨(some 43), .load true 20 (.t 10), none⟩,
  ⟨(some 44), .lit 20 [(.t 43)], none⟩,
  ⟨(some 45), .append false 20 (.t 42) (.t 44), none⟩,
  ⟨(some 7), .mv (.t 45), none⟩]
def Tryz.a129r9 : ACode := .region [⟨(some 46), .mv (.t 7), none⟩,
  ⟨(some 47), .mv (.t 0), none⟩,
  ⟨(some 48), .mv (.t 9), none⟩,
  ⟨(some 49), .mv (.t 2), none⟩,
  ⟨(some 50), .call (.c (.func 169 [] [])) [(.t 47), (.t 48), (.t 49)], none⟩,
  ⟨(some 51), .append false 20 (.t 46) (.t 50), none⟩,
  ⟨(some 7), .mv (.t 51), none⟩]
def Tryz.a129r10 : ACode := .region [⟨(some 23), .mv (.t 8), none⟩,
  ⟨(some 24), .bin .add 0 (.t 23) (.c (.int .i64 1)), none⟩,
  ⟨(some 8), .mv (.t 24), none⟩]
def Tryz.a129l11 : ACode := .seq (.seq (Tryz.a129r3) (.cond (.t 22) (.skip) (.exit 0))) (.seq (.block 1 (.seq (Tryz.a129r4) (.seq (Tryz.a129r5) (.seq (Tryz.a129r6) (.seq (Tryz.a129r7) (.cond (.t 41) (Tryz.a129r8) (Tryz.a129r9))))))) (Tryz.a129r10))
def Tryz.a129r12 : ACode := .region [⟨(some 52), .mv (.t 7), none⟩,
  ⟨(some 6), .mv (.t 52), none⟩]
def Tryz.c129 : ACode := .seq (Tryz.a129r0) (.seq (Tryz.a129r1) (.seq (.seq (Tryz.a129r2) (.block 0 (.loop [0, 1, 2, 7, 8] Tryz.a129l11))) (.seq (Tryz.a129r12) (.ret))))
def Tryz.a129 : AFunc := ⟨53, Tryz.c129, [(6, none)], false⟩
theorem Tryz.a129_ok : chkFunc Tryz.prog Tryz.eqs Tryz.f129 Tryz.a129 = true := by kernel_rfl
theorem Tryz.w129 {first caps args : List AVal} {heap : List AObj} {K : AVal → List AObj → Prop} (N : Nat) (h : Ex (cfg Tryz.prog Tryz.eqs N) Tryz.c129 ⟨(first ++ args ++ caps) ++ List.replicate (53 - (first ++ args ++ caps).length) .undef, heap⟩ (kfun (cfg Tryz.prog Tryz.eqs N) [(6, none)] false heap.length K)) : Hs Tryz.prog Tryz.eqs (.func 129 first caps) args heap K := Hs.enter Tryz.eqs_plain N (fn := Tryz.f129) (by kernel_rfl) Tryz.a129_ok h
def Tryz.a130r0 : ACode := .region [⟨(some 2), .mv (.c (.int .i64 0)), none⟩]
def Tryz.a130r1 : ACode := .region [⟨(some 3), .mv (.t 0), none⟩,
  ⟨(some 4), .nilc (.t 3), none⟩,
  ⟨(some 5), .addo 24 (.t 4), none⟩,
  ⟨(some 6), .load false 1 (.t 5), none⟩,
  ⟨(some 7), .bin .add 0 (.t 6) (.c (.int .i64 1)), none⟩,
  ⟨(some 8), .nilc (.t 3), none⟩,
  ⟨(some 9), .addo 24 (.t 8), none⟩,
  ⟨none, .store 1 (.t 9) (.t 7) [], none⟩]
def Tryz.a130r2 : ACode := .region [⟨(some 10), .mv (.t 0), none⟩,
  ⟨(some 11), .nilc (.t 10), none⟩,
  ⟨(some 12), .addo 24 (.t 11), none⟩,
  ⟨(some 13), .load false 1 (.t 12), none⟩,
  ⟨(some 2), .mv (.t 13), none⟩]
def Tryz.c130 : ACode := .seq (Tryz.a130r0) (.seq (Tryz.a130r1) (.seq (Tryz.a130r2) (.ret)))
def Tryz.a130 : AFunc := ⟨14, Tryz.c130, [(2, none)], false⟩
theorem Tryz.a130_ok : chkFunc Tryz.prog Tryz.eqs Tryz.f130 Tryz.a130 = true := by kernel_rfl
theorem Tryz.w130 {first caps args : List AVal} {heap : List AObj} {K : AVal → List AObj → Prop} (N : Nat) (h : Ex (cfg Tryz.prog Tryz.eqs N) Tryz.c130 ⟨(first ++ args ++ caps) ++ List.replicate (14 - (first ++ args ++ caps).length) .undef, heap⟩ (kfun (cfg Tryz.prog Tryz.eqs N) [(2, none)] false heap.length K)) : Hs Tryz.prog Tryz.eqs (.func 130 first caps) args heap K := Hs.enter Tryz.eqs_plain N (fn := Tryz.f130) (by kernel_rfl) Tryz.a130_ok h
def Tryz.a168r0 : ACode := .region [⟨(some 6), .alloc 20 (.agg [(.int .i64 0), (.int .i64 0), (.int .i64 0), (.int .i64 0), (.int .i64 0), (.int .i64 0), (.int .i64 0), (.int .i64 0), .nils, (.int .i64 0), (.int .i64 0), (.int .i64 0), .nils, (.int .i64 0), .nils, .nils, .nils, .nils, .nils, .nils]) [], none⟩,
  ⟨(some 7), .mv (.c (.bool false)), none⟩]
def Tryz.a168r1 : ACode := .region [⟨(some 9), .mv (.t 2), none⟩,
  ⟨(some 10), .bin .eql 0 (.t 9) (.c (.int .i64 0)), none⟩,
  ⟨(some 11), .mv (.t 10), none⟩,
  ⟨(some 12), .mv (.t 1), (some (11, false))⟩,
  ⟨(some 13), .bin .lss 0 (.t 12) (.c (.int .i64 4)), (some (11, false))⟩,
  ⟨(some 14), .pick (.t 11) (.c (.bool true)) (.t 13), none⟩,
  ⟨(some 15), .mv (.t 14), none⟩,
  ⟨(some 16), .mv (.t 1), (some (15, false))⟩,
  ⟨(some 17), .bin .gtr 0 (.t 16) (.c (.int .i64 7)), (some (15, false))⟩,
  ⟨(some 18), .pick (.t 15) (.c (.bool true)) (.t 17), none⟩]
def Tryz.a168r2 : ACode := .region [⟨(some 19), .build (.agg [(.int .i64 0), (.int .i64 0), (.int .i64 0), (.int .i64 0), (.int .i64 0), (.int .i64 0), (.int .i64 0), (.int .i64 0), .nils, (.int .i64 0), (.int .i64 0), (.int .i64 0), .nils, (.int .i64 0), .nils, .nils, .nils, .nils, .nils, .nils]) [], none⟩,
  ⟨none, .store 20 (.t 6) (.t 19) [], none⟩,
  ⟨(some 7), .mv (.c (.bool false)), none⟩]
def Tryz.a168r3 : ACode := .region [⟨(some 20), .mv (.t 0), none⟩,
  ⟨(some 21), .call (.c (.func 130 [] [])) [(.t 20)], none⟩,
  ⟨(some 22), .build (.agg [(.int .i64 0), (.int .i64 0), (.int .i64 0), (.int .i64 0), (.int .i64 0), (.int .i64 0), (.int .i64 0), (.int .i64 0), .nils, (.int .i64 0), (.int .i64 0), (.int .i64 0), .nils, (.int .i64 0), .nils, .nils, .nils, .nils, .nils, .nils]) [((0, 1), (.t 21)), ((1, 1), (.c (.int .i64 11)))], none⟩,
  ⟨(some 8), .alloc 20 (.agg [(.int .i64 0), (.int .i64 0), (.int .i64 0), (.int .i64 0), (.int .i64 0), (.int .i64 0), (.int .i64 0), (.int .i64 0), .nils, (.int .i64 0), (.int .i64 0), (.int .i64 0), .nils, (.int .i64 0), .nils, .nils, .nils, .nils, .nils, .nils]) [], none⟩,
  ⟨none, .store 20 (.t 8) (.t 22) [], none⟩]
def Tryz.a168r4 : ACode := .region [⟨(some 23), .mv (.t 1), none⟩,
  ⟨(some 24), .bin .eql 0 (.t 23) (.c (.int .i64 6)), none⟩]
def Tryz.a168r5 : ACode := .region [⟨(some 25), .addo 1 (.t 8), none⟩,
  ⟨none, .store 1 (.t 25) (.c (.int .i64 12)) [], none⟩]
def Tryz.a168r6 : ACode := .region [⟨(some 26), .mv (.t 0), none⟩,
  ⟨(some 27), .call (.c (.func 182 [] [])) [(.t 26), (.c (.int .i64 1))], none⟩,
  ⟨(some 28), .addo 13 (.t 8), none⟩,
  ⟨none, .store 3 (.t 28) (.t 27) [], none⟩]
def Tryz.a168r7 : ACode := .region [⟨(some 29), .mv (.t 0), none⟩,
  ⟨(some 30), .call (.c (.func 85 [] [])) [(.t 29), (.c (.int .i64 3))], none⟩,
  ⟨(some 31), .bin .add 0 (.c (.int .i64 1)) (.t 30), none⟩,
  ⟨(some 32), .addo 4 (.t 8), none⟩,
  ⟨none, .store 1 (.t 32) (.t 31) [], none⟩]
def Tryz.a168r8 : ACode := .region [⟨(some 33), .mv (.t 0), none⟩,
  ⟨(some 34), .nilc (.t 33), none⟩,
  ⟨(some 35), .addo 26 (.t 34), none⟩,
  ⟨(some 36), .load false 1 (.t 35), none⟩,
  ⟨(some 37), .bin .add 0 (.t 36) (.c (.int .i64 1)), none⟩,
  ⟨(some 38), .nilc (.t 33), none⟩,
  ⟨(some 39), .addo 26 (.t 38), none⟩,
  ⟨none, .store 1 (.t 39) (.t 37) [], none⟩]
def Tryz.a168r9 : ACode := .region [⟨(some 40), .mv (.t 0), none⟩,
  ⟨(some 41), .mv (.t 0), none⟩,
  ⟨(some 42), .call (.c (.func 85 [] [])) [(.t 41), (.c (.int .i64 2))], none⟩,
  ⟨(some 43), .bin .add 0 (.c (.int .i64 1)) (.t 42), none⟩,
  ⟨(some 44), .mv (.t 2), none⟩,
  ⟨(some 45), .bin .sub 0 (.t 44) (.c (.int .i64 1)), none⟩,
  ⟨(some 46), .call (.c (.func 129 [] [])) [(.t 40), (.t 43), (.t 45)], none⟩,
  ⟨(some 47), .addo 18 (.t 8), none⟩,
  ⟨none, .store 1 (.t 47) (.t 46) [], none⟩]
def Tryz.a168r10 : ACode := .region [⟨(some 48), .mv (.t 0), none⟩,
  ⟨(some 49), .nilc (.t 48), none⟩,
  ⟨(some 50), .addo 26 (.t 49), none⟩,
  ⟨(some 51), .load false 1 (.t 50), none⟩,
  ⟨(some 52), .bin .sub 0 (.t 51) (.c (.int .i64 1)), none⟩,
  ⟨(some 53), .nilc (.t 48), none⟩,
  ⟨(some 54), .addo 26 (.t 53), none⟩,
  ⟨none, .store 1 (.t 54) (.t 52) [], none⟩]
def Tryz.a168r11 : ACode := .region [⟨(some 55), .load true 20 (.t 8), none⟩,
  ⟨none, .store 20 (.t 6) (.t 55) [], none⟩,
  ⟨(some 7), .mv (.c (.bool true)), none⟩]
def Tryz.a168r12 : ACode := .region [⟨(some 56), .mv (.t 1), none⟩,
  ⟨(some 57), .bin .eql 0 (.t 56) (.c (.int .i64 7)), none⟩]
def Tryz.a168r13 : ACode := .region [⟨(some 58), .addo 1 (.t 8), none⟩,
  ⟨none, .store 1 (.t 58) (.c (.int .i64 15)) [], none⟩]
def Tryz.a168r14 : ACode := .region [⟨(some 59), .mv (.t 0), none⟩,
  ⟨(some 60), .call (.c (.func 183 [] [])) [(.t 59)], none⟩,
  ⟨(some 61), .addo 2 (.t 8), none⟩,
  ⟨none, .store 1 (.t 61) (.t 60) [], none⟩]
def Tryz.a168r15 : ACode := .region [⟨(some 62), .mv (.t 0), none⟩,
  ⟨(some 63), .call (.c (.func 182 [] [])) [(.t 62), (.c (.int .i64 1))], none⟩,
  ⟨(some 64), .addo 13 (.t 8), none⟩,
  ⟨none, .store 3 (.t 64) (.t 63) [], none⟩]
def Tryz.a168r16 : ACode := .region [⟨(some 65), .mv (.t 0), none⟩,
  ⟨(some 66), .mv (.t 0), none⟩,
  ⟨(some 67), .call (.c (.func 85 [] [])) [(.t 66), (.c (.int .i64 2))], none⟩,
  ⟨(some 68), .bin .add 0 (.c (.int .i64 1)) (.t 67), none⟩,
  ⟨(some 69), .mv (.t 2), none⟩,
  ⟨(some 70), .bin .sub 0 (.t 69) (.c (.int .i64 1)), none⟩,
  ⟨(some 71), .call (.c (.func 129 [] [])) [(.t 65), (.t 68), (.t 70)], none⟩,
  ⟨(some 72), .addo 18 (.t 8), none⟩,
  ⟨none, .store 1 (.t 72) (.t 71) [], none⟩]
def Tryz.a168r17 : ACode := .region [⟨(some 73), .mv (.t 0), none⟩,
  ⟨(some 74), .mv (.t 0), none⟩,
  ⟨(some 75), .call (.c (.func 85 [] [])) [(.t 74), (.c (.int .i64 2))], none⟩,
  ⟨(some 76), .mv (.t 2), none⟩,
  ⟨(some 77), .bin .sub 0 (.t 76) (.c (.int .i64 1)), none⟩,
  ⟨(some 78), .call (.c (.func 129 [] [])) [(.t 73), (.t 75), (.t 77)], none⟩,
  ⟨(some 79), .addo 19 (.t 8), none⟩,
  ⟨none, .store 1 (.t 79) (.t 78) [], none⟩]
def Tryz.a168r18 : ACode := .region [⟨(some 80), .load true 20 (.t 8), none⟩,
  ⟨none, .store 20 (.t 6) (.t 80) [], none⟩,
  ⟨(some 7), .mv (.c (.bool true)), none⟩]
def Tryz.c168 : ACode := .seq (Tryz.a168r0) (.seq (.seq (Tryz.a168r1) (.cond (.t 18) (.seq (Tryz.a168r2) (.ret)) (.skip))) (.seq (Tryz.a168r3) (.seq (.seq (Tryz.a168r4) (.cond (.t 24) (.seq (Tryz.a168r5) (.seq (Tryz.a168r6) (.seq (Tryz.a168r7) (.seq (Tryz.a168r8) (.seq (Tryz.a168r9) (.seq (Tryz.a168r10) (.seq (Tryz.a168r11) (.ret)))))))) (.skip))) (.seq (.seq (Tryz.a168r12) (.cond (.t 57) (.seq (Tryz.a168r13) (Tryz.a168r14)) (Tryz.a168r15))) (.seq (Tryz.a168r16) (.seq (Tryz.a168r17) (.seq (Tryz.a168r18) (.ret))))))))
def Tryz.a168 : AFunc := ⟨81, Tryz.c168, [(6, some (true, 20)), (7, none)], false⟩
theorem Tryz.a168_ok : chkFunc Tryz.prog Tryz.eqs Tryz.f168 Tryz.a168 = true := by kernel_rfl
theorem Tryz.w168 {first caps args : List AVal} {heap : List AObj} {K : AVal → List AObj → Prop} (N : Nat) (h : Ex (cfg Tryz.prog Tryz.eqs N) Tryz.c168 ⟨(first ++ args ++ caps) ++ List.replicate (81 - (first ++ args ++ caps).length) .undef, heap⟩ (kfun (cfg Tryz.prog Tryz.eqs N) [(6, some (true, 20)), (7, none)] false heap.length K)) : Hs Tryz.prog Tryz.eqs (.func 168 first caps) args heap K := Hs.enter Tryz.eqs_plain N (fn := Tryz.f168) (by kernel_rfl) Tryz.a168_ok h
def Tryz.a169r0 : ACode := .region [⟨(some 6), .mv (.c .nils), none⟩]
def Tryz.a169r1 : ACode := .region [⟨(some 7), .mv (.t 1), none⟩,
  ⟨(some 8), .bin .geq 0 (.t 7) (.c (.int .i64 4)), none⟩,
  ⟨(some 9), .mv (.t 8), none⟩,
  ⟨(some 10), .mv (.t 1), (some (9, true))⟩,
  ⟨(some 11), .bin .lss 0 (.t 10) (.c (.int .i64 10)), (some (9, true))⟩,
  ⟨(some 12), .pick (.t 9) (.t 11) (.c (.bool false)), none⟩]
def Tryz.a169r2 : ACode := .region [⟨(some 13), .mv (.t 0), none⟩,
  ⟨(some 14), .call (.c (.func 184 [] [])) [(.t 13)], none⟩,
  ⟨(some 15), .lit 20 [(.t 14)], none⟩,
  ⟨(some 6), .mv (.t 15), none⟩]
def Tryz.a169r3 : ACode := .region [⟨(some 16), .mv (.t 1), none⟩,
  ⟨(some 17), .bin .eql 0 (.t 16) (.c (.int .i64 10)), none⟩,
  ⟨(some 18), .mv (.t 17), none⟩,
  ⟨(some 19), .mv (.t 0), (some (18, true))⟩,
  ⟨(some 20), .nilc (.t 19), (some (18, true))⟩,
  ⟨(some 21), .addo 28 (.t 20), (some (18, true))⟩,
  ⟨(some 22), .load false 1 (.t 21), (some (18, true))⟩,
  ⟨(some 23), .un .not (.t 22), (some (18, true))⟩,
  ⟨(some 24), .pick (.t 18) (.t 23) (.c (.bool false)), none⟩]
def Tryz.a169r4 : ACode := .region [⟨(some 25), .mv (.t 0), none⟩,
  ⟨(some 26), .call (.c (.func 130 [] [])) [(.t 25)], none⟩,
  ⟨(some 27), .mv (.t 0), none⟩,
  ⟨(some 28), .call (.c (.func 85 [] [])) [(.t 27), (.c (.int .i64 3))], none⟩,
  ⟨(some 29), .bin .add 0 (.c (.int .i64 1)) (.t 28), none⟩,
  ⟨(some 30), .build (.agg [(.int .i64 0), (.int .i64 0), (.int .i64 0), (.int .i64 0), (.int .i64 0), (.int .i64 0), (.int .i64 0), (.int .i64 0), .nils, (.int .i64 0), (.int .i64 0), (.int .i64 0), .nils, (.int .i64 0), .nils, .nils, .nils, .nils, .nils, .nils]) [((0, 1), (.t 26)), ((1, 1), (.c (.int .i64 14))), ((4, 1), (.t 29))], none⟩,
  ⟨(some 31), .lit 20 [(.t 30)], none⟩,
  ⟨(some 6), .mv (.t 31), none⟩]
def Tryz.a169r5 : ACode := .region [⟨(some 32), .mv (.t 1), none⟩,
  ⟨(some 33), .bin .eql 0 (.t 32) (.c (.int .i64 11)), none⟩,
  ⟨(some 34), .mv (.t 33), none⟩,
  ⟨(some 35), .mv (.t 2), (some (34, true))⟩,
  ⟨(some 36), .bin .lss 0 (.t 35) (.c (.int .i64 2)), (some (34, true))⟩,
  ⟨(some 37), .pick (.t 34) (.t 36) (.c (.bool false)), none⟩]
def Tryz.a169r6 : ACode := .region [⟨(some 38), .mv (.t 0), none⟩,
  ⟨(some 39), .call (.c (.func 130 [] [])) [(.t 38)], none⟩,
  ⟨(some 40), .mv (.t 0), none⟩,
  ⟨(some 41), .call (.c (.func 185 [] [])) [(.t 40), (.c (.int .i64 1))], none⟩,
  ⟨(some 42), .build (.agg [(.int .i64 0), (.int .i64 0), (.int .i64 0), (.int .i64 0), (.int .i64 0), (.int .i64 0), (.int .i64 0), (.int .i64 0), .nils, (.int .i64 0), (.int .i64 0), (.int .i64 0), .nils, (.int .i64 0), .nils, .nils, .nils, .nils, .nils, .nils]) [((0, 1), (.t 39)), ((1, 1), (.c (.int .i64 24))), ((5, 4), (.t 41))], none⟩,
  ⟨(some 43), .lit 20 [(.t 42)], none⟩,
  ⟨(some 6), .mv (.t 43), none⟩]
def Tryz.a169r7 : ACode := .region [⟨(some 44), .mv (.t 1), none⟩,
  ⟨(some 45), .bin .lss 0 (.t 44) (.c (.int .i64 4)), none⟩,
  ⟨(some 46), .mv (.t 45), none⟩,
  ⟨(some 47), .mv (.t 0), (some (46, false))⟩,
  ⟨(some 48), .nilc (.t 47), (some (46, false))⟩,
  ⟨(some 49), .addo 28 (.t 48), (some (46, false))⟩,
  ⟨(some 50), .load false 1 (.t 49), (some (46, false))⟩,
  ⟨(some 51), .pick (.t 46) (.c (.bool true)) (.t 50), none⟩]
def Tryz.a169r8 : ACode := .region [⟨(some 52), .mv (.t 0), none⟩,
  ⟨(some 53), .call (.c (.func 186 [] [])) [(.t 52)], none⟩,
  ⟨(some 6), .mv (.t 53), none⟩]
def Tryz.a169r9 : ACode := .region [⟨(some 54), .mv (.t 0), none⟩,
  ⟨(some 55), .call (.c (.func 187 [] [])) [(.t 54)], none⟩,
  ⟨(some 56), .lit 20 [(.t 55)], none⟩,
  ⟨(some 6), .mv (.t 56), none⟩]
def Tryz.c169 : ACode := .seq (Tryz.a169r0) (.seq (.seq (Tryz.a169r1) (.cond (.t 12) (.seq (Tryz.a169r2) (.ret)) (.skip))) (.seq (.seq (Tryz.a169r3) (.cond (.t 24) (.seq (Tryz.a169r4) (.ret)) (.skip))) (.seq (.seq (Tryz.a169r5) (.cond (.t 37) (.seq (Tryz.a169r6) (.ret)) (.skip))) (.seq (.seq (Tryz.a169r7) (.cond (.t 51) (.seq (Tryz.a169r8) (.ret)) (.skip))) (.seq (Tryz.a169r9) (.ret))))))
def Tryz.a169 : AFunc := ⟨57, Tryz.c169, [(6, none)], false⟩
theorem Tryz.a169_ok : chkFunc Tryz.prog Tryz.eqs Tryz.f169 Tryz.a169 = true := by kernel_rfl
theorem Tryz.w169 {first caps args : List AVal} {heap : List AObj} {K : AVal → List AObj → Prop} (N : Nat) (h : Ex (cfg Tryz.prog Tryz.eqs N) Tryz.c169 ⟨(first ++ args ++ caps) ++ List.replicate (57 - (first ++ args ++ caps).length) .undef, heap⟩ (kfun (cfg Tryz.prog Tryz.eqs N) [(6, none)] false heap.length K)) : Hs Tryz.prog Tryz.eqs (.func 169 first caps) args heap K := Hs.enter Tryz.eqs_plain N (fn := Tryz.f169) (by kernel_rfl) Tryz.a169_ok h
def Tryz.a182r0 : ACode := .region [⟨(some 4), .alloc 3 (.agg [(.int .i64 0), .nils, .nils]) [], none⟩]
def Tryz.a182r1 : ACode := .region [⟨(some 8), .mv (.t 0), none⟩,
  ⟨(some 9), .call (.c (.func 85 [] [])) [(.t 8), (.c (.int .i64 8))], none⟩,
  ⟨(some 5), .mv (.t 9), none⟩]
def Tryz.a182r2 : ACode := .region [⟨(some 10), .mv (.t 5), none⟩,
  ⟨(some 11), .bin .lss 0 (.t 10) (.c (.int .i64 6)), none⟩,
  ⟨(some 12), .mv (.t 11), none⟩,
  ⟨(some 13), .mv (.t 1), (some (12, false))⟩,
  ⟨(some 14), .bin .eql 0 (.t 13) (.c (.int .i64 0)), (some (12, false))⟩,
  ⟨(some 15), .pick (.t 12) (.c (.bool true)) (.t 14), none⟩]
def Tryz.a182r3 : ACode := .region [⟨(some 16), .mv (.t 0), none⟩,
  ⟨(some 17), .call (.c (.func 185 [] [])) [(.t 16), (.c (.int .i64 1))], none⟩,
  ⟨(some 6), .alloc 4 (.agg [(.int .i64 0), (.int .i64 0), (.int .i64 0), .nils]) [], none⟩,
  ⟨none, .store 4 (.t 6) (.t 17) [], none⟩]
def Tryz.a182r4 : ACode := .draw [⟨0, ⟨(some 18), .mv (.t 5), none⟩, []⟩,
  ⟨1, ⟨(some 19), .bin .rem 0 (.t 18) (.c (.int .i64 3)), none⟩, []⟩,
  ⟨2, ⟨(some 20), .bin .add 0 (.c (.int .i64 2)) (.t 19), none⟩, []⟩,
  ⟨3, ⟨(some 21), .load true 4 (.t 6), none⟩, []⟩,
  ⟨4, ⟨(some 22), .mv (.t 0), none⟩, []⟩,
  ⟨5, ⟨(some 23), .call (.c (.func 185 [] [])) [(.t 22), (.c (.int .i64 1))], none⟩, [3]⟩,
  ⟨6, ⟨(some 24), .call (.c (.func 197 [] [])) [(.t 20), (.t 21), (.t 23)], none⟩, []⟩,
  ⟨7, ⟨none, .store 3 (.t 4) (.t 24) [], none⟩, []⟩] [[], [0], [0, 1], [], [], [4], [0, 1, 2, 3, 4, 5], [0, 1, 2, 3, 4, 5, 6]]
def Tryz.a182r5 : ACode := .region [⟨(some 25), .mv (.t 5), none⟩,
  ⟨(some 26), .bin .eql 0 (.t 25) (.c (.int .i64 6)), none⟩]
def Tryz.a182r6 : ACode := .region [⟨(some 27), .mv (.t 0), none⟩,
  ⟨(some 28), .mv (.t 1), none⟩,
  ⟨(some 29), .bin .sub 0 (.t 28) (.c (.int .i64 1)), none⟩,
  ⟨(some 30), .call (.c (.func 182 [] [])) [(.t 27), (.t 29)], none⟩,
  ⟨(some 31), .call (.c (.func 198 [] [])) [(.t 30)], none⟩,
  ⟨none, .store 3 (.t 4) (.t 31) [], none⟩]
def Tryz.a182r7 : ACode := .region [⟨(some 32), .mv (.t 0), none⟩,
  ⟨(some 33), .mv (.t 1), none⟩,
  ⟨(some 34), .bin .sub 0 (.t 33) (.c (.int .i64 1)), none⟩,
  ⟨(some 35), .call (.c (.func 182 [] [])) [(.t 32), (.t 34)], none⟩,
  ⟨(some 7), .alloc 3 (.agg [(.int .i64 0), .nils, .nils]) [], none⟩,
  ⟨none, .store 3 (.t 7) (.t 35) [], none⟩]
def Tryz.a182r8 : ACode := .draw [⟨0, ⟨(some 36), .mv (.t 0), none⟩, []⟩,
  ⟨3, ⟨(some 39), .load true 3 (.t 7), none⟩, []⟩,
  ⟨4, ⟨(some 40), .mv (.t 0), none⟩, []⟩,
  ⟨5, ⟨(some 41), .mv (.t 1), none⟩, []⟩,
  ⟨6, ⟨(some 42), .bin .sub 0 (.t 41) (.c (.int .i64 1)), none⟩, []⟩,
  ⟨1, ⟨(some 37), .call (.c (.func 85 [] [])) [(.t 36), (.c (.int .i64 2))], none⟩, [3]⟩,
  ⟨2, ⟨(some 38), .bin .add 0 (.c (.int .i64 6)) (.t 37), none⟩, []⟩,
  ⟨7, ⟨(some 43), .call (.c (.func 182 [] [])) [(.t 40), (.t 42)], none⟩, [3]⟩,
  ⟨8, ⟨(some 44), .lit 3 [(.t 39), (.t 43)], none⟩, []⟩,
  ⟨9, ⟨(some 45), .build (.agg [(.int .i64 0), .nils, .nils]) [((0, 1), (.t 38)), ((2, 1), (.t 44))], none⟩, []⟩,
  ⟨10, ⟨none, .store 3 (.t 4) (.t 45) [], none⟩, []⟩] [[], [0], [0, 1], [], [], [], [5], [0, 1, 4, 5, 6], [0, 1, 3, 4, 5, 6, 7], [0, 1, 2, 3, 4, 5, 6, 7, 8], [0, 1, 2, 3, 4, 5, 6, 7, 8, 9]]
def Tryz.c182 : ACode := .seq (Tryz.a182r0) (.seq (Tryz.a182r1) (.seq (.seq (Tryz.a182r2) (.cond (.t 15) (.seq (Tryz.a182r3) (.seq (Tryz.a182r4) (.ret))) (.skip))) (.seq (.seq (Tryz.a182r5) (.cond (.t 26) (.seq (Tryz.a182r6) (.ret)) (.skip))) (.seq (Tryz.a182r7) (.seq (Tryz.a182r8) (.ret))))))
def Tryz.a182 : AFunc := ⟨46, Tryz.c182, [(4, some (true, 3))], false⟩
theorem Tryz.a182_ok : chkFunc Tryz.prog Tryz.eqs Tryz.f182 Tryz.a182 = true := by kernel_rfl
theorem Tryz.w182 {first caps args : List AVal} {heap : List AObj} {K : AVal → List AObj → Prop} (N : Nat) (h : Ex (cfg Tryz.prog Tryz.eqs N) Tryz.c182 ⟨(first ++ args ++ caps) ++ List.replicate (46 - (first ++ args ++ caps).length) .undef, heap⟩ (kfun (cfg Tryz.prog Tryz.eqs N) [(4, some (true, 3))] false heap.length K)) : Hs Tryz.prog Tryz.eqs (.func 182 first caps) args heap K := Hs.enter Tryz.eqs_plain N (fn := Tryz.f182) (by kernel_rfl) Tryz.a182_ok h
def Tryz.a183r0 : ACode := .region [⟨(some 2), .mv (.c (.int .i64 0)), none⟩]
def Tryz.a183r1 : ACode := .draw [⟨0, ⟨(some 3), .mv (.t 0), none⟩, []⟩,
  ⟨1, ⟨(some 4), .nilc (.t 3), none⟩, []⟩,
  ⟨2, ⟨(some 5), .addo 12 (.t 4), none⟩, []⟩,
  ⟨3, ⟨(some 6), .addo 5 (.t 5), none⟩, []⟩,
  ⟨4, ⟨(some 7), .load false 1 (.t 6), none⟩, []⟩,
  ⟨5, ⟨(some 8), .len 0 (.t 7), none⟩, []⟩,
  ⟨6, ⟨(some 9), .mv (.t 0), none⟩, []⟩,
  ⟨7, ⟨(some 10), .mv (.t 0), none⟩, []⟩,
  ⟨8, ⟨(some 11), .nilc (.t 10), none⟩, []⟩,
  ⟨9, ⟨(some 12), .addo 12 (.t 11), none⟩, []⟩,
  ⟨10, ⟨(some 13), .addo 7 (.t 12), none⟩, []⟩,
  ⟨11, ⟨(some 14), .load false 1 (.t 13), none⟩, []⟩,
  ⟨12, ⟨(some 15), .mv (.t 0), none⟩, []⟩,
  ⟨13, ⟨(some 16), .nilc (.t 15), none⟩, []⟩,
  ⟨14, ⟨(some 17), .addo 12 (.t 16), none⟩, []⟩,
  ⟨15, ⟨(some 18), .addo 5 (.t 17), none⟩, []⟩,
  ⟨16, ⟨(some 19), .load false 1 (.t 18), none⟩, []⟩,
  ⟨17, ⟨(some 20), .len 0 (.t 19), none⟩, []⟩,
  ⟨18, ⟨(some 21), .bin .sub 0 (.t 14) (.t 20), none⟩, []⟩,
  ⟨19, ⟨(some 22), .call (.c (.func 85 [] [])) [(.t 9), (.t 21)], none⟩, [4, 5]⟩,
  ⟨20, ⟨(some 23), .bin .add 0 (.t 8) (.t 22), none⟩, []⟩,
  ⟨21, ⟨(some 2), .mv (.t 23), none⟩, []⟩] [[], [0], [0, 1], [0, 1, 2], [0, 1, 2, 3], [0, 1, 2, 3, 4], [], [], [7], [7, 8], [7, 8, 9], [7, 8, 9, 10], [], [12], [12, 13], [12, 13, 14], [12, 13, 14, 15], [12, 13, 14, 15, 16], [7, 8, 9, 10, 11, 12, 13, 14, 15, 16, 17], [6, 7, 8, 9, 10, 11, 12, 13, 14, 15, 16, 17, 18], [0, 1, 2, 3, 4, 5, 6, 7, 8, 9, 10, 11, 12, 13, 14, 15, 16, 17, 18, 19], [0, 1, 2, 3, 4, 5, 6, 7, 8, 9, 10, 11, 12, 13, 14, 15, 16, 17, 18, 19, 20]]
def Tryz.c183 : ACode := .seq (Tryz.a183r0) (.seq (Tryz.a183r1) (.ret))
def Tryz.a183 : AFunc := ⟨24, Tryz.c183, [(2, none)], false⟩
theorem Tryz.a183_ok : chkFunc Tryz.prog Tryz.eqs Tryz.f183 Tryz.a183 = true := by kernel_rfl
theorem Tryz.w183 {first caps args : List AVal} {heap : List AObj} {K : AVal → List AObj → Prop} (N : Nat) (h : Ex (cfg Tryz.prog Tryz.eqs N) Tryz.c183 ⟨(first ++ args ++ caps) ++ List.replicate (24 - (first ++ args ++ caps).length) .undef, heap⟩ (kfun (cfg Tryz.prog Tryz.eqs N) [(2, none)] false heap.length K)) : Hs Tryz.prog Tryz.eqs (.func 183 first caps) args heap K := Hs.enter Tryz.eqs_plain N (fn := Tryz.f183) (by kernel_rfl) Tryz.a183_ok h
def Tryz.a184r0 : ACode := .region [⟨(some 2), .alloc 20 (.agg [(.int .i64 0), (.int .i64 0), (.int .i64 0), (.int .i64 0), (.int .i64 0), (.int .i64 0), (.int .i64 0), (.int .i64 0), .nils, (.int .i64 0), (.int .i64 0), (.int .i64 0), .nils, (.int .i64 0), .nils, .nils, .nils, .nils, .nils, .nils]) [], none⟩]
def Tryz.a184r1 : ACode := .region [⟨(some 7), .mv (.t 0), none⟩,
  ⟨(some 8), .call (.c (.func 130 [] [])) [(.t 7)], none⟩,
  ⟨(some 9), .mv (.t 0), none⟩,
  ⟨(some 10), .call (.c (.func 183 [] [])) [(.t 9)], none⟩,
  ⟨(some 11), .call (.c (.func 33 [] [])) [(.c (.int .i64 1))], none⟩,
  ⟨(some 12), .build (.agg [(.int .i64 0), (.int .i64 0), (.int .i64 0), (.int .i64 0), (.int .i64 0), (.int .i64 0), (.int .i64 0), (.int .i64 0), .nils, (.int .i64 0), (.int .i64 0), (.int .i64 0), .nils, (.int .i64 0), .nils, .nils, .nils, .nils, .nils, .nils]) [((0, 1), (.t 8)), ((1, 1), (.c (.int .i64 1))), ((2, 1), (.t 10)), ((5, 4), (.t 11))], none⟩,
  ⟨(some 3), .alloc 20 (.agg [(.int .i64 0), (.int .i64 0), (.int .i64 0), (.int .i64 0), (.int .i64 0), (.int .i64 0), (.int .i64 0), (.int .i64 0), .nils, (.int .i64 0), (.int .i64 0), (.int .i64 0), .nils, (.int .i64 0), .nils, .nils, .nils, .nils, .nils, .nils]) [], none⟩,
  ⟨none, .store 20 (.t 3) (.t 12) [], none⟩]
def Tryz.a184r2 : ACode := .region [⟨(some 13), .mv (.t 0), none⟩,
  ⟨(some 14), .nilc (.t 13), none⟩,
  ⟨(some 15), .addo 2 (.t 14), none⟩,
  ⟨(some 16), .addo 7 (.t 15), none⟩,
  ⟨(some 17), .load false 1 (.t 16), none⟩,
  ⟨(some 18), .len 0 (.t 17), none⟩,
  ⟨(some 19), .bin .eql 0 (.t 18) (.c (.int .i64 0)), none⟩,
  ⟨(some 20), .mv (.t 19), none⟩,
  ⟨(some 21), .mv (.t 0), (some (20, false))⟩,
  ⟨(some 22), .nilc (.t 21), (some (20, false))⟩,
  ⟨(some 23), .addo 27 (.t 22), (some (20, false))⟩,
  ⟨(some 24), .load false 1 (.t 23), (some (20, false))⟩,
  ⟨(some 25), .bin .geq 0 (.t 24) (.c (.int .i64 2)), (some (20, false))⟩,
  ⟨(some 26), .pick (.t 20) (.c (.bool true)) (.t 25), none⟩,
  ⟨(some 27), .mv (.t 26), none⟩,
  ⟨(some 28), .mv (.t 0), (some (27, false))⟩,
  ⟨(some 29), .nilc (.t 28), (some (27, false))⟩,
  ⟨(some 30), .addo 28 (.t 29), (some (27, false))⟩,
  ⟨(some 31), .load false 1 (.t 30), (some (27, false))⟩,
  ⟨(some 32), .mv (.t 31), (some (27, false))⟩,
  ⟨(some 33), .mv (.t 0), (some (32, true))⟩,
  ⟨(some 34), .nilc (.t 33), (some (32, true))⟩,
  ⟨(some 35), .addo 26 (.t 34), (some (32, true))⟩,
  ⟨(some 36), .load false 1 (.t 35), (some (32, true))⟩,
  ⟨(some 37), .bin .gtr 0 (.t 36) (.c (.int .i64 0)), (some (32, true))⟩,
  ⟨(some 38), .pick (.t 32) (.t 37) (.c (.bool false)), (some (27, false))⟩,
  ⟨(some 39), .pick (.t 27) (.c (.bool true)) (.t 38), none⟩]
def Tryz.a184r3 : ACode := .region [⟨(some 40), .load true 20 (.t 3), none⟩,
  ⟨none, .store 20 (.t 2) (.t 40) [], none⟩]
def Tryz.a184r4 : ACode := .draw [⟨0, ⟨(some 41), .mv (.t 0), none⟩, []⟩,
  ⟨1, ⟨(some 42), .nilc (.t 41), none⟩, []⟩,
  ⟨2, ⟨(some 43), .addo 2 (.t 42), none⟩, []⟩,
  ⟨3, ⟨(some 44), .addo 7 (.t 43), none⟩, []⟩,
  ⟨4, ⟨(some 45), .load false 1 (.t 44), none⟩, []⟩,
  ⟨5, ⟨(some 46), .mv (.t 0), none⟩, []⟩,
  ⟨6, ⟨(some 47), .mv (.t 0), none⟩, []⟩,
  ⟨7, ⟨(some 48), .nilc (.t 47), none⟩, []⟩,
  ⟨8, ⟨(some 49), .addo 2 (.t 48), none⟩, []⟩,
  ⟨9, ⟨(some 50), .addo 7 (.t 49), none⟩, []⟩,
  ⟨10, ⟨(some 51), .load false 1 (.t 50), none⟩, []⟩,
  ⟨11, ⟨(some 52), .len 0 (.t 51), none⟩, []⟩,
  ⟨15, ⟨(some 4), .pend 5, none⟩, []⟩,
  ⟨12, ⟨(some 53), .call (.c (.func 85 [] [])) [(.t 46), (.t 52)], none⟩, [4]⟩,
  ⟨13, ⟨(some 54), .idx 5 (.t 45) (.t 53), none⟩, []⟩,
  ⟨14, ⟨(some 55), .load true 5 (.t 54), none⟩, []⟩,
  ⟨16, ⟨none, .pstore 5 4 (.t 55), none⟩, []⟩] [[], [0], [0, 1], [0, 1, 2], [0, 1, 2, 3], [], [], [6], [6, 7], [6, 7, 8], [6, 7, 8, 9], [6, 7, 8, 9, 10], [5, 6, 7, 8, 9, 10, 11], [0, 1, 2, 3, 4, 5, 6, 7, 8, 9, 10, 11, 12], [0, 1, 2, 3, 4, 5, 6, 7, 8, 9, 10, 11, 12, 13], [], [0, 1, 2, 3, 4, 5, 6, 7, 8, 9, 10, 11, 12, 13, 14, 15]]
def Tryz.a184r5 : ACode := .region [⟨(some 56), .mv (.t 0), none⟩,
  ⟨(some 57), .nilc (.t 56), none⟩,
  ⟨(some 58), .addo 28 (.t 57), none⟩,
  ⟨(some 59), .load false 1 (.t 58), none⟩,
  ⟨(some 60), .mv (.t 59), none⟩,
  ⟨(some 61), .addo 2 (.t 4), (some (60, true))⟩,
  ⟨(some 62), .load false 1 (.t 61), (some (60, true))⟩,
  ⟨(some 63), .bin .neq 0 (.t 62) (.c (.int .i64 0)), (some (60, true))⟩,
  ⟨(some 64), .mv (.t 63), (some (60, true))⟩,
  ⟨(some 65), .addo 4 (.t 4), (some (64, false))⟩,
  ⟨(some 66), .load false 1 (.t 65), (some (64, false))⟩,
  ⟨(some 67), .len 0 (.t 66), (some (64, false))⟩,
  ⟨(some 68), .bin .gtr 0 (.t 67) (.c (.int .i64 0)), (some (64, false))⟩,
  ⟨(some 69), .pick (.t 64) (.c (.bool true)) (.t 68), (some (60, true))⟩,
  ⟨(some 70), .pick (.t 60) (.t 69) (.c (.bool false)), none⟩]
def Tryz.a184r6 : ACode := .region [⟨(some 71), .load true 20 (.t 3), none⟩,
  ⟨none, .store 20 (.t 2) (.t 71) [], none⟩]
def Tryz.a184r7 : ACode := .region [⟨(some 72), .mv (.t 0), none⟩,
  ⟨(some 73), .nilc (.t 72), none⟩,
  ⟨(some 74), .addo 27 (.t 73), none⟩,
  ⟨(some 75), .load false 1 (.t 74), none⟩,
  ⟨(some 76), .bin .add 0 (.t 75) (.c (.int .i64 1)), none⟩,
  ⟨(some 77), .nilc (.t 72), none⟩,
  ⟨(some 78), .addo 27 (.t 77), none⟩,
  ⟨none, .store 1 (.t 78) (.t 76) [], none⟩]
def Tryz.a184r8 : ACode := .region [⟨(some 79), .addo 0 (.t 3), none⟩,
  ⟨(some 80), .load false 1 (.t 79), none⟩,
  ⟨(some 81), .addo 2 (.t 3), none⟩,
  ⟨(some 82), .load false 1 (.t 81), none⟩,
  ⟨(some 83), .addo 0 (.t 4), none⟩,
  ⟨(some 84), .load false 1 (.t 83), none⟩,
  ⟨(some 85), .build (.agg [(.int .i64 0), (.int .i64 0), (.int .i64 0), (.int .i64 0), (.int .i64 0), (.int .i64 0), (.int .i64 0), (.int .i64 0), .nils, (.int .i64 0), (.int .i64 0), (.int .i64 0), .nils, (.int .i64 0), .nils, .nils, .nils, .nils, .nils, .nils]) [((0, 1), (.t 80)), ((1, 1), (.c (.int .i64 13))), ((2, 1), (.t 82)), ((3, 1), (.t 84))], none⟩,
  ⟨none, .store 20 (.t 3) (.t 85) [(16, 4), (17, 1)], none⟩]
def Tryz.a184r9 : ACode := .region [⟨(some 5), .mv (.c (.int .i64 0)), none⟩]
def Tryz.a184r10 : ACode := .region [⟨(some 86), .mv (.t 5), none⟩,
  ⟨(some 87), .addo 3 (.t 4), none⟩,
  ⟨(some 88), .load false 1 (.t 87), none⟩,
  ⟨(some 89), .len 0 (.t 88), none⟩,
  ⟨(some 90), .bin .lss 0 (.t 86) (.t 89), none⟩]
def Tryz.a184r11 : ACode := .region [⟨(some 93), .mv (.t 0), none⟩,
  ⟨(some 94), .nilc (.t 93), none⟩,
  ⟨(some 95), .addo 28 (.t 94), none⟩,
  ⟨(some 96), .load false 1 (.t 95), none⟩]
def Tryz.a184r12 : ACode := .draw [⟨0, ⟨(some 97), .addo 16 (.t 3), none⟩, []⟩,
  ⟨1, ⟨(some 98), .load false 1 (.t 97), none⟩, []⟩,
  ⟨2, ⟨(some 99), .addo 3 (.t 4), none⟩, []⟩,
  ⟨3, ⟨(some 100), .load false 1 (.t 99), none⟩, []⟩,
  ⟨4, ⟨(some 101), .mv (.t 5), none⟩, []⟩,
  ⟨5, ⟨(some 102), .idx 3 (.t 100) (.t 101), none⟩, []⟩,
  ⟨6, ⟨(some 103), .addo 0 (.t 102), none⟩, []⟩,
  ⟨7, ⟨(some 104), .load false 1 (.t 103), none⟩, []⟩,
  ⟨8, ⟨(some 105), .mv (.t 0), none⟩, []⟩,
  ⟨9, ⟨(some 106), .addo 3 (.t 4), none⟩, []⟩,
  ⟨10, ⟨(some 107), .load false 1 (.t 106), none⟩, []⟩,
  ⟨11, ⟨(some 108), .mv (.t 5), none⟩, []⟩,
  ⟨12, ⟨(some 109), .idx 3 (.t 107) (.t 108), none⟩, []⟩,
  ⟨13, ⟨(some 110), .addo 1 (.t 109), none⟩, []⟩,
  ⟨14, ⟨(some 111), .load false 1 (.t 110), none⟩, []⟩,
  ⟨15, ⟨(some 112), .addo 3 (.t 4), none⟩, []⟩,
  ⟨16, ⟨(some 113), .load false 1 (.t 112), none⟩, []⟩,
  ⟨17, ⟨(some 114), .mv (.t 5), none⟩, []⟩,
  ⟨18, ⟨(some 115), .idx 3 (.t 113) (.t 114), none⟩, []⟩,
  ⟨19, ⟨(some 116), .addo 0 (.t 115), none⟩, []⟩,
  ⟨20, ⟨(some 117), .load false 1 (.t 116), none⟩, []⟩,
  ⟨21, ⟨(some 118), .bin .sub 0 (.t 111) (.t 117), none⟩, []⟩,
  ⟨22, ⟨(some 119), .bin .add 0 (.t 118) (.c (.int .i64 1)), none⟩, []⟩,
  ⟨23, ⟨(some 120), .call (.c (.func 85 [] [])) [(.t 105), (.t 119)], none⟩, [1, 3, 7]⟩,
  ⟨24, ⟨(some 121), .bin .add 0 (.t 104) (.t 120), none⟩, []⟩,
  ⟨25, ⟨(some 122), .call (.c (.func 33 [] [])) [(.t 121)], none⟩, [1]⟩,
  ⟨26, ⟨(some 123), .lit 4 [(.t 122)], none⟩, []⟩,
  ⟨27, ⟨(some 124), .append false 4 (.t 98) (.t 123), none⟩, []⟩,
  ⟨28, ⟨(some 125), .addo 16 (.t 3), none⟩, []⟩,
  ⟨29, ⟨none, .store 1 (.t 125) (.t 124) [], none⟩, []⟩] [[], [0], [], [2], [], [2, 3, 4], [2, 3, 4, 5], [2, 3, 4, 5, 6], [], [], [9], [], [9, 10, 11], [9, 10, 11, 12], [9, 10, 11, 12, 13], [], [15], [], [15, 16, 17], [15, 16, 17, 18], [15, 16, 17, 18, 19], [9, 10, 11, 12, 13, 14, 15, 16, 17, 18, 19, 20], [9, 10, 11, 12, 13, 14, 15, 16, 17, 18, 19, 20, 21], [8, 9, 10, 11, 12, 13, 14, 15, 16, 17, 18, 19, 20, 21, 22], [2, 3, 4, 5, 6, 7, 8, 9, 10, 11, 12, 13, 14, 15, 16, 17, 18, 19, 20, 21, 22, 23], [2, 3, 4, 5, 6, 7, 8, 9, 10, 11, 12, 13, 14, 15, 16, 17, 18, 19, 20, 21, 22, 23, 24], [2, 3, 4, 5, 6, 7, 8, 9, 10, 11, 12, 13, 14, 15, 16, 17, 18, 19, 20, 21, 22, 23, 24, 25], [0, 1, 2, 3, 4, 5, 6, 7, 8, 9, 10, 11, 12, 13, 14, 15, 16, 17, 18, 19, 20, 21, 22, 23, 24, 25, 26], [0, 1, 2, 3, 4, 5, 6, 7, 8, 9, 10, 11, 12, 13, 14, 15, 16, 17, 18, 19, 20, 21, 22, 23, 24, 25, 26, 27], [0, 1, 2, 3, 4, 5, 6, 7, 8, 9, 10, 11, 12, 13, 14, 15, 16, 17, 18, 19, 20, 21, 22, 23, 24, 25, 26, 27, 28]]
def Tryz.a184r13 : ACode := .draw [⟨0, ⟨(some 126), .addo 16 (.t 3), none⟩, []⟩,
  ⟨1, ⟨(some 127), .load false 1 (.t 126), none⟩, []⟩,
  ⟨2, ⟨(some 128), .mv (.t 0), none⟩, []⟩,
  ⟨3, ⟨(some 129), .call (.c (.func 185 [] [])) [(.t 128), (.c (.int .i64 1))], none⟩, [1]⟩,
  ⟨4, ⟨(some 130), .lit 4 [(.t 129)], none⟩, []⟩,
  ⟨5, ⟨(some 131), .append false 4 (.t 127) (.t 130), none⟩, []⟩,
  ⟨6, ⟨(some 132), .addo 16 (.t 3), none⟩, []⟩,
  ⟨7, ⟨none, .store 1 (.t 132) (.t 131) [], none⟩, []⟩] [[], [0], [], [2], [2, 3], [0, 1, 2, 3, 4], [0, 1, 2, 3, 4, 5], [0, 1, 2, 3, 4, 5, 6]]
def Tryz.a184r14 : ACode := .region [⟨(some 91), .mv (.t 5), none⟩,
  ⟨(some 92), .bin .add 0 (.t 91) (.c (.int .i64 1)), none⟩,
  ⟨(some 5), .mv (.t 92), none⟩]
def Tryz.a184l15 : ACode := .seq (.seq (Tryz.a184r10) (.cond (.t 90) (.skip) (.exit 0))) (.seq (.block 1 (.seq (Tryz.a184r11) (.cond (.t 96) (Tryz.a184r12) (Tryz.a184r13)))) (Tryz.a184r14))
def Tryz.a184r16 : ACode := .region [⟨(some 6), .mv (.c (.int .i64 0)), none⟩]
def Tryz.a184r17 : ACode := .region [⟨(some 133), .mv (.t 6), none⟩,
  ⟨(some 134), .addo 4 (.t 4), none⟩,
  ⟨(some 135), .load false 1 (.t 134), none⟩,
  ⟨(some 136), .len 0 (.t 135), none⟩,
  ⟨(some 137), .bin .lss 0 (.t 133) (.t 136), none⟩]
def Tryz.a184r18 : ACode := .draw [⟨0, ⟨(some 140), .addo 17 (.t 3), none⟩, []⟩,
  ⟨1, ⟨(some 141), .load false 1 (.t 140), none⟩, []⟩,
  ⟨2, ⟨(some 142), .mv (.t 0), none⟩, []⟩,
  ⟨3, ⟨(some 143), .call (.c (.func 85 [] [])) [(.t 142), (.c (.int .i64 2))], none⟩, [1]⟩,
  ⟨4, ⟨(some 144), .lit 1 [(.t 143)], none⟩, []⟩,
  ⟨5, ⟨(some 145), .append false 1 (.t 141) (.t 144), none⟩, []⟩,
  ⟨6, ⟨(some 146), .addo 17 (.t 3), none⟩, []⟩,
  ⟨7, ⟨none, .store 1 (.t 146) (.t 145) [], none⟩, []⟩] [[], [0], [], [2], [2, 3], [0, 1, 2, 3, 4], [0, 1, 2, 3, 4, 5], [0, 1, 2, 3, 4, 5, 6]]
def Tryz.a184r19 : ACode := .region [⟨(some 138), .mv (.t 6), none⟩,
  ⟨(some 139), .bin .add 0 (.t 138) (.c (.int .i64 1)), none⟩,
  ⟨(some 6), .mv (.t 139), none⟩]
def Tryz.a184l20 : ACode := .seq (.seq (Tryz.a184r17) (.cond (.t 137) (.skip) (.exit 2))) (.seq (.block 3 (Tryz.a184r18)) (Tryz.a184r19))
def Tryz.a184r21 : ACode := .region [⟨(some 147), .load true 20 (.t 3), none⟩,
  ⟨none, .store 20 (.t 2) (.t 147) [], none⟩]
def Tryz.c184 : ACode := .seq (Tryz.a184r0) (.seq (Tryz.a184r1) (.seq (.seq (Tryz.a184r2) (.cond (.t 39) (.seq (Tryz.a184r3) (.ret)) (.skip))) (.seq (Tryz.a184r4) (.seq (.seq (Tryz.a184r5) (.cond (.t 70) (.seq (Tryz.a184r6) (.ret)) (.skip))) (.seq (Tryz.a184r7) (.seq (Tryz.a184r8) (.seq (.seq (Tryz.a184r9) (.block 0 (.loop [0, 2, 3, 4, 5] Tryz.a184l15))) (.seq (.seq (Tryz.a184r16) (.block 2 (.loop [0, 2, 3, 4, 6] Tryz.a184l20))) (.seq (Tryz.a184r21) (.ret))))))))))
def Tryz.a184 : AFunc := ⟨148, Tryz.c184, [(2, some (true, 20))], false⟩
theorem Tryz.a184_ok : chkFunc Tryz.prog Tryz.eqs Tryz.f184 Tryz.a184 = true := by kernel_rfl
theorem Tryz.w184 {first caps args : List AVal} {heap : List AObj} {K : AVal → List AObj → Prop} (N : Nat) (h : Ex (cfg Tryz.prog Tryz.eqs N) Tryz.c184 ⟨(first ++ args ++ caps) ++ List.replicate (148 - (first ++ args ++ caps).length) .undef, heap⟩ (kfun (cfg Tryz.prog Tryz.eqs N) [(2, some (true, 20))] false heap.length K)) : Hs Tryz.prog Tryz.eqs (.func 184 first caps) args heap K := Hs.enter Tryz.eqs_plain N (fn := Tryz.f184) (by kernel_rfl) Tryz.a184_ok h
def Tryz.a185r0 : ACode := .region [⟨(some 4), .alloc 4 (.agg [(.int .i64 0), (.int .i64 0), (.int .i64 0), .nils]) [], none⟩]
def Tryz.a185r1 : ACode := .region [⟨(some 8), .mv (.t 0), none⟩,
  ⟨(some 9), .call (.c (.func 85 [] [])) [(.t 8), (.c (.int .i64 12))], none⟩,
  ⟨(some 5), .mv (.t 9), none⟩]
def Tryz.a185r2 : ACode := .region [⟨(some 10), .mv (.t 5), none⟩,
  ⟨(some 11), .bin .lss 0 (.t 10) (.c (.int .i64 4)), none⟩,
  ⟨(some 12), .mv (.t 11), none⟩,
  ⟨(some 13), .mv (.t 1), (some (12, false))⟩,
  ⟨(some 14), .bin .eql 0 (.t 13) (.c (.int .i64 0)), (some (12, false))⟩,
  ⟨(some 15), .pick (.t 12) (.c (.bool true)) (.t 14), none⟩]
def Tryz.a185r3 : ACode := .region [⟨(some 16), .mv (.t 0), none⟩,
  ⟨(some 17), .call (.c (.func 85 [] [])) [(.t 16), (.c (.int .i64 14))], none⟩,
  ⟨(some 18), .bin .sub 0 (.t 17) (.c (.int .i64 3)), none⟩,
  ⟨(some 19), .call (.c (.func 33 [] [])) [(.t 18)], none⟩,
  ⟨none, .store 4 (.t 4) (.t 19) [], none⟩]
def Tryz.a185r4 : ACode := .region [⟨(some 20), .mv (.t 5), none⟩,
  ⟨(some 21), .bin .lss 0 (.t 20) (.c (.int .i64 9)), none⟩]
def Tryz.a185r5 : ACode := .region [⟨(some 22), .mv (.t 0), none⟩,
  ⟨(some 23), .mv (.t 0), none⟩,
  ⟨(some 24), .nilc (.t 23), none⟩,
  ⟨(some 25), .addo 12 (.t 24), none⟩,
  ⟨(some 26), .addo 7 (.t 25), none⟩,
  ⟨(some 27), .load false 1 (.t 26), none⟩,
  ⟨(some 28), .call (.c (.func 85 [] [])) [(.t 22), (.t 27)], none⟩,
  ⟨(some 29), .call (.c (.func 73 [] [])) [(.t 28)], none⟩,
  ⟨none, .store 4 (.t 4) (.t 29) [], none⟩]
def Tryz.a185r6 : ACode := .region [⟨(some 30), .mv (.t 5), none⟩,
  ⟨(some 31), .bin .eql 0 (.t 30) (.c (.int .i64 9)), none⟩,
  ⟨(some 32), .mv (.t 31), none⟩,
  ⟨(some 33), .mv (.t 0), (some (32, true))⟩,
  ⟨(some 34), .nilc (.t 33), (some (32, true))⟩,
  ⟨(some 35), .addo 12 (.t 34), (some (32, true))⟩,
  ⟨(some 36), .addo 9 (.t 35), (some (32, true))⟩,
  ⟨(some 37), .load false 1 (.t 36), (some (32, true))⟩,
  ⟨(some 38), .len 0 (.t 37), (some (32, true))⟩,
  ⟨(some 39), .bin .gtr 0 (.t 38) (.c (.int .i64 0)), (some (32, true))⟩,
  ⟨(some 40), .pick (.t 32) (.t 39) (.c (.bool false)), none⟩]
def Tryz.a185r7 : ACode := .region [⟨(some 41), .mv (.t 0), none⟩,
  ⟨(some 42), .mv (.t 0), none⟩,
  ⟨(some 43), .nilc (.t 42), none⟩,
  ⟨(some 44), .addo 12 (.t 43), none⟩,
  ⟨(some 45), .addo 9 (.t 44), none⟩,
  ⟨(some 46), .load false 1 (.t 45), none⟩,
  ⟨(some 47), .len 0 (.t 46), none⟩,
  ⟨(some 48), .call (.c (.func 85 [] [])) [(.t 41), (.t 47)], none⟩,
  ⟨(some 49), .build (.agg [(.int .i64 0), (.int .i64 0), (.int .i64 0), .nils]) [((0, 1), (.c (.int .i64 3))), ((1, 1), (.t 48))], none⟩,
  ⟨none, .store 4 (.t 4) (.t 49) [], none⟩]
def Tryz.a185r8 : ACode := .region [⟨(some 50), .mv (.t 0), none⟩,
  ⟨(some 51), .call (.c (.func 85 [] [])) [(.t 50), (.c (.int .i64 7))], none⟩,
  ⟨(some 52), .bin .add 0 (.c (.int .i64 4)) (.t 51), none⟩,
  ⟨(some 6), .mv (.t 52), none⟩]
def Tryz.a185r9 : ACode := .region [⟨(some 53), .mv (.t 0), none⟩,
  ⟨(some 54), .mv (.t 1), none⟩,
  ⟨(some 55), .bin .sub 0 (.t 54) (.c (.int .i64 1)), none⟩,
  ⟨(some 56), .call (.c (.func 185 [] [])) [(.t 53), (.t 55)], none⟩,
  ⟨(some 7), .alloc 4 (.agg [(.int .i64 0), (.int .i64 0), (.int .i64 0), .nils]) [], none⟩,
  ⟨none, .store 4 (.t 7) (.t 56) [], none⟩]
def Tryz.a185r10 : ACode := .draw [⟨0, ⟨(some 57), .mv (.t 6), none⟩, []⟩,
  ⟨1, ⟨(some 58), .load true 4 (.t 7), none⟩, []⟩,
  ⟨2, ⟨(some 59), .mv (.t 0), none⟩, []⟩,
  ⟨3, ⟨(some 60), .mv (.t 1), none⟩, []⟩,
  ⟨4, ⟨(some 61), .bin .sub 0 (.t 60) (.c (.int .i64 1)), none⟩, []⟩,
  ⟨5, ⟨(some 62), .call (.c (.func 185 [] [])) [(.t 59), (.t 61)], none⟩, [1]⟩,
  ⟨6, ⟨(some 63), .call (.c (.func 199 [] [])) [(.t 57), (.t 58), (.t 62)], none⟩, []⟩,
  ⟨7, ⟨none, .store 4 (.t 4) (.t 63) [], none⟩, []⟩] [[], [], [], [], [3], [2, 3, 4], [0, 1, 2, 3, 4, 5], [0, 1, 2, 3, 4, 5, 6]]
def Tryz.c185 : ACode := .seq (Tryz.a185r0) (.seq (Tryz.a185r1) (.seq (.seq (Tryz.a185r2) (.cond (.t 15) (.seq (Tryz.a185r3) (.ret)) (.skip))) (.seq (.seq (Tryz.a185r4) (.cond (.t 21) (.seq (Tryz.a185r5) (.ret)) (.skip))) (.seq (.seq (Tryz.a185r6) (.cond (.t 40) (.seq (Tryz.a185r7) (.ret)) (.skip))) (.seq (Tryz.a185r8) (.seq (Tryz.a185r9) (.seq (Tryz.a185r10) (.ret))))))))
def Tryz.a185 : AFunc := ⟨64, Tryz.c185, [(4, some (true, 4))], false⟩
theorem Tryz.a185_ok : chkFunc Tryz.prog Tryz.eqs Tryz.f185 Tryz.a185 = true := by kernel_rfl
theorem Tryz.w185 {first caps args : List AVal} {heap : List AObj} {K : AVal → List AObj → Prop} (N : Nat) (h : Ex (cfg Tryz.prog Tryz.eqs N) Tryz.c185 ⟨(first ++ args ++ caps) ++ List.replicate (64 - (first ++ args ++ caps).length) .undef, heap⟩ (kfun (cfg Tryz.prog Tryz.eqs N) [(4, some (true, 4))] false heap.length K)) : Hs Tryz.prog Tryz.eqs (.func 185 first caps) args heap K := Hs.enter Tryz.eqs_plain N (fn := Tryz.f185) (by kernel_rfl) Tryz.a185_ok h
def Tryz.a186r0 : ACode := .region [⟨(some 2), .mv (.c .nils), none⟩]
def Tryz.a186r1 : ACode := .region [⟨(some 5), .mv (.t 0), none⟩,
  ⟨(some 6), .call (.c (.func 130 [] [])) [(.t 5)], none⟩,
  ⟨(some 7), .build (.agg [(.int .i64 0), (.int .i64 0), (.int .i64 0), (.int .i64 0), (.int .i64 0), (.int .i64 0), (.int .i64 0), (.int .i64 0), .nils, (.int .i64 0), (.int .i64 0), (.int .i64 0), .nils, (.int .i64 0), .nils, .nils, .nils, .nils, .nils, .nils]) [((0, 1), (.t 6)), ((1, 1), (.c (.int .i64 1)))], none⟩,
  ⟨(some 3), .alloc 20 (.agg [(.int .i64 0), (.int .i64 0), (.int .i64 0), (.int .i64 0), (.int .i64 0), (.int .i64 0), (.int .i64 0), (.int .i64 0), .nils, (.int .i64 0), (.int .i64 0), (.int .i64 0), .nils, (.int .i64 0), .nils, .nils, .nils, .nils, .nils, .nils]) [], none⟩,
  ⟨none, .store 20 (.t 3) (.t 7) [], none⟩]
def Tryz.a186r2 : ACode := .region [⟨(some 8), .mv (.t 0), none⟩,
  ⟨(some 9), .call (.c (.func 85 [] [])) [(.t 8), (.c (.int .i64 8))], none⟩]
def Tryz.a186r3 : ACode := .region [⟨(some 11), .bin .eql 0 (.t 9) (.c (.int .i64 0)), none⟩,
  ⟨(some 10), .mv (.t 11), none⟩]
def Tryz.a186r4 : ACode := .draw [⟨0, ⟨(some 12), .addo 0 (.t 3), none⟩, []⟩,
  ⟨1, ⟨(some 13), .load false 1 (.t 12), none⟩, []⟩,
  ⟨2, ⟨(some 14), .mv (.t 0), none⟩, []⟩,
  ⟨4, ⟨(some 16), .mv (.t 0), none⟩, []⟩,
  ⟨3, ⟨(some 15), .call (.c (.func 183 [] [])) [(.t 14)], none⟩, [1]⟩,
  ⟨5, ⟨(some 17), .call (.c (.func 85 [] [])) [(.t 16), (.c (.int .i64 4))], none⟩, [1]⟩,
  ⟨6, ⟨(some 18), .call (.c (.func 33 [] [])) [(.t 17)], none⟩, [1]⟩,
  ⟨7, ⟨(some 19), .build (.agg [(.int .i64 0), (.int .i64 0), (.int .i64 0), (.int .i64 0), (.int .i64 0), (.int .i64 0), (.int .i64 0), (.int .i64 0), .nils, (.int .i64 0), (.int .i64 0), (.int .i64 0), .nils, (.int .i64 0), .nils, .nils, .nils, .nils, .nils, .nils]) [((0, 1), (.t 13)), ((1, 1), (.c (.int .i64 2))), ((2, 1), (.t 15)), ((5, 4), (.t 18))], none⟩, []⟩,
  ⟨8, ⟨(some 20), .lit 20 [(.t 19)], none⟩, []⟩,
  ⟨9, ⟨(some 2), .mv (.t 20), none⟩, []⟩] [[], [0], [], [2], [], [2, 3, 4], [2, 3, 4, 5], [0, 1, 2, 3, 4, 5, 6], [0, 1, 2, 3, 4, 5, 6, 7], [0, 1, 2, 3, 4, 5, 6, 7, 8]]
def Tryz.a186r5 : ACode := .region [⟨(some 22), .bin .eql 0 (.t 9) (.c (.int .i64 1)), none⟩,
  ⟨(some 21), .mv (.t 22), none⟩]
def Tryz.a186r6 : ACode := .draw [⟨0, ⟨(some 23), .addo 0 (.t 3), none⟩, []⟩,
  ⟨1, ⟨(some 24), .load false 1 (.t 23), none⟩, []⟩,
  ⟨2, ⟨(some 25), .mv (.t 0), none⟩, []⟩,
  ⟨5, ⟨(some 28), .mv (.t 0), none⟩, []⟩,
  ⟨3, ⟨(some 26), .call (.c (.func 85 [] [])) [(.t 25), (.c (.int .i64 4))], none⟩, [1]⟩,
  ⟨4, ⟨(some 27), .call (.c (.func 33 [] [])) [(.t 26)], none⟩, [1]⟩,
  ⟨6, ⟨(some 29), .call (.c (.func 185 [] [])) [(.t 28), (.c (.int .i64 2))], none⟩, [1]⟩,
  ⟨7, ⟨(some 30), .build (.agg [(.int .i64 0), (.int .i64 0), (.int .i64 0), (.int .i64 0), (.int .i64 0), (.int .i64 0), (.int .i64 0), (.int .i64 0), .nils, (.int .i64 0), (.int .i64 0), (.int .i64 0), .nils, (.int .i64 0), .nils, .nils, .nils, .nils, .nils, .nils]) [((0, 1), (.t 24)), ((1, 1), (.c (.int .i64 3))), ((5, 4), (.t 27)), ((9, 4), (.t 29))], none⟩, []⟩,
  ⟨8, ⟨(some 31), .lit 20 [(.t 30)], none⟩, []⟩,
  ⟨9, ⟨(some 2), .mv (.t 31), none⟩, []⟩] [[], [0], [], [2], [2, 3], [], [2, 3, 4, 5], [0, 1, 2, 3, 4, 5, 6], [0, 1, 2, 3, 4, 5, 6, 7], [0, 1, 2, 3, 4, 5, 6, 7, 8]]
def Tryz.a186r7 : ACode := .region [⟨(some 33), .bin .eql 0 (.t 9) (.c (.int .i64 2)), none⟩,
  ⟨(some 32), .mv (.t 33), none⟩]
def Tryz.a186r8 : ACode := .draw [⟨0, ⟨(some 34), .addo 0 (.t 3), none⟩, []⟩,
  ⟨1, ⟨(some 35), .load false 1 (.t 34), none⟩, []⟩,
  ⟨2, ⟨(some 36), .mv (.t 0), none⟩, []⟩,
  ⟨4, ⟨(some 38), .mv (.t 0), none⟩, []⟩,
  ⟨3, ⟨(some 37), .call (.c (.func 183 [] [])) [(.t 36)], none⟩, [1]⟩,
  ⟨5, ⟨(some 39), .call (.c (.func 85 [] [])) [(.t 38), (.c (.int .i64 2))], none⟩, [1]⟩,
  ⟨6, ⟨(some 40), .build (.agg [(.int .i64 0), (.int .i64 0), (.int .i64 0), (.int .i64 0), (.int .i64 0), (.int .i64 0), (.int .i64 0), (.int .i64 0), .nils, (.int .i64 0), (.int .i64 0), (.int .i64 0), .nils, (.int .i64 0), .nils, .nils, .nils, .nils, .nils, .nils]) [((0, 1), (.t 35)), ((1, 1), (.c (.int .i64 4))), ((2, 1), (.t 37)), ((3, 1), (.t 39))], none⟩, []⟩,
  ⟨7, ⟨(some 41), .lit 20 [(.t 40)], none⟩, []⟩,
  ⟨8, ⟨(some 2), .mv (.t 41), none⟩, []⟩] [[], [0], [], [2], [], [2, 3, 4], [0, 1, 2, 3, 4, 5], [0, 1, 2, 3, 4, 5, 6], [0, 1, 2, 3, 4, 5, 6, 7]]
def Tryz.a186r9 : ACode := .region [⟨(some 43), .bin .eql 0 (.t 9) (.c (.int .i64 3)), none⟩,
  ⟨(some 42), .mv (.t 43), none⟩]
def Tryz.a186r10 : ACode := .draw [⟨0, ⟨(some 44), .addo 0 (.t 3), none⟩, []⟩,
  ⟨1, ⟨(some 45), .load false 1 (.t 44), none⟩, []⟩,
  ⟨2, ⟨(some 46), .mv (.t 0), none⟩, []⟩,
  ⟨4, ⟨(some 48), .mv (.t 0), none⟩, []⟩,
  ⟨3, ⟨(some 47), .call (.c (.func 183 [] [])) [(.t 46)], none⟩, [1]⟩,
  ⟨5, ⟨(some 49), .call (.c (.func 85 [] [])) [(.t 48), (.c (.int .i64 2))], none⟩, [1]⟩,
  ⟨6, ⟨(some 50), .build (.agg [(.int .i64 0), (.int .i64 0), (.int .i64 0), (.int .i64 0), (.int .i64 0), (.int .i64 0), (.int .i64 0), (.int .i64 0), .nils, (.int .i64 0), (.int .i64 0), (.int .i64 0), .nils, (.int .i64 0), .nils, .nils, .nils, .nils, .nils, .nils]) [((0, 1), (.t 45)), ((1, 1), (.c (.int .i64 20))), ((2, 1), (.t 47)), ((3, 1), (.t 49))], none⟩, []⟩,
  ⟨7, ⟨(some 51), .lit 20 [(.t 50)], none⟩, []⟩,
  ⟨8, ⟨(some 2), .mv (.t 51), none⟩, []⟩] [[], [0], [], [2], [], [2, 3, 4], [0, 1, 2, 3, 4, 5], [0, 1, 2, 3, 4, 5, 6], [0, 1, 2, 3, 4, 5, 6, 7]]
def Tryz.a186r11 : ACode := .region [⟨(some 53), .bin .eql 0 (.t 9) (.c (.int .i64 4)), none⟩,
  ⟨(some 52), .mv (.t 53), none⟩]
def Tryz.a186r12 : ACode := .region [⟨(some 54), .mv (.t 0), none⟩,
  ⟨(some 55), .call (.c (.func 85 [] [])) [(.t 54), (.c (.int .i64 3))], none⟩,
  ⟨(some 4), .mv (.t 55), none⟩]
def Tryz.a186r13 : ACode := .draw [⟨0, ⟨(some 56), .addo 0 (.t 3), none⟩, []⟩,
  ⟨1, ⟨(some 57), .load false 1 (.t 56), none⟩, []⟩,
  ⟨2, ⟨(some 58), .mv (.t 4), none⟩, []⟩,
  ⟨3, ⟨(some 59), .build (.agg [(.int .i64 0), (.int .i64 0), (.int .i64 0), (.int .i64 0), (.int .i64 0), (.int .i64 0), (.int .i64 0), (.int .i64 0), .nils, (.int .i64 0), (.int .i64 0), (.int .i64 0), .nils, (.int .i64 0), .nils, .nils, .nils, .nils, .nils, .nils]) [((0, 1), (.t 57)), ((1, 1), (.c (.int .i64 16))), ((3, 1), (.t 58))], none⟩, []⟩,
  ⟨4, ⟨(some 60), .mv (.t 0), none⟩, []⟩,
  ⟨6, ⟨(some 62), .mv (.t 0), none⟩, []⟩,
  ⟨10, ⟨(some 66), .mv (.t 0), none⟩, []⟩,
  ⟨12, ⟨(some 68), .mv (.t 4), none⟩, []⟩,
  ⟨5, ⟨(some 61), .call (.c (.func 130 [] [])) [(.t 60)], none⟩, [1]⟩,
  ⟨7, ⟨(some 63), .call (.c (.func 85 [] [])) [(.t 62), (.c (.int .i64 9))], none⟩, [1]⟩,
  ⟨8, ⟨(some 64), .call (.c (.func 33 [] [])) [(.t 63)], none⟩, [1]⟩,
  ⟨9, ⟨(some 65), .build (.agg [(.int .i64 0), (.int .i64 0), (.int .i64 0), (.int .i64 0), (.int .i64 0), (.int .i64 0), (.int .i64 0), (.int .i64 0), .nils, (.int .i64 0), (.int .i64 0), (.int .i64 0), .nils, (.int .i64 0), .nils, .nils, .nils, .nils, .nils, .nils]) [((0, 1), (.t 61)), ((1, 1), (.c (.int .i64 5))), ((3, 1), (.c (.int .i64 0))), ((5, 4), (.t 64))], none⟩, []⟩,
  ⟨11, ⟨(some 67), .call (.c (.func 130 [] [])) [(.t 66)], none⟩, [1]⟩,
  ⟨13, ⟨(some 69), .build (.agg [(.int .i64 0), (.int .i64 0), (.int .i64 0), (.int .i64 0), (.int .i64 0), (.int .i64 0), (.int .i64 0), (.int .i64 0), .nils, (.int .i64 0), (.int .i64 0), (.int .i64 0), .nils, (.int .i64 0), .nils, .nils, .nils, .nils, .nils, .nils]) [((0, 1), (.t 67)), ((1, 1), (.c (.int .i64 17))), ((3, 1), (.t 68))], none⟩, []⟩,
  ⟨14, ⟨(some 70), .lit 20 [(.t 59), (.t 65), (.t 69)], none⟩, []⟩,
  ⟨15, ⟨(some 2), .mv (.t 70), none⟩, []⟩] [[], [0], [], [0, 1, 2], [], [4], [], [4, 5, 6], [4, 5, 6, 7], [4, 5, 6, 7, 8], [], [4, 5, 6, 7, 8, 10], [], [4, 5, 6, 7, 8, 10, 11, 12], [0, 1, 2, 3, 4, 5, 6, 7, 8, 9, 10, 11, 12, 13], [0, 1, 2, 3, 4, 5, 6, 7, 8, 9, 10, 11, 12, 13, 14]]
def Tryz.a186r14 : ACode := .region [⟨(some 72), .bin .eql 0 (.t 9) (.c (.int .i64 5)), none⟩,
  ⟨(some 71), .mv (.t 72), none⟩]
def Tryz.a186r15 : ACode := .draw [⟨0, ⟨(some 73), .addo 0 (.t 3), none⟩, []⟩,
  ⟨1, ⟨(some 74), .load false 1 (.t 73), none⟩, []⟩,
  ⟨2, ⟨(some 75), .build (.agg [(.int .i64 0), (.int .i64 0), (.int .i64 0), (.int .i64 0), (.int .i64 0), (.int .i64 0), (.int .i64 0), (.int .i64 0), .nils, (.int .i64 0), (.int .i64 0), (.int .i64 0), .nils, (.int .i64 0), .nils, .nils, .nils, .nils, .nils, .nils]) [((0, 1), (.t 74)), ((1, 1), (.c (.int .i64 6))), ((2, 1), (.c (.int .i64 1)))], none⟩, []⟩,
  ⟨3, ⟨(some 76), .mv (.t 0), none⟩, []⟩,
  ⟨5, ⟨(some 78), .mv (.t 0), none⟩, []⟩,
  ⟨8, ⟨(some 81), .mv (.t 0), none⟩, []⟩,
  ⟨4, ⟨(some 77), .call (.c (.func 130 [] [])) [(.t 76)], none⟩, [1]⟩,
  ⟨6, ⟨(some 79), .call (.c (.func 185 [] [])) [(.t 78), (.c (.int .i64 1))], none⟩, [1]⟩,
  ⟨7, ⟨(some 80), .build (.agg [(.int .i64 0), (.int .i64 0), (.int .i64 0), (.int .i64 0), (.int .i64 0), (.int .i64 0), (.int .i64 0), (.int .i64 0), .nils, (.int .i64 0), (.int .i64 0), (.int .i64 0), .nils, (.int .i64 0), .nils, .nils, .nils, .nils, .nils, .nils]) [((0, 1), (.t 77)), ((1, 1), (.c (.int .i64 9))), ((2, 1), (.c (.int .i64 1))), ((5, 4), (.t 79))], none⟩, []⟩,
  ⟨9, ⟨(some 82), .call (.c (.func 130 [] [])) [(.t 81)], none⟩, [1]⟩,
  ⟨10, ⟨(some 83), .build (.agg [(.int .i64 0), (.int .i64 0), (.int .i64 0), (.int .i64 0), (.int .i64 0), (.int .i64 0), (.int .i64 0), (.int .i64 0), .nils, (.int .i64 0), (.int .i64 0), (.int .i64 0), .nils, (.int .i64 0), .nils, .nils, .nils, .nils, .nils, .nils]) [((0, 1), (.t 82)), ((1, 1), (.c (.int .i64 7))), ((2, 1), (.c (.int .i64 1)))], none⟩, []⟩,
  ⟨11, ⟨(some 84), .lit 20 [(.t 75), (.t 80), (.t 83)], none⟩, []⟩,
  ⟨12, ⟨(some 2), .mv (.t 84), none⟩, []⟩] [[], [0], [0, 1], [], [3], [], [3, 4, 5], [3, 4, 5, 6], [], [3, 4, 5, 6, 8], [3, 4, 5, 6, 8, 9], [0, 1, 2, 3, 4, 5, 6, 7, 8, 9, 10], [0, 1, 2, 3, 4, 5, 6, 7, 8, 9, 10, 11]]
def Tryz.a186r16 : ACode := .region [⟨(some 85), .mv (.t 0), none⟩,
  ⟨(some 86), .call (.c (.func 183 [] [])) [(.t 85)], none⟩,
  ⟨(some 87), .addo 2 (.t 3), none⟩,
  ⟨none, .store 1 (.t 87) (.t 86) [], none⟩]
def Tryz.a186r17 : ACode := .region [⟨(some 88), .mv (.t 0), none⟩,
  ⟨(some 89), .call (.c (.func 185 [] [])) [(.t 88), (.c (.int .i64 2))], none⟩,
  ⟨(some 90), .addo 5 (.t 3), none⟩,
  ⟨none, .store 4 (.t 90) (.t 89) [], none⟩]
def Tryz.a186r18 : ACode := .region [⟨(some 91), .load true 20 (.t 3), none⟩,
  ⟨(some 92), .lit 20 [(.t 91)], none⟩,
  ⟨(some 2), .mv (.t 92), none⟩]
def Tryz.c186 : ACode := .seq (Tryz.a186r0) (.seq (Tryz.a186r1) (.seq (.seq (Tryz.a186r2) (.block 0 (.seq (Tryz.a186r3) (.cond (.t 10) (.seq (Tryz.a186r4) (.ret)) (.seq (Tryz.a186r5) (.cond (.t 21) (.seq (Tryz.a186r6) (.ret)) (.seq (Tryz.a186r7) (.cond (.t 32) (.seq (Tryz.a186r8) (.ret)) (.seq (Tryz.a186r9) (.cond (.t 42) (.seq (Tryz.a186r10) (.ret)) (.seq (Tryz.a186r11) (.cond (.t 52) (.seq (Tryz.a186r12) (.seq (Tryz.a186r13) (.ret))) (.seq (Tryz.a186r14) (.cond (.t 71) (.seq (Tryz.a186r15) (.ret)) (.skip))))))))))))))) (.seq (Tryz.a186r16) (.seq (Tryz.a186r17) (.seq (Tryz.a186r18) (.ret))))))
def Tryz.a186 : AFunc := ⟨93, Tryz.c186, [(2, none)], false⟩
theorem Tryz.a186_ok : chkFunc Tryz.prog Tryz.eqs Tryz.f186 Tryz.a186 = true := by kernel_rfl
theorem Tryz.w186 {first caps args : List AVal} {heap : List AObj} {K : AVal → List AObj → Prop} (N : Nat) (h : Ex (cfg Tryz.prog Tryz.eqs N) Tryz.c186 ⟨(first ++ args ++ caps) ++ List.replicate (93 - (first ++ args ++ caps).length) .undef, heap⟩ (kfun (cfg Tryz.prog Tryz.eqs N) [(2, none)] false heap.length K)) : Hs Tryz.prog Tryz.eqs (.func 186 first caps) args heap K := Hs.enter Tryz.eqs_plain N (fn := Tryz.f186) (by kernel_rfl) Tryz.a186_ok h
def Tryz.a187r0 : ACode := .region [⟨(some 2), .alloc 20 (.agg [(.int .i64 0), (.int .i64 0), (.int .i64 0), (.int .i64 0), (.int .i64 0), (.int .i64 0), (.int .i64 0), (.int .i64 0), .nils, (.int .i64 0), (.int .i64 0), (.int .i64 0), .nils, (.int .i64 0), .nils, .nils, .nils, .nils, .nils, .nils]) [], none⟩]
def Tryz.a187r1 : ACode := .region [⟨(some 4), .mv (.t 0), none⟩,
  ⟨(some 5), .call (.c (.func 130 [] [])) [(.t 4)], none⟩,
  ⟨(some 6), .build (.agg [(.int .i64 0), (.int .i64 0), (.int .i64 0), (.int .i64 0), (.int .i64 0), (.int .i64 0), (.int .i64 0), (.int .i64 0), .nils, (.int .i64 0), (.int .i64 0), (.int .i64 0), .nils, (.int .i64 0), .nils, .nils, .nils, .nils, .nils, .nils]) [((0, 1), (.t 5))], none⟩,
  ⟨(some 3), .alloc 20 (.agg [(.int .i64 0), (.int .i64 0), (.int .i64 0), (.int .i64 0), (.int .i64 0), (.int .i64 0), (.int .i64 0), (.int .i64 0), .nils, (.int .i64 0), (.int .i64 0), (.int .i64 0), .nils, (.int .i64 0), .nils, .nils, .nils, .nils, .nils, .nils]) [], none⟩,
  ⟨none, .store 20 (.t 3) (.t 6) [], none⟩]
def Tryz.a187r2 : ACode := .region [⟨(some 7), .mv (.t 0), none⟩,
  ⟨(some 8), .call (.c (.func 85 [] [])) [(.t 7), (.c (.int .i64 15))], none⟩]
def Tryz.a187r3 : ACode := .region [⟨(some 10), .bin .eql 0 (.t 8) (.c (.int .i64 0)), none⟩,
  ⟨(some 9), .mv (.t 10), none⟩]
def Tryz.a187r4 : ACode := .region [⟨(some 11), .bin .eql 0 (.t 8) (.c (.int .i64 1)), none⟩,
  ⟨(some 9), .mv (.t 11), none⟩]
def Tryz.a187r5 : ACode := .draw [⟨0, ⟨(some 12), .addo 0 (.t 3), none⟩, []⟩,
  ⟨1, ⟨(some 13), .load false 1 (.t 12), none⟩, []⟩,
  ⟨2, ⟨(some 14), .mv (.t 0), none⟩, []⟩,
  ⟨4, ⟨(some 16), .mv (.t 0), none⟩, []⟩,
  ⟨5, ⟨(some 17), .mv (.t 0), none⟩, []⟩,
  ⟨6, ⟨(some 18), .nilc (.t 17), none⟩, []⟩,
  ⟨7, ⟨(some 19), .addo 12 (.t 18), none⟩, []⟩,
  ⟨8, ⟨(some 20), .addo 9 (.t 19), none⟩, []⟩,
  ⟨9, ⟨(some 21), .load false 1 (.t 20), none⟩, []⟩,
  ⟨10, ⟨(some 22), .len 0 (.t 21), none⟩, []⟩,
  ⟨12, ⟨(some 24), .mv (.t 0), none⟩, []⟩,
  ⟨3, ⟨(some 15), .call (.c (.func 183 [] [])) [(.t 14)], none⟩, [1, 9, 10]⟩,
  ⟨11, ⟨(some 23), .call (.c (.func 85 [] [])) [(.t 16), (.t 22)], none⟩, [1]⟩,
  ⟨13, ⟨(some 25), .call (.c (.func 185 [] [])) [(.t 24), (.c (.int .i64 1))], none⟩, [1]⟩,
  ⟨14, ⟨(some 26), .build (.agg [(.int .i64 0), (.int .i64 0), (.int .i64 0), (.int .i64 0), (.int .i64 0), (.int .i64 0), (.int .i64 0), (.int .i64 0), .nils, (.int .i64 0), (.int .i64 0), (.int .i64 0), .nils, (.int .i64 0), .nils, .nils, .nils, .nils, .nils, .nils]) [((0, 1), (.t 13)), ((1, 1), (.c (.int .i64 2))), ((2, 1), (.t 15)), ((3, 1), (.t 23)), ((5, 4), (.t 25))], none⟩, []⟩,
  ⟨15, ⟨none, .store 20 (.t 2) (.t 26) [], none⟩, []⟩] [[], [0], [], [2], [], [], [5], [5, 6], [5, 6, 7], [5, 6, 7, 8], [5, 6, 7, 8, 9], [2, 3, 4, 5, 6, 7, 8, 9, 10], [], [2, 3, 4, 5, 6, 7, 8, 9, 10, 11, 12], [0, 1, 2, 3, 4, 5, 6, 7, 8, 9, 10, 11, 12, 13], [0, 1, 2, 3, 4, 5, 6, 7, 8, 9, 10, 11, 12, 13, 14]]
def Tryz.a187r6 : ACode := .region [⟨(some 28), .bin .eql 0 (.t 8) (.c (.int .i64 2)), none⟩,
  ⟨(some 27), .mv (.t 28), none⟩]
def Tryz.a187r7 : ACode := .draw [⟨0, ⟨(some 29), .addo 0 (.t 3), none⟩, []⟩,
  ⟨1, ⟨(some 30), .load false 1 (.t 29), none⟩, []⟩,
  ⟨2, ⟨(some 31), .mv (.t 0), none⟩, []⟩,
  ⟨3, ⟨(some 32), .mv (.t 0), none⟩, []⟩,
  ⟨4, ⟨(some 33), .nilc (.t 32), none⟩, []⟩,
  ⟨5, ⟨(some 34), .addo 12 (.t 33), none⟩, []⟩,
  ⟨6, ⟨(some 35), .addo 9 (.t 34), none⟩, []⟩,
  ⟨7, ⟨(some 36), .load false 1 (.t 35), none⟩, []⟩,
  ⟨8, ⟨(some 37), .len 0 (.t 36), none⟩, []⟩,
  ⟨10, ⟨(some 39), .mv (.t 0), none⟩, []⟩,
  ⟨12, ⟨(some 41), .mv (.t 0), none⟩, []⟩,
  ⟨9, ⟨(some 38), .call (.c (.func 85 [] [])) [(.t 31), (.t 37)], none⟩, [1]⟩,
  ⟨11, ⟨(some 40), .call (.c (.func 185 [] [])) [(.t 39), (.c (.int .i64 1))], none⟩, [1]⟩,
  ⟨13, ⟨(some 42), .call (.c (.func 185 [] [])) [(.t 41), (.c (.int .i64 1))], none⟩, [1]⟩,
  ⟨14, ⟨(some 43), .build (.agg [(.int .i64 0), (.int .i64 0), (.int .i64 0), (.int .i64 0), (.int .i64 0), (.int .i64 0), (.int .i64 0), (.int .i64 0), .nils, (.int .i64 0), (.int .i64 0), (.int .i64 0), .nils, (.int .i64 0), .nils, .nils, .nils, .nils, .nils, .nils]) [((0, 1), (.t 30)), ((1, 1), (.c (.int .i64 3))), ((3, 1), (.t 38)), ((5, 4), (.t 40)), ((9, 4), (.t 42))], none⟩, []⟩,
  ⟨15, ⟨none, .store 20 (.t 2) (.t 43) [], none⟩, []⟩] [[], [0], [], [], [3], [3, 4], [3, 4, 5], [3, 4, 5, 6], [3, 4, 5, 6, 7], [2, 3, 4, 5, 6, 7, 8], [], [2, 3, 4, 5, 6, 7, 8, 9, 10], [], [2, 3, 4, 5, 6, 7, 8, 9, 10, 11, 12], [0, 1, 2, 3, 4, 5, 6, 7, 8, 9, 10, 11, 12, 13], [0, 1, 2, 3, 4, 5, 6, 7, 8, 9, 10, 11, 12, 13, 14]]
def Tryz.a187r8 : ACode := .region [⟨(some 45), .bin .eql 0 (.t 8) (.c (.int .i64 3)), none⟩,
  ⟨(some 44), .mv (.t 45), none⟩]
def Tryz.a187r9 : ACode := .draw [⟨0, ⟨(some 46), .addo 0 (.t 3), none⟩, []⟩,
  ⟨1, ⟨(some 47), .load false 1 (.t 46), none⟩, []⟩,
  ⟨2, ⟨(some 48), .mv (.t 0), none⟩, []⟩,
  ⟨4, ⟨(some 50), .mv (.t 0), none⟩, []⟩,
  ⟨3, ⟨(some 49), .call (.c (.func 85 [] [])) [(.t 48), (.c (.int .i64 2))], none⟩, [1]⟩,
  ⟨5, ⟨(some 51), .call (.c (.func 185 [] [])) [(.t 50), (.c (.int .i64 1))], none⟩, [1]⟩,
  ⟨6, ⟨(some 52), .build (.agg [(.int .i64 0), (.int .i64 0), (.int .i64 0), (.int .i64 0), (.int .i64 0), (.int .i64 0), (.int .i64 0), (.int .i64 0), .nils, (.int .i64 0), (.int .i64 0), (.int .i64 0), .nils, (.int .i64 0), .nils, .nils, .nils, .nils, .nils, .nils]) [((0, 1), (.t 47)), ((1, 1), (.c (.int .i64 5))), ((3, 1), (.t 49)), ((5, 4), (.t 51))], none⟩, []⟩,
  ⟨7, ⟨none, .store 20 (.t 2) (.t 52) [], none⟩, []⟩] [[], [0], [], [2], [], [2, 3, 4], [0, 1, 2, 3, 4, 5], [0, 1, 2, 3, 4, 5, 6]]
def Tryz.a187r10 : ACode := .region [⟨(some 54), .bin .eql 0 (.t 8) (.c (.int .i64 4)), none⟩,
  ⟨(some 53), .mv (.t 54), none⟩]
def Tryz.a187r11 : ACode := .draw [⟨0, ⟨(some 55), .addo 0 (.t 3), none⟩, []⟩,
  ⟨1, ⟨(some 56), .load false 1 (.t 55), none⟩, []⟩,
  ⟨2, ⟨(some 57), .mv (.t 0), none⟩, []⟩,
  ⟨3, ⟨(some 58), .call (.c (.func 85 [] [])) [(.t 57), (.c (.int .i64 2))], none⟩, [1]⟩,
  ⟨4, ⟨(some 59), .build (.agg [(.int .i64 0), (.int .i64 0), (.int .i64 0), (.int .i64 0), (.int .i64 0), (.int .i64 0), (.int .i64 0), (.int .i64 0), .nils, (.int .i64 0), (.int .i64 0), (.int .i64 0), .nils, (.int .i64 0), .nils, .nils, .nils, .nils, .nils, .nils]) [((0, 1), (.t 56)), ((1, 1), (.c (.int .i64 6))), ((2, 1), (.t 58))], none⟩, []⟩,
  ⟨5, ⟨none, .store 20 (.t 2) (.t 59) [], none⟩, []⟩] [[], [0], [], [2], [0, 1, 2, 3], [0, 1, 2, 3, 4]]
def Tryz.a187r12 : ACode := .region [⟨(some 61), .bin .eql 0 (.t 8) (.c (.int .i64 5)), none⟩,
  ⟨(some 60), .mv (.t 61), none⟩]
def Tryz.a187r13 : ACode := .draw [⟨0, ⟨(some 62), .addo 0 (.t 3), none⟩, []⟩,
  ⟨1, ⟨(some 63), .load false 1 (.t 62), none⟩, []⟩,
  ⟨2, ⟨(some 64), .mv (.t 0), none⟩, []⟩,
  ⟨3, ⟨(some 65), .call (.c (.func 85 [] [])) [(.t 64), (.c (.int .i64 2))], none⟩, [1]⟩,
  ⟨4, ⟨(some 66), .build (.agg [(.int .i64 0), (.int .i64 0), (.int .i64 0), (.int .i64 0), (.int .i64 0), (.int .i64 0), (.int .i64 0), (.int .i64 0), .nils, (.int .i64 0), (.int .i64 0), (.int .i64 0), .nils, (.int .i64 0), .nils, .nils, .nils, .nils, .nils, .nils]) [((0, 1), (.t 63)), ((1, 1), (.c (.int .i64 7))), ((2, 1), (.t 65))], none⟩, []⟩,
  ⟨5, ⟨none, .store 20 (.t 2) (.t 66) [], none⟩, []⟩] [[], [0], [], [2], [0, 1, 2, 3], [0, 1, 2, 3, 4]]
def Tryz.a187r14 : ACode := .region [⟨(some 68), .bin .eql 0 (.t 8) (.c (.int .i64 6)), none⟩,
  ⟨(some 67), .mv (.t 68), none⟩]
def Tryz.a187r15 : ACode := .draw [⟨0, ⟨(some 69), .addo 0 (.t 3), none⟩, []⟩,
  ⟨1, ⟨(some 70), .load false 1 (.t 69), none⟩, []⟩,
  ⟨2, ⟨(some 71), .mv (.t 0), none⟩, []⟩,
  ⟨4, ⟨(some 73), .mv (.t 0), none⟩, []⟩,
  ⟨3, ⟨(some 72), .call (.c (.func 85 [] [])) [(.t 71), (.c (.int .i64 2))], none⟩, [1]⟩,
  ⟨5, ⟨(some 74), .call (.c (.func 85 [] [])) [(.t 73), (.c (.int .i64 2))], none⟩, [1]⟩,
  ⟨6, ⟨(some 75), .build (.agg [(.int .i64 0), (.int .i64 0), (.int .i64 0), (.int .i64 0), (.int .i64 0), (.int .i64 0), (.int .i64 0), (.int .i64 0), .nils, (.int .i64 0), (.int .i64 0), (.int .i64 0), .nils, (.int .i64 0), .nils, .nils, .nils, .nils, .nils, .nils]) [((0, 1), (.t 70)), ((1, 1), (.c (.int .i64 8))), ((2, 1), (.t 72)), ((3, 1), (.t 74))], none⟩, []⟩,
  ⟨7, ⟨none, .store 20 (.t 2) (.t 75) [], none⟩, []⟩] [[], [0], [], [2], [], [2, 3, 4], [0, 1, 2, 3, 4, 5], [0, 1, 2, 3, 4, 5, 6]]
def Tryz.a187r16 : ACode := .region [⟨(some 77), .bin .eql 0 (.t 8) (.c (.int .i64 7)), none⟩,
  ⟨(some 76), .mv (.t 77), none⟩]
def Tryz.a187r17 : ACode := .draw [⟨0, ⟨(some 78), .addo 0 (.t 3), none⟩, []⟩,
  ⟨1, ⟨(some 79), .load false 1 (.t 78), none⟩, []⟩,
  ⟨2, ⟨(some 80), .mv (.t 0), none⟩, []⟩,
  ⟨4, ⟨(some 82), .mv (.t 0), none⟩, []⟩,
  ⟨3, ⟨(some 81), .call (.c (.func 183 [] [])) [(.t 80)], none⟩, [1]⟩,
  ⟨5, ⟨(some 83), .call (.c (.func 85 [] [])) [(.t 82), (.c (.int .i64 2))], none⟩, [1]⟩,
  ⟨6, ⟨(some 84), .build (.agg [(.int .i64 0), (.int .i64 0), (.int .i64 0), (.int .i64 0), (.int .i64 0), (.int .i64 0), (.int .i64 0), (.int .i64 0), .nils, (.int .i64 0), (.int .i64 0), (.int .i64 0), .nils, (.int .i64 0), .nils, .nils, .nils, .nils, .nils, .nils]) [((0, 1), (.t 79)), ((1, 1), (.c (.int .i64 10))), ((2, 1), (.t 81)), ((3, 1), (.t 83))], none⟩, []⟩,
  ⟨7, ⟨none, .store 20 (.t 2) (.t 84) [], none⟩, []⟩] [[], [0], [], [2], [], [2, 3, 4], [0, 1, 2, 3, 4, 5], [0, 1, 2, 3, 4, 5, 6]]
def Tryz.a187r18 : ACode := .region [⟨(some 86), .bin .eql 0 (.t 8) (.c (.int .i64 8)), none⟩,
  ⟨(some 85), .mv (.t 86), none⟩]
def Tryz.a187r19 : ACode := .draw [⟨0, ⟨(some 87), .addo 0 (.t 3), none⟩, []⟩,
  ⟨1, ⟨(some 88), .load false 1 (.t 87), none⟩, []⟩,
  ⟨2, ⟨(some 89), .mv (.t 0), none⟩, []⟩,
  ⟨5, ⟨(some 92), .mv (.t 0), none⟩, []⟩,
  ⟨3, ⟨(some 90), .call (.c (.func 85 [] [])) [(.t 89), (.c (.int .i64 2))], none⟩, [1]⟩,
  ⟨4, ⟨(some 91), .bin .add 0 (.c (.int .i64 16)) (.t 90), none⟩, []⟩,
  ⟨6, ⟨(some 93), .call (.c (.func 85 [] [])) [(.t 92), (.c (.int .i64 3))], none⟩, [1]⟩,
  ⟨7, ⟨(some 94), .build (.agg [(.int .i64 0), (.int .i64 0), (.int .i64 0), (.int .i64 0), (.int .i64 0), (.int .i64 0), (.int .i64 0), (.int .i64 0), .nils, (.int .i64 0), (.int .i64 0), (.int .i64 0), .nils, (.int .i64 0), .nils, .nils, .nils, .nils, .nils, .nils]) [((0, 1), (.t 88)), ((1, 1), (.t 91)), ((3, 1), (.t 93))], none⟩, []⟩,
  ⟨8, ⟨none, .store 20 (.t 2) (.t 94) [], none⟩, []⟩] [[], [0], [], [2], [2, 3], [], [2, 3, 5], [0, 1, 2, 3, 4, 5, 6], [0, 1, 2, 3, 4, 5, 6, 7]]
def Tryz.a187r20 : ACode := .region [⟨(some 96), .bin .eql 0 (.t 8) (.c (.int .i64 9)), none⟩,
  ⟨(some 95), .mv (.t 96), none⟩]
def Tryz.a187r21 : ACode := .draw [⟨0, ⟨(some 97), .addo 0 (.t 3), none⟩, []⟩,
  ⟨1, ⟨(some 98), .load false 1 (.t 97), none⟩, []⟩,
  ⟨2, ⟨(some 99), .mv (.t 0), none⟩, []⟩,
  ⟨3, ⟨(some 100), .call (.c (.func 185 [] [])) [(.t 99), (.c (.int .i64 1))], none⟩, [1]⟩,
  ⟨4, ⟨(some 101), .build (.agg [(.int .i64 0), (.int .i64 0), (.int .i64 0), (.int .i64 0), (.int .i64 0), (.int .i64 0), (.int .i64 0), (.int .i64 0), .nils, (.int .i64 0), (.int .i64 0), (.int .i64 0), .nils, (.int .i64 0), .nils, .nils, .nils, .nils, .nils, .nils]) [((0, 1), (.t 98)), ((1, 1), (.c (.int .i64 18))), ((5, 4), (.t 100))], none⟩, []⟩,
  ⟨5, ⟨none, .store 20 (.t 2) (.t 101) [], none⟩, []⟩] [[], [0], [], [2], [0, 1, 2, 3], [0, 1, 2, 3, 4]]
def Tryz.a187r22 : ACode := .region [⟨(some 103), .bin .eql 0 (.t 8) (.c (.int .i64 10)), none⟩,
  ⟨(some 102), .mv (.t 103), none⟩]
def Tryz.a187r23 : ACode := .draw [⟨0, ⟨(some 104), .addo 0 (.t 3), none⟩, []⟩,
  ⟨1, ⟨(some 105), .load false 1 (.t 104), none⟩, []⟩,
  ⟨2, ⟨(some 106), .mv (.t 0), none⟩, []⟩,
  ⟨3, ⟨(some 107), .call (.c (.func 183 [] [])) [(.t 106)], none⟩, [1]⟩,
  ⟨4, ⟨(some 108), .build (.agg [(.int .i64 0), (.int .i64 0), (.int .i64 0), (.int .i64 0), (.int .i64 0), (.int .i64 0), (.int .i64 0), (.int .i64 0), .nils, (.int .i64 0), (.int .i64 0), (.int .i64 0), .nils, (.int .i64 0), .nils, .nils, .nils, .nils, .nils, .nils]) [((0, 1), (.t 105)), ((1, 1), (.c (.int .i64 19))), ((2, 1), (.t 107))], none⟩, []⟩,
  ⟨5, ⟨none, .store 20 (.t 2) (.t 108) [], none⟩, []⟩] [[], [0], [], [2], [0, 1, 2, 3], [0, 1, 2, 3, 4]]
def Tryz.a187r24 : ACode := .region [⟨(some 110), .bin .eql 0 (.t 8) (.c (.int .i64 11)), none⟩,
  ⟨(some 109), .mv (.t 110), none⟩]
def Tryz.a187r25 : ACode := .draw [⟨0, ⟨(some 111), .addo 0 (.t 3), none⟩, []⟩,
  ⟨1, ⟨(some 112), .load false 1 (.t 111), none⟩, []⟩,
  ⟨2, ⟨(some 113), .mv (.t 0), none⟩, []⟩,
  ⟨4, ⟨(some 115), .mv (.t 0), none⟩, []⟩,
  ⟨3, ⟨(some 114), .call (.c (.func 85 [] [])) [(.t 113), (.c (.int .i64 3))], none⟩, [1]⟩,
  ⟨5, ⟨(some 116), .call (.c (.func 185 [] [])) [(.t 115), (.c (.int .i64 1))], none⟩, [1]⟩,
  ⟨6, ⟨(some 117), .build (.agg [(.int .i64 0), (.int .i64 0), (.int .i64 0), (.int .i64 0), (.int .i64 0), (.int .i64 0), (.int .i64 0), (.int .i64 0), .nils, (.int .i64 0), (.int .i64 0), (.int .i64 0), .nils, (.int .i64 0), .nils, .nils, .nils, .nils, .nils, .nils]) [((0, 1), (.t 112)), ((1, 1), (.c (.int .i64 21))), ((3, 1), (.t 114)), ((5, 4), (.t 116))], none⟩, []⟩,
  ⟨7, ⟨none, .store 20 (.t 2) (.t 117) [], none⟩, []⟩] [[], [0], [], [2], [], [2, 3, 4], [0, 1, 2, 3, 4, 5], [0, 1, 2, 3, 4, 5, 6]]
def Tryz.a187r26 : ACode := .region [⟨(some 119), .bin .eql 0 (.t 8) (.c (.int .i64 12)), none⟩,
  ⟨(some 118), .mv (.t 119), none⟩]
def Tryz.a187r27 : ACode := .draw [⟨0, ⟨(some 120), .addo 0 (.t 3), none⟩, []⟩,
  ⟨1, ⟨(some 121), .load false 1 (.t 120), none⟩, []⟩,
  ⟨2, ⟨(some 122), .mv (.t 0), none⟩, []⟩,
  ⟨3, ⟨(some 123), .call (.c (.func 85 [] [])) [(.t 122), (.c (.int .i64 3))], none⟩, [1]⟩,
  ⟨4, ⟨(some 124), .build (.agg [(.int .i64 0), (.int .i64 0), (.int .i64 0), (.int .i64 0), (.int .i64 0), (.int .i64 0), (.int .i64 0), (.int .i64 0), .nils, (.int .i64 0), (.int .i64 0), (.int .i64 0), .nils, (.int .i64 0), .nils, .nils, .nils, .nils, .nils, .nils]) [((0, 1), (.t 121)), ((1, 1), (.c (.int .i64 22))), ((3, 1), (.t 123))], none⟩, []⟩,
  ⟨5, ⟨none, .store 20 (.t 2) (.t 124) [], none⟩, []⟩] [[], [0], [], [2], [0, 1, 2, 3], [0, 1, 2, 3, 4]]
def Tryz.a187r28 : ACode := .region [⟨(some 126), .bin .eql 0 (.t 8) (.c (.int .i64 13)), none⟩,
  ⟨(some 125), .mv (.t 126), none⟩]
def Tryz.a187r29 : ACode := .draw [⟨0, ⟨(some 127), .addo 0 (.t 3), none⟩, []⟩,
  ⟨1, ⟨(some 128), .load false 1 (.t 127), none⟩, []⟩,
  ⟨2, ⟨(some 129), .mv (.t 0), none⟩, []⟩,
  ⟨3, ⟨(some 130), .call (.c (.func 182 [] [])) [(.t 129), (.c (.int .i64 1))], none⟩, [1]⟩,
  ⟨4, ⟨(some 131), .build (.agg [(.int .i64 0), (.int .i64 0), (.int .i64 0), (.int .i64 0), (.int .i64 0), (.int .i64 0), (.int .i64 0), (.int .i64 0), .nils, (.int .i64 0), (.int .i64 0), (.int .i64 0), .nils, (.int .i64 0), .nils, .nils, .nils, .nils, .nils, .nils]) [((0, 1), (.t 128)), ((1, 1), (.c (.int .i64 23))), ((13, 3), (.t 130))], none⟩, []⟩,
  ⟨5, ⟨none, .store 20 (.t 2) (.t 131) [], none⟩, []⟩] [[], [0], [], [2], [0, 1, 2, 3], [0, 1, 2, 3, 4]]
def Tryz.a187r30 : ACode := .draw [⟨0, ⟨(some 132), .addo 0 (.t 3), none⟩, []⟩,
  ⟨1, ⟨(some 133), .load false 1 (.t 132), none⟩, []⟩,
  ⟨2, ⟨(some 134), .mv (.t 0), none⟩, []⟩,
  ⟨4, ⟨(some 136), .mv (.t 0), none⟩, []⟩,
  ⟨3, ⟨(some 135), .call (.c (.func 85 [] [])) [(.t 134), (.c (.int .i64 2))], none⟩, [1]⟩,
  ⟨5, ⟨(some 137), .call (.c (.func 185 [] [])) [(.t 136), (.c (.int .i64 1))], none⟩, [1]⟩,
  ⟨6, ⟨(some 138), .build (.agg [(.int .i64 0), (.int .i64 0), (.int .i64 0), (.int .i64 0), (.int .i64 0), (.int .i64 0), (.int .i64 0), (.int .i64 0), .nils, (.int .i64 0), (.int .i64 0), (.int .i64 0), .nils, (.int .i64 0), .nils, .nils, .nils, .nils, .nils, .nils]) [((0, 1), (.t 133)), ((1, 1), (.c (.int .i64 9))), ((2, 1), (.t 135)), ((5, 4), (.t 137))], none⟩, []⟩,
  ⟨7, ⟨none, .store 20 (.t 2) (.t 138) [], none⟩, []⟩] [[], [0], [], [2], [], [2, 3, 4], [0, 1, 2, 3, 4, 5], [0, 1, 2, 3, 4, 5, 6]]
def Tryz.c187 : ACode := .seq (Tryz.a187r0) (.seq (Tryz.a187r1) (.seq (.seq (Tryz.a187r2) (.block 0 (.seq (.seq (Tryz.a187r3) (.cond (.t 9) (.skip) (Tryz.a187r4))) (.cond (.t 9) (.seq (Tryz.a187r5) (.ret)) (.seq (Tryz.a187r6) (.cond (.t 27) (.seq (Tryz.a187r7) (.ret)) (.seq (Tryz.a187r8) (.cond (.t 44) (.seq (Tryz.a187r9) (.ret)) (.seq (Tryz.a187r10) (.cond (.t 53) (.seq (Tryz.a187r11) (.ret)) (.seq (Tryz.a187r12) (.cond (.t 60) (.seq (Tryz.a187r13) (.ret)) (.seq (Tryz.a187r14) (.cond (.t 67) (.seq (Tryz.a187r15) (.ret)) (.seq (Tryz.a187r16) (.cond (.t 76) (.seq (Tryz.a187r17) (.ret)) (.seq (Tryz.a187r18) (.cond (.t 85) (.seq (Tryz.a187r19) (.ret)) (.seq (Tryz.a187r20) (.cond (.t 95) (.seq (Tryz.a187r21) (.ret)) (.seq (Tryz.a187r22) (.cond (.t 102) (.seq (Tryz.a187r23) (.ret)) (.seq (Tryz.a187r24) (.cond (.t 109) (.seq (Tryz.a187r25) (.ret)) (.seq (Tryz.a187r26) (.cond (.t 118) (.seq (Tryz.a187r27) (.ret)) (.seq (Tryz.a187r28) (.cond (.t 125) (.seq (Tryz.a187r29) (.ret)) (.skip))))))))))))))))))))))))))))) (.seq (Tryz.a187r30) (.ret))))
def Tryz.a187 : AFunc := ⟨139, Tryz.c187, [(2, some (true, 20))], false⟩
theorem Tryz.a187_ok : chkFunc Tryz.prog Tryz.eqs Tryz.f187 Tryz.a187 = true := by kernel_rfl
theorem Tryz.w187 {first caps args : List AVal} {heap : List AObj} {K : AVal → List AObj → Prop} (N : Nat) (h : Ex (cfg Tryz.prog Tryz.eqs N) Tryz.c187 ⟨(first ++ args ++ caps) ++ List.replicate (139 - (first ++ args ++ caps).length) .undef, heap⟩ (kfun (cfg Tryz.prog Tryz.eqs N) [(2, some (true, 20))] false heap.length K)) : Hs Tryz.prog Tryz.eqs (.func 187 first caps) args heap K := Hs.enter Tryz.eqs_plain N (fn := Tryz.f187) (by kernel_rfl) Tryz.a187_ok h
def Tryz.a197r0 : ACode := .region [⟨(some 4), .box (.t 1) [], none⟩,
  ⟨(some 5), .box (.t 2) [], none⟩,
  ⟨(some 6), .alloc 3 (.agg [(.int .i64 0), .nils, .nils]) [], none⟩]
def Tryz.a197r1 : ACode := .region [⟨(some 7), .mv (.t 0), none⟩,
  ⟨(some 8), .load true 4 (.t 4), none⟩,
  ⟨(some 9), .load true 4 (.t 5), none⟩,
  ⟨(some 10), .lit 4 [(.t 8), (.t 9)], none⟩,
  ⟨(some 11), .build (.agg [(.int .i64 0), .nils, .nils]) [((0, 1), (.t 7)), ((1, 1), (.t 10))], none⟩,
  ⟨none, .store 3 (.t 6) (.t 11) [], none⟩]
def Tryz.c197 : ACode := .seq (Tryz.a197r0) (.seq (Tryz.a197r1) (.ret))
def Tryz.a197 : AFunc := ⟨12, Tryz.c197, [(6, some (true, 3))], false⟩
theorem Tryz.a197_ok : chkFunc Tryz.prog Tryz.eqs Tryz.f197 Tryz.a197 = true := by kernel_rfl
theorem Tryz.w197 {first caps args : List AVal} {heap : List AObj} {K : AVal → List AObj → Prop} (N : Nat) (h : Ex (cfg Tryz.prog Tryz.eqs N) Tryz.c197 ⟨(first ++ args ++ caps) ++ List.replicate (12 - (first ++ args ++ caps).length) .undef, heap⟩ (kfun (cfg Tryz.prog Tryz.eqs N) [(6, some (true, 3))] false heap.length K)) : Hs Tryz.prog Tryz.eqs (.func 197 first caps) args heap K := Hs.enter Tryz.eqs_plain N (fn := Tryz.f197) (by kernel_rfl) Tryz.a197_ok h
def Tryz.a198r0 : ACode := .region [⟨(some 1), .box (.t 0) [], none⟩,
  ⟨(some 2), .alloc 3 (.agg [(.int .i64 0), .nils, .nils]) [], none⟩]
def Tryz.a198r1 : ACode := .region [⟨(some 3), .load true 3 (.t 1), none⟩,
  ⟨(some 4), .lit 3 [(.t 3)], none⟩,
  ⟨(some 5), .build (.agg [(.int .i64 0), .nils, .nils]) [((0, 1), (.c (.int .i64 5))), ((2, 1), (.t 4))], none⟩,
  ⟨none, .store 3 (.t 2) (.t 5) [], none⟩]
def Tryz.c198 : ACode := .seq (Tryz.a198r0) (.seq (Tryz.a198r1) (.ret))
def Tryz.a198 : AFunc := ⟨6, Tryz.c198, [(2, some (true, 3))], false⟩
theorem Tryz.a198_ok : chkFunc Tryz.prog Tryz.eqs Tryz.f198 Tryz.a198 = true := by kernel_rfl
theorem Tryz.w198 {first caps args : List AVal} {heap : List AObj} {K : AVal → List AObj → Prop} (N : Nat) (h : Ex (cfg Tryz.prog Tryz.eqs N) Tryz.c198 ⟨(first ++ args ++ caps) ++ List.replicate (6 - (first ++ args ++ caps).length) .undef, heap⟩ (kfun (cfg Tryz.prog Tryz.eqs N) [(2, some (true, 3))] false heap.length K)) : Hs Tryz.prog Tryz.eqs (.func 198 first caps) args heap K := Hs.enter Tryz.eqs_plain N (fn := Tryz.f198) (by kernel_rfl) Tryz.a198_ok h
def Tryz.a199r0 : ACode := .region [⟨(some 4), .box (.t 1) [], none⟩,
  ⟨(some 5), .box (.t 2) [], none⟩,
  ⟨(some 6), .alloc 4 (.agg [(.int .i64 0), (.int .i64 0), (.int .i64 0), .nils]) [], none⟩]
def Tryz.a199r1 : ACode := .region [⟨(some 7), .mv (.t 0), none⟩,
  ⟨(some 8), .load true 4 (.t 4), none⟩,
  ⟨(some 9), .load true 4 (.t 5), none⟩,
  ⟨(some 10), .lit 4 [(.t 8), (.t 9)], none⟩,
  ⟨(some 11), .build (.agg [(.int .i64 0), (.int .i64 0), (.int .i64 0), .nils]) [((0, 1), (.t 7)), ((3, 1), (.t 10))], none⟩,
  ⟨none, .store 4 (.t 6) (.t 11) [], none⟩]
def Tryz.c199 : ACode := .seq (Tryz.a199r0) (.seq (Tryz.a199r1) (.ret))
def Tryz.a199 : AFunc := ⟨12, Tryz.c199, [(6, some (true, 4))], false⟩
theorem Tryz.a199_ok : chkFunc Tryz.prog Tryz.eqs Tryz.f199 Tryz.a199 = true := by kernel_rfl
theorem Tryz.w199 {first caps args : List AVal} {heap : List AObj} {K : AVal → List AObj → Prop} (N : Nat) (h : Ex (cfg Tryz.prog Tryz.eqs N) Tryz.c199 ⟨(first ++ args ++ caps) ++ List.replicate (12 - (first ++ args ++ caps).length) .undef, heap⟩ (kfun (cfg Tryz.prog Tryz.eqs N) [(6, some (true, 4))] false heap.length K)) : Hs Tryz.prog Tryz.eqs (.func 199 first caps) args heap K := Hs.enter Tryz.eqs_plain N (fn := Tryz.f199) (by kernel_rfl) Tryz.a199_ok h
end Go.Proofs

