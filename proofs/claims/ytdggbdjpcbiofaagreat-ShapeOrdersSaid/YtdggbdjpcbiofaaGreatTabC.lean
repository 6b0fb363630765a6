/- Tables for the abstract interpreter: the functions of the seat, and that they are the program's. Printed by gen.py. -/
import Derived.KernelRfl
import Derived.Test.YtdggbdjpcbiofaaGreatProg
import Derived.Test.YtdggbdjpcbiofaaGreatEqs
import Derived.Test.YtdggbdjpcbiofaaGreatAiWalkD
namespace Go.Proofs
open Go.Ai
set_option maxRecDepth 100000
def Tryz.a4r0 : ACode := .region [⟨(some 2), .box (.t 0) [], none⟩,
  ⟨(some 4), .mv (.c (.bool false)), none⟩]
def Tryz.a4r1 : ACode := .region [⟨(some 13), .call (.c (.func 13 [] [])) [], none⟩,
  ⟨(some 5), .mv (.t 13), none⟩]
def Tryz.a4r2 : ACode := .region [⟨(some 14), .mv (.t 5), none⟩,
  ⟨(some 15), .un .not (.t 14), none⟩]
def Tryz.a4r3 : ACode := .region [⟨(some 4), .mv (.c (.bool false)), none⟩]
def Tryz.a4r4 : ACode := .region [⟨(some 16), .load true 1 (.t 2), none⟩,
  ⟨(some 17), .call (.c (.func 14 [] [])) [(.t 16)], none⟩,
  ⟨(some 18), .mv (.t 1), none⟩,
  ⟨(some 19), .bin .and 0 (.t 18) (.c (.int .i64 3)), none⟩,
  ⟨(some 20), .bin .add 0 (.c (.int .i64 11)) (.t 19), none⟩,
  ⟨(some 21), .call (.c (.func 20 [] [])) [(.t 17), (.t 20)], none⟩,
  ⟨(some 6), .alloc 10 (.agg [.nils, .nils, .nils, .nils, (.int .i64 0), (.int .i64 0), (.int .i64 0), .nils, .nils, .nils]) [], none⟩,
  ⟨none, .store 10 (.t 6) (.t 21) [], none⟩]
def Tryz.a4r5 : ACode := .region [⟨(some 22), .load true 10 (.t 6), none⟩,
  ⟨(some 23), .call (.c (.func 21 [] [])) [(.t 22)], none⟩,
  ⟨(some 7), .mv (.t 23), none⟩]
def Tryz.a4r6 : ACode := .region [⟨(some 24), .mv (.t 7), none⟩,
  ⟨(some 25), .len 0 (.t 24), none⟩,
  ⟨(some 26), .addo 8 (.t 6), none⟩,
  ⟨(some 27), .load false 1 (.t 26), none⟩,
  ⟨(some 28), .len 0 (.t 27), none⟩,
  ⟨(some 29), .bin .neq 0 (.t 25) (.t 28), none⟩,
  ⟨(some 30), .mv (.t 29), none⟩,
  ⟨(some 31), .mv (.t 7), (some (30, false))⟩,
  ⟨(some 32), .call (.c (.func 16 [] [])) [(.t 31)], (some (30, false))⟩,
  ⟨(some 33), .un .not (.t 32), (some (30, false))⟩,
  ⟨(some 34), .pick (.t 30) (.c (.bool true)) (.t 33), none⟩]
def Tryz.a4r7 : ACode := .region [⟨(some 4), .mv (.c (.bool false)), none⟩]
def Tryz.a4r8 : ACode := .region [⟨(some 8), .mv (.c (.int .i64 0)), none⟩]
def Tryz.a4r9 : ACode := .region [⟨(some 35), .mv (.t 8), none⟩,
  ⟨(some 36), .mv (.t 7), none⟩,
  ⟨(some 37), .len 0 (.t 36), none⟩,
  ⟨(some 38), .bin .lss 0 (.t 35) (.t 37), none⟩]
def Tryz.a4r10 : ACode := .draw [⟨0, ⟨(some 41), .load true 10 (.t 6), none⟩, []⟩,
  ⟨1, ⟨(some 42), .mv (.t 7), none⟩, []⟩,
  ⟨2, ⟨(some 43), .mv (.t 8), none⟩, []⟩,
  ⟨3, ⟨(some 44), .idx 1 (.t 42) (.t 43), none⟩, []⟩,
  ⟨4, ⟨(some 45), .load false 1 (.t 44), none⟩, []⟩,
  ⟨6, ⟨(some 9), .pend 13, none⟩, []⟩,
  ⟨5, ⟨(some 46), .call (.c (.func 22 [] [])) [(.t 41), (.t 45)], none⟩, []⟩,
  ⟨7, ⟨none, .pstore 13 9 (.t 46), none⟩, []⟩] [[], [], [], [1, 2], [1, 2, 3], [0, 1, 2, 3, 4], [], [0, 1, 2, 3, 4, 5, 6]]
def Tryz.a4r11 : ACode := .draw [⟨0, ⟨(some 47), .addo 12 (.t 9), none⟩, []⟩,
  ⟨1, ⟨(some 48), .load false 1 (.t 47), none⟩, []⟩,
  ⟨2, ⟨(some 49), .un .not (.t 48), none⟩, []⟩,
  ⟨3, ⟨(some 50), .mv (.t 49), none⟩, []⟩,
  ⟨4, ⟨(some 51), .addo 0 (.t 9), (some (50, false))⟩, []⟩,
  ⟨5, ⟨(some 52), .addo 0 (.t 51), (some (50, false))⟩, []⟩,
  ⟨6, ⟨(some 53), .load false 1 (.t 52), (some (50, false))⟩, []⟩,
  ⟨7, ⟨(some 54), .mv (.t 7), (some (50, false))⟩, []⟩,
  ⟨8, ⟨(some 55), .mv (.t 8), (some (50, false))⟩, []⟩,
  ⟨9, ⟨(some 56), .idx 1 (.t 54) (.t 55), (some (50, false))⟩, []⟩,
  ⟨10, ⟨(some 57), .load false 1 (.t 56), (some (50, false))⟩, []⟩,
  ⟨11, ⟨(some 58), .bin .neq 0 (.t 53) (.t 57), (some (50, false))⟩, []⟩,
  ⟨12, ⟨(some 59), .pick (.t 50) (.c (.bool true)) (.t 58), none⟩, []⟩] [[], [0], [0, 1], [0, 1, 2], [0, 1, 2, 3], [0, 1, 2, 3, 4], [0, 1, 2, 3, 4, 5], [0, 1, 2, 3], [0, 1, 2, 3], [0, 1, 2, 3, 7, 8], [0, 1, 2, 3, 7, 8, 9], [0, 1, 2, 3, 4, 5, 6, 7, 8, 9, 10], [0, 1, 2, 3, 4, 5, 6, 7, 8, 9, 10, 11]]
def Tryz.a4r12 : ACode := .region [⟨(some 4), .mv (.c (.bool false)), none⟩]
def Tryz.a4r13 : ACode := .region [⟨(some 60), .addo 0 (.t 9), none⟩,
  ⟨(some 61), .load true 12 (.t 60), none⟩,
  ⟨(some 62), .call (.c (.func 23 [] [])) [(.t 61)], none⟩,
  ⟨(some 10), .mv (.t 62), none⟩]
def Tryz.a4r14 : ACode := .region [⟨(some 11), .mv (.c (.int .i64 0)), none⟩]
def Tryz.a4r15 : ACode := .region [⟨(some 63), .mv (.t 11), none⟩,
  ⟨(some 64), .mv (.t 10), none⟩,
  ⟨(some 65), .len 0 (.t 64), none⟩,
  ⟨(some 66), .bin .lss 0 (.t 63) (.t 65), none⟩]
def Tryz.a4r16 : ACode := .draw [⟨0, ⟨(some 69), .load true 10 (.t 6), none⟩, []⟩,
  ⟨1, ⟨(some 70), .mv (.t 10), none⟩, []⟩,
  ⟨2, ⟨(some 71), .mv (.t 11), none⟩, []⟩,
  ⟨3, ⟨(some 72), .idx 1 (.t 70) (.t 71), none⟩, []⟩,
  ⟨4, ⟨(some 73), .load false 1 (.t 72), none⟩, []⟩,
  ⟨5, ⟨(some 74), .call (.c (.func 22 [] [])) [(.t 69), (.t 73)], none⟩, []⟩,
  ⟨6, ⟨(some 75), .field false 1 12 (.t 74), none⟩, []⟩,
  ⟨7, ⟨(some 76), .mv (.t 75), none⟩, []⟩,
  ⟨8, ⟨(some 77), .mv (.t 7), (some (76, true))⟩, []⟩,
  ⟨9, ⟨(some 78), .mv (.t 8), (some (76, true))⟩, []⟩,
  ⟨10, ⟨(some 79), .slice 1 (.t 77) none (some (.t 78)), (some (76, true))⟩, []⟩,
  ⟨11, ⟨(some 80), .mv (.t 10), (some (76, true))⟩, []⟩,
  ⟨12, ⟨(some 81), .mv (.t 11), (some (76, true))⟩, []⟩,
  ⟨13, ⟨(some 82), .idx 1 (.t 80) (.t 81), (some (76, true))⟩, []⟩,
  ⟨14, ⟨(some 83), .load false 1 (.t 82), (some (76, true))⟩, []⟩,
  ⟨15, ⟨(some 84), .call (.c (.func 19 [] [])) [(.t 79), (.t 83)], (some (76, true))⟩, []⟩,
  ⟨16, ⟨(some 85), .un .not (.t 84), (some (76, true))⟩, []⟩,
  ⟨17, ⟨(some 86), .pick (.t 76) (.t 85) (.c (.bool false)), none⟩, []⟩] [[], [], [], [1, 2], [1, 2, 3], [0, 1, 2, 3, 4], [0, 1, 2, 3, 4, 5], [0, 1, 2, 3, 4, 5, 6], [0, 1, 2, 3, 4, 5, 6, 7], [0, 1, 2, 3, 4, 5, 6, 7], [0, 1, 2, 3, 4, 5, 6, 7, 8, 9], [0, 1, 2, 3, 4, 5, 6, 7], [0, 1, 2, 3, 4, 5, 6, 7], [0, 1, 2, 3, 4, 5, 6, 7, 11, 12], [0, 1, 2, 3, 4, 5, 6, 7, 11, 12, 13], [0, 1, 2, 3, 4, 5, 6, 7, 8, 9, 10, 11, 12, 13, 14], [0, 1, 2, 3, 4, 5, 6, 7, 8, 9, 10, 11, 12, 13, 14, 15], [0, 1, 2, 3, 4, 5, 6, 7, 8, 9, 10, 11, 12, 13, 14, 15, 16]]
def Tryz.a4r17 : ACode := .region [⟨(some 4), .mv (.c (.bool false)), none⟩]
def Tryz.a4r18 : ACode := .region [⟨(some 67), .mv (.t 11), none⟩,
  ⟨(some 68), .bin .add 0 (.t 67) (.c (.int .i64 1)), none⟩,
  ⟨(some 11), .mv (.t 68), none⟩]
def Tryz.a4l19 : ACode := .seq (.seq (Tryz.a4r15) (.cond (.t 66) (.skip) (.exit 2))) (.seq (.block 3 (.seq (Tryz.a4r16) (.cond (.t 86) (.seq (Tryz.a4r17) (.ret)) (.skip)))) (Tryz.a4r18))
def Tryz.a4r20 : ACode := .region [⟨(some 87), .mv (.t 8), none⟩,
  ⟨(some 88), .bin .add 0 (.t 87) (.c (.int .i64 1)), none⟩,
  ⟨(some 12), .mv (.t 88), none⟩]
def Tryz.a4r21 : ACode := .region [⟨(some 89), .mv (.t 12), none⟩,
  ⟨(some 90), .mv (.t 7), none⟩,
  ⟨(some 91), .len 0 (.t 90), none⟩,
  ⟨(some 92), .bin .lss 0 (.t 89) (.t 91), none⟩]
def Tryz.a4r22 : ACode := .draw [⟨0, ⟨(some 95), .mv (.t 7), none⟩, []⟩,
  ⟨1, ⟨(some 96), .mv (.t 12), none⟩, []⟩,
  ⟨2, ⟨(some 97), .idx 1 (.t 95) (.t 96), none⟩, []⟩,
  ⟨3, ⟨(some 98), .load false 1 (.t 97), none⟩, []⟩,
  ⟨4, ⟨(some 99), .mv (.t 7), none⟩, []⟩,
  ⟨5, ⟨(some 100), .mv (.t 8), none⟩, []⟩,
  ⟨6, ⟨(some 101), .idx 1 (.t 99) (.t 100), none⟩, []⟩,
  ⟨7, ⟨(some 102), .load false 1 (.t 101), none⟩, []⟩,
  ⟨8, ⟨(some 103), .bin .lss 0 (.t 98) (.t 102), none⟩, []⟩,
  ⟨9, ⟨(some 104), .mv (.t 103), none⟩, []⟩,
  ⟨10, ⟨(some 105), .load true 10 (.t 6), (some (104, true))⟩, []⟩,
  ⟨11, ⟨(some 106), .mv (.t 7), (some (104, true))⟩, []⟩,
  ⟨12, ⟨(some 107), .mv (.t 12), (some (104, true))⟩, []⟩,
  ⟨13, ⟨(some 108), .idx 1 (.t 106) (.t 107), (some (104, true))⟩, []⟩,
  ⟨14, ⟨(some 109), .load false 1 (.t 108), (some (104, true))⟩, []⟩,
  ⟨15, ⟨(some 110), .mv (.t 7), (some (104, true))⟩, []⟩,
  ⟨16, ⟨(some 111), .mv (.t 8), (some (104, true))⟩, []⟩,
  ⟨17, ⟨(some 112), .slice 1 (.t 110) none (some (.t 111)), (some (104, true))⟩, []⟩,
  ⟨18, ⟨(some 113), .call (.c (.func 24 [] [])) [(.t 105), (.t 109), (.t 112)], (some (104, true))⟩, []⟩,
  ⟨19, ⟨(some 114), .pick (.t 104) (.t 113) (.c (.bool false)), none⟩, []⟩] [[], [], [0, 1], [0, 1, 2], [], [], [4, 5], [4, 5, 6], [0, 1, 2, 3, 4, 5, 6, 7], [0, 1, 2, 3, 4, 5, 6, 7, 8], [0, 1, 2, 3, 4, 5, 6, 7, 8, 9], [0, 1, 2, 3, 4, 5, 6, 7, 8, 9], [0, 1, 2, 3, 4, 5, 6, 7, 8, 9], [0, 1, 2, 3, 4, 5, 6, 7, 8, 9, 11, 12], [0, 1, 2, 3, 4, 5, 6, 7, 8, 9, 11, 12, 13], [0, 1, 2, 3, 4, 5, 6, 7, 8, 9], [0, 1, 2, 3, 4, 5, 6, 7, 8, 9], [0, 1, 2, 3, 4, 5, 6, 7, 8, 9, 15, 16], [0, 1, 2, 3, 4, 5, 6, 7, 8, 9, 10, 11, 12, 13, 14, 15, 16, 17], [0, 1, 2, 3, 4, 5, 6, 7, 8, 9, 10, 11, 12, 13, 14, 15, 16, 17, 18]]
def Tryz.a4r23 : ACode := .region [⟨(some 4), .mv (.c (.bool false)), none⟩]
def Tryz.a4r24 : ACode := .region [⟨(some 93), .mv (.t 12), none⟩,
  ⟨(some 94), .bin .add 0 (.t 93) (.c (.int .i64 1)), none⟩,
  ⟨(some 12), .mv (.t 94), none⟩]
def Tryz.a4l25 : ACode := .seq (.seq (Tryz.a4r21) (.cond (.t 92) (.skip) (.exit 4))) (.seq (.block 5 (.seq (Tryz.a4r22) (.cond (.t 114) (.seq (Tryz.a4r23) (.ret)) (.skip)))) (Tryz.a4r24))
def Tryz.a4r26 : ACode := .region [⟨(some 39), .mv (.t 8), none⟩,
  ⟨(some 40), .bin .add 0 (.t 39) (.c (.int .i64 1)), none⟩,
  ⟨(some 8), .mv (.t 40), none⟩]
def Tryz.a4l27 : ACode := .seq (.seq (Tryz.a4r9) (.cond (.t 38) (.skip) (.exit 0))) (.seq (.block 1 (.seq (Tryz.a4r10) (.seq (.seq (Tryz.a4r11) (.cond (.t 59) (.seq (Tryz.a4r12) (.ret)) (.skip))) (.seq (Tryz.a4r13) (.seq (.seq (Tryz.a4r14) (.block 2 (.loop [5, 6, 7, 8, 10, 11] Tryz.a4l19))) (.seq (Tryz.a4r20) (.block 4 (.loop [5, 6, 7, 8, 12] Tryz.a4l25)))))))) (Tryz.a4r26))
def Tryz.a4r28 : ACode := .region [⟨(some 115), .mv (.t 5), none⟩,
  ⟨(some 4), .mv (.t 115), none⟩]
def Tryz.c4 : ACode := .seq (Tryz.a4r0) (.seq (Tryz.a4r1) (.seq (.seq (Tryz.a4r2) (.cond (.t 15) (.seq (Tryz.a4r3) (.ret)) (.skip))) (.seq (Tryz.a4r4) (.seq (Tryz.a4r5) (.seq (.seq (Tryz.a4r6) (.cond (.t 34) (.seq (Tryz.a4r7) (.ret)) (.skip))) (.seq (.seq (Tryz.a4r8) (.block 0 (.loop [5, 6, 7, 8] Tryz.a4l27))) (.seq (Tryz.a4r28) (.ret))))))))
def Tryz.a4 : AFunc := ⟨116, Tryz.c4, [(4, none)], false⟩
theorem Tryz.a4_ok : chkFunc Tryz.prog Tryz.eqs Tryz.f4 Tryz.a4 = true := by kernel_rfl
theorem Tryz.w4 {first caps args : List AVal} {heap : List AObj} {K : AVal → List AObj → Prop} (N : Nat) (h : Ex (cfg Tryz.prog Tryz.eqs N) Tryz.c4 ⟨(first ++ args ++ caps) ++ List.replicate (116 - (first ++ args ++ caps).length) .undef, heap⟩ (kfun (cfg Tryz.prog Tryz.eqs N) [(4, none)] false heap.length K)) : Hs Tryz.prog Tryz.eqs (.func 4 first caps) args heap K := Hs.enter Tryz.eqs_plain N (fn := Tryz.f4) (by kernel_rfl) Tryz.a4_ok h
def Tryz.a20r0 : ACode := .region [⟨(some 2), .box (.t 0) [], none⟩,
  ⟨(some 4), .alloc 10 (.agg [.nils, .nils, .nils, .nils, (.int .i64 0), (.int .i64 0), (.int .i64 0), .nils, .nils, .nils]) [], none⟩]
def Tryz.a20r1 : ACode := .region [⟨(some 7), .lit 12 [], none⟩,
  ⟨(some 5), .tokz 12 (.t 7), none⟩]
def Tryz.a20r2 : ACode := .region [⟨(some 6), .mv (.c (.int .i64 0)), none⟩]
def Tryz.a20r3 : ACode := .region [⟨(some 8), .mv (.t 6), none⟩,
  ⟨(some 9), .addo 8 (.t 2), none⟩,
  ⟨(some 10), .load false 1 (.t 9), none⟩,
  ⟨(some 11), .len 0 (.t 10), none⟩,
  ⟨(some 12), .bin .lss 0 (.t 8) (.t 11), none⟩]
def Tryz.a20r4 : ACode := .region [⟨(some 15), .addo 8 (.t 2), none⟩,
  ⟨(some 16), .load false 1 (.t 15), none⟩,
  ⟨(some 17), .mv (.t 6), none⟩,
  ⟨(some 18), .idx 12 (.t 16) (.t 17), none⟩,
  ⟨(some 19), .addo 0 (.t 18), none⟩,
  ⟨(some 20), .load false 1 (.t 19), none⟩,
  ⟨(some 21), .mv (.t 1), none⟩,
  ⟨(some 22), .bin .neq 0 (.t 20) (.t 21), none⟩,
  ⟨(some 23), .mv (.t 22), none⟩,
  ⟨(some 24), .addo 9 (.t 2), (some (23, false))⟩,
  ⟨(some 25), .load false 1 (.t 24), (some (23, false))⟩,
  ⟨(some 26), .mv (.t 1), (some (23, false))⟩,
  ⟨(some 27), .call (.c (.func 19 [] [])) [(.t 25), (.t 26)], (some (23, false))⟩,
  ⟨(some 28), .pick (.t 23) (.c (.bool true)) (.t 27), none⟩]
def Tryz.a20r5 : ACode := .region [⟨(some 29), .mv (.t 5), none⟩,
  ⟨(some 30), .addo 8 (.t 2), none⟩,
  ⟨(some 31), .load false 1 (.t 30), none⟩,
  ⟨(some 32), .mv (.t 6), none⟩,
  ⟨(some 33), .idx 12 (.t 31) (.t 32), none⟩,
  ⟨(some 34), .load true 12 (.t 33), none⟩,
  ⟨(some 35), .lit 12 [(.t 34)], none⟩,
  ⟨(some 36), .append false 12 (.t 29) (.t 35), none⟩,
  ⟨(some 5), .mv (.t 36), none⟩]
def Tryz.a20r6 : ACode := .region [⟨(some 13), .mv (.t 6), none⟩,
  ⟨(some 14), .bin .add 0 (.t 13) (.c (.int .i64 1)), none⟩,
  ⟨(some 6), .mv (.t 14), none⟩]
def Tryz.a20l7 : ACode := .seq (.seq (Tryz.a20r3) (.cond (.t 12) (.skip) (.exit 0))) (.seq (.block 1 (.seq (Tryz.a20r4) (.cond (.t 28) (Tryz.a20r5) (.skip)))) (Tryz.a20r6))
def Tryz.a20r8 : ACode := .region [⟨(some 37), .mv (.t 5), none⟩,
  ⟨(some 38), .addo 8 (.t 2), none⟩,
  ⟨none, .store 1 (.t 38) (.t 37) [], none⟩]
def Tryz.a20r9 : ACode := .region [⟨(some 39), .load true 10 (.t 2), none⟩,
  ⟨none, .store 10 (.t 4) (.t 39) [], none⟩]
def Tryz.c20 : ACode := .seq (Tryz.a20r0) (.seq (Tryz.a20r1) (.seq (.seq (Tryz.a20r2) (.block 0 (.loop [1, 2, 4, 5, 6] Tryz.a20l7))) (.seq (Tryz.a20r8) (.seq (Tryz.a20r9) (.ret)))))
def Tryz.a20 : AFunc := ⟨40, Tryz.c20, [(4, some (true, 10))], false⟩
theorem Tryz.a20_ok : chkFunc Tryz.prog Tryz.eqs Tryz.f20 Tryz.a20 = true := by kernel_rfl
theorem Tryz.w20 {first caps args : List AVal} {heap : List AObj} {K : AVal → List AObj → Prop} (N : Nat) (h : Ex (cfg Tryz.prog Tryz.eqs N) Tryz.c20 ⟨(first ++ args ++ caps) ++ List.replicate (40 - (first ++ args ++ caps).length) .undef, heap⟩ (kfun (cfg Tryz.prog Tryz.eqs N) [(4, some (true, 10))] false heap.length K)) : Hs Tryz.prog Tryz.eqs (.func 20 first caps) args heap K := Hs.enter Tryz.eqs_plain N (fn := Tryz.f20) (by kernel_rfl) Tryz.a20_ok h
def Tryz.a22r0 : ACode := .region [⟨(some 2), .box (.t 0) [], none⟩,
  ⟨(some 4), .alloc 13 (.agg [(.int .i64 0), (.int .i64 0), (.str (ByteArray.mk #[])), (.int .i64 0), (.int .i64 0), .nils, .nils, (.int .i64 0), (.int .i64 0), .nils, (.int .i64 0), .nils, (.bool false)]) [], none⟩]
def Tryz.a22r1 : ACode := .region [⟨(some 8), .load true 10 (.t 2), none⟩,
  ⟨(some 9), .mv (.t 1), none⟩,
  ⟨(some 10), .call (.c (.func 51 [] [])) [(.t 8), (.t 9)], none⟩,
  ⟨(some 7), .mv (.t 10), none⟩,
  ⟨(some 11), .ext 0 (.t 7), none⟩,
  ⟨(some 12), .ext 1 (.t 7), none⟩,
  ⟨(some 5), .alloc 12 (.agg [(.int .i64 0), (.int .i64 0), (.str (ByteArray.mk #[])), (.int .i64 0), (.int .i64 0), .nils, .nils, (.int .i64 0), (.int .i64 0), .nils, (.int .i64 0), .nils]) [], none⟩,
  ⟨none, .store 12 (.t 5) (.t 11) [], none⟩,
  ⟨(some 6), .mv (.t 12), none⟩]
def Tryz.a22r2 : ACode := .region [⟨(some 13), .load true 12 (.t 5), none⟩,
  ⟨(some 14), .mv (.t 6), none⟩,
  ⟨(some 15), .build (.agg [(.int .i64 0), (.int .i64 0), (.str (ByteArray.mk #[])), (.int .i64 0), (.int .i64 0), .nils, .nils, (.int .i64 0), (.int .i64 0), .nils, (.int .i64 0), .nils, (.bool false)]) [((0, 12), (.t 13)), ((12, 1), (.t 14))], none⟩,
  ⟨none, .store 13 (.t 4) (.t 15) [], none⟩]
def Tryz.c22 : ACode := .seq (Tryz.a22r0) (.seq (Tryz.a22r1) (.seq (Tryz.a22r2) (.ret)))
def Tryz.a22 : AFunc := ⟨16, Tryz.c22, [(4, some (true, 13))], false⟩
theorem Tryz.a22_ok : chkFunc Tryz.prog Tryz.eqs Tryz.f22 Tryz.a22 = true := by kernel_rfl
theorem Tryz.w22 {first caps args : List AVal} {heap : List AObj} {K : AVal → List AObj → Prop} (N : Nat) (h : Ex (cfg Tryz.prog Tryz.eqs N) Tryz.c22 ⟨(first ++ args ++ caps) ++ List.replicate (16 - (first ++ args ++ caps).length) .undef, heap⟩ (kfun (cfg Tryz.prog Tryz.eqs N) [(4, some (true, 13))] false heap.length K)) : Hs Tryz.prog Tryz.eqs (.func 22 first caps) args heap K := Hs.enter Tryz.eqs_plain N (fn := Tryz.f22) (by kernel_rfl) Tryz.a22_ok h
def Tryz.a24r0 : ACode := .region [⟨(some 3), .box (.t 0) [], none⟩,
  ⟨(some 6), .mv (.c (.bool false)), none⟩]
def Tryz.a24r1 : ACode := .region [⟨(some 9), .load true 10 (.t 3), none⟩,
  ⟨(some 10), .mv (.t 1), none⟩,
  ⟨(some 11), .call (.c (.func 22 [] [])) [(.t 9), (.t 10)], none⟩,
  ⟨(some 12), .field true 12 0 (.t 11), none⟩,
  ⟨(some 13), .call (.c (.func 23 [] [])) [(.t 12)], none⟩,
  ⟨(some 7), .mv (.t 13), none⟩]
def Tryz.a24r2 : ACode := .region [⟨(some 8), .mv (.c (.int .i64 0)), none⟩]
def Tryz.a24r3 : ACode := .region [⟨(some 14), .mv (.t 8), none⟩,
  ⟨(some 15), .mv (.t 7), none⟩,
  ⟨(some 16), .len 0 (.t 15), none⟩,
  ⟨(some 17), .bin .lss 0 (.t 14) (.t 16), none⟩]
def Tryz.a24r4 : ACode := .draw [⟨0, ⟨(some 20), .load true 10 (.t 3), none⟩, []⟩,
  ⟨1, ⟨(some 21), .mv (.t 7), none⟩, []⟩,
  ⟨2, ⟨(some 22), .mv (.t 8), none⟩, []⟩,
  ⟨3, ⟨(some 23), .idx 1 (.t 21) (.t 22), none⟩, []⟩,
  ⟨4, ⟨(some 24), .load false 1 (.t 23), none⟩, []⟩,
  ⟨5, ⟨(some 25), .call (.c (.func 22 [] [])) [(.t 20), (.t 24)], none⟩, []⟩,
  ⟨6, ⟨(some 26), .field false 1 12 (.t 25), none⟩, []⟩,
  ⟨7, ⟨(some 27), .mv (.t 26), none⟩, []⟩,
  ⟨8, ⟨(some 28), .mv (.t 2), (some (27, true))⟩, []⟩,
  ⟨9, ⟨(some 29), .mv (.t 7), (some (27, true))⟩, []⟩,
  ⟨10, ⟨(some 30), .mv (.t 8), (some (27, true))⟩, []⟩,
  ⟨11, ⟨(some 31), .idx 1 (.t 29) (.t 30), (some (27, true))⟩, []⟩,
  ⟨12, ⟨(some 32), .load false 1 (.t 31), (some (27, true))⟩, []⟩,
  ⟨13, ⟨(some 33), .call (.c (.func 19 [] [])) [(.t 28), (.t 32)], (some (27, true))⟩, []⟩,
  ⟨14, ⟨(some 34), .un .not (.t 33), (some (27, true))⟩, []⟩,
  ⟨15, ⟨(some 35), .pick (.t 27) (.t 34) (.c (.bool false)), none⟩, []⟩] [[], [], [], [1, 2], [1, 2, 3], [0, 1, 2, 3, 4], [0, 1, 2, 3, 4, 5], [0, 1, 2, 3, 4, 5, 6], [0, 1, 2, 3, 4, 5, 6, 7], [0, 1, 2, 3, 4, 5, 6, 7], [0, 1, 2, 3, 4, 5, 6, 7], [0, 1, 2, 3, 4, 5, 6, 7, 9, 10], [0, 1, 2, 3, 4, 5, 6, 7, 9, 10, 11], [0, 1, 2, 3, 4, 5, 6, 7, 8, 9, 10, 11, 12], [0, 1, 2, 3, 4, 5, 6, 7, 8, 9, 10, 11, 12, 13], [0, 1, 2, 3, 4, 5, 6, 7, 8, 9, 10, 11, 12, 13, 14]]
def Tryz.a24r5 : ACode := .region [⟨(some 6), .mv (.c (.bool false)), none⟩]
def Tryz.a24r6 : ACode := .region [⟨(some 18), .mv (.t 8), none⟩,
  ⟨(some 19), .bin .add 0 (.t 18) (.c (.int .i64 1)), none⟩,
  ⟨(some 8), .mv (.t 19), none⟩]
def Tryz.a24l7 : ACode := .seq (.seq (Tryz.a24r3) (.cond (.t 17) (.skip) (.exit 0))) (.seq (.block 1 (.seq (Tryz.a24r4) (.cond (.t 35) (.seq (Tryz.a24r5) (.ret)) (.skip)))) (Tryz.a24r6))
def Tryz.a24r8 : ACode := .region [⟨(some 6), .mv (.c (.bool true)), none⟩]
def Tryz.c24 : ACode := .seq (Tryz.a24r0) (.seq (Tryz.a24r1) (.seq (.seq (Tryz.a24r2) (.block 0 (.loop [2, 3, 7, 8] Tryz.a24l7))) (.seq (Tryz.a24r8) (.ret))))
def Tryz.a24 : AFunc := ⟨36, Tryz.c24, [(6, none)], false⟩
theorem Tryz.a24_ok : chkFunc Tryz.prog Tryz.eqs Tryz.f24 Tryz.a24 = true := by kernel_rfl
theorem Tryz.w24 {first caps args : List AVal} {heap : List AObj} {K : AVal → List AObj → Prop} (N : Nat) (h : Ex (cfg Tryz.prog Tryz.eqs N) Tryz.c24 ⟨(first ++ args ++ caps) ++ List.replicate (36 - (first ++ args ++ caps).length) .undef, heap⟩ (kfun (cfg Tryz.prog Tryz.eqs N) [(6, none)] false heap.length K)) : Hs Tryz.prog Tryz.eqs (.func 24 first caps) args heap K := Hs.enter Tryz.eqs_plain N (fn := Tryz.f24) (by kernel_rfl) Tryz.a24_ok h
end Go.Proofs

