import Derived.Test.YtniofejaoleipaaGreatDoorFwCore
/-
  Abstract functions, printed by a program out of the translation.
-/
namespace Go.Fw
open ACode
def c_law32_few_B : ACode :=
  .seq (.reg [
    .m (some 2) none (.mv (.c (.v (.bool false))))] []) (
  .seq (.reg [
    .m (some 3) none (.mv (.s 0)),
    .call (some 4) none (.fn 34) [(.s 3, .pass)] (.frz [3]),
    .call (some 5) none (.fn 12) [(.s 4, .pass), (.c (.v (.int .i64 16)), .pass)] (.frz [0]),
    .m (some 2) none (.mv (.s 5))] []) (
  .seq (.keep [2] []) (
  .ret)))
/-- bitemporal/bitemporallaw32.few -/
def c_law32_few : AFun := ⟨1, [.tmp 2], c_law32_few_B⟩
def c_law32_awake_R0 : ACode :=
  .seq (.reg [
    .m (some 86) none (.mv (.s 85)),
    .m (some 87) (some (86, true)) (.mv (.s 5)),
    .p (some 88) (some (86, true)) (.iaddr 9 (.s 87) (.c (.v (.int .i64 3)))),
    .p (some 89) (some (86, true)) (.faddr [1, 1, 1, 2, 2, 1, 1] 0 (.s 88)),
    .r (some 90) (some (86, true)) (.load 1 false (.s 89)),
    .p (some 91) (some (86, true)) (.bin .eql (.s 90) (.c (.v (.int .i64 4)))),
    .m (some 92) none (.pick (.s 86) (.s 91) (.c (.v (.bool false)))),
    .m (some 93) none (.mv (.s 92)),
    .m (some 94) (some (93, true)) (.mv (.s 5)),
    .call (some 95) (some (93, true)) (.fn 9) [(.s 94, .pass)] (.frz [0]),
    .p (some 96) (some (93, true)) (.bin .eql (.s 95) (.c (.v (.int .i64 0)))),
    .m (some 97) none (.pick (.s 93) (.s 96) (.c (.v (.bool false)))),
    .m (some 98) none (.mv (.s 97)),
    .m (some 99) (some (98, true)) (.mv (.s 5)),
    .call (some 100) (some (98, true)) (.fn 6) [(.s 99, .pass)] (.frz [3]),
    .m (some 101) (some (98, true)) (.mv (.s 2)),
    .call (some 102) (some (98, true)) (.fn 8) [(.s 100, .pass), (.s 101, .pass)] (.frz [0]),
    .m (some 103) none (.pick (.s 98) (.s 102) (.c (.v (.bool false)))),
    .m (some 104) none (.mv (.s 103)),
    .m (some 105) (some (104, true)) (.mv (.s 5)),
    .call (some 106) (some (104, true)) (.fn 24) [(.s 105, .pass), (.c (.v (.int .i64 2)), .pass)] (.frz [9]),
    .m (some 107) (some (104, true)) (.mv (.s 1)),
    .call (some 108) (some (104, true)) (.fn 21) [(.s 106, .pass), (.s 107, .pass)] (.frz [0]),
    .m (some 109) none (.pick (.s 104) (.s 108) (.c (.v (.bool false)))),
    .m (some 0) none (.mv (.s 109))] []) (
  .seq (.keep [0] []) (
  .ret))
def c_law32_awake_R1 : ACode :=
  .seq (.reg [
    .m (some 68) none (.mv (.s 67)),
    .m (some 69) (some (68, false)) (.mv (.s 5)),
    .p (some 70) (some (68, false)) (.len false (.s 69)),
    .p (some 71) (some (68, false)) (.bin .neq (.s 70) (.c (.v (.int .i64 4)))),
    .m (some 72) none (.pick (.s 68) (.c (.v (.bool true))) (.s 71))] []) (
  .seq (.cond (.s 72) (.seq (.reg [
    .m (some 0) none (.mv (.c (.v (.bool false))))] []) (
  .seq (.keep [0] []) (
  .ret))) (.skip)) (
  .seq (.reg [
    .m (some 73) none (.mv (.s 5)),
    .p (some 74) none (.iaddr 9 (.s 73) (.c (.v (.int .i64 1)))),
    .p (some 75) none (.faddr [1, 1, 1, 2, 2, 1, 1] 4 (.s 74)),
    .p (some 76) none (.faddr [1, 1] 1 (.s 75)),
    .r (some 77) none (.load 1 false (.s 76)),
    .p (some 78) none (.bin .eql (.s 77) (.c (.v (.int .i64 20)))),
    .m (some 79) none (.mv (.s 78)),
    .m (some 80) (some (79, true)) (.mv (.s 5)),
    .p (some 81) (some (79, true)) (.iaddr 9 (.s 80) (.c (.v (.int .i64 1)))),
    .p (some 82) (some (79, true)) (.faddr [1, 1, 1, 2, 2, 1, 1] 6 (.s 81)),
    .r (some 83) (some (79, true)) (.load 1 false (.s 82)),
    .p (some 84) (some (79, true)) (.bin .eql (.s 83) (.c (.v (.int .i64 2)))),
    .m (some 85) none (.pick (.s 79) (.s 84) (.c (.v (.bool false))))] []) (
  .seq (.keep [1, 2, 5, 85] []) (
  .sub c_law32_awake_R0))))
def c_law32_awake_R2 : ACode :=
  .seq (.reg [
    .m (some 64) none (.mv (.s 63)),
    .m (some 65) (some (64, false)) (.mv (.s 8)),
    .p (some 66) (some (64, false)) (.bin .neq (.s 65) (.c (.v (.int .i64 6)))),
    .m (some 67) none (.pick (.s 64) (.c (.v (.bool true))) (.s 66))] []) (
  .seq (.keep [1, 2, 5, 67] []) (
  .sub c_law32_awake_R1))
def c_law32_awake_R3 : ACode :=
  .seq (.reg [
    .m (some 60) none (.mv (.s 59)),
    .m (some 61) (some (60, false)) (.mv (.s 6)),
    .p (some 62) (some (60, false)) (.bin .neq (.s 61) (.c (.v (.int .i64 0)))),
    .m (some 63) none (.pick (.s 60) (.c (.v (.bool true))) (.s 62))] []) (
  .seq (.keep [1, 2, 5, 8, 63] []) (
  .sub c_law32_awake_R2))
def c_law32_awake_R4 : ACode :=
  .seq (.reg [
    .m (some 54) none (.mv (.s 53)),
    .m (some 55) (some (54, false)) (.mv (.s 1)),
    .m (some 56) (some (54, false)) (.mv (.s 2)),
    .call (some 57) (some (54, false)) (.fn 17) [(.s 55, .pass), (.s 56, .pass)] (.frz [0]),
    .p (some 58) (some (54, false)) (.bin .neq (.s 57) (.c (.v (.int .i64 3)))),
    .m (some 59) none (.pick (.s 54) (.c (.v (.bool true))) (.s 58))] []) (
  .seq (.keep [1, 2, 5, 6, 8, 59] []) (
  .sub c_law32_awake_R3))
def c_law32_awake_R5 : ACode :=
  .seq (.reg [
    .m (some 47) none (.mv (.s 46)),
    .m (some 48) (some (47, false)) (.mv (.s 4)),
    .m (some 49) (some (47, false)) (.mv (.s 2)),
    .p (some 50) (some (47, false)) (.slc 3 (.s 49) (some (.c (.v (.int .i64 1)))) none),
    .call (some 51) (some (47, false)) (.fn 8) [(.s 48, .pass), (.s 50, .pass)] (.frz [0]),
    .p (some 52) (some (47, false)) (.un .not (.s 51)),
    .m (some 53) none (.pick (.s 47) (.c (.v (.bool true))) (.s 52))] []) (
  .seq (.keep [1, 2, 5, 6, 8, 53] []) (
  .sub c_law32_awake_R4))
def c_law32_awake_B : ACode :=
  .seq (.reg [
    .m (some 0) none (.mv (.c (.v (.bool false))))] []) (
  .seq (.reg [
    .call (some 9) none (.fn 35) [(.c (.v (.int .i64 1)), .pass), (.c (.v (.int .i64 1)), .pass), (.c (.v (.int .i64 0)), .pass), (.c (.v (.int .i64 8)), .pass)] (.frz [0]),
    .call (some 10) none (.fn 35) [(.c (.v (.int .i64 2)), .pass), (.c (.v (.int .i64 2)), .pass), (.c (.v (.int .i64 0)), .pass), (.c (.v (.int .i64 4)), .pass)] (.frz [0]),
    .p (some 11) none (.bsl 9 2 (.agg [1, 1, 1, 2, 2, 1, 1] [.v (.int .i64 0), .v (.int .i64 0), .sl 3 [], .agg [1, 1] [.v (.int .i64 0), .v (.int .i64 0)], .agg [1, 1] [.v (.int .i64 0), .v (.int .i64 0)], .v (.int .i64 0), .v (.int .i64 0)]) [(0, .s 9), (1, .s 10)]),
    .m (some 1) none (.mv (.s 11))] []) (
  .seq (.reg [
    .call (some 12) none (.fn 36) [(.c (.v (.int .i64 1)), .pass), (.c (.v (.int .i64 0)), .pass), (.c (.v (.int .i64 8)), .pass)] (.frz [0]),
    .call (some 13) none (.fn 36) [(.c (.v (.int .i64 2)), .pass), (.c (.v (.int .i64 0)), .pass), (.c (.v (.int .i64 2)), .pass)] (.frz [0]),
    .call (some 14) none (.fn 36) [(.c (.v (.int .i64 3)), .pass), (.c (.v (.int .i64 5)), .pass), (.c (.v (.int .i64 6)), .pass)] (.frz [0]),
    .p (some 15) none (.bsl 3 3 (.agg [1, 2] [.sl 3 [], .agg [1, 1] [.v (.int .i64 0), .v (.int .i64 0)]]) [(0, .s 12), (1, .s 13), (2, .s 14)]),
    .m (some 2) none (.mv (.s 15))] []) (
  .seq (.reg [
    .m (some 17) none (.mv (.s 1)),
    .m (some 18) none (.mv (.s 2)),
    .call (some 19) none (.fn 14) [(.s 17, .pass), (.s 18, .pass)] (.frz [1, 3]),
    .m (some 16) none (.mv (.s 19)),
    .p (some 20) none (.extr (.s 16) 0),
    .p (some 21) none (.extr (.s 16) 1),
    .m (some 3) none (.mv (.s 20)),
    .m (some 4) none (.mv (.s 21))] []) (
  .seq (.reg [
    .m (some 23) none (.mv (.s 1)),
    .m (some 24) none (.mv (.s 3)),
    .m (some 25) none (.mv (.s 4)),
    .p (some 26) none (.build [1, 1, 1, 1, 1, 1, 1, 1, 1, 1] [.v (.int .i64 0), .v (.int .i64 0), .v (.int .i64 0), .v (.int .i64 0), .sl 16 [], .sl 3 [], .sl 6 [], .sl 1 [], .sl 2 [], .sl 2 []] [(1, .c (.v (.int .i64 20))), (0, .c (.v (.int .i64 2)))]),
    .call (some 27) none (.fn 19) [(.s 23, .pass), (.s 24, .pass), (.s 25, .pass), (.s 26, .pass), (.c (.v (.int .i64 3)), .pass), (.c (.v (.int .i64 0)), .pass)] (.frz [9, 0]),
    .m (some 22) none (.mv (.s 27)),
    .p (some 28) none (.extr (.s 22) 0),
    .p (some 29) none (.extr (.s 22) 1),
    .m (some 5) none (.mv (.s 28)),
    .m (some 6) none (.mv (.s 29))] []) (
  .seq (.reg [
    .m (some 31) none (.mv (.s 1)),
    .m (some 32) none (.mv (.s 3)),
    .m (some 33) none (.mv (.s 4)),
    .p (some 34) none (.build [1, 1, 1, 1, 1, 1, 1, 1, 1, 1] [.v (.int .i64 0), .v (.int .i64 0), .v (.int .i64 0), .v (.int .i64 0), .sl 16 [], .sl 3 [], .sl 6 [], .sl 1 [], .sl 2 [], .sl 2 []] [(1, .c (.v (.int .i64 10))), (0, .c (.v (.int .i64 2)))]),
    .call (some 35) none (.fn 19) [(.s 31, .pass), (.s 32, .pass), (.s 33, .pass), (.s 34, .pass), (.c (.v (.int .i64 3)), .pass), (.c (.v (.int .i64 0)), .pass)] (.frz [9, 0]),
    .m (some 30) none (.mv (.s 35)),
    .p (some 36) none (.extr (.s 30) 0),
    .p (some 37) none (.extr (.s 30) 1),
    .m (some 7) none (.mv (.s 36)),
    .m (some 8) none (.mv (.s 37))] []) (
  .seq (.reg [
    .m (some 38) none (.mv (.s 3)),
    .p (some 39) none (.len false (.s 38)),
    .p (some 40) none (.bin .neq (.s 39) (.c (.v (.int .i64 1)))),
    .m (some 41) none (.mv (.s 40)),
    .m (some 42) (some (41, false)) (.mv (.s 3)),
    .p (some 43) (some (41, false)) (.iaddr 1 (.s 42) (.c (.v (.int .i64 0)))),
    .r (some 44) (some (41, false)) (.load 1 false (.s 43)),
    .p (some 45) (some (41, false)) (.bin .neq (.s 44) (.c (.v (.int .i64 2)))),
    .m (some 46) none (.pick (.s 41) (.c (.v (.bool true))) (.s 45))] []) (
  .seq (.keep [1, 2, 4, 5, 6, 8, 46] []) (
  .sub c_law32_awake_R5))))))))
/-- bitemporal/bitemporallaw32.awake -/
def c_law32_awake : AFun := ⟨0, [.tmp 0], c_law32_awake_B⟩
def c_delta_Facts_R0 : ACode :=
  .seq (.reg [
    .r (some 16) none (.load 1 false (.s 3))] []) (
  .seq (.frz 16) (
  .seq (.reg [
    .call (some 17) none (.fn 60) [(.s 16, .pass)] (.frz [3]),
    .m (some 2) none (.mv (.s 17))] []) (
  .seq (.keep [2] []) (
  .ret))))
def c_delta_Facts_B : ACode :=
  .seq (.reg [
    .m (some 2) none (.mv (.c (.nil)))] []) (
  .seq (.reg [
    .w (some 3) none (.alloc 601 (.nil))] []) (
  .seq (.reg [
    .m (some 5) none (.mv (.s 0)),
    .call (some 6) none (.fn 61) [(.s 5, .pass)] (.frz [0])] []) (
  .seq (.blk 0 (.seq (.keep [3, 6] []) (
  .rng (.s 6) 602 1000000 [3]))) (
  .sub c_delta_Facts_R0))))
def c_delta_Facts_r0_B : ACode :=
  .seq (.blk 1 (.reg [
    .r (some 8) none (.load 1 false (.s 3)),
    .p (some 9) none (.faddr [1, 1, 1, 2, 2, 1, 1] 2 (.s 4)),
    .r (some 10) none (.load 1 false (.s 9)),
    .p (some 11) none (.faddr [1, 1, 1, 2, 2, 1, 1] 3 (.s 4)),
    .r (some 12) none (.load 2 true (.s 11)),
    .p (some 13) none (.build [1, 2] [.sl 3 [], .agg [1, 1] [.v (.int .i64 0), .v (.int .i64 0)]] [(0, .s 10), (1, .s 12)]),
    .p (some 14) none (.bsl 3 1 (.agg [1, 2] [.sl 3 [], .agg [1, 1] [.v (.int .i64 0), .v (.int .i64 0)]]) [(0, .s 13)]),
    .w (some 15) none (.app 603 3 3518437208883 (.s 8) (.s 14)),
    .w none none (.store 1 (.s 3) (.s 15))] [])) (
  .keep [] [604])
def c_delta_Facts_r0_A : ACode :=
  .reg [
    .w (some 4) none (.alloc 604 (.agg [1, 1, 1, 2, 2, 1, 1] [.v (.int .i64 0), .v (.int .i64 0), .sl 3 [], .agg [1, 1] [.v (.int .i64 0), .v (.int .i64 0)], .agg [1, 1] [.v (.int .i64 0), .v (.int .i64 0)], .v (.int .i64 0), .v (.int .i64 0)])),
    .fin none 9 4 (.s 7)] []
def c_delta_Facts_r0_C : ACode :=
  .rnd [7, 3] c_delta_Facts_r0_A c_delta_Facts_r0_B
/-- bitemporal/delta.Facts$round0 -/
def c_delta_Facts_r0 : AFun := ⟨2, [.tmp 0], c_delta_Facts_r0_C⟩
/-- bitemporal/delta.Facts -/
def c_delta_Facts : AFun := ⟨1, [.tmp 2], c_delta_Facts_B⟩
def c_ref22_Identical_L0 : ACode :=
  .seq (.reg [
    .m (some 11) none (.mv (.s 5)),
    .m (some 12) none (.mv (.s 0)),
    .p (some 13) none (.len false (.s 12)),
    .p (some 14) none (.bin .lss (.s 11) (.s 13))] []) (
  .seq (.cond (.s 14) (.skip) (.seq (.keep [] []) (
  .exit 0))) (
  .seq (.blk 1 (.seq (.reg [
    .m (some 17) none (.mv (.s 0)),
    .m (some 18) none (.mv (.s 5)),
    .p (some 19) none (.iaddr 3 (.s 17) (.s 18)),
    .p (some 20) none (.faddr [1, 2] 1 (.s 19)),
    .r (some 21) none (.load 2 true (.s 20)),
    .m (some 22) none (.mv (.s 1)),
    .m (some 23) none (.mv (.s 5)),
    .p (some 24) none (.iaddr 3 (.s 22) (.s 23)),
    .p (some 25) none (.faddr [1, 2] 1 (.s 24)),
    .r (some 26) none (.load 2 true (.s 25)),
    .p (some 27) none (.eqt (.st [1, 1] [.int, .int]) true (.s 21) (.s 26)),
    .m (some 28) none (.mv (.s 27)),
    .m (some 29) (some (28, false)) (.mv (.s 0)),
    .m (some 30) (some (28, false)) (.mv (.s 5)),
    .p (some 31) (some (28, false)) (.iaddr 3 (.s 29) (.s 30)),
    .p (some 32) (some (28, false)) (.faddr [1, 2] 0 (.s 31)),
    .r (some 33) (some (28, false)) (.load 1 false (.s 32)),
    .m (some 34) (some (28, false)) (.mv (.s 1)),
    .m (some 35) (some (28, false)) (.mv (.s 5)),
    .p (some 36) (some (28, false)) (.iaddr 3 (.s 34) (.s 35)),
    .p (some 37) (some (28, false)) (.faddr [1, 2] 0 (.s 36)),
    .r (some 38) (some (28, false)) (.load 1 false (.s 37)),
    .call (some 39) (some (28, false)) (.fn 28) [(.s 33, .pass), (.s 38, .pass)] (.frz [0]),
    .p (some 40) (some (28, false)) (.bin .neq (.s 39) (.c (.v (.int .i64 0)))),
    .m (some 41) none (.pick (.s 28) (.c (.v (.bool true))) (.s 40))] []) (
  .seq (.cond (.s 41) (.seq (.reg [
    .m (some 4) none (.mv (.c (.v (.bool false))))] []) (
  .seq (.keep [4] []) (
  .ret))) (.skip)) (
  .keep [0, 1, 5] [])))) (
  .seq (.reg [
    .m (some 15) none (.mv (.s 5)),
    .p (some 16) none (.bin .add (.s 15) (.c (.v (.int .i64 1)))),
    .m (some 5) none (.mv (.s 16))] []) (
  .keep [0, 1, 5] []))))
def c_ref22_Identical_R0 : ACode :=
  .seq (.reg [
    .m (some 4) none (.mv (.c (.v (.bool true))))] []) (
  .seq (.keep [4] []) (
  .ret))
def c_ref22_Identical_B : ACode :=
  .seq (.reg [
    .m (some 4) none (.mv (.c (.v (.bool false))))] []) (
  .seq (.reg [
    .m (some 6) none (.mv (.s 0)),
    .p (some 7) none (.len false (.s 6)),
    .m (some 8) none (.mv (.s 1)),
    .p (some 9) none (.len false (.s 8)),
    .p (some 10) none (.bin .neq (.s 7) (.s 9))] []) (
  .seq (.cond (.s 10) (.seq (.reg [
    .m (some 4) none (.mv (.c (.v (.bool false))))] []) (
  .seq (.keep [4] []) (
  .ret))) (.skip)) (
  .seq (.reg [
    .m (some 5) none (.mv (.c (.v (.int .i64 0))))] []) (
  .seq (.blk 0 (.seq (.keep [0, 1, 5] []) (
  .loop c_ref22_Identical_L0))) (
  .sub c_ref22_Identical_R0)))))
/-- bitemporal/bitemporalref22.Identical -/
def c_ref22_Identical : AFun := ⟨2, [.tmp 4], c_ref22_Identical_B⟩
def c_delta_Check_L0 : ACode :=
  .seq (.reg [
    .p (some 13) none (.bin .lss (.s 12) (.s 11))] []) (
  .seq (.cond (.s 13) (.skip) (.seq (.keep [0] []) (
  .exit 0))) (
  .seq (.blk 1 (.seq (.reg [
    .m (some 14) none (.mv (.s 12)),
    .p (some 15) none (.iaddr 9 (.s 10) (.s 12)),
    .r (some 16) none (.load 9 true (.s 15)),
    .w (some 4) none (.alloc 901 (.agg [1, 1, 1, 2, 2, 1, 1] [.v (.int .i64 0), .v (.int .i64 0), .sl 3 [], .agg [1, 1] [.v (.int .i64 0), .v (.int .i64 0)], .agg [1, 1] [.v (.int .i64 0), .v (.int .i64 0)], .v (.int .i64 0), .v (.int .i64 0)])),
    .m (some 3) none (.mv (.s 14)),
    .fin none 9 4 (.s 16)] []) (
  .seq (.reg [
    .r (some 17) none (.load 9 true (.s 4)),
    .call (some 18) none (.fn 38) [(.s 17, .pass)] (.frz [0]),
    .p (some 19) none (.un .not (.s 18))] []) (
  .seq (.cond (.s 19) (.seq (.reg [
    .m (some 2) none (.mv (.c (.v (.int .i64 8))))] []) (
  .seq (.keep [2] []) (
  .ret))) (.skip)) (
  .seq (.reg [
    .m (some 20) none (.mv (.s 3)),
    .p (some 21) none (.bin .eql (.s 20) (.c (.v (.int .i64 0))))] []) (
  .seq (.cond (.s 21) (.seq (.keep [0, 10, 11, 12] []) (
  .exit 1)) (.skip)) (
  .seq (.reg [
    .m (some 22) none (.mv (.s 0)),
    .m (some 23) none (.mv (.s 3)),
    .p (some 24) none (.bin .sub (.s 23) (.c (.v (.int .i64 1)))),
    .p (some 25) none (.iaddr 9 (.s 22) (.s 24)),
    .r (some 26) none (.load 9 true (.s 25)),
    .w (some 5) none (.alloc 902 (.agg [1, 1, 1, 2, 2, 1, 1] [.v (.int .i64 0), .v (.int .i64 0), .sl 3 [], .agg [1, 1] [.v (.int .i64 0), .v (.int .i64 0)], .agg [1, 1] [.v (.int .i64 0), .v (.int .i64 0)], .v (.int .i64 0), .v (.int .i64 0)])),
    .fin none 9 5 (.s 26)] []) (
  .seq (.reg [
    .r (some 27) none (.load 9 true (.s 5)),
    .r (some 28) none (.load 9 true (.s 4)),
    .call (some 29) none (.fn 39) [(.s 27, .pass), (.s 28, .pass)] (.frz [0]),
    .p (some 30) none (.un .not (.s 29))] []) (
  .seq (.cond (.s 30) (.seq (.reg [
    .m (some 2) none (.mv (.c (.v (.int .i64 9))))] []) (
  .seq (.keep [2] []) (
  .ret))) (.skip)) (
  .seq (.reg [
    .p (some 31) none (.faddr [1, 1, 1, 2, 2, 1, 1] 5 (.s 5)),
    .r (some 32) none (.load 1 false (.s 31)),
    .p (some 33) none (.faddr [1, 1, 1, 2, 2, 1, 1] 5 (.s 4)),
    .r (some 34) none (.load 1 false (.s 33)),
    .p (some 35) none (.bin .gtr (.s 32) (.s 34)),
    .m (some 36) none (.mv (.s 35)),
    .p (some 37) (some (36, false)) (.faddr [1, 1, 1, 2, 2, 1, 1] 0 (.s 5)),
    .r (some 38) (some (36, false)) (.load 1 false (.s 37)),
    .p (some 39) (some (36, false)) (.faddr [1, 1, 1, 2, 2, 1, 1] 0 (.s 4)),
    .r (some 40) (some (36, false)) (.load 1 false (.s 39)),
    .p (some 41) (some (36, false)) (.bin .eql (.s 38) (.s 40)),
    .m (some 42) (some (36, false)) (.mv (.s 41)),
    .r (some 43) (some (42, true)) (.load 9 true (.s 5)),
    .r (some 44) (some (42, true)) (.load 9 true (.s 4)),
    .call (some 45) (some (42, true)) (.fn 40) [(.s 43, .pass), (.s 44, .pass)] (.frz [0]),
    .p (some 46) (some (42, true)) (.un .not (.s 45)),
    .m (some 47) (some (36, false)) (.pick (.s 42) (.s 46) (.c (.v (.bool false)))),
    .m (some 48) none (.pick (.s 36) (.c (.v (.bool true))) (.s 47))] []) (
  .seq (.cond (.s 48) (.seq (.reg [
    .m (some 2) none (.mv (.c (.v (.int .i64 24))))] []) (
  .seq (.keep [2] []) (
  .ret))) (.skip)) (
  .keep [0, 10, 11, 12] [])))))))))))) (
  .seq (.reg [
    .p (some 49) none (.bin .add (.s 12) (.c (.v (.int .i64 1)))),
    .m (some 12) none (.mv (.s 49))] []) (
  .keep [0, 10, 11, 12] [901, 902]))))
def c_delta_Check_L1 : ACode :=
  .seq (.reg [
    .p (some 63) none (.bin .lss (.s 62) (.s 61))] []) (
  .seq (.cond (.s 63) (.skip) (.seq (.keep [0, 50, 51, 52] []) (
  .exit 4))) (
  .seq (.blk 5 (.seq (.reg [
    .p (some 64) none (.iaddr 9 (.s 60) (.s 62)),
    .r (some 65) none (.load 9 true (.s 64)),
    .w (some 9) none (.alloc 904 (.agg [1, 1, 1, 2, 2, 1, 1] [.v (.int .i64 0), .v (.int .i64 0), .sl 3 [], .agg [1, 1] [.v (.int .i64 0), .v (.int .i64 0)], .agg [1, 1] [.v (.int .i64 0), .v (.int .i64 0)], .v (.int .i64 0), .v (.int .i64 0)])),
    .fin none 9 9 (.s 65)] []) (
  .seq (.reg [
    .p (some 66) none (.faddr [1, 1, 1, 2, 2, 1, 1] 0 (.s 9)),
    .r (some 67) none (.load 1 false (.s 66)),
    .p (some 68) none (.faddr [1, 1, 1, 2, 2, 1, 1] 0 (.s 7)),
    .r (some 69) none (.load 1 false (.s 68)),
    .p (some 70) none (.bin .neq (.s 67) (.s 69))] []) (
  .seq (.cond (.s 70) (.seq (.keep [0, 50, 51, 52] []) (
  .exit 4)) (.skip)) (
  .seq (.reg [
    .p (some 71) none (.faddr [1, 1, 1, 2, 2, 1, 1] 3 (.s 7)),
    .r (some 72) none (.load 2 true (.s 71)),
    .p (some 73) none (.faddr [1, 1, 1, 2, 2, 1, 1] 3 (.s 9)),
    .r (some 74) none (.load 2 true (.s 73)),
    .call (some 75) none (.fn 41) [(.s 72, .pass), (.s 74, .pass)] (.frz [0]),
    .m (some 76) none (.mv (.s 75)),
    .p (some 77) (some (76, true)) (.faddr [1, 1, 1, 2, 2, 1, 1] 4 (.s 7)),
    .r (some 78) (some (76, true)) (.load 2 true (.s 77)),
    .p (some 79) (some (76, true)) (.faddr [1, 1, 1, 2, 2, 1, 1] 4 (.s 9)),
    .r (some 80) (some (76, true)) (.load 2 true (.s 79)),
    .call (some 81) (some (76, true)) (.fn 41) [(.s 78, .pass), (.s 80, .pass)] (.frz [0]),
    .m (some 82) none (.pick (.s 76) (.s 81) (.c (.v (.bool false))))] []) (
  .seq (.cond (.s 82) (.seq (.reg [
    .m (some 2) none (.mv (.c (.v (.int .i64 24))))] []) (
  .seq (.keep [2] []) (
  .ret))) (.skip)) (
  .keep [0, 7, 50, 51, 52, 60, 61, 62] []))))))) (
  .seq (.reg [
    .p (some 83) none (.bin .add (.s 62) (.c (.v (.int .i64 1)))),
    .m (some 62) none (.mv (.s 83))] []) (
  .keep [0, 7, 50, 51, 52, 60, 61, 62] [904]))))
def c_delta_Check_R0 : ACode :=
  .seq (.reg [
    .p (some 84) none (.bin .add (.s 52) (.c (.v (.int .i64 1)))),
    .m (some 52) none (.mv (.s 84))] []) (
  .seq (.keep [0, 50, 51, 52] []) (
  .keep [0, 50, 51, 52] [903, 904]))
def c_delta_Check_L2 : ACode :=
  .seq (.reg [
    .p (some 53) none (.bin .lss (.s 52) (.s 51))] []) (
  .seq (.cond (.s 53) (.skip) (.seq (.keep [] []) (
  .exit 2))) (
  .seq (.blk 3 (.seq (.reg [
    .m (some 54) none (.mv (.s 52)),
    .p (some 55) none (.iaddr 9 (.s 50) (.s 52)),
    .r (some 56) none (.load 9 true (.s 55)),
    .w (some 7) none (.alloc 903 (.agg [1, 1, 1, 2, 2, 1, 1] [.v (.int .i64 0), .v (.int .i64 0), .sl 3 [], .agg [1, 1] [.v (.int .i64 0), .v (.int .i64 0)], .agg [1, 1] [.v (.int .i64 0), .v (.int .i64 0)], .v (.int .i64 0), .v (.int .i64 0)])),
    .m (some 6) none (.mv (.s 54)),
    .fin none 9 7 (.s 56)] []) (
  .seq (.reg [
    .m (some 57) none (.mv (.s 0)),
    .m (some 58) none (.mv (.s 6)),
    .p (some 59) none (.bin .add (.s 58) (.c (.v (.int .i64 1)))),
    .p (some 60) none (.slc 9 (.s 57) (some (.s 59)) none),
    .p (some 61) none (.len false (.s 60)),
    .m (some 62) none (.mv (.c (.v (.int .i64 0))))] []) (
  .blk 4 (.seq (.keep [0, 7, 50, 51, 52, 60, 61, 62] []) (
  .loop c_delta_Check_L1)))))) (
  .sub c_delta_Check_R0)))
def c_delta_Check_R1 : ACode :=
  .seq (.reg [
    .m (some 2) none (.mv (.c (.v (.int .i64 0))))] []) (
  .seq (.keep [2] []) (
  .ret))
def c_delta_Check_R2 : ACode :=
  .seq (.reg [
    .m (some 50) none (.mv (.s 0)),
    .p (some 51) none (.len false (.s 50)),
    .m (some 52) none (.mv (.c (.v (.int .i64 0))))] []) (
  .seq (.blk 2 (.seq (.keep [0, 50, 51, 52] []) (
  .loop c_delta_Check_L2))) (
  .sub c_delta_Check_R1))
def c_delta_Check_B : ACode :=
  .seq (.reg [
    .m (some 2) none (.mv (.c (.v (.int .i64 0))))] []) (
  .seq (.reg [
    .m (some 10) none (.mv (.s 0)),
    .p (some 11) none (.len false (.s 10)),
    .m (some 12) none (.mv (.c (.v (.int .i64 0))))] []) (
  .seq (.blk 0 (.seq (.keep [0, 10, 11, 12] []) (
  .loop c_delta_Check_L0))) (
  .sub c_delta_Check_R2)))
/-- bitemporal/delta.Check -/
def c_delta_Check : AFun := ⟨1, [.tmp 2], c_delta_Check_B⟩
def c_ref32_Check_U0 : List (Nat × Nat) := [(4, 9), (8, 9), (4, 10), (8, 10), (9, 10), (8, 11)]
def c_ref32_Check_L0 : ACode :=
  .seq (.reg [
    .m (some 8) none (.mv (.s 3)),
    .m (some 9) none (.mv (.s 0)),
    .p (some 10) none (.len false (.s 9)),
    .p (some 11) none (.bin .lss (.s 8) (.s 10))] []) (
  .seq (.cond (.s 11) (.skip) (.seq (.keep [0] []) (
  .exit 0))) (
  .seq (.blk 1 (.seq (.reg [
    .m (some 14) none (.mv (.s 0)),
    .m (some 15) none (.mv (.s 3)),
    .p (some 16) none (.iaddr 9 (.s 14) (.s 15)),
    .r (some 17) none (.load 9 true (.s 16)),
    .call (some 18) none (.fn 42) [(.s 17, .pass)] (.frz [0])] []) (
  .seq (.cond (.s 18) (.seq (.reg [
    .m (some 2) none (.mv (.c (.v (.int .i64 8))))] []) (
  .seq (.keep [2] []) (
  .ret))) (.skip)) (
  .seq (.reg [
    .m (some 19) none (.mv (.s 3)),
    .p (some 20) none (.bin .eql (.s 19) (.c (.v (.int .i64 0))))] []) (
  .seq (.cond (.s 20) (.seq (.keep [0, 3] []) (
  .exit 1)) (.skip)) (
  .seq (.reg [
    .m (some 21) none (.mv (.s 0)),
    .m (some 22) none (.mv (.s 3)),
    .p (some 23) none (.bin .sub (.s 22) (.c (.v (.int .i64 1)))),
    .p (some 24) none (.iaddr 9 (.s 21) (.s 23)),
    .r (some 25) none (.load 9 true (.s 24)),
    .m (some 26) none (.mv (.s 0)),
    .m (some 27) none (.mv (.s 3)),
    .p (some 28) none (.iaddr 9 (.s 26) (.s 27)),
    .r (some 29) none (.load 9 true (.s 28)),
    .w (some 4) none (.alloc 1001 (.agg [1, 1, 1, 2, 2, 1, 1] [.v (.int .i64 0), .v (.int .i64 0), .sl 3 [], .agg [1, 1] [.v (.int .i64 0), .v (.int .i64 0)], .agg [1, 1] [.v (.int .i64 0), .v (.int .i64 0)], .v (.int .i64 0), .v (.int .i64 0)])),
    .w (some 5) none (.alloc 1002 (.agg [1, 1, 1, 2, 2, 1, 1] [.v (.int .i64 0), .v (.int .i64 0), .sl 3 [], .agg [1, 1] [.v (.int .i64 0), .v (.int .i64 0)], .agg [1, 1] [.v (.int .i64 0), .v (.int .i64 0)], .v (.int .i64 0), .v (.int .i64 0)])),
    .fin none 9 4 (.s 25),
    .fin none 9 5 (.s 29)] c_ref32_Check_U0) (
  .seq (.reg [
    .r (some 30) none (.load 9 true (.s 4)),
    .r (some 31) none (.load 9 true (.s 5)),
    .call (some 32) none (.fn 43) [(.s 30, .pass), (.s 31, .pass)] (.frz [0]),
    .p (some 33) none (.un .not (.s 32))] []) (
  .seq (.cond (.s 33) (.seq (.reg [
    .m (some 2) none (.mv (.c (.v (.int .i64 9))))] []) (
  .seq (.keep [2] []) (
  .ret))) (.skip)) (
  .seq (.reg [
    .p (some 34) none (.faddr [1, 1, 1, 2, 2, 1, 1] 5 (.s 4)),
    .r (some 35) none (.load 1 false (.s 34)),
    .p (some 36) none (.faddr [1, 1, 1, 2, 2, 1, 1] 5 (.s 5)),
    .r (some 37) none (.load 1 false (.s 36)),
    .p (some 38) none (.bin .gtr (.s 35) (.s 37)),
    .m (some 39) none (.mv (.s 38)),
    .p (some 40) (some (39, false)) (.faddr [1, 1, 1, 2, 2, 1, 1] 0 (.s 4)),
    .r (some 41) (some (39, false)) (.load 1 false (.s 40)),
    .p (some 42) (some (39, false)) (.faddr [1, 1, 1, 2, 2, 1, 1] 0 (.s 5)),
    .r (some 43) (some (39, false)) (.load 1 false (.s 42)),
    .p (some 44) (some (39, false)) (.bin .eql (.s 41) (.s 43)),
    .m (some 45) (some (39, false)) (.mv (.s 44)),
    .p (some 46) (some (45, true)) (.faddr [1, 1, 1, 2, 2, 1, 1] 1 (.s 4)),
    .r (some 47) (some (45, true)) (.load 1 false (.s 46)),
    .p (some 48) (some (45, true)) (.faddr [1, 1, 1, 2, 2, 1, 1] 1 (.s 5)),
    .r (some 49) (some (45, true)) (.load 1 false (.s 48)),
    .p (some 50) (some (45, true)) (.bin .neq (.s 47) (.s 49)),
    .m (some 51) (some (45, true)) (.mv (.s 50)),
    .p (some 52) (some (51, false)) (.faddr [1, 1, 1, 2, 2, 1, 1] 5 (.s 4)),
    .r (some 53) (some (51, false)) (.load 1 false (.s 52)),
    .p (some 54) (some (51, false)) (.faddr [1, 1, 1, 2, 2, 1, 1] 5 (.s 5)),
    .r (some 55) (some (51, false)) (.load 1 false (.s 54)),
    .p (some 56) (some (51, false)) (.bin .neq (.s 53) (.s 55)),
    .m (some 57) (some (45, true)) (.pick (.s 51) (.c (.v (.bool true))) (.s 56)),
    .m (some 58) (some (45, true)) (.mv (.s 57)),
    .p (some 59) (some (58, false)) (.faddr [1, 1, 1, 2, 2, 1, 1] 6 (.s 4)),
    .r (some 60) (some (58, false)) (.load 1 false (.s 59)),
    .p (some 61) (some (58, false)) (.faddr [1, 1, 1, 2, 2, 1, 1] 6 (.s 5)),
    .r (some 62) (some (58, false)) (.load 1 false (.s 61)),
    .p (some 63) (some (58, false)) (.bin .neq (.s 60) (.s 62)),
    .m (some 64) (some (45, true)) (.pick (.s 58) (.c (.v (.bool true))) (.s 63)),
    .m (some 65) (some (45, true)) (.mv (.s 64)),
    .p (some 66) (some (65, false)) (.faddr [1, 1, 1, 2, 2, 1, 1] 2 (.s 4)),
    .r (some 67) (some (65, false)) (.load 1 false (.s 66)),
    .p (some 68) (some (65, false)) (.faddr [1, 1, 1, 2, 2, 1, 1] 2 (.s 5)),
    .r (some 69) (some (65, false)) (.load 1 false (.s 68)),
    .call (some 70) (some (65, false)) (.fn 28) [(.s 67, .pass), (.s 69, .pass)] (.frz [0]),
    .p (some 71) (some (65, false)) (.bin .neq (.s 70) (.c (.v (.int .i64 0)))),
    .m (some 72) (some (45, true)) (.pick (.s 65) (.c (.v (.bool true))) (.s 71)),
    .m (some 73) (some (39, false)) (.pick (.s 45) (.s 72) (.c (.v (.bool false)))),
    .m (some 74) none (.pick (.s 39) (.c (.v (.bool true))) (.s 73))] []) (
  .seq (.cond (.s 74) (.seq (.reg [
    .m (some 2) none (.mv (.c (.v (.int .i64 24))))] []) (
  .seq (.keep [2] []) (
  .ret))) (.skip)) (
  .keep [0, 3] []))))))))))) (
  .seq (.reg [
    .m (some 12) none (.mv (.s 3)),
    .p (some 13) none (.bin .add (.s 12) (.c (.v (.int .i64 1)))),
    .m (some 3) none (.mv (.s 13))] []) (
  .keep [0, 3] [1001, 1002]))))
def c_ref32_Check_L1 : ACode :=
  .seq (.reg [
    .m (some 81) none (.mv (.s 7)),
    .m (some 82) none (.mv (.s 6)),
    .p (some 83) none (.bin .lss (.s 81) (.s 82))] []) (
  .seq (.cond (.s 83) (.skip) (.seq (.keep [0, 6] []) (
  .exit 4))) (
  .seq (.blk 5 (.seq (.reg [
    .m (some 86) none (.mv (.s 0)),
    .m (some 87) none (.mv (.s 6)),
    .p (some 88) none (.iaddr 9 (.s 86) (.s 87)),
    .p (some 89) none (.faddr [1, 1, 1, 2, 2, 1, 1] 0 (.s 88)),
    .r (some 90) none (.load 1 false (.s 89)),
    .m (some 91) none (.mv (.s 0)),
    .m (some 92) none (.mv (.s 7)),
    .p (some 93) none (.iaddr 9 (.s 91) (.s 92)),
    .p (some 94) none (.faddr [1, 1, 1, 2, 2, 1, 1] 0 (.s 93)),
    .r (some 95) none (.load 1 false (.s 94)),
    .p (some 96) none (.bin .eql (.s 90) (.s 95)),
    .m (some 97) none (.mv (.s 96)),
    .m (some 98) (some (97, true)) (.mv (.s 0)),
    .m (some 99) (some (97, true)) (.mv (.s 6)),
    .p (some 100) (some (97, true)) (.iaddr 9 (.s 98) (.s 99)),
    .p (some 101) (some (97, true)) (.faddr [1, 1, 1, 2, 2, 1, 1] 3 (.s 100)),
    .r (some 102) (some (97, true)) (.load 2 true (.s 101)),
    .m (some 103) (some (97, true)) (.mv (.s 0)),
    .m (some 104) (some (97, true)) (.mv (.s 7)),
    .p (some 105) (some (97, true)) (.iaddr 9 (.s 103) (.s 104)),
    .p (some 106) (some (97, true)) (.faddr [1, 1, 1, 2, 2, 1, 1] 3 (.s 105)),
    .r (some 107) (some (97, true)) (.load 2 true (.s 106)),
    .call (some 108) (some (97, true)) (.fn 44) [(.s 102, .pass), (.s 107, .pass)] (.frz [0]),
    .m (some 109) none (.pick (.s 97) (.s 108) (.c (.v (.bool false)))),
    .m (some 110) none (.mv (.s 109)),
    .m (some 111) (some (110, true)) (.mv (.s 0)),
    .m (some 112) (some (110, true)) (.mv (.s 6)),
    .p (some 113) (some (110, true)) (.iaddr 9 (.s 111) (.s 112)),
    .p (some 114) (some (110, true)) (.faddr [1, 1, 1, 2, 2, 1, 1] 4 (.s 113)),
    .r (some 115) (some (110, true)) (.load 2 true (.s 114)),
    .m (some 116) (some (110, true)) (.mv (.s 0)),
    .m (some 117) (some (110, true)) (.mv (.s 7)),
    .p (some 118) (some (110, true)) (.iaddr 9 (.s 116) (.s 117)),
    .p (some 119) (some (110, true)) (.faddr [1, 1, 1, 2, 2, 1, 1] 4 (.s 118)),
    .r (some 120) (some (110, true)) (.load 2 true (.s 119)),
    .call (some 121) (some (110, true)) (.fn 44) [(.s 115, .pass), (.s 120, .pass)] (.frz [0]),
    .m (some 122) none (.pick (.s 110) (.s 121) (.c (.v (.bool false))))] []) (
  .seq (.cond (.s 122) (.seq (.reg [
    .m (some 2) none (.mv (.c (.v (.int .i64 24))))] []) (
  .seq (.keep [2] []) (
  .ret))) (.skip)) (
  .keep [0, 6, 7] [])))) (
  .seq (.reg [
    .m (some 84) none (.mv (.s 7)),
    .p (some 85) none (.bin .add (.s 84) (.c (.v (.int .i64 1)))),
    .m (some 7) none (.mv (.s 85))] []) (
  .keep [0, 6, 7] []))))
def c_ref32_Check_R0 : ACode :=
  .seq (.reg [
    .m (some 79) none (.mv (.s 6)),
    .p (some 80) none (.bin .add (.s 79) (.c (.v (.int .i64 1)))),
    .m (some 6) none (.mv (.s 80))] []) (
  .seq (.keep [0, 6] []) (
  .keep [0, 6] []))
def c_ref32_Check_L2 : ACode :=
  .seq (.reg [
    .m (some 75) none (.mv (.s 6)),
    .m (some 76) none (.mv (.s 0)),
    .p (some 77) none (.len false (.s 76)),
    .p (some 78) none (.bin .lss (.s 75) (.s 77))] []) (
  .seq (.cond (.s 78) (.skip) (.seq (.keep [] []) (
  .exit 2))) (
  .seq (.blk 3 (.seq (.reg [
    .m (some 7) none (.mv (.c (.v (.int .i64 0))))] []) (
  .blk 4 (.seq (.keep [0, 6, 7] []) (
  .loop c_ref32_Check_L1))))) (
  .sub c_ref32_Check_R0)))
def c_ref32_Check_R1 : ACode :=
  .seq (.reg [
    .m (some 2) none (.mv (.c (.v (.int .i64 0))))] []) (
  .seq (.keep [2] []) (
  .ret))
def c_ref32_Check_R2 : ACode :=
  .seq (.reg [
    .m (some 6) none (.mv (.c (.v (.int .i64 0))))] []) (
  .seq (.blk 2 (.seq (.keep [0, 6] []) (
  .loop c_ref32_Check_L2))) (
  .sub c_ref32_Check_R1))
def c_ref32_Check_B : ACode :=
  .seq (.reg [
    .m (some 2) none (.mv (.c (.v (.int .i64 0))))] []) (
  .seq (.reg [
    .m (some 3) none (.mv (.c (.v (.int .i64 0))))] []) (
  .seq (.blk 0 (.seq (.keep [0, 3] []) (
  .loop c_ref32_Check_L0))) (
  .sub c_ref32_Check_R2)))
/-- bitemporal/bitemporalref32.Check -/
def c_ref32_Check : AFun := ⟨1, [.tmp 2], c_ref32_Check_B⟩
def c_ref22_Few_L0 : ACode :=
  .seq (.reg [
    .m (some 10) none (.mv (.s 5)),
    .m (some 11) none (.mv (.s 0)),
    .p (some 12) none (.len false (.s 11)),
    .p (some 13) none (.bin .lss (.s 10) (.s 12))] []) (
  .seq (.cond (.s 13) (.skip) (.seq (.keep [] []) (
  .exit 0))) (
  .seq (.blk 1 (.seq (.reg [
    .m (some 16) none (.mv (.s 0)),
    .m (some 17) none (.mv (.s 5)),
    .p (some 18) none (.iaddr 3 (.s 16) (.s 17)),
    .p (some 19) none (.faddr [1, 2] 0 (.s 18)),
    .r (some 20) none (.load 1 false (.s 19)),
    .p (some 21) none (.len false (.s 20)),
    .p (some 22) none (.bin .gtr (.s 21) (.c (.v (.int .i64 60))))] []) (
  .seq (.cond (.s 22) (.seq (.reg [
    .m (some 4) none (.mv (.c (.v (.bool false))))] []) (
  .seq (.keep [4] []) (
  .ret))) (.skip)) (
  .keep [0, 5] [])))) (
  .seq (.reg [
    .m (some 14) none (.mv (.s 5)),
    .p (some 15) none (.bin .add (.s 14) (.c (.v (.int .i64 1)))),
    .m (some 5) none (.mv (.s 15))] []) (
  .keep [0, 5] []))))
def c_ref22_Few_R0 : ACode :=
  .seq (.reg [
    .m (some 4) none (.mv (.c (.v (.bool true))))] []) (
  .seq (.keep [4] []) (
  .ret))
def c_ref22_Few_B : ACode :=
  .seq (.reg [
    .m (some 4) none (.mv (.c (.v (.bool false))))] []) (
  .seq (.reg [
    .m (some 6) none (.mv (.s 0)),
    .p (some 7) none (.len false (.s 6)),
    .m (some 8) none (.mv (.s 1)),
    .p (some 9) none (.bin .gtr (.s 7) (.s 8))] []) (
  .seq (.cond (.s 9) (.seq (.reg [
    .m (some 4) none (.mv (.c (.v (.bool false))))] []) (
  .seq (.keep [4] []) (
  .ret))) (.skip)) (
  .seq (.reg [
    .m (some 5) none (.mv (.c (.v (.int .i64 0))))] []) (
  .seq (.blk 0 (.seq (.keep [0, 5] []) (
  .loop c_ref22_Few_L0))) (
  .sub c_ref22_Few_R0)))))
/-- bitemporal/bitemporalref22.Few -/
def c_ref22_Few : AFun := ⟨2, [.tmp 4], c_ref22_Few_B⟩
def c_ref32_Plain_L0 : ACode :=
  .seq (.reg [
    .m (some 11) none (.mv (.s 4)),
    .m (some 12) none (.mv (.s 3)),
    .p (some 13) none (.bin .lss (.s 11) (.s 12))] []) (
  .seq (.cond (.s 13) (.skip) (.seq (.keep [0, 3] []) (
  .exit 2))) (
  .seq (.blk 3 (.seq (.reg [
    .m (some 16) none (.mv (.s 0)),
    .m (some 17) none (.mv (.s 3)),
    .p (some 18) none (.iaddr 9 (.s 16) (.s 17)),
    .r (some 19) none (.load 9 true (.s 18)),
    .call (some 20) none (.fn 27) [(.s 19, .pass)] (.frz [0]),
    .m (some 21) none (.mv (.s 20)),
    .m (some 22) (some (21, true)) (.mv (.s 0)),
    .m (some 23) (some (21, true)) (.mv (.s 4)),
    .p (some 24) (some (21, true)) (.iaddr 9 (.s 22) (.s 23)),
    .r (some 25) (some (21, true)) (.load 9 true (.s 24)),
    .call (some 26) (some (21, true)) (.fn 27) [(.s 25, .pass)] (.frz [0]),
    .m (some 27) none (.pick (.s 21) (.s 26) (.c (.v (.bool false)))),
    .m (some 28) none (.mv (.s 27)),
    .m (some 29) (some (28, true)) (.mv (.s 0)),
    .m (some 30) (some (28, true)) (.mv (.s 3)),
    .p (some 31) (some (28, true)) (.iaddr 9 (.s 29) (.s 30)),
    .p (some 32) (some (28, true)) (.faddr [1, 1, 1, 2, 2, 1, 1] 0 (.s 31)),
    .r (some 33) (some (28, true)) (.load 1 false (.s 32)),
    .m (some 34) (some (28, true)) (.mv (.s 0)),
    .m (some 35) (some (28, true)) (.mv (.s 4)),
    .p (some 36) (some (28, true)) (.iaddr 9 (.s 34) (.s 35)),
    .p (some 37) (some (28, true)) (.faddr [1, 1, 1, 2, 2, 1, 1] 0 (.s 36)),
    .r (some 38) (some (28, true)) (.load 1 false (.s 37)),
    .p (some 39) (some (28, true)) (.bin .eql (.s 33) (.s 38)),
    .m (some 40) none (.pick (.s 28) (.s 39) (.c (.v (.bool false))))] []) (
  .seq (.cond (.s 40) (.seq (.reg [
    .m (some 2) none (.mv (.c (.v (.bool false))))] []) (
  .seq (.keep [2] []) (
  .ret))) (.skip)) (
  .keep [0, 3, 4] [])))) (
  .seq (.reg [
    .m (some 14) none (.mv (.s 4)),
    .p (some 15) none (.bin .add (.s 14) (.c (.v (.int .i64 1)))),
    .m (some 4) none (.mv (.s 15))] []) (
  .keep [0, 3, 4] []))))
def c_ref32_Plain_R0 : ACode :=
  .seq (.reg [
    .m (some 9) none (.mv (.s 3)),
    .p (some 10) none (.bin .add (.s 9) (.c (.v (.int .i64 1)))),
    .m (some 3) none (.mv (.s 10))] []) (
  .seq (.keep [0, 3] []) (
  .keep [0, 3] []))
def c_ref32_Plain_L1 : ACode :=
  .seq (.reg [
    .m (some 5) none (.mv (.s 3)),
    .m (some 6) none (.mv (.s 0)),
    .p (some 7) none (.len false (.s 6)),
    .p (some 8) none (.bin .lss (.s 5) (.s 7))] []) (
  .seq (.cond (.s 8) (.skip) (.seq (.keep [] []) (
  .exit 0))) (
  .seq (.blk 1 (.seq (.reg [
    .m (some 4) none (.mv (.c (.v (.int .i64 0))))] []) (
  .blk 2 (.seq (.keep [0, 3, 4] []) (
  .loop c_ref32_Plain_L0))))) (
  .sub c_ref32_Plain_R0)))
def c_ref32_Plain_R1 : ACode :=
  .seq (.reg [
    .m (some 2) none (.mv (.c (.v (.bool true))))] []) (
  .seq (.keep [2] []) (
  .ret))
def c_ref32_Plain_B : ACode :=
  .seq (.reg [
    .m (some 2) none (.mv (.c (.v (.bool false))))] []) (
  .seq (.reg [
    .m (some 3) none (.mv (.c (.v (.int .i64 0))))] []) (
  .seq (.blk 0 (.seq (.keep [0, 3] []) (
  .loop c_ref32_Plain_L1))) (
  .sub c_ref32_Plain_R1)))
/-- bitemporal/bitemporalref32.Plain -/
def c_ref32_Plain : AFun := ⟨1, [.tmp 2], c_ref32_Plain_B⟩
def c_delta_Between_L0 : ACode :=
  .seq (.reg [
    .p (some 35) none (.bin .lss (.s 34) (.s 33))] []) (
  .seq (.cond (.s 35) (.skip) (.seq (.keep [6, 7, 11] []) (
  .exit 2))) (
  .seq (.blk 3 (.seq (.reg [
    .p (some 36) none (.iaddr 9 (.s 32) (.s 34)),
    .r (some 37) none (.load 9 true (.s 36)),
    .w (some 13) none (.alloc 1409 (.agg [1, 1, 1, 2, 2, 1, 1] [.v (.int .i64 0), .v (.int .i64 0), .sl 3 [], .agg [1, 1] [.v (.int .i64 0), .v (.int .i64 0)], .agg [1, 1] [.v (.int .i64 0), .v (.int .i64 0)], .v (.int .i64 0), .v (.int .i64 0)])),
    .fin none 9 13 (.s 37)] []) (
  .seq (.reg [
    .m (some 38) none (.mv (.s 8)),
    .r (some 39) none (.load 9 true (.s 13)),
    .calli (some 40) none (.val (.s 38)) [.s 39],
    .p (some 41) none (.un .not (.s 40))] []) (
  .seq (.cond (.s 41) (.reg [
    .m (some 42) none (.mv (.s 11)),
    .p (some 43) none (.faddr [1, 1, 1, 2, 2, 1, 1] 0 (.s 13)),
    .r (some 44) none (.load 1 false (.s 43)),
    .p (some 45) none (.bsl 1 1 (.v (.int .i64 0)) [(0, .s 44)]),
    .w (some 46) none (.app 1408 1 17592186044416 (.s 42) (.s 45)),
    .m (some 11) none (.mv (.s 46))] []) (.skip)) (
  .keep [6, 7, 8, 11, 32, 33, 34] []))))) (
  .seq (.reg [
    .p (some 47) none (.bin .add (.s 34) (.c (.v (.int .i64 1)))),
    .m (some 34) none (.mv (.s 47))] []) (
  .keep [6, 7, 8, 11, 32, 33, 34] [1409]))))
def c_delta_Between_L1 : ACode :=
  .seq (.reg [
    .p (some 51) none (.bin .lss (.s 50) (.s 49))] []) (
  .seq (.cond (.s 51) (.skip) (.seq (.keep [11, 14] []) (
  .exit 4))) (
  .seq (.blk 5 (.seq (.reg [
    .m (some 52) none (.mv (.s 50)),
    .p (some 53) none (.iaddr 3 (.s 48) (.s 50)),
    .r (some 54) none (.load 3 true (.s 53)),
    .w (some 16) none (.alloc 1411 (.agg [1, 2] [.sl 3 [], .agg [1, 1] [.v (.int .i64 0), .v (.int .i64 0)]])),
    .m (some 15) none (.mv (.s 52)),
    .fin none 3 16 (.s 54)] []) (
  .seq (.reg [
    .r (some 55) none (.load 1 false (.s 7)),
    .m (some 56) none (.mv (.s 15)),
    .p (some 57) none (.iaddr 1 (.s 55) (.s 56)),
    .r (some 58) none (.load 1 false (.s 57)),
    .p (some 59) none (.un .not (.s 58))] []) (
  .seq (.cond (.s 59) (.reg [
    .m (some 60) none (.mv (.s 14)),
    .r (some 61) none (.load 3 true (.s 16)),
    .p (some 62) none (.bsl 3 1 (.agg [1, 2] [.sl 3 [], .agg [1, 1] [.v (.int .i64 0), .v (.int .i64 0)]]) [(0, .s 61)]),
    .w (some 63) none (.app 1410 3 3518437208883 (.s 60) (.s 62)),
    .m (some 14) none (.mv (.s 63))] []) (.skip)) (
  .keep [7, 11, 14, 48, 49, 50] []))))) (
  .seq (.reg [
    .p (some 64) none (.bin .add (.s 50) (.c (.v (.int .i64 1)))),
    .m (some 50) none (.mv (.s 64))] []) (
  .keep [7, 11, 14, 48, 49, 50] [1411]))))
def c_delta_Between_R0 : ACode :=
  .seq (.reg [
    .m (some 65) none (.mv (.s 11)),
    .m (some 66) none (.mv (.s 14)),
    .m (some 4) none (.mv (.s 65)),
    .m (some 5) none (.mv (.s 66))] []) (
  .seq (.keep [4, 5] []) (
  .ret))
def c_delta_Between_R1 : ACode :=
  .seq (.reg [
    .w (some 14) none (.newnil 1410 3)] []) (
  .seq (.reg [
    .r (some 48) none (.load 1 false (.s 6)),
    .p (some 49) none (.len false (.s 48)),
    .m (some 50) none (.mv (.c (.v (.int .i64 0))))] []) (
  .seq (.blk 4 (.seq (.keep [7, 11, 14, 48, 49, 50] []) (
  .loop c_delta_Between_L1))) (
  .sub c_delta_Between_R0)))
def c_delta_Between_R2 : ACode :=
  .seq (.reg [
    .r (some 30) none (.load 1 false (.s 9)),
    .calli (some 31) none (.fn 72) [.s 30, .c (.fn 74 [])]] []) (
  .seq (.reg [
    .w (some 11) none (.newnil 1408 1)] []) (
  .seq (.reg [
    .r (some 32) none (.load 1 false (.s 9)),
    .p (some 33) none (.len false (.s 32)),
    .m (some 34) none (.mv (.c (.v (.int .i64 0))))] []) (
  .seq (.blk 2 (.seq (.keep [6, 7, 8, 11, 32, 33, 34] []) (
  .loop c_delta_Between_L0))) (
  .sub c_delta_Between_R1))))
def c_delta_Between_B : ACode :=
  .seq (.reg [
    .m (some 4) none (.mv (.c (.nil))),
    .m (some 5) none (.mv (.c (.nil)))] []) (
  .seq (.reg [
    .m (some 17) none (.mv (.s 1)),
    .call (some 18) none (.fn 60) [(.s 17, .pass)] (.frz [3]),
    .w (some 6) none (.alloc 1401 (.sl 3 [])),
    .fin none 1 6 (.s 18)] []) (
  .seq (.reg [
    .r (some 19) none (.load 1 false (.s 6)),
    .p (some 20) none (.len false (.s 19)),
    .w (some 21) none (.mkslice 1402 1 140737488355328 (.v (.bool false)) (.s 20)),
    .w (some 7) none (.alloc 1403 (.sl 1 [])),
    .fin none 1 7 (.s 21)] []) (
  .seq (.reg [
    .m (some 22) none (.mkfn 69 [.s 6, .s 7]),
    .m (some 8) none (.mv (.s 22))] []) (
  .seq (.reg [
    .w (some 9) none (.alloc 1404 (.nil))] []) (
  .seq (.reg [
    .m (some 23) none (.mv (.s 0)),
    .call (some 24) none (.fn 61) [(.s 23, .pass)] (.frz [0])] []) (
  .seq (.blk 0 (.seq (.keep [6, 7, 8, 9, 24] []) (
  .rng (.s 24) 1405 1000001 [9]))) (
  .sub c_delta_Between_R2)))))))
def c_delta_Between_r0_B : ACode :=
  .seq (.blk 1 (.reg [
    .r (some 26) none (.load 1 false (.s 9)),
    .r (some 27) none (.load 9 true (.s 10)),
    .p (some 28) none (.bsl 9 1 (.agg [1, 1, 1, 2, 2, 1, 1] [.v (.int .i64 0), .v (.int .i64 0), .sl 3 [], .agg [1, 1] [.v (.int .i64 0), .v (.int .i64 0)], .agg [1, 1] [.v (.int .i64 0), .v (.int .i64 0)], .v (.int .i64 0), .v (.int .i64 0)]) [(0, .s 27)]),
    .w (some 29) none (.app 1406 9 1599289640401 (.s 26) (.s 28)),
    .w none none (.store 1 (.s 9) (.s 29))] [])) (
  .keep [] [1407])
def c_delta_Between_r0_A : ACode :=
  .reg [
    .w (some 10) none (.alloc 1407 (.agg [1, 1, 1, 2, 2, 1, 1] [.v (.int .i64 0), .v (.int .i64 0), .sl 3 [], .agg [1, 1] [.v (.int .i64 0), .v (.int .i64 0)], .agg [1, 1] [.v (.int .i64 0), .v (.int .i64 0)], .v (.int .i64 0), .v (.int .i64 0)])),
    .fin none 9 10 (.s 25)] []
def c_delta_Between_r0_C : ACode :=
  .rnd [25, 9] c_delta_Between_r0_A c_delta_Between_r0_B
/-- bitemporal/delta.Between$round0 -/
def c_delta_Between_r0 : AFun := ⟨2, [.tmp 0], c_delta_Between_r0_C⟩
/-- bitemporal/delta.Between -/
def c_delta_Between : AFun := ⟨2, [.tmp 4, .tmp 5], c_delta_Between_B⟩
def c_delta_Size_B : ACode :=
  .seq (.reg [
    .m (some 4) none (.mv (.c (.v (.int .i64 0))))] []) (
  .seq (.reg [
    .m (some 8) none (.mv (.s 0)),
    .m (some 9) none (.mv (.s 1)),
    .call (some 10) none (.fn 14) [(.s 8, .pass), (.s 9, .pass)] (.frz [1, 3]),
    .m (some 7) none (.mv (.s 10)),
    .p (some 11) none (.extr (.s 7) 0),
    .p (some 12) none (.extr (.s 7) 1),
    .m (some 5) none (.mv (.s 11)),
    .m (some 6) none (.mv (.s 12))] []) (
  .seq (.reg [
    .m (some 13) none (.mv (.s 5)),
    .p (some 14) none (.len false (.s 13)),
    .m (some 15) none (.mv (.s 6)),
    .p (some 16) none (.len false (.s 15)),
    .p (some 17) none (.bin .add (.s 14) (.s 16)),
    .m (some 4) none (.mv (.s 17))] []) (
  .seq (.keep [4] []) (
  .ret))))
/-- bitemporal/delta.Size -/
def c_delta_Size : AFun := ⟨2, [.tmp 4], c_delta_Size_B⟩
def c_law32_DeltaApplies_R0 : ACode :=
  .seq (.reg [
    .m (some 35) none (.mv (.s 34)),
    .p (some 36) (some (35, false)) (.faddr [1, 1, 1, 1, 1, 1] 4 (.s 3)),
    .r (some 37) (some (35, false)) (.load 1 false (.s 36)),
    .p (some 38) (some (35, false)) (.bin .gtr (.s 37) (.c (.v (.int .i64 1125899906842624)))),
    .m (some 39) none (.pick (.s 35) (.c (.v (.bool true))) (.s 38))] []) (
  .seq (.cond (.s 39) (.seq (.reg [
    .call (some 40) none (.fn 5) [] (.frz [0]),
    .m (some 4) none (.mv (.s 40))] []) (
  .seq (.keep [4] []) (
  .ret))) (.skip)) (
  .seq (.reg [
    .p (some 41) none (.faddr [1, 1, 1, 1, 1, 1] 2 (.s 3)),
    .r (some 42) none (.load 1 false (.s 41)),
    .p (some 43) none (.faddr [1, 1, 1, 1, 1, 1] 3 (.s 3)),
    .r (some 44) none (.load 1 false (.s 43)),
    .p (some 45) none (.build [1, 1, 1, 1, 1, 1, 1, 1, 1, 1] [.v (.int .i64 0), .v (.int .i64 0), .v (.int .i64 0), .v (.int .i64 0), .sl 16 [], .sl 3 [], .sl 6 [], .sl 1 [], .sl 2 [], .sl 2 []] [(1, .s 42), (0, .s 44)]),
    .w (some 5) none (.alloc 1801 (.agg [1, 1, 1, 1, 1, 1, 1, 1, 1, 1] [.v (.int .i64 0), .v (.int .i64 0), .v (.int .i64 0), .v (.int .i64 0), .sl 16 [], .sl 3 [], .sl 6 [], .sl 1 [], .sl 2 [], .sl 2 []])),
    .fin none 10 5 (.s 45)] []) (
  .seq (.reg [
    .m (some 47) none (.mv (.s 0)),
    .p (some 48) none (.faddr [1, 1, 1, 1, 1, 1] 0 (.s 3)),
    .r (some 49) none (.load 1 false (.s 48)),
    .p (some 50) none (.faddr [1, 1, 1, 1, 1, 1] 1 (.s 3)),
    .r (some 51) none (.load 1 false (.s 50)),
    .r (some 52) none (.load 10 true (.s 5)),
    .p (some 53) none (.faddr [1, 1, 1, 1, 1, 1] 4 (.s 3)),
    .r (some 54) none (.load 1 false (.s 53)),
    .p (some 55) none (.faddr [1, 1, 1, 1, 1, 1] 5 (.s 3)),
    .r (some 56) none (.load 1 false (.s 55)),
    .call (some 57) none (.fn 19) [(.s 47, .pass), (.s 49, .pass), (.s 51, .pass), (.s 52, .pass), (.s 54, .pass), (.s 56, .pass)] (.frz [9, 0]),
    .m (some 46) none (.mv (.s 57)),
    .p (some 58) none (.extr (.s 46) 0),
    .p (some 59) none (.extr (.s 46) 1),
    .m (some 6) none (.mv (.s 58)),
    .m (some 7) none (.mv (.s 59))] []) (
  .seq (.reg [
    .m (some 61) none (.mv (.s 0)),
    .p (some 62) none (.faddr [1, 1, 1, 1, 1, 1] 0 (.s 3)),
    .r (some 63) none (.load 1 false (.s 62)),
    .p (some 64) none (.faddr [1, 1, 1, 1, 1, 1] 1 (.s 3)),
    .r (some 65) none (.load 1 false (.s 64)),
    .r (some 66) none (.load 10 true (.s 5)),
    .p (some 67) none (.faddr [1, 1, 1, 1, 1, 1] 4 (.s 3)),
    .r (some 68) none (.load 1 false (.s 67)),
    .p (some 69) none (.faddr [1, 1, 1, 1, 1, 1] 5 (.s 3)),
    .r (some 70) none (.load 1 false (.s 69)),
    .call (some 71) none (.fn 20) [(.s 61, .pass), (.s 63, .pass), (.s 65, .pass), (.s 66, .pass), (.s 68, .pass), (.s 70, .pass)] (.frz [9, 0]),
    .m (some 60) none (.mv (.s 71)),
    .p (some 72) none (.extr (.s 60) 0),
    .p (some 73) none (.extr (.s 60) 1),
    .m (some 8) none (.mv (.s 72)),
    .m (some 9) none (.mv (.s 73))] []) (
  .seq (.reg [
    .m (some 74) none (.mv (.s 7)),
    .m (some 75) none (.mv (.s 9)),
    .p (some 76) none (.bin .eql (.s 74) (.s 75)),
    .m (some 77) none (.mv (.s 76)),
    .m (some 78) (some (77, true)) (.mv (.s 6)),
    .m (some 79) (some (77, true)) (.mv (.s 8)),
    .call (some 80) (some (77, true)) (.fn 21) [(.s 78, .pass), (.s 79, .pass)] (.frz [0]),
    .m (some 81) none (.pick (.s 77) (.s 80) (.c (.v (.bool false)))),
    .m (some 82) none (.mv (.s 81)),
    .call (some 83) (some (82, true)) (.fn 5) [] (.frz [0]),
    .m (some 84) none (.pick (.s 82) (.s 83) (.c (.v (.bool false)))),
    .m (some 4) none (.mv (.s 84))] []) (
  .seq (.keep [4] []) (
  .ret)))))))
def c_law32_DeltaApplies_R1 : ACode :=
  .seq (.reg [
    .m (some 30) none (.mv (.s 29)),
    .p (some 31) (some (30, false)) (.faddr [1, 1, 1, 1, 1, 1] 4 (.s 3)),
    .r (some 32) (some (30, false)) (.load 1 false (.s 31)),
    .p (some 33) (some (30, false)) (.bin .lss (.s 32) (.c (.v (.int .i64 0)))),
    .m (some 34) none (.pick (.s 30) (.c (.v (.bool true))) (.s 33))] []) (
  .seq (.keep [0, 3, 34] []) (
  .sub c_law32_DeltaApplies_R0))
def c_law32_DeltaApplies_R2 : ACode :=
  .seq (.reg [
    .m (some 25) none (.mv (.s 24)),
    .m (some 26) (some (25, false)) (.mv (.s 0)),
    .call (some 27) (some (25, false)) (.fn 13) [(.s 26, .pass)] (.frz [0]),
    .p (some 28) (some (25, false)) (.un .not (.s 27)),
    .m (some 29) none (.pick (.s 25) (.c (.v (.bool true))) (.s 28))] []) (
  .seq (.keep [0, 3, 29] []) (
  .sub c_law32_DeltaApplies_R1))
def c_law32_DeltaApplies_R3 : ACode :=
  .seq (.reg [
    .m (some 19) none (.mv (.s 18)),
    .p (some 20) (some (19, false)) (.faddr [1, 1, 1, 1, 1, 1] 0 (.s 3)),
    .r (some 21) (some (19, false)) (.load 1 false (.s 20)),
    .p (some 22) (some (19, false)) (.len false (.s 21)),
    .p (some 23) (some (19, false)) (.bin .gtr (.s 22) (.c (.v (.int .i64 16)))),
    .m (some 24) none (.pick (.s 19) (.c (.v (.bool true))) (.s 23))] []) (
  .seq (.keep [0, 3, 24] []) (
  .sub c_law32_DeltaApplies_R2))
def c_law32_DeltaApplies_B : ACode :=
  .seq (.reg [
    .m (some 3) none (.boxC (.s 1)),
    .m (some 4) none (.mv (.c (.v (.bool false))))] []) (
  .seq (.reg [
    .m (some 10) none (.mv (.s 0)),
    .call (some 11) none (.fn 4) [(.s 10, .pass)] (.frz [0]),
    .p (some 12) none (.un .not (.s 11)),
    .m (some 13) none (.mv (.s 12)),
    .p (some 14) (some (13, false)) (.faddr [1, 1, 1, 1, 1, 1] 1 (.s 3)),
    .r (some 15) (some (13, false)) (.load 1 false (.s 14)),
    .call (some 16) (some (13, false)) (.fn 12) [(.s 15, .pass), (.c (.v (.int .i64 16)), .pass)] (.frz [0]),
    .p (some 17) (some (13, false)) (.un .not (.s 16)),
    .m (some 18) none (.pick (.s 13) (.c (.v (.bool true))) (.s 17))] []) (
  .seq (.keep [0, 3, 18] []) (
  .sub c_law32_DeltaApplies_R3)))
/-- bitemporal/bitemporallaw32.DeltaApplies -/
def c_law32_DeltaApplies : AFun := ⟨2, [.tmp 4], c_law32_DeltaApplies_B⟩
def c_delta_Apply_U0 : List (Nat × Nat) := [(3, 6)]
def c_delta_Apply_R0 : ACode :=
  .seq (.reg [
    .p (some 55) none (.bsl 3 0 (.agg [1, 1, 1] [.v (.int .i64 0), .v (.int .i64 0), .v (.string ByteArray.empty)]) []),
    .p (some 56) none (.faddr [1, 1, 1, 2, 2, 1, 1] 2 (.s 17)),
    .r (some 57) none (.load 1 false (.s 56)),
    .r (some 58) none (.clone 3 4398046511104 (.s 55) (.s 57)),
    .p (some 59) none (.faddr [1, 1, 1, 2, 2, 1, 1] 2 (.s 17)),
    .w none none (.store 1 (.s 59) (.s 58))] []) (
  .reg [
    .m (some 60) none (.mv (.s 15)),
    .r (some 61) none (.load 9 true (.s 17)),
    .p (some 62) none (.bsl 9 1 (.agg [1, 1, 1, 2, 2, 1, 1] [.v (.int .i64 0), .v (.int .i64 0), .sl 3 [], .agg [1, 1] [.v (.int .i64 0), .v (.int .i64 0)], .agg [1, 1] [.v (.int .i64 0), .v (.int .i64 0)], .v (.int .i64 0), .v (.int .i64 0)]) [(0, .s 61)]),
    .w (some 63) none (.app 1901 9 1599289640401 (.s 60) (.s 62)),
    .m (some 15) none (.mv (.s 63))] [])
def c_delta_Apply_R1 : ACode :=
  .seq (.reg [
    .p (some 64) none (.bin .add (.s 32) (.c (.v (.int .i64 1)))),
    .m (some 32) none (.mv (.s 64))] []) (
  .keep [1, 2, 4, 5, 9, 15, 30, 31, 32] [1902])
def c_delta_Apply_L0 : ACode :=
  .seq (.reg [
    .p (some 33) none (.bin .lss (.s 32) (.s 31))] []) (
  .seq (.cond (.s 33) (.skip) (.seq (.keep [2, 4, 5, 9, 15] []) (
  .exit 0))) (
  .seq (.blk 1 (.seq (.reg [
    .p (some 34) none (.iaddr 9 (.s 30) (.s 32)),
    .r (some 35) none (.load 9 true (.s 34)),
    .w (some 17) none (.alloc 1902 (.agg [1, 1, 1, 2, 2, 1, 1] [.v (.int .i64 0), .v (.int .i64 0), .sl 3 [], .agg [1, 1] [.v (.int .i64 0), .v (.int .i64 0)], .agg [1, 1] [.v (.int .i64 0), .v (.int .i64 0)], .v (.int .i64 0), .v (.int .i64 0)])),
    .w none none (.store 9 (.s 17) (.s 35))] []) (
  .seq (.reg [
    .m (some 37) none (.mv (.s 1)),
    .p (some 38) none (.faddr [1, 1, 1, 2, 2, 1, 1] 0 (.s 17)),
    .r (some 39) none (.load 1 false (.s 38)),
    .call (some 40) none (.fn 49) [(.s 37, .pass), (.s 39, .pass)] (.frz [0, 0]),
    .m (some 36) none (.mv (.s 40)),
    .p (some 41) none (.extr (.s 36) 0),
    .p (some 42) none (.extr (.s 36) 1),
    .m (some 18) none (.mv (.s 41)),
    .m (some 19) none (.mv (.s 42))] []) (
  .seq (.reg [
    .m (some 43) none (.mv (.s 19)),
    .m (some 44) none (.mv (.s 43)),
    .r (some 45) (some (44, true)) (.load 9 true (.s 17)),
    .call (some 46) (some (44, true)) (.fn 50) [(.s 45, .pass)] (.frz [0]),
    .m (some 47) none (.pick (.s 44) (.s 46) (.c (.v (.bool false))))] []) (
  .seq (.cond (.s 47) (.reg [
    .p (some 48) none (.faddr [1, 1, 1, 1, 1, 1, 1, 1, 1, 1] 1 (.s 9)),
    .r (some 49) none (.load 1 false (.s 48)),
    .p (some 50) none (.faddr [1, 1, 1, 1, 1, 1, 1, 1, 1, 1] 0 (.s 9)),
    .r (some 51) none (.load 1 false (.s 50)),
    .p (some 52) none (.faddr [1, 1, 1, 2, 2, 1, 1] 4 (.s 17)),
    .p (some 53) none (.faddr [1, 1] 1 (.s 52)),
    .w none none (.store 1 (.s 53) (.s 49)),
    .p (some 54) none (.faddr [1, 1, 1, 2, 2, 1, 1] 6 (.s 17)),
    .w none none (.store 1 (.s 54) (.s 51))] c_delta_Apply_U0) (.skip)) (
  .seq (.keep [1, 2, 4, 5, 9, 15, 17, 30, 31, 32] []) (
  .sub c_delta_Apply_R0))))))) (
  .sub c_delta_Apply_R1)))
def c_delta_Apply_L1 : ACode :=
  .seq (.reg [
    .p (some 68) none (.bin .lss (.s 67) (.s 66))] []) (
  .seq (.cond (.s 68) (.skip) (.seq (.keep [15] []) (
  .exit 2))) (
  .seq (.blk 3 (.seq (.reg [
    .m (some 69) none (.mv (.s 67)),
    .p (some 70) none (.iaddr 3 (.s 65) (.s 67)),
    .r (some 71) none (.load 3 true (.s 70)),
    .w (some 21) none (.alloc 1903 (.agg [1, 2] [.sl 3 [], .agg [1, 1] [.v (.int .i64 0), .v (.int .i64 0)]])),
    .m (some 20) none (.mv (.s 69)),
    .fin none 3 21 (.s 71)] []) (
  .reg [
    .m (some 72) none (.mv (.s 15)),
    .m (some 73) none (.mv (.s 4)),
    .m (some 74) none (.mv (.s 20)),
    .p (some 75) none (.bin .add (.s 73) (.s 74)),
    .m (some 76) none (.mv (.s 5)),
    .p (some 77) none (.bsl 3 0 (.agg [1, 1, 1] [.v (.int .i64 0), .v (.int .i64 0), .v (.string ByteArray.empty)]) []),
    .p (some 78) none (.faddr [1, 2] 0 (.s 21)),
    .r (some 79) none (.load 1 false (.s 78)),
    .r (some 80) none (.clone 3 4398046511104 (.s 77) (.s 79)),
    .p (some 81) none (.faddr [1, 2] 1 (.s 21)),
    .r (some 82) none (.load 2 true (.s 81)),
    .p (some 83) none (.faddr [1, 1, 1, 1, 1, 1, 1, 1, 1, 1] 1 (.s 9)),
    .r (some 84) none (.load 1 false (.s 83)),
    .p (some 85) none (.build [1, 1] [.v (.int .i64 0), .v (.int .i64 0)] [(0, .s 84), (1, .c (.v (.int .i64 1099511627776)))]),
    .p (some 86) none (.faddr [1, 1, 1, 1, 1, 1, 1, 1, 1, 1] 0 (.s 9)),
    .r (some 87) none (.load 1 false (.s 86)),
    .p (some 88) none (.build [1, 1, 1, 2, 2, 1, 1] [.v (.int .i64 0), .v (.int .i64 0), .sl 3 [], .agg [1, 1] [.v (.int .i64 0), .v (.int .i64 0)], .agg [1, 1] [.v (.int .i64 0), .v (.int .i64 0)], .v (.int .i64 0), .v (.int .i64 0)] [(0, .s 75), (1, .s 76), (2, .s 80), (3, .s 82), (4, .s 85), (5, .s 87)]),
    .p (some 89) none (.bsl 9 1 (.agg [1, 1, 1, 2, 2, 1, 1] [.v (.int .i64 0), .v (.int .i64 0), .sl 3 [], .agg [1, 1] [.v (.int .i64 0), .v (.int .i64 0)], .agg [1, 1] [.v (.int .i64 0), .v (.int .i64 0)], .v (.int .i64 0), .v (.int .i64 0)]) [(0, .s 88)]),
    .w (some 90) none (.app 1901 9 1599289640401 (.s 72) (.s 89)),
    .m (some 15) none (.mv (.s 90))] []))) (
  .seq (.reg [
    .p (some 91) none (.bin .add (.s 67) (.c (.v (.int .i64 1)))),
    .m (some 67) none (.mv (.s 91))] []) (
  .keep [4, 5, 9, 15, 65, 66, 67] [1903]))))
def c_delta_Apply_R2 : ACode :=
  .seq (.reg [
    .m (some 92) none (.mv (.s 15)),
    .m (some 12) none (.mv (.s 92)),
    .m (some 13) none (.mv (.c (.v (.int .i64 0))))] []) (
  .seq (.keep [12, 13] []) (
  .ret))
def c_delta_Apply_R3 : ACode :=
  .seq (.reg [
    .m (some 65) none (.mv (.s 2)),
    .p (some 66) none (.len false (.s 65)),
    .m (some 67) none (.mv (.c (.v (.int .i64 0))))] []) (
  .seq (.blk 2 (.seq (.keep [4, 5, 9, 15, 65, 66, 67] []) (
  .loop c_delta_Apply_L1))) (
  .sub c_delta_Apply_R2))
def c_delta_Apply_B : ACode :=
  .seq (.reg [
    .m (some 9) none (.boxC (.s 3)),
    .m (some 12) none (.mv (.c (.nil))),
    .m (some 13) none (.mv (.c (.v (.int .i64 0))))] []) (
  .seq (.reg [
    .m (some 22) none (.mv (.s 0)),
    .m (some 23) none (.mv (.s 1)),
    .m (some 24) none (.mv (.s 2)),
    .r (some 25) none (.load 10 true (.s 9)),
    .call (some 26) none (.fn 48) [(.s 22, .pass), (.s 23, .pass), (.s 24, .pass), (.s 25, .pass)] (.frz [0]),
    .m (some 14) none (.mv (.s 26))] []) (
  .seq (.reg [
    .m (some 27) none (.mv (.s 14)),
    .p (some 28) none (.bin .neq (.s 27) (.c (.v (.int .i64 0))))] []) (
  .seq (.cond (.s 28) (.seq (.reg [
    .m (some 29) none (.mv (.s 14)),
    .m (some 12) none (.mv (.c (.nil))),
    .m (some 13) none (.mv (.s 29))] []) (
  .seq (.keep [12, 13] []) (
  .ret))) (.skip)) (
  .seq (.reg [
    .w (some 15) none (.newnil 1901 9)] []) (
  .seq (.reg [
    .m (some 30) none (.mv (.s 0)),
    .p (some 31) none (.len false (.s 30)),
    .m (some 32) none (.mv (.c (.v (.int .i64 0))))] []) (
  .seq (.blk 0 (.seq (.keep [1, 2, 4, 5, 9, 15, 30, 31, 32] []) (
  .loop c_delta_Apply_L0))) (
  .sub c_delta_Apply_R3)))))))
/-- bitemporal/delta.Apply -/
def c_delta_Apply : AFun := ⟨6, [.tmp 12, .tmp 13], c_delta_Apply_B⟩
def c_ref32_Apply_L0 : ACode :=
  .seq (.reg [
    .m (some 29) none (.mv (.s 14)),
    .m (some 30) none (.mv (.s 1)),
    .p (some 31) none (.len false (.s 30)),
    .p (some 32) none (.bin .lss (.s 29) (.s 31))] []) (
  .seq (.cond (.s 32) (.skip) (.seq (.keep [0, 1, 2, 4, 5, 9] []) (
  .exit 0))) (
  .seq (.blk 1 (.seq (.reg [
    .m (some 35) none (.mv (.s 14)),
    .p (some 36) none (.bin .gtr (.s 35) (.c (.v (.int .i64 0)))),
    .m (some 37) none (.mv (.s 36)),
    .m (some 38) (some (37, true)) (.mv (.s 1)),
    .m (some 39) (some (37, true)) (.mv (.s 14)),
    .p (some 40) (some (37, true)) (.iaddr 1 (.s 38) (.s 39)),
    .r (some 41) (some (37, true)) (.load 1 false (.s 40)),
    .m (some 42) (some (37, true)) (.mv (.s 1)),
    .m (some 43) (some (37, true)) (.mv (.s 14)),
    .p (some 44) (some (37, true)) (.bin .sub (.s 43) (.c (.v (.int .i64 1)))),
    .p (some 45) (some (37, true)) (.iaddr 1 (.s 42) (.s 44)),
    .r (some 46) (some (37, true)) (.load 1 false (.s 45)),
    .p (some 47) (some (37, true)) (.bin .leq (.s 41) (.s 46)),
    .m (some 48) none (.pick (.s 37) (.s 47) (.c (.v (.bool false))))] []) (
  .seq (.cond (.s 48) (.seq (.reg [
    .m (some 12) none (.mv (.c (.nil))),
    .m (some 13) none (.mv (.c (.v (.int .i64 9))))] []) (
  .seq (.keep [12, 13] []) (
  .ret))) (.skip)) (
  .seq (.reg [
    .m (some 49) none (.mv (.s 0)),
    .m (some 50) none (.mv (.s 1)),
    .m (some 51) none (.mv (.s 14)),
    .p (some 52) none (.iaddr 1 (.s 50) (.s 51)),
    .r (some 53) none (.load 1 false (.s 52)),
    .call (some 54) none (.fn 51) [(.s 49, .pass), (.s 53, .pass)] (.frz [0]),
    .m (some 15) none (.mv (.s 54))] []) (
  .seq (.reg [
    .m (some 55) none (.mv (.s 15)),
    .p (some 56) none (.bin .lss (.s 55) (.c (.v (.int .i64 0))))] []) (
  .seq (.cond (.s 56) (.seq (.reg [
    .m (some 12) none (.mv (.c (.nil))),
    .m (some 13) none (.mv (.c (.v (.int .i64 11))))] []) (
  .seq (.keep [12, 13] []) (
  .ret))) (.skip)) (
  .seq (.reg [
    .m (some 57) none (.mv (.s 0)),
    .m (some 58) none (.mv (.s 15)),
    .p (some 59) none (.iaddr 9 (.s 57) (.s 58)),
    .p (some 60) none (.faddr [1, 1, 1, 2, 2, 1, 1] 4 (.s 59)),
    .p (some 61) none (.faddr [1, 1] 0 (.s 60)),
    .r (some 62) none (.load 1 false (.s 61)),
    .p (some 63) none (.faddr [1, 1, 1, 1, 1, 1, 1, 1, 1, 1] 1 (.s 9)),
    .r (some 64) none (.load 1 false (.s 63)),
    .p (some 65) none (.bin .geq (.s 62) (.s 64))] []) (
  .seq (.cond (.s 65) (.seq (.reg [
    .m (some 12) none (.mv (.c (.nil))),
    .m (some 13) none (.mv (.c (.v (.int .i64 6))))] []) (
  .seq (.keep [12, 13] []) (
  .ret))) (.skip)) (
  .keep [0, 1, 2, 4, 5, 9, 14] []))))))))) (
  .seq (.reg [
    .m (some 33) none (.mv (.s 14)),
    .p (some 34) none (.bin .add (.s 33) (.c (.v (.int .i64 1)))),
    .m (some 14) none (.mv (.s 34))] []) (
  .keep [0, 1, 2, 4, 5, 9, 14] []))))
def c_ref32_Apply_L1 : ACode :=
  .seq (.reg [
    .m (some 76) none (.mv (.s 19)),
    .m (some 77) none (.mv (.s 1)),
    .p (some 78) none (.len false (.s 77)),
    .p (some 79) none (.bin .lss (.s 76) (.s 78))] []) (
  .seq (.cond (.s 79) (.skip) (.seq (.keep [0, 1, 2, 4, 5, 9, 16, 17, 18] []) (
  .exit 4))) (
  .seq (.blk 5 (.seq (.reg [
    .m (some 82) none (.mv (.s 0)),
    .m (some 83) none (.mv (.s 17)),
    .p (some 84) none (.iaddr 9 (.s 82) (.s 83)),
    .r (some 85) none (.load 9 true (.s 84)),
    .call (some 86) none (.fn 27) [(.s 85, .pass)] (.frz [0]),
    .m (some 87) none (.mv (.s 86)),
    .m (some 88) (some (87, true)) (.mv (.s 1)),
    .m (some 89) (some (87, true)) (.mv (.s 19)),
    .p (some 90) (some (87, true)) (.iaddr 1 (.s 88) (.s 89)),
    .r (some 91) (some (87, true)) (.load 1 false (.s 90)),
    .p (some 92) (some (87, true)) (.faddr [1, 1, 1, 2, 2, 1, 1] 0 (.s 18)),
    .r (some 93) (some (87, true)) (.load 1 false (.s 92)),
    .p (some 94) (some (87, true)) (.bin .eql (.s 91) (.s 93)),
    .m (some 95) none (.pick (.s 87) (.s 94) (.c (.v (.bool false))))] []) (
  .seq (.cond (.s 95) (.seq (.reg [
    .p (some 96) none (.faddr [1, 1, 1, 1, 1, 1, 1, 1, 1, 1] 1 (.s 9)),
    .r (some 97) none (.load 1 false (.s 96)),
    .p (some 98) none (.faddr [1, 1, 1, 2, 2, 1, 1] 4 (.s 18)),
    .p (some 99) none (.faddr [1, 1] 1 (.s 98)),
    .w none none (.store 1 (.s 99) (.s 97))] []) (
  .reg [
    .p (some 100) none (.faddr [1, 1, 1, 1, 1, 1, 1, 1, 1, 1] 0 (.s 9)),
    .r (some 101) none (.load 1 false (.s 100)),
    .p (some 102) none (.faddr [1, 1, 1, 2, 2, 1, 1] 6 (.s 18)),
    .w none none (.store 1 (.s 102) (.s 101))] [])) (.skip)) (
  .keep [0, 1, 2, 4, 5, 9, 16, 17, 18, 19] [])))) (
  .seq (.reg [
    .m (some 80) none (.mv (.s 19)),
    .p (some 81) none (.bin .add (.s 80) (.c (.v (.int .i64 1)))),
    .m (some 19) none (.mv (.s 81))] []) (
  .keep [0, 1, 2, 4, 5, 9, 16, 17, 18, 19] []))))
def c_ref32_Apply_R0 : ACode :=
  .seq (.reg [
    .m (some 103) none (.mv (.s 16)),
    .r (some 104) none (.load 9 true (.s 18)),
    .p (some 105) none (.bsl 9 1 (.agg [1, 1, 1, 2, 2, 1, 1] [.v (.int .i64 0), .v (.int .i64 0), .sl 3 [], .agg [1, 1] [.v (.int .i64 0), .v (.int .i64 0)], .agg [1, 1] [.v (.int .i64 0), .v (.int .i64 0)], .v (.int .i64 0), .v (.int .i64 0)]) [(0, .s 104)]),
    .w (some 106) none (.app 2001 9 1599289640401 (.s 103) (.s 105)),
    .m (some 16) none (.mv (.s 106))] []) (
  .keep [0, 1, 2, 4, 5, 9, 16, 17] [])
def c_ref32_Apply_R1 : ACode :=
  .seq (.reg [
    .m (some 70) none (.mv (.s 17)),
    .p (some 71) none (.bin .add (.s 70) (.c (.v (.int .i64 1)))),
    .m (some 17) none (.mv (.s 71))] []) (
  .seq (.keep [0, 1, 2, 4, 5, 9, 16, 17] []) (
  .keep [0, 1, 2, 4, 5, 9, 16, 17] [2002]))
def c_ref32_Apply_L2 : ACode :=
  .seq (.reg [
    .m (some 66) none (.mv (.s 17)),
    .m (some 67) none (.mv (.s 0)),
    .p (some 68) none (.len false (.s 67)),
    .p (some 69) none (.bin .lss (.s 66) (.s 68))] []) (
  .seq (.cond (.s 69) (.skip) (.seq (.keep [2, 4, 5, 9, 16] []) (
  .exit 2))) (
  .seq (.blk 3 (.seq (.reg [
    .m (some 72) none (.mv (.s 0)),
    .m (some 73) none (.mv (.s 17)),
    .p (some 74) none (.iaddr 9 (.s 72) (.s 73)),
    .r (some 75) none (.load 9 true (.s 74)),
    .w (some 18) none (.alloc 2002 (.agg [1, 1, 1, 2, 2, 1, 1] [.v (.int .i64 0), .v (.int .i64 0), .sl 3 [], .agg [1, 1] [.v (.int .i64 0), .v (.int .i64 0)], .agg [1, 1] [.v (.int .i64 0), .v (.int .i64 0)], .v (.int .i64 0), .v (.int .i64 0)])),
    .w none none (.store 9 (.s 18) (.s 75))] []) (
  .seq (.reg [
    .m (some 19) none (.mv (.c (.v (.int .i64 0))))] []) (
  .seq (.blk 4 (.seq (.keep [0, 1, 2, 4, 5, 9, 16, 17, 18, 19] []) (
  .loop c_ref32_Apply_L1))) (
  .sub c_ref32_Apply_R0))))) (
  .sub c_ref32_Apply_R1)))
def c_ref32_Apply_L3 : ACode :=
  .seq (.reg [
    .m (some 107) none (.mv (.s 20)),
    .m (some 108) none (.mv (.s 2)),
    .p (some 109) none (.len false (.s 108)),
    .p (some 110) none (.bin .lss (.s 107) (.s 109))] []) (
  .seq (.cond (.s 110) (.skip) (.seq (.keep [16] []) (
  .exit 6))) (
  .seq (.blk 7 (.seq (.reg [
    .m (some 113) none (.mv (.s 2)),
    .m (some 114) none (.mv (.s 20)),
    .p (some 115) none (.iaddr 3 (.s 113) (.s 114)),
    .p (some 116) none (.faddr [1, 2] 1 (.s 115)),
    .r (some 117) none (.load 2 true (.s 116)),
    .call (some 118) none (.fn 52) [(.s 117, .pass)] (.frz [0]),
    .p (some 119) none (.un .not (.s 118))] []) (
  .seq (.cond (.s 119) (.seq (.reg [
    .m (some 12) none (.mv (.c (.nil))),
    .m (some 13) none (.mv (.c (.v (.int .i64 8))))] []) (
  .seq (.keep [12, 13] []) (
  .ret))) (.skip)) (
  .reg [
    .m (some 120) none (.mv (.s 16)),
    .m (some 121) none (.mv (.s 4)),
    .m (some 122) none (.mv (.s 20)),
    .p (some 123) none (.bin .add (.s 121) (.s 122)),
    .m (some 124) none (.mv (.s 5)),
    .m (some 125) none (.mv (.s 2)),
    .m (some 126) none (.mv (.s 20)),
    .p (some 127) none (.iaddr 3 (.s 125) (.s 126)),
    .p (some 128) none (.faddr [1, 2] 0 (.s 127)),
    .r (some 129) none (.load 1 false (.s 128)),
    .m (some 130) none (.mv (.s 2)),
    .m (some 131) none (.mv (.s 20)),
    .p (some 132) none (.iaddr 3 (.s 130) (.s 131)),
    .p (some 133) none (.faddr [1, 2] 1 (.s 132)),
    .r (some 134) none (.load 2 true (.s 133)),
    .p (some 135) none (.faddr [1, 1, 1, 1, 1, 1, 1, 1, 1, 1] 1 (.s 9)),
    .r (some 136) none (.load 1 false (.s 135)),
    .p (some 137) none (.build [1, 1] [.v (.int .i64 0), .v (.int .i64 0)] [(0, .s 136), (1, .c (.v (.int .i64 1099511627776)))]),
    .p (some 138) none (.faddr [1, 1, 1, 1, 1, 1, 1, 1, 1, 1] 0 (.s 9)),
    .r (some 139) none (.load 1 false (.s 138)),
    .p (some 140) none (.build [1, 1, 1, 2, 2, 1, 1] [.v (.int .i64 0), .v (.int .i64 0), .sl 3 [], .agg [1, 1] [.v (.int .i64 0), .v (.int .i64 0)], .agg [1, 1] [.v (.int .i64 0), .v (.int .i64 0)], .v (.int .i64 0), .v (.int .i64 0)] [(0, .s 123), (1, .s 124), (2, .s 129), (3, .s 134), (4, .s 137), (5, .s 139)]),
    .p (some 141) none (.bsl 9 1 (.agg [1, 1, 1, 2, 2, 1, 1] [.v (.int .i64 0), .v (.int .i64 0), .sl 3 [], .agg [1, 1] [.v (.int .i64 0), .v (.int .i64 0)], .agg [1, 1] [.v (.int .i64 0), .v (.int .i64 0)], .v (.int .i64 0), .v (.int .i64 0)]) [(0, .s 140)]),
    .w (some 142) none (.app 2001 9 1599289640401 (.s 120) (.s 141)),
    .m (some 16) none (.mv (.s 142))] [])))) (
  .seq (.reg [
    .m (some 111) none (.mv (.s 20)),
    .p (some 112) none (.bin .add (.s 111) (.c (.v (.int .i64 1)))),
    .m (some 20) none (.mv (.s 112))] []) (
  .keep [2, 4, 5, 9, 16, 20] []))))
def c_ref32_Apply_R2 : ACode :=
  .seq (.reg [
    .m (some 143) none (.mv (.s 16)),
    .m (some 12) none (.mv (.s 143)),
    .m (some 13) none (.mv (.c (.v (.int .i64 0))))] []) (
  .seq (.keep [12, 13] []) (
  .ret))
def c_ref32_Apply_R3 : ACode :=
  .seq (.reg [
    .m (some 20) none (.mv (.c (.v (.int .i64 0))))] []) (
  .seq (.blk 6 (.seq (.keep [2, 4, 5, 9, 16, 20] []) (
  .loop c_ref32_Apply_L3))) (
  .sub c_ref32_Apply_R2))
def c_ref32_Apply_R4 : ACode :=
  .seq (.reg [
    .w (some 16) none (.newnil 2001 9)] []) (
  .seq (.reg [
    .m (some 17) none (.mv (.c (.v (.int .i64 0))))] []) (
  .seq (.blk 2 (.seq (.keep [0, 1, 2, 4, 5, 9, 16, 17] []) (
  .loop c_ref32_Apply_L2))) (
  .sub c_ref32_Apply_R3)))
def c_ref32_Apply_B : ACode :=
  .seq (.reg [
    .m (some 9) none (.boxC (.s 3)),
    .m (some 12) none (.mv (.c (.nil))),
    .m (some 13) none (.mv (.c (.v (.int .i64 0))))] []) (
  .seq (.reg [
    .p (some 21) none (.faddr [1, 1, 1, 1, 1, 1, 1, 1, 1, 1] 1 (.s 9)),
    .r (some 22) none (.load 1 false (.s 21)),
    .p (some 23) none (.bin .lss (.s 22) (.c (.v (.int .i64 0)))),
    .m (some 24) none (.mv (.s 23)),
    .p (some 25) (some (24, false)) (.faddr [1, 1, 1, 1, 1, 1, 1, 1, 1, 1] 1 (.s 9)),
    .r (some 26) (some (24, false)) (.load 1 false (.s 25)),
    .p (some 27) (some (24, false)) (.bin .geq (.s 26) (.c (.v (.int .i64 1099511627776)))),
    .m (some 28) none (.pick (.s 24) (.c (.v (.bool true))) (.s 27))] []) (
  .seq (.cond (.s 28) (.seq (.reg [
    .m (some 12) none (.mv (.c (.nil))),
    .m (some 13) none (.mv (.c (.v (.int .i64 6))))] []) (
  .seq (.keep [12, 13] []) (
  .ret))) (.skip)) (
  .seq (.reg [
    .m (some 14) none (.mv (.c (.v (.int .i64 0))))] []) (
  .seq (.blk 0 (.seq (.keep [0, 1, 2, 4, 5, 9, 14] []) (
  .loop c_ref32_Apply_L0))) (
  .sub c_ref32_Apply_R4)))))
/-- bitemporal/bitemporalref32.Apply -/
def c_ref32_Apply : AFun := ⟨6, [.tmp 12, .tmp 13], c_ref32_Apply_B⟩
def c_ref28_SameVersions_L0 : ACode :=
  .seq (.reg [
    .m (some 11) none (.mv (.s 5)),
    .m (some 12) none (.mv (.s 0)),
    .p (some 13) none (.len false (.s 12)),
    .p (some 14) none (.bin .lss (.s 11) (.s 13))] []) (
  .seq (.cond (.s 14) (.skip) (.seq (.keep [] []) (
  .exit 0))) (
  .seq (.blk 1 (.seq (.reg [
    .m (some 17) none (.mv (.s 0)),
    .m (some 18) none (.mv (.s 5)),
    .p (some 19) none (.iaddr 9 (.s 17) (.s 18)),
    .r (some 20) none (.load 9 true (.s 19)),
    .m (some 21) none (.mv (.s 1)),
    .m (some 22) none (.mv (.s 5)),
    .p (some 23) none (.iaddr 9 (.s 21) (.s 22)),
    .r (some 24) none (.load 9 true (.s 23)),
    .call (some 25) none (.fn 53) [(.s 20, .pass), (.s 24, .pass)] (.frz [0]),
    .p (some 26) none (.un .not (.s 25))] []) (
  .seq (.cond (.s 26) (.seq (.reg [
    .m (some 4) none (.mv (.c (.v (.bool false))))] []) (
  .seq (.keep [4] []) (
  .ret))) (.skip)) (
  .keep [0, 1, 5] [])))) (
  .seq (.reg [
    .m (some 15) none (.mv (.s 5)),
    .p (some 16) none (.bin .add (.s 15) (.c (.v (.int .i64 1)))),
    .m (some 5) none (.mv (.s 16))] []) (
  .keep [0, 1, 5] []))))
def c_ref28_SameVersions_R0 : ACode :=
  .seq (.reg [
    .m (some 4) none (.mv (.c (.v (.bool true))))] []) (
  .seq (.keep [4] []) (
  .ret))
def c_ref28_SameVersions_B : ACode :=
  .seq (.reg [
    .m (some 4) none (.mv (.c (.v (.bool false))))] []) (
  .seq (.reg [
    .m (some 6) none (.mv (.s 0)),
    .p (some 7) none (.len false (.s 6)),
    .m (some 8) none (.mv (.s 1)),
    .p (some 9) none (.len false (.s 8)),
    .p (some 10) none (.bin .neq (.s 7) (.s 9))] []) (
  .seq (.cond (.s 10) (.seq (.reg [
    .m (some 4) none (.mv (.c (.v (.bool false))))] []) (
  .seq (.keep [4] []) (
  .ret))) (.skip)) (
  .seq (.reg [
    .m (some 5) none (.mv (.c (.v (.int .i64 0))))] []) (
  .seq (.blk 0 (.seq (.keep [0, 1, 5] []) (
  .loop c_ref28_SameVersions_L0))) (
  .sub c_ref28_SameVersions_R0)))))
/-- bitemporal/bitemporalref28.SameVersions -/
def c_ref28_SameVersions : AFun := ⟨2, [.tmp 4], c_ref28_SameVersions_B⟩
def c_law32_DeltaUndoes_R0 : ACode :=
  .seq (.reg [
    .m (some 17) none (.mv (.s 16)),
    .m (some 18) (some (17, false)) (.mv (.s 0)),
    .call (some 19) (some (17, false)) (.fn 23) [(.s 18, .pass)] (.frz [0]),
    .p (some 20) (some (17, false)) (.un .not (.s 19)),
    .m (some 21) none (.pick (.s 17) (.c (.v (.bool true))) (.s 20))] []) (
  .seq (.cond (.s 21) (.seq (.reg [
    .call (some 22) none (.fn 5) [] (.frz [0]),
    .m (some 4) none (.mv (.s 22))] []) (
  .seq (.keep [4] []) (
  .ret))) (.skip)) (
  .seq (.reg [
    .m (some 23) none (.mv (.s 0)),
    .m (some 24) none (.mv (.s 1)),
    .call (some 25) none (.fn 24) [(.s 23, .pass), (.s 24, .pass)] (.frz [9]),
    .m (some 26) none (.mv (.s 0)),
    .m (some 27) none (.mv (.s 1)),
    .call (some 28) none (.fn 25) [(.s 26, .pass), (.s 27, .pass)] (.frz [9]),
    .call (some 29) none (.fn 21) [(.s 25, .pass), (.s 28, .pass)] (.frz [0]),
    .m (some 30) none (.mv (.s 29)),
    .call (some 31) (some (30, true)) (.fn 5) [] (.frz [0]),
    .m (some 32) none (.pick (.s 30) (.s 31) (.c (.v (.bool false)))),
    .m (some 4) none (.mv (.s 32))] []) (
  .seq (.keep [4] []) (
  .ret))))
def c_law32_DeltaUndoes_R1 : ACode :=
  .seq (.reg [
    .m (some 12) none (.mv (.s 11)),
    .m (some 13) (some (12, false)) (.mv (.s 0)),
    .call (some 14) (some (12, false)) (.fn 10) [(.s 13, .pass)] (.frz [0]),
    .p (some 15) (some (12, false)) (.bin .neq (.s 14) (.c (.v (.int .i64 0)))),
    .m (some 16) none (.pick (.s 12) (.c (.v (.bool true))) (.s 15))] []) (
  .seq (.keep [0, 1, 16] []) (
  .sub c_law32_DeltaUndoes_R0))
def c_law32_DeltaUndoes_B : ACode :=
  .seq (.reg [
    .m (some 4) none (.mv (.c (.v (.bool false))))] []) (
  .seq (.reg [
    .m (some 5) none (.mv (.s 0)),
    .call (some 6) none (.fn 4) [(.s 5, .pass)] (.frz [0]),
    .p (some 7) none (.un .not (.s 6)),
    .m (some 8) none (.mv (.s 7)),
    .m (some 9) (some (8, false)) (.mv (.s 1)),
    .p (some 10) (some (8, false)) (.bin .lss (.s 9) (.c (.v (.int .i64 1)))),
    .m (some 11) none (.pick (.s 8) (.c (.v (.bool true))) (.s 10))] []) (
  .seq (.keep [0, 1, 11] []) (
  .sub c_law32_DeltaUndoes_R1)))
/-- bitemporal/bitemporallaw32.DeltaUndoes -/
def c_law32_DeltaUndoes : AFun := ⟨2, [.tmp 4], c_law32_DeltaUndoes_B⟩
def c_ref32_Single_L0 : ACode :=
  .seq (.reg [
    .m (some 11) none (.mv (.s 4)),
    .m (some 12) none (.mv (.s 3)),
    .p (some 13) none (.bin .lss (.s 11) (.s 12))] []) (
  .seq (.cond (.s 13) (.skip) (.seq (.keep [0, 3] []) (
  .exit 2))) (
  .seq (.blk 3 (.seq (.reg [
    .m (some 16) none (.mv (.s 0)),
    .m (some 17) none (.mv (.s 3)),
    .p (some 18) none (.iaddr 9 (.s 16) (.s 17)),
    .p (some 19) none (.faddr [1, 1, 1, 2, 2, 1, 1] 0 (.s 18)),
    .r (some 20) none (.load 1 false (.s 19)),
    .m (some 21) none (.mv (.s 0)),
    .m (some 22) none (.mv (.s 4)),
    .p (some 23) none (.iaddr 9 (.s 21) (.s 22)),
    .p (some 24) none (.faddr [1, 1, 1, 2, 2, 1, 1] 0 (.s 23)),
    .r (some 25) none (.load 1 false (.s 24)),
    .p (some 26) none (.bin .eql (.s 20) (.s 25))] []) (
  .seq (.cond (.s 26) (.seq (.reg [
    .m (some 2) none (.mv (.c (.v (.bool false))))] []) (
  .seq (.keep [2] []) (
  .ret))) (.skip)) (
  .keep [0, 3, 4] [])))) (
  .seq (.reg [
    .m (some 14) none (.mv (.s 4)),
    .p (some 15) none (.bin .add (.s 14) (.c (.v (.int .i64 1)))),
    .m (some 4) none (.mv (.s 15))] []) (
  .keep [0, 3, 4] []))))
def c_ref32_Single_R0 : ACode :=
  .seq (.reg [
    .m (some 9) none (.mv (.s 3)),
    .p (some 10) none (.bin .add (.s 9) (.c (.v (.int .i64 1)))),
    .m (some 3) none (.mv (.s 10))] []) (
  .seq (.keep [0, 3] []) (
  .keep [0, 3] []))
def c_ref32_Single_L1 : ACode :=
  .seq (.reg [
    .m (some 5) none (.mv (.s 3)),
    .m (some 6) none (.mv (.s 0)),
    .p (some 7) none (.len false (.s 6)),
    .p (some 8) none (.bin .lss (.s 5) (.s 7))] []) (
  .seq (.cond (.s 8) (.skip) (.seq (.keep [] []) (
  .exit 0))) (
  .seq (.blk 1 (.seq (.reg [
    .m (some 4) none (.mv (.c (.v (.int .i64 0))))] []) (
  .blk 2 (.seq (.keep [0, 3, 4] []) (
  .loop c_ref32_Single_L0))))) (
  .sub c_ref32_Single_R0)))
def c_ref32_Single_R1 : ACode :=
  .seq (.reg [
    .m (some 2) none (.mv (.c (.v (.bool true))))] []) (
  .seq (.keep [2] []) (
  .ret))
def c_ref32_Single_B : ACode :=
  .seq (.reg [
    .m (some 2) none (.mv (.c (.v (.bool false))))] []) (
  .seq (.reg [
    .m (some 3) none (.mv (.c (.v (.int .i64 0))))] []) (
  .seq (.blk 0 (.seq (.keep [0, 3] []) (
  .loop c_ref32_Single_L1))) (
  .sub c_ref32_Single_R1)))
/-- bitemporal/bitemporalref32.Single -/
def c_ref32_Single : AFun := ⟨1, [.tmp 2], c_ref32_Single_B⟩
def c_delta_Undo_R0 : ACode :=
  .seq (.reg [
    .p (some 25) none (.bsl 3 0 (.agg [1, 1, 1] [.v (.int .i64 0), .v (.int .i64 0), .v (.string ByteArray.empty)]) []),
    .p (some 26) none (.faddr [1, 1, 1, 2, 2, 1, 1] 2 (.s 7)),
    .r (some 27) none (.load 1 false (.s 26)),
    .r (some 28) none (.clone 3 4398046511104 (.s 25) (.s 27)),
    .p (some 29) none (.faddr [1, 1, 1, 2, 2, 1, 1] 2 (.s 7)),
    .w none none (.store 1 (.s 29) (.s 28))] []) (
  .reg [
    .m (some 30) none (.mv (.s 5)),
    .r (some 31) none (.load 9 true (.s 7)),
    .p (some 32) none (.bsl 9 1 (.agg [1, 1, 1, 2, 2, 1, 1] [.v (.int .i64 0), .v (.int .i64 0), .sl 3 [], .agg [1, 1] [.v (.int .i64 0), .v (.int .i64 0)], .agg [1, 1] [.v (.int .i64 0), .v (.int .i64 0)], .v (.int .i64 0), .v (.int .i64 0)]) [(0, .s 31)]),
    .w (some 33) none (.app 2401 9 1599289640401 (.s 30) (.s 32)),
    .m (some 5) none (.mv (.s 33))] [])
def c_delta_Undo_R1 : ACode :=
  .seq (.reg [
    .p (some 34) none (.bin .add (.s 10) (.c (.v (.int .i64 1)))),
    .m (some 10) none (.mv (.s 34))] []) (
  .keep [1, 5, 8, 9, 10] [2402])
def c_delta_Undo_L0 : ACode :=
  .seq (.reg [
    .p (some 11) none (.bin .lss (.s 10) (.s 9))] []) (
  .seq (.cond (.s 11) (.skip) (.seq (.keep [5] []) (
  .exit 0))) (
  .seq (.blk 1 (.seq (.reg [
    .p (some 12) none (.iaddr 9 (.s 8) (.s 10)),
    .r (some 13) none (.load 9 true (.s 12)),
    .w (some 7) none (.alloc 2402 (.agg [1, 1, 1, 2, 2, 1, 1] [.v (.int .i64 0), .v (.int .i64 0), .sl 3 [], .agg [1, 1] [.v (.int .i64 0), .v (.int .i64 0)], .agg [1, 1] [.v (.int .i64 0), .v (.int .i64 0)], .v (.int .i64 0), .v (.int .i64 0)])),
    .w none none (.store 9 (.s 7) (.s 13))] []) (
  .seq (.reg [
    .p (some 14) none (.faddr [1, 1, 1, 2, 2, 1, 1] 5 (.s 7)),
    .r (some 15) none (.load 1 false (.s 14)),
    .m (some 16) none (.mv (.s 1)),
    .p (some 17) none (.bin .geq (.s 15) (.s 16))] []) (
  .seq (.cond (.s 17) (.seq (.keep [1, 5, 8, 9, 10] []) (
  .exit 1)) (.skip)) (
  .seq (.reg [
    .p (some 18) none (.faddr [1, 1, 1, 2, 2, 1, 1] 6 (.s 7)),
    .r (some 19) none (.load 1 false (.s 18)),
    .m (some 20) none (.mv (.s 1)),
    .p (some 21) none (.bin .geq (.s 19) (.s 20))] []) (
  .seq (.cond (.s 21) (.reg [
    .p (some 22) none (.faddr [1, 1, 1, 2, 2, 1, 1] 4 (.s 7)),
    .p (some 23) none (.faddr [1, 1] 1 (.s 22)),
    .w none none (.store 1 (.s 23) (.c (.v (.int .i64 1099511627776)))),
    .p (some 24) none (.faddr [1, 1, 1, 2, 2, 1, 1] 6 (.s 7)),
    .w none none (.store 1 (.s 24) (.c (.v (.int .i64 0))))] []) (.skip)) (
  .seq (.keep [1, 5, 7, 8, 9, 10] []) (
  .sub c_delta_Undo_R0)))))))) (
  .sub c_delta_Undo_R1)))
def c_delta_Undo_R2 : ACode :=
  .seq (.reg [
    .m (some 35) none (.mv (.s 5)),
    .m (some 4) none (.mv (.s 35))] []) (
  .seq (.keep [4] []) (
  .ret))
def c_delta_Undo_B : ACode :=
  .seq (.reg [
    .m (some 4) none (.mv (.c (.nil)))] []) (
  .seq (.reg [
    .w (some 5) none (.newnil 2401 9)] []) (
  .seq (.reg [
    .m (some 8) none (.mv (.s 0)),
    .p (some 9) none (.len false (.s 8)),
    .m (some 10) none (.mv (.c (.v (.int .i64 0))))] []) (
  .seq (.blk 0 (.seq (.keep [1, 5, 8, 9, 10] []) (
  .loop c_delta_Undo_L0))) (
  .sub c_delta_Undo_R2))))
/-- bitemporal/delta.Undo -/
def c_delta_Undo : AFun := ⟨2, [.tmp 4], c_delta_Undo_B⟩
def c_ref32_Undo_L0 : ACode :=
  .seq (.reg [
    .m (some 8) none (.mv (.s 6)),
    .m (some 9) none (.mv (.s 0)),
    .p (some 10) none (.len false (.s 9)),
    .p (some 11) none (.bin .lss (.s 8) (.s 10))] []) (
  .seq (.cond (.s 11) (.skip) (.seq (.keep [5] []) (
  .exit 0))) (
  .seq (.blk 1 (.seq (.reg [
    .m (some 14) none (.mv (.s 0)),
    .m (some 15) none (.mv (.s 6)),
    .p (some 16) none (.iaddr 9 (.s 14) (.s 15)),
    .r (some 17) none (.load 9 true (.s 16)),
    .w (some 7) none (.alloc 2502 (.agg [1, 1, 1, 2, 2, 1, 1] [.v (.int .i64 0), .v (.int .i64 0), .sl 3 [], .agg [1, 1] [.v (.int .i64 0), .v (.int .i64 0)], .agg [1, 1] [.v (.int .i64 0), .v (.int .i64 0)], .v (.int .i64 0), .v (.int .i64 0)])),
    .w none none (.store 9 (.s 7) (.s 17))] []) (
  .seq (.reg [
    .p (some 18) none (.faddr [1, 1, 1, 2, 2, 1, 1] 5 (.s 7)),
    .r (some 19) none (.load 1 false (.s 18)),
    .m (some 20) none (.mv (.s 1)),
    .p (some 21) none (.bin .geq (.s 19) (.s 20))] []) (
  .seq (.cond (.s 21) (.seq (.keep [0, 1, 5, 6] []) (
  .exit 1)) (.skip)) (
  .seq (.reg [
    .p (some 22) none (.faddr [1, 1, 1, 2, 2, 1, 1] 6 (.s 7)),
    .r (some 23) none (.load 1 false (.s 22)),
    .m (some 24) none (.mv (.s 1)),
    .p (some 25) none (.bin .geq (.s 23) (.s 24))] []) (
  .seq (.cond (.s 25) (.seq (.reg [
    .p (some 26) none (.faddr [1, 1, 1, 2, 2, 1, 1] 4 (.s 7)),
    .p (some 27) none (.faddr [1, 1] 1 (.s 26)),
    .w none none (.store 1 (.s 27) (.c (.v (.int .i64 1099511627776))))] []) (
  .reg [
    .p (some 28) none (.faddr [1, 1, 1, 2, 2, 1, 1] 6 (.s 7)),
    .w none none (.store 1 (.s 28) (.c (.v (.int .i64 0))))] [])) (.skip)) (
  .reg [
    .m (some 29) none (.mv (.s 5)),
    .r (some 30) none (.load 9 true (.s 7)),
    .p (some 31) none (.bsl 9 1 (.agg [1, 1, 1, 2, 2, 1, 1] [.v (.int .i64 0), .v (.int .i64 0), .sl 3 [], .agg [1, 1] [.v (.int .i64 0), .v (.int .i64 0)], .agg [1, 1] [.v (.int .i64 0), .v (.int .i64 0)], .v (.int .i64 0), .v (.int .i64 0)]) [(0, .s 30)]),
    .w (some 32) none (.app 2501 9 1599289640401 (.s 29) (.s 31)),
    .m (some 5) none (.mv (.s 32))] []))))))) (
  .seq (.reg [
    .m (some 12) none (.mv (.s 6)),
    .p (some 13) none (.bin .add (.s 12) (.c (.v (.int .i64 1)))),
    .m (some 6) none (.mv (.s 13))] []) (
  .keep [0, 1, 5, 6] [2502]))))
def c_ref32_Undo_R0 : ACode :=
  .seq (.reg [
    .m (some 33) none (.mv (.s 5)),
    .m (some 4) none (.mv (.s 33))] []) (
  .seq (.keep [4] []) (
  .ret))
def c_ref32_Undo_B : ACode :=
  .seq (.reg [
    .m (some 4) none (.mv (.c (.nil)))] []) (
  .seq (.reg [
    .w (some 5) none (.newnil 2501 9)] []) (
  .seq (.reg [
    .m (some 6) none (.mv (.c (.v (.int .i64 0))))] []) (
  .seq (.blk 0 (.seq (.keep [0, 1, 5, 6] []) (
  .loop c_ref32_Undo_L0))) (
  .sub c_ref32_Undo_R0))))
/-- bitemporal/bitemporalref32.Undo -/
def c_ref32_Undo : AFun := ⟨2, [.tmp 4], c_ref32_Undo_B⟩
def c_ref32_Open_B : ACode :=
  .seq (.reg [
    .m (some 1) none (.boxC (.s 0)),
    .m (some 2) none (.mv (.c (.v (.bool false))))] []) (
  .seq (.reg [
    .p (some 3) none (.faddr [1, 1, 1, 2, 2, 1, 1] 4 (.s 1)),
    .r (some 4) none (.load 2 true (.s 3)),
    .call (some 5) none (.fn 52) [(.s 4, .pass)] (.frz [0]),
    .m (some 6) none (.mv (.s 5)),
    .p (some 7) (some (6, true)) (.faddr [1, 1, 1, 2, 2, 1, 1] 4 (.s 1)),
    .p (some 8) (some (6, true)) (.faddr [1, 1] 1 (.s 7)),
    .r (some 9) (some (6, true)) (.load 1 false (.s 8)),
    .p (some 10) (some (6, true)) (.bin .eql (.s 9) (.c (.v (.int .i64 1099511627776)))),
    .m (some 11) none (.pick (.s 6) (.s 10) (.c (.v (.bool false)))),
    .m (some 2) none (.mv (.s 11))] []) (
  .seq (.keep [2] []) (
  .ret)))
/-- bitemporal/bitemporalref32.Open -/
def c_ref32_Open : AFun := ⟨1, [.tmp 2], c_ref32_Open_B⟩
def c_ref08_Compare_L0 : ACode :=
  .seq (.reg [
    .m (some 7) none (.mv (.s 5)),
    .m (some 8) none (.mv (.s 0)),
    .p (some 9) none (.len false (.s 8)),
    .p (some 10) none (.bin .lss (.s 7) (.s 9)),
    .m (some 11) none (.mv (.s 10)),
    .m (some 12) (some (11, true)) (.mv (.s 5)),
    .m (some 13) (some (11, true)) (.mv (.s 1)),
    .p (some 14) (some (11, true)) (.len false (.s 13)),
    .p (some 15) (some (11, true)) (.bin .lss (.s 12) (.s 14)),
    .m (some 16) none (.pick (.s 11) (.s 15) (.c (.v (.bool false))))] []) (
  .seq (.cond (.s 16) (.skip) (.seq (.keep [0, 1] []) (
  .exit 0))) (
  .seq (.blk 1 (.seq (.reg [
    .m (some 19) none (.mv (.s 0)),
    .m (some 20) none (.mv (.s 5)),
    .p (some 21) none (.iaddr 3 (.s 19) (.s 20)),
    .r (some 22) none (.load 3 true (.s 21)),
    .m (some 23) none (.mv (.s 1)),
    .m (some 24) none (.mv (.s 5)),
    .p (some 25) none (.iaddr 3 (.s 23) (.s 24)),
    .r (some 26) none (.load 3 true (.s 25)),
    .call (some 27) none (.fn 54) [(.s 22, .pass), (.s 26, .pass)] (.frz [0]),
    .m (some 6) none (.mv (.s 27))] []) (
  .seq (.reg [
    .m (some 28) none (.mv (.s 6)),
    .p (some 29) none (.bin .neq (.s 28) (.c (.v (.int .i64 0))))] []) (
  .seq (.cond (.s 29) (.seq (.reg [
    .m (some 30) none (.mv (.s 6)),
    .m (some 4) none (.mv (.s 30))] []) (
  .seq (.keep [4] []) (
  .ret))) (.skip)) (
  .keep [0, 1, 5] []))))) (
  .seq (.reg [
    .m (some 17) none (.mv (.s 5)),
    .p (some 18) none (.bin .add (.s 17) (.c (.v (.int .i64 1)))),
    .m (some 5) none (.mv (.s 18))] []) (
  .keep [0, 1, 5] []))))
def c_ref08_Compare_R0 : ACode :=
  .seq (.reg [
    .m (some 31) none (.mv (.s 0)),
    .p (some 32) none (.len false (.s 31)),
    .m (some 33) none (.mv (.s 1)),
    .p (some 34) none (.len false (.s 33)),
    .p (some 35) none (.bin .lss (.s 32) (.s 34))] []) (
  .seq (.cond (.s 35) (.seq (.reg [
    .m (some 4) none (.mv (.c (.v (.int .i64 (-1)))))] []) (
  .seq (.keep [4] []) (
  .ret))) (.skip)) (
  .seq (.reg [
    .m (some 36) none (.mv (.s 0)),
    .p (some 37) none (.len false (.s 36)),
    .m (some 38) none (.mv (.s 1)),
    .p (some 39) none (.len false (.s 38)),
    .p (some 40) none (.bin .gtr (.s 37) (.s 39))] []) (
  .seq (.cond (.s 40) (.seq (.reg [
    .m (some 4) none (.mv (.c (.v (.int .i64 1))))] []) (
  .seq (.keep [4] []) (
  .ret))) (.skip)) (
  .seq (.reg [
    .m (some 4) none (.mv (.c (.v (.int .i64 0))))] []) (
  .seq (.keep [4] []) (
  .ret))))))
def c_ref08_Compare_B : ACode :=
  .seq (.reg [
    .m (some 4) none (.mv (.c (.v (.int .i64 0))))] []) (
  .seq (.reg [
    .m (some 5) none (.mv (.c (.v (.int .i64 0))))] []) (
  .seq (.blk 0 (.seq (.keep [0, 1, 5] []) (
  .loop c_ref08_Compare_L0))) (
  .sub c_ref08_Compare_R0)))
/-- bitemporal/bitemporalref08.Compare -/
def c_ref08_Compare : AFun := ⟨2, [.tmp 4], c_ref08_Compare_B⟩
def c_ref28_Facts_L0 : ACode :=
  .seq (.reg [
    .m (some 5) none (.mv (.s 4)),
    .m (some 6) none (.mv (.s 0)),
    .p (some 7) none (.len false (.s 6)),
    .p (some 8) none (.bin .lss (.s 5) (.s 7))] []) (
  .seq (.cond (.s 8) (.skip) (.seq (.keep [3] []) (
  .exit 0))) (
  .seq (.blk 1 (.reg [
    .m (some 11) none (.mv (.s 3)),
    .m (some 12) none (.mv (.s 0)),
    .m (some 13) none (.mv (.s 4)),
    .p (some 14) none (.iaddr 9 (.s 12) (.s 13)),
    .p (some 15) none (.faddr [1, 1, 1, 2, 2, 1, 1] 2 (.s 14)),
    .r (some 16) none (.load 1 false (.s 15)),
    .m (some 17) none (.mv (.s 0)),
    .m (some 18) none (.mv (.s 4)),
    .p (some 19) none (.iaddr 9 (.s 17) (.s 18)),
    .p (some 20) none (.faddr [1, 1, 1, 2, 2, 1, 1] 3 (.s 19)),
    .r (some 21) none (.load 2 true (.s 20)),
    .p (some 22) none (.build [1, 2] [.sl 3 [], .agg [1, 1] [.v (.int .i64 0), .v (.int .i64 0)]] [(0, .s 16), (1, .s 21)]),
    .p (some 23) none (.bsl 3 1 (.agg [1, 2] [.sl 3 [], .agg [1, 1] [.v (.int .i64 0), .v (.int .i64 0)]]) [(0, .s 22)]),
    .w (some 24) none (.app 3401 3 3518437208883 (.s 11) (.s 23)),
    .m (some 3) none (.mv (.s 24))] [])) (
  .seq (.reg [
    .m (some 9) none (.mv (.s 4)),
    .p (some 10) none (.bin .add (.s 9) (.c (.v (.int .i64 1)))),
    .m (some 4) none (.mv (.s 10))] []) (
  .keep [0, 3, 4] []))))
def c_ref28_Facts_R0 : ACode :=
  .seq (.reg [
    .m (some 25) none (.mv (.s 3)),
    .m (some 2) none (.mv (.s 25))] []) (
  .seq (.keep [2] []) (
  .ret))
def c_ref28_Facts_B : ACode :=
  .seq (.reg [
    .m (some 2) none (.mv (.c (.nil)))] []) (
  .seq (.reg [
    .w (some 3) none (.newnil 3401 3)] []) (
  .seq (.reg [
    .m (some 4) none (.mv (.c (.v (.int .i64 0))))] []) (
  .seq (.blk 0 (.seq (.keep [0, 3, 4] []) (
  .loop c_ref28_Facts_L0))) (
  .sub c_ref28_Facts_R0))))
/-- bitemporal/bitemporalref28.Facts -/
def c_ref28_Facts : AFun := ⟨1, [.tmp 2], c_ref28_Facts_B⟩
def c_law32_opened_B : ACode :=
  .seq (.reg [
    .w (some 8) none (.alloc 3501 (.agg [1, 1, 1, 2, 2, 1, 1] [.v (.int .i64 0), .v (.int .i64 0), .sl 3 [], .agg [1, 1] [.v (.int .i64 0), .v (.int .i64 0)], .agg [1, 1] [.v (.int .i64 0), .v (.int .i64 0)], .v (.int .i64 0), .v (.int .i64 0)]))] []) (
  .seq (.reg [
    .m (some 10) none (.mv (.s 1)),
    .m (some 11) none (.mv (.s 2)),
    .m (some 12) none (.mv (.s 3)),
    .call (some 13) none (.fn 36) [(.s 10, .pass), (.s 11, .pass), (.s 12, .pass)] (.frz [0]),
    .w (some 9) none (.alloc 3502 (.agg [1, 2] [.sl 3 [], .agg [1, 1] [.v (.int .i64 0), .v (.int .i64 0)]])),
    .fin none 3 9 (.s 13)] []) (
  .seq (.reg [
    .m (some 14) none (.mv (.s 0)),
    .p (some 15) none (.faddr [1, 2] 0 (.s 9)),
    .r (some 16) none (.load 1 false (.s 15)),
    .p (some 17) none (.faddr [1, 2] 1 (.s 9)),
    .r (some 18) none (.load 2 true (.s 17)),
    .p (some 19) none (.build [1, 1] [.v (.int .i64 0), .v (.int .i64 0)] [(0, .c (.v (.int .i64 10))), (1, .c (.v (.int .i64 1099511627776)))]),
    .p (some 20) none (.build [1, 1, 1, 2, 2, 1, 1] [.v (.int .i64 0), .v (.int .i64 0), .sl 3 [], .agg [1, 1] [.v (.int .i64 0), .v (.int .i64 0)], .agg [1, 1] [.v (.int .i64 0), .v (.int .i64 0)], .v (.int .i64 0), .v (.int .i64 0)] [(0, .s 14), (2, .s 16), (3, .s 18), (4, .s 19), (5, .c (.v (.int .i64 1)))]),
    .fin none 9 8 (.s 20)] []) (
  .seq (.keep [8] []) (
  .ret))))
/-- bitemporal/bitemporallaw32.opened -/
def c_law32_opened : AFun := ⟨4, [.cell 8 9 true], c_law32_opened_B⟩
def c_law32_fact_B : ACode :=
  .seq (.reg [
    .w (some 6) none (.alloc 3601 (.agg [1, 2] [.sl 3 [], .agg [1, 1] [.v (.int .i64 0), .v (.int .i64 0)]]))] []) (
  .seq (.reg [
    .m (some 7) none (.mv (.s 0)),
    .p (some 8) none (.build [1, 1, 1] [.v (.int .i64 0), .v (.int .i64 0), .v (.string ByteArray.empty)] [(0, .c (.v (.int .i64 1))), (1, .s 7)]),
    .p (some 9) none (.bsl 3 1 (.agg [1, 1, 1] [.v (.int .i64 0), .v (.int .i64 0), .v (.string ByteArray.empty)]) [(0, .s 8)]),
    .m (some 10) none (.mv (.s 1)),
    .m (some 11) none (.mv (.s 2)),
    .p (some 12) none (.build [1, 1] [.v (.int .i64 0), .v (.int .i64 0)] [(0, .s 10), (1, .s 11)]),
    .p (some 13) none (.build [1, 2] [.sl 3 [], .agg [1, 1] [.v (.int .i64 0), .v (.int .i64 0)]] [(0, .s 9), (1, .s 12)]),
    .fin none 3 6 (.s 13)] []) (
  .seq (.keep [6] []) (
  .ret)))
/-- bitemporal/bitemporallaw32.fact -/
def c_law32_fact : AFun := ⟨3, [.cell 6 3 true], c_law32_fact_B⟩
def c_delta_valid_R0 : ACode :=
  .seq (.reg [
    .m (some 31) none (.mv (.s 30)),
    .p (some 32) (some (31, true)) (.faddr [1, 1, 1, 2, 2, 1, 1] 6 (.s 1)),
    .r (some 33) (some (31, true)) (.load 1 false (.s 32)),
    .p (some 34) (some (31, true)) (.bin .eql (.s 33) (.c (.v (.int .i64 0)))),
    .m (some 35) (some (31, true)) (.mv (.s 34)),
    .p (some 36) (some (35, false)) (.faddr [1, 1, 1, 2, 2, 1, 1] 6 (.s 1)),
    .r (some 37) (some (35, false)) (.load 1 false (.s 36)),
    .p (some 38) (some (35, false)) (.faddr [1, 1, 1, 2, 2, 1, 1] 5 (.s 1)),
    .r (some 39) (some (35, false)) (.load 1 false (.s 38)),
    .p (some 40) (some (35, false)) (.bin .gtr (.s 37) (.s 39)),
    .m (some 41) (some (35, false)) (.mv (.s 40)),
    .p (some 42) (some (41, true)) (.faddr [1, 1, 1, 2, 2, 1, 1] 4 (.s 1)),
    .p (some 43) (some (41, true)) (.faddr [1, 1] 1 (.s 42)),
    .r (some 44) (some (41, true)) (.load 1 false (.s 43)),
    .p (some 45) (some (41, true)) (.bin .neq (.s 44) (.c (.v (.int .i64 1099511627776)))),
    .m (some 46) (some (35, false)) (.pick (.s 41) (.s 45) (.c (.v (.bool false)))),
    .m (some 47) (some (31, true)) (.pick (.s 35) (.c (.v (.bool true))) (.s 46)),
    .m (some 48) none (.pick (.s 31) (.s 47) (.c (.v (.bool false)))),
    .m (some 2) none (.mv (.s 48))] []) (
  .seq (.keep [2] []) (
  .ret))
def c_delta_valid_R1 : ACode :=
  .seq (.reg [
    .m (some 26) none (.mv (.s 25)),
    .p (some 27) (some (26, true)) (.faddr [1, 1, 1, 2, 2, 1, 1] 4 (.s 1)),
    .r (some 28) (some (26, true)) (.load 2 true (.s 27)),
    .call (some 29) (some (26, true)) (.fn 65) [(.s 28, .pass)] (.frz [0]),
    .m (some 30) none (.pick (.s 26) (.s 29) (.c (.v (.bool false))))] []) (
  .seq (.keep [1, 30] []) (
  .sub c_delta_valid_R0))
def c_delta_valid_R2 : ACode :=
  .seq (.reg [
    .m (some 21) none (.mv (.s 20)),
    .p (some 22) (some (21, true)) (.faddr [1, 1, 1, 2, 2, 1, 1] 3 (.s 1)),
    .r (some 23) (some (21, true)) (.load 2 true (.s 22)),
    .call (some 24) (some (21, true)) (.fn 65) [(.s 23, .pass)] (.frz [0]),
    .m (some 25) none (.pick (.s 21) (.s 24) (.c (.v (.bool false))))] []) (
  .seq (.keep [1, 25] []) (
  .sub c_delta_valid_R1))
def c_delta_valid_R3 : ACode :=
  .seq (.reg [
    .m (some 16) none (.mv (.s 15)),
    .p (some 17) (some (16, true)) (.faddr [1, 1, 1, 2, 2, 1, 1] 6 (.s 1)),
    .r (some 18) (some (16, true)) (.load 1 false (.s 17)),
    .p (some 19) (some (16, true)) (.bin .geq (.s 18) (.c (.v (.int .i64 0)))),
    .m (some 20) none (.pick (.s 16) (.s 19) (.c (.v (.bool false))))] []) (
  .seq (.keep [1, 20] []) (
  .sub c_delta_valid_R2))
def c_delta_valid_R4 : ACode :=
  .seq (.reg [
    .m (some 11) none (.mv (.s 10)),
    .p (some 12) (some (11, true)) (.faddr [1, 1, 1, 2, 2, 1, 1] 1 (.s 1)),
    .r (some 13) (some (11, true)) (.load 1 false (.s 12)),
    .p (some 14) (some (11, true)) (.bin .geq (.s 13) (.c (.v (.int .i64 0)))),
    .m (some 15) none (.pick (.s 11) (.s 14) (.c (.v (.bool false))))] []) (
  .seq (.keep [1, 15] []) (
  .sub c_delta_valid_R3))
def c_delta_valid_B : ACode :=
  .seq (.reg [
    .m (some 1) none (.boxC (.s 0)),
    .m (some 2) none (.mv (.c (.v (.bool false))))] []) (
  .seq (.reg [
    .p (some 3) none (.faddr [1, 1, 1, 2, 2, 1, 1] 0 (.s 1)),
    .r (some 4) none (.load 1 false (.s 3)),
    .p (some 5) none (.bin .geq (.s 4) (.c (.v (.int .i64 1)))),
    .m (some 6) none (.mv (.s 5)),
    .p (some 7) (some (6, true)) (.faddr [1, 1, 1, 2, 2, 1, 1] 5 (.s 1)),
    .r (some 8) (some (6, true)) (.load 1 false (.s 7)),
    .p (some 9) (some (6, true)) (.bin .geq (.s 8) (.c (.v (.int .i64 1)))),
    .m (some 10) none (.pick (.s 6) (.s 9) (.c (.v (.bool false))))] []) (
  .seq (.keep [1, 10] []) (
  .sub c_delta_valid_R4)))
/-- bitemporal/delta.valid -/
def c_delta_valid : AFun := ⟨1, [.tmp 2], c_delta_valid_B⟩
def c_delta_before_U0 : List (Nat × Nat) := [(4, 7), (4, 10), (4, 14), (11, 14), (4, 17), (11, 17)]
def c_delta_before_B : ACode :=
  .seq (.reg [
    .m (some 2) none (.boxC (.s 0)),
    .m (some 3) none (.boxC (.s 1)),
    .m (some 4) none (.mv (.c (.v (.bool false))))] []) (
  .seq (.reg [
    .p (some 5) none (.faddr [1, 1, 1, 2, 2, 1, 1] 0 (.s 2)),
    .r (some 6) none (.load 1 false (.s 5)),
    .p (some 7) none (.faddr [1, 1, 1, 2, 2, 1, 1] 0 (.s 3)),
    .r (some 8) none (.load 1 false (.s 7)),
    .call (some 9) none (.fn 66) [(.s 6, .pass), (.s 8, .pass)] (.frz [0]),
    .p (some 10) none (.faddr [1, 1, 1, 2, 2, 1, 1] 4 (.s 2)),
    .p (some 11) none (.faddr [1, 1] 0 (.s 10)),
    .r (some 12) none (.load 1 false (.s 11)),
    .p (some 13) none (.faddr [1, 1, 1, 2, 2, 1, 1] 4 (.s 3)),
    .p (some 14) none (.faddr [1, 1] 0 (.s 13)),
    .r (some 15) none (.load 1 false (.s 14)),
    .call (some 16) none (.fn 66) [(.s 12, .pass), (.s 15, .pass)] (.frz [0]),
    .p (some 17) none (.faddr [1, 1, 1, 2, 2, 1, 1] 3 (.s 2)),
    .p (some 18) none (.faddr [1, 1] 0 (.s 17)),
    .r (some 19) none (.load 1 false (.s 18)),
    .p (some 20) none (.faddr [1, 1, 1, 2, 2, 1, 1] 3 (.s 3)),
    .p (some 21) none (.faddr [1, 1] 0 (.s 20)),
    .r (some 22) none (.load 1 false (.s 21)),
    .call (some 23) none (.fn 66) [(.s 19, .pass), (.s 22, .pass)] (.frz [0]),
    .p (some 24) none (.bsl 1 3 (.v (.int .i64 0)) [(0, .s 9), (1, .s 16), (2, .s 23)]),
    .call (some 25) none (.fn 67) [(.s 24, .pass)] (.frz [0]),
    .p (some 26) none (.bin .lss (.s 25) (.c (.v (.int .i64 0)))),
    .m (some 4) none (.mv (.s 26))] c_delta_before_U0) (
  .seq (.keep [4] []) (
  .ret)))
/-- bitemporal/delta.before -/
def c_delta_before : AFun := ⟨2, [.tmp 4], c_delta_before_B⟩
def c_ref32_invalid_R0 : ACode :=
  .seq (.reg [
    .m (some 27) none (.mv (.s 26)),
    .p (some 28) (some (27, false)) (.faddr [1, 1, 1, 2, 2, 1, 1] 4 (.s 1)),
    .r (some 29) (some (27, false)) (.load 2 true (.s 28)),
    .call (some 30) (some (27, false)) (.fn 52) [(.s 29, .pass)] (.frz [0]),
    .p (some 31) (some (27, false)) (.un .not (.s 30)),
    .m (some 32) none (.pick (.s 27) (.c (.v (.bool true))) (.s 31))] []) (
  .seq (.cond (.s 32) (.seq (.reg [
    .m (some 2) none (.mv (.c (.v (.bool true))))] []) (
  .seq (.keep [2] []) (
  .ret))) (.skip)) (
  .seq (.reg [
    .p (some 33) none (.faddr [1, 1, 1, 2, 2, 1, 1] 6 (.s 1)),
    .r (some 34) none (.load 1 false (.s 33)),
    .p (some 35) none (.bin .neq (.s 34) (.c (.v (.int .i64 0)))),
    .m (some 36) none (.mv (.s 35)),
    .p (some 37) (some (36, true)) (.faddr [1, 1, 1, 2, 2, 1, 1] 6 (.s 1)),
    .r (some 38) (some (36, true)) (.load 1 false (.s 37)),
    .p (some 39) (some (36, true)) (.faddr [1, 1, 1, 2, 2, 1, 1] 5 (.s 1)),
    .r (some 40) (some (36, true)) (.load 1 false (.s 39)),
    .p (some 41) (some (36, true)) (.bin .leq (.s 38) (.s 40)),
    .m (some 42) (some (36, true)) (.mv (.s 41)),
    .p (some 43) (some (42, false)) (.faddr [1, 1, 1, 2, 2, 1, 1] 4 (.s 1)),
    .p (some 44) (some (42, false)) (.faddr [1, 1] 1 (.s 43)),
    .r (some 45) (some (42, false)) (.load 1 false (.s 44)),
    .p (some 46) (some (42, false)) (.bin .eql (.s 45) (.c (.v (.int .i64 1099511627776)))),
    .m (some 47) (some (36, true)) (.pick (.s 42) (.c (.v (.bool true))) (.s 46)),
    .m (some 48) none (.pick (.s 36) (.s 47) (.c (.v (.bool false)))),
    .m (some 2) none (.mv (.s 48))] []) (
  .seq (.keep [2] []) (
  .ret))))
def c_ref32_invalid_R1 : ACode :=
  .seq (.reg [
    .m (some 21) none (.mv (.s 20)),
    .p (some 22) (some (21, false)) (.faddr [1, 1, 1, 2, 2, 1, 1] 3 (.s 1)),
    .r (some 23) (some (21, false)) (.load 2 true (.s 22)),
    .call (some 24) (some (21, false)) (.fn 52) [(.s 23, .pass)] (.frz [0]),
    .p (some 25) (some (21, false)) (.un .not (.s 24)),
    .m (some 26) none (.pick (.s 21) (.c (.v (.bool true))) (.s 25))] []) (
  .seq (.keep [1, 26] []) (
  .sub c_ref32_invalid_R0))
def c_ref32_invalid_R2 : ACode :=
  .seq (.reg [
    .m (some 16) none (.mv (.s 15)),
    .p (some 17) (some (16, false)) (.faddr [1, 1, 1, 2, 2, 1, 1] 6 (.s 1)),
    .r (some 18) (some (16, false)) (.load 1 false (.s 17)),
    .p (some 19) (some (16, false)) (.bin .lss (.s 18) (.c (.v (.int .i64 0)))),
    .m (some 20) none (.pick (.s 16) (.c (.v (.bool true))) (.s 19))] []) (
  .seq (.keep [1, 20] []) (
  .sub c_ref32_invalid_R1))
def c_ref32_invalid_R3 : ACode :=
  .seq (.reg [
    .m (some 11) none (.mv (.s 10)),
    .p (some 12) (some (11, false)) (.faddr [1, 1, 1, 2, 2, 1, 1] 1 (.s 1)),
    .r (some 13) (some (11, false)) (.load 1 false (.s 12)),
    .p (some 14) (some (11, false)) (.bin .lss (.s 13) (.c (.v (.int .i64 0)))),
    .m (some 15) none (.pick (.s 11) (.c (.v (.bool true))) (.s 14))] []) (
  .seq (.keep [1, 15] []) (
  .sub c_ref32_invalid_R2))
def c_ref32_invalid_B : ACode :=
  .seq (.reg [
    .m (some 1) none (.boxC (.s 0)),
    .m (some 2) none (.mv (.c (.v (.bool false))))] []) (
  .seq (.reg [
    .p (some 3) none (.faddr [1, 1, 1, 2, 2, 1, 1] 0 (.s 1)),
    .r (some 4) none (.load 1 false (.s 3)),
    .p (some 5) none (.bin .lss (.s 4) (.c (.v (.int .i64 1)))),
    .m (some 6) none (.mv (.s 5)),
    .p (some 7) (some (6, false)) (.faddr [1, 1, 1, 2, 2, 1, 1] 5 (.s 1)),
    .r (some 8) (some (6, false)) (.load 1 false (.s 7)),
    .p (some 9) (some (6, false)) (.bin .lss (.s 8) (.c (.v (.int .i64 1)))),
    .m (some 10) none (.pick (.s 6) (.c (.v (.bool true))) (.s 9))] []) (
  .seq (.keep [1, 10] []) (
  .sub c_ref32_invalid_R3)))
/-- bitemporal/bitemporalref32.invalid -/
def c_ref32_invalid : AFun := ⟨1, [.tmp 2], c_ref32_invalid_B⟩
def c_ref32_ahead_B : ACode :=
  .seq (.reg [
    .m (some 2) none (.boxC (.s 0)),
    .m (some 3) none (.boxC (.s 1)),
    .m (some 4) none (.mv (.c (.v (.bool false))))] []) (
  .seq (.reg [
    .p (some 5) none (.faddr [1, 1, 1, 2, 2, 1, 1] 0 (.s 2)),
    .r (some 6) none (.load 1 false (.s 5)),
    .p (some 7) none (.faddr [1, 1, 1, 2, 2, 1, 1] 0 (.s 3)),
    .r (some 8) none (.load 1 false (.s 7)),
    .p (some 9) none (.bin .neq (.s 6) (.s 8))] []) (
  .seq (.cond (.s 9) (.seq (.reg [
    .p (some 10) none (.faddr [1, 1, 1, 2, 2, 1, 1] 0 (.s 2)),
    .r (some 11) none (.load 1 false (.s 10)),
    .p (some 12) none (.faddr [1, 1, 1, 2, 2, 1, 1] 0 (.s 3)),
    .r (some 13) none (.load 1 false (.s 12)),
    .p (some 14) none (.bin .lss (.s 11) (.s 13)),
    .m (some 4) none (.mv (.s 14))] []) (
  .seq (.keep [4] []) (
  .ret))) (.skip)) (
  .seq (.reg [
    .p (some 15) none (.faddr [1, 1, 1, 2, 2, 1, 1] 4 (.s 2)),
    .p (some 16) none (.faddr [1, 1] 0 (.s 15)),
    .r (some 17) none (.load 1 false (.s 16)),
    .p (some 18) none (.faddr [1, 1, 1, 2, 2, 1, 1] 4 (.s 3)),
    .p (some 19) none (.faddr [1, 1] 0 (.s 18)),
    .r (some 20) none (.load 1 false (.s 19)),
    .p (some 21) none (.bin .neq (.s 17) (.s 20))] []) (
  .seq (.cond (.s 21) (.seq (.reg [
    .p (some 22) none (.faddr [1, 1, 1, 2, 2, 1, 1] 4 (.s 2)),
    .p (some 23) none (.faddr [1, 1] 0 (.s 22)),
    .r (some 24) none (.load 1 false (.s 23)),
    .p (some 25) none (.faddr [1, 1, 1, 2, 2, 1, 1] 4 (.s 3)),
    .p (some 26) none (.faddr [1, 1] 0 (.s 25)),
    .r (some 27) none (.load 1 false (.s 26)),
    .p (some 28) none (.bin .lss (.s 24) (.s 27)),
    .m (some 4) none (.mv (.s 28))] []) (
  .seq (.keep [4] []) (
  .ret))) (.skip)) (
  .seq (.reg [
    .p (some 29) none (.faddr [1, 1, 1, 2, 2, 1, 1] 3 (.s 2)),
    .p (some 30) none (.faddr [1, 1] 0 (.s 29)),
    .r (some 31) none (.load 1 false (.s 30)),
    .p (some 32) none (.faddr [1, 1, 1, 2, 2, 1, 1] 3 (.s 3)),
    .p (some 33) none (.faddr [1, 1] 0 (.s 32)),
    .r (some 34) none (.load 1 false (.s 33)),
    .p (some 35) none (.bin .lss (.s 31) (.s 34)),
    .m (some 4) none (.mv (.s 35))] []) (
  .seq (.keep [4] []) (
  .ret)))))))
/-- bitemporal/bitemporalref32.ahead -/
def c_ref32_ahead : AFun := ⟨2, [.tmp 4], c_ref32_ahead_B⟩
def c_ref01_Overlaps_R0 : ACode :=
  .seq (.reg [
    .m (some 11) none (.mv (.s 10)),
    .p (some 12) (some (11, true)) (.faddr [1, 1] 0 (.s 2)),
    .r (some 13) (some (11, true)) (.load 1 false (.s 12)),
    .p (some 14) (some (11, true)) (.faddr [1, 1] 1 (.s 3)),
    .r (some 15) (some (11, true)) (.load 1 false (.s 14)),
    .p (some 16) (some (11, true)) (.bin .lss (.s 13) (.s 15)),
    .m (some 17) none (.pick (.s 11) (.s 16) (.c (.v (.bool false)))),
    .m (some 18) none (.mv (.s 17)),
    .p (some 19) (some (18, true)) (.faddr [1, 1] 0 (.s 3)),
    .r (some 20) (some (18, true)) (.load 1 false (.s 19)),
    .p (some 21) (some (18, true)) (.faddr [1, 1] 1 (.s 2)),
    .r (some 22) (some (18, true)) (.load 1 false (.s 21)),
    .p (some 23) (some (18, true)) (.bin .lss (.s 20) (.s 22)),
    .m (some 24) none (.pick (.s 18) (.s 23) (.c (.v (.bool false)))),
    .m (some 4) none (.mv (.s 24))] []) (
  .seq (.keep [4] []) (
  .ret))
def c_ref01_Overlaps_B : ACode :=
  .seq (.reg [
    .m (some 2) none (.boxC (.s 0)),
    .m (some 3) none (.boxC (.s 1)),
    .m (some 4) none (.mv (.c (.v (.bool false))))] []) (
  .seq (.reg [
    .r (some 5) none (.load 2 true (.s 2)),
    .call (some 6) none (.fn 52) [(.s 5, .pass)] (.frz [0]),
    .m (some 7) none (.mv (.s 6)),
    .r (some 8) (some (7, true)) (.load 2 true (.s 3)),
    .call (some 9) (some (7, true)) (.fn 52) [(.s 8, .pass)] (.frz [0]),
    .m (some 10) none (.pick (.s 7) (.s 9) (.c (.v (.bool false))))] []) (
  .seq (.keep [2, 3, 10] []) (
  .sub c_ref01_Overlaps_R0)))
/-- bitemporal/bitemporalref01.Overlaps -/
def c_ref01_Overlaps : AFun := ⟨2, [.tmp 4], c_ref01_Overlaps_B⟩
def c_delta_applies_L0 : ACode :=
  .seq (.reg [
    .p (some 26) none (.bin .lss (.s 25) (.s 24))] []) (
  .seq (.cond (.s 26) (.skip) (.seq (.keep [2] []) (
  .exit 0))) (
  .seq (.blk 1 (.seq (.reg [
    .m (some 27) none (.mv (.s 25)),
    .p (some 28) none (.iaddr 1 (.s 23) (.s 25)),
    .r (some 29) none (.load 1 false (.s 28)),
    .m (some 9) none (.mv (.s 27)),
    .m (some 10) none (.mv (.s 29))] []) (
  .seq (.reg [
    .m (some 30) none (.mv (.s 9)),
    .p (some 31) none (.bin .gtr (.s 30) (.c (.v (.int .i64 0)))),
    .m (some 32) none (.mv (.s 31)),
    .m (some 33) (some (32, true)) (.mv (.s 10)),
    .m (some 34) (some (32, true)) (.mv (.s 1)),
    .m (some 35) (some (32, true)) (.mv (.s 9)),
    .p (some 36) (some (32, true)) (.bin .sub (.s 35) (.c (.v (.int .i64 1)))),
    .p (some 37) (some (32, true)) (.iaddr 1 (.s 34) (.s 36)),
    .r (some 38) (some (32, true)) (.load 1 false (.s 37)),
    .p (some 39) (some (32, true)) (.bin .leq (.s 33) (.s 38)),
    .m (some 40) none (.pick (.s 32) (.s 39) (.c (.v (.bool false))))] []) (
  .seq (.cond (.s 40) (.seq (.reg [
    .m (some 8) none (.mv (.c (.v (.int .i64 9))))] []) (
  .seq (.keep [8] []) (
  .ret))) (.skip)) (
  .seq (.reg [
    .m (some 42) none (.mv (.s 0)),
    .m (some 43) none (.mv (.s 10)),
    .call (some 44) none (.fn 76) [(.s 42, .pass), (.s 43, .pass)] (.frz [0, 0]),
    .m (some 41) none (.mv (.s 44)),
    .p (some 45) none (.extr (.s 41) 0),
    .p (some 46) none (.extr (.s 41) 1),
    .w (some 11) none (.alloc 4801 (.agg [1, 1, 1, 2, 2, 1, 1] [.v (.int .i64 0), .v (.int .i64 0), .sl 3 [], .agg [1, 1] [.v (.int .i64 0), .v (.int .i64 0)], .agg [1, 1] [.v (.int .i64 0), .v (.int .i64 0)], .v (.int .i64 0), .v (.int .i64 0)])),
    .fin none 9 11 (.s 45),
    .m (some 12) none (.mv (.s 46))] []) (
  .seq (.reg [
    .m (some 47) none (.mv (.s 12)),
    .p (some 48) none (.un .not (.s 47))] []) (
  .seq (.cond (.s 48) (.seq (.reg [
    .m (some 8) none (.mv (.c (.v (.int .i64 11))))] []) (
  .seq (.keep [8] []) (
  .ret))) (.skip)) (
  .seq (.reg [
    .p (some 49) none (.faddr [1, 1, 1, 2, 2, 1, 1] 4 (.s 11)),
    .p (some 50) none (.faddr [1, 1] 0 (.s 49)),
    .r (some 51) none (.load 1 false (.s 50)),
    .p (some 52) none (.faddr [1, 1, 1, 1, 1, 1, 1, 1, 1, 1] 1 (.s 7)),
    .r (some 53) none (.load 1 false (.s 52)),
    .p (some 54) none (.bin .geq (.s 51) (.s 53))] []) (
  .seq (.cond (.s 54) (.seq (.reg [
    .m (some 8) none (.mv (.c (.v (.int .i64 6))))] []) (
  .seq (.keep [8] []) (
  .ret))) (.skip)) (
  .keep [0, 1, 2, 7, 23, 24, 25] [])))))))))) (
  .seq (.reg [
    .p (some 55) none (.bin .add (.s 25) (.c (.v (.int .i64 1)))),
    .m (some 25) none (.mv (.s 55))] []) (
  .keep [0, 1, 2, 7, 23, 24, 25] [4801]))))
def c_delta_applies_L1 : ACode :=
  .seq (.reg [
    .p (some 59) none (.bin .lss (.s 58) (.s 57))] []) (
  .seq (.cond (.s 59) (.skip) (.seq (.keep [] []) (
  .exit 2))) (
  .seq (.blk 3 (.seq (.reg [
    .p (some 60) none (.iaddr 3 (.s 56) (.s 58)),
    .r (some 61) none (.load 3 true (.s 60)),
    .w (some 14) none (.alloc 4802 (.agg [1, 2] [.sl 3 [], .agg [1, 1] [.v (.int .i64 0), .v (.int .i64 0)]])),
    .fin none 3 14 (.s 61)] []) (
  .seq (.reg [
    .p (some 62) none (.faddr [1, 2] 1 (.s 14)),
    .r (some 63) none (.load 2 true (.s 62)),
    .call (some 64) none (.fn 65) [(.s 63, .pass)] (.frz [0]),
    .p (some 65) none (.un .not (.s 64))] []) (
  .seq (.cond (.s 65) (.seq (.reg [
    .m (some 8) none (.mv (.c (.v (.int .i64 8))))] []) (
  .seq (.keep [8] []) (
  .ret))) (.skip)) (
  .keep [56, 57, 58] []))))) (
  .seq (.reg [
    .p (some 66) none (.bin .add (.s 58) (.c (.v (.int .i64 1)))),
    .m (some 58) none (.mv (.s 66))] []) (
  .keep [56, 57, 58] [4802]))))
def c_delta_applies_R0 : ACode :=
  .seq (.reg [
    .m (some 8) none (.mv (.c (.v (.int .i64 0))))] []) (
  .seq (.keep [8] []) (
  .ret))
def c_delta_applies_R1 : ACode :=
  .seq (.reg [
    .m (some 56) none (.mv (.s 2)),
    .p (some 57) none (.len false (.s 56)),
    .m (some 58) none (.mv (.c (.v (.int .i64 0))))] []) (
  .seq (.blk 2 (.seq (.keep [56, 57, 58] []) (
  .loop c_delta_applies_L1))) (
  .sub c_delta_applies_R0))
def c_delta_applies_B : ACode :=
  .seq (.reg [
    .m (some 7) none (.boxC (.s 3)),
    .m (some 8) none (.mv (.c (.v (.int .i64 0))))] []) (
  .seq (.reg [
    .p (some 15) none (.faddr [1, 1, 1, 1, 1, 1, 1, 1, 1, 1] 1 (.s 7)),
    .r (some 16) none (.load 1 false (.s 15)),
    .p (some 17) none (.bin .lss (.s 16) (.c (.v (.int .i64 0)))),
    .m (some 18) none (.mv (.s 17)),
    .p (some 19) (some (18, false)) (.faddr [1, 1, 1, 1, 1, 1, 1, 1, 1, 1] 1 (.s 7)),
    .r (some 20) (some (18, false)) (.load 1 false (.s 19)),
    .p (some 21) (some (18, false)) (.bin .geq (.s 20) (.c (.v (.int .i64 1099511627776)))),
    .m (some 22) none (.pick (.s 18) (.c (.v (.bool true))) (.s 21))] []) (
  .seq (.cond (.s 22) (.seq (.reg [
    .m (some 8) none (.mv (.c (.v (.int .i64 6))))] []) (
  .seq (.keep [8] []) (
  .ret))) (.skip)) (
  .seq (.reg [
    .m (some 23) none (.mv (.s 1)),
    .p (some 24) none (.len false (.s 23)),
    .m (some 25) none (.mv (.c (.v (.int .i64 0))))] []) (
  .seq (.blk 0 (.seq (.keep [0, 1, 2, 7, 23, 24, 25] []) (
  .loop c_delta_applies_L0))) (
  .sub c_delta_applies_R1)))))
/-- bitemporal/delta.applies -/
def c_delta_applies : AFun := ⟨4, [.tmp 8], c_delta_applies_B⟩
def c_slices_BinarySearch_int_int_L0 : ACode :=
  .seq (.reg [
    .m (some 13) none (.mv (.s 7)),
    .m (some 14) none (.mv (.s 8)),
    .p (some 15) none (.bin .lss (.s 13) (.s 14))] []) (
  .seq (.cond (.s 15) (.skip) (.seq (.keep [0, 1, 6, 7] []) (
  .exit 0))) (
  .seq (.blk 1 (.seq (.reg [
    .m (some 16) none (.mv (.s 7)),
    .m (some 17) none (.mv (.s 8)),
    .p (some 18) none (.bin .add (.s 16) (.s 17)),
    .p (some 19) none (.conv .u64 (.s 18)),
    .p (some 20) none (.bin .shr (.s 19) (.c (.v (.int .u64 1)))),
    .p (some 21) none (.conv .i64 (.s 20)),
    .m (some 9) none (.mv (.s 21))] []) (
  .seq (.reg [
    .m (some 22) none (.mv (.s 0)),
    .m (some 23) none (.mv (.s 9)),
    .p (some 24) none (.iaddr 1 (.s 22) (.s 23)),
    .r (some 25) none (.load 1 false (.s 24)),
    .m (some 26) none (.mv (.s 1)),
    .call (some 27) none (.fn 77) [(.s 25, .pass), (.s 26, .pass)] (.frz [0])] []) (
  .seq (.cond (.s 27) (.reg [
    .m (some 28) none (.mv (.s 9)),
    .p (some 29) none (.bin .add (.s 28) (.c (.v (.int .i64 1)))),
    .m (some 7) none (.mv (.s 29))] []) (.reg [
    .m (some 30) none (.mv (.s 9)),
    .m (some 8) none (.mv (.s 30))] [])) (
  .keep [0, 1, 6, 7, 8] []))))) (
  .keep [0, 1, 6, 7, 8] [])))
def c_slices_BinarySearch_int_int_R0 : ACode :=
  .seq (.reg [
    .m (some 31) none (.mv (.s 7)),
    .m (some 32) none (.mv (.s 7)),
    .m (some 33) none (.mv (.s 6)),
    .p (some 34) none (.bin .lss (.s 32) (.s 33)),
    .m (some 35) none (.mv (.s 34)),
    .m (some 36) (some (35, true)) (.mv (.s 0)),
    .m (some 37) (some (35, true)) (.mv (.s 7)),
    .p (some 38) (some (35, true)) (.iaddr 1 (.s 36) (.s 37)),
    .r (some 39) (some (35, true)) (.load 1 false (.s 38)),
    .m (some 40) (some (35, true)) (.mv (.s 1)),
    .p (some 41) (some (35, true)) (.bin .eql (.s 39) (.s 40)),
    .m (some 42) (some (35, true)) (.mv (.s 41)),
    .m (some 43) (some (42, false)) (.mv (.s 0)),
    .m (some 44) (some (42, false)) (.mv (.s 7)),
    .p (some 45) (some (42, false)) (.iaddr 1 (.s 43) (.s 44)),
    .r (some 46) (some (42, false)) (.load 1 false (.s 45)),
    .call (some 47) (some (42, false)) (.fn 78) [(.s 46, .pass)] (.frz [0]),
    .m (some 48) (some (42, false)) (.mv (.s 47)),
    .m (some 49) (some (48, true)) (.mv (.s 1)),
    .call (some 50) (some (48, true)) (.fn 78) [(.s 49, .pass)] (.frz [0]),
    .m (some 51) (some (42, false)) (.pick (.s 48) (.s 50) (.c (.v (.bool false)))),
    .m (some 52) (some (35, true)) (.pick (.s 42) (.c (.v (.bool true))) (.s 51)),
    .m (some 53) none (.pick (.s 35) (.s 52) (.c (.v (.bool false)))),
    .m (some 4) none (.mv (.s 31)),
    .m (some 5) none (.mv (.s 53))] []) (
  .seq (.keep [4, 5] []) (
  .ret))
def c_slices_BinarySearch_int_int_B : ACode :=
  .seq (.reg [
    .m (some 4) none (.mv (.c (.v (.int .i64 0)))),
    .m (some 5) none (.mv (.c (.v (.bool false))))] []) (
  .seq (.reg [
    .m (some 10) none (.mv (.s 0)),
    .p (some 11) none (.len false (.s 10)),
    .m (some 6) none (.mv (.s 11))] []) (
  .seq (.reg [
    .m (some 12) none (.mv (.s 6)),
    .m (some 7) none (.mv (.c (.v (.int .i64 0)))),
    .m (some 8) none (.mv (.s 12))] []) (
  .seq (.blk 0 (.seq (.keep [0, 1, 6, 7, 8] []) (
  .loop c_slices_BinarySearch_int_int_L0))) (
  .sub c_slices_BinarySearch_int_int_R0))))
/-- slices.BinarySearch[[]int,int] -/
def c_slices_BinarySearch_int_int : AFun := ⟨2, [.tmp 4, .tmp 5], c_slices_BinarySearch_int_int_B⟩
def c_delta_open_B : ACode :=
  .seq (.reg [
    .m (some 1) none (.boxC (.s 0)),
    .m (some 2) none (.mv (.c (.v (.bool false))))] []) (
  .seq (.reg [
    .p (some 3) none (.faddr [1, 1, 1, 2, 2, 1, 1] 4 (.s 1)),
    .r (some 4) none (.load 2 true (.s 3)),
    .call (some 5) none (.fn 65) [(.s 4, .pass)] (.frz [0]),
    .m (some 6) none (.mv (.s 5)),
    .p (some 7) (some (6, true)) (.faddr [1, 1, 1, 2, 2, 1, 1] 4 (.s 1)),
    .p (some 8) (some (6, true)) (.faddr [1, 1] 1 (.s 7)),
    .r (some 9) (some (6, true)) (.load 1 false (.s 8)),
    .p (some 10) (some (6, true)) (.bin .eql (.s 9) (.c (.v (.int .i64 1099511627776)))),
    .m (some 11) none (.pick (.s 6) (.s 10) (.c (.v (.bool false)))),
    .m (some 2) none (.mv (.s 11))] []) (
  .seq (.keep [2] []) (
  .ret)))
/-- bitemporal/delta.open -/
def c_delta_open : AFun := ⟨1, [.tmp 2], c_delta_open_B⟩
def c_ref32_find_L0 : ACode :=
  .seq (.reg [
    .m (some 6) none (.mv (.s 5)),
    .m (some 7) none (.mv (.s 0)),
    .p (some 8) none (.len false (.s 7)),
    .p (some 9) none (.bin .lss (.s 6) (.s 8))] []) (
  .seq (.cond (.s 9) (.skip) (.seq (.keep [] []) (
  .exit 0))) (
  .seq (.blk 1 (.seq (.reg [
    .m (some 12) none (.mv (.s 0)),
    .m (some 13) none (.mv (.s 5)),
    .p (some 14) none (.iaddr 9 (.s 12) (.s 13)),
    .r (some 15) none (.load 9 true (.s 14)),
    .call (some 16) none (.fn 27) [(.s 15, .pass)] (.frz [0]),
    .m (some 17) none (.mv (.s 16)),
    .m (some 18) (some (17, true)) (.mv (.s 0)),
    .m (some 19) (some (17, true)) (.mv (.s 5)),
    .p (some 20) (some (17, true)) (.iaddr 9 (.s 18) (.s 19)),
    .p (some 21) (some (17, true)) (.faddr [1, 1, 1, 2, 2, 1, 1] 0 (.s 20)),
    .r (some 22) (some (17, true)) (.load 1 false (.s 21)),
    .m (some 23) (some (17, true)) (.mv (.s 1)),
    .p (some 24) (some (17, true)) (.bin .eql (.s 22) (.s 23)),
    .m (some 25) none (.pick (.s 17) (.s 24) (.c (.v (.bool false))))] []) (
  .seq (.cond (.s 25) (.seq (.reg [
    .m (some 26) none (.mv (.s 5)),
    .m (some 4) none (.mv (.s 26))] []) (
  .seq (.keep [4] []) (
  .ret))) (.skip)) (
  .keep [0, 1, 5] [])))) (
  .seq (.reg [
    .m (some 10) none (.mv (.s 5)),
    .p (some 11) none (.bin .add (.s 10) (.c (.v (.int .i64 1)))),
    .m (some 5) none (.mv (.s 11))] []) (
  .keep [0, 1, 5] []))))
def c_ref32_find_R0 : ACode :=
  .seq (.reg [
    .m (some 4) none (.mv (.c (.v (.int .i64 (-1)))))] []) (
  .seq (.keep [4] []) (
  .ret))
def c_ref32_find_B : ACode :=
  .seq (.reg [
    .m (some 4) none (.mv (.c (.v (.int .i64 0))))] []) (
  .seq (.reg [
    .m (some 5) none (.mv (.c (.v (.int .i64 0))))] []) (
  .seq (.blk 0 (.seq (.keep [0, 1, 5] []) (
  .loop c_ref32_find_L0))) (
  .sub c_ref32_find_R0)))
/-- bitemporal/bitemporalref32.find -/
def c_ref32_find : AFun := ⟨2, [.tmp 4], c_ref32_find_B⟩
def c_ref01_Valid_B : ACode :=
  .seq (.reg [
    .m (some 1) none (.boxC (.s 0)),
    .m (some 2) none (.mv (.c (.v (.bool false))))] []) (
  .seq (.reg [
    .p (some 3) none (.faddr [1, 1] 0 (.s 1)),
    .r (some 4) none (.load 1 false (.s 3)),
    .p (some 5) none (.bin .geq (.s 4) (.c (.v (.int .i64 0)))),
    .m (some 6) none (.mv (.s 5)),
    .p (some 7) (some (6, true)) (.faddr [1, 1] 0 (.s 1)),
    .r (some 8) (some (6, true)) (.load 1 false (.s 7)),
    .p (some 9) (some (6, true)) (.faddr [1, 1] 1 (.s 1)),
    .r (some 10) (some (6, true)) (.load 1 false (.s 9)),
    .p (some 11) (some (6, true)) (.bin .lss (.s 8) (.s 10)),
    .m (some 12) none (.pick (.s 6) (.s 11) (.c (.v (.bool false)))),
    .m (some 13) none (.mv (.s 12)),
    .p (some 14) (some (13, true)) (.faddr [1, 1] 1 (.s 1)),
    .r (some 15) (some (13, true)) (.load 1 false (.s 14)),
    .p (some 16) (some (13, true)) (.bin .leq (.s 15) (.c (.v (.int .i64 1099511627776)))),
    .m (some 17) none (.pick (.s 13) (.s 16) (.c (.v (.bool false)))),
    .m (some 2) none (.mv (.s 17))] []) (
  .seq (.keep [2] []) (
  .ret)))
/-- bitemporal/bitemporalref01.Valid -/
def c_ref01_Valid : AFun := ⟨1, [.tmp 2], c_ref01_Valid_B⟩
def c_ref28_SameVersion_R0 : ACode :=
  .seq (.reg [
    .m (some 38) none (.mv (.s 37)),
    .p (some 39) (some (38, true)) (.faddr [1, 1, 1, 2, 2, 1, 1] 6 (.s 2)),
    .r (some 40) (some (38, true)) (.load 1 false (.s 39)),
    .p (some 41) (some (38, true)) (.faddr [1, 1, 1, 2, 2, 1, 1] 6 (.s 3)),
    .r (some 42) (some (38, true)) (.load 1 false (.s 41)),
    .p (some 43) (some (38, true)) (.bin .eql (.s 40) (.s 42)),
    .m (some 44) none (.pick (.s 38) (.s 43) (.c (.v (.bool false)))),
    .m (some 45) none (.mv (.s 44)),
    .p (some 46) (some (45, true)) (.faddr [1, 1, 1, 2, 2, 1, 1] 2 (.s 2)),
    .r (some 47) (some (45, true)) (.load 1 false (.s 46)),
    .p (some 48) (some (45, true)) (.faddr [1, 1, 1, 2, 2, 1, 1] 2 (.s 3)),
    .r (some 49) (some (45, true)) (.load 1 false (.s 48)),
    .call (some 50) (some (45, true)) (.fn 28) [(.s 47, .pass), (.s 49, .pass)] (.frz [0]),
    .p (some 51) (some (45, true)) (.bin .eql (.s 50) (.c (.v (.int .i64 0)))),
    .m (some 52) none (.pick (.s 45) (.s 51) (.c (.v (.bool false)))),
    .m (some 4) none (.mv (.s 52))] []) (
  .seq (.keep [4] []) (
  .ret))
def c_ref28_SameVersion_R1 : ACode :=
  .seq (.reg [
    .m (some 31) none (.mv (.s 30)),
    .p (some 32) (some (31, true)) (.faddr [1, 1, 1, 2, 2, 1, 1] 5 (.s 2)),
    .r (some 33) (some (31, true)) (.load 1 false (.s 32)),
    .p (some 34) (some (31, true)) (.faddr [1, 1, 1, 2, 2, 1, 1] 5 (.s 3)),
    .r (some 35) (some (31, true)) (.load 1 false (.s 34)),
    .p (some 36) (some (31, true)) (.bin .eql (.s 33) (.s 35)),
    .m (some 37) none (.pick (.s 31) (.s 36) (.c (.v (.bool false))))] []) (
  .seq (.keep [2, 3, 37] []) (
  .sub c_ref28_SameVersion_R0))
def c_ref28_SameVersion_R2 : ACode :=
  .seq (.reg [
    .m (some 24) none (.mv (.s 23)),
    .p (some 25) (some (24, true)) (.faddr [1, 1, 1, 2, 2, 1, 1] 4 (.s 2)),
    .r (some 26) (some (24, true)) (.load 2 true (.s 25)),
    .p (some 27) (some (24, true)) (.faddr [1, 1, 1, 2, 2, 1, 1] 4 (.s 3)),
    .r (some 28) (some (24, true)) (.load 2 true (.s 27)),
    .p (some 29) (some (24, true)) (.eqt (.st [1, 1] [.int, .int]) false (.s 26) (.s 28)),
    .m (some 30) none (.pick (.s 24) (.s 29) (.c (.v (.bool false))))] []) (
  .seq (.keep [2, 3, 30] []) (
  .sub c_ref28_SameVersion_R1))
def c_ref28_SameVersion_R3 : ACode :=
  .seq (.reg [
    .m (some 17) none (.mv (.s 16)),
    .p (some 18) (some (17, true)) (.faddr [1, 1, 1, 2, 2, 1, 1] 3 (.s 2)),
    .r (some 19) (some (17, true)) (.load 2 true (.s 18)),
    .p (some 20) (some (17, true)) (.faddr [1, 1, 1, 2, 2, 1, 1] 3 (.s 3)),
    .r (some 21) (some (17, true)) (.load 2 true (.s 20)),
    .p (some 22) (some (17, true)) (.eqt (.st [1, 1] [.int, .int]) false (.s 19) (.s 21)),
    .m (some 23) none (.pick (.s 17) (.s 22) (.c (.v (.bool false))))] []) (
  .seq (.keep [2, 3, 23] []) (
  .sub c_ref28_SameVersion_R2))
def c_ref28_SameVersion_B : ACode :=
  .seq (.reg [
    .m (some 2) none (.boxC (.s 0)),
    .m (some 3) none (.boxC (.s 1)),
    .m (some 4) none (.mv (.c (.v (.bool false))))] []) (
  .seq (.reg [
    .p (some 5) none (.faddr [1, 1, 1, 2, 2, 1, 1] 0 (.s 2)),
    .r (some 6) none (.load 1 false (.s 5)),
    .p (some 7) none (.faddr [1, 1, 1, 2, 2, 1, 1] 0 (.s 3)),
    .r (some 8) none (.load 1 false (.s 7)),
    .p (some 9) none (.bin .eql (.s 6) (.s 8)),
    .m (some 10) none (.mv (.s 9)),
    .p (some 11) (some (10, true)) (.faddr [1, 1, 1, 2, 2, 1, 1] 1 (.s 2)),
    .r (some 12) (some (10, true)) (.load 1 false (.s 11)),
    .p (some 13) (some (10, true)) (.faddr [1, 1, 1, 2, 2, 1, 1] 1 (.s 3)),
    .r (some 14) (some (10, true)) (.load 1 false (.s 13)),
    .p (some 15) (some (10, true)) (.bin .eql (.s 12) (.s 14)),
    .m (some 16) none (.pick (.s 10) (.s 15) (.c (.v (.bool false))))] []) (
  .seq (.keep [2, 3, 16] []) (
  .sub c_ref28_SameVersion_R3)))
/-- bitemporal/bitemporalref28.SameVersion -/
def c_ref28_SameVersion : AFun := ⟨2, [.tmp 4], c_ref28_SameVersion_B⟩
def c_ref07_Compare_B : ACode :=
  .seq (.reg [
    .m (some 2) none (.boxC (.s 0)),
    .m (some 3) none (.boxC (.s 1)),
    .m (some 4) none (.mv (.c (.v (.int .i64 0))))] []) (
  .seq (.reg [
    .p (some 5) none (.faddr [1, 1, 1] 0 (.s 2)),
    .r (some 6) none (.load 1 false (.s 5)),
    .p (some 7) none (.faddr [1, 1, 1] 0 (.s 3)),
    .r (some 8) none (.load 1 false (.s 7)),
    .p (some 9) none (.bin .neq (.s 6) (.s 8))] []) (
  .seq (.cond (.s 9) (.seq (.reg [
    .p (some 10) none (.faddr [1, 1, 1] 0 (.s 2)),
    .r (some 11) none (.load 1 false (.s 10)),
    .p (some 12) none (.faddr [1, 1, 1] 0 (.s 3)),
    .r (some 13) none (.load 1 false (.s 12)),
    .p (some 14) none (.bin .lss (.s 11) (.s 13)),
    .p (some 15) none (.faddr [1, 1, 1] 0 (.s 2)),
    .r (some 16) none (.load 1 false (.s 15)),
    .p (some 17) none (.faddr [1, 1, 1] 0 (.s 3)),
    .r (some 18) none (.load 1 false (.s 17)),
    .p (some 19) none (.bin .gtr (.s 16) (.s 18)),
    .call (some 20) none (.fn 79) [(.s 14, .pass), (.s 19, .pass)] (.frz [0]),
    .m (some 4) none (.mv (.s 20))] []) (
  .seq (.keep [4] []) (
  .ret))) (.skip)) (
  .seq (.reg [
    .p (some 21) none (.faddr [1, 1, 1] 1 (.s 2)),
    .r (some 22) none (.load 1 false (.s 21)),
    .p (some 23) none (.faddr [1, 1, 1] 1 (.s 3)),
    .r (some 24) none (.load 1 false (.s 23)),
    .p (some 25) none (.bin .neq (.s 22) (.s 24))] []) (
  .seq (.cond (.s 25) (.seq (.reg [
    .p (some 26) none (.faddr [1, 1, 1] 1 (.s 2)),
    .r (some 27) none (.load 1 false (.s 26)),
    .p (some 28) none (.faddr [1, 1, 1] 1 (.s 3)),
    .r (some 29) none (.load 1 false (.s 28)),
    .p (some 30) none (.bin .lss (.s 27) (.s 29)),
    .p (some 31) none (.faddr [1, 1, 1] 1 (.s 2)),
    .r (some 32) none (.load 1 false (.s 31)),
    .p (some 33) none (.faddr [1, 1, 1] 1 (.s 3)),
    .r (some 34) none (.load 1 false (.s 33)),
    .p (some 35) none (.bin .gtr (.s 32) (.s 34)),
    .call (some 36) none (.fn 79) [(.s 30, .pass), (.s 35, .pass)] (.frz [0]),
    .m (some 4) none (.mv (.s 36))] []) (
  .seq (.keep [4] []) (
  .ret))) (.skip)) (
  .seq (.reg [
    .p (some 37) none (.faddr [1, 1, 1] 2 (.s 2)),
    .r (some 38) none (.load 1 false (.s 37)),
    .p (some 39) none (.faddr [1, 1, 1] 2 (.s 3)),
    .r (some 40) none (.load 1 false (.s 39)),
    .p (some 41) none (.bin .lss (.s 38) (.s 40)),
    .p (some 42) none (.faddr [1, 1, 1] 2 (.s 2)),
    .r (some 43) none (.load 1 false (.s 42)),
    .p (some 44) none (.faddr [1, 1, 1] 2 (.s 3)),
    .r (some 45) none (.load 1 false (.s 44)),
    .p (some 46) none (.bin .gtr (.s 43) (.s 45)),
    .call (some 47) none (.fn 79) [(.s 41, .pass), (.s 46, .pass)] (.frz [0]),
    .m (some 4) none (.mv (.s 47))] []) (
  .seq (.keep [4] []) (
  .ret)))))))
/-- bitemporal/bitemporalref07.Compare -/
def c_ref07_Compare : AFun := ⟨2, [.tmp 4], c_ref07_Compare_B⟩
def c_coalesce_Bag_B : ACode :=
  .seq (.reg [
    .m (some 2) none (.mv (.c (.nil)))] []) (
  .seq (.reg [
    .m (some 3) none (.mv (.s 0)),
    .call (some 4) none (.fn 63) [(.s 3, .pass), (.c (.fn 64 []), .pass)] (.frz [3]),
    .m (some 2) none (.mv (.s 4))] []) (
  .seq (.keep [2] []) (
  .ret)))
/-- bitemporal/coalesce.Bag -/
def c_coalesce_Bag : AFun := ⟨1, [.tmp 2], c_coalesce_Bag_B⟩
def c_delta_opened_B : ACode :=
  .seq (.reg [
    .m (some 1) none (.boxC (.s 0)),
    .m (some 2) none (.mv (.c (.v .nilFunc)))] []) (
  .seq (.reg [
    .m (some 3) none (.mkfn 62 [.s 1]),
    .m (some 2) none (.mv (.s 3))] []) (
  .seq (.keep [2] []) (
  .ret)))
/-- bitemporal/delta.opened -/
def c_delta_opened : AFun := ⟨1, [.tmp 2], c_delta_opened_B⟩
def c_delta_opened_1_L0 : ACode :=
  .seq (.reg [
    .p (some 8) none (.bin .lss (.s 7) (.s 6))] []) (
  .seq (.cond (.s 8) (.skip) (.seq (.keep [] []) (
  .exit 0))) (
  .seq (.blk 1 (.seq (.reg [
    .p (some 9) none (.iaddr 9 (.s 5) (.s 7)),
    .r (some 10) none (.load 9 true (.s 9)),
    .w (some 4) none (.alloc 6201 (.agg [1, 1, 1, 2, 2, 1, 1] [.v (.int .i64 0), .v (.int .i64 0), .sl 3 [], .agg [1, 1] [.v (.int .i64 0), .v (.int .i64 0)], .agg [1, 1] [.v (.int .i64 0), .v (.int .i64 0)], .v (.int .i64 0), .v (.int .i64 0)])),
    .fin none 9 4 (.s 10)] []) (
  .seq (.reg [
    .r (some 11) none (.load 9 true (.s 4)),
    .call (some 12) none (.fn 50) [(.s 11, .pass)] (.frz [0]),
    .m (some 13) none (.mv (.s 12)),
    .m (some 14) (some (13, true)) (.mv (.s 0)),
    .r (some 15) (some (13, true)) (.load 9 true (.s 4)),
    .cally (some 16) (some (13, true)) (.s 14) [.s 15],
    .p (some 17) (some (13, true)) (.un .not (.s 16)),
    .m (some 18) none (.pick (.s 13) (.s 17) (.c (.v (.bool false))))] []) (
  .seq (.cond (.s 18) (.seq (.keep [] []) (
  .ret)) (.skip)) (
  .keep [0, 5, 6, 7] []))))) (
  .seq (.reg [
    .p (some 19) none (.bin .add (.s 7) (.c (.v (.int .i64 1)))),
    .m (some 7) none (.mv (.s 19))] []) (
  .keep [0, 5, 6, 7] [6201]))))
def c_delta_opened_1_B : ACode :=
  .seq (.reg [
    .r (some 5) none (.load 1 false (.s 1)),
    .p (some 6) none (.len false (.s 5)),
    .m (some 7) none (.mv (.c (.v (.int .i64 0))))] []) (
  .blk 0 (.seq (.keep [0, 5, 6, 7] []) (
  .loop c_delta_opened_1_L0)))
/-- bitemporal/delta.opened$1 -/
def c_delta_opened_1 : AFun := ⟨2, [], c_delta_opened_1_B⟩
def c_coalesce_build_L0 : ACode :=
  .seq (.reg [
    .p (some 23) none (.bin .lss (.s 22) (.s 21))] []) (
  .seq (.cond (.s 23) (.skip) (.seq (.keep [1, 5, 11, 12, 13] []) (
  .exit 2))) (
  .seq (.blk 3 (.seq (.reg [
    .p (some 24) none (.iaddr 2 (.s 20) (.s 22)),
    .r (some 25) none (.load 2 true (.s 24)),
    .w (some 9) none (.alloc 6303 (.agg [1, 1] [.v (.int .i64 0), .v (.int .i64 0)])),
    .fin none 2 9 (.s 25)] []) (
  .reg [
    .m (some 26) none (.mv (.s 5)),
    .p (some 27) none (.bsl 3 0 (.agg [1, 1, 1] [.v (.int .i64 0), .v (.int .i64 0), .v (.string ByteArray.empty)]) []),
    .p (some 28) none (.faddr [1, 1] 0 (.s 7)),
    .r (some 29) none (.load 1 false (.s 28)),
    .r (some 30) none (.clone 3 4398046511104 (.s 27) (.s 29)),
    .r (some 31) none (.load 2 true (.s 9)),
    .p (some 32) none (.build [1, 2] [.sl 3 [], .agg [1, 1] [.v (.int .i64 0), .v (.int .i64 0)]] [(0, .s 30), (1, .s 31)]),
    .p (some 33) none (.bsl 3 1 (.agg [1, 2] [.sl 3 [], .agg [1, 1] [.v (.int .i64 0), .v (.int .i64 0)]]) [(0, .s 32)]),
    .w (some 34) none (.app 6301 3 3518437208883 (.s 26) (.s 33)),
    .m (some 5) none (.mv (.s 34))] []))) (
  .seq (.reg [
    .p (some 35) none (.bin .add (.s 22) (.c (.v (.int .i64 1)))),
    .m (some 22) none (.mv (.s 35))] []) (
  .keep [1, 5, 7, 11, 12, 13, 20, 21, 22] [6303]))))
def c_coalesce_build_R0 : ACode :=
  .seq (.reg [
    .p (some 36) none (.bin .add (.s 13) (.c (.v (.int .i64 1)))),
    .m (some 13) none (.mv (.s 36))] []) (
  .seq (.keep [1, 5, 11, 12, 13] []) (
  .keep [1, 5, 11, 12, 13] [6302, 6303]))
def c_coalesce_build_L1 : ACode :=
  .seq (.reg [
    .p (some 14) none (.bin .lss (.s 13) (.s 12))] []) (
  .seq (.cond (.s 14) (.skip) (.seq (.keep [5] []) (
  .exit 0))) (
  .seq (.blk 1 (.seq (.reg [
    .p (some 15) none (.iaddr 2 (.s 11) (.s 13)),
    .r (some 16) none (.load 2 true (.s 15)),
    .w (some 7) none (.alloc 6302 (.agg [1, 1] [.sl 3 [], .sl 2 []])),
    .fin none 2 7 (.s 16)] []) (
  .seq (.reg [
    .m (some 17) none (.mv (.s 1)),
    .p (some 18) none (.faddr [1, 1] 1 (.s 7)),
    .r (some 19) none (.load 1 false (.s 18)),
    .call (some 20) none (.val (.s 17)) [(.s 19, .pass)] (.frz [2]),
    .p (some 21) none (.len false (.s 20)),
    .m (some 22) none (.mv (.c (.v (.int .i64 0))))] []) (
  .blk 2 (.seq (.keep [1, 5, 7, 11, 12, 13, 20, 21, 22] []) (
  .loop c_coalesce_build_L0)))))) (
  .sub c_coalesce_build_R0)))
def c_coalesce_build_R1 : ACode :=
  .seq (.reg [
    .m (some 37) none (.mv (.s 5)),
    .m (some 4) none (.mv (.s 37))] []) (
  .seq (.keep [4] []) (
  .ret))
def c_coalesce_build_B : ACode :=
  .seq (.reg [
    .m (some 4) none (.mv (.c (.nil)))] []) (
  .seq (.reg [
    .w (some 5) none (.newnil 6301 3)] []) (
  .seq (.reg [
    .m (some 10) none (.mv (.s 0)),
    .call (some 11) none (.fn 86) [(.s 10, .pass)] (.frz [2]),
    .p (some 12) none (.len false (.s 11)),
    .m (some 13) none (.mv (.c (.v (.int .i64 0))))] []) (
  .seq (.blk 0 (.seq (.keep [1, 5, 11, 12, 13] []) (
  .loop c_coalesce_build_L1))) (
  .sub c_coalesce_build_R1))))
/-- bitemporal/coalesce.build -/
def c_coalesce_build : AFun := ⟨2, [.tmp 4], c_coalesce_build_B⟩
def c_coalesce_Bag_1_B : ACode :=
  .seq (.reg [
    .m (some 2) none (.mv (.c (.nil)))] []) (
  .seq (.reg [
    .m (some 3) none (.mv (.s 0)),
    .p (some 4) none (.len false (.s 3)),
    .p (some 5) none (.bin .eql (.s 4) (.c (.v (.int .i64 1))))] []) (
  .seq (.cond (.s 5) (.seq (.reg [
    .m (some 6) none (.mv (.s 0)),
    .m (some 2) none (.mv (.s 6))] []) (
  .seq (.keep [2] []) (
  .ret))) (.skip)) (
  .seq (.reg [
    .m (some 7) none (.mv (.s 0)),
    .call (some 8) none (.fn 87) [(.s 7, .pass)] (.frz [2]),
    .call (some 9) none (.fn 88) [(.s 8, .pass)] (.frz [2]),
    .m (some 2) none (.mv (.s 9))] []) (
  .seq (.keep [2] []) (
  .ret)))))
/-- bitemporal/coalesce.Bag$1 -/
def c_coalesce_Bag_1 : AFun := ⟨1, [.tmp 2], c_coalesce_Bag_1_B⟩
def c_period_Valid_B : ACode :=
  .seq (.reg [
    .m (some 1) none (.boxC (.s 0)),
    .m (some 2) none (.mv (.c (.v (.bool false))))] []) (
  .seq (.reg [
    .p (some 3) none (.faddr [1, 1] 0 (.s 1)),
    .r (some 4) none (.load 1 false (.s 3)),
    .p (some 5) none (.bin .geq (.s 4) (.c (.v (.int .i64 0)))),
    .m (some 6) none (.mv (.s 5)),
    .p (some 7) (some (6, true)) (.faddr [1, 1] 0 (.s 1)),
    .r (some 8) (some (6, true)) (.load 1 false (.s 7)),
    .p (some 9) (some (6, true)) (.faddr [1, 1] 1 (.s 1)),
    .r (some 10) (some (6, true)) (.load 1 false (.s 9)),
    .p (some 11) (some (6, true)) (.bin .lss (.s 8) (.s 10)),
    .m (some 12) none (.pick (.s 6) (.s 11) (.c (.v (.bool false)))),
    .m (some 13) none (.mv (.s 12)),
    .p (some 14) (some (13, true)) (.faddr [1, 1] 1 (.s 1)),
    .r (some 15) (some (13, true)) (.load 1 false (.s 14)),
    .p (some 16) (some (13, true)) (.bin .leq (.s 15) (.c (.v (.int .i64 1099511627776)))),
    .m (some 17) none (.pick (.s 13) (.s 16) (.c (.v (.bool false)))),
    .m (some 2) none (.mv (.s 17))] []) (
  .seq (.keep [2] []) (
  .ret)))
/-- bitemporal/period.Valid -/
def c_period_Valid : AFun := ⟨1, [.tmp 2], c_period_Valid_B⟩
def c_cmp_Compare_int_B : ACode :=
  .seq (.reg [
    .m (some 4) none (.mv (.c (.v (.int .i64 0))))] []) (
  .seq (.reg [
    .m (some 7) none (.mv (.s 0)),
    .call (some 8) none (.fn 75) [(.s 7, .pass)] (.frz [0]),
    .m (some 5) none (.mv (.s 8))] []) (
  .seq (.reg [
    .m (some 9) none (.mv (.s 1)),
    .call (some 10) none (.fn 75) [(.s 9, .pass)] (.frz [0]),
    .m (some 6) none (.mv (.s 10))] []) (
  .seq (.reg [
    .m (some 11) none (.mv (.s 5))] []) (
  .seq (.cond (.s 11) (.seq (.reg [
    .m (some 12) none (.mv (.s 6))] []) (
  .seq (.cond (.s 12) (.seq (.reg [
    .m (some 4) none (.mv (.c (.v (.int .i64 0))))] []) (
  .seq (.keep [4] []) (
  .ret))) (.skip)) (
  .seq (.reg [
    .m (some 4) none (.mv (.c (.v (.int .i64 (-1)))))] []) (
  .seq (.keep [4] []) (
  .ret))))) (.skip)) (
  .seq (.reg [
    .m (some 13) none (.mv (.s 6))] []) (
  .seq (.cond (.s 13) (.seq (.reg [
    .m (some 4) none (.mv (.c (.v (.int .i64 1))))] []) (
  .seq (.keep [4] []) (
  .ret))) (.skip)) (
  .seq (.reg [
    .m (some 14) none (.mv (.s 0)),
    .m (some 15) none (.mv (.s 1)),
    .p (some 16) none (.bin .lss (.s 14) (.s 15))] []) (
  .seq (.cond (.s 16) (.seq (.reg [
    .m (some 4) none (.mv (.c (.v (.int .i64 (-1)))))] []) (
  .seq (.keep [4] []) (
  .ret))) (.skip)) (
  .seq (.reg [
    .m (some 17) none (.mv (.s 0)),
    .m (some 18) none (.mv (.s 1)),
    .p (some 19) none (.bin .gtr (.s 17) (.s 18))] []) (
  .seq (.cond (.s 19) (.seq (.reg [
    .m (some 4) none (.mv (.c (.v (.int .i64 1))))] []) (
  .seq (.keep [4] []) (
  .ret))) (.skip)) (
  .seq (.reg [
    .m (some 4) none (.mv (.c (.v (.int .i64 0))))] []) (
  .seq (.keep [4] []) (
  .ret)))))))))))))
/-- cmp.Compare[int] -/
def c_cmp_Compare_int : AFun := ⟨2, [.tmp 4], c_cmp_Compare_int_B⟩
def c_cmp_Or_int_L0 : ACode :=
  .seq (.reg [
    .p (some 9) none (.bin .lss (.s 8) (.s 7))] []) (
  .seq (.cond (.s 9) (.skip) (.seq (.keep [3] []) (
  .exit 0))) (
  .seq (.blk 1 (.seq (.reg [
    .p (some 10) none (.iaddr 1 (.s 6) (.s 8)),
    .r (some 11) none (.load 1 false (.s 10)),
    .m (some 5) none (.mv (.s 11))] []) (
  .seq (.reg [
    .m (some 12) none (.mv (.s 5)),
    .m (some 13) none (.mv (.s 3)),
    .p (some 14) none (.bin .neq (.s 12) (.s 13))] []) (
  .seq (.cond (.s 14) (.seq (.reg [
    .m (some 15) none (.mv (.s 5)),
    .m (some 2) none (.mv (.s 15))] []) (
  .seq (.keep [2] []) (
  .ret))) (.skip)) (
  .keep [3, 6, 7, 8] []))))) (
  .seq (.reg [
    .p (some 16) none (.bin .add (.s 8) (.c (.v (.int .i64 1)))),
    .m (some 8) none (.mv (.s 16))] []) (
  .keep [3, 6, 7, 8] []))))
def c_cmp_Or_int_R0 : ACode :=
  .seq (.reg [
    .m (some 17) none (.mv (.s 3)),
    .m (some 2) none (.mv (.s 17))] []) (
  .seq (.keep [2] []) (
  .ret))
def c_cmp_Or_int_B : ACode :=
  .seq (.reg [
    .m (some 2) none (.mv (.c (.v (.int .i64 0))))] []) (
  .seq (.reg [
    .m (some 3) none (.mv (.c (.v (.int .i64 0))))] []) (
  .seq (.reg [
    .m (some 6) none (.mv (.s 0)),
    .p (some 7) none (.len false (.s 6)),
    .m (some 8) none (.mv (.c (.v (.int .i64 0))))] []) (
  .seq (.blk 0 (.seq (.keep [3, 6, 7, 8] []) (
  .loop c_cmp_Or_int_L0))) (
  .sub c_cmp_Or_int_R0))))
/-- cmp.Or[int] -/
def c_cmp_Or_int : AFun := ⟨1, [.tmp 2], c_cmp_Or_int_B⟩
def c_delta_Between_1_R0 : ACode :=
  .seq (.reg [
    .m (some 26) none (.mv (.s 25)),
    .p (some 27) (some (26, true)) (.faddr [1, 2] 0 (.s 6)),
    .r (some 28) (some (26, true)) (.load 1 false (.s 27)),
    .p (some 29) (some (26, true)) (.faddr [1, 1, 1, 2, 2, 1, 1] 2 (.s 3)),
    .r (some 30) (some (26, true)) (.load 1 false (.s 29)),
    .call (some 31) (some (26, true)) (.fn 70) [(.s 28, .pass), (.s 30, .pass)] (.frz [0]),
    .m (some 32) none (.pick (.s 26) (.s 31) (.c (.v (.bool false))))] []) (
  .seq (.cond (.s 32) (.seq (.reg [
    .r (some 33) none (.load 1 false (.s 2)),
    .m (some 34) none (.mv (.s 5)),
    .p (some 35) none (.iaddr 1 (.s 33) (.s 34)),
    .w none none (.store 1 (.s 35) (.c (.v (.bool true))))] []) (
  .seq (.reg [
    .m (some 4) none (.mv (.c (.v (.bool true))))] []) (
  .seq (.keep [4] []) (
  .ret)))) (.skip)) (
  .keep [2, 3, 7, 8, 9] []))
def c_delta_Between_1_R1 : ACode :=
  .seq (.reg [
    .p (some 36) none (.bin .add (.s 9) (.c (.v (.int .i64 1)))),
    .m (some 9) none (.mv (.s 36))] []) (
  .keep [2, 3, 7, 8, 9] [6901])
def c_delta_Between_1_L0 : ACode :=
  .seq (.reg [
    .p (some 10) none (.bin .lss (.s 9) (.s 8))] []) (
  .seq (.cond (.s 10) (.skip) (.seq (.keep [] []) (
  .exit 0))) (
  .seq (.blk 1 (.seq (.reg [
    .m (some 11) none (.mv (.s 9)),
    .p (some 12) none (.iaddr 3 (.s 7) (.s 9)),
    .r (some 13) none (.load 3 true (.s 12)),
    .w (some 6) none (.alloc 6901 (.agg [1, 2] [.sl 3 [], .agg [1, 1] [.v (.int .i64 0), .v (.int .i64 0)]])),
    .m (some 5) none (.mv (.s 11)),
    .fin none 3 6 (.s 13)] []) (
  .seq (.reg [
    .r (some 14) none (.load 1 false (.s 2)),
    .m (some 15) none (.mv (.s 5)),
    .p (some 16) none (.iaddr 1 (.s 14) (.s 15)),
    .r (some 17) none (.load 1 false (.s 16)),
    .p (some 18) none (.un .not (.s 17)),
    .m (some 19) none (.mv (.s 18)),
    .p (some 20) (some (19, true)) (.faddr [1, 2] 1 (.s 6)),
    .r (some 21) (some (19, true)) (.load 2 true (.s 20)),
    .p (some 22) (some (19, true)) (.faddr [1, 1, 1, 2, 2, 1, 1] 3 (.s 3)),
    .r (some 23) (some (19, true)) (.load 2 true (.s 22)),
    .p (some 24) (some (19, true)) (.eqt (.st [1, 1] [.int, .int]) false (.s 21) (.s 23)),
    .m (some 25) none (.pick (.s 19) (.s 24) (.c (.v (.bool false))))] []) (
  .seq (.keep [2, 3, 5, 6, 7, 8, 9, 25] []) (
  .sub c_delta_Between_1_R0))))) (
  .sub c_delta_Between_1_R1)))
def c_delta_Between_1_R2 : ACode :=
  .seq (.reg [
    .m (some 4) none (.mv (.c (.v (.bool false))))] []) (
  .seq (.keep [4] []) (
  .ret))
def c_delta_Between_1_B : ACode :=
  .seq (.reg [
    .m (some 3) none (.boxC (.s 0)),
    .m (some 4) none (.mv (.c (.v (.bool false))))] []) (
  .seq (.reg [
    .r (some 7) none (.load 1 false (.s 1)),
    .p (some 8) none (.len false (.s 7)),
    .m (some 9) none (.mv (.c (.v (.int .i64 0))))] []) (
  .seq (.blk 0 (.seq (.keep [2, 3, 7, 8, 9] []) (
  .loop c_delta_Between_1_L0))) (
  .sub c_delta_Between_1_R2)))
/-- bitemporal/delta.Between$1 -/
def c_delta_Between_1 : AFun := ⟨3, [.tmp 4], c_delta_Between_1_B⟩
def c_tuple_Equal_B : ACode :=
  .seq (.reg [
    .m (some 4) none (.mv (.c (.v (.bool false))))] []) (
  .seq (.reg [
    .m (some 5) none (.mv (.s 0)),
    .m (some 6) none (.mv (.s 1)),
    .call (some 7) none (.fn 71) [(.s 5, .pass), (.s 6, .pass)] (.frz [0]),
    .p (some 8) none (.bin .eql (.s 7) (.c (.v (.int .i64 0)))),
    .m (some 4) none (.mv (.s 8))] []) (
  .seq (.keep [4] []) (
  .ret)))
/-- bitemporal/tuple.Equal -/
def c_tuple_Equal : AFun := ⟨2, [.tmp 4], c_tuple_Equal_B⟩
def c_tuple_Compare_B : ACode :=
  .seq (.reg [
    .m (some 4) none (.mv (.c (.v (.int .i64 0))))] []) (
  .seq (.reg [
    .m (some 5) none (.mv (.s 0)),
    .m (some 6) none (.mv (.s 1)),
    .call (some 7) none (.fn 93) [(.s 5, .pass), (.s 6, .pass), (.c (.fn 94 []), .pass)] (.frz [0]),
    .m (some 4) none (.mv (.s 7))] []) (
  .seq (.keep [4] []) (
  .ret)))
/-- bitemporal/tuple.Compare -/
def c_tuple_Compare : AFun := ⟨2, [.tmp 4], c_tuple_Compare_B⟩
def c_slices_SortStableFunc_api_Version_api_Version_B : ACode :=
  .reg [
    .m (some 4) none (.mv (.s 0)),
    .m (some 5) none (.mv (.s 0)),
    .p (some 6) none (.len false (.s 5)),
    .m (some 7) none (.mv (.s 1)),
    .calli (some 8) none (.fn 73) [.s 4, .s 6, .s 7]] []
/-- slices.SortStableFunc[[]bitemporal/api.Version,bitemporal/api.Version] -/
def c_slices_SortStableFunc_api_Version_api_Version : AFun := ⟨2, [], c_slices_SortStableFunc_api_Version_api_Version_B⟩
def c_slices_stableCmpFunc_api_Version_L0 : ACode :=
  .seq (.reg [
    .m (some 11) none (.mv (.s 8)),
    .m (some 12) none (.mv (.s 1)),
    .p (some 13) none (.bin .leq (.s 11) (.s 12))] []) (
  .seq (.cond (.s 13) (.skip) (.seq (.keep [0, 1, 2, 6, 7] []) (
  .exit 0))) (
  .seq (.blk 1 (.seq (.reg [
    .m (some 14) none (.mv (.s 0)),
    .m (some 15) none (.mv (.s 7)),
    .m (some 16) none (.mv (.s 8)),
    .m (some 17) none (.mv (.s 2)),
    .calli (some 18) none (.fn 95) [.s 14, .s 15, .s 16, .s 17]] []) (
  .seq (.reg [
    .m (some 19) none (.mv (.s 8)),
    .m (some 7) none (.mv (.s 19))] []) (
  .reg [
    .m (some 20) none (.mv (.s 8)),
    .m (some 21) none (.mv (.s 6)),
    .p (some 22) none (.bin .add (.s 20) (.s 21)),
    .m (some 8) none (.mv (.s 22))] [])))) (
  .keep [0, 1, 2, 6, 7, 8] [])))
def c_slices_stableCmpFunc_api_Version_L1 : ACode :=
  .seq (.reg [
    .m (some 33) none (.mv (.s 8)),
    .m (some 34) none (.mv (.s 1)),
    .p (some 35) none (.bin .leq (.s 33) (.s 34))] []) (
  .seq (.cond (.s 35) (.skip) (.seq (.keep [0, 1, 2, 6, 7] []) (
  .exit 4))) (
  .seq (.blk 5 (.seq (.reg [
    .m (some 36) none (.mv (.s 0)),
    .m (some 37) none (.mv (.s 7)),
    .m (some 38) none (.mv (.s 7)),
    .m (some 39) none (.mv (.s 6)),
    .p (some 40) none (.bin .add (.s 38) (.s 39)),
    .m (some 41) none (.mv (.s 8)),
    .m (some 42) none (.mv (.s 2)),
    .calli (some 43) none (.fn 96) [.s 36, .s 37, .s 40, .s 41, .s 42]] []) (
  .seq (.reg [
    .m (some 44) none (.mv (.s 8)),
    .m (some 7) none (.mv (.s 44))] []) (
  .reg [
    .m (some 45) none (.mv (.s 8)),
    .m (some 46) none (.mv (.s 6)),
    .p (some 47) none (.bin .mul (.c (.v (.int .i64 2))) (.s 46)),
    .p (some 48) none (.bin .add (.s 45) (.s 47)),
    .m (some 8) none (.mv (.s 48))] [])))) (
  .keep [0, 1, 2, 6, 7, 8] [])))
def c_slices_stableCmpFunc_api_Version_R0 : ACode :=
  .seq (.reg [
    .m (some 49) none (.mv (.s 7)),
    .m (some 50) none (.mv (.s 6)),
    .p (some 51) none (.bin .add (.s 49) (.s 50)),
    .m (some 9) none (.mv (.s 51))] []) (
  .seq (.reg [
    .m (some 52) none (.mv (.s 9)),
    .m (some 53) none (.mv (.s 1)),
    .p (some 54) none (.bin .lss (.s 52) (.s 53))] []) (
  .seq (.cond (.s 54) (.reg [
    .m (some 55) none (.mv (.s 0)),
    .m (some 56) none (.mv (.s 7)),
    .m (some 57) none (.mv (.s 9)),
    .m (some 58) none (.mv (.s 1)),
    .m (some 59) none (.mv (.s 2)),
    .calli (some 60) none (.fn 96) [.s 55, .s 56, .s 57, .s 58, .s 59]] []) (.skip)) (
  .seq (.reg [
    .m (some 61) none (.mv (.s 6)),
    .p (some 62) none (.bin .mul (.s 61) (.c (.v (.int .i64 2)))),
    .m (some 6) none (.mv (.s 62))] []) (
  .keep [0, 1, 2, 6] []))))
def c_slices_stableCmpFunc_api_Version_R1 : ACode :=
  .keep [0, 1, 2, 6] []
def c_slices_stableCmpFunc_api_Version_L2 : ACode :=
  .seq (.reg [
    .m (some 28) none (.mv (.s 6)),
    .m (some 29) none (.mv (.s 1)),
    .p (some 30) none (.bin .lss (.s 28) (.s 29))] []) (
  .seq (.cond (.s 30) (.skip) (.seq (.keep [] []) (
  .exit 2))) (
  .seq (.blk 3 (.seq (.reg [
    .m (some 31) none (.mv (.s 6)),
    .p (some 32) none (.bin .mul (.c (.v (.int .i64 2))) (.s 31)),
    .m (some 7) none (.mv (.c (.v (.int .i64 0)))),
    .m (some 8) none (.mv (.s 32))] []) (
  .seq (.blk 4 (.seq (.keep [0, 1, 2, 6, 7, 8] []) (
  .loop c_slices_stableCmpFunc_api_Version_L1))) (
  .sub c_slices_stableCmpFunc_api_Version_R0)))) (
  .sub c_slices_stableCmpFunc_api_Version_R1)))
def c_slices_stableCmpFunc_api_Version_R2 : ACode :=
  .keep [] []
def c_slices_stableCmpFunc_api_Version_R3 : ACode :=
  .seq (.reg [
    .m (some 23) none (.mv (.s 0)),
    .m (some 24) none (.mv (.s 7)),
    .m (some 25) none (.mv (.s 1)),
    .m (some 26) none (.mv (.s 2)),
    .calli (some 27) none (.fn 95) [.s 23, .s 24, .s 25, .s 26]] []) (
  .seq (.blk 2 (.seq (.keep [0, 1, 2, 6] []) (
  .loop c_slices_stableCmpFunc_api_Version_L2))) (
  .sub c_slices_stableCmpFunc_api_Version_R2))
def c_slices_stableCmpFunc_api_Version_B : ACode :=
  .seq (.reg [
    .m (some 6) none (.mv (.c (.v (.int .i64 20))))] []) (
  .seq (.reg [
    .m (some 10) none (.mv (.s 6)),
    .m (some 7) none (.mv (.c (.v (.int .i64 0)))),
    .m (some 8) none (.mv (.s 10))] []) (
  .seq (.blk 0 (.seq (.keep [0, 1, 2, 6, 7, 8] []) (
  .loop c_slices_stableCmpFunc_api_Version_L0))) (
  .sub c_slices_stableCmpFunc_api_Version_R3)))
/-- slices.stableCmpFunc[bitemporal/api.Version] -/
def c_slices_stableCmpFunc_api_Version : AFun := ⟨3, [], c_slices_stableCmpFunc_api_Version_B⟩
def c_delta_Between_2_B : ACode :=
  .seq (.reg [
    .m (some 2) none (.boxC (.s 0)),
    .m (some 3) none (.boxC (.s 1)),
    .m (some 4) none (.mv (.c (.v (.int .i64 0))))] []) (
  .seq (.reg [
    .p (some 5) none (.faddr [1, 1, 1, 2, 2, 1, 1] 0 (.s 2)),
    .r (some 6) none (.load 1 false (.s 5)),
    .p (some 7) none (.faddr [1, 1, 1, 2, 2, 1, 1] 0 (.s 3)),
    .r (some 8) none (.load 1 false (.s 7)),
    .call (some 9) none (.fn 66) [(.s 6, .pass), (.s 8, .pass)] (.frz [0]),
    .m (some 4) none (.mv (.s 9))] []) (
  .seq (.keep [4] []) (
  .ret)))
/-- bitemporal/delta.Between$2 -/
def c_delta_Between_2 : AFun := ⟨2, [.tmp 4], c_delta_Between_2_B⟩
def c_cmp_isNaN_int_B : ACode :=
  .seq (.reg [
    .m (some 2) none (.mv (.c (.v (.bool false))))] []) (
  .seq (.reg [
    .m (some 3) none (.mv (.s 0)),
    .m (some 4) none (.mv (.s 0)),
    .p (some 5) none (.bin .neq (.s 3) (.s 4)),
    .m (some 2) none (.mv (.s 5))] []) (
  .seq (.keep [2] []) (
  .ret)))
/-- cmp.isNaN[int] -/
def c_cmp_isNaN_int : AFun := ⟨1, [.tmp 2], c_cmp_isNaN_int_B⟩
def c_delta_find_R0 : ACode :=
  .seq (.reg [
    .p (some 15) none (.build [1, 1, 1, 2, 2, 1, 1] [.v (.int .i64 0), .v (.int .i64 0), .sl 3 [], .agg [1, 1] [.v (.int .i64 0), .v (.int .i64 0)], .agg [1, 1] [.v (.int .i64 0), .v (.int .i64 0)], .v (.int .i64 0), .v (.int .i64 0)] []),
    .w none none (.store 9 (.s 4) (.s 15)),
    .w none none (.store 1 (.s 5) (.c (.v (.bool false))))] []) (
  .seq (.keep [4, 5] []) (
  .ret))
def c_delta_find_B : ACode :=
  .seq (.reg [
    .m (some 3) none (.boxC (.s 1)),
    .w (some 4) none (.alloc 7601 (.agg [1, 1, 1, 2, 2, 1, 1] [.v (.int .i64 0), .v (.int .i64 0), .sl 3 [], .agg [1, 1] [.v (.int .i64 0), .v (.int .i64 0)], .agg [1, 1] [.v (.int .i64 0), .v (.int .i64 0)], .v (.int .i64 0), .v (.int .i64 0)])),
    .w (some 5) none (.alloc 7602 (.v (.bool false)))] []) (
  .seq (.reg [
    .m (some 7) none (.mv (.s 0)),
    .call (some 8) none (.fn 61) [(.s 7, .pass)] (.frz [0])] []) (
  .seq (.blk 0 (.seq (.keep [3, 4, 5, 8] []) (
  .rng (.s 8) 7603 1000002 [3, 4, 5]))) (
  .sub c_delta_find_R0)))
def c_delta_find_r0_B : ACode :=
  .seq (.blk 1 (.seq (.reg [
    .p (some 10) none (.faddr [1, 1, 1, 2, 2, 1, 1] 0 (.s 6)),
    .r (some 11) none (.load 1 false (.s 10)),
    .r (some 12) none (.load 1 false (.s 3)),
    .p (some 13) none (.bin .eql (.s 11) (.s 12))] []) (
  .seq (.cond (.s 13) (.seq (.reg [
    .r (some 14) none (.load 9 true (.s 6)),
    .w none none (.store 9 (.s 4) (.s 14)),
    .w none none (.store 1 (.s 5) (.c (.v (.bool true))))] []) (
  .seq (.keep [] []) (
  .ret))) (.skip)) (
  .keep [] [])))) (
  .keep [] [7604])
def c_delta_find_r0_A : ACode :=
  .reg [
    .w (some 6) none (.alloc 7604 (.agg [1, 1, 1, 2, 2, 1, 1] [.v (.int .i64 0), .v (.int .i64 0), .sl 3 [], .agg [1, 1] [.v (.int .i64 0), .v (.int .i64 0)], .agg [1, 1] [.v (.int .i64 0), .v (.int .i64 0)], .v (.int .i64 0), .v (.int .i64 0)])),
    .fin none 9 6 (.s 9)] []
def c_delta_find_r0_C : ACode :=
  .rnd [9, 3, 4, 5] c_delta_find_r0_A c_delta_find_r0_B
/-- bitemporal/delta.find$round0 -/
def c_delta_find_r0 : AFun := ⟨4, [.tmp 0], c_delta_find_r0_C⟩
/-- bitemporal/delta.find -/
def c_delta_find : AFun := ⟨2, [.cell 4 9 true, .cell 5 1 false], c_delta_find_B⟩
def c_cmp_Less_int_B : ACode :=
  .seq (.reg [
    .m (some 4) none (.mv (.c (.v (.bool false))))] []) (
  .seq (.reg [
    .m (some 5) none (.mv (.s 0)),
    .call (some 6) none (.fn 75) [(.s 5, .pass)] (.frz [0]),
    .m (some 7) none (.mv (.s 6)),
    .m (some 8) (some (7, true)) (.mv (.s 1)),
    .call (some 9) (some (7, true)) (.fn 75) [(.s 8, .pass)] (.frz [0]),
    .p (some 10) (some (7, true)) (.un .not (.s 9)),
    .m (some 11) none (.pick (.s 7) (.s 10) (.c (.v (.bool false)))),
    .m (some 12) none (.mv (.s 11)),
    .m (some 13) (some (12, false)) (.mv (.s 0)),
    .m (some 14) (some (12, false)) (.mv (.s 1)),
    .p (some 15) (some (12, false)) (.bin .lss (.s 13) (.s 14)),
    .m (some 16) none (.pick (.s 12) (.c (.v (.bool true))) (.s 15)),
    .m (some 4) none (.mv (.s 16))] []) (
  .seq (.keep [4] []) (
  .ret)))
/-- cmp.Less[int] -/
def c_cmp_Less_int : AFun := ⟨2, [.tmp 4], c_cmp_Less_int_B⟩
def c_slices_isNaN_int_B : ACode :=
  .seq (.reg [
    .m (some 2) none (.mv (.c (.v (.bool false))))] []) (
  .seq (.reg [
    .m (some 3) none (.mv (.s 0)),
    .m (some 4) none (.mv (.s 0)),
    .p (some 5) none (.bin .neq (.s 3) (.s 4)),
    .m (some 2) none (.mv (.s 5))] []) (
  .seq (.keep [2] []) (
  .ret)))
/-- slices.isNaN[int] -/
def c_slices_isNaN_int : AFun := ⟨1, [.tmp 2], c_slices_isNaN_int_B⟩
def c_ref07_sign_B : ACode :=
  .seq (.reg [
    .m (some 4) none (.mv (.c (.v (.int .i64 0))))] []) (
  .seq (.reg [
    .m (some 5) none (.mv (.s 0))] []) (
  .seq (.cond (.s 5) (.seq (.reg [
    .m (some 4) none (.mv (.c (.v (.int .i64 (-1)))))] []) (
  .seq (.keep [4] []) (
  .ret))) (.skip)) (
  .seq (.reg [
    .m (some 6) none (.mv (.s 1))] []) (
  .seq (.cond (.s 6) (.seq (.reg [
    .m (some 4) none (.mv (.c (.v (.int .i64 1))))] []) (
  .seq (.keep [4] []) (
  .ret))) (.skip)) (
  .seq (.reg [
    .m (some 4) none (.mv (.c (.v (.int .i64 0))))] []) (
  .seq (.keep [4] []) (
  .ret)))))))
/-- bitemporal/bitemporalref07.sign -/
def c_ref07_sign : AFun := ⟨2, [.tmp 4], c_ref07_sign_B⟩
def c_coalesce_rows_R0 : ACode :=
  .reg [
    .m (some 43) none (.mv (.s 4)),
    .m (some 44) none (.mv (.s 8)),
    .m (some 45) none (.mv (.s 4)),
    .m (some 46) none (.mv (.s 8)),
    .p (some 47) none (.iaddr 2 (.s 45) (.s 46)),
    .p (some 48) none (.faddr [1, 1] 1 (.s 47)),
    .r (some 49) none (.load 1 false (.s 48)),
    .p (some 50) none (.faddr [1, 2] 1 (.s 6)),
    .r (some 51) none (.load 2 true (.s 50)),
    .p (some 52) none (.bsl 2 1 (.agg [1, 1] [.v (.int .i64 0), .v (.int .i64 0)]) [(0, .s 51)]),
    .w (some 53) none (.app 0 2 8796093022208 (.s 49) (.s 52)),
    .p (some 54) none (.iaddr 2 (.s 43) (.s 44)),
    .p (some 55) none (.faddr [1, 1] 1 (.s 54)),
    .w none none (.store 1 (.s 55) (.s 53))] []
def c_coalesce_rows_R1 : ACode :=
  .seq (.reg [
    .p (some 56) none (.bin .add (.s 13) (.c (.v (.int .i64 1)))),
    .m (some 13) none (.mv (.s 56))] []) (
  .keep [3, 4, 11, 12, 13] [8603])
def c_coalesce_rows_L0 : ACode :=
  .seq (.reg [
    .p (some 14) none (.bin .lss (.s 13) (.s 12))] []) (
  .seq (.cond (.s 14) (.skip) (.seq (.keep [4] []) (
  .exit 0))) (
  .seq (.blk 1 (.seq (.reg [
    .p (some 15) none (.iaddr 3 (.s 11) (.s 13)),
    .r (some 16) none (.load 3 true (.s 15)),
    .w (some 6) none (.alloc 8603 (.agg [1, 2] [.sl 3 [], .agg [1, 1] [.v (.int .i64 0), .v (.int .i64 0)]])),
    .fin none 3 6 (.s 16)] []) (
  .seq (.reg [
    .p (some 17) none (.faddr [1, 2] 1 (.s 6)),
    .r (some 18) none (.load 2 true (.s 17)),
    .call (some 19) none (.fn 65) [(.s 18, .pass)] (.frz [0]),
    .p (some 20) none (.un .not (.s 19))] []) (
  .seq (.cond (.s 20) (.seq (.keep [3, 4, 11, 12, 13] []) (
  .exit 1)) (.skip)) (
  .seq (.reg [
    .p (some 21) none (.faddr [1, 2] 0 (.s 6)),
    .r (some 22) none (.load 1 false (.s 21)),
    .call (some 23) none (.fn 108) [(.s 22, .pass)] (.frz [0]),
    .m (some 7) none (.mv (.s 23))] []) (
  .seq (.reg [
    .m (some 25) none (.mv (.s 3)),
    .m (some 26) none (.mv (.s 7)),
    .r (some 27) none (.lookup (.s 25) (.s 26) (.v (.int .i64 0)) true),
    .m (some 24) none (.mv (.s 27)),
    .p (some 28) none (.extr (.s 24) 0),
    .p (some 29) none (.extr (.s 24) 1),
    .m (some 8) none (.mv (.s 28)),
    .m (some 9) none (.mv (.s 29))] []) (
  .seq (.reg [
    .m (some 30) none (.mv (.s 9)),
    .p (some 31) none (.un .not (.s 30))] []) (
  .seq (.cond (.s 31) (.seq (.reg [
    .m (some 32) none (.mv (.s 4)),
    .p (some 33) none (.len false (.s 32)),
    .m (some 8) none (.mv (.s 33))] []) (
  .seq (.reg [
    .m (some 34) none (.mv (.s 3)),
    .m (some 35) none (.mv (.s 7)),
    .m (some 36) none (.mv (.s 8)),
    .w none none (.mapupd (.s 34) (.s 35) (.s 36))] []) (
  .reg [
    .m (some 37) none (.mv (.s 4)),
    .p (some 38) none (.faddr [1, 2] 0 (.s 6)),
    .r (some 39) none (.load 1 false (.s 38)),
    .p (some 40) none (.build [1, 1] [.nil, .nil] [(0, .s 39)]),
    .p (some 41) none (.bsl 2 1 (.agg [1, 1] [.sl 3 [], .sl 2 []]) [(0, .s 40)]),
    .w (some 42) none (.app 8602 2 2932031007402 (.s 37) (.s 41)),
    .m (some 4) none (.mv (.s 42))] []))) (.skip)) (
  .seq (.keep [3, 4, 6, 8, 11, 12, 13] []) (
  .sub c_coalesce_rows_R0)))))))))) (
  .sub c_coalesce_rows_R1)))
def c_coalesce_rows_R2 : ACode :=
  .seq (.reg [
    .m (some 57) none (.mv (.s 4)),
    .calli (some 58) none (.fn 109) [.s 57, .c (.fn 110 [])]] []) (
  .seq (.reg [
    .m (some 59) none (.mv (.s 4)),
    .m (some 2) none (.mv (.s 59))] []) (
  .seq (.keep [2] []) (
  .ret)))
def c_coalesce_rows_B : ACode :=
  .seq (.reg [
    .m (some 2) none (.mv (.c (.nil)))] []) (
  .seq (.reg [
    .w (some 10) none (.mkmap 8601),
    .m (some 3) none (.mv (.s 10))] []) (
  .seq (.reg [
    .w (some 4) none (.newnil 8602 2)] []) (
  .seq (.reg [
    .m (some 11) none (.mv (.s 0)),
    .p (some 12) none (.len false (.s 11)),
    .m (some 13) none (.mv (.c (.v (.int .i64 0))))] []) (
  .seq (.blk 0 (.seq (.keep [3, 4, 11, 12, 13] []) (
  .loop c_coalesce_rows_L0))) (
  .sub c_coalesce_rows_R2)))))
/-- bitemporal/coalesce.rows -/
def c_coalesce_rows : AFun := ⟨1, [.tmp 2], c_coalesce_rows_B⟩
def c_slices_CompareFunc_api_Value_api_Value_api_Value_api_Value_L0 : ACode :=
  .seq (.reg [
    .p (some 14) none (.bin .lss (.s 13) (.s 12))] []) (
  .seq (.cond (.s 14) (.skip) (.seq (.keep [0, 1] []) (
  .exit 0))) (
  .seq (.blk 1 (.seq (.reg [
    .m (some 15) none (.mv (.s 13)),
    .p (some 16) none (.iaddr 3 (.s 11) (.s 13)),
    .r (some 17) none (.load 3 true (.s 16)),
    .w (some 8) none (.alloc 9301 (.agg [1, 1, 1] [.v (.int .i64 0), .v (.int .i64 0), .v (.string ByteArray.empty)])),
    .m (some 7) none (.mv (.s 15)),
    .fin none 3 8 (.s 17)] []) (
  .seq (.reg [
    .m (some 18) none (.mv (.s 7)),
    .m (some 19) none (.mv (.s 1)),
    .p (some 20) none (.len false (.s 19)),
    .p (some 21) none (.bin .geq (.s 18) (.s 20))] []) (
  .seq (.cond (.s 21) (.seq (.reg [
    .m (some 6) none (.mv (.c (.v (.int .i64 1))))] []) (
  .seq (.keep [6] []) (
  .ret))) (.skip)) (
  .seq (.reg [
    .m (some 22) none (.mv (.s 1)),
    .m (some 23) none (.mv (.s 7)),
    .p (some 24) none (.iaddr 3 (.s 22) (.s 23)),
    .r (some 25) none (.load 3 true (.s 24)),
    .w (some 9) none (.alloc 9302 (.agg [1, 1, 1] [.v (.int .i64 0), .v (.int .i64 0), .v (.string ByteArray.empty)])),
    .fin none 3 9 (.s 25)] []) (
  .seq (.reg [
    .m (some 26) none (.mv (.s 2)),
    .r (some 27) none (.load 3 true (.s 8)),
    .r (some 28) none (.load 3 true (.s 9)),
    .call (some 29) none (.val (.s 26)) [(.s 27, .pass), (.s 28, .pass)] (.frz [0]),
    .m (some 10) none (.mv (.s 29))] []) (
  .seq (.reg [
    .m (some 30) none (.mv (.s 10)),
    .p (some 31) none (.bin .neq (.s 30) (.c (.v (.int .i64 0))))] []) (
  .seq (.cond (.s 31) (.seq (.reg [
    .m (some 32) none (.mv (.s 10)),
    .m (some 6) none (.mv (.s 32))] []) (
  .seq (.keep [6] []) (
  .ret))) (.skip)) (
  .keep [0, 1, 2, 11, 12, 13] []))))))))) (
  .seq (.reg [
    .p (some 33) none (.bin .add (.s 13) (.c (.v (.int .i64 1)))),
    .m (some 13) none (.mv (.s 33))] []) (
  .keep [0, 1, 2, 11, 12, 13] [9301, 9302]))))
def c_slices_CompareFunc_api_Value_api_Value_api_Value_api_Value_R0 : ACode :=
  .seq (.reg [
    .m (some 34) none (.mv (.s 0)),
    .p (some 35) none (.len false (.s 34)),
    .m (some 36) none (.mv (.s 1)),
    .p (some 37) none (.len false (.s 36)),
    .p (some 38) none (.bin .lss (.s 35) (.s 37))] []) (
  .seq (.cond (.s 38) (.seq (.reg [
    .m (some 6) none (.mv (.c (.v (.int .i64 (-1)))))] []) (
  .seq (.keep [6] []) (
  .ret))) (.skip)) (
  .seq (.reg [
    .m (some 6) none (.mv (.c (.v (.int .i64 0))))] []) (
  .seq (.keep [6] []) (
  .ret))))
def c_slices_CompareFunc_api_Value_api_Value_api_Value_api_Value_B : ACode :=
  .seq (.reg [
    .m (some 6) none (.mv (.c (.v (.int .i64 0))))] []) (
  .seq (.reg [
    .m (some 11) none (.mv (.s 0)),
    .p (some 12) none (.len false (.s 11)),
    .m (some 13) none (.mv (.c (.v (.int .i64 0))))] []) (
  .seq (.blk 0 (.seq (.keep [0, 1, 2, 11, 12, 13] []) (
  .loop c_slices_CompareFunc_api_Value_api_Value_api_Value_api_Value_L0))) (
  .sub c_slices_CompareFunc_api_Value_api_Value_api_Value_api_Value_R0)))
/-- slices.CompareFunc[[]bitemporal/api.Value,[]bitemporal/api.Value,bitemporal/api.Value,bitemporal/api.Value] -/
def c_slices_CompareFunc_api_Value_api_Value_api_Value_api_Value : AFun := ⟨3, [.tmp 6], c_slices_CompareFunc_api_Value_api_Value_api_Value_api_Value_B⟩
def c_value_Compare_U0 : List (Nat × Nat) := [(4, 6), (4, 8), (4, 11), (9, 11), (4, 13), (9, 13)]
def c_value_Compare_B : ACode :=
  .seq (.reg [
    .m (some 2) none (.boxC (.s 0)),
    .m (some 3) none (.boxC (.s 1)),
    .m (some 4) none (.mv (.c (.v (.int .i64 0))))] []) (
  .seq (.reg [
    .p (some 5) none (.faddr [1, 1, 1] 0 (.s 2)),
    .r (some 6) none (.load 1 false (.s 5)),
    .p (some 7) none (.faddr [1, 1, 1] 0 (.s 3)),
    .r (some 8) none (.load 1 false (.s 7)),
    .call (some 9) none (.fn 66) [(.s 6, .pass), (.s 8, .pass)] (.frz [0]),
    .p (some 10) none (.faddr [1, 1, 1] 1 (.s 2)),
    .r (some 11) none (.load 1 false (.s 10)),
    .p (some 12) none (.faddr [1, 1, 1] 1 (.s 3)),
    .r (some 13) none (.load 1 false (.s 12)),
    .call (some 14) none (.fn 66) [(.s 11, .pass), (.s 13, .pass)] (.frz [0]),
    .p (some 15) none (.faddr [1, 1, 1] 2 (.s 2)),
    .r (some 16) none (.load 1 false (.s 15)),
    .p (some 17) none (.faddr [1, 1, 1] 2 (.s 3)),
    .r (some 18) none (.load 1 false (.s 17)),
    .call (some 19) none (.fn 116) [(.s 16, .pass), (.s 18, .pass)] (.frz [0]),
    .p (some 20) none (.bsl 1 3 (.v (.int .i64 0)) [(0, .s 9), (1, .s 14), (2, .s 19)]),
    .call (some 21) none (.fn 67) [(.s 20, .pass)] (.frz [0]),
    .m (some 4) none (.mv (.s 21))] c_value_Compare_U0) (
  .seq (.keep [4] []) (
  .ret)))
/-- bitemporal/value.Compare -/
def c_value_Compare : AFun := ⟨2, [.tmp 4], c_value_Compare_B⟩
def c_slices_insertionSortCmpFunc_api_Version_L0 : ACode :=
  .seq (.reg [
    .m (some 18) none (.mv (.s 9)),
    .m (some 19) none (.mv (.s 1)),
    .p (some 20) none (.bin .gtr (.s 18) (.s 19)),
    .m (some 21) none (.mv (.s 20)),
    .m (some 22) (some (21, true)) (.mv (.s 3)),
    .m (some 23) (some (21, true)) (.mv (.s 0)),
    .m (some 24) (some (21, true)) (.mv (.s 9)),
    .p (some 25) (some (21, true)) (.iaddr 9 (.s 23) (.s 24)),
    .r (some 26) (some (21, true)) (.load 9 true (.s 25)),
    .m (some 27) (some (21, true)) (.mv (.s 0)),
    .m (some 28) (some (21, true)) (.mv (.s 9)),
    .p (some 29) (some (21, true)) (.bin .sub (.s 28) (.c (.v (.int .i64 1)))),
    .p (some 30) (some (21, true)) (.iaddr 9 (.s 27) (.s 29)),
    .r (some 31) (some (21, true)) (.load 9 true (.s 30)),
    .calli (some 32) (some (21, true)) (.val (.s 22)) [.s 26, .s 31],
    .p (some 33) (some (21, true)) (.bin .lss (.s 32) (.c (.v (.int .i64 0)))),
    .m (some 34) none (.pick (.s 21) (.s 33) (.c (.v (.bool false))))] []) (
  .seq (.cond (.s 34) (.skip) (.seq (.keep [0, 1, 2, 3, 8] []) (
  .exit 2))) (
  .seq (.blk 3 (.reg [
    .m (some 37) none (.mv (.s 0)),
    .m (some 38) none (.mv (.s 9)),
    .m (some 39) none (.mv (.s 0)),
    .m (some 40) none (.mv (.s 9)),
    .p (some 41) none (.bin .sub (.s 40) (.c (.v (.int .i64 1)))),
    .m (some 42) none (.mv (.s 0)),
    .m (some 43) none (.mv (.s 9)),
    .p (some 44) none (.bin .sub (.s 43) (.c (.v (.int .i64 1)))),
    .p (some 45) none (.iaddr 9 (.s 42) (.s 44)),
    .r (some 46) none (.load 9 true (.s 45)),
    .m (some 47) none (.mv (.s 0)),
    .m (some 48) none (.mv (.s 9)),
    .p (some 49) none (.iaddr 9 (.s 47) (.s 48)),
    .r (some 50) none (.load 9 true (.s 49)),
    .p (some 51) none (.iaddr 9 (.s 37) (.s 38)),
    .w none none (.store 9 (.s 51) (.s 46)),
    .p (some 52) none (.iaddr 9 (.s 39) (.s 41)),
    .w none none (.store 9 (.s 52) (.s 50))] [])) (
  .seq (.reg [
    .m (some 35) none (.mv (.s 9)),
    .p (some 36) none (.bin .sub (.s 35) (.c (.v (.int .i64 1)))),
    .m (some 9) none (.mv (.s 36))] []) (
  .keep [0, 1, 2, 3, 8, 9] []))))
def c_slices_insertionSortCmpFunc_api_Version_R0 : ACode :=
  .seq (.reg [
    .m (some 15) none (.mv (.s 8)),
    .p (some 16) none (.bin .add (.s 15) (.c (.v (.int .i64 1)))),
    .m (some 8) none (.mv (.s 16))] []) (
  .seq (.keep [0, 1, 2, 3, 8] []) (
  .keep [0, 1, 2, 3, 8] []))
def c_slices_insertionSortCmpFunc_api_Version_L1 : ACode :=
  .seq (.reg [
    .m (some 12) none (.mv (.s 8)),
    .m (some 13) none (.mv (.s 2)),
    .p (some 14) none (.bin .lss (.s 12) (.s 13))] []) (
  .seq (.cond (.s 14) (.skip) (.seq (.keep [] []) (
  .exit 0))) (
  .seq (.blk 1 (.seq (.reg [
    .m (some 17) none (.mv (.s 8)),
    .m (some 9) none (.mv (.s 17))] []) (
  .blk 2 (.seq (.keep [0, 1, 2, 3, 8, 9] []) (
  .loop c_slices_insertionSortCmpFunc_api_Version_L0))))) (
  .sub c_slices_insertionSortCmpFunc_api_Version_R0)))
def c_slices_insertionSortCmpFunc_api_Version_B : ACode :=
  .seq (.reg [
    .m (some 10) none (.mv (.s 1)),
    .p (some 11) none (.bin .add (.s 10) (.c (.v (.int .i64 1)))),
    .m (some 8) none (.mv (.s 11))] []) (
  .blk 0 (.seq (.keep [0, 1, 2, 3, 8] []) (
  .loop c_slices_insertionSortCmpFunc_api_Version_L1)))
/-- slices.insertionSortCmpFunc[bitemporal/api.Version] -/
def c_slices_insertionSortCmpFunc_api_Version : AFun := ⟨4, [], c_slices_insertionSortCmpFunc_api_Version_B⟩
def c_slices_SortStableFunc_coalesce_group_coalesce_group_B : ACode :=
  .reg [
    .m (some 4) none (.mv (.s 0)),
    .m (some 5) none (.mv (.s 0)),
    .p (some 6) none (.len false (.s 5)),
    .m (some 7) none (.mv (.s 1)),
    .calli (some 8) none (.fn 127) [.s 4, .s 6, .s 7]] []
/-- slices.SortStableFunc[[]bitemporal/coalesce.group,bitemporal/coalesce.group] -/
def c_slices_SortStableFunc_coalesce_group_coalesce_group : AFun := ⟨2, [], c_slices_SortStableFunc_coalesce_group_coalesce_group_B⟩
def c_coalesce_rows_1_B : ACode :=
  .seq (.reg [
    .m (some 2) none (.boxC (.s 0)),
    .m (some 3) none (.boxC (.s 1)),
    .m (some 4) none (.mv (.c (.v (.int .i64 0))))] []) (
  .seq (.reg [
    .p (some 5) none (.faddr [1, 1] 0 (.s 2)),
    .r (some 6) none (.load 1 false (.s 5)),
    .p (some 7) none (.faddr [1, 1] 0 (.s 3)),
    .r (some 8) none (.load 1 false (.s 7)),
    .call (some 9) none (.fn 71) [(.s 6, .pass), (.s 8, .pass)] (.frz [0]),
    .m (some 4) none (.mv (.s 9))] []) (
  .seq (.keep [4] []) (
  .ret)))
/-- bitemporal/coalesce.rows$1 -/
def c_coalesce_rows_1 : AFun := ⟨2, [.tmp 4], c_coalesce_rows_1_B⟩
def c_strings_Compare_B : ACode :=
  .seq (.reg [
    .m (some 4) none (.mv (.c (.v (.int .i64 0))))] []) (
  .seq (.reg [
    .m (some 5) none (.mv (.s 0)),
    .m (some 6) none (.mv (.s 1)),
    .call (some 7) none (.fn 139) [(.s 5, .pass), (.s 6, .pass)] (.frz [0]),
    .m (some 4) none (.mv (.s 7))] []) (
  .seq (.keep [4] []) (
  .ret)))
/-- strings.Compare -/
def c_strings_Compare : AFun := ⟨2, [.tmp 4], c_strings_Compare_B⟩
def c_slices_stableCmpFunc_coalesce_group_L0 : ACode :=
  .seq (.reg [
    .m (some 11) none (.mv (.s 8)),
    .m (some 12) none (.mv (.s 1)),
    .p (some 13) none (.bin .leq (.s 11) (.s 12))] []) (
  .seq (.cond (.s 13) (.skip) (.seq (.keep [0, 1, 2, 6, 7] []) (
  .exit 0))) (
  .seq (.blk 1 (.seq (.reg [
    .m (some 14) none (.mv (.s 0)),
    .m (some 15) none (.mv (.s 7)),
    .m (some 16) none (.mv (.s 8)),
    .m (some 17) none (.mv (.s 2)),
    .calli (some 18) none (.fn 143) [.s 14, .s 15, .s 16, .s 17]] []) (
  .seq (.reg [
    .m (some 19) none (.mv (.s 8)),
    .m (some 7) none (.mv (.s 19))] []) (
  .reg [
    .m (some 20) none (.mv (.s 8)),
    .m (some 21) none (.mv (.s 6)),
    .p (some 22) none (.bin .add (.s 20) (.s 21)),
    .m (some 8) none (.mv (.s 22))] [])))) (
  .keep [0, 1, 2, 6, 7, 8] [])))
def c_slices_stableCmpFunc_coalesce_group_L1 : ACode :=
  .seq (.reg [
    .m (some 33) none (.mv (.s 8)),
    .m (some 34) none (.mv (.s 1)),
    .p (some 35) none (.bin .leq (.s 33) (.s 34))] []) (
  .seq (.cond (.s 35) (.skip) (.seq (.keep [0, 1, 2, 6, 7] []) (
  .exit 4))) (
  .seq (.blk 5 (.seq (.reg [
    .m (some 36) none (.mv (.s 0)),
    .m (some 37) none (.mv (.s 7)),
    .m (some 38) none (.mv (.s 7)),
    .m (some 39) none (.mv (.s 6)),
    .p (some 40) none (.bin .add (.s 38) (.s 39)),
    .m (some 41) none (.mv (.s 8)),
    .m (some 42) none (.mv (.s 2)),
    .calli (some 43) none (.fn 144) [.s 36, .s 37, .s 40, .s 41, .s 42]] []) (
  .seq (.reg [
    .m (some 44) none (.mv (.s 8)),
    .m (some 7) none (.mv (.s 44))] []) (
  .reg [
    .m (some 45) none (.mv (.s 8)),
    .m (some 46) none (.mv (.s 6)),
    .p (some 47) none (.bin .mul (.c (.v (.int .i64 2))) (.s 46)),
    .p (some 48) none (.bin .add (.s 45) (.s 47)),
    .m (some 8) none (.mv (.s 48))] [])))) (
  .keep [0, 1, 2, 6, 7, 8] [])))
def c_slices_stableCmpFunc_coalesce_group_R0 : ACode :=
  .seq (.reg [
    .m (some 49) none (.mv (.s 7)),
    .m (some 50) none (.mv (.s 6)),
    .p (some 51) none (.bin .add (.s 49) (.s 50)),
    .m (some 9) none (.mv (.s 51))] []) (
  .seq (.reg [
    .m (some 52) none (.mv (.s 9)),
    .m (some 53) none (.mv (.s 1)),
    .p (some 54) none (.bin .lss (.s 52) (.s 53))] []) (
  .seq (.cond (.s 54) (.reg [
    .m (some 55) none (.mv (.s 0)),
    .m (some 56) none (.mv (.s 7)),
    .m (some 57) none (.mv (.s 9)),
    .m (some 58) none (.mv (.s 1)),
    .m (some 59) none (.mv (.s 2)),
    .calli (some 60) none (.fn 144) [.s 55, .s 56, .s 57, .s 58, .s 59]] []) (.skip)) (
  .seq (.reg [
    .m (some 61) none (.mv (.s 6)),
    .p (some 62) none (.bin .mul (.s 61) (.c (.v (.int .i64 2)))),
    .m (some 6) none (.mv (.s 62))] []) (
  .keep [0, 1, 2, 6] []))))
def c_slices_stableCmpFunc_coalesce_group_R1 : ACode :=
  .keep [0, 1, 2, 6] []
def c_slices_stableCmpFunc_coalesce_group_L2 : ACode :=
  .seq (.reg [
    .m (some 28) none (.mv (.s 6)),
    .m (some 29) none (.mv (.s 1)),
    .p (some 30) none (.bin .lss (.s 28) (.s 29))] []) (
  .seq (.cond (.s 30) (.skip) (.seq (.keep [] []) (
  .exit 2))) (
  .seq (.blk 3 (.seq (.reg [
    .m (some 31) none (.mv (.s 6)),
    .p (some 32) none (.bin .mul (.c (.v (.int .i64 2))) (.s 31)),
    .m (some 7) none (.mv (.c (.v (.int .i64 0)))),
    .m (some 8) none (.mv (.s 32))] []) (
  .seq (.blk 4 (.seq (.keep [0, 1, 2, 6, 7, 8] []) (
  .loop c_slices_stableCmpFunc_coalesce_group_L1))) (
  .sub c_slices_stableCmpFunc_coalesce_group_R0)))) (
  .sub c_slices_stableCmpFunc_coalesce_group_R1)))
def c_slices_stableCmpFunc_coalesce_group_R2 : ACode :=
  .keep [] []
def c_slices_stableCmpFunc_coalesce_group_R3 : ACode :=
  .seq (.reg [
    .m (some 23) none (.mv (.s 0)),
    .m (some 24) none (.mv (.s 7)),
    .m (some 25) none (.mv (.s 1)),
    .m (some 26) none (.mv (.s 2)),
    .calli (some 27) none (.fn 143) [.s 23, .s 24, .s 25, .s 26]] []) (
  .seq (.blk 2 (.seq (.keep [0, 1, 2, 6] []) (
  .loop c_slices_stableCmpFunc_coalesce_group_L2))) (
  .sub c_slices_stableCmpFunc_coalesce_group_R2))
def c_slices_stableCmpFunc_coalesce_group_B : ACode :=
  .seq (.reg [
    .m (some 6) none (.mv (.c (.v (.int .i64 20))))] []) (
  .seq (.reg [
    .m (some 10) none (.mv (.s 6)),
    .m (some 7) none (.mv (.c (.v (.int .i64 0)))),
    .m (some 8) none (.mv (.s 10))] []) (
  .seq (.blk 0 (.seq (.keep [0, 1, 2, 6, 7, 8] []) (
  .loop c_slices_stableCmpFunc_coalesce_group_L0))) (
  .sub c_slices_stableCmpFunc_coalesce_group_R3)))
/-- slices.stableCmpFunc[bitemporal/coalesce.group] -/
def c_slices_stableCmpFunc_coalesce_group : AFun := ⟨3, [], c_slices_stableCmpFunc_coalesce_group_B⟩
def c_slices_insertionSortCmpFunc_coalesce_group_L0 : ACode :=
  .seq (.reg [
    .m (some 18) none (.mv (.s 9)),
    .m (some 19) none (.mv (.s 1)),
    .p (some 20) none (.bin .gtr (.s 18) (.s 19)),
    .m (some 21) none (.mv (.s 20)),
    .m (some 22) (some (21, true)) (.mv (.s 3)),
    .m (some 23) (some (21, true)) (.mv (.s 0)),
    .m (some 24) (some (21, true)) (.mv (.s 9)),
    .p (some 25) (some (21, true)) (.iaddr 2 (.s 23) (.s 24)),
    .r (some 26) (some (21, true)) (.load 2 true (.s 25)),
    .m (some 27) (some (21, true)) (.mv (.s 0)),
    .m (some 28) (some (21, true)) (.mv (.s 9)),
    .p (some 29) (some (21, true)) (.bin .sub (.s 28) (.c (.v (.int .i64 1)))),
    .p (some 30) (some (21, true)) (.iaddr 2 (.s 27) (.s 29)),
    .r (some 31) (some (21, true)) (.load 2 true (.s 30)),
    .calli (some 32) (some (21, true)) (.val (.s 22)) [.s 26, .s 31],
    .p (some 33) (some (21, true)) (.bin .lss (.s 32) (.c (.v (.int .i64 0)))),
    .m (some 34) none (.pick (.s 21) (.s 33) (.c (.v (.bool false))))] []) (
  .seq (.cond (.s 34) (.skip) (.seq (.keep [0, 1, 2, 3, 8] []) (
  .exit 2))) (
  .seq (.blk 3 (.reg [
    .m (some 37) none (.mv (.s 0)),
    .m (some 38) none (.mv (.s 9)),
    .m (some 39) none (.mv (.s 0)),
    .m (some 40) none (.mv (.s 9)),
    .p (some 41) none (.bin .sub (.s 40) (.c (.v (.int .i64 1)))),
    .m (some 42) none (.mv (.s 0)),
    .m (some 43) none (.mv (.s 9)),
    .p (some 44) none (.bin .sub (.s 43) (.c (.v (.int .i64 1)))),
    .p (some 45) none (.iaddr 2 (.s 42) (.s 44)),
    .r (some 46) none (.load 2 true (.s 45)),
    .m (some 47) none (.mv (.s 0)),
    .m (some 48) none (.mv (.s 9)),
    .p (some 49) none (.iaddr 2 (.s 47) (.s 48)),
    .r (some 50) none (.load 2 true (.s 49)),
    .p (some 51) none (.iaddr 2 (.s 37) (.s 38)),
    .w none none (.store 2 (.s 51) (.s 46)),
    .p (some 52) none (.iaddr 2 (.s 39) (.s 41)),
    .w none none (.store 2 (.s 52) (.s 50))] [])) (
  .seq (.reg [
    .m (some 35) none (.mv (.s 9)),
    .p (some 36) none (.bin .sub (.s 35) (.c (.v (.int .i64 1)))),
    .m (some 9) none (.mv (.s 36))] []) (
  .keep [0, 1, 2, 3, 8, 9] []))))
def c_slices_insertionSortCmpFunc_coalesce_group_R0 : ACode :=
  .seq (.reg [
    .m (some 15) none (.mv (.s 8)),
    .p (some 16) none (.bin .add (.s 15) (.c (.v (.int .i64 1)))),
    .m (some 8) none (.mv (.s 16))] []) (
  .seq (.keep [0, 1, 2, 3, 8] []) (
  .keep [0, 1, 2, 3, 8] []))
def c_slices_insertionSortCmpFunc_coalesce_group_L1 : ACode :=
  .seq (.reg [
    .m (some 12) none (.mv (.s 8)),
    .m (some 13) none (.mv (.s 2)),
    .p (some 14) none (.bin .lss (.s 12) (.s 13))] []) (
  .seq (.cond (.s 14) (.skip) (.seq (.keep [] []) (
  .exit 0))) (
  .seq (.blk 1 (.seq (.reg [
    .m (some 17) none (.mv (.s 8)),
    .m (some 9) none (.mv (.s 17))] []) (
  .blk 2 (.seq (.keep [0, 1, 2, 3, 8, 9] []) (
  .loop c_slices_insertionSortCmpFunc_coalesce_group_L0))))) (
  .sub c_slices_insertionSortCmpFunc_coalesce_group_R0)))
def c_slices_insertionSortCmpFunc_coalesce_group_B : ACode :=
  .seq (.reg [
    .m (some 10) none (.mv (.s 1)),
    .p (some 11) none (.bin .add (.s 10) (.c (.v (.int .i64 1)))),
    .m (some 8) none (.mv (.s 11))] []) (
  .blk 0 (.seq (.keep [0, 1, 2, 3, 8] []) (
  .loop c_slices_insertionSortCmpFunc_coalesce_group_L1)))
/-- slices.insertionSortCmpFunc[bitemporal/coalesce.group] -/
def c_slices_insertionSortCmpFunc_coalesce_group : AFun := ⟨4, [], c_slices_insertionSortCmpFunc_coalesce_group_B⟩
end Go.Fw
