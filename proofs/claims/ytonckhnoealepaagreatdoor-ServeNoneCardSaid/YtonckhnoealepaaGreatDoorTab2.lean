/- The abstract code, second part; the tables. -/
import Derived.Test.YtonckhnoealepaaGreatDoorTab1
namespace Go.Proofs.YtonckhnoealepaaGreatDoor
open Go Go.AM
/- slices.Index[[]string,string] -/
noncomputable def a133 : F := ⟨19,
  .seq (.reg [⟨(some 4), none, .mov (.c (.i .i64 0))⟩]) (
  .seq (.seq (.reg [⟨(some 6), none, .mov (.t 0)⟩, ⟨(some 7), none, .call (.b .lenV) [(.t 6)]⟩, ⟨(some 8), none, .mov (.c (.i .i64 0))⟩]) (
  .block 0 (.loop (
    .seq (.reg [⟨(some 9), none, .bin .lss .int false (.t 8) (.t 7)⟩]) (
    .seq (.cond (.t 9) (
     .skip) (
     .exit 0)) (
    .seq (.block 1 (.seq (.reg [⟨(some 10), none, .mov (.t 8)⟩, ⟨(some 5), none, .mov (.t 10)⟩]) (
     .seq (.reg [⟨(some 11), none, .mov (.t 1)⟩, ⟨(some 12), none, .mov (.t 0)⟩, ⟨(some 13), none, .mov (.t 5)⟩, ⟨(some 14), none, .iaV 1 (.t 12) (.t 13)⟩, ⟨(some 15), none, .load none (.t 14)⟩, ⟨(some 16), none, .bin .eql .str false (.t 11) (.t 15)⟩]) (
     .cond (.t 16) (
      .seq (.reg [⟨(some 17), none, .mov (.t 5)⟩, ⟨(some 4), none, .mov (.t 17)⟩]) (
      .ret)) (
      .skip))))) (
    .reg [⟨(some 18), none, .bin .add .int false (.t 8) (.c (.i .i64 1))⟩, ⟨(some 8), none, .mov (.t 18)⟩]))))))) (
  .seq (.reg [⟨(some 4), none, .mov (.c (.i .i64 (-1)))⟩]) (
  .ret))),
 [.tmp 4]⟩
/- lodestar/serve.rows -/
noncomputable def a134 : F := ⟨27,
  .seq (.reg [⟨(some 1), none, .box (.t 0) 53⟩, ⟨(some 2), none, .mov (.c (.sl none 0 0))⟩, ⟨(some 3), none, .mov (.c (.b false))⟩]) (
  .seq (.reg [⟨(some 4), none, .mov (.c (.sl none 0 0))⟩]) (
  .seq (.seq (.reg [⟨(some 7), none, .fa 4 (.t 1)⟩, ⟨(some 8), none, .load none (.t 7)⟩, ⟨(some 9), none, .call (.b .lenV) [(.t 8)]⟩, ⟨(some 10), none, .mov (.c (.i .i64 0))⟩]) (
  .block 0 (.loop (
    .seq (.reg [⟨(some 11), none, .bin .lss .int false (.t 10) (.t 9)⟩]) (
    .seq (.cond (.t 11) (
     .skip) (
     .exit 0)) (
    .seq (.block 1 (.seq (.reg [⟨(some 12), none, .iaV 5 (.t 8) (.t 10)⟩, ⟨(some 13), none, .load (some 5) (.t 12)⟩, ⟨(some 6), none, .new [(.i .i64 0), (.i .i64 0), (.s []), (.sl none 0 0), (.sl none 0 0)] 53⟩, ⟨none, none, .store 5 (.t 6) (.t 13)⟩]) (
     .seq (.seq (.reg [⟨(some 14), none, .fa 0 (.t 6)⟩, ⟨(some 15), none, .load none (.t 14)⟩, ⟨(some 16), none, .bin .neq .int false (.t 15) (.c (.i .i64 3))⟩]) (
     .cond (.t 16) (
      .seq (.reg [⟨(some 2), none, .mov (.c (.sl none 0 0))⟩, ⟨(some 3), none, .mov (.c (.b false))⟩]) (
      .ret)) (
      .skip))) (
     .reg [⟨(some 17), none, .mov (.t 4)⟩, ⟨(some 18), none, .fa 1 (.t 6)⟩, ⟨(some 19), none, .load none (.t 18)⟩, ⟨(some 20), none, .buildS [(.i .i64 0)] 1 [(0, 1, (.t 19))] 3⟩, ⟨(some 21), none, .call (.b (.append 1 8 3)) [(.t 17), (.t 20)]⟩, ⟨(some 4), none, .mov (.t 21)⟩])))) (
    .reg [⟨(some 22), none, .bin .add .int false (.t 10) (.c (.i .i64 1))⟩, ⟨(some 10), none, .mov (.t 22)⟩]))))))) (
  .seq (.dreg [[.fl ⟨(some 23), none, .mov (.t 4)⟩ 0, .fl ⟨(some 24), none, .fa 0 (.t 1)⟩ 0, .fl ⟨(some 25), none, .load none (.t 24)⟩ 0, .fl ⟨(some 26), none, .bin .eql .int false (.t 25) (.c (.i .i64 5))⟩ 0, .an ⟨(some 2), none, .mov (.t 23)⟩ [⟨(some 25), none, .load none (.t 24)⟩], .an ⟨(some 3), none, .mov (.t 26)⟩ []]] 0) (
  .ret)))),
 [.tmp 2, .tmp 3]⟩
/- lodestar/serve.value -/
noncomputable def a135 : F := ⟨22,
  .seq (.reg [⟨(some 1), none, .box (.t 0) 53⟩, ⟨(some 2), none, .new [(.i .i64 0), (.i .i64 0), (.s [])] 78⟩, ⟨(some 3), none, .mov (.c (.b false))⟩]) (
  .seq (.seq (.reg [⟨(some 4), none, .fa 0 (.t 1)⟩, ⟨(some 5), none, .load none (.t 4)⟩]) (
  .block 0 (.seq (.reg [⟨(some 7), none, .bin .eql .int false (.t 5) (.c (.i .i64 3))⟩, ⟨(some 6), none, .mov (.t 7)⟩]) (
   .cond (.t 6) (
    .seq (.reg [⟨(some 8), none, .fa 1 (.t 1)⟩, ⟨(some 9), none, .load none (.t 8)⟩, ⟨(some 10), none, .build [(.i .i64 0), (.i .i64 0), (.s [])] [(0, 1, (.c (.i .i64 1))), (1, 1, (.t 9))]⟩, ⟨none, none, .store 3 (.t 2) (.t 10)⟩, ⟨(some 3), none, .mov (.c (.b true))⟩]) (
    .ret)) (
    .seq (.reg [⟨(some 12), none, .bin .eql .int false (.t 5) (.c (.i .i64 4))⟩, ⟨(some 11), none, .mov (.t 12)⟩]) (
    .cond (.t 11) (
     .seq (.reg [⟨(some 13), none, .fa 2 (.t 1)⟩, ⟨(some 14), none, .load none (.t 13)⟩, ⟨(some 15), none, .build [(.i .i64 0), (.i .i64 0), (.s [])] [(0, 1, (.c (.i .i64 2))), (2, 1, (.t 14))]⟩, ⟨none, none, .store 3 (.t 2) (.t 15)⟩, ⟨(some 3), none, .mov (.c (.b true))⟩]) (
     .ret)) (
     .seq (.reg [⟨(some 17), none, .bin .eql .int false (.t 5) (.c (.i .i64 2))⟩, ⟨(some 16), none, .mov (.t 17)⟩]) (
     .cond (.t 16) (
      .seq (.reg [⟨(some 18), none, .fa 1 (.t 1)⟩, ⟨(some 19), none, .load none (.t 18)⟩, ⟨(some 20), none, .build [(.i .i64 0), (.i .i64 0), (.s [])] [(0, 1, (.c (.i .i64 3))), (1, 1, (.t 19))]⟩, ⟨none, none, .store 3 (.t 2) (.t 20)⟩, ⟨(some 3), none, .mov (.c (.b true))⟩]) (
      .ret)) (
      .skip))))))))) (
  .seq (.reg [⟨(some 21), none, .build [(.i .i64 0), (.i .i64 0), (.s [])] []⟩, ⟨none, none, .store 3 (.t 2) (.t 21)⟩, ⟨(some 3), none, .mov (.c (.b false))⟩]) (
  .ret))),
 [.cell 2 (some 3), .tmp 3]⟩
/- slices.SortFunc[[]lodestar/api.Vec,lodestar/api.Vec] -/
noncomputable def a136 : F := ⟨14,
  .seq (.reg [⟨(some 5), none, .mov (.t 0)⟩, ⟨(some 6), none, .call (.b .lenV) [(.t 5)]⟩, ⟨(some 4), none, .mov (.t 6)⟩]) (
  .reg [⟨(some 7), none, .mov (.t 0)⟩, ⟨(some 8), none, .mov (.t 4)⟩, ⟨(some 9), none, .mov (.t 4)⟩, ⟨(some 10), none, .conv (.int .u64) (.t 9)⟩, ⟨(some 11), none, .call (.v (.c (.fn (.func 199) [] []))) [(.t 10)]⟩, ⟨(some 12), none, .mov (.t 1)⟩, ⟨(some 13), none, .call (.v (.c (.fn (.func 222) [] []))) [(.t 7), (.c (.i .i64 0)), (.t 8), (.t 11), (.t 12)]⟩]),
 []⟩
/- strings.Compare -/
noncomputable def a138 : F := ⟨8,
  .seq (.reg [⟨(some 4), none, .mov (.c (.i .i64 0))⟩]) (
  .seq (.reg [⟨(some 5), none, .mov (.t 0)⟩, ⟨(some 6), none, .mov (.t 1)⟩, ⟨(some 7), none, .call (.v (.c (.fn (.func 223) [] []))) [(.t 5), (.t 6)]⟩, ⟨(some 4), none, .mov (.t 7)⟩]) (
  .ret)),
 [.tmp 4]⟩
/- slices.SortFunc[[]lodestar/api.Field,lodestar/api.Field] -/
noncomputable def a139 : F := ⟨14,
  .seq (.reg [⟨(some 5), none, .mov (.t 0)⟩, ⟨(some 6), none, .call (.b .lenV) [(.t 5)]⟩, ⟨(some 4), none, .mov (.t 6)⟩]) (
  .reg [⟨(some 7), none, .mov (.t 0)⟩, ⟨(some 8), none, .mov (.t 4)⟩, ⟨(some 9), none, .mov (.t 4)⟩, ⟨(some 10), none, .conv (.int .u64) (.t 9)⟩, ⟨(some 11), none, .call (.v (.c (.fn (.func 199) [] []))) [(.t 10)]⟩, ⟨(some 12), none, .mov (.t 1)⟩, ⟨(some 13), none, .call (.v (.c (.fn (.func 224) [] []))) [(.t 7), (.c (.i .i64 0)), (.t 8), (.t 11), (.t 12)]⟩]),
 []⟩
/- lodestar/serve.point$2 -/
noncomputable def a140 : F := ⟨10,
  .seq (.reg [⟨(some 2), none, .box (.t 0) 117⟩, ⟨(some 3), none, .box (.t 1) 117⟩, ⟨(some 4), none, .mov (.c (.i .i64 0))⟩]) (
  .seq (.reg [⟨(some 5), none, .fa 0 (.t 2)⟩, ⟨(some 6), none, .load none (.t 5)⟩, ⟨(some 7), none, .fa 0 (.t 3)⟩, ⟨(some 8), none, .load none (.t 7)⟩, ⟨(some 9), none, .call (.v (.c (.fn (.func 138) [] []))) [(.t 6), (.t 8)]⟩, ⟨(some 4), none, .mov (.t 9)⟩]) (
  .ret)),
 [.tmp 4]⟩
/- lodestar/json.may -/
noncomputable def a141 : F := ⟨144,
  .seq (.reg [⟨(some 1), none, .box (.t 0) 53⟩, ⟨(some 2), none, .mov (.c (.b false))⟩]) (
  .seq (.dreg [[.fl ⟨(some 11), none, .fa 2 (.t 1)⟩ 0, .fl ⟨(some 12), none, .load none (.t 11)⟩ 0, .fl ⟨(some 13), none, .bin .eql .str false (.t 12) (.c (.s []))⟩ 0, .fl ⟨(some 14), none, .fa 1 (.t 1)⟩ 0, .fl ⟨(some 15), none, .load none (.t 14)⟩ 0, .fl ⟨(some 16), none, .bin .eql .int false (.t 15) (.c (.i .i64 0))⟩ 0, .fl ⟨(some 17), none, .fa 3 (.t 1)⟩ 0, .fl ⟨(some 18), none, .load none (.t 17)⟩ 0, .fl ⟨(some 19), none, .call (.b .lenV) [(.t 18)]⟩ 0, .fl ⟨(some 20), none, .bin .eql .int false (.t 19) (.c (.i .i64 0))⟩ 0, .fl ⟨(some 21), none, .fa 4 (.t 1)⟩ 0, .fl ⟨(some 22), none, .load none (.t 21)⟩ 0, .fl ⟨(some 23), none, .call (.b .lenV) [(.t 22)]⟩ 0, .fl ⟨(some 24), none, .bin .eql .int false (.t 23) (.c (.i .i64 0))⟩ 0, .an ⟨(some 3), none, .mov (.t 13)⟩ [⟨(some 15), none, .load none (.t 14)⟩, ⟨(some 18), none, .load none (.t 17)⟩, ⟨(some 22), none, .load none (.t 21)⟩], .an ⟨(some 4), none, .mov (.t 16)⟩ [⟨(some 18), none, .load none (.t 17)⟩, ⟨(some 22), none, .load none (.t 21)⟩], .an ⟨(some 5), none, .mov (.t 20)⟩ [⟨(some 22), none, .load none (.t 21)⟩], .an ⟨(some 6), none, .mov (.t 24)⟩ []]] 0) (
  .seq (.reg [⟨(some 7), none, .mov (.c (.b false))⟩]) (
  .seq (.seq (.reg [⟨(some 25), none, .fa 0 (.t 1)⟩, ⟨(some 26), none, .load none (.t 25)⟩]) (
  .block 0 (.seq (.reg [⟨(some 28), none, .bin .eql .int false (.t 26) (.c (.i .i64 1))⟩, ⟨(some 27), none, .mov (.t 28)⟩]) (
   .cond (.t 27) (
    .reg [⟨(some 29), none, .mov (.t 3)⟩, ⟨(some 30), none, .mov (.t 29)⟩, ⟨(some 31), (some (30, true)), .mov (.t 4)⟩, ⟨(some 32), none, .pick (.t 30) (.t 31) (.c (.b false))⟩, ⟨(some 33), none, .mov (.t 32)⟩, ⟨(some 34), (some (33, true)), .mov (.t 5)⟩, ⟨(some 35), none, .pick (.t 33) (.t 34) (.c (.b false))⟩, ⟨(some 36), none, .mov (.t 35)⟩, ⟨(some 37), (some (36, true)), .mov (.t 6)⟩, ⟨(some 38), none, .pick (.t 36) (.t 37) (.c (.b false))⟩, ⟨(some 7), none, .mov (.t 38)⟩]) (
    .seq (.reg [⟨(some 40), none, .bin .eql .int false (.t 26) (.c (.i .i64 2))⟩, ⟨(some 39), none, .mov (.t 40)⟩]) (
    .cond (.t 39) (
     .reg [⟨(some 41), none, .mov (.t 3)⟩, ⟨(some 42), none, .mov (.t 41)⟩, ⟨(some 43), (some (42, true)), .mov (.t 5)⟩, ⟨(some 44), none, .pick (.t 42) (.t 43) (.c (.b false))⟩, ⟨(some 45), none, .mov (.t 44)⟩, ⟨(some 46), (some (45, true)), .mov (.t 6)⟩, ⟨(some 47), none, .pick (.t 45) (.t 46) (.c (.b false))⟩, ⟨(some 48), none, .mov (.t 47)⟩, ⟨(some 49), (some (48, true)), .fa 1 (.t 1)⟩, ⟨(some 50), (some (48, true)), .load none (.t 49)⟩, ⟨(some 51), (some (48, true)), .bin .eql .int false (.t 50) (.c (.i .i64 0))⟩, ⟨(some 52), (some (48, true)), .mov (.t 51)⟩, ⟨(some 53), (some (52, false)), .fa 1 (.t 1)⟩, ⟨(some 54), (some (52, false)), .load none (.t 53)⟩, ⟨(some 55), (some (52, false)), .bin .eql .int false (.t 54) (.c (.i .i64 1))⟩, ⟨(some 56), (some (48, true)), .pick (.t 52) (.c (.b true)) (.t 55)⟩, ⟨(some 57), none, .pick (.t 48) (.t 56) (.c (.b false))⟩, ⟨(some 7), none, .mov (.t 57)⟩]) (
     .seq (.reg [⟨(some 59), none, .bin .eql .int false (.t 26) (.c (.i .i64 3))⟩, ⟨(some 58), none, .mov (.t 59)⟩]) (
     .cond (.t 58) (
      .reg [⟨(some 60), none, .mov (.t 3)⟩, ⟨(some 61), none, .mov (.t 60)⟩, ⟨(some 62), (some (61, true)), .mov (.t 5)⟩, ⟨(some 63), none, .pick (.t 61) (.t 62) (.c (.b false))⟩, ⟨(some 64), none, .mov (.t 63)⟩, ⟨(some 65), (some (64, true)), .mov (.t 6)⟩, ⟨(some 66), none, .pick (.t 64) (.t 65) (.c (.b false))⟩, ⟨(some 67), none, .mov (.t 66)⟩, ⟨(some 68), (some (67, true)), .fa 1 (.t 1)⟩, ⟨(some 69), (some (67, true)), .load none (.t 68)⟩, ⟨(some 70), (some (67, true)), .bin .geq .int false (.t 69) (.c (.i .i64 (-9007199254740991)))⟩, ⟨(some 71), none, .pick (.t 67) (.t 70) (.c (.b false))⟩, ⟨(some 72), none, .mov (.t 71)⟩, ⟨(some 73), (some (72, true)), .fa 1 (.t 1)⟩, ⟨(some 74), (some (72, true)), .load none (.t 73)⟩, ⟨(some 75), (some (72, true)), .bin .leq .int false (.t 74) (.c (.i .i64 9007199254740991))⟩, ⟨(some 76), none, .pick (.t 72) (.t 75) (.c (.b false))⟩, ⟨(some 7), none, .mov (.t 76)⟩]) (
      .seq (.reg [⟨(some 78), none, .bin .eql .int false (.t 26) (.c (.i .i64 4))⟩, ⟨(some 77), none, .mov (.t 78)⟩]) (
      .cond (.t 77) (
       .reg [⟨(some 79), none, .mov (.t 4)⟩, ⟨(some 80), none, .mov (.t 79)⟩, ⟨(some 81), (some (80, true)), .mov (.t 5)⟩, ⟨(some 82), none, .pick (.t 80) (.t 81) (.c (.b false))⟩, ⟨(some 83), none, .mov (.t 82)⟩, ⟨(some 84), (some (83, true)), .mov (.t 6)⟩, ⟨(some 85), none, .pick (.t 83) (.t 84) (.c (.b false))⟩, ⟨(some 86), none, .mov (.t 85)⟩, ⟨(some 87), (some (86, true)), .fa 2 (.t 1)⟩, ⟨(some 88), (some (86, true)), .load none (.t 87)⟩, ⟨(some 89), (some (86, true)), .call (.v (.c (.fn (.func 225) [] []))) [(.t 88)]⟩, ⟨(some 90), none, .pick (.t 86) (.t 89) (.c (.b false))⟩, ⟨(some 7), none, .mov (.t 90)⟩]) (
       .seq (.reg [⟨(some 92), none, .bin .eql .int false (.t 26) (.c (.i .i64 5))⟩, ⟨(some 91), none, .mov (.t 92)⟩]) (
       .cond (.t 91) (
        .reg [⟨(some 93), none, .mov (.t 3)⟩, ⟨(some 94), none, .mov (.t 93)⟩, ⟨(some 95), (some (94, true)), .mov (.t 4)⟩, ⟨(some 96), none, .pick (.t 94) (.t 95) (.c (.b false))⟩, ⟨(some 97), none, .mov (.t 96)⟩, ⟨(some 98), (some (97, true)), .mov (.t 5)⟩, ⟨(some 99), none, .pick (.t 97) (.t 98) (.c (.b false))⟩, ⟨(some 7), none, .mov (.t 99)⟩]) (
        .seq (.reg [⟨(some 101), none, .bin .eql .int false (.t 26) (.c (.i .i64 6))⟩, ⟨(some 100), none, .mov (.t 101)⟩]) (
        .cond (.t 100) (
         .seq (.reg [⟨(some 102), none, .mkM⟩, ⟨(some 8), none, .mov (.t 102)⟩]) (
         .seq (.seq (.reg [⟨(some 103), none, .fa 3 (.t 1)⟩, ⟨(some 104), none, .load none (.t 103)⟩, ⟨(some 105), none, .call (.b .lenV) [(.t 104)]⟩, ⟨(some 106), none, .mov (.c (.i .i64 0))⟩]) (
         .block 1 (.loop (
           .seq (.reg [⟨(some 107), none, .bin .lss .int false (.t 106) (.t 105)⟩]) (
           .seq (.cond (.t 107) (
            .skip) (
            .exit 1)) (
           .seq (.block 2 (.seq (.reg [⟨(some 108), none, .iaV 1 (.t 104) (.t 106)⟩, ⟨(some 109), none, .load none (.t 108)⟩, ⟨(some 10), none, .mov (.t 109)⟩]) (
            .seq (.seq (.reg [⟨(some 110), none, .mov (.t 10)⟩, ⟨(some 111), none, .call (.v (.c (.fn (.func 225) [] []))) [(.t 110)]⟩, ⟨(some 112), none, .un .not (.t 111)⟩]) (
            .cond (.t 112) (
             .seq (.reg [⟨(some 2), none, .mov (.c (.b false))⟩]) (
             .ret)) (
             .skip))) (
            .reg [⟨(some 113), none, .mov (.t 8)⟩, ⟨(some 114), none, .mov (.t 10)⟩, ⟨none, none, .mset .str (.t 113) (.t 114) (.c (.b true))⟩])))) (
           .reg [⟨(some 115), none, .bin .add .int false (.t 106) (.c (.i .i64 1))⟩, ⟨(some 106), none, .mov (.t 115)⟩]))))))) (
         .reg [⟨(some 116), none, .mov (.t 3)⟩, ⟨(some 117), none, .mov (.t 116)⟩, ⟨(some 118), (some (117, true)), .mov (.t 4)⟩, ⟨(some 119), none, .pick (.t 117) (.t 118) (.c (.b false))⟩, ⟨(some 120), none, .mov (.t 119)⟩, ⟨(some 121), (some (120, true)), .mov (.t 8)⟩, ⟨(some 122), (some (120, true)), .call (.b .lenM) [(.t 121)]⟩, ⟨(some 123), (some (120, true)), .fa 3 (.t 1)⟩, ⟨(some 124), (some (120, true)), .load none (.t 123)⟩, ⟨(some 125), (some (120, true)), .call (.b .lenV) [(.t 124)]⟩, ⟨(some 126), (some (120, true)), .bin .eql .int false (.t 122) (.t 125)⟩, ⟨(some 127), none, .pick (.t 120) (.t 126) (.c (.b false))⟩, ⟨(some 128), none, .mov (.t 127)⟩, ⟨(some 129), (some (128, true)), .fa 4 (.t 1)⟩, ⟨(some 130), (some (128, true)), .load none (.t 129)⟩, ⟨(some 131), (some (128, true)), .call (.b .lenV) [(.t 130)]⟩, ⟨(some 132), (some (128, true)), .fa 3 (.t 1)⟩, ⟨(some 133), (some (128, true)), .load none (.t 132)⟩, ⟨(some 134), (some (128, true)), .call (.b .lenV) [(.t 133)]⟩, ⟨(some 135), (some (128, true)), .bin .eql .int false (.t 131) (.t 134)⟩, ⟨(some 136), none, .pick (.t 128) (.t 135) (.c (.b false))⟩, ⟨(some 7), none, .mov (.t 136)⟩]))) (
         .skip))))))))))))))) (
  .seq (.reg [⟨(some 137), none, .mov (.t 7)⟩, ⟨(some 138), none, .mov (.t 137)⟩, ⟨(some 139), (some (138, true)), .fa 4 (.t 1)⟩, ⟨(some 140), (some (138, true)), .load none (.t 139)⟩, ⟨(some 141), (some (138, true)), .call (.v (.c (.fn (.func 226) [] []))) [(.t 140), (.c (.fn (.func 227) [] []))]⟩, ⟨(some 142), (some (138, true)), .un .not (.t 141)⟩, ⟨(some 143), none, .pick (.t 138) (.t 142) (.c (.b false))⟩, ⟨(some 2), none, .mov (.t 143)⟩]) (
  .ret))))),
 [.tmp 2]⟩
/- lodestar/json.depth -/
noncomputable def a142 : F := ⟨20,
  .seq (.reg [⟨(some 1), none, .box (.t 0) 53⟩, ⟨(some 2), none, .mov (.c (.i .i64 0))⟩]) (
  .seq (.reg [⟨(some 3), none, .mov (.c (.i .i64 0))⟩]) (
  .seq (.seq (.reg [⟨(some 6), none, .fa 4 (.t 1)⟩, ⟨(some 7), none, .load none (.t 6)⟩, ⟨(some 8), none, .call (.b .lenV) [(.t 7)]⟩, ⟨(some 9), none, .mov (.c (.i .i64 0))⟩]) (
  .block 0 (.loop (
    .seq (.reg [⟨(some 10), none, .bin .lss .int false (.t 9) (.t 8)⟩]) (
    .seq (.cond (.t 10) (
     .skip) (
     .exit 0)) (
    .seq (.block 1 (.seq (.reg [⟨(some 11), none, .iaV 5 (.t 7) (.t 9)⟩, ⟨(some 12), none, .load (some 5) (.t 11)⟩, ⟨(some 5), none, .new [(.i .i64 0), (.i .i64 0), (.s []), (.sl none 0 0), (.sl none 0 0)] 53⟩, ⟨none, none, .store 5 (.t 5) (.t 12)⟩]) (
     .reg [⟨(some 13), none, .mov (.t 3)⟩, ⟨(some 14), none, .load (some 5) (.t 5)⟩, ⟨(some 15), none, .call (.v (.c (.fn (.func 142) [] []))) [(.t 14)]⟩, ⟨(some 16), none, .call (.b .max) [(.t 13), (.t 15)]⟩, ⟨(some 3), none, .mov (.t 16)⟩]))) (
    .reg [⟨(some 17), none, .bin .add .int false (.t 9) (.c (.i .i64 1))⟩, ⟨(some 9), none, .mov (.t 17)⟩]))))))) (
  .seq (.reg [⟨(some 18), none, .mov (.t 3)⟩, ⟨(some 19), none, .bin .add .int false (.t 18) (.c (.i .i64 1))⟩, ⟨(some 2), none, .mov (.t 19)⟩]) (
  .ret)))),
 [.tmp 2]⟩
/- lodestar/payload.shape -/
noncomputable def a143 : F := ⟨41,
  .seq (.reg [⟨(some 1), none, .box (.t 0) 45⟩, ⟨(some 2), none, .mov (.c (.b false))⟩]) (
  .seq (.reg [⟨(some 3), none, .fa 0 (.t 1)⟩, ⟨(some 4), none, .load none (.t 3)⟩, ⟨(some 5), none, .bin .geq .int false (.t 4) (.c (.i .i64 1))⟩, ⟨(some 6), none, .mov (.t 5)⟩, ⟨(some 7), (some (6, true)), .fa 0 (.t 1)⟩, ⟨(some 8), (some (6, true)), .load none (.t 7)⟩, ⟨(some 9), (some (6, true)), .bin .leq .int false (.t 8) (.c (.i .i64 4503599627370496))⟩, ⟨(some 10), none, .pick (.t 6) (.t 9) (.c (.b false))⟩, ⟨(some 11), none, .mov (.t 10)⟩, ⟨(some 12), (some (11, true)), .fa 1 (.t 1)⟩, ⟨(some 13), (some (11, true)), .load none (.t 12)⟩, ⟨(some 14), (some (11, true)), .call (.b .lenV) [(.t 13)]⟩, ⟨(some 15), (some (11, true)), .bin .geq .int false (.t 14) (.c (.i .i64 1))⟩, ⟨(some 16), none, .pick (.t 11) (.t 15) (.c (.b false))⟩, ⟨(some 17), none, .mov (.t 16)⟩, ⟨(some 18), (some (17, true)), .fa 1 (.t 1)⟩, ⟨(some 19), (some (17, true)), .load none (.t 18)⟩, ⟨(some 20), (some (17, true)), .call (.b .lenV) [(.t 19)]⟩, ⟨(some 21), (some (17, true)), .bin .leq .int false (.t 20) (.c (.i .i64 4))⟩, ⟨(some 22), none, .pick (.t 17) (.t 21) (.c (.b false))⟩, ⟨(some 23), none, .mov (.t 22)⟩, ⟨(some 24), (some (23, true)), .fa 2 (.t 1)⟩, ⟨(some 25), (some (23, true)), .load none (.t 24)⟩, ⟨(some 26), (some (23, true)), .call (.b .lenV) [(.t 25)]⟩, ⟨(some 27), (some (23, true)), .bin .leq .int false (.t 26) (.c (.i .i64 16))⟩, ⟨(some 28), none, .pick (.t 23) (.t 27) (.c (.b false))⟩, ⟨(some 29), none, .mov (.t 28)⟩, ⟨(some 30), (some (29, true)), .fa 1 (.t 1)⟩, ⟨(some 31), (some (29, true)), .load none (.t 30)⟩, ⟨(some 32), (some (29, true)), .call (.v (.c (.fn (.func 228) [] []))) [(.t 31), (.c (.fn (.func 229) [] []))]⟩, ⟨(some 33), (some (29, true)), .call (.v (.c (.fn (.func 201) [] []))) [(.t 32)]⟩, ⟨(some 34), none, .pick (.t 29) (.t 33) (.c (.b false))⟩, ⟨(some 35), none, .mov (.t 34)⟩, ⟨(some 36), (some (35, true)), .fa 2 (.t 1)⟩, ⟨(some 37), (some (35, true)), .load none (.t 36)⟩, ⟨(some 38), (some (35, true)), .call (.v (.c (.fn (.func 230) [] []))) [(.t 37), (.c (.fn (.func 231) [] []))]⟩, ⟨(some 39), (some (35, true)), .call (.v (.c (.fn (.func 201) [] []))) [(.t 38)]⟩, ⟨(some 40), none, .pick (.t 35) (.t 39) (.c (.b false))⟩, ⟨(some 2), none, .mov (.t 40)⟩]) (
  .ret)),
 [.tmp 2]⟩
/- lodestar/payload.fits -/
noncomputable def a144 : F := ⟨42,
  .seq (.reg [⟨(some 2), none, .box (.t 0) 30⟩, ⟨(some 3), none, .box (.t 1) 115⟩, ⟨(some 4), none, .mov (.c (.b false))⟩]) (
  .seq (.reg [⟨(some 6), none, .fa 0 (.t 2)⟩, ⟨(some 7), none, .load none (.t 6)⟩, ⟨(some 8), none, .mkF (.func 233) [] [(.t 3)]⟩, ⟨(some 9), none, .call (.v (.c (.fn (.func 232) [] []))) [(.t 7), (.t 8)]⟩, ⟨(some 5), none, .mov (.t 9)⟩]) (
  .seq (.seq (.dreg [[.fl ⟨(some 10), none, .mov (.t 5)⟩ 0, .fl ⟨(some 11), none, .bin .lss .int false (.t 10) (.c (.i .i64 0))⟩ 0, .fl ⟨(some 12), none, .mov (.t 11)⟩ 0, .fl ⟨(some 13), (some (12, false)), .fa 1 (.t 3)⟩ 0, .fl ⟨(some 14), (some (12, false)), .load none (.t 13)⟩ 0, .fl ⟨(some 15), (some (12, false)), .call (.b .lenV) [(.t 14)]⟩ 0, .fl ⟨(some 16), (some (12, false)), .fa 0 (.t 2)⟩ 0, .fl ⟨(some 17), (some (12, false)), .load none (.t 16)⟩ 0, .fl ⟨(some 18), (some (12, false)), .mov (.t 5)⟩ 0, .fl ⟨(some 19), (some (12, false)), .iaV 3 (.t 17) (.t 18)⟩ 0, .fl ⟨(some 20), (some (12, false)), .fa 1 (.t 19)⟩ 0, .fl ⟨(some 21), (some (12, false)), .load none (.t 20)⟩ 0, .fl ⟨(some 22), (some (12, false)), .bin .neq .int false (.t 15) (.t 21)⟩ 0, .fl ⟨(some 23), none, .pick (.t 12) (.c (.b true)) (.t 22)⟩ 0, .fl ⟨(some 24), none, .mov (.t 23)⟩ 0, .fl ⟨(some 25), (some (24, false)), .fa 1 (.t 3)⟩ 0, .fl ⟨(some 26), (some (24, false)), .load none (.t 25)⟩ 0, .an ⟨(some 27), (some (24, false)), .call (.v (.c (.fn (.func 234) [] []))) [(.t 26)]⟩ [], .fl ⟨(some 28), (some (24, false)), .un .not (.t 27)⟩ 0, .fl ⟨(some 29), none, .pick (.t 24) (.c (.b true)) (.t 28)⟩ 0]] 0) (
  .cond (.t 29) (
   .seq (.reg [⟨(some 4), none, .mov (.c (.b false))⟩]) (
   .ret)) (
   .skip))) (
  .seq (.reg [⟨(some 30), none, .fa 0 (.t 2)⟩, ⟨(some 31), none, .load none (.t 30)⟩, ⟨(some 32), none, .mov (.t 5)⟩, ⟨(some 33), none, .iaV 3 (.t 31) (.t 32)⟩, ⟨(some 34), none, .fa 2 (.t 33)⟩, ⟨(some 35), none, .load none (.t 34)⟩, ⟨(some 36), none, .bin .neq .int false (.t 35) (.c (.i .i64 3))⟩, ⟨(some 37), none, .mov (.t 36)⟩, ⟨(some 38), (some (37, false)), .fa 1 (.t 3)⟩, ⟨(some 39), (some (37, false)), .load none (.t 38)⟩, ⟨(some 40), (some (37, false)), .call (.v (.c (.fn (.func 235) [] []))) [(.t 39), (.c (.fn (.func 236) [] []))]⟩, ⟨(some 41), none, .pick (.t 37) (.c (.b true)) (.t 40)⟩, ⟨(some 4), none, .mov (.t 41)⟩]) (
  .ret)))),
 [.tmp 4]⟩
/- slices.Contains[[]lodestar/api.FieldSpec,lodestar/api.FieldSpec] -/
noncomputable def a145 : F := ⟨9,
  .seq (.reg [⟨(some 3), none, .box (.t 1) 62⟩, ⟨(some 4), none, .mov (.c (.b false))⟩]) (
  .seq (.reg [⟨(some 5), none, .mov (.t 0)⟩, ⟨(some 6), none, .load (some 2) (.t 3)⟩, ⟨(some 7), none, .call (.v (.c (.fn (.func 237) [] []))) [(.t 5), (.t 6)]⟩, ⟨(some 8), none, .bin .geq .int false (.t 7) (.c (.i .i64 0))⟩, ⟨(some 4), none, .mov (.t 8)⟩]) (
  .ret)),
 [.tmp 4]⟩
/- lodestar/payload.value -/
noncomputable def a146 : F := ⟨51,
  .seq (.reg [⟨(some 1), none, .box (.t 0) 78⟩, ⟨(some 2), none, .mov (.c (.b false))⟩]) (
  .seq (.seq (.reg [⟨(some 3), none, .fa 0 (.t 1)⟩, ⟨(some 4), none, .load none (.t 3)⟩]) (
  .block 0 (.seq (.reg [⟨(some 6), none, .bin .eql .int false (.t 4) (.c (.i .i64 1))⟩, ⟨(some 5), none, .mov (.t 6)⟩]) (
   .cond (.t 5) (
    .seq (.reg [⟨(some 7), none, .fa 2 (.t 1)⟩, ⟨(some 8), none, .load none (.t 7)⟩, ⟨(some 9), none, .bin .eql .str false (.t 8) (.c (.s []))⟩, ⟨(some 10), none, .mov (.t 9)⟩, ⟨(some 11), (some (10, true)), .fa 1 (.t 1)⟩, ⟨(some 12), (some (10, true)), .load none (.t 11)⟩, ⟨(some 13), (some (10, true)), .bin .geq .int false (.t 12) (.c (.i .i64 (-4503599627370496)))⟩, ⟨(some 14), none, .pick (.t 10) (.t 13) (.c (.b false))⟩, ⟨(some 15), none, .mov (.t 14)⟩, ⟨(some 16), (some (15, true)), .fa 1 (.t 1)⟩, ⟨(some 17), (some (15, true)), .load none (.t 16)⟩, ⟨(some 18), (some (15, true)), .bin .leq .int false (.t 17) (.c (.i .i64 4503599627370496))⟩, ⟨(some 19), none, .pick (.t 15) (.t 18) (.c (.b false))⟩, ⟨(some 2), none, .mov (.t 19)⟩]) (
    .ret)) (
    .seq (.reg [⟨(some 21), none, .bin .eql .int false (.t 4) (.c (.i .i64 2))⟩, ⟨(some 20), none, .mov (.t 21)⟩]) (
    .cond (.t 20) (
     .seq (.reg [⟨(some 22), none, .fa 1 (.t 1)⟩, ⟨(some 23), none, .load none (.t 22)⟩, ⟨(some 24), none, .bin .eql .int false (.t 23) (.c (.i .i64 0))⟩, ⟨(some 25), none, .mov (.t 24)⟩, ⟨(some 26), (some (25, true)), .fa 2 (.t 1)⟩, ⟨(some 27), (some (25, true)), .load none (.t 26)⟩, ⟨(some 28), (some (25, true)), .call (.b .lenS) [(.t 27)]⟩, ⟨(some 29), (some (25, true)), .bin .leq .int false (.t 28) (.c (.i .i64 256))⟩, ⟨(some 30), none, .pick (.t 25) (.t 29) (.c (.b false))⟩, ⟨(some 31), none, .mov (.t 30)⟩, ⟨(some 32), (some (31, true)), .fa 2 (.t 1)⟩, ⟨(some 33), (some (31, true)), .load none (.t 32)⟩, ⟨(some 34), (some (31, true)), .call (.v (.c (.fn (.func 225) [] []))) [(.t 33)]⟩, ⟨(some 35), none, .pick (.t 31) (.t 34) (.c (.b false))⟩, ⟨(some 2), none, .mov (.t 35)⟩]) (
     .ret)) (
     .seq (.reg [⟨(some 37), none, .bin .eql .int false (.t 4) (.c (.i .i64 3))⟩, ⟨(some 36), none, .mov (.t 37)⟩]) (
     .cond (.t 36) (
      .seq (.reg [⟨(some 38), none, .fa 2 (.t 1)⟩, ⟨(some 39), none, .load none (.t 38)⟩, ⟨(some 40), none, .bin .eql .str false (.t 39) (.c (.s []))⟩, ⟨(some 41), none, .mov (.t 40)⟩, ⟨(some 42), (some (41, true)), .fa 1 (.t 1)⟩, ⟨(some 43), (some (41, true)), .load none (.t 42)⟩, ⟨(some 44), (some (41, true)), .bin .eql .int false (.t 43) (.c (.i .i64 0))⟩, ⟨(some 45), (some (41, true)), .mov (.t 44)⟩, ⟨(some 46), (some (45, false)), .fa 1 (.t 1)⟩, ⟨(some 47), (some (45, false)), .load none (.t 46)⟩, ⟨(some 48), (some (45, false)), .bin .eql .int false (.t 47) (.c (.i .i64 1))⟩, ⟨(some 49), (some (41, true)), .pick (.t 45) (.c (.b true)) (.t 48)⟩, ⟨(some 50), none, .pick (.t 41) (.t 49) (.c (.b false))⟩, ⟨(some 2), none, .mov (.t 50)⟩]) (
      .ret)) (
      .skip))))))))) (
  .seq (.reg [⟨(some 2), none, .mov (.c (.b false))⟩]) (
  .ret))),
 [.tmp 2]⟩
/- (*strings.Builder).WriteString -/
noncomputable def a173 : F := ⟨19,
  .seq (.reg [⟨(some 4), none, .mov (.c (.i .i64 0))⟩, ⟨(some 5), none, .mov (.c .ni)⟩]) (
  .seq (.reg [⟨(some 6), none, .mov (.t 0)⟩, ⟨(some 7), none, .call (.v (.c (.fn (.func 281) [] []))) [(.t 6)]⟩]) (
  .seq (.reg [⟨(some 8), none, .mov (.t 0)⟩, ⟨(some 9), none, .mov (.t 0)⟩, ⟨(some 10), none, .nilc (.t 9)⟩, ⟨(some 11), none, .fa 1 (.t 10)⟩, ⟨(some 12), none, .load none (.t 11)⟩, ⟨(some 13), none, .mov (.t 1)⟩, ⟨(some 14), none, .call (.b (.append 1 1 5)) [(.t 12), (.t 13)]⟩, ⟨(some 15), none, .nilc (.t 8)⟩, ⟨(some 16), none, .fa 1 (.t 15)⟩, ⟨none, none, .store 1 (.t 16) (.t 14)⟩]) (
  .seq (.reg [⟨(some 17), none, .mov (.t 1)⟩, ⟨(some 18), none, .call (.b .lenS) [(.t 17)]⟩, ⟨(some 4), none, .mov (.t 18)⟩, ⟨(some 5), none, .mov (.c .ni)⟩]) (
  .ret)))),
 [.tmp 4, .tmp 5]⟩
/- lodestar/json.quote -/
noncomputable def a175 : F := ⟨43,
  .seq (.reg [⟨(some 7), none, .mov (.t 0)⟩, ⟨(some 8), none, .call (.v (.c (.fn (.func 176) [] []))) [(.t 7), (.c (.i .u8 34))]⟩]) (
  .seq (.seq (.reg [⟨(some 9), none, .mov (.t 1)⟩, ⟨(some 10), none, .rngS (.t 9)⟩]) (
  .block 0 (.loop (
    .seq (.reg [⟨(some 11), none, .nxtS (.t 10)⟩, ⟨(some 12), none, .ext (.t 11) 0⟩]) (
    .seq (.cond (.t 12) (
     .skip) (
     .exit 0)) (
    .block 1 (.seq (.reg [⟨(some 13), none, .ext (.t 11) 2⟩, ⟨(some 5), none, .mov (.t 13)⟩]) (
     .seq (.reg [⟨(some 14), none, .mov (.t 5)⟩, ⟨(some 15), none, .call (.v (.c (.fn (.func 283) [] []))) [(.c (.s [34, 92, 8, 12, 10, 13, 9])), (.t 14)]⟩, ⟨(some 6), none, .mov (.t 15)⟩]) (
     .seq (.reg [⟨(some 16), none, .mov (.t 6)⟩, ⟨(some 17), none, .bin .geq .int false (.t 16) (.c (.i .i64 0))⟩]) (
     .cond (.t 17) (
      .seq (.reg [⟨(some 18), none, .mov (.t 0)⟩, ⟨(some 19), none, .call (.v (.c (.fn (.func 176) [] []))) [(.t 18), (.c (.i .u8 92))]⟩]) (
      .reg [⟨(some 20), none, .mov (.t 0)⟩, ⟨(some 21), none, .mov (.t 6)⟩, ⟨(some 22), none, .ixS (.c (.s [34, 92, 98, 102, 110, 114, 116])) (.t 21)⟩, ⟨(some 23), none, .call (.v (.c (.fn (.func 176) [] []))) [(.t 20), (.t 22)]⟩])) (
      .seq (.reg [⟨(some 24), none, .mov (.t 5)⟩, ⟨(some 25), none, .bin .lss .int false (.t 24) (.c (.i .i32 32))⟩]) (
      .cond (.t 25) (
       .seq (.reg [⟨(some 26), none, .mov (.t 0)⟩, ⟨(some 27), none, .call (.v (.c (.fn (.func 173) [] []))) [(.t 26), (.c (.s [92, 117, 48, 48]))]⟩]) (
       .seq (.reg [⟨(some 28), none, .mov (.t 0)⟩, ⟨(some 29), none, .mov (.t 5)⟩, ⟨(some 30), none, .bin .shr .int false (.t 29) (.c (.i .u64 4))⟩, ⟨(some 31), none, .ixS (.c (.s [48, 49, 50, 51, 52, 53, 54, 55, 56, 57, 97, 98, 99, 100, 101, 102])) (.t 30)⟩, ⟨(some 32), none, .call (.v (.c (.fn (.func 176) [] []))) [(.t 28), (.t 31)]⟩]) (
       .reg [⟨(some 33), none, .mov (.t 0)⟩, ⟨(some 34), none, .mov (.t 5)⟩, ⟨(some 35), none, .bin .and .int false (.t 34) (.c (.i .i32 15))⟩, ⟨(some 36), none, .ixS (.c (.s [48, 49, 50, 51, 52, 53, 54, 55, 56, 57, 97, 98, 99, 100, 101, 102])) (.t 35)⟩, ⟨(some 37), none, .call (.v (.c (.fn (.func 176) [] []))) [(.t 33), (.t 36)]⟩]))) (
       .reg [⟨(some 38), none, .mov (.t 0)⟩, ⟨(some 39), none, .mov (.t 5)⟩, ⟨(some 40), none, .call (.v (.c (.fn (.func 220) [] []))) [(.t 38), (.t 39)]⟩]))))))))))))) (
  .reg [⟨(some 41), none, .mov (.t 0)⟩, ⟨(some 42), none, .call (.v (.c (.fn (.func 176) [] []))) [(.t 41), (.c (.i .u8 34))]⟩])),
 []⟩
/- (*strings.Builder).WriteByte -/
noncomputable def a176 : F := ⟨17,
  .seq (.reg [⟨(some 4), none, .mov (.c .ni)⟩]) (
  .seq (.reg [⟨(some 5), none, .mov (.t 0)⟩, ⟨(some 6), none, .call (.v (.c (.fn (.func 281) [] []))) [(.t 5)]⟩]) (
  .seq (.reg [⟨(some 7), none, .mov (.t 0)⟩, ⟨(some 8), none, .mov (.t 0)⟩, ⟨(some 9), none, .nilc (.t 8)⟩, ⟨(some 10), none, .fa 1 (.t 9)⟩, ⟨(some 11), none, .load none (.t 10)⟩, ⟨(some 12), none, .mov (.t 1)⟩, ⟨(some 13), none, .buildS [(.i .u8 0)] 1 [(0, 1, (.t 12))] 5⟩, ⟨(some 14), none, .call (.b (.append 1 1 5)) [(.t 11), (.t 13)]⟩, ⟨(some 15), none, .nilc (.t 7)⟩, ⟨(some 16), none, .fa 1 (.t 15)⟩, ⟨none, none, .store 1 (.t 16) (.t 14)⟩]) (
  .seq (.reg [⟨(some 4), none, .mov (.c .ni)⟩]) (
  .ret)))),
 [.tmp 4]⟩
/- lodestar/wal.Frame -/
noncomputable def a177 : F := ⟨42,
  .seq (.reg [⟨(some 1), none, .box (.t 0) 122⟩, ⟨(some 2), none, .mov (.c (.s []))⟩, ⟨(some 3), none, .mov (.c (.i .i64 0))⟩]) (
  .seq (.seq (.reg [⟨(some 6), none, .fa 0 (.t 1)⟩, ⟨(some 7), none, .load none (.t 6)⟩, ⟨(some 8), none, .bin .lss .int false (.t 7) (.c (.i .i64 1))⟩, ⟨(some 9), none, .mov (.t 8)⟩, ⟨(some 10), (some (9, false)), .fa 0 (.t 1)⟩, ⟨(some 11), (some (9, false)), .load none (.t 10)⟩, ⟨(some 12), (some (9, false)), .bin .gtr .int false (.t 11) (.c (.i .i64 4503599627370496))⟩, ⟨(some 13), none, .pick (.t 9) (.c (.b true)) (.t 12)⟩, ⟨(some 14), none, .mov (.t 13)⟩, ⟨(some 15), (some (14, false)), .fa 1 (.t 1)⟩, ⟨(some 16), (some (14, false)), .load none (.t 15)⟩, ⟨(some 17), (some (14, false)), .call (.b .lenS) [(.t 16)]⟩, ⟨(some 18), (some (14, false)), .bin .gtr .int false (.t 17) (.c (.i .i64 16777216))⟩, ⟨(some 19), none, .pick (.t 14) (.c (.b true)) (.t 18)⟩]) (
  .cond (.t 19) (
   .seq (.reg [⟨(some 2), none, .mov (.c (.s []))⟩, ⟨(some 3), none, .mov (.c (.i .i64 1))⟩]) (
   .ret)) (
   .skip))) (
  .seq (.reg [⟨(some 20), none, .fa 0 (.t 1)⟩, ⟨(some 21), none, .load none (.t 20)⟩, ⟨(some 22), none, .call (.v (.c (.fn (.func 284) [] []))) [(.t 21), (.c (.i .i64 8))]⟩, ⟨(some 4), none, .mov (.t 22)⟩]) (
  .seq (.reg [⟨(some 23), none, .fa 1 (.t 1)⟩, ⟨(some 24), none, .load none (.t 23)⟩, ⟨(some 25), none, .call (.b .lenS) [(.t 24)]⟩, ⟨(some 26), none, .call (.v (.c (.fn (.func 284) [] []))) [(.t 25), (.c (.i .i64 4))]⟩, ⟨(some 27), none, .mov (.t 4)⟩, ⟨(some 28), none, .bin .add .str false (.t 26) (.t 27)⟩, ⟨(some 5), none, .mov (.t 28)⟩]) (
  .seq (.dreg [[.fl ⟨(some 29), none, .mov (.t 5)⟩ 0, .fl ⟨(some 30), none, .mov (.t 5)⟩ 0, .fl ⟨(some 33), none, .fa 1 (.t 1)⟩ 0, .fl ⟨(some 34), none, .load none (.t 33)⟩ 0, .fl ⟨(some 36), none, .mov (.t 4)⟩ 0, .fl ⟨(some 37), none, .fa 1 (.t 1)⟩ 0, .fl ⟨(some 38), none, .load none (.t 37)⟩ 0, .fl ⟨(some 39), none, .bin .add .str false (.t 36) (.t 38)⟩ 0, .an ⟨(some 31), none, .call (.v (.c (.fn (.func 285) [] []))) [(.t 30)]⟩ [⟨(some 34), none, .load none (.t 33)⟩, ⟨(some 38), none, .load none (.t 37)⟩], .fl ⟨(some 32), none, .bin .add .str false (.t 29) (.t 31)⟩ 0, .fl ⟨(some 35), none, .bin .add .str false (.t 32) (.t 34)⟩ 0, .an ⟨(some 40), none, .call (.v (.c (.fn (.func 285) [] []))) [(.t 39)]⟩ [⟨(some 34), none, .load none (.t 33)⟩], .fl ⟨(some 41), none, .bin .add .str false (.t 35) (.t 40)⟩ 0, .an ⟨(some 2), none, .mov (.t 41)⟩ [], .an ⟨(some 3), none, .mov (.c (.i .i64 0))⟩ []]] 0) (
  .ret))))),
 [.tmp 2, .tmp 3]⟩
/- (*lodestar/wal.Log).broke -/
noncomputable def a178 : F := ⟨17,
  .seq (.reg [⟨(some 4), none, .mov (.c (.i .i64 0))⟩]) (
  .seq (.reg [⟨(some 6), none, .mov (.t 1)⟩, ⟨(some 7), none, .call (.v (.c (.fn (.func 186) [] []))) [(.t 6)]⟩, ⟨(some 5), none, .mov (.t 7)⟩]) (
  .seq (.reg [⟨(some 8), none, .mov (.t 0)⟩, ⟨(some 9), none, .mov (.t 5)⟩, ⟨(some 10), none, .load none (.c (.p (some ⟨(.old 0), 0⟩)))⟩, ⟨(some 11), none, .call (.v (.c (.fn (.func 286) [] []))) [(.t 9), (.t 10)]⟩, ⟨(some 12), none, .un .not (.t 11)⟩, ⟨(some 13), none, .nilc (.t 8)⟩, ⟨(some 14), none, .fa 4 (.t 13)⟩, ⟨none, none, .store 1 (.t 14) (.t 12)⟩]) (
  .seq (.reg [⟨(some 15), none, .mov (.t 5)⟩, ⟨(some 16), none, .call (.v (.c (.fn (.func 184) [] []))) [(.t 15)]⟩, ⟨(some 4), none, .mov (.t 16)⟩]) (
  .ret)))),
 [.tmp 4]⟩
/- lodestar/num.Fix -/
noncomputable def a179 : F := ⟨43,
  .seq (.reg [⟨(some 4), none, .mov (.c (.s []))⟩, ⟨(some 5), none, .mov (.c (.i .i64 0))⟩]) (
  .seq (.seq (.reg [⟨(some 8), none, .mov (.t 1)⟩, ⟨(some 9), none, .bin .lss .int false (.t 8) (.c (.i .i64 1))⟩, ⟨(some 10), none, .mov (.t 9)⟩, ⟨(some 11), (some (10, false)), .mov (.t 1)⟩, ⟨(some 12), (some (10, false)), .bin .gtr .int false (.t 11) (.c (.i .i64 8))⟩, ⟨(some 13), none, .pick (.t 10) (.c (.b true)) (.t 12)⟩, ⟨(some 14), none, .mov (.t 13)⟩, ⟨(some 15), (some (14, false)), .mov (.t 1)⟩, ⟨(some 16), (some (14, false)), .bin .lss .int false (.t 15) (.c (.i .i64 8))⟩, ⟨(some 17), (some (14, false)), .mov (.t 16)⟩, ⟨(some 18), (some (17, true)), .mov (.t 0)⟩, ⟨(some 19), (some (17, true)), .mov (.t 1)⟩, ⟨(some 20), (some (17, true)), .bin .mul .int false (.c (.i .i64 8)) (.t 19)⟩, ⟨(some 21), (some (17, true)), .bin .shr .int false (.t 18) (.t 20)⟩, ⟨(some 22), (some (17, true)), .bin .neq .int false (.t 21) (.c (.i .u64 0))⟩, ⟨(some 23), (some (14, false)), .pick (.t 17) (.t 22) (.c (.b false))⟩, ⟨(some 24), none, .pick (.t 14) (.c (.b true)) (.t 23)⟩]) (
  .cond (.t 24) (
   .seq (.reg [⟨(some 4), none, .mov (.c (.s []))⟩, ⟨(some 5), none, .mov (.c (.i .i64 11))⟩]) (
   .ret)) (
   .skip))) (
  .seq (.reg [⟨(some 25), none, .mov (.t 1)⟩, ⟨(some 26), none, .mkS [(.i .u8 0)] 1 5 (.t 25) (.t 25)⟩, ⟨(some 6), none, .mov (.t 26)⟩]) (
  .seq (.seq (.reg [⟨(some 27), none, .mov (.t 6)⟩, ⟨(some 28), none, .call (.b .lenV) [(.t 27)]⟩, ⟨(some 29), none, .mov (.c (.i .i64 0))⟩]) (
  .block 0 (.loop (
    .seq (.reg [⟨(some 30), none, .bin .lss .int false (.t 29) (.t 28)⟩]) (
    .seq (.cond (.t 30) (
     .skip) (
     .exit 0)) (
    .seq (.block 1 (.seq (.reg [⟨(some 31), none, .mov (.t 29)⟩, ⟨(some 7), none, .mov (.t 31)⟩]) (
     .reg [⟨(some 32), none, .mov (.t 6)⟩, ⟨(some 33), none, .mov (.t 7)⟩, ⟨(some 34), none, .mov (.t 0)⟩, ⟨(some 35), none, .mov (.t 7)⟩, ⟨(some 36), none, .bin .mul .int false (.c (.i .i64 8)) (.t 35)⟩, ⟨(some 37), none, .bin .shr .int false (.t 34) (.t 36)⟩, ⟨(some 38), none, .conv (.int .u8) (.t 37)⟩, ⟨(some 39), none, .iaV 1 (.t 32) (.t 33)⟩, ⟨none, none, .store 1 (.t 39) (.t 38)⟩]))) (
    .reg [⟨(some 40), none, .bin .add .int false (.t 29) (.c (.i .i64 1))⟩, ⟨(some 29), none, .mov (.t 40)⟩]))))))) (
  .seq (.reg [⟨(some 41), none, .mov (.t 6)⟩, ⟨(some 42), none, .conv .bytesStr (.t 41)⟩, ⟨(some 4), none, .mov (.t 42)⟩, ⟨(some 5), none, .mov (.c (.i .i64 0))⟩]) (
  .ret))))),
 [.tmp 4, .tmp 5]⟩
/- lodestar/payload.may -/
noncomputable def a180 : F := ⟨36,
  .seq (.reg [⟨(some 1), none, .box (.t 0) 45⟩, ⟨(some 2), none, .mov (.c (.b false))⟩]) (
  .seq (.seq (.reg [⟨(some 5), none, .load (some 3) (.t 1)⟩, ⟨(some 6), none, .call (.v (.c (.fn (.func 143) [] []))) [(.t 5)]⟩, ⟨(some 7), none, .un .not (.t 6)⟩]) (
  .cond (.t 7) (
   .seq (.reg [⟨(some 2), none, .mov (.c (.b false))⟩]) (
   .ret)) (
   .skip))) (
  .seq (.seq (.reg [⟨(some 8), none, .fa 1 (.t 1)⟩, ⟨(some 9), none, .load none (.t 8)⟩, ⟨(some 10), none, .call (.b .lenV) [(.t 9)]⟩, ⟨(some 11), none, .mov (.c (.i .i64 0))⟩]) (
  .block 0 (.loop (
    .seq (.reg [⟨(some 12), none, .bin .lss .int false (.t 11) (.t 10)⟩]) (
    .seq (.cond (.t 12) (
     .skip) (
     .exit 0)) (
    .seq (.block 1 (.seq (.reg [⟨(some 13), none, .iaV 2 (.t 9) (.t 11)⟩, ⟨(some 14), none, .load (some 2) (.t 13)⟩, ⟨(some 4), none, .new [(.s []), (.sl none 0 0)] 115⟩, ⟨none, none, .store 2 (.t 4) (.t 14)⟩]) (
     .seq (.reg [⟨(some 15), none, .fa 1 (.t 4)⟩, ⟨(some 16), none, .load none (.t 15)⟩, ⟨(some 17), none, .call (.b .lenV) [(.t 16)]⟩, ⟨(some 18), none, .bin .lss .int false (.t 17) (.c (.i .i64 1))⟩, ⟨(some 19), none, .mov (.t 18)⟩, ⟨(some 20), (some (19, false)), .fa 1 (.t 4)⟩, ⟨(some 21), (some (19, false)), .load none (.t 20)⟩, ⟨(some 22), (some (19, false)), .call (.b .lenV) [(.t 21)]⟩, ⟨(some 23), (some (19, false)), .bin .gtr .int false (.t 22) (.c (.i .i64 64))⟩, ⟨(some 24), none, .pick (.t 19) (.c (.b true)) (.t 23)⟩, ⟨(some 25), none, .mov (.t 24)⟩, ⟨(some 26), (some (25, false)), .fa 1 (.t 4)⟩, ⟨(some 27), (some (25, false)), .load none (.t 26)⟩, ⟨(some 28), (some (25, false)), .call (.v (.c (.fn (.func 234) [] []))) [(.t 27)]⟩, ⟨(some 29), (some (25, false)), .un .not (.t 28)⟩, ⟨(some 30), none, .pick (.t 25) (.c (.b true)) (.t 29)⟩]) (
     .cond (.t 30) (
      .seq (.reg [⟨(some 2), none, .mov (.c (.b false))⟩]) (
      .ret)) (
      .skip))))) (
    .reg [⟨(some 31), none, .bin .add .int false (.t 11) (.c (.i .i64 1))⟩, ⟨(some 11), none, .mov (.t 31)⟩]))))))) (
  .seq (.reg [⟨(some 32), none, .fa 2 (.t 1)⟩, ⟨(some 33), none, .load none (.t 32)⟩, ⟨(some 34), none, .call (.v (.c (.fn (.func 287) [] []))) [(.t 33), (.c (.fn (.func 288) [] []))]⟩, ⟨(some 35), none, .un .not (.t 34)⟩, ⟨(some 2), none, .mov (.t 35)⟩]) (
  .ret)))),
 [.tmp 2]⟩
/- lodestar/payload.put -/
noncomputable def a181 : F := ⟨19,
  .seq (.reg [⟨(some 6), none, .mov (.c (.sl none 0 0))⟩]) (
  .seq (.reg [⟨(some 10), none, .mov (.t 1)⟩, ⟨(some 11), none, .conv (.int .u64) (.t 10)⟩, ⟨(some 12), none, .mov (.t 2)⟩, ⟨(some 13), none, .call (.v (.c (.fn (.func 179) [] []))) [(.t 11), (.t 12)]⟩, ⟨(some 9), none, .mov (.t 13)⟩, ⟨(some 14), none, .ext (.t 9) 0⟩, ⟨(some 15), none, .ext (.t 9) 1⟩, ⟨(some 7), none, .mov (.t 14)⟩, ⟨(some 8), none, .mov (.t 15)⟩]) (
  .seq (.reg [⟨(some 16), none, .mov (.t 0)⟩, ⟨(some 17), none, .mov (.t 7)⟩, ⟨(some 18), none, .call (.b (.append 1 1 5)) [(.t 16), (.t 17)]⟩, ⟨(some 6), none, .mov (.t 18)⟩]) (
  .ret))),
 [.tmp 6]⟩
/- lodestar/payload.width -/
noncomputable def a182 : F := ⟨6,
  .seq (.reg [⟨(some 2), none, .mov (.c (.i .i64 0))⟩]) (
  .seq (.reg [⟨(some 3), none, .build [(.i .i64 0), (.i .i64 0), (.i .i64 0), (.i .i64 0)] [(1, 1, (.c (.i .i64 8))), (2, 1, (.c (.i .i64 2))), (3, 1, (.c (.i .i64 1)))]⟩, ⟨(some 4), none, .mov (.t 0)⟩, ⟨(some 5), none, .ixA 4 1 none (.t 3) (.t 4)⟩, ⟨(some 2), none, .mov (.t 5)⟩]) (
  .ret)),
 [.tmp 2]⟩
/- lodestar/wal.begun -/
noncomputable def a183 : F := ⟨31,
  .seq (.reg [⟨(some 4), none, .mov (.c (.s []))⟩, ⟨(some 5), none, .mov (.c .ni)⟩]) (
  .seq (.reg [⟨(some 9), none, .mov (.t 0)⟩, ⟨(some 10), none, .mov (.t 1)⟩, ⟨(some 11), none, .call (.v (.c (.fn (.func 50) [] []))) [(.t 9), (.t 10)]⟩, ⟨(some 8), none, .mov (.t 11)⟩, ⟨(some 12), none, .ext (.t 8) 0⟩, ⟨(some 13), none, .ext (.t 8) 1⟩, ⟨(some 6), none, .mov (.t 12)⟩, ⟨(some 7), none, .mov (.t 13)⟩]) (
  .seq (.seq (.reg [⟨(some 14), none, .mov (.t 7)⟩, ⟨(some 15), none, .bin .neq .int false (.t 14) (.c (.i .i64 20))⟩]) (
  .cond (.t 15) (
   .seq (.reg [⟨(some 16), none, .mov (.t 6)⟩, ⟨(some 17), none, .mov (.t 7)⟩, ⟨(some 18), none, .call (.v (.c (.fn (.func 186) [] []))) [(.t 17)]⟩, ⟨(some 4), none, .mov (.t 16)⟩, ⟨(some 5), none, .mov (.t 18)⟩]) (
   .ret)) (
   .skip))) (
  .seq (.seq (.reg [⟨(some 20), none, .mov (.t 0)⟩, ⟨(some 21), none, .mov (.t 1)⟩, ⟨(some 22), none, .call (.v (.c (.fn (.func 106) [] []))) [(.t 20), (.t 21), (.c (.s []))]⟩, ⟨(some 19), none, .mov (.t 22)⟩, ⟨(some 23), none, .ext (.t 19) 0⟩, ⟨(some 24), none, .ext (.t 19) 1⟩, ⟨(some 7), none, .mov (.t 24)⟩]) (
  .seq (.reg [⟨(some 25), none, .mov (.t 7)⟩, ⟨(some 26), none, .bin .eql .int false (.t 25) (.c (.i .i64 0))⟩]) (
  .cond (.t 26) (
   .reg [⟨(some 27), none, .mov (.t 0)⟩, ⟨(some 28), none, .call (.v (.c (.fn (.func 94) [] []))) [(.t 27)]⟩, ⟨(some 7), none, .mov (.t 28)⟩]) (
   .skip)))) (
  .seq (.reg [⟨(some 29), none, .mov (.t 7)⟩, ⟨(some 30), none, .call (.v (.c (.fn (.func 186) [] []))) [(.t 29)]⟩, ⟨(some 4), none, .mov (.c (.s []))⟩, ⟨(some 5), none, .mov (.t 30)⟩]) (
  .ret))))),
 [.tmp 4, .tmp 5]⟩
/- lodestar/wal.code -/
noncomputable def a184 : F := ⟨14,
  .seq (.reg [⟨(some 2), none, .mov (.c (.i .i64 0))⟩]) (
  .seq (.reg [⟨(some 3), none, .new [(.i .i64 0)] 451⟩]) (
  .seq (.block 0 (.seq (.reg [⟨(some 5), none, .mov (.t 0)⟩, ⟨(some 6), none, .load none (.c (.p (some ⟨(.old 0), 0⟩)))⟩, ⟨(some 7), none, .call (.v (.c (.fn (.func 286) [] []))) [(.t 5), (.t 6)]⟩, ⟨(some 4), none, .mov (.t 7)⟩]) (
   .cond (.t 4) (
    .seq (.reg [⟨(some 2), none, .mov (.c (.i .i64 0))⟩]) (
    .ret)) (
    .seq (.reg [⟨(some 9), none, .mov (.t 0)⟩, ⟨(some 10), none, .mkI 453 (.t 3)⟩, ⟨(some 11), none, .call (.v (.c (.fn (.func 289) [] []))) [(.t 9), (.t 10)]⟩, ⟨(some 8), none, .mov (.t 11)⟩]) (
    .cond (.t 8) (
     .seq (.reg [⟨(some 12), none, .fa 0 (.t 3)⟩, ⟨(some 13), none, .load none (.t 12)⟩, ⟨(some 2), none, .mov (.t 13)⟩]) (
     .ret)) (
     .skip)))))) (
  .seq (.reg [⟨(some 2), none, .mov (.c (.i .i64 90))⟩]) (
  .ret)))),
 [.tmp 2]⟩
/- lodestar/wal.Scan -/
noncomputable def a185 : F := ⟨56,
  .seq (.reg [⟨(some 2), none, .mov (.c (.sl none 0 0))⟩, ⟨(some 3), none, .mov (.c (.i .i64 0))⟩, ⟨(some 4), none, .mov (.c (.i .i64 0))⟩]) (
  .seq (.reg [⟨(some 5), none, .mov (.c (.sl none 0 0))⟩]) (
  .seq (.reg [⟨(some 6), none, .mov (.c (.i .i64 0))⟩]) (
  .seq (.block 0 (.loop (
    .seq (.seq (.reg [⟨(some 10), none, .mov (.t 6)⟩, ⟨(some 11), none, .mov (.t 0)⟩, ⟨(some 12), none, .call (.b .lenS) [(.t 11)]⟩, ⟨(some 13), none, .bin .lss .int false (.t 10) (.t 12)⟩]) (
    .cond (.t 13) (
     .skip) (
     .exit 0))) (
    .block 1 (.seq (.reg [⟨(some 15), none, .mov (.t 0)⟩, ⟨(some 16), none, .mov (.t 6)⟩, ⟨(some 17), none, .slS (.t 15) (some (.t 16)) none⟩, ⟨(some 18), none, .call (.v (.c (.fn (.func 290) [] []))) [(.t 17)]⟩, ⟨(some 14), none, .mov (.t 18)⟩, ⟨(some 19), none, .ext (.t 14) 0⟩, ⟨(some 20), none, .ext (.t 14) 1⟩, ⟨(some 21), none, .ext (.t 14) 2⟩, ⟨(some 7), none, .new [(.i .i64 0), (.s [])] 122⟩, ⟨none, none, .store 2 (.t 7) (.t 19)⟩, ⟨(some 8), none, .mov (.t 20)⟩, ⟨(some 9), none, .mov (.t 21)⟩]) (
     .seq (.seq (.dreg [[.fl ⟨(some 22), none, .mov (.t 9)⟩ 0, .fl ⟨(some 23), none, .bin .eql .int false (.t 22) (.c (.i .i64 0))⟩ 0, .fl ⟨(some 24), none, .mov (.t 23)⟩ 0, .fl ⟨(some 25), (some (24, true)), .mov (.t 5)⟩ 0, .fl ⟨(some 26), (some (24, true)), .call (.b .lenV) [(.t 25)]⟩ 0, .fl ⟨(some 27), (some (24, true)), .bin .gtr .int false (.t 26) (.c (.i .i64 0))⟩ 0, .fl ⟨(some 28), none, .pick (.t 24) (.t 27) (.c (.b false))⟩ 0, .fl ⟨(some 29), none, .mov (.t 28)⟩ 0, .fl ⟨(some 30), (some (29, true)), .fa 0 (.t 7)⟩ 0, .fl ⟨(some 31), (some (29, true)), .load none (.t 30)⟩ 0, .fl ⟨(some 32), (some (29, true)), .mov (.t 5)⟩ 0, .fl ⟨(some 33), (some (29, true)), .mov (.t 5)⟩ 0, .fl ⟨(some 34), (some (29, true)), .call (.b .lenV) [(.t 33)]⟩ 0, .fl ⟨(some 35), (some (29, true)), .bin .sub .int false (.t 34) (.c (.i .i64 1))⟩ 0, .fl ⟨(some 36), (some (29, true)), .iaV 2 (.t 32) (.t 35)⟩ 0, .fl ⟨(some 37), (some (29, true)), .fa 0 (.t 36)⟩ 0, .fl ⟨(some 38), (some (29, true)), .load none (.t 37)⟩ 0, .fl ⟨(some 39), (some (29, true)), .bin .add .int false (.t 38) (.c (.i .i64 1))⟩ 0, .fl ⟨(some 40), (some (29, true)), .bin .neq .int false (.t 31) (.t 39)⟩ 0, .fl ⟨(some 41), none, .pick (.t 29) (.t 40) (.c (.b false))⟩ 0]] 0) (
     .cond (.t 41) (
      .reg [⟨(some 9), none, .mov (.c (.i .i64 90))⟩]) (
      .skip))) (
     .seq (.seq (.reg [⟨(some 42), none, .mov (.t 9)⟩, ⟨(some 43), none, .bin .neq .int false (.t 42) (.c (.i .i64 0))⟩]) (
     .cond (.t 43) (
      .seq (.reg [⟨(some 44), none, .mov (.t 5)⟩, ⟨(some 45), none, .mov (.t 6)⟩, ⟨(some 46), none, .mov (.t 9)⟩, ⟨(some 2), none, .mov (.t 44)⟩, ⟨(some 3), none, .mov (.t 45)⟩, ⟨(some 4), none, .mov (.t 46)⟩]) (
      .ret)) (
      .skip))) (
     .seq (.reg [⟨(some 47), none, .mov (.t 5)⟩, ⟨(some 48), none, .load (some 2) (.t 7)⟩, ⟨(some 49), none, .buildS [(.i .i64 0), (.s [])] 1 [(0, 2, (.t 48))] 122⟩, ⟨(some 50), none, .call (.b (.append 2 24 122)) [(.t 47), (.t 49)]⟩, ⟨(some 5), none, .mov (.t 50)⟩]) (
     .reg [⟨(some 51), none, .mov (.t 6)⟩, ⟨(some 52), none, .mov (.t 8)⟩, ⟨(some 53), none, .bin .add .int false (.t 51) (.t 52)⟩, ⟨(some 6), none, .mov (.t 53)⟩]))))))))) (
  .seq (.reg [⟨(some 54), none, .mov (.t 5)⟩, ⟨(some 55), none, .mov (.t 6)⟩, ⟨(some 2), none, .mov (.t 54)⟩, ⟨(some 3), none, .mov (.t 55)⟩, ⟨(some 4), none, .mov (.c (.i .i64 0))⟩]) (
  .ret))))),
 [.tmp 2, .tmp 3, .tmp 4]⟩
/- lodestar/wal.asked -/
noncomputable def a186 : F := ⟨9,
  .seq (.reg [⟨(some 2), none, .mov (.c .ni)⟩]) (
  .seq (.seq (.reg [⟨(some 3), none, .mov (.t 0)⟩, ⟨(some 4), none, .bin .eql .int false (.t 3) (.c (.i .i64 0))⟩]) (
  .cond (.t 4) (
   .seq (.reg [⟨(some 5), none, .load none (.c (.p (some ⟨(.old 0), 0⟩)))⟩, ⟨(some 2), none, .mov (.t 5)⟩]) (
   .ret)) (
   .skip))) (
  .seq (.reg [⟨(some 6), none, .mov (.t 0)⟩, ⟨(some 7), none, .build [(.i .i64 0)] [(0, 1, (.t 6))]⟩, ⟨(some 8), none, .mkI 451 (.t 7)⟩, ⟨(some 2), none, .mov (.t 8)⟩]) (
  .ret))),
 [.tmp 2]⟩
/- (*lodestar/payload.taker).number -/
noncomputable def a187 : F := ⟨16,
  .seq (.reg [⟨(some 4), none, .mov (.c (.i .i64 0))⟩]) (
  .seq (.reg [⟨(some 8), none, .mov (.t 0)⟩, ⟨(some 9), none, .mov (.t 1)⟩, ⟨(some 10), none, .call (.v (.c (.fn (.func 188) [] []))) [(.t 8), (.t 9)]⟩, ⟨(some 11), none, .call (.v (.c (.fn (.func 97) [] []))) [(.t 10)]⟩, ⟨(some 7), none, .mov (.t 11)⟩, ⟨(some 12), none, .ext (.t 7) 0⟩, ⟨(some 13), none, .ext (.t 7) 1⟩, ⟨(some 5), none, .mov (.t 12)⟩, ⟨(some 6), none, .mov (.t 13)⟩]) (
  .seq (.reg [⟨(some 14), none, .mov (.t 5)⟩, ⟨(some 15), none, .conv (.int .i64) (.t 14)⟩, ⟨(some 4), none, .mov (.t 15)⟩]) (
  .ret))),
 [.tmp 4]⟩
/- (*lodestar/payload.taker).text -/
noncomputable def a188 : F := ⟨53,
  .seq (.reg [⟨(some 4), none, .mov (.c (.s []))⟩]) (
  .seq (.seq (.dreg [[.fl ⟨(some 5), none, .mov (.t 0)⟩ 0, .fl ⟨(some 6), none, .nilc (.t 5)⟩ 0, .fl ⟨(some 7), none, .fa 2 (.t 6)⟩ 0, .fl ⟨(some 8), none, .load none (.t 7)⟩ 0, .fl ⟨(some 9), none, .mov (.t 8)⟩ 0, .fl ⟨(some 10), (some (9, false)), .mov (.t 1)⟩ 0, .fl ⟨(some 11), (some (9, false)), .bin .lss .int false (.t 10) (.c (.i .i64 0))⟩ 0, .fl ⟨(some 12), none, .pick (.t 9) (.c (.b true)) (.t 11)⟩ 0, .fl ⟨(some 13), none, .mov (.t 12)⟩ 0, .fl ⟨(some 14), (some (13, false)), .mov (.t 1)⟩ 0, .fl ⟨(some 15), (some (13, false)), .mov (.t 0)⟩ 0, .fl ⟨(some 16), (some (13, false)), .nilc (.t 15)⟩ 0, .fl ⟨(some 17), (some (13, false)), .fa 0 (.t 16)⟩ 0, .fl ⟨(some 18), (some (13, false)), .load none (.t 17)⟩ 0, .fl ⟨(some 19), (some (13, false)), .call (.b .lenS) [(.t 18)]⟩ 0, .fl ⟨(some 20), (some (13, false)), .mov (.t 0)⟩ 0, .fl ⟨(some 21), (some (13, false)), .nilc (.t 20)⟩ 0, .fl ⟨(some 22), (some (13, false)), .fa 1 (.t 21)⟩ 0, .fl ⟨(some 23), (some (13, false)), .load none (.t 22)⟩ 0, .fl ⟨(some 24), (some (13, false)), .bin .sub .int false (.t 19) (.t 23)⟩ 0, .fl ⟨(some 25), (some (13, false)), .bin .gtr .int false (.t 14) (.t 24)⟩ 0, .fl ⟨(some 26), none, .pick (.t 13) (.c (.b true)) (.t 25)⟩ 0]] 0) (
  .cond (.t 26) (
   .seq (.reg [⟨(some 27), none, .mov (.t 0)⟩, ⟨(some 28), none, .nilc (.t 27)⟩, ⟨(some 29), none, .fa 2 (.t 28)⟩, ⟨none, none, .store 1 (.t 29) (.c (.b true))⟩]) (
   .seq (.reg [⟨(some 4), none, .mov (.c (.s []))⟩]) (
   .ret))) (
   .skip))) (
  .seq (.reg [⟨(some 30), none, .mov (.t 0)⟩, ⟨(some 31), none, .nilc (.t 30)⟩, ⟨(some 32), none, .fa 1 (.t 31)⟩, ⟨(some 33), none, .load none (.t 32)⟩, ⟨(some 34), none, .mov (.t 1)⟩, ⟨(some 35), none, .bin .add .int false (.t 33) (.t 34)⟩, ⟨(some 36), none, .nilc (.t 30)⟩, ⟨(some 37), none, .fa 1 (.t 36)⟩, ⟨none, none, .store 1 (.t 37) (.t 35)⟩]) (
  .seq (.dreg [[.fl ⟨(some 38), none, .mov (.t 0)⟩ 0, .fl ⟨(some 39), none, .nilc (.t 38)⟩ 0, .fl ⟨(some 40), none, .fa 0 (.t 39)⟩ 0, .fl ⟨(some 41), none, .load none (.t 40)⟩ 0, .fl ⟨(some 42), none, .mov (.t 0)⟩ 0, .fl ⟨(some 43), none, .nilc (.t 42)⟩ 0, .fl ⟨(some 44), none, .fa 1 (.t 43)⟩ 0, .fl ⟨(some 45), none, .load none (.t 44)⟩ 0, .fl ⟨(some 46), none, .mov (.t 1)⟩ 0, .fl ⟨(some 47), none, .bin .sub .int false (.t 45) (.t 46)⟩ 0, .fl ⟨(some 48), none, .mov (.t 0)⟩ 0, .fl ⟨(some 49), none, .nilc (.t 48)⟩ 0, .fl ⟨(some 50), none, .fa 1 (.t 49)⟩ 0, .fl ⟨(some 51), none, .load none (.t 50)⟩ 0, .fl ⟨(some 52), none, .slS (.t 41) (some (.t 47)) (some (.t 51))⟩ 0, .an ⟨(some 4), none, .mov (.t 52)⟩ []]] 0) (
  .ret)))),
 [.tmp 4]⟩
/- (*lodestar/store.Store).has -/
noncomputable def a189 : F := ⟨21,
  .seq (.reg [⟨(some 4), none, .mov (.c (.b false))⟩]) (
  .seq (.seq (.reg [⟨(some 7), none, .mov (.t 0)⟩, ⟨(some 8), none, .nilc (.t 7)⟩, ⟨(some 9), none, .fa 1 (.t 8)⟩, ⟨(some 10), none, .load none (.t 9)⟩, ⟨(some 11), none, .call (.v (.c (.fn (.func 192) [] []))) [(.t 10)]⟩, ⟨(some 12), none, .call (.b .lenV) [(.t 11)]⟩, ⟨(some 13), none, .mov (.c (.i .i64 0))⟩]) (
  .block 0 (.loop (
    .seq (.reg [⟨(some 14), none, .bin .lss .int false (.t 13) (.t 12)⟩]) (
    .seq (.cond (.t 14) (
     .skip) (
     .exit 0)) (
    .seq (.block 1 (.seq (.reg [⟨(some 15), none, .iaV 1 (.t 11) (.t 13)⟩, ⟨(some 16), none, .load none (.t 15)⟩, ⟨(some 6), none, .mov (.t 16)⟩]) (
     .seq (.reg [⟨(some 17), none, .mov (.t 6)⟩, ⟨(some 18), none, .mov (.t 1)⟩, ⟨(some 19), none, .bin .eql .str false (.t 17) (.t 18)⟩]) (
     .cond (.t 19) (
      .seq (.reg [⟨(some 4), none, .mov (.c (.b true))⟩]) (
      .ret)) (
      .skip))))) (
    .reg [⟨(some 20), none, .bin .add .int false (.t 13) (.c (.i .i64 1))⟩, ⟨(some 13), none, .mov (.t 20)⟩]))))))) (
  .seq (.reg [⟨(some 4), none, .mov (.c (.b false))⟩]) (
  .ret))),
 [.tmp 4]⟩
/- (*lodestar/disk.Disk).step -/
noncomputable def a190 : F := ⟨80,
  .seq (.reg [⟨(some 2), none, .new [(.i .i64 0), (.i .i64 0), (.i .i64 0)] 343⟩, ⟨(some 3), none, .mov (.c (.i .i64 0))⟩]) (
  .seq (.reg [⟨(some 5), none, .mov (.t 0)⟩, ⟨(some 6), none, .nilc (.t 5)⟩, ⟨(some 7), none, .fa 2 (.t 6)⟩, ⟨(some 8), none, .load none (.t 7)⟩, ⟨(some 9), none, .bin .add .int false (.t 8) (.c (.i .i64 1))⟩, ⟨(some 10), none, .nilc (.t 5)⟩, ⟨(some 11), none, .fa 2 (.t 10)⟩, ⟨none, none, .store 1 (.t 11) (.t 9)⟩]) (
  .seq (.block 0 (.loop (
    .seq (.seq (.dreg [[.fl ⟨(some 12), none, .mov (.t 0)⟩ 0, .fl ⟨(some 13), none, .nilc (.t 12)⟩ 0, .fl ⟨(some 14), none, .fa 3 (.t 13)⟩ 0, .fl ⟨(some 15), none, .load none (.t 14)⟩ 0, .fl ⟨(some 16), none, .call (.b .lenV) [(.t 15)]⟩ 0, .fl ⟨(some 17), none, .bin .gtr .int false (.t 16) (.c (.i .i64 0))⟩ 0, .fl ⟨(some 18), none, .mov (.t 17)⟩ 0, .fl ⟨(some 19), (some (18, true)), .mov (.t 0)⟩ 0, .fl ⟨(some 20), (some (18, true)), .nilc (.t 19)⟩ 0, .fl ⟨(some 21), (some (18, true)), .fa 3 (.t 20)⟩ 0, .fl ⟨(some 22), (some (18, true)), .load none (.t 21)⟩ 0, .fl ⟨(some 23), (some (18, true)), .iaV 3 (.t 22) (.c (.i .i64 0))⟩ 0, .fl ⟨(some 24), (some (18, true)), .fa 0 (.t 23)⟩ 0, .fl ⟨(some 25), (some (18, true)), .load none (.t 24)⟩ 0, .fl ⟨(some 26), (some (18, true)), .mov (.t 0)⟩ 0, .fl ⟨(some 27), (some (18, true)), .nilc (.t 26)⟩ 0, .fl ⟨(some 28), (some (18, true)), .fa 2 (.t 27)⟩ 0, .fl ⟨(some 29), (some (18, true)), .load none (.t 28)⟩ 0, .fl ⟨(some 30), (some (18, true)), .bin .lss .int false (.t 25) (.t 29)⟩ 0, .fl ⟨(some 31), none, .pick (.t 18) (.t 30) (.c (.b false))⟩ 0]] 0) (
    .cond (.t 31) (
     .skip) (
     .exit 0))) (
    .block 1 (.reg [⟨(some 32), none, .mov (.t 0)⟩, ⟨(some 33), none, .mov (.t 0)⟩, ⟨(some 34), none, .nilc (.t 33)⟩, ⟨(some 35), none, .fa 3 (.t 34)⟩, ⟨(some 36), none, .load none (.t 35)⟩, ⟨(some 37), none, .slV 3 (.t 36) (some (.c (.i .i64 1))) none none⟩, ⟨(some 38), none, .nilc (.t 32)⟩, ⟨(some 39), none, .fa 3 (.t 38)⟩, ⟨none, none, .store 1 (.t 39) (.t 37)⟩]))))) (
  .seq (.seq (.dreg [[.fl ⟨(some 40), none, .mov (.t 0)⟩ 0, .fl ⟨(some 41), none, .nilc (.t 40)⟩ 0, .fl ⟨(some 42), none, .fa 3 (.t 41)⟩ 0, .fl ⟨(some 43), none, .load none (.t 42)⟩ 0, .fl ⟨(some 44), none, .call (.b .lenV) [(.t 43)]⟩ 0, .fl ⟨(some 45), none, .bin .eql .int false (.t 44) (.c (.i .i64 0))⟩ 0, .fl ⟨(some 46), none, .mov (.t 45)⟩ 0, .fl ⟨(some 47), (some (46, false)), .mov (.t 0)⟩ 0, .fl ⟨(some 48), (some (46, false)), .nilc (.t 47)⟩ 0, .fl ⟨(some 49), (some (46, false)), .fa 3 (.t 48)⟩ 0, .fl ⟨(some 50), (some (46, false)), .load none (.t 49)⟩ 0, .fl ⟨(some 51), (some (46, false)), .iaV 3 (.t 50) (.c (.i .i64 0))⟩ 0, .fl ⟨(some 52), (some (46, false)), .fa 0 (.t 51)⟩ 0, .fl ⟨(some 53), (some (46, false)), .load none (.t 52)⟩ 0, .fl ⟨(some 54), (some (46, false)), .mov (.t 0)⟩ 0, .fl ⟨(some 55), (some (46, false)), .nilc (.t 54)⟩ 0, .fl ⟨(some 56), (some (46, false)), .fa 2 (.t 55)⟩ 0, .fl ⟨(some 57), (some (46, false)), .load none (.t 56)⟩ 0, .fl ⟨(some 58), (some (46, false)), .bin .neq .int false (.t 53) (.t 57)⟩ 0, .fl ⟨(some 59), none, .pick (.t 46) (.c (.b true)) (.t 58)⟩ 0]] 0) (
  .cond (.t 59) (
   .seq (.reg [⟨(some 60), none, .build [(.i .i64 0), (.i .i64 0), (.i .i64 0)] []⟩, ⟨none, none, .store 3 (.t 2) (.t 60)⟩, ⟨(some 3), none, .mov (.c (.i .i64 0))⟩]) (
   .ret)) (
   .skip))) (
  .seq (.reg [⟨(some 61), none, .mov (.t 0)⟩, ⟨(some 62), none, .nilc (.t 61)⟩, ⟨(some 63), none, .fa 3 (.t 62)⟩, ⟨(some 64), none, .load none (.t 63)⟩, ⟨(some 65), none, .iaV 3 (.t 64) (.c (.i .i64 0))⟩, ⟨(some 66), none, .load (some 3) (.t 65)⟩, ⟨(some 4), none, .new [(.i .i64 0), (.i .i64 0), (.i .i64 0)] 343⟩, ⟨none, none, .store 3 (.t 4) (.t 66)⟩]) (
  .seq (.reg [⟨(some 67), none, .mov (.t 0)⟩, ⟨(some 68), none, .mov (.t 0)⟩, ⟨(some 69), none, .nilc (.t 68)⟩, ⟨(some 70), none, .fa 3 (.t 69)⟩, ⟨(some 71), none, .load none (.t 70)⟩, ⟨(some 72), none, .slV 3 (.t 71) (some (.c (.i .i64 1))) none none⟩, ⟨(some 73), none, .nilc (.t 67)⟩, ⟨(some 74), none, .fa 3 (.t 73)⟩, ⟨none, none, .store 1 (.t 74) (.t 72)⟩]) (
  .seq (.seq (.reg [⟨(some 75), none, .fa 1 (.t 4)⟩, ⟨(some 76), none, .load none (.t 75)⟩, ⟨(some 77), none, .bin .eql .int false (.t 76) (.c (.i .i64 3))⟩]) (
  .cond (.t 77) (
   .seq (.reg [⟨(some 78), none, .load (some 3) (.t 4)⟩, ⟨none, none, .store 3 (.t 2) (.t 78)⟩, ⟨(some 3), none, .mov (.c (.i .i64 23))⟩]) (
   .ret)) (
   .skip))) (
  .seq (.reg [⟨(some 79), none, .load (some 3) (.t 4)⟩, ⟨none, none, .store 3 (.t 2) (.t 79)⟩, ⟨(some 3), none, .mov (.c (.i .i64 22))⟩]) (
  .ret)))))))),
 [.cell 2 (some 3), .tmp 3]⟩
/- lodestar/manifest.Encode -/
noncomputable def a191 : F := ⟨45,
  .seq (.reg [⟨(some 1), none, .box (.t 0) 105⟩, ⟨(some 2), none, .mov (.c (.s []))⟩, ⟨(some 3), none, .mov (.c (.i .i64 0))⟩]) (
  .seq (.seq (.reg [⟨(some 7), none, .load (some 4) (.t 1)⟩, ⟨(some 8), none, .call (.v (.c (.fn (.func 291) [] []))) [(.t 7)]⟩, ⟨(some 9), none, .un .not (.t 8)⟩]) (
  .cond (.t 9) (
   .seq (.reg [⟨(some 2), none, .mov (.c (.s []))⟩, ⟨(some 3), none, .mov (.c (.i .i64 110))⟩]) (
   .ret)) (
   .skip))) (
  .seq (.dreg [[.fl ⟨(some 10), none, .fa 2 (.t 1)⟩ 0, .fl ⟨(some 11), none, .load none (.t 10)⟩ 0, .fl ⟨(some 15), none, .fa 3 (.t 1)⟩ 0, .fl ⟨(some 16), none, .load none (.t 15)⟩ 0, .fl ⟨(some 20), none, .fa 1 (.t 1)⟩ 0, .fl ⟨(some 21), none, .load none (.t 20)⟩ 0, .an ⟨(some 12), none, .call (.v (.c (.fn (.func 23) [] []))) [(.t 11)]⟩ [⟨(some 16), none, .load none (.t 15)⟩, ⟨(some 21), none, .load none (.t 20)⟩], .fl ⟨(some 13), none, .bin .add .str false (.c (.s [108, 111, 100, 101, 115, 116, 97, 114, 32, 49, 10, 110, 101, 120, 116, 32])) (.t 12)⟩ 0, .fl ⟨(some 14), none, .bin .add .str false (.t 13) (.c (.s [10, 115, 101, 113, 32]))⟩ 0, .an ⟨(some 17), none, .call (.v (.c (.fn (.func 23) [] []))) [(.t 16)]⟩ [⟨(some 21), none, .load none (.t 20)⟩], .fl ⟨(some 18), none, .bin .add .str false (.t 14) (.t 17)⟩ 0, .fl ⟨(some 19), none, .bin .add .str false (.t 18) (.c (.s [10, 108, 111, 103, 32]))⟩ 0, .fl ⟨(some 22), none, .bin .add .str false (.t 19) (.t 21)⟩ 0, .fl ⟨(some 23), none, .bin .add .str false (.t 22) (.c (.s [10]))⟩ 0, .an ⟨(some 4), none, .mov (.t 23)⟩ []]] 0) (
  .seq (.seq (.reg [⟨(some 24), none, .fa 0 (.t 1)⟩, ⟨(some 25), none, .load none (.t 24)⟩, ⟨(some 26), none, .call (.b .lenV) [(.t 25)]⟩, ⟨(some 27), none, .mov (.c (.i .i64 0))⟩]) (
  .block 0 (.loop (
    .seq (.reg [⟨(some 28), none, .bin .lss .int false (.t 27) (.t 26)⟩]) (
    .seq (.cond (.t 28) (
     .skip) (
     .exit 0)) (
    .seq (.block 1 (.seq (.reg [⟨(some 29), none, .iaV 1 (.t 25) (.t 27)⟩, ⟨(some 30), none, .load none (.t 29)⟩, ⟨(some 6), none, .mov (.t 30)⟩]) (
     .reg [⟨(some 31), none, .mov (.t 4)⟩, ⟨(some 32), none, .mov (.t 6)⟩, ⟨(some 33), none, .bin .add .str false (.c (.s [115, 101, 103, 109, 101, 110, 116, 32])) (.t 32)⟩, ⟨(some 34), none, .bin .add .str false (.t 33) (.c (.s [10]))⟩, ⟨(some 35), none, .bin .add .str false (.t 31) (.t 34)⟩, ⟨(some 4), none, .mov (.t 35)⟩]))) (
    .reg [⟨(some 36), none, .bin .add .int false (.t 27) (.c (.i .i64 1))⟩, ⟨(some 27), none, .mov (.t 36)⟩]))))))) (
  .seq (.reg [⟨(some 37), none, .mov (.t 4)⟩, ⟨(some 38), none, .bin .add .str false (.t 37) (.c (.s [115, 117, 109, 32]))⟩, ⟨(some 39), none, .mov (.t 4)⟩, ⟨(some 40), none, .call (.v (.c (.fn (.func 101) [] []))) [(.t 39)]⟩, ⟨(some 41), none, .conv (.int .i64) (.t 40)⟩, ⟨(some 42), none, .call (.v (.c (.fn (.func 23) [] []))) [(.t 41)]⟩, ⟨(some 43), none, .bin .add .str false (.t 38) (.t 42)⟩, ⟨(some 44), none, .bin .add .str false (.t 43) (.c (.s [10]))⟩, ⟨(some 2), none, .mov (.t 44)⟩, ⟨(some 3), none, .mov (.c (.i .i64 0))⟩]) (
  .ret))))),
 [.tmp 2, .tmp 3]⟩
/- (*lodestar/disk.Disk).Names -/
noncomputable def a192 : F := ⟨23,
  .seq (.reg [⟨(some 2), none, .mov (.c (.sl none 0 0))⟩]) (
  .seq (.seq (.reg [⟨(some 5), none, .mov (.t 0)⟩, ⟨(some 6), none, .bin .eql .ptr true (.t 5) (.c (.p none))⟩]) (
  .cond (.t 6) (
   .seq (.reg [⟨(some 2), none, .mov (.c (.sl none 0 0))⟩]) (
   .ret)) (
   .skip))) (
  .seq (.reg [⟨(some 3), none, .mov (.c (.sl none 0 0))⟩]) (
  .seq (.seq (.reg [⟨(some 7), none, .mov (.t 0)⟩, ⟨(some 8), none, .nilc (.t 7)⟩, ⟨(some 9), none, .fa 0 (.t 8)⟩, ⟨(some 10), none, .load none (.t 9)⟩, ⟨(some 11), none, .rngM (.t 10)⟩]) (
  .block 0 (.loop (
    .seq (.reg [⟨(some 12), none, .nxtM (.t 11)⟩, ⟨(some 13), none, .ext (.t 12) 0⟩]) (
    .seq (.cond (.t 13) (
     .skip) (
     .exit 0)) (
    .block 1 (.seq (.reg [⟨(some 14), none, .ent (.t 11)⟩, ⟨(some 15), none, .ext (.t 14) 0⟩, ⟨(some 4), none, .mov (.t 15)⟩]) (
     .reg [⟨(some 16), none, .mov (.t 3)⟩, ⟨(some 17), none, .mov (.t 4)⟩, ⟨(some 18), none, .buildS [(.s [])] 1 [(0, 1, (.t 17))] 9⟩, ⟨(some 19), none, .call (.b (.append 1 16 9)) [(.t 16), (.t 18)]⟩, ⟨(some 3), none, .mov (.t 19)⟩])))))))) (
  .seq (.reg [⟨(some 20), none, .mov (.t 3)⟩, ⟨(some 21), none, .call (.v (.c (.fn (.func 292) [] []))) [(.t 20)]⟩]) (
  .seq (.reg [⟨(some 22), none, .mov (.t 3)⟩, ⟨(some 2), none, .mov (.t 22)⟩]) (
  .ret)))))),
 [.tmp 2]⟩
/- lodestar/manifest.Store$1 -/
noncomputable def a193 : F := ⟨11,
  .seq (.reg [⟨(some 2), none, .load none (.t 0)⟩, ⟨(some 3), none, .un .not (.t 2)⟩, ⟨(some 4), none, .mov (.t 3)⟩, ⟨(some 5), (some (4, true)), .load none (.t 1)⟩, ⟨(some 6), (some (4, true)), .call (.v (.c (.fn (.func 192) [] []))) [(.t 5)]⟩, ⟨(some 7), (some (4, true)), .call (.v (.c (.fn (.func 61) [] []))) [(.t 6), (.c (.s [116, 109, 112]))]⟩, ⟨(some 8), none, .pick (.t 4) (.t 7) (.c (.b false))⟩]) (
  .cond (.t 8) (
   .reg [⟨(some 9), none, .load none (.t 1)⟩, ⟨(some 10), none, .call (.v (.c (.fn (.func 49) [] []))) [(.t 9), (.c (.s [116, 109, 112]))]⟩]) (
   .skip)),
 []⟩
/- (*lodestar/disk.Disk).Rename -/
noncomputable def a194 : F := ⟨67,
  .seq (.reg [⟨(some 6), none, .mov (.c (.i .i64 0))⟩]) (
  .seq (.seq (.reg [⟨(some 9), none, .mov (.t 0)⟩, ⟨(some 10), none, .bin .eql .ptr true (.t 9) (.c (.p none))⟩, ⟨(some 11), none, .mov (.t 10)⟩, ⟨(some 12), (some (11, false)), .mov (.t 1)⟩, ⟨(some 13), (some (11, false)), .bin .eql .str false (.t 12) (.c (.s []))⟩, ⟨(some 14), none, .pick (.t 11) (.c (.b true)) (.t 13)⟩, ⟨(some 15), none, .mov (.t 14)⟩, ⟨(some 16), (some (15, false)), .mov (.t 2)⟩, ⟨(some 17), (some (15, false)), .bin .eql .str false (.t 16) (.c (.s []))⟩, ⟨(some 18), none, .pick (.t 15) (.c (.b true)) (.t 17)⟩]) (
  .cond (.t 18) (
   .seq (.reg [⟨(some 6), none, .mov (.c (.i .i64 1))⟩]) (
   .ret)) (
   .skip))) (
  .seq (.seq (.reg [⟨(some 19), none, .mov (.t 0)⟩, ⟨(some 20), none, .mov (.t 1)⟩, ⟨(some 21), none, .call (.v (.c (.fn (.func 111) [] []))) [(.t 19), (.t 20)]⟩, ⟨(some 7), none, .mov (.t 21)⟩]) (
  .seq (.reg [⟨(some 22), none, .mov (.t 7)⟩, ⟨(some 23), none, .bin .neq .int false (.t 22) (.c (.i .i64 0))⟩]) (
  .cond (.t 23) (
   .seq (.reg [⟨(some 24), none, .mov (.t 7)⟩, ⟨(some 6), none, .mov (.t 24)⟩]) (
   .ret)) (
   .skip)))) (
  .seq (.seq (.reg [⟨(some 25), none, .mov (.t 0)⟩, ⟨(some 26), none, .call (.v (.c (.fn (.func 112) [] []))) [(.t 25)]⟩, ⟨(some 8), none, .mov (.t 26)⟩]) (
  .seq (.reg [⟨(some 27), none, .mov (.t 8)⟩, ⟨(some 28), none, .bin .neq .int false (.t 27) (.c (.i .i64 0))⟩]) (
  .cond (.t 28) (
   .seq (.reg [⟨(some 29), none, .mov (.t 8)⟩, ⟨(some 6), none, .mov (.t 29)⟩]) (
   .ret)) (
   .skip)))) (
  .seq (.seq (.reg [⟨(some 30), none, .mov (.t 1)⟩, ⟨(some 31), none, .mov (.t 2)⟩, ⟨(some 32), none, .bin .eql .str false (.t 30) (.t 31)⟩]) (
  .cond (.t 32) (
   .seq (.reg [⟨(some 6), none, .mov (.c (.i .i64 0))⟩]) (
   .ret)) (
   .skip))) (
  .seq (.dreg [[.fl ⟨(some 33), none, .mov (.t 0)⟩ 1, .fl ⟨(some 34), none, .mov (.t 0)⟩ 1, .fl ⟨(some 35), none, .nilc (.t 34)⟩ 1, .fl ⟨(some 36), none, .fa 1 (.t 35)⟩ 1, .fl ⟨(some 37), none, .load none (.t 36)⟩ 1, .fl ⟨(some 38), none, .mov (.t 1)⟩ 1, .fl ⟨(some 39), none, .mov (.t 2)⟩ 1, .fl ⟨(some 40), none, .mov (.t 0)⟩ 1, .fl ⟨(some 41), none, .nilc (.t 40)⟩ 1, .fl ⟨(some 42), none, .fa 0 (.t 41)⟩ 1, .fl ⟨(some 43), none, .load none (.t 42)⟩ 1, .fl ⟨(some 44), none, .mov (.t 2)⟩ 1, .fl ⟨(some 45), none, .lkp .str (.p none) false (.t 43) (.t 44)⟩ 1, .fl ⟨(some 46), none, .build [(.s []), (.s []), (.p none), (.i .i64 0)] [(0, 1, (.t 38)), (1, 1, (.t 39)), (2, 1, (.t 45)), (3, 1, (.c (.i .i64 1)))]⟩ 1, .fl ⟨(some 47), none, .buildS [(.s []), (.s []), (.p none), (.i .i64 0)] 1 [(0, 4, (.t 46))] 241⟩ 0, .an ⟨(some 48), none, .call (.b (.append 4 48 241)) [(.t 37), (.t 47)]⟩ [], .fl ⟨(some 49), none, .nilc (.t 33)⟩ 1, .fl ⟨(some 50), none, .fa 1 (.t 49)⟩ 1, .an ⟨none, none, .store 1 (.t 50) (.t 48)⟩ []]] 1) (
  .seq (.dreg [[.fl ⟨(some 51), none, .mov (.t 0)⟩ 0, .fl ⟨(some 52), none, .nilc (.t 51)⟩ 0, .fl ⟨(some 53), none, .fa 0 (.t 52)⟩ 0, .fl ⟨(some 54), none, .load none (.t 53)⟩ 0, .fl ⟨(some 55), none, .mov (.t 2)⟩ 0, .fl ⟨(some 56), none, .mov (.t 0)⟩ 0, .fl ⟨(some 57), none, .nilc (.t 56)⟩ 0, .fl ⟨(some 58), none, .fa 0 (.t 57)⟩ 0, .fl ⟨(some 59), none, .load none (.t 58)⟩ 0, .fl ⟨(some 60), none, .mov (.t 1)⟩ 0, .fl ⟨(some 61), none, .lkp .str (.p none) false (.t 59) (.t 60)⟩ 0, .an ⟨none, none, .mset .str (.t 54) (.t 55) (.t 61)⟩ []]] 0) (
  .seq (.reg [⟨(some 62), none, .mov (.t 0)⟩, ⟨(some 63), none, .nilc (.t 62)⟩, ⟨(some 64), none, .fa 0 (.t 63)⟩, ⟨(some 65), none, .load none (.t 64)⟩, ⟨(some 66), none, .mov (.t 1)⟩, ⟨none, none, .call (.b (.delete .str)) [(.t 65), (.t 66)]⟩]) (
  .seq (.reg [⟨(some 6), none, .mov (.c (.i .i64 0))⟩]) (
  .ret))))))))),
 [.tmp 6]⟩
/- math/bits.Len -/
noncomputable def a199 : F := ⟨8,
  .seq (.reg [⟨(some 2), none, .mov (.c (.i .i64 0))⟩]) (
  .seq (.cond (.c (.b false)) (
   .seq (.reg [⟨(some 3), none, .mov (.t 0)⟩, ⟨(some 4), none, .conv (.int .u32) (.t 3)⟩, ⟨(some 5), none, .call (.v (.c (.fn (.func 304) [] []))) [(.t 4)]⟩, ⟨(some 2), none, .mov (.t 5)⟩]) (
   .ret)) (
   .skip)) (
  .seq (.reg [⟨(some 6), none, .mov (.t 0)⟩, ⟨(some 7), none, .call (.v (.c (.fn (.func 305) [] []))) [(.t 6)]⟩, ⟨(some 2), none, .mov (.t 7)⟩]) (
  .ret))),
 [.tmp 2]⟩
/- lodestar/payload.rising -/
noncomputable def a201 : F := ⟨29,
  .seq (.reg [⟨(some 2), none, .mov (.c (.b false))⟩]) (
  .seq (.seq (.reg [⟨(some 5), none, .mov (.t 0)⟩, ⟨(some 6), none, .call (.b .lenV) [(.t 5)]⟩, ⟨(some 7), none, .mov (.c (.i .i64 0))⟩]) (
  .block 0 (.loop (
    .seq (.reg [⟨(some 8), none, .bin .lss .int false (.t 7) (.t 6)⟩]) (
    .seq (.cond (.t 8) (
     .skip) (
     .exit 0)) (
    .seq (.block 1 (.seq (.reg [⟨(some 9), none, .mov (.t 7)⟩, ⟨(some 10), none, .iaV 1 (.t 5) (.t 7)⟩, ⟨(some 11), none, .load none (.t 10)⟩, ⟨(some 3), none, .mov (.t 9)⟩, ⟨(some 4), none, .mov (.t 11)⟩]) (
     .seq (.reg [⟨(some 12), none, .mov (.t 4)⟩, ⟨(some 13), none, .call (.v (.c (.fn (.func 314) [] []))) [(.t 12)]⟩, ⟨(some 14), none, .un .not (.t 13)⟩, ⟨(some 15), none, .mov (.t 14)⟩, ⟨(some 16), (some (15, false)), .mov (.t 3)⟩, ⟨(some 17), (some (15, false)), .bin .gtr .int false (.t 16) (.c (.i .i64 0))⟩, ⟨(some 18), (some (15, false)), .mov (.t 17)⟩, ⟨(some 19), (some (18, true)), .mov (.t 0)⟩, ⟨(some 20), (some (18, true)), .mov (.t 3)⟩, ⟨(some 21), (some (18, true)), .bin .sub .int false (.t 20) (.c (.i .i64 1))⟩, ⟨(some 22), (some (18, true)), .iaV 1 (.t 19) (.t 21)⟩, ⟨(some 23), (some (18, true)), .load none (.t 22)⟩, ⟨(some 24), (some (18, true)), .mov (.t 4)⟩, ⟨(some 25), (some (18, true)), .bin .geq .str false (.t 23) (.t 24)⟩, ⟨(some 26), (some (15, false)), .pick (.t 18) (.t 25) (.c (.b false))⟩, ⟨(some 27), none, .pick (.t 15) (.c (.b true)) (.t 26)⟩]) (
     .cond (.t 27) (
      .seq (.reg [⟨(some 2), none, .mov (.c (.b false))⟩]) (
      .ret)) (
      .skip))))) (
    .reg [⟨(some 28), none, .bin .add .int false (.t 7) (.c (.i .i64 1))⟩, ⟨(some 7), none, .mov (.t 28)⟩]))))))) (
  .seq (.reg [⟨(some 2), none, .mov (.c (.b true))⟩]) (
  .ret))),
 [.tmp 2]⟩
/- lodestar/payload.named[lodestar/api.VecSpec] -/
noncomputable def a202 : F := ⟨22,
  .seq (.reg [⟨(some 4), none, .mov (.c (.sl none 0 0))⟩]) (
  .seq (.reg [⟨(some 5), none, .mov (.c (.sl none 0 0))⟩]) (
  .seq (.seq (.reg [⟨(some 8), none, .mov (.t 0)⟩, ⟨(some 9), none, .call (.b .lenV) [(.t 8)]⟩, ⟨(some 10), none, .mov (.c (.i .i64 0))⟩]) (
  .block 0 (.loop (
    .seq (.reg [⟨(some 11), none, .bin .lss .int false (.t 10) (.t 9)⟩]) (
    .seq (.cond (.t 11) (
     .skip) (
     .exit 0)) (
    .seq (.block 1 (.seq (.reg [⟨(some 12), none, .iaV 3 (.t 8) (.t 10)⟩, ⟨(some 13), none, .load (some 3) (.t 12)⟩, ⟨(some 7), none, .new [(.s []), (.i .i64 0), (.i .i64 0)] 60⟩, ⟨none, none, .store 3 (.t 7) (.t 13)⟩]) (
     .reg [⟨(some 14), none, .mov (.t 5)⟩, ⟨(some 15), none, .mov (.t 1)⟩, ⟨(some 16), none, .load (some 3) (.t 7)⟩, ⟨(some 17), none, .call (.v (.t 15)) [(.t 16)]⟩, ⟨(some 18), none, .buildS [(.s [])] 1 [(0, 1, (.t 17))] 9⟩, ⟨(some 19), none, .call (.b (.append 1 16 9)) [(.t 14), (.t 18)]⟩, ⟨(some 5), none, .mov (.t 19)⟩]))) (
    .reg [⟨(some 20), none, .bin .add .int false (.t 10) (.c (.i .i64 1))⟩, ⟨(some 10), none, .mov (.t 20)⟩]))))))) (
  .seq (.reg [⟨(some 21), none, .mov (.t 5)⟩, ⟨(some 4), none, .mov (.t 21)⟩]) (
  .ret)))),
 [.tmp 4]⟩
/- lodestar/payload.CheckSchema$1 -/
noncomputable def a203 : F := ⟨5,
  .seq (.reg [⟨(some 1), none, .box (.t 0) 60⟩, ⟨(some 2), none, .mov (.c (.s []))⟩]) (
  .seq (.reg [⟨(some 3), none, .fa 0 (.t 1)⟩, ⟨(some 4), none, .load none (.t 3)⟩, ⟨(some 2), none, .mov (.t 4)⟩]) (
  .ret)),
 [.tmp 2]⟩
/- lodestar/payload.named[lodestar/api.FieldSpec] -/
noncomputable def a204 : F := ⟨22,
  .seq (.reg [⟨(some 4), none, .mov (.c (.sl none 0 0))⟩]) (
  .seq (.reg [⟨(some 5), none, .mov (.c (.sl none 0 0))⟩]) (
  .seq (.seq (.reg [⟨(some 8), none, .mov (.t 0)⟩, ⟨(some 9), none, .call (.b .lenV) [(.t 8)]⟩, ⟨(some 10), none, .mov (.c (.i .i64 0))⟩]) (
  .block 0 (.loop (
    .seq (.reg [⟨(some 11), none, .bin .lss .int false (.t 10) (.t 9)⟩]) (
    .seq (.cond (.t 11) (
     .skip) (
     .exit 0)) (
    .seq (.block 1 (.seq (.reg [⟨(some 12), none, .iaV 2 (.t 8) (.t 10)⟩, ⟨(some 13), none, .load (some 2) (.t 12)⟩, ⟨(some 7), none, .new [(.s []), (.i .i64 0)] 62⟩, ⟨none, none, .store 2 (.t 7) (.t 13)⟩]) (
     .reg [⟨(some 14), none, .mov (.t 5)⟩, ⟨(some 15), none, .mov (.t 1)⟩, ⟨(some 16), none, .load (some 2) (.t 7)⟩, ⟨(some 17), none, .call (.v (.t 15)) [(.t 16)]⟩, ⟨(some 18), none, .buildS [(.s [])] 1 [(0, 1, (.t 17))] 9⟩, ⟨(some 19), none, .call (.b (.append 1 16 9)) [(.t 14), (.t 18)]⟩, ⟨(some 5), none, .mov (.t 19)⟩]))) (
    .reg [⟨(some 20), none, .bin .add .int false (.t 10) (.c (.i .i64 1))⟩, ⟨(some 10), none, .mov (.t 20)⟩]))))))) (
  .seq (.reg [⟨(some 21), none, .mov (.t 5)⟩, ⟨(some 4), none, .mov (.t 21)⟩]) (
  .ret)))),
 [.tmp 4]⟩
/- lodestar/payload.CheckSchema$2 -/
noncomputable def a205 : F := ⟨5,
  .seq (.reg [⟨(some 1), none, .box (.t 0) 62⟩, ⟨(some 2), none, .mov (.c (.s []))⟩]) (
  .seq (.reg [⟨(some 3), none, .fa 0 (.t 1)⟩, ⟨(some 4), none, .load none (.t 3)⟩, ⟨(some 2), none, .mov (.t 4)⟩]) (
  .ret)),
 [.tmp 2]⟩
/- internal/strconv.small -/
noncomputable def a207 : F := ⟨15,
  .seq (.reg [⟨(some 2), none, .mov (.c (.s []))⟩]) (
  .seq (.seq (.reg [⟨(some 3), none, .mov (.t 0)⟩, ⟨(some 4), none, .bin .lss .int false (.t 3) (.c (.i .i64 10))⟩]) (
  .cond (.t 4) (
   .seq (.reg [⟨(some 5), none, .mov (.t 0)⟩, ⟨(some 6), none, .mov (.t 0)⟩, ⟨(some 7), none, .bin .add .int false (.t 6) (.c (.i .i64 1))⟩, ⟨(some 8), none, .slS (.c (.s [48, 49, 50, 51, 52, 53, 54, 55, 56, 57, 97, 98, 99, 100, 101, 102, 103, 104, 105, 106, 107, 108, 109, 110, 111, 112, 113, 114, 115, 116, 117, 118, 119, 120, 121, 122])) (some (.t 5)) (some (.t 7))⟩, ⟨(some 2), none, .mov (.t 8)⟩]) (
   .ret)) (
   .skip))) (
  .seq (.reg [⟨(some 9), none, .mov (.t 0)⟩, ⟨(some 10), none, .bin .mul .int false (.t 9) (.c (.i .i64 2))⟩, ⟨(some 11), none, .mov (.t 0)⟩, ⟨(some 12), none, .bin .mul .int false (.t 11) (.c (.i .i64 2))⟩, ⟨(some 13), none, .bin .add .int false (.t 12) (.c (.i .i64 2))⟩, ⟨(some 14), none, .slS (.c (.s [48, 48, 48, 49, 48, 50, 48, 51, 48, 52, 48, 53, 48, 54, 48, 55, 48, 56, 48, 57, 49, 48, 49, 49, 49, 50, 49, 51, 49, 52, 49, 53, 49, 54, 49, 55, 49, 56, 49, 57, 50, 48, 50, 49, 50, 50, 50, 51, 50, 52, 50, 53, 50, 54, 50, 55, 50, 56, 50, 57, 51, 48, 51, 49, 51, 50, 51, 51, 51, 52, 51, 53, 51, 54, 51, 55, 51, 56, 51, 57, 52, 48, 52, 49, 52, 50, 52, 51, 52, 52, 52, 53, 52, 54, 52, 55, 52, 56, 52, 57, 53, 48, 53, 49, 53, 50, 53, 51, 53, 52, 53, 53, 53, 54, 53, 55, 53, 56, 53, 57, 54, 48, 54, 49, 54, 50, 54, 51, 54, 52, 54, 53, 54, 54, 54, 55, 54, 56, 54, 57, 55, 48, 55, 49, 55, 50, 55, 51, 55, 52, 55, 53, 55, 54, 55, 55, 55, 56, 55, 57, 56, 48, 56, 49, 56, 50, 56, 51, 56, 52, 56, 53, 56, 54, 56, 55, 56, 56, 56, 57, 57, 48, 57, 49, 57, 50, 57, 51, 57, 52, 57, 53, 57, 54, 57, 55, 57, 56, 57, 57])) (some (.t 10)) (some (.t 13))⟩, ⟨(some 2), none, .mov (.t 14)⟩]) (
  .ret))),
 [.tmp 2]⟩
/- internal/strconv.numDigits -/
noncomputable def a208 : F := ⟨15,
  .seq (.reg [⟨(some 2), none, .mov (.c (.i .i64 0))⟩]) (
  .seq (.reg [⟨(some 4), none, .mov (.t 0)⟩, ⟨(some 5), none, .call (.v (.c (.fn (.func 305) [] []))) [(.t 4)]⟩, ⟨(some 6), none, .call (.v (.c (.fn (.func 315) [] []))) [(.t 5)]⟩, ⟨(some 3), none, .mov (.t 6)⟩]) (
  .seq (.reg [⟨(some 7), none, .mov (.t 3)⟩, ⟨(some 8), none, .mov (.t 0)⟩, ⟨(some 9), none, .mov (.t 3)⟩, ⟨(some 10), none, .iaA 20 1 (.c (.p (some ⟨(.old 1), 0⟩))) (.t 9)⟩, ⟨(some 11), none, .load none (.t 10)⟩, ⟨(some 12), none, .bin .geq .int false (.t 8) (.t 11)⟩, ⟨(some 13), none, .call (.v (.c (.fn (.func 316) [] []))) [(.t 12)]⟩, ⟨(some 14), none, .bin .add .int false (.t 7) (.t 13)⟩, ⟨(some 2), none, .mov (.t 14)⟩]) (
  .ret))),
 [.tmp 2]⟩
/- internal/strconv.formatBase10 -/
noncomputable def a209 : F := ⟨167,
  .seq (.reg [⟨(some 17), none, .mov (.t 0)⟩, ⟨(some 18), none, .call (.b .lenV) [(.t 17)]⟩, ⟨(some 4), none, .mov (.t 18)⟩]) (
  .seq (.block 0 (.loop (
    .seq (.seq (.reg [⟨(some 19), none, .mov (.t 4)⟩, ⟨(some 20), none, .bin .geq .int false (.t 19) (.c (.i .i64 8))⟩]) (
    .cond (.t 20) (
     .skip) (
     .exit 0))) (
    .block 1 (.seq (.reg [⟨(some 21), none, .mov (.t 1)⟩, ⟨(some 22), none, .bin .rem .int false (.t 21) (.c (.i .u64 100000000))⟩, ⟨(some 23), none, .conv (.int .u32) (.t 22)⟩, ⟨(some 5), none, .mov (.t 23)⟩]) (
     .seq (.reg [⟨(some 24), none, .mov (.t 1)⟩, ⟨(some 25), none, .bin .quo .int false (.t 24) (.c (.i .u64 100000000))⟩, ⟨(some 1), none, .mov (.t 25)⟩]) (
     .seq (.reg [⟨(some 26), none, .mov (.t 5)⟩, ⟨(some 27), none, .bin .quo .int false (.t 26) (.c (.i .u32 10000))⟩, ⟨(some 28), none, .mov (.t 5)⟩, ⟨(some 29), none, .bin .rem .int false (.t 28) (.c (.i .u32 10000))⟩, ⟨(some 6), none, .mov (.t 27)⟩, ⟨(some 7), none, .mov (.t 29)⟩]) (
     .seq (.reg [⟨(some 30), none, .mov (.t 7)⟩, ⟨(some 31), none, .bin .quo .int false (.t 30) (.c (.i .u32 100))⟩, ⟨(some 32), none, .bin .mul .int false (.t 31) (.c (.i .u32 2))⟩, ⟨(some 33), none, .mov (.t 7)⟩, ⟨(some 34), none, .bin .rem .int false (.t 33) (.c (.i .u32 100))⟩, ⟨(some 35), none, .bin .mul .int false (.t 34) (.c (.i .u32 2))⟩, ⟨(some 8), none, .mov (.t 32)⟩, ⟨(some 9), none, .mov (.t 35)⟩]) (
     .seq (.reg [⟨(some 36), none, .mov (.t 6)⟩, ⟨(some 37), none, .bin .quo .int false (.t 36) (.c (.i .u32 100))⟩, ⟨(some 38), none, .bin .mul .int false (.t 37) (.c (.i .u32 2))⟩, ⟨(some 39), none, .mov (.t 6)⟩, ⟨(some 40), none, .bin .rem .int false (.t 39) (.c (.i .u32 100))⟩, ⟨(some 41), none, .bin .mul .int false (.t 40) (.c (.i .u32 2))⟩, ⟨(some 10), none, .mov (.t 38)⟩, ⟨(some 11), none, .mov (.t 41)⟩]) (
     .seq (.dreg [[.fl ⟨(some 42), none, .mov (.t 0)⟩ 0, .fl ⟨(some 43), none, .mov (.t 4)⟩ 0, .fl ⟨(some 44), none, .bin .sub .int false (.t 43) (.c (.i .i64 1))⟩ 0, .fl ⟨(some 45), none, .mov (.t 0)⟩ 0, .fl ⟨(some 46), none, .mov (.t 4)⟩ 0, .fl ⟨(some 47), none, .bin .sub .int false (.t 46) (.c (.i .i64 2))⟩ 0, .fl ⟨(some 48), none, .mov (.t 9)⟩ 0, .fl ⟨(some 49), none, .bin .add .int false (.t 48) (.c (.i .u32 1))⟩ 0, .fl ⟨(some 50), none, .ixS (.c (.s [48, 48, 48, 49, 48, 50, 48, 51, 48, 52, 48, 53, 48, 54, 48, 55, 48, 56, 48, 57, 49, 48, 49, 49, 49, 50, 49, 51, 49, 52, 49, 53, 49, 54, 49, 55, 49, 56, 49, 57, 50, 48, 50, 49, 50, 50, 50, 51, 50, 52, 50, 53, 50, 54, 50, 55, 50, 56, 50, 57, 51, 48, 51, 49, 51, 50, 51, 51, 51, 52, 51, 53, 51, 54, 51, 55, 51, 56, 51, 57, 52, 48, 52, 49, 52, 50, 52, 51, 52, 52, 52, 53, 52, 54, 52, 55, 52, 56, 52, 57, 53, 48, 53, 49, 53, 50, 53, 51, 53, 52, 53, 53, 53, 54, 53, 55, 53, 56, 53, 57, 54, 48, 54, 49, 54, 50, 54, 51, 54, 52, 54, 53, 54, 54, 54, 55, 54, 56, 54, 57, 55, 48, 55, 49, 55, 50, 55, 51, 55, 52, 55, 53, 55, 54, 55, 55, 55, 56, 55, 57, 56, 48, 56, 49, 56, 50, 56, 51, 56, 52, 56, 53, 56, 54, 56, 55, 56, 56, 56, 57, 57, 48, 57, 49, 57, 50, 57, 51, 57, 52, 57, 53, 57, 54, 57, 55, 57, 56, 57, 57])) (.t 49)⟩ 0, .fl ⟨(some 51), none, .mov (.t 9)⟩ 0, .fl ⟨(some 52), none, .ixS (.c (.s [48, 48, 48, 49, 48, 50, 48, 51, 48, 52, 48, 53, 48, 54, 48, 55, 48, 56, 48, 57, 49, 48, 49, 49, 49, 50, 49, 51, 49, 52, 49, 53, 49, 54, 49, 55, 49, 56, 49, 57, 50, 48, 50, 49, 50, 50, 50, 51, 50, 52, 50, 53, 50, 54, 50, 55, 50, 56, 50, 57, 51, 48, 51, 49, 51, 50, 51, 51, 51, 52, 51, 53, 51, 54, 51, 55, 51, 56, 51, 57, 52, 48, 52, 49, 52, 50, 52, 51, 52, 52, 52, 53, 52, 54, 52, 55, 52, 56, 52, 57, 53, 48, 53, 49, 53, 50, 53, 51, 53, 52, 53, 53, 53, 54, 53, 55, 53, 56, 53, 57, 54, 48, 54, 49, 54, 50, 54, 51, 54, 52, 54, 53, 54, 54, 54, 55, 54, 56, 54, 57, 55, 48, 55, 49, 55, 50, 55, 51, 55, 52, 55, 53, 55, 54, 55, 55, 55, 56, 55, 57, 56, 48, 56, 49, 56, 50, 56, 51, 56, 52, 56, 53, 56, 54, 56, 55, 56, 56, 56, 57, 57, 48, 57, 49, 57, 50, 57, 51, 57, 52, 57, 53, 57, 54, 57, 55, 57, 56, 57, 57])) (.t 51)⟩ 0, .fl ⟨(some 53), none, .iaV 1 (.t 42) (.t 44)⟩ 0, .an ⟨none, none, .store 1 (.t 53) (.t 50)⟩ [], .fl ⟨(some 54), none, .iaV 1 (.t 45) (.t 47)⟩ 0, .an ⟨none, none, .store 1 (.t 54) (.t 52)⟩ []]] 0) (
     .seq (.dreg [[.fl ⟨(some 55), none, .mov (.t 0)⟩ 0, .fl ⟨(some 56), none, .mov (.t 4)⟩ 0, .fl ⟨(some 57), none, .bin .sub .int false (.t 56) (.c (.i .i64 3))⟩ 0, .fl ⟨(some 58), none, .mov (.t 0)⟩ 0, .fl ⟨(some 59), none, .mov (.t 4)⟩ 0, .fl ⟨(some 60), none, .bin .sub .int false (.t 59) (.c (.i .i64 4))⟩ 0, .fl ⟨(some 61), none, .mov (.t 8)⟩ 0, .fl ⟨(some 62), none, .bin .add .int false (.t 61) (.c (.i .u32 1))⟩ 0, .fl ⟨(some 63), none, .ixS (.c (.s [48, 48, 48, 49, 48, 50, 48, 51, 48, 52, 48, 53, 48, 54, 48, 55, 48, 56, 48, 57, 49, 48, 49, 49, 49, 50, 49, 51, 49, 52, 49, 53, 49, 54, 49, 55, 49, 56, 49, 57, 50, 48, 50, 49, 50, 50, 50, 51, 50, 52, 50, 53, 50, 54, 50, 55, 50, 56, 50, 57, 51, 48, 51, 49, 51, 50, 51, 51, 51, 52, 51, 53, 51, 54, 51, 55, 51, 56, 51, 57, 52, 48, 52, 49, 52, 50, 52, 51, 52, 52, 52, 53, 52, 54, 52, 55, 52, 56, 52, 57, 53, 48, 53, 49, 53, 50, 53, 51, 53, 52, 53, 53, 53, 54, 53, 55, 53, 56, 53, 57, 54, 48, 54, 49, 54, 50, 54, 51, 54, 52, 54, 53, 54, 54, 54, 55, 54, 56, 54, 57, 55, 48, 55, 49, 55, 50, 55, 51, 55, 52, 55, 53, 55, 54, 55, 55, 55, 56, 55, 57, 56, 48, 56, 49, 56, 50, 56, 51, 56, 52, 56, 53, 56, 54, 56, 55, 56, 56, 56, 57, 57, 48, 57, 49, 57, 50, 57, 51, 57, 52, 57, 53, 57, 54, 57, 55, 57, 56, 57, 57])) (.t 62)⟩ 0, .fl ⟨(some 64), none, .mov (.t 8)⟩ 0, .fl ⟨(some 65), none, .ixS (.c (.s [48, 48, 48, 49, 48, 50, 48, 51, 48, 52, 48, 53, 48, 54, 48, 55, 48, 56, 48, 57, 49, 48, 49, 49, 49, 50, 49, 51, 49, 52, 49, 53, 49, 54, 49, 55, 49, 56, 49, 57, 50, 48, 50, 49, 50, 50, 50, 51, 50, 52, 50, 53, 50, 54, 50, 55, 50, 56, 50, 57, 51, 48, 51, 49, 51, 50, 51, 51, 51, 52, 51, 53, 51, 54, 51, 55, 51, 56, 51, 57, 52, 48, 52, 49, 52, 50, 52, 51, 52, 52, 52, 53, 52, 54, 52, 55, 52, 56, 52, 57, 53, 48, 53, 49, 53, 50, 53, 51, 53, 52, 53, 53, 53, 54, 53, 55, 53, 56, 53, 57, 54, 48, 54, 49, 54, 50, 54, 51, 54, 52, 54, 53, 54, 54, 54, 55, 54, 56, 54, 57, 55, 48, 55, 49, 55, 50, 55, 51, 55, 52, 55, 53, 55, 54, 55, 55, 55, 56, 55, 57, 56, 48, 56, 49, 56, 50, 56, 51, 56, 52, 56, 53, 56, 54, 56, 55, 56, 56, 56, 57, 57, 48, 57, 49, 57, 50, 57, 51, 57, 52, 57, 53, 57, 54, 57, 55, 57, 56, 57, 57])) (.t 64)⟩ 0, .fl ⟨(some 66), none, .iaV 1 (.t 55) (.t 57)⟩ 0, .an ⟨none, none, .store 1 (.t 66) (.t 63)⟩ [], .fl ⟨(some 67), none, .iaV 1 (.t 58) (.t 60)⟩ 0, .an ⟨none, none, .store 1 (.t 67) (.t 65)⟩ []]] 0) (
     .seq (.dreg [[.fl ⟨(some 68), none, .mov (.t 0)⟩ 0, .fl ⟨(some 69), none, .mov (.t 4)⟩ 0, .fl ⟨(some 70), none, .bin .sub .int false (.t 69) (.c (.i .i64 5))⟩ 0, .fl ⟨(some 71), none, .mov (.t 0)⟩ 0, .fl ⟨(some 72), none, .mov (.t 4)⟩ 0, .fl ⟨(some 73), none, .bin .sub .int false (.t 72) (.c (.i .i64 6))⟩ 0, .fl ⟨(some 74), none, .mov (.t 11)⟩ 0, .fl ⟨(some 75), none, .bin .add .int false (.t 74) (.c (.i .u32 1))⟩ 0, .fl ⟨(some 76), none, .ixS (.c (.s [48, 48, 48, 49, 48, 50, 48, 51, 48, 52, 48, 53, 48, 54, 48, 55, 48, 56, 48, 57, 49, 48, 49, 49, 49, 50, 49, 51, 49, 52, 49, 53, 49, 54, 49, 55, 49, 56, 49, 57, 50, 48, 50, 49, 50, 50, 50, 51, 50, 52, 50, 53, 50, 54, 50, 55, 50, 56, 50, 57, 51, 48, 51, 49, 51, 50, 51, 51, 51, 52, 51, 53, 51, 54, 51, 55, 51, 56, 51, 57, 52, 48, 52, 49, 52, 50, 52, 51, 52, 52, 52, 53, 52, 54, 52, 55, 52, 56, 52, 57, 53, 48, 53, 49, 53, 50, 53, 51, 53, 52, 53, 53, 53, 54, 53, 55, 53, 56, 53, 57, 54, 48, 54, 49, 54, 50, 54, 51, 54, 52, 54, 53, 54, 54, 54, 55, 54, 56, 54, 57, 55, 48, 55, 49, 55, 50, 55, 51, 55, 52, 55, 53, 55, 54, 55, 55, 55, 56, 55, 57, 56, 48, 56, 49, 56, 50, 56, 51, 56, 52, 56, 53, 56, 54, 56, 55, 56, 56, 56, 57, 57, 48, 57, 49, 57, 50, 57, 51, 57, 52, 57, 53, 57, 54, 57, 55, 57, 56, 57, 57])) (.t 75)⟩ 0, .fl ⟨(some 77), none, .mov (.t 11)⟩ 0, .fl ⟨(some 78), none, .ixS (.c (.s [48, 48, 48, 49, 48, 50, 48, 51, 48, 52, 48, 53, 48, 54, 48, 55, 48, 56, 48, 57, 49, 48, 49, 49, 49, 50, 49, 51, 49, 52, 49, 53, 49, 54, 49, 55, 49, 56, 49, 57, 50, 48, 50, 49, 50, 50, 50, 51, 50, 52, 50, 53, 50, 54, 50, 55, 50, 56, 50, 57, 51, 48, 51, 49, 51, 50, 51, 51, 51, 52, 51, 53, 51, 54, 51, 55, 51, 56, 51, 57, 52, 48, 52, 49, 52, 50, 52, 51, 52, 52, 52, 53, 52, 54, 52, 55, 52, 56, 52, 57, 53, 48, 53, 49, 53, 50, 53, 51, 53, 52, 53, 53, 53, 54, 53, 55, 53, 56, 53, 57, 54, 48, 54, 49, 54, 50, 54, 51, 54, 52, 54, 53, 54, 54, 54, 55, 54, 56, 54, 57, 55, 48, 55, 49, 55, 50, 55, 51, 55, 52, 55, 53, 55, 54, 55, 55, 55, 56, 55, 57, 56, 48, 56, 49, 56, 50, 56, 51, 56, 52, 56, 53, 56, 54, 56, 55, 56, 56, 56, 57, 57, 48, 57, 49, 57, 50, 57, 51, 57, 52, 57, 53, 57, 54, 57, 55, 57, 56, 57, 57])) (.t 77)⟩ 0, .fl ⟨(some 79), none, .iaV 1 (.t 68) (.t 70)⟩ 0, .an ⟨none, none, .store 1 (.t 79) (.t 76)⟩ [], .fl ⟨(some 80), none, .iaV 1 (.t 71) (.t 73)⟩ 0, .an ⟨none, none, .store 1 (.t 80) (.t 78)⟩ []]] 0) (
     .seq (.dreg [[.fl ⟨(some 81), none, .mov (.t 0)⟩ 0, .fl ⟨(some 82), none, .mov (.t 4)⟩ 0, .fl ⟨(some 83), none, .bin .sub .int false (.t 82) (.c (.i .i64 7))⟩ 0, .fl ⟨(some 84), none, .mov (.t 0)⟩ 0, .fl ⟨(some 85), none, .mov (.t 4)⟩ 0, .fl ⟨(some 86), none, .bin .sub .int false (.t 85) (.c (.i .i64 8))⟩ 0, .fl ⟨(some 87), none, .mov (.t 10)⟩ 0, .fl ⟨(some 88), none, .bin .add .int false (.t 87) (.c (.i .u32 1))⟩ 0, .fl ⟨(some 89), none, .ixS (.c (.s [48, 48, 48, 49, 48, 50, 48, 51, 48, 52, 48, 53, 48, 54, 48, 55, 48, 56, 48, 57, 49, 48, 49, 49, 49, 50, 49, 51, 49, 52, 49, 53, 49, 54, 49, 55, 49, 56, 49, 57, 50, 48, 50, 49, 50, 50, 50, 51, 50, 52, 50, 53, 50, 54, 50, 55, 50, 56, 50, 57, 51, 48, 51, 49, 51, 50, 51, 51, 51, 52, 51, 53, 51, 54, 51, 55, 51, 56, 51, 57, 52, 48, 52, 49, 52, 50, 52, 51, 52, 52, 52, 53, 52, 54, 52, 55, 52, 56, 52, 57, 53, 48, 53, 49, 53, 50, 53, 51, 53, 52, 53, 53, 53, 54, 53, 55, 53, 56, 53, 57, 54, 48, 54, 49, 54, 50, 54, 51, 54, 52, 54, 53, 54, 54, 54, 55, 54, 56, 54, 57, 55, 48, 55, 49, 55, 50, 55, 51, 55, 52, 55, 53, 55, 54, 55, 55, 55, 56, 55, 57, 56, 48, 56, 49, 56, 50, 56, 51, 56, 52, 56, 53, 56, 54, 56, 55, 56, 56, 56, 57, 57, 48, 57, 49, 57, 50, 57, 51, 57, 52, 57, 53, 57, 54, 57, 55, 57, 56, 57, 57])) (.t 88)⟩ 0, .fl ⟨(some 90), none, .mov (.t 10)⟩ 0, .fl ⟨(some 91), none, .ixS (.c (.s [48, 48, 48, 49, 48, 50, 48, 51, 48, 52, 48, 53, 48, 54, 48, 55, 48, 56, 48, 57, 49, 48, 49, 49, 49, 50, 49, 51, 49, 52, 49, 53, 49, 54, 49, 55, 49, 56, 49, 57, 50, 48, 50, 49, 50, 50, 50, 51, 50, 52, 50, 53, 50, 54, 50, 55, 50, 56, 50, 57, 51, 48, 51, 49, 51, 50, 51, 51, 51, 52, 51, 53, 51, 54, 51, 55, 51, 56, 51, 57, 52, 48, 52, 49, 52, 50, 52, 51, 52, 52, 52, 53, 52, 54, 52, 55, 52, 56, 52, 57, 53, 48, 53, 49, 53, 50, 53, 51, 53, 52, 53, 53, 53, 54, 53, 55, 53, 56, 53, 57, 54, 48, 54, 49, 54, 50, 54, 51, 54, 52, 54, 53, 54, 54, 54, 55, 54, 56, 54, 57, 55, 48, 55, 49, 55, 50, 55, 51, 55, 52, 55, 53, 55, 54, 55, 55, 55, 56, 55, 57, 56, 48, 56, 49, 56, 50, 56, 51, 56, 52, 56, 53, 56, 54, 56, 55, 56, 56, 56, 57, 57, 48, 57, 49, 57, 50, 57, 51, 57, 52, 57, 53, 57, 54, 57, 55, 57, 56, 57, 57])) (.t 90)⟩ 0, .fl ⟨(some 92), none, .iaV 1 (.t 81) (.t 83)⟩ 0, .an ⟨none, none, .store 1 (.t 92) (.t 89)⟩ [], .fl ⟨(some 93), none, .iaV 1 (.t 84) (.t 86)⟩ 0, .an ⟨none, none, .store 1 (.t 93) (.t 91)⟩ []]] 0) (
     .reg [⟨(some 94), none, .mov (.t 4)⟩, ⟨(some 95), none, .bin .sub .int false (.t 94) (.c (.i .i64 8))⟩, ⟨(some 4), none, .mov (.t 95)⟩])))))))))))))) (
  .seq (.reg [⟨(some 96), none, .mov (.t 1)⟩, ⟨(some 97), none, .conv (.int .u32) (.t 96)⟩, ⟨(some 12), none, .mov (.t 97)⟩]) (
  .seq (.seq (.reg [⟨(some 98), none, .mov (.t 4)⟩, ⟨(some 99), none, .bin .geq .int false (.t 98) (.c (.i .i64 4))⟩]) (
  .cond (.t 99) (
   .seq (.reg [⟨(some 100), none, .mov (.t 12)⟩, ⟨(some 101), none, .bin .rem .int false (.t 100) (.c (.i .u32 10000))⟩, ⟨(some 13), none, .mov (.t 101)⟩]) (
   .seq (.reg [⟨(some 102), none, .mov (.t 12)⟩, ⟨(some 103), none, .bin .quo .int false (.t 102) (.c (.i .u32 10000))⟩, ⟨(some 12), none, .mov (.t 103)⟩]) (
   .seq (.reg [⟨(some 104), none, .mov (.t 13)⟩, ⟨(some 105), none, .bin .quo .int false (.t 104) (.c (.i .u32 100))⟩, ⟨(some 106), none, .bin .mul .int false (.t 105) (.c (.i .u32 2))⟩, ⟨(some 107), none, .mov (.t 13)⟩, ⟨(some 108), none, .bin .rem .int false (.t 107) (.c (.i .u32 100))⟩, ⟨(some 109), none, .bin .mul .int false (.t 108) (.c (.i .u32 2))⟩, ⟨(some 14), none, .mov (.t 106)⟩, ⟨(some 15), none, .mov (.t 109)⟩]) (
   .seq (.dreg [[.fl ⟨(some 110), none, .mov (.t 0)⟩ 0, .fl ⟨(some 111), none, .mov (.t 4)⟩ 0, .fl ⟨(some 112), none, .bin .sub .int false (.t 111) (.c (.i .i64 1))⟩ 0, .fl ⟨(some 113), none, .mov (.t 0)⟩ 0, .fl ⟨(some 114), none, .mov (.t 4)⟩ 0, .fl ⟨(some 115), none, .bin .sub .int false (.t 114) (.c (.i .i64 2))⟩ 0, .fl ⟨(some 116), none, .mov (.t 15)⟩ 0, .fl ⟨(some 117), none, .bin .add .int false (.t 116) (.c (.i .u32 1))⟩ 0, .fl ⟨(some 118), none, .ixS (.c (.s [48, 48, 48, 49, 48, 50, 48, 51, 48, 52, 48, 53, 48, 54, 48, 55, 48, 56, 48, 57, 49, 48, 49, 49, 49, 50, 49, 51, 49, 52, 49, 53, 49, 54, 49, 55, 49, 56, 49, 57, 50, 48, 50, 49, 50, 50, 50, 51, 50, 52, 50, 53, 50, 54, 50, 55, 50, 56, 50, 57, 51, 48, 51, 49, 51, 50, 51, 51, 51, 52, 51, 53, 51, 54, 51, 55, 51, 56, 51, 57, 52, 48, 52, 49, 52, 50, 52, 51, 52, 52, 52, 53, 52, 54, 52, 55, 52, 56, 52, 57, 53, 48, 53, 49, 53, 50, 53, 51, 53, 52, 53, 53, 53, 54, 53, 55, 53, 56, 53, 57, 54, 48, 54, 49, 54, 50, 54, 51, 54, 52, 54, 53, 54, 54, 54, 55, 54, 56, 54, 57, 55, 48, 55, 49, 55, 50, 55, 51, 55, 52, 55, 53, 55, 54, 55, 55, 55, 56, 55, 57, 56, 48, 56, 49, 56, 50, 56, 51, 56, 52, 56, 53, 56, 54, 56, 55, 56, 56, 56, 57, 57, 48, 57, 49, 57, 50, 57, 51, 57, 52, 57, 53, 57, 54, 57, 55, 57, 56, 57, 57])) (.t 117)⟩ 0, .fl ⟨(some 119), none, .mov (.t 15)⟩ 0, .fl ⟨(some 120), none, .ixS (.c (.s [48, 48, 48, 49, 48, 50, 48, 51, 48, 52, 48, 53, 48, 54, 48, 55, 48, 56, 48, 57, 49, 48, 49, 49, 49, 50, 49, 51, 49, 52, 49, 53, 49, 54, 49, 55, 49, 56, 49, 57, 50, 48, 50, 49, 50, 50, 50, 51, 50, 52, 50, 53, 50, 54, 50, 55, 50, 56, 50, 57, 51, 48, 51, 49, 51, 50, 51, 51, 51, 52, 51, 53, 51, 54, 51, 55, 51, 56, 51, 57, 52, 48, 52, 49, 52, 50, 52, 51, 52, 52, 52, 53, 52, 54, 52, 55, 52, 56, 52, 57, 53, 48, 53, 49, 53, 50, 53, 51, 53, 52, 53, 53, 53, 54, 53, 55, 53, 56, 53, 57, 54, 48, 54, 49, 54, 50, 54, 51, 54, 52, 54, 53, 54, 54, 54, 55, 54, 56, 54, 57, 55, 48, 55, 49, 55, 50, 55, 51, 55, 52, 55, 53, 55, 54, 55, 55, 55, 56, 55, 57, 56, 48, 56, 49, 56, 50, 56, 51, 56, 52, 56, 53, 56, 54, 56, 55, 56, 56, 56, 57, 57, 48, 57, 49, 57, 50, 57, 51, 57, 52, 57, 53, 57, 54, 57, 55, 57, 56, 57, 57])) (.t 119)⟩ 0, .fl ⟨(some 121), none, .iaV 1 (.t 110) (.t 112)⟩ 0, .an ⟨none, none, .store 1 (.t 121) (.t 118)⟩ [], .fl ⟨(some 122), none, .iaV 1 (.t 113) (.t 115)⟩ 0, .an ⟨none, none, .store 1 (.t 122) (.t 120)⟩ []]] 0) (
   .seq (.dreg [[.fl ⟨(some 123), none, .mov (.t 0)⟩ 0, .fl ⟨(some 124), none, .mov (.t 4)⟩ 0, .fl ⟨(some 125), none, .bin .sub .int false (.t 124) (.c (.i .i64 3))⟩ 0, .fl ⟨(some 126), none, .mov (.t 0)⟩ 0, .fl ⟨(some 127), none, .mov (.t 4)⟩ 0, .fl ⟨(some 128), none, .bin .sub .int false (.t 127) (.c (.i .i64 4))⟩ 0, .fl ⟨(some 129), none, .mov (.t 14)⟩ 0, .fl ⟨(some 130), none, .bin .add .int false (.t 129) (.c (.i .u32 1))⟩ 0, .fl ⟨(some 131), none, .ixS (.c (.s [48, 48, 48, 49, 48, 50, 48, 51, 48, 52, 48, 53, 48, 54, 48, 55, 48, 56, 48, 57, 49, 48, 49, 49, 49, 50, 49, 51, 49, 52, 49, 53, 49, 54, 49, 55, 49, 56, 49, 57, 50, 48, 50, 49, 50, 50, 50, 51, 50, 52, 50, 53, 50, 54, 50, 55, 50, 56, 50, 57, 51, 48, 51, 49, 51, 50, 51, 51, 51, 52, 51, 53, 51, 54, 51, 55, 51, 56, 51, 57, 52, 48, 52, 49, 52, 50, 52, 51, 52, 52, 52, 53, 52, 54, 52, 55, 52, 56, 52, 57, 53, 48, 53, 49, 53, 50, 53, 51, 53, 52, 53, 53, 53, 54, 53, 55, 53, 56, 53, 57, 54, 48, 54, 49, 54, 50, 54, 51, 54, 52, 54, 53, 54, 54, 54, 55, 54, 56, 54, 57, 55, 48, 55, 49, 55, 50, 55, 51, 55, 52, 55, 53, 55, 54, 55, 55, 55, 56, 55, 57, 56, 48, 56, 49, 56, 50, 56, 51, 56, 52, 56, 53, 56, 54, 56, 55, 56, 56, 56, 57, 57, 48, 57, 49, 57, 50, 57, 51, 57, 52, 57, 53, 57, 54, 57, 55, 57, 56, 57, 57])) (.t 130)⟩ 0, .fl ⟨(some 132), none, .mov (.t 14)⟩ 0, .fl ⟨(some 133), none, .ixS (.c (.s [48, 48, 48, 49, 48, 50, 48, 51, 48, 52, 48, 53, 48, 54, 48, 55, 48, 56, 48, 57, 49, 48, 49, 49, 49, 50, 49, 51, 49, 52, 49, 53, 49, 54, 49, 55, 49, 56, 49, 57, 50, 48, 50, 49, 50, 50, 50, 51, 50, 52, 50, 53, 50, 54, 50, 55, 50, 56, 50, 57, 51, 48, 51, 49, 51, 50, 51, 51, 51, 52, 51, 53, 51, 54, 51, 55, 51, 56, 51, 57, 52, 48, 52, 49, 52, 50, 52, 51, 52, 52, 52, 53, 52, 54, 52, 55, 52, 56, 52, 57, 53, 48, 53, 49, 53, 50, 53, 51, 53, 52, 53, 53, 53, 54, 53, 55, 53, 56, 53, 57, 54, 48, 54, 49, 54, 50, 54, 51, 54, 52, 54, 53, 54, 54, 54, 55, 54, 56, 54, 57, 55, 48, 55, 49, 55, 50, 55, 51, 55, 52, 55, 53, 55, 54, 55, 55, 55, 56, 55, 57, 56, 48, 56, 49, 56, 50, 56, 51, 56, 52, 56, 53, 56, 54, 56, 55, 56, 56, 56, 57, 57, 48, 57, 49, 57, 50, 57, 51, 57, 52, 57, 53, 57, 54, 57, 55, 57, 56, 57, 57])) (.t 132)⟩ 0, .fl ⟨(some 134), none, .iaV 1 (.t 123) (.t 125)⟩ 0, .an ⟨none, none, .store 1 (.t 134) (.t 131)⟩ [], .fl ⟨(some 135), none, .iaV 1 (.t 126) (.t 128)⟩ 0, .an ⟨none, none, .store 1 (.t 135) (.t 133)⟩ []]] 0) (
   .reg [⟨(some 136), none, .mov (.t 4)⟩, ⟨(some 137), none, .bin .sub .int false (.t 136) (.c (.i .i64 4))⟩, ⟨(some 4), none, .mov (.t 137)⟩])))))) (
   .skip))) (
  .seq (.seq (.reg [⟨(some 138), none, .mov (.t 4)⟩, ⟨(some 139), none, .bin .geq .int false (.t 138) (.c (.i .i64 2))⟩]) (
  .cond (.t 139) (
   .seq (.reg [⟨(some 140), none, .mov (.t 12)⟩, ⟨(some 141), none, .bin .rem .int false (.t 140) (.c (.i .u32 100))⟩, ⟨(some 142), none, .bin .mul .int false (.t 141) (.c (.i .u32 2))⟩, ⟨(some 16), none, .mov (.t 142)⟩]) (
   .seq (.reg [⟨(some 143), none, .mov (.t 12)⟩, ⟨(some 144), none, .bin .quo .int false (.t 143) (.c (.i .u32 100))⟩, ⟨(some 12), none, .mov (.t 144)⟩]) (
   .seq (.dreg [[.fl ⟨(some 145), none, .mov (.t 0)⟩ 0, .fl ⟨(some 146), none, .mov (.t 4)⟩ 0, .fl ⟨(some 147), none, .bin .sub .int false (.t 146) (.c (.i .i64 1))⟩ 0, .fl ⟨(some 148), none, .mov (.t 0)⟩ 0, .fl ⟨(some 149), none, .mov (.t 4)⟩ 0, .fl ⟨(some 150), none, .bin .sub .int false (.t 149) (.c (.i .i64 2))⟩ 0, .fl ⟨(some 151), none, .mov (.t 16)⟩ 0, .fl ⟨(some 152), none, .bin .add .int false (.t 151) (.c (.i .u32 1))⟩ 0, .fl ⟨(some 153), none, .ixS (.c (.s [48, 48, 48, 49, 48, 50, 48, 51, 48, 52, 48, 53, 48, 54, 48, 55, 48, 56, 48, 57, 49, 48, 49, 49, 49, 50, 49, 51, 49, 52, 49, 53, 49, 54, 49, 55, 49, 56, 49, 57, 50, 48, 50, 49, 50, 50, 50, 51, 50, 52, 50, 53, 50, 54, 50, 55, 50, 56, 50, 57, 51, 48, 51, 49, 51, 50, 51, 51, 51, 52, 51, 53, 51, 54, 51, 55, 51, 56, 51, 57, 52, 48, 52, 49, 52, 50, 52, 51, 52, 52, 52, 53, 52, 54, 52, 55, 52, 56, 52, 57, 53, 48, 53, 49, 53, 50, 53, 51, 53, 52, 53, 53, 53, 54, 53, 55, 53, 56, 53, 57, 54, 48, 54, 49, 54, 50, 54, 51, 54, 52, 54, 53, 54, 54, 54, 55, 54, 56, 54, 57, 55, 48, 55, 49, 55, 50, 55, 51, 55, 52, 55, 53, 55, 54, 55, 55, 55, 56, 55, 57, 56, 48, 56, 49, 56, 50, 56, 51, 56, 52, 56, 53, 56, 54, 56, 55, 56, 56, 56, 57, 57, 48, 57, 49, 57, 50, 57, 51, 57, 52, 57, 53, 57, 54, 57, 55, 57, 56, 57, 57])) (.t 152)⟩ 0, .fl ⟨(some 154), none, .mov (.t 16)⟩ 0, .fl ⟨(some 155), none, .ixS (.c (.s [48, 48, 48, 49, 48, 50, 48, 51, 48, 52, 48, 53, 48, 54, 48, 55, 48, 56, 48, 57, 49, 48, 49, 49, 49, 50, 49, 51, 49, 52, 49, 53, 49, 54, 49, 55, 49, 56, 49, 57, 50, 48, 50, 49, 50, 50, 50, 51, 50, 52, 50, 53, 50, 54, 50, 55, 50, 56, 50, 57, 51, 48, 51, 49, 51, 50, 51, 51, 51, 52, 51, 53, 51, 54, 51, 55, 51, 56, 51, 57, 52, 48, 52, 49, 52, 50, 52, 51, 52, 52, 52, 53, 52, 54, 52, 55, 52, 56, 52, 57, 53, 48, 53, 49, 53, 50, 53, 51, 53, 52, 53, 53, 53, 54, 53, 55, 53, 56, 53, 57, 54, 48, 54, 49, 54, 50, 54, 51, 54, 52, 54, 53, 54, 54, 54, 55, 54, 56, 54, 57, 55, 48, 55, 49, 55, 50, 55, 51, 55, 52, 55, 53, 55, 54, 55, 55, 55, 56, 55, 57, 56, 48, 56, 49, 56, 50, 56, 51, 56, 52, 56, 53, 56, 54, 56, 55, 56, 56, 56, 57, 57, 48, 57, 49, 57, 50, 57, 51, 57, 52, 57, 53, 57, 54, 57, 55, 57, 56, 57, 57])) (.t 154)⟩ 0, .fl ⟨(some 156), none, .iaV 1 (.t 145) (.t 147)⟩ 0, .an ⟨none, none, .store 1 (.t 156) (.t 153)⟩ [], .fl ⟨(some 157), none, .iaV 1 (.t 148) (.t 150)⟩ 0, .an ⟨none, none, .store 1 (.t 157) (.t 155)⟩ []]] 0) (
   .reg [⟨(some 158), none, .mov (.t 4)⟩, ⟨(some 159), none, .bin .sub .int false (.t 158) (.c (.i .i64 2))⟩, ⟨(some 4), none, .mov (.t 159)⟩])))) (
   .skip))) (
  .seq (.reg [⟨(some 160), none, .mov (.t 4)⟩, ⟨(some 161), none, .bin .gtr .int false (.t 160) (.c (.i .i64 0))⟩]) (
  .cond (.t 161) (
   .reg [⟨(some 162), none, .mov (.t 0)⟩, ⟨(some 163), none, .mov (.t 12)⟩, ⟨(some 164), none, .bin .add .int false (.c (.i .u32 48)) (.t 163)⟩, ⟨(some 165), none, .conv (.int .u8) (.t 164)⟩, ⟨(some 166), none, .iaV 1 (.t 162) (.c (.i .i64 0))⟩, ⟨none, none, .store 1 (.t 166) (.t 165)⟩]) (
   .skip))))))),
 []⟩
/- internal/stringslite.HasPrefix -/
noncomputable def a211 : F := ⟨18,
  .seq (.reg [⟨(some 4), none, .mov (.c (.b false))⟩]) (
  .seq (.reg [⟨(some 5), none, .mov (.t 0)⟩, ⟨(some 6), none, .call (.b .lenS) [(.t 5)]⟩, ⟨(some 7), none, .mov (.t 1)⟩, ⟨(some 8), none, .call (.b .lenS) [(.t 7)]⟩, ⟨(some 9), none, .bin .geq .int false (.t 6) (.t 8)⟩, ⟨(some 10), none, .mov (.t 9)⟩, ⟨(some 11), (some (10, true)), .mov (.t 0)⟩, ⟨(some 12), (some (10, true)), .mov (.t 1)⟩, ⟨(some 13), (some (10, true)), .call (.b .lenS) [(.t 12)]⟩, ⟨(some 14), (some (10, true)), .slS (.t 11) none (some (.t 13))⟩, ⟨(some 15), (some (10, true)), .mov (.t 1)⟩, ⟨(some 16), (some (10, true)), .bin .eql .str false (.t 14) (.t 15)⟩, ⟨(some 17), none, .pick (.t 10) (.t 16) (.c (.b false))⟩, ⟨(some 4), none, .mov (.t 17)⟩]) (
  .ret)),
 [.tmp 4]⟩
/- internal/strconv.Atoi -/
noncomputable def a212 : F := ⟨77,
  .seq (.reg [⟨(some 2), none, .mov (.c (.i .i64 0))⟩, ⟨(some 3), none, .mov (.c .ni)⟩]) (
  .seq (.reg [⟨(some 11), none, .mov (.t 0)⟩, ⟨(some 12), none, .call (.b .lenS) [(.t 11)]⟩, ⟨(some 4), none, .mov (.t 12)⟩]) (
  .seq (.seq (.reg [⟨(some 13), none, .mov (.c (.b false))⟩, ⟨(some 14), (some (13, true)), .mov (.t 4)⟩, ⟨(some 15), (some (13, true)), .bin .lss .int false (.c (.i .i64 0)) (.t 14)⟩, ⟨(some 16), (some (13, true)), .mov (.t 15)⟩, ⟨(some 17), (some (16, true)), .mov (.t 4)⟩, ⟨(some 18), (some (16, true)), .bin .lss .int false (.t 17) (.c (.i .i64 10))⟩, ⟨(some 19), (some (13, true)), .pick (.t 16) (.t 18) (.c (.b false))⟩, ⟨(some 20), none, .pick (.t 13) (.t 19) (.c (.b false))⟩, ⟨(some 21), none, .mov (.t 20)⟩, ⟨(some 22), (some (21, false)), .mov (.c (.b true))⟩, ⟨(some 23), (some (22, true)), .mov (.t 4)⟩, ⟨(some 24), (some (22, true)), .bin .lss .int false (.c (.i .i64 0)) (.t 23)⟩, ⟨(some 25), (some (22, true)), .mov (.t 24)⟩, ⟨(some 26), (some (25, true)), .mov (.t 4)⟩, ⟨(some 27), (some (25, true)), .bin .lss .int false (.t 26) (.c (.i .i64 19))⟩, ⟨(some 28), (some (22, true)), .pick (.t 25) (.t 27) (.c (.b false))⟩, ⟨(some 29), (some (21, false)), .pick (.t 22) (.t 28) (.c (.b false))⟩, ⟨(some 30), none, .pick (.t 21) (.c (.b true)) (.t 29)⟩]) (
  .cond (.t 30) (
   .seq (.reg [⟨(some 31), none, .mov (.t 0)⟩, ⟨(some 5), none, .mov (.t 31)⟩]) (
   .seq (.seq (.reg [⟨(some 32), none, .mov (.t 0)⟩, ⟨(some 33), none, .ixS (.t 32) (.c (.i .i64 0))⟩, ⟨(some 34), none, .bin .eql .int false (.t 33) (.c (.i .u8 45))⟩, ⟨(some 35), none, .mov (.t 34)⟩, ⟨(some 36), (some (35, false)), .mov (.t 0)⟩, ⟨(some 37), (some (35, false)), .ixS (.t 36) (.c (.i .i64 0))⟩, ⟨(some 38), (some (35, false)), .bin .eql .int false (.t 37) (.c (.i .u8 43))⟩, ⟨(some 39), none, .pick (.t 35) (.c (.b true)) (.t 38)⟩]) (
   .cond (.t 39) (
    .seq (.reg [⟨(some 40), none, .mov (.t 0)⟩, ⟨(some 41), none, .slS (.t 40) (some (.c (.i .i64 1))) none⟩, ⟨(some 0), none, .mov (.t 41)⟩]) (
    .seq (.reg [⟨(some 42), none, .mov (.t 0)⟩, ⟨(some 43), none, .call (.b .lenS) [(.t 42)]⟩, ⟨(some 44), none, .bin .lss .int false (.t 43) (.c (.i .i64 1))⟩]) (
    .cond (.t 44) (
     .seq (.reg [⟨(some 45), none, .mkI 473 (.c (.i .i64 2))⟩, ⟨(some 2), none, .mov (.c (.i .i64 0))⟩, ⟨(some 3), none, .mov (.t 45)⟩]) (
     .ret)) (
     .skip)))) (
    .skip))) (
   .seq (.reg [⟨(some 6), none, .mov (.c (.i .i64 0))⟩]) (
   .seq (.seq (.reg [⟨(some 46), none, .mov (.t 0)⟩, ⟨(some 47), none, .conv (.strBytes 5) (.t 46)⟩, ⟨(some 48), none, .call (.b .lenV) [(.t 47)]⟩, ⟨(some 49), none, .mov (.c (.i .i64 0))⟩]) (
   .block 0 (.loop (
     .seq (.reg [⟨(some 50), none, .bin .lss .int false (.t 49) (.t 48)⟩]) (
     .seq (.cond (.t 50) (
      .skip) (
      .exit 0)) (
     .seq (.block 1 (.seq (.reg [⟨(some 51), none, .iaV 1 (.t 47) (.t 49)⟩, ⟨(some 52), none, .load none (.t 51)⟩, ⟨(some 8), none, .mov (.t 52)⟩]) (
      .seq (.reg [⟨(some 53), none, .mov (.t 8)⟩, ⟨(some 54), none, .bin .sub .int false (.t 53) (.c (.i .u8 48))⟩, ⟨(some 8), none, .mov (.t 54)⟩]) (
      .seq (.seq (.reg [⟨(some 55), none, .mov (.t 8)⟩, ⟨(some 56), none, .bin .gtr .int false (.t 55) (.c (.i .u8 9))⟩]) (
      .cond (.t 56) (
       .seq (.reg [⟨(some 57), none, .mkI 473 (.c (.i .i64 2))⟩, ⟨(some 2), none, .mov (.c (.i .i64 0))⟩, ⟨(some 3), none, .mov (.t 57)⟩]) (
       .ret)) (
       .skip))) (
      .reg [⟨(some 58), none, .mov (.t 6)⟩, ⟨(some 59), none, .bin .mul .int false (.t 58) (.c (.i .i64 10))⟩, ⟨(some 60), none, .mov (.t 8)⟩, ⟨(some 61), none, .conv (.int .i64) (.t 60)⟩, ⟨(some 62), none, .bin .add .int false (.t 59) (.t 61)⟩, ⟨(some 6), none, .mov (.t 62)⟩]))))) (
     .reg [⟨(some 63), none, .bin .add .int false (.t 49) (.c (.i .i64 1))⟩, ⟨(some 49), none, .mov (.t 63)⟩]))))))) (
   .seq (.seq (.reg [⟨(some 64), none, .mov (.t 5)⟩, ⟨(some 65), none, .ixS (.t 64) (.c (.i .i64 0))⟩, ⟨(some 66), none, .bin .eql .int false (.t 65) (.c (.i .u8 45))⟩]) (
   .cond (.t 66) (
    .reg [⟨(some 67), none, .mov (.t 6)⟩, ⟨(some 68), none, .un .neg (.t 67)⟩, ⟨(some 6), none, .mov (.t 68)⟩]) (
    .skip))) (
   .seq (.reg [⟨(some 69), none, .mov (.t 6)⟩, ⟨(some 2), none, .mov (.t 69)⟩, ⟨(some 3), none, .mov (.c .ni)⟩]) (
   .ret))))))) (
   .skip))) (
  .seq (.reg [⟨(some 71), none, .mov (.t 0)⟩, ⟨(some 72), none, .call (.v (.c (.fn (.func 319) [] []))) [(.t 71), (.c (.i .i64 10)), (.c (.i .i64 0))]⟩, ⟨(some 70), none, .mov (.t 72)⟩, ⟨(some 73), none, .ext (.t 70) 0⟩, ⟨(some 74), none, .ext (.t 70) 1⟩, ⟨(some 9), none, .mov (.t 73)⟩, ⟨(some 10), none, .mov (.t 74)⟩]) (
  .seq (.reg [⟨(some 75), none, .mov (.t 9)⟩, ⟨(some 76), none, .mov (.t 10)⟩, ⟨(some 2), none, .mov (.t 75)⟩, ⟨(some 3), none, .mov (.t 76)⟩]) (
  .ret))))),
 [.tmp 2, .tmp 3]⟩
/- internal/stringslite.IndexByte -/
noncomputable def a214 : F := ⟨8,
  .seq (.reg [⟨(some 4), none, .mov (.c (.i .i64 0))⟩]) (
  .seq (.reg [⟨(some 5), none, .mov (.t 0)⟩, ⟨(some 6), none, .mov (.t 1)⟩, ⟨(some 7), none, .call (.v (.c (.fn (.func 324) [] []))) [(.t 5), (.t 6)]⟩, ⟨(some 4), none, .mov (.t 7)⟩]) (
  .ret)),
 [.tmp 4]⟩
/- (*lodestar/json.reader).want -/
noncomputable def a215 : F := ⟨14,
  .seq (.reg [⟨(some 4), none, .mov (.t 0)⟩, ⟨(some 5), none, .mov (.t 1)⟩, ⟨(some 6), none, .call (.v (.c (.fn (.func 216) [] []))) [(.t 4), (.t 5)]⟩, ⟨(some 7), none, .un .not (.t 6)⟩]) (
  .cond (.t 7) (
   .reg [⟨(some 8), none, .mov (.t 0)⟩, ⟨(some 9), none, .mov (.t 0)⟩, ⟨(some 10), none, .nilc (.t 9)⟩, ⟨(some 11), none, .fa 1 (.t 10)⟩, ⟨(some 12), none, .load none (.t 11)⟩, ⟨(some 13), none, .call (.v (.c (.fn (.func 60) [] []))) [(.t 8), (.c (.i .i64 30)), (.t 12)]⟩]) (
   .skip)),
 []⟩
/- (*lodestar/json.reader).eat -/
noncomputable def a216 : F := ⟨42,
  .seq (.reg [⟨(some 4), none, .mov (.c (.b false))⟩]) (
  .seq (.seq (.dreg [[.fl ⟨(some 5), none, .mov (.t 0)⟩ 0, .fl ⟨(some 6), none, .nilc (.t 5)⟩ 0, .fl ⟨(some 7), none, .fa 2 (.t 6)⟩ 0, .fl ⟨(some 8), none, .load none (.t 7)⟩ 0, .fl ⟨(some 9), none, .bin .neq .int false (.t 8) (.c (.i .i64 0))⟩ 0, .fl ⟨(some 10), none, .mov (.t 9)⟩ 0, .fl ⟨(some 11), (some (10, false)), .mov (.t 0)⟩ 0, .fl ⟨(some 12), (some (10, false)), .nilc (.t 11)⟩ 0, .fl ⟨(some 13), (some (10, false)), .fa 1 (.t 12)⟩ 0, .fl ⟨(some 14), (some (10, false)), .load none (.t 13)⟩ 0, .fl ⟨(some 15), (some (10, false)), .mov (.t 0)⟩ 0, .fl ⟨(some 16), (some (10, false)), .nilc (.t 15)⟩ 0, .fl ⟨(some 17), (some (10, false)), .fa 0 (.t 16)⟩ 0, .fl ⟨(some 18), (some (10, false)), .load none (.t 17)⟩ 0, .fl ⟨(some 19), (some (10, false)), .call (.b .lenS) [(.t 18)]⟩ 0, .fl ⟨(some 20), (some (10, false)), .bin .geq .int false (.t 14) (.t 19)⟩ 0, .fl ⟨(some 21), none, .pick (.t 10) (.c (.b true)) (.t 20)⟩ 0, .fl ⟨(some 22), none, .mov (.t 21)⟩ 0, .fl ⟨(some 23), (some (22, false)), .mov (.t 0)⟩ 0, .fl ⟨(some 24), (some (22, false)), .nilc (.t 23)⟩ 0, .fl ⟨(some 25), (some (22, false)), .fa 0 (.t 24)⟩ 0, .fl ⟨(some 26), (some (22, false)), .load none (.t 25)⟩ 0, .fl ⟨(some 27), (some (22, false)), .mov (.t 0)⟩ 0, .fl ⟨(some 28), (some (22, false)), .nilc (.t 27)⟩ 0, .fl ⟨(some 29), (some (22, false)), .fa 1 (.t 28)⟩ 0, .fl ⟨(some 30), (some (22, false)), .load none (.t 29)⟩ 0, .fl ⟨(some 31), (some (22, false)), .ixS (.t 26) (.t 30)⟩ 0, .fl ⟨(some 32), (some (22, false)), .mov (.t 1)⟩ 0, .fl ⟨(some 33), (some (22, false)), .bin .neq .int false (.t 31) (.t 32)⟩ 0, .fl ⟨(some 34), none, .pick (.t 22) (.c (.b true)) (.t 33)⟩ 0]] 0) (
  .cond (.t 34) (
   .seq (.reg [⟨(some 4), none, .mov (.c (.b false))⟩]) (
   .ret)) (
   .skip))) (
  .seq (.reg [⟨(some 35), none, .mov (.t 0)⟩, ⟨(some 36), none, .nilc (.t 35)⟩, ⟨(some 37), none, .fa 1 (.t 36)⟩, ⟨(some 38), none, .load none (.t 37)⟩, ⟨(some 39), none, .bin .add .int false (.t 38) (.c (.i .i64 1))⟩, ⟨(some 40), none, .nilc (.t 35)⟩, ⟨(some 41), none, .fa 1 (.t 40)⟩, ⟨none, none, .store 1 (.t 41) (.t 39)⟩]) (
  .seq (.reg [⟨(some 4), none, .mov (.c (.b true))⟩]) (
  .ret)))),
 [.tmp 4]⟩
/- unicode/utf8.RuneLen -/
noncomputable def a218 : F := ⟨25,
  .seq (.reg [⟨(some 2), none, .mov (.c (.i .i64 0))⟩]) (
  .seq (.block 0 (.seq (.reg [⟨(some 4), none, .mov (.t 0)⟩, ⟨(some 5), none, .bin .lss .int false (.t 4) (.c (.i .i32 0))⟩, ⟨(some 3), none, .mov (.t 5)⟩]) (
   .cond (.t 3) (
    .seq (.reg [⟨(some 2), none, .mov (.c (.i .i64 (-1)))⟩]) (
    .ret)) (
    .seq (.reg [⟨(some 7), none, .mov (.t 0)⟩, ⟨(some 8), none, .bin .leq .int false (.t 7) (.c (.i .i32 127))⟩, ⟨(some 6), none, .mov (.t 8)⟩]) (
    .cond (.t 6) (
     .seq (.reg [⟨(some 2), none, .mov (.c (.i .i64 1))⟩]) (
     .ret)) (
     .seq (.reg [⟨(some 10), none, .mov (.t 0)⟩, ⟨(some 11), none, .bin .leq .int false (.t 10) (.c (.i .i32 2047))⟩, ⟨(some 9), none, .mov (.t 11)⟩]) (
     .cond (.t 9) (
      .seq (.reg [⟨(some 2), none, .mov (.c (.i .i64 2))⟩]) (
      .ret)) (
      .seq (.reg [⟨(some 13), none, .mov (.t 0)⟩, ⟨(some 14), none, .bin .leq .int false (.c (.i .i32 55296)) (.t 13)⟩, ⟨(some 15), none, .mov (.t 14)⟩, ⟨(some 16), (some (15, true)), .mov (.t 0)⟩, ⟨(some 17), (some (15, true)), .bin .leq .int false (.t 16) (.c (.i .i32 57343))⟩, ⟨(some 18), none, .pick (.t 15) (.t 17) (.c (.b false))⟩, ⟨(some 12), none, .mov (.t 18)⟩]) (
      .cond (.t 12) (
       .seq (.reg [⟨(some 2), none, .mov (.c (.i .i64 (-1)))⟩]) (
       .ret)) (
       .seq (.reg [⟨(some 20), none, .mov (.t 0)⟩, ⟨(some 21), none, .bin .leq .int false (.t 20) (.c (.i .i32 65535))⟩, ⟨(some 19), none, .mov (.t 21)⟩]) (
       .cond (.t 19) (
        .seq (.reg [⟨(some 2), none, .mov (.c (.i .i64 3))⟩]) (
        .ret)) (
        .seq (.reg [⟨(some 23), none, .mov (.t 0)⟩, ⟨(some 24), none, .bin .leq .int false (.t 23) (.c (.i .i32 1114111))⟩, ⟨(some 22), none, .mov (.t 24)⟩]) (
        .cond (.t 22) (
         .seq (.reg [⟨(some 2), none, .mov (.c (.i .i64 4))⟩]) (
         .ret)) (
         .skip)))))))))))))) (
  .seq (.reg [⟨(some 2), none, .mov (.c (.i .i64 (-1)))⟩]) (
  .ret))),
 [.tmp 2]⟩
/- (*strings.Builder).WriteRune -/
noncomputable def a220 : F := ⟨30,
  .seq (.reg [⟨(some 4), none, .mov (.c (.i .i64 0))⟩, ⟨(some 5), none, .mov (.c .ni)⟩]) (
  .seq (.reg [⟨(some 7), none, .mov (.t 0)⟩, ⟨(some 8), none, .call (.v (.c (.fn (.func 281) [] []))) [(.t 7)]⟩]) (
  .seq (.reg [⟨(some 9), none, .mov (.t 0)⟩, ⟨(some 10), none, .nilc (.t 9)⟩, ⟨(some 11), none, .fa 1 (.t 10)⟩, ⟨(some 12), none, .load none (.t 11)⟩, ⟨(some 13), none, .call (.b .lenV) [(.t 12)]⟩, ⟨(some 6), none, .mov (.t 13)⟩]) (
  .seq (.reg [⟨(some 14), none, .mov (.t 0)⟩, ⟨(some 15), none, .mov (.t 0)⟩, ⟨(some 16), none, .nilc (.t 15)⟩, ⟨(some 17), none, .fa 1 (.t 16)⟩, ⟨(some 18), none, .load none (.t 17)⟩, ⟨(some 19), none, .mov (.t 1)⟩, ⟨(some 20), none, .call (.v (.c (.fn (.func 326) [] []))) [(.t 18), (.t 19)]⟩, ⟨(some 21), none, .nilc (.t 14)⟩, ⟨(some 22), none, .fa 1 (.t 21)⟩, ⟨none, none, .store 1 (.t 22) (.t 20)⟩]) (
  .seq (.reg [⟨(some 23), none, .mov (.t 0)⟩, ⟨(some 24), none, .nilc (.t 23)⟩, ⟨(some 25), none, .fa 1 (.t 24)⟩, ⟨(some 26), none, .load none (.t 25)⟩, ⟨(some 27), none, .call (.b .lenV) [(.t 26)]⟩, ⟨(some 28), none, .mov (.t 6)⟩, ⟨(some 29), none, .bin .sub .int false (.t 27) (.t 28)⟩, ⟨(some 4), none, .mov (.t 29)⟩, ⟨(some 5), none, .mov (.c .ni)⟩]) (
  .ret))))),
 [.tmp 4, .tmp 5]⟩
/- (*lodestar/json.reader).digits -/
noncomputable def a221 : F := ⟨34,
  .seq (.reg [⟨(some 2), none, .mov (.c (.i .i64 0))⟩]) (
  .seq (.reg [⟨(some 3), none, .mov (.c (.i .i64 0))⟩]) (
  .seq (.block 0 (.loop (
    .seq (.seq (.dreg [[.fl ⟨(some 4), none, .mov (.t 0)⟩ 0, .an ⟨(some 5), none, .call (.v (.c (.fn (.func 126) [] []))) [(.t 4)]⟩ [], .fl ⟨(some 6), none, .bin .geq .int false (.t 5) (.c (.i .u8 48))⟩ 0, .fl ⟨(some 7), none, .mov (.t 6)⟩ 0, .fl ⟨(some 8), (some (7, true)), .mov (.t 0)⟩ 0, .an ⟨(some 9), (some (7, true)), .call (.v (.c (.fn (.func 126) [] []))) [(.t 8)]⟩ [], .fl ⟨(some 10), (some (7, true)), .bin .leq .int false (.t 9) (.c (.i .u8 57))⟩ 0, .fl ⟨(some 11), none, .pick (.t 7) (.t 10) (.c (.b false))⟩ 0, .fl ⟨(some 12), none, .mov (.t 11)⟩ 0, .fl ⟨(some 13), (some (12, true)), .mov (.t 0)⟩ 0, .fl ⟨(some 14), (some (12, true)), .nilc (.t 13)⟩ 0, .fl ⟨(some 15), (some (12, true)), .fa 1 (.t 14)⟩ 0, .fl ⟨(some 16), (some (12, true)), .load none (.t 15)⟩ 0, .fl ⟨(some 17), (some (12, true)), .mov (.t 0)⟩ 0, .fl ⟨(some 18), (some (12, true)), .nilc (.t 17)⟩ 0, .fl ⟨(some 19), (some (12, true)), .fa 0 (.t 18)⟩ 0, .fl ⟨(some 20), (some (12, true)), .load none (.t 19)⟩ 0, .fl ⟨(some 21), (some (12, true)), .call (.b .lenS) [(.t 20)]⟩ 0, .fl ⟨(some 22), (some (12, true)), .bin .lss .int false (.t 16) (.t 21)⟩ 0, .fl ⟨(some 23), none, .pick (.t 12) (.t 22) (.c (.b false))⟩ 0]] 0) (
    .cond (.t 23) (
     .skip) (
     .exit 0))) (
    .block 1 (.seq (.reg [⟨(some 24), none, .mov (.t 0)⟩, ⟨(some 25), none, .nilc (.t 24)⟩, ⟨(some 26), none, .fa 1 (.t 25)⟩, ⟨(some 27), none, .load none (.t 26)⟩, ⟨(some 28), none, .bin .add .int false (.t 27) (.c (.i .i64 1))⟩, ⟨(some 29), none, .nilc (.t 24)⟩, ⟨(some 30), none, .fa 1 (.t 29)⟩, ⟨none, none, .store 1 (.t 30) (.t 28)⟩]) (
     .reg [⟨(some 31), none, .mov (.t 3)⟩, ⟨(some 32), none, .bin .add .int false (.t 31) (.c (.i .i64 1))⟩, ⟨(some 3), none, .mov (.t 32)⟩])))))) (
  .seq (.reg [⟨(some 33), none, .mov (.t 3)⟩, ⟨(some 2), none, .mov (.t 33)⟩]) (
  .ret)))),
 [.tmp 2]⟩
/- slices.pdqsortCmpFunc[lodestar/api.Vec] -/
noncomputable def a222 : F := ⟨148,
  .seq (.reg [⟨(some 10), none, .mov (.c (.b true))⟩]) (
  .seq (.reg [⟨(some 11), none, .mov (.c (.b true))⟩]) (
  .block 0 (.loop (
    .block 1 (.seq (.reg [⟨(some 21), none, .mov (.t 2)⟩, ⟨(some 22), none, .mov (.t 1)⟩, ⟨(some 23), none, .bin .sub .int false (.t 21) (.t 22)⟩, ⟨(some 12), none, .mov (.t 23)⟩]) (
     .seq (.seq (.reg [⟨(some 24), none, .mov (.t 12)⟩, ⟨(some 25), none, .bin .leq .int false (.t 24) (.c (.i .i64 12))⟩]) (
     .cond (.t 25) (
      .seq (.reg [⟨(some 26), none, .mov (.t 0)⟩, ⟨(some 27), none, .mov (.t 1)⟩, ⟨(some 28), none, .mov (.t 2)⟩, ⟨(some 29), none, .mov (.t 4)⟩, ⟨(some 30), none, .call (.v (.c (.fn (.func 327) [] []))) [(.t 26), (.t 27), (.t 28), (.t 29)]⟩]) (
      .ret)) (
      .skip))) (
     .seq (.seq (.reg [⟨(some 31), none, .mov (.t 3)⟩, ⟨(some 32), none, .bin .eql .int false (.t 31) (.c (.i .i64 0))⟩]) (
     .cond (.t 32) (
      .seq (.reg [⟨(some 33), none, .mov (.t 0)⟩, ⟨(some 34), none, .mov (.t 1)⟩, ⟨(some 35), none, .mov (.t 2)⟩, ⟨(some 36), none, .mov (.t 4)⟩, ⟨(some 37), none, .call (.v (.c (.fn (.func 328) [] []))) [(.t 33), (.t 34), (.t 35), (.t 36)]⟩]) (
      .ret)) (
      .skip))) (
     .seq (.seq (.reg [⟨(some 38), none, .mov (.t 10)⟩, ⟨(some 39), none, .un .not (.t 38)⟩]) (
     .cond (.t 39) (
      .seq (.reg [⟨(some 40), none, .mov (.t 0)⟩, ⟨(some 41), none, .mov (.t 1)⟩, ⟨(some 42), none, .mov (.t 2)⟩, ⟨(some 43), none, .mov (.t 4)⟩, ⟨(some 44), none, .call (.v (.c (.fn (.func 329) [] []))) [(.t 40), (.t 41), (.t 42), (.t 43)]⟩]) (
      .reg [⟨(some 45), none, .mov (.t 3)⟩, ⟨(some 46), none, .bin .sub .int false (.t 45) (.c (.i .i64 1))⟩, ⟨(some 3), none, .mov (.t 46)⟩])) (
      .skip))) (
     .seq (.reg [⟨(some 48), none, .mov (.t 0)⟩, ⟨(some 49), none, .mov (.t 1)⟩, ⟨(some 50), none, .mov (.t 2)⟩, ⟨(some 51), none, .mov (.t 4)⟩, ⟨(some 52), none, .call (.v (.c (.fn (.func 330) [] []))) [(.t 48), (.t 49), (.t 50), (.t 51)]⟩, ⟨(some 47), none, .mov (.t 52)⟩, ⟨(some 53), none, .ext (.t 47) 0⟩, ⟨(some 54), none, .ext (.t 47) 1⟩, ⟨(some 13), none, .mov (.t 53)⟩, ⟨(some 14), none, .mov (.t 54)⟩]) (
     .seq (.seq (.reg [⟨(some 55), none, .mov (.t 14)⟩, ⟨(some 56), none, .bin .eql .int false (.t 55) (.c (.i .i64 2))⟩]) (
     .cond (.t 56) (
      .seq (.reg [⟨(some 57), none, .mov (.t 0)⟩, ⟨(some 58), none, .mov (.t 1)⟩, ⟨(some 59), none, .mov (.t 2)⟩, ⟨(some 60), none, .mov (.t 4)⟩, ⟨(some 61), none, .call (.v (.c (.fn (.func 331) [] []))) [(.t 57), (.t 58), (.t 59), (.t 60)]⟩]) (
      .seq (.reg [⟨(some 62), none, .mov (.t 2)⟩, ⟨(some 63), none, .bin .sub .int false (.t 62) (.c (.i .i64 1))⟩, ⟨(some 64), none, .mov (.t 13)⟩, ⟨(some 65), none, .mov (.t 1)⟩, ⟨(some 66), none, .bin .sub .int false (.t 64) (.t 65)⟩, ⟨(some 67), none, .bin .sub .int false (.t 63) (.t 66)⟩, ⟨(some 13), none, .mov (.t 67)⟩]) (
      .reg [⟨(some 14), none, .mov (.c (.i .i64 1))⟩]))) (
      .skip))) (
     .seq (.seq (.reg [⟨(some 68), none, .mov (.t 10)⟩, ⟨(some 69), none, .mov (.t 68)⟩, ⟨(some 70), (some (69, true)), .mov (.t 11)⟩, ⟨(some 71), none, .pick (.t 69) (.t 70) (.c (.b false))⟩, ⟨(some 72), none, .mov (.t 71)⟩, ⟨(some 73), (some (72, true)), .mov (.t 14)⟩, ⟨(some 74), (some (72, true)), .bin .eql .int false (.t 73) (.c (.i .i64 1))⟩, ⟨(some 75), none, .pick (.t 72) (.t 74) (.c (.b false))⟩]) (
     .cond (.t 75) (
      .seq (.reg [⟨(some 76), none, .mov (.t 0)⟩, ⟨(some 77), none, .mov (.t 1)⟩, ⟨(some 78), none, .mov (.t 2)⟩, ⟨(some 79), none, .mov (.t 4)⟩, ⟨(some 80), none, .call (.v (.c (.fn (.func 332) [] []))) [(.t 76), (.t 77), (.t 78), (.t 79)]⟩]) (
      .cond (.t 80) (
       .ret) (
       .skip))) (
      .skip))) (
     .seq (.seq (.dreg [[.fl ⟨(some 81), none, .mov (.t 1)⟩ 0, .fl ⟨(some 82), none, .bin .gtr .int false (.t 81) (.c (.i .i64 0))⟩ 0, .fl ⟨(some 83), none, .mov (.t 82)⟩ 0, .fl ⟨(some 84), (some (83, true)), .mov (.t 4)⟩ 0, .fl ⟨(some 85), (some (83, true)), .mov (.t 0)⟩ 0, .fl ⟨(some 86), (some (83, true)), .mov (.t 1)⟩ 0, .fl ⟨(some 87), (some (83, true)), .bin .sub .int false (.t 86) (.c (.i .i64 1))⟩ 0, .fl ⟨(some 88), (some (83, true)), .iaV 2 (.t 85) (.t 87)⟩ 0, .fl ⟨(some 89), (some (83, true)), .load (some 2) (.t 88)⟩ 0, .fl ⟨(some 90), (some (83, true)), .mov (.t 0)⟩ 0, .fl ⟨(some 91), (some (83, true)), .mov (.t 13)⟩ 0, .fl ⟨(some 92), (some (83, true)), .iaV 2 (.t 90) (.t 91)⟩ 0, .fl ⟨(some 93), (some (83, true)), .load (some 2) (.t 92)⟩ 0, .an ⟨(some 94), (some (83, true)), .call (.v (.t 84)) [(.t 89), (.t 93)]⟩ [], .fl ⟨(some 95), (some (83, true)), .bin .lss .int false (.t 94) (.c (.i .i64 0))⟩ 0, .fl ⟨(some 96), (some (83, true)), .un .not (.t 95)⟩ 0, .fl ⟨(some 97), none, .pick (.t 83) (.t 96) (.c (.b false))⟩ 0]] 0) (
     .cond (.t 97) (
      .seq (.reg [⟨(some 98), none, .mov (.t 0)⟩, ⟨(some 99), none, .mov (.t 1)⟩, ⟨(some 100), none, .mov (.t 2)⟩, ⟨(some 101), none, .mov (.t 13)⟩, ⟨(some 102), none, .mov (.t 4)⟩, ⟨(some 103), none, .call (.v (.c (.fn (.func 333) [] []))) [(.t 98), (.t 99), (.t 100), (.t 101), (.t 102)]⟩, ⟨(some 15), none, .mov (.t 103)⟩]) (
      .seq (.reg [⟨(some 104), none, .mov (.t 15)⟩, ⟨(some 1), none, .mov (.t 104)⟩]) (
      .exit 1))) (
      .skip))) (
     .seq (.reg [⟨(some 106), none, .mov (.t 0)⟩, ⟨(some 107), none, .mov (.t 1)⟩, ⟨(some 108), none, .mov (.t 2)⟩, ⟨(some 109), none, .mov (.t 13)⟩, ⟨(some 110), none, .mov (.t 4)⟩, ⟨(some 111), none, .call (.v (.c (.fn (.func 334) [] []))) [(.t 106), (.t 107), (.t 108), (.t 109), (.t 110)]⟩, ⟨(some 105), none, .mov (.t 111)⟩, ⟨(some 112), none, .ext (.t 105) 0⟩, ⟨(some 113), none, .ext (.t 105) 1⟩, ⟨(some 16), none, .mov (.t 112)⟩, ⟨(some 17), none, .mov (.t 113)⟩]) (
     .seq (.reg [⟨(some 114), none, .mov (.t 17)⟩, ⟨(some 11), none, .mov (.t 114)⟩]) (
     .seq (.reg [⟨(some 115), none, .mov (.t 16)⟩, ⟨(some 116), none, .mov (.t 1)⟩, ⟨(some 117), none, .bin .sub .int false (.t 115) (.t 116)⟩, ⟨(some 118), none, .mov (.t 2)⟩, ⟨(some 119), none, .mov (.t 16)⟩, ⟨(some 120), none, .bin .sub .int false (.t 118) (.t 119)⟩, ⟨(some 18), none, .mov (.t 117)⟩, ⟨(some 19), none, .mov (.t 120)⟩]) (
     .seq (.reg [⟨(some 121), none, .mov (.t 12)⟩, ⟨(some 122), none, .bin .quo .int false (.t 121) (.c (.i .i64 8))⟩, ⟨(some 20), none, .mov (.t 122)⟩]) (
     .seq (.reg [⟨(some 123), none, .mov (.t 18)⟩, ⟨(some 124), none, .mov (.t 19)⟩, ⟨(some 125), none, .bin .lss .int false (.t 123) (.t 124)⟩]) (
     .cond (.t 125) (
      .seq (.reg [⟨(some 126), none, .mov (.t 18)⟩, ⟨(some 127), none, .mov (.t 20)⟩, ⟨(some 128), none, .bin .geq .int false (.t 126) (.t 127)⟩, ⟨(some 10), none, .mov (.t 128)⟩]) (
      .seq (.reg [⟨(some 129), none, .mov (.t 0)⟩, ⟨(some 130), none, .mov (.t 1)⟩, ⟨(some 131), none, .mov (.t 16)⟩, ⟨(some 132), none, .mov (.t 3)⟩, ⟨(some 133), none, .mov (.t 4)⟩, ⟨(some 134), none, .call (.v (.c (.fn (.func 222) [] []))) [(.t 129), (.t 130), (.t 131), (.t 132), (.t 133)]⟩]) (
      .reg [⟨(some 135), none, .mov (.t 16)⟩, ⟨(some 136), none, .bin .add .int false (.t 135) (.c (.i .i64 1))⟩, ⟨(some 1), none, .mov (.t 136)⟩]))) (
      .seq (.reg [⟨(some 137), none, .mov (.t 19)⟩, ⟨(some 138), none, .mov (.t 20)⟩, ⟨(some 139), none, .bin .geq .int false (.t 137) (.t 138)⟩, ⟨(some 10), none, .mov (.t 139)⟩]) (
      .seq (.reg [⟨(some 140), none, .mov (.t 0)⟩, ⟨(some 141), none, .mov (.t 16)⟩, ⟨(some 142), none, .bin .add .int false (.t 141) (.c (.i .i64 1))⟩, ⟨(some 143), none, .mov (.t 2)⟩, ⟨(some 144), none, .mov (.t 3)⟩, ⟨(some 145), none, .mov (.t 4)⟩, ⟨(some 146), none, .call (.v (.c (.fn (.func 222) [] []))) [(.t 140), (.t 142), (.t 143), (.t 144), (.t 145)]⟩]) (
      .reg [⟨(some 147), none, .mov (.t 16)⟩, ⟨(some 2), none, .mov (.t 147)⟩]))))))))))))))))))))),
 []⟩
/- internal/bytealg.CompareString -/
noncomputable def a223 : F := ⟨8,
  .seq (.reg [⟨(some 4), none, .mov (.c (.i .i64 0))⟩]) (
  .seq (.reg [⟨(some 5), none, .mov (.t 0)⟩, ⟨(some 6), none, .mov (.t 1)⟩, ⟨(some 7), none, .call (.v (.c (.fn (.func 335) [] []))) [(.t 5), (.t 6)]⟩, ⟨(some 4), none, .mov (.t 7)⟩]) (
  .ret)),
 [.tmp 4]⟩
/- slices.pdqsortCmpFunc[lodestar/api.Field] -/
noncomputable def a224 : F := ⟨148,
  .seq (.reg [⟨(some 10), none, .mov (.c (.b true))⟩]) (
  .seq (.reg [⟨(some 11), none, .mov (.c (.b true))⟩]) (
  .block 0 (.loop (
    .block 1 (.seq (.reg [⟨(some 21), none, .mov (.t 2)⟩, ⟨(some 22), none, .mov (.t 1)⟩, ⟨(some 23), none, .bin .sub .int false (.t 21) (.t 22)⟩, ⟨(some 12), none, .mov (.t 23)⟩]) (
     .seq (.seq (.reg [⟨(some 24), none, .mov (.t 12)⟩, ⟨(some 25), none, .bin .leq .int false (.t 24) (.c (.i .i64 12))⟩]) (
     .cond (.t 25) (
      .seq (.reg [⟨(some 26), none, .mov (.t 0)⟩, ⟨(some 27), none, .mov (.t 1)⟩, ⟨(some 28), none, .mov (.t 2)⟩, ⟨(some 29), none, .mov (.t 4)⟩, ⟨(some 30), none, .call (.v (.c (.fn (.func 336) [] []))) [(.t 26), (.t 27), (.t 28), (.t 29)]⟩]) (
      .ret)) (
      .skip))) (
     .seq (.seq (.reg [⟨(some 31), none, .mov (.t 3)⟩, ⟨(some 32), none, .bin .eql .int false (.t 31) (.c (.i .i64 0))⟩]) (
     .cond (.t 32) (
      .seq (.reg [⟨(some 33), none, .mov (.t 0)⟩, ⟨(some 34), none, .mov (.t 1)⟩, ⟨(some 35), none, .mov (.t 2)⟩, ⟨(some 36), none, .mov (.t 4)⟩, ⟨(some 37), none, .call (.v (.c (.fn (.func 337) [] []))) [(.t 33), (.t 34), (.t 35), (.t 36)]⟩]) (
      .ret)) (
      .skip))) (
     .seq (.seq (.reg [⟨(some 38), none, .mov (.t 10)⟩, ⟨(some 39), none, .un .not (.t 38)⟩]) (
     .cond (.t 39) (
      .seq (.reg [⟨(some 40), none, .mov (.t 0)⟩, ⟨(some 41), none, .mov (.t 1)⟩, ⟨(some 42), none, .mov (.t 2)⟩, ⟨(some 43), none, .mov (.t 4)⟩, ⟨(some 44), none, .call (.v (.c (.fn (.func 338) [] []))) [(.t 40), (.t 41), (.t 42), (.t 43)]⟩]) (
      .reg [⟨(some 45), none, .mov (.t 3)⟩, ⟨(some 46), none, .bin .sub .int false (.t 45) (.c (.i .i64 1))⟩, ⟨(some 3), none, .mov (.t 46)⟩])) (
      .skip))) (
     .seq (.reg [⟨(some 48), none, .mov (.t 0)⟩, ⟨(some 49), none, .mov (.t 1)⟩, ⟨(some 50), none, .mov (.t 2)⟩, ⟨(some 51), none, .mov (.t 4)⟩, ⟨(some 52), none, .call (.v (.c (.fn (.func 339) [] []))) [(.t 48), (.t 49), (.t 50), (.t 51)]⟩, ⟨(some 47), none, .mov (.t 52)⟩, ⟨(some 53), none, .ext (.t 47) 0⟩, ⟨(some 54), none, .ext (.t 47) 1⟩, ⟨(some 13), none, .mov (.t 53)⟩, ⟨(some 14), none, .mov (.t 54)⟩]) (
     .seq (.seq (.reg [⟨(some 55), none, .mov (.t 14)⟩, ⟨(some 56), none, .bin .eql .int false (.t 55) (.c (.i .i64 2))⟩]) (
     .cond (.t 56) (
      .seq (.reg [⟨(some 57), none, .mov (.t 0)⟩, ⟨(some 58), none, .mov (.t 1)⟩, ⟨(some 59), none, .mov (.t 2)⟩, ⟨(some 60), none, .mov (.t 4)⟩, ⟨(some 61), none, .call (.v (.c (.fn (.func 340) [] []))) [(.t 57), (.t 58), (.t 59), (.t 60)]⟩]) (
      .seq (.reg [⟨(some 62), none, .mov (.t 2)⟩, ⟨(some 63), none, .bin .sub .int false (.t 62) (.c (.i .i64 1))⟩, ⟨(some 64), none, .mov (.t 13)⟩, ⟨(some 65), none, .mov (.t 1)⟩, ⟨(some 66), none, .bin .sub .int false (.t 64) (.t 65)⟩, ⟨(some 67), none, .bin .sub .int false (.t 63) (.t 66)⟩, ⟨(some 13), none, .mov (.t 67)⟩]) (
      .reg [⟨(some 14), none, .mov (.c (.i .i64 1))⟩]))) (
      .skip))) (
     .seq (.seq (.reg [⟨(some 68), none, .mov (.t 10)⟩, ⟨(some 69), none, .mov (.t 68)⟩, ⟨(some 70), (some (69, true)), .mov (.t 11)⟩, ⟨(some 71), none, .pick (.t 69) (.t 70) (.c (.b false))⟩, ⟨(some 72), none, .mov (.t 71)⟩, ⟨(some 73), (some (72, true)), .mov (.t 14)⟩, ⟨(some 74), (some (72, true)), .bin .eql .int false (.t 73) (.c (.i .i64 1))⟩, ⟨(some 75), none, .pick (.t 72) (.t 74) (.c (.b false))⟩]) (
     .cond (.t 75) (
      .seq (.reg [⟨(some 76), none, .mov (.t 0)⟩, ⟨(some 77), none, .mov (.t 1)⟩, ⟨(some 78), none, .mov (.t 2)⟩, ⟨(some 79), none, .mov (.t 4)⟩, ⟨(some 80), none, .call (.v (.c (.fn (.func 341) [] []))) [(.t 76), (.t 77), (.t 78), (.t 79)]⟩]) (
      .cond (.t 80) (
       .ret) (
       .skip))) (
      .skip))) (
     .seq (.seq (.dreg [[.fl ⟨(some 81), none, .mov (.t 1)⟩ 0, .fl ⟨(some 82), none, .bin .gtr .int false (.t 81) (.c (.i .i64 0))⟩ 0, .fl ⟨(some 83), none, .mov (.t 82)⟩ 0, .fl ⟨(some 84), (some (83, true)), .mov (.t 4)⟩ 0, .fl ⟨(some 85), (some (83, true)), .mov (.t 0)⟩ 0, .fl ⟨(some 86), (some (83, true)), .mov (.t 1)⟩ 0, .fl ⟨(some 87), (some (83, true)), .bin .sub .int false (.t 86) (.c (.i .i64 1))⟩ 0, .fl ⟨(some 88), (some (83, true)), .iaV 4 (.t 85) (.t 87)⟩ 0, .fl ⟨(some 89), (some (83, true)), .load (some 4) (.t 88)⟩ 0, .fl ⟨(some 90), (some (83, true)), .mov (.t 0)⟩ 0, .fl ⟨(some 91), (some (83, true)), .mov (.t 13)⟩ 0, .fl ⟨(some 92), (some (83, true)), .iaV 4 (.t 90) (.t 91)⟩ 0, .fl ⟨(some 93), (some (83, true)), .load (some 4) (.t 92)⟩ 0, .an ⟨(some 94), (some (83, true)), .call (.v (.t 84)) [(.t 89), (.t 93)]⟩ [], .fl ⟨(some 95), (some (83, true)), .bin .lss .int false (.t 94) (.c (.i .i64 0))⟩ 0, .fl ⟨(some 96), (some (83, true)), .un .not (.t 95)⟩ 0, .fl ⟨(some 97), none, .pick (.t 83) (.t 96) (.c (.b false))⟩ 0]] 0) (
     .cond (.t 97) (
      .seq (.reg [⟨(some 98), none, .mov (.t 0)⟩, ⟨(some 99), none, .mov (.t 1)⟩, ⟨(some 100), none, .mov (.t 2)⟩, ⟨(some 101), none, .mov (.t 13)⟩, ⟨(some 102), none, .mov (.t 4)⟩, ⟨(some 103), none, .call (.v (.c (.fn (.func 342) [] []))) [(.t 98), (.t 99), (.t 100), (.t 101), (.t 102)]⟩, ⟨(some 15), none, .mov (.t 103)⟩]) (
      .seq (.reg [⟨(some 104), none, .mov (.t 15)⟩, ⟨(some 1), none, .mov (.t 104)⟩]) (
      .exit 1))) (
      .skip))) (
     .seq (.reg [⟨(some 106), none, .mov (.t 0)⟩, ⟨(some 107), none, .mov (.t 1)⟩, ⟨(some 108), none, .mov (.t 2)⟩, ⟨(some 109), none, .mov (.t 13)⟩, ⟨(some 110), none, .mov (.t 4)⟩, ⟨(some 111), none, .call (.v (.c (.fn (.func 343) [] []))) [(.t 106), (.t 107), (.t 108), (.t 109), (.t 110)]⟩, ⟨(some 105), none, .mov (.t 111)⟩, ⟨(some 112), none, .ext (.t 105) 0⟩, ⟨(some 113), none, .ext (.t 105) 1⟩, ⟨(some 16), none, .mov (.t 112)⟩, ⟨(some 17), none, .mov (.t 113)⟩]) (
     .seq (.reg [⟨(some 114), none, .mov (.t 17)⟩, ⟨(some 11), none, .mov (.t 114)⟩]) (
     .seq (.reg [⟨(some 115), none, .mov (.t 16)⟩, ⟨(some 116), none, .mov (.t 1)⟩, ⟨(some 117), none, .bin .sub .int false (.t 115) (.t 116)⟩, ⟨(some 118), none, .mov (.t 2)⟩, ⟨(some 119), none, .mov (.t 16)⟩, ⟨(some 120), none, .bin .sub .int false (.t 118) (.t 119)⟩, ⟨(some 18), none, .mov (.t 117)⟩, ⟨(some 19), none, .mov (.t 120)⟩]) (
     .seq (.reg [⟨(some 121), none, .mov (.t 12)⟩, ⟨(some 122), none, .bin .quo .int false (.t 121) (.c (.i .i64 8))⟩, ⟨(some 20), none, .mov (.t 122)⟩]) (
     .seq (.reg [⟨(some 123), none, .mov (.t 18)⟩, ⟨(some 124), none, .mov (.t 19)⟩, ⟨(some 125), none, .bin .lss .int false (.t 123) (.t 124)⟩]) (
     .cond (.t 125) (
      .seq (.reg [⟨(some 126), none, .mov (.t 18)⟩, ⟨(some 127), none, .mov (.t 20)⟩, ⟨(some 128), none, .bin .geq .int false (.t 126) (.t 127)⟩, ⟨(some 10), none, .mov (.t 128)⟩]) (
      .seq (.reg [⟨(some 129), none, .mov (.t 0)⟩, ⟨(some 130), none, .mov (.t 1)⟩, ⟨(some 131), none, .mov (.t 16)⟩, ⟨(some 132), none, .mov (.t 3)⟩, ⟨(some 133), none, .mov (.t 4)⟩, ⟨(some 134), none, .call (.v (.c (.fn (.func 224) [] []))) [(.t 129), (.t 130), (.t 131), (.t 132), (.t 133)]⟩]) (
      .reg [⟨(some 135), none, .mov (.t 16)⟩, ⟨(some 136), none, .bin .add .int false (.t 135) (.c (.i .i64 1))⟩, ⟨(some 1), none, .mov (.t 136)⟩]))) (
      .seq (.reg [⟨(some 137), none, .mov (.t 19)⟩, ⟨(some 138), none, .mov (.t 20)⟩, ⟨(some 139), none, .bin .geq .int false (.t 137) (.t 138)⟩, ⟨(some 10), none, .mov (.t 139)⟩]) (
      .seq (.reg [⟨(some 140), none, .mov (.t 0)⟩, ⟨(some 141), none, .mov (.t 16)⟩, ⟨(some 142), none, .bin .add .int false (.t 141) (.c (.i .i64 1))⟩, ⟨(some 143), none, .mov (.t 2)⟩, ⟨(some 144), none, .mov (.t 3)⟩, ⟨(some 145), none, .mov (.t 4)⟩, ⟨(some 146), none, .call (.v (.c (.fn (.func 224) [] []))) [(.t 140), (.t 142), (.t 143), (.t 144), (.t 145)]⟩]) (
      .reg [⟨(some 147), none, .mov (.t 16)⟩, ⟨(some 2), none, .mov (.t 147)⟩]))))))))))))))))))))),
 []⟩
/- unicode/utf8.ValidString -/
noncomputable def a225 : F := ⟨169,
  .seq (.reg [⟨(some 2), none, .mov (.c (.b false))⟩]) (
  .seq (.block 0 (.loop (
    .seq (.seq (.reg [⟨(some 7), none, .mov (.t 0)⟩, ⟨(some 8), none, .call (.b .lenS) [(.t 7)]⟩, ⟨(some 9), none, .bin .gtr .int false (.t 8) (.c (.i .i64 0))⟩]) (
    .cond (.t 9) (
     .skip) (
     .exit 0))) (
    .block 1 (.seq (.reg [⟨(some 10), none, .mov (.t 0)⟩, ⟨(some 11), none, .ixS (.t 10) (.c (.i .i64 0))⟩, ⟨(some 3), none, .mov (.t 11)⟩]) (
     .seq (.seq (.reg [⟨(some 12), none, .mov (.t 3)⟩, ⟨(some 13), none, .bin .lss .int false (.t 12) (.c (.i .u8 128))⟩]) (
     .cond (.t 13) (
      .seq (.reg [⟨(some 14), none, .mov (.t 0)⟩, ⟨(some 15), none, .slS (.t 14) (some (.c (.i .i64 1))) none⟩, ⟨(some 0), none, .mov (.t 15)⟩]) (
      .seq (.seq (.reg [⟨(some 16), none, .mov (.t 0)⟩, ⟨(some 17), none, .call (.b .lenS) [(.t 16)]⟩, ⟨(some 18), none, .bin .gtr .int false (.t 17) (.c (.i .i64 8))⟩, ⟨(some 19), none, .mov (.t 18)⟩, ⟨(some 20), (some (19, true)), .mov (.t 0)⟩, ⟨(some 21), (some (19, true)), .call (.v (.c (.fn (.func 344) [] []))) [(.t 20)]⟩, ⟨(some 22), (some (19, true)), .bin .and .int false (.t 21) (.c (.i .u64 9259542123273814144))⟩, ⟨(some 23), (some (19, true)), .bin .eql .int false (.t 22) (.c (.i .u64 0))⟩, ⟨(some 24), none, .pick (.t 19) (.t 23) (.c (.b false))⟩]) (
      .cond (.t 24) (
       .seq (.reg [⟨(some 25), none, .mov (.t 0)⟩, ⟨(some 26), none, .slS (.t 25) (some (.c (.i .i64 8))) none⟩, ⟨(some 0), none, .mov (.t 26)⟩]) (
       .seq (.dreg [[.fl ⟨(some 27), none, .mov (.t 0)⟩ 0, .fl ⟨(some 28), none, .call (.b .lenS) [(.t 27)]⟩ 0, .fl ⟨(some 29), none, .bin .gtr .int false (.t 28) (.c (.i .i64 16))⟩ 0, .fl ⟨(some 30), none, .mov (.t 29)⟩ 0, .fl ⟨(some 31), (some (30, true)), .mov (.t 0)⟩ 0, .fl ⟨(some 33), (some (30, true)), .mov (.t 0)⟩ 0, .fl ⟨(some 34), (some (30, true)), .slS (.t 33) (some (.c (.i .i64 8))) none⟩ 0, .an ⟨(some 32), (some (30, true)), .call (.v (.c (.fn (.func 344) [] []))) [(.t 31)]⟩ [], .an ⟨(some 35), (some (30, true)), .call (.v (.c (.fn (.func 344) [] []))) [(.t 34)]⟩ [], .fl ⟨(some 36), (some (30, true)), .bin .or .int false (.t 32) (.t 35)⟩ 0, .fl ⟨(some 37), (some (30, true)), .bin .and .int false (.t 36) (.c (.i .u64 9259542123273814144))⟩ 0, .fl ⟨(some 38), (some (30, true)), .bin .eql .int false (.t 37) (.c (.i .u64 0))⟩ 0, .fl ⟨(some 39), none, .pick (.t 30) (.t 38) (.c (.b false))⟩ 0]] 0) (
       .cond (.t 39) (
        .seq (.reg [⟨(some 40), none, .mov (.t 0)⟩, ⟨(some 41), none, .slS (.t 40) (some (.c (.i .i64 16))) none⟩, ⟨(some 0), none, .mov (.t 41)⟩]) (
        .block 2 (.loop (
          .seq (.seq (.dreg [[.fl ⟨(some 42), none, .mov (.t 0)⟩ 0, .fl ⟨(some 43), none, .call (.b .lenS) [(.t 42)]⟩ 0, .fl ⟨(some 44), none, .bin .gtr .int false (.t 43) (.c (.i .i64 32))⟩ 0, .fl ⟨(some 45), none, .mov (.t 44)⟩ 0, .fl ⟨(some 46), (some (45, true)), .mov (.t 0)⟩ 0, .fl ⟨(some 48), (some (45, true)), .mov (.t 0)⟩ 0, .fl ⟨(some 49), (some (45, true)), .slS (.t 48) (some (.c (.i .i64 8))) none⟩ 0, .fl ⟨(some 52), (some (45, true)), .mov (.t 0)⟩ 0, .fl ⟨(some 53), (some (45, true)), .slS (.t 52) (some (.c (.i .i64 16))) none⟩ 0, .fl ⟨(some 55), (some (45, true)), .mov (.t 0)⟩ 0, .fl ⟨(some 56), (some (45, true)), .slS (.t 55) (some (.c (.i .i64 24))) none⟩ 0, .an ⟨(some 47), (some (45, true)), .call (.v (.c (.fn (.func 344) [] []))) [(.t 46)]⟩ [], .an ⟨(some 50), (some (45, true)), .call (.v (.c (.fn (.func 344) [] []))) [(.t 49)]⟩ [], .fl ⟨(some 51), (some (45, true)), .bin .or .int false (.t 47) (.t 50)⟩ 0, .an ⟨(some 54), (some (45, true)), .call (.v (.c (.fn (.func 344) [] []))) [(.t 53)]⟩ [], .an ⟨(some 57), (some (45, true)), .call (.v (.c (.fn (.func 344) [] []))) [(.t 56)]⟩ [], .fl ⟨(some 58), (some (45, true)), .bin .or .int false (.t 54) (.t 57)⟩ 0, .fl ⟨(some 59), (some (45, true)), .bin .or .int false (.t 51) (.t 58)⟩ 0, .fl ⟨(some 60), (some (45, true)), .bin .and .int false (.t 59) (.c (.i .u64 9259542123273814144))⟩ 0, .fl ⟨(some 61), (some (45, true)), .bin .eql .int false (.t 60) (.c (.i .u64 0))⟩ 0, .fl ⟨(some 62), none, .pick (.t 45) (.t 61) (.c (.b false))⟩ 0]] 0) (
          .cond (.t 62) (
           .skip) (
           .exit 2))) (
          .block 3 (.reg [⟨(some 63), none, .mov (.t 0)⟩, ⟨(some 64), none, .slS (.t 63) (some (.c (.i .i64 32))) none⟩, ⟨(some 0), none, .mov (.t 64)⟩])))))) (
        .skip)))) (
       .skip))) (
      .exit 1))) (
      .skip))) (
     .seq (.reg [⟨(some 65), none, .mov (.t 3)⟩, ⟨(some 66), none, .iaA 256 1 (.c (.p (some ⟨(.old 3), 0⟩))) (.t 65)⟩, ⟨(some 67), none, .load none (.t 66)⟩, ⟨(some 4), none, .mov (.t 67)⟩]) (
     .seq (.reg [⟨(some 68), none, .mov (.t 4)⟩, ⟨(some 69), none, .bin .and .int false (.t 68) (.c (.i .u8 7))⟩, ⟨(some 70), none, .conv (.int .i64) (.t 69)⟩, ⟨(some 5), none, .mov (.t 70)⟩]) (
     .seq (.reg [⟨(some 71), none, .mov (.t 4)⟩, ⟨(some 72), none, .bin .shr .int false (.t 71) (.c (.i .u64 4))⟩, ⟨(some 73), none, .iaA 16 2 (.c (.p (some ⟨(.old 4), 0⟩))) (.t 72)⟩, ⟨(some 74), none, .load (some 2) (.t 73)⟩, ⟨(some 6), none, .new [(.i .u8 0), (.i .u8 0)] 496⟩, ⟨none, none, .store 2 (.t 6) (.t 74)⟩]) (
     .seq (.reg [⟨(some 75), none, .mov (.t 5)⟩]) (
     .block 4 (.seq (.reg [⟨(some 77), none, .bin .eql .int false (.t 75) (.c (.i .i64 2))⟩, ⟨(some 76), none, .mov (.t 77)⟩]) (
      .cond (.t 76) (
       .seq (.seq (.dreg [[.fl ⟨(some 78), none, .mov (.t 0)⟩ 0, .fl ⟨(some 79), none, .call (.b .lenS) [(.t 78)]⟩ 0, .fl ⟨(some 80), none, .bin .lss .int false (.t 79) (.c (.i .i64 2))⟩ 0, .fl ⟨(some 81), none, .mov (.t 80)⟩ 0, .fl ⟨(some 82), (some (81, false)), .mov (.t 0)⟩ 0, .fl ⟨(some 83), (some (81, false)), .ixS (.t 82) (.c (.i .i64 1))⟩ 0, .fl ⟨(some 84), (some (81, false)), .fa 0 (.t 6)⟩ 0, .fl ⟨(some 85), (some (81, false)), .load none (.t 84)⟩ 0, .fl ⟨(some 86), (some (81, false)), .bin .lss .int false (.t 83) (.t 85)⟩ 0, .fl ⟨(some 87), none, .pick (.t 81) (.c (.b true)) (.t 86)⟩ 0, .fl ⟨(some 88), none, .mov (.t 87)⟩ 0, .fl ⟨(some 89), (some (88, false)), .fa 1 (.t 6)⟩ 0, .fl ⟨(some 90), (some (88, false)), .load none (.t 89)⟩ 0, .fl ⟨(some 91), (some (88, false)), .mov (.t 0)⟩ 0, .fl ⟨(some 92), (some (88, false)), .ixS (.t 91) (.c (.i .i64 1))⟩ 0, .fl ⟨(some 93), (some (88, false)), .bin .lss .int false (.t 90) (.t 92)⟩ 0, .fl ⟨(some 94), none, .pick (.t 88) (.c (.b true)) (.t 93)⟩ 0]] 0) (
       .cond (.t 94) (
        .seq (.reg [⟨(some 2), none, .mov (.c (.b false))⟩]) (
        .ret)) (
        .skip))) (
       .reg [⟨(some 95), none, .mov (.t 0)⟩, ⟨(some 96), none, .slS (.t 95) (some (.c (.i .i64 2))) none⟩, ⟨(some 0), none, .mov (.t 96)⟩])) (
       .seq (.reg [⟨(some 98), none, .bin .eql .int false (.t 75) (.c (.i .i64 3))⟩, ⟨(some 97), none, .mov (.t 98)⟩]) (
       .cond (.t 97) (
        .seq (.seq (.dreg [[.fl ⟨(some 99), none, .mov (.t 0)⟩ 0, .fl ⟨(some 100), none, .call (.b .lenS) [(.t 99)]⟩ 0, .fl ⟨(some 101), none, .bin .lss .int false (.t 100) (.c (.i .i64 3))⟩ 0, .fl ⟨(some 102), none, .mov (.t 101)⟩ 0, .fl ⟨(some 103), (some (102, false)), .mov (.t 0)⟩ 0, .fl ⟨(some 104), (some (102, false)), .ixS (.t 103) (.c (.i .i64 1))⟩ 0, .fl ⟨(some 105), (some (102, false)), .fa 0 (.t 6)⟩ 0, .fl ⟨(some 106), (some (102, false)), .load none (.t 105)⟩ 0, .fl ⟨(some 107), (some (102, false)), .bin .lss .int false (.t 104) (.t 106)⟩ 0, .fl ⟨(some 108), none, .pick (.t 102) (.c (.b true)) (.t 107)⟩ 0, .fl ⟨(some 109), none, .mov (.t 108)⟩ 0, .fl ⟨(some 110), (some (109, false)), .fa 1 (.t 6)⟩ 0, .fl ⟨(some 111), (some (109, false)), .load none (.t 110)⟩ 0, .fl ⟨(some 112), (some (109, false)), .mov (.t 0)⟩ 0, .fl ⟨(some 113), (some (109, false)), .ixS (.t 112) (.c (.i .i64 1))⟩ 0, .fl ⟨(some 114), (some (109, false)), .bin .lss .int false (.t 111) (.t 113)⟩ 0, .fl ⟨(some 115), none, .pick (.t 109) (.c (.b true)) (.t 114)⟩ 0, .fl ⟨(some 116), none, .mov (.t 115)⟩ 0, .fl ⟨(some 117), (some (116, false)), .mov (.t 0)⟩ 0, .fl ⟨(some 118), (some (116, false)), .ixS (.t 117) (.c (.i .i64 2))⟩ 0, .fl ⟨(some 119), (some (116, false)), .bin .lss .int false (.t 118) (.c (.i .u8 128))⟩ 0, .fl ⟨(some 120), none, .pick (.t 116) (.c (.b true)) (.t 119)⟩ 0, .fl ⟨(some 121), none, .mov (.t 120)⟩ 0, .fl ⟨(some 122), (some (121, false)), .mov (.t 0)⟩ 0, .fl ⟨(some 123), (some (121, false)), .ixS (.t 122) (.c (.i .i64 2))⟩ 0, .fl ⟨(some 124), (some (121, false)), .bin .lss .int false (.c (.i .u8 191)) (.t 123)⟩ 0, .fl ⟨(some 125), none, .pick (.t 121) (.c (.b true)) (.t 124)⟩ 0]] 0) (
        .cond (.t 125) (
         .seq (.reg [⟨(some 2), none, .mov (.c (.b false))⟩]) (
         .ret)) (
         .skip))) (
        .reg [⟨(some 126), none, .mov (.t 0)⟩, ⟨(some 127), none, .slS (.t 126) (some (.c (.i .i64 3))) none⟩, ⟨(some 0), none, .mov (.t 127)⟩])) (
        .seq (.reg [⟨(some 129), none, .bin .eql .int false (.t 75) (.c (.i .i64 4))⟩, ⟨(some 128), none, .mov (.t 129)⟩]) (
        .cond (.t 128) (
         .seq (.seq (.dreg [[.fl ⟨(some 130), none, .mov (.t 0)⟩ 0, .fl ⟨(some 131), none, .call (.b .lenS) [(.t 130)]⟩ 0, .fl ⟨(some 132), none, .bin .lss .int false (.t 131) (.c (.i .i64 4))⟩ 0, .fl ⟨(some 133), none, .mov (.t 132)⟩ 0, .fl ⟨(some 134), (some (133, false)), .mov (.t 0)⟩ 0, .fl ⟨(some 135), (some (133, false)), .ixS (.t 134) (.c (.i .i64 1))⟩ 0, .fl ⟨(some 136), (some (133, false)), .fa 0 (.t 6)⟩ 0, .fl ⟨(some 137), (some (133, false)), .load none (.t 136)⟩ 0, .fl ⟨(some 138), (some (133, false)), .bin .lss .int false (.t 135) (.t 137)⟩ 0, .fl ⟨(some 139), none, .pick (.t 133) (.c (.b true)) (.t 138)⟩ 0, .fl ⟨(some 140), none, .mov (.t 139)⟩ 0, .fl ⟨(some 141), (some (140, false)), .fa 1 (.t 6)⟩ 0, .fl ⟨(some 142), (some (140, false)), .load none (.t 141)⟩ 0, .fl ⟨(some 143), (some (140, false)), .mov (.t 0)⟩ 0, .fl ⟨(some 144), (some (140, false)), .ixS (.t 143) (.c (.i .i64 1))⟩ 0, .fl ⟨(some 145), (some (140, false)), .bin .lss .int false (.t 142) (.t 144)⟩ 0, .fl ⟨(some 146), none, .pick (.t 140) (.c (.b true)) (.t 145)⟩ 0, .fl ⟨(some 147), none, .mov (.t 146)⟩ 0, .fl ⟨(some 148), (some (147, false)), .mov (.t 0)⟩ 0, .fl ⟨(some 149), (some (147, false)), .ixS (.t 148) (.c (.i .i64 2))⟩ 0, .fl ⟨(some 150), (some (147, false)), .bin .lss .int false (.t 149) (.c (.i .u8 128))⟩ 0, .fl ⟨(some 151), none, .pick (.t 147) (.c (.b true)) (.t 150)⟩ 0, .fl ⟨(some 152), none, .mov (.t 151)⟩ 0, .fl ⟨(some 153), (some (152, false)), .mov (.t 0)⟩ 0, .fl ⟨(some 154), (some (152, false)), .ixS (.t 153) (.c (.i .i64 2))⟩ 0, .fl ⟨(some 155), (some (152, false)), .bin .lss .int false (.c (.i .u8 191)) (.t 154)⟩ 0, .fl ⟨(some 156), none, .pick (.t 152) (.c (.b true)) (.t 155)⟩ 0, .fl ⟨(some 157), none, .mov (.t 156)⟩ 0, .fl ⟨(some 158), (some (157, false)), .mov (.t 0)⟩ 0, .fl ⟨(some 159), (some (157, false)), .ixS (.t 158) (.c (.i .i64 3))⟩ 0, .fl ⟨(some 160), (some (157, false)), .bin .lss .int false (.t 159) (.c (.i .u8 128))⟩ 0, .fl ⟨(some 161), none, .pick (.t 157) (.c (.b true)) (.t 160)⟩ 0, .fl ⟨(some 162), none, .mov (.t 161)⟩ 0, .fl ⟨(some 163), (some (162, false)), .mov (.t 0)⟩ 0, .fl ⟨(some 164), (some (162, false)), .ixS (.t 163) (.c (.i .i64 3))⟩ 0, .fl ⟨(some 165), (some (162, false)), .bin .lss .int false (.c (.i .u8 191)) (.t 164)⟩ 0, .fl ⟨(some 166), none, .pick (.t 162) (.c (.b true)) (.t 165)⟩ 0]] 0) (
         .cond (.t 166) (
          .seq (.reg [⟨(some 2), none, .mov (.c (.b false))⟩]) (
          .ret)) (
          .skip))) (
         .reg [⟨(some 167), none, .mov (.t 0)⟩, ⟨(some 168), none, .slS (.t 167) (some (.c (.i .i64 4))) none⟩, ⟨(some 0), none, .mov (.t 168)⟩])) (
         .seq (.reg [⟨(some 2), none, .mov (.c (.b false))⟩]) (
         .ret))))))))))))))))))) (
  .seq (.reg [⟨(some 2), none, .mov (.c (.b true))⟩]) (
  .ret))),
 [.tmp 2]⟩
/- slices.ContainsFunc[[]lodestar/api.Json,lodestar/api.Json] -/
noncomputable def a226 : F := ⟨9,
  .seq (.reg [⟨(some 4), none, .mov (.c (.b false))⟩]) (
  .seq (.reg [⟨(some 5), none, .mov (.t 0)⟩, ⟨(some 6), none, .mov (.t 1)⟩, ⟨(some 7), none, .call (.v (.c (.fn (.func 345) [] []))) [(.t 5), (.t 6)]⟩, ⟨(some 8), none, .bin .geq .int false (.t 7) (.c (.i .i64 0))⟩, ⟨(some 4), none, .mov (.t 8)⟩]) (
  .ret)),
 [.tmp 4]⟩
/- lodestar/json.may$1 -/
noncomputable def a227 : F := ⟨6,
  .seq (.reg [⟨(some 1), none, .box (.t 0) 53⟩, ⟨(some 2), none, .mov (.c (.b false))⟩]) (
  .seq (.reg [⟨(some 3), none, .load (some 5) (.t 1)⟩, ⟨(some 4), none, .call (.v (.c (.fn (.func 141) [] []))) [(.t 3)]⟩, ⟨(some 5), none, .un .not (.t 4)⟩, ⟨(some 2), none, .mov (.t 5)⟩]) (
  .ret)),
 [.tmp 2]⟩
/- lodestar/payload.named[lodestar/api.Vec] -/
noncomputable def a228 : F := ⟨22,
  .seq (.reg [⟨(some 4), none, .mov (.c (.sl none 0 0))⟩]) (
  .seq (.reg [⟨(some 5), none, .mov (.c (.sl none 0 0))⟩]) (
  .seq (.seq (.reg [⟨(some 8), none, .mov (.t 0)⟩, ⟨(some 9), none, .call (.b .lenV) [(.t 8)]⟩, ⟨(some 10), none, .mov (.c (.i .i64 0))⟩]) (
  .block 0 (.loop (
    .seq (.reg [⟨(some 11), none, .bin .lss .int false (.t 10) (.t 9)⟩]) (
    .seq (.cond (.t 11) (
     .skip) (
     .exit 0)) (
    .seq (.block 1 (.seq (.reg [⟨(some 12), none, .iaV 2 (.t 8) (.t 10)⟩, ⟨(some 13), none, .load (some 2) (.t 12)⟩, ⟨(some 7), none, .new [(.s []), (.sl none 0 0)] 115⟩, ⟨none, none, .store 2 (.t 7) (.t 13)⟩]) (
     .reg [⟨(some 14), none, .mov (.t 5)⟩, ⟨(some 15), none, .mov (.t 1)⟩, ⟨(some 16), none, .load (some 2) (.t 7)⟩, ⟨(some 17), none, .call (.v (.t 15)) [(.t 16)]⟩, ⟨(some 18), none, .buildS [(.s [])] 1 [(0, 1, (.t 17))] 9⟩, ⟨(some 19), none, .call (.b (.append 1 16 9)) [(.t 14), (.t 18)]⟩, ⟨(some 5), none, .mov (.t 19)⟩]))) (
    .reg [⟨(some 20), none, .bin .add .int false (.t 10) (.c (.i .i64 1))⟩, ⟨(some 10), none, .mov (.t 20)⟩]))))))) (
  .seq (.reg [⟨(some 21), none, .mov (.t 5)⟩, ⟨(some 4), none, .mov (.t 21)⟩]) (
  .ret)))),
 [.tmp 4]⟩
/- lodestar/payload.shape$1 -/
noncomputable def a229 : F := ⟨5,
  .seq (.reg [⟨(some 1), none, .box (.t 0) 115⟩, ⟨(some 2), none, .mov (.c (.s []))⟩]) (
  .seq (.reg [⟨(some 3), none, .fa 0 (.t 1)⟩, ⟨(some 4), none, .load none (.t 3)⟩, ⟨(some 2), none, .mov (.t 4)⟩]) (
  .ret)),
 [.tmp 2]⟩
/- lodestar/payload.named[lodestar/api.Field] -/
noncomputable def a230 : F := ⟨22,
  .seq (.reg [⟨(some 4), none, .mov (.c (.sl none 0 0))⟩]) (
  .seq (.reg [⟨(some 5), none, .mov (.c (.sl none 0 0))⟩]) (
  .seq (.seq (.reg [⟨(some 8), none, .mov (.t 0)⟩, ⟨(some 9), none, .call (.b .lenV) [(.t 8)]⟩, ⟨(some 10), none, .mov (.c (.i .i64 0))⟩]) (
  .block 0 (.loop (
    .seq (.reg [⟨(some 11), none, .bin .lss .int false (.t 10) (.t 9)⟩]) (
    .seq (.cond (.t 11) (
     .skip) (
     .exit 0)) (
    .seq (.block 1 (.seq (.reg [⟨(some 12), none, .iaV 4 (.t 8) (.t 10)⟩, ⟨(some 13), none, .load (some 4) (.t 12)⟩, ⟨(some 7), none, .new [(.s []), (.i .i64 0), (.i .i64 0), (.s [])] 117⟩, ⟨none, none, .store 4 (.t 7) (.t 13)⟩]) (
     .reg [⟨(some 14), none, .mov (.t 5)⟩, ⟨(some 15), none, .mov (.t 1)⟩, ⟨(some 16), none, .load (some 4) (.t 7)⟩, ⟨(some 17), none, .call (.v (.t 15)) [(.t 16)]⟩, ⟨(some 18), none, .buildS [(.s [])] 1 [(0, 1, (.t 17))] 9⟩, ⟨(some 19), none, .call (.b (.append 1 16 9)) [(.t 14), (.t 18)]⟩, ⟨(some 5), none, .mov (.t 19)⟩]))) (
    .reg [⟨(some 20), none, .bin .add .int false (.t 10) (.c (.i .i64 1))⟩, ⟨(some 10), none, .mov (.t 20)⟩]))))))) (
  .seq (.reg [⟨(some 21), none, .mov (.t 5)⟩, ⟨(some 4), none, .mov (.t 21)⟩]) (
  .ret)))),
 [.tmp 4]⟩
/- lodestar/payload.shape$2 -/
noncomputable def a231 : F := ⟨5,
  .seq (.reg [⟨(some 1), none, .box (.t 0) 117⟩, ⟨(some 2), none, .mov (.c (.s []))⟩]) (
  .seq (.reg [⟨(some 3), none, .fa 0 (.t 1)⟩, ⟨(some 4), none, .load none (.t 3)⟩, ⟨(some 2), none, .mov (.t 4)⟩]) (
  .ret)),
 [.tmp 2]⟩
/- slices.IndexFunc[[]lodestar/api.VecSpec,lodestar/api.VecSpec] -/
noncomputable def a232 : F := ⟨19,
  .seq (.reg [⟨(some 4), none, .mov (.c (.i .i64 0))⟩]) (
  .seq (.seq (.reg [⟨(some 6), none, .mov (.t 0)⟩, ⟨(some 7), none, .call (.b .lenV) [(.t 6)]⟩, ⟨(some 8), none, .mov (.c (.i .i64 0))⟩]) (
  .block 0 (.loop (
    .seq (.reg [⟨(some 9), none, .bin .lss .int false (.t 8) (.t 7)⟩]) (
    .seq (.cond (.t 9) (
     .skip) (
     .exit 0)) (
    .seq (.block 1 (.seq (.reg [⟨(some 10), none, .mov (.t 8)⟩, ⟨(some 5), none, .mov (.t 10)⟩]) (
     .seq (.reg [⟨(some 11), none, .mov (.t 1)⟩, ⟨(some 12), none, .mov (.t 0)⟩, ⟨(some 13), none, .mov (.t 5)⟩, ⟨(some 14), none, .iaV 3 (.t 12) (.t 13)⟩, ⟨(some 15), none, .load (some 3) (.t 14)⟩, ⟨(some 16), none, .call (.v (.t 11)) [(.t 15)]⟩]) (
     .cond (.t 16) (
      .seq (.reg [⟨(some 17), none, .mov (.t 5)⟩, ⟨(some 4), none, .mov (.t 17)⟩]) (
      .ret)) (
      .skip))))) (
    .reg [⟨(some 18), none, .bin .add .int false (.t 8) (.c (.i .i64 1))⟩, ⟨(some 8), none, .mov (.t 18)⟩]))))))) (
  .seq (.reg [⟨(some 4), none, .mov (.c (.i .i64 (-1)))⟩]) (
  .ret))),
 [.tmp 4]⟩
/- lodestar/payload.fits$1 -/
noncomputable def a233 : F := ⟨9,
  .seq (.reg [⟨(some 2), none, .box (.t 0) 60⟩, ⟨(some 3), none, .mov (.c (.b false))⟩]) (
  .seq (.reg [⟨(some 4), none, .fa 0 (.t 2)⟩, ⟨(some 5), none, .load none (.t 4)⟩, ⟨(some 6), none, .fa 0 (.t 1)⟩, ⟨(some 7), none, .load none (.t 6)⟩, ⟨(some 8), none, .bin .eql .str false (.t 5) (.t 7)⟩, ⟨(some 3), none, .mov (.t 8)⟩]) (
  .ret)),
 [.tmp 3]⟩
/- lodestar/payload.inside -/
noncomputable def a234 : F := ⟨6,
  .seq (.reg [⟨(some 2), none, .mov (.c (.b false))⟩]) (
  .seq (.reg [⟨(some 3), none, .mov (.t 0)⟩, ⟨(some 4), none, .call (.v (.c (.fn (.func 235) [] []))) [(.t 3), (.c (.fn (.func 346) [] []))]⟩, ⟨(some 5), none, .un .not (.t 4)⟩, ⟨(some 2), none, .mov (.t 5)⟩]) (
  .ret)),
 [.tmp 2]⟩
/- slices.ContainsFunc[[]int,int] -/
noncomputable def a235 : F := ⟨9,
  .seq (.reg [⟨(some 4), none, .mov (.c (.b false))⟩]) (
  .seq (.reg [⟨(some 5), none, .mov (.t 0)⟩, ⟨(some 6), none, .mov (.t 1)⟩, ⟨(some 7), none, .call (.v (.c (.fn (.func 347) [] []))) [(.t 5), (.t 6)]⟩, ⟨(some 8), none, .bin .geq .int false (.t 7) (.c (.i .i64 0))⟩, ⟨(some 4), none, .mov (.t 8)⟩]) (
  .ret)),
 [.tmp 4]⟩
/- slices.Index[[]lodestar/api.FieldSpec,lodestar/api.FieldSpec] -/
noncomputable def a237 : F := ⟨19,
  .seq (.reg [⟨(some 3), none, .box (.t 1) 62⟩, ⟨(some 4), none, .mov (.c (.i .i64 0))⟩]) (
  .seq (.seq (.reg [⟨(some 6), none, .mov (.t 0)⟩, ⟨(some 7), none, .call (.b .lenV) [(.t 6)]⟩, ⟨(some 8), none, .mov (.c (.i .i64 0))⟩]) (
  .block 0 (.loop (
    .seq (.reg [⟨(some 9), none, .bin .lss .int false (.t 8) (.t 7)⟩]) (
    .seq (.cond (.t 9) (
     .skip) (
     .exit 0)) (
    .seq (.block 1 (.seq (.reg [⟨(some 10), none, .mov (.t 8)⟩, ⟨(some 5), none, .mov (.t 10)⟩]) (
     .seq (.dreg [[.fl ⟨(some 11), none, .load (some 2) (.t 3)⟩ 0, .fl ⟨(some 12), none, .mov (.t 0)⟩ 0, .fl ⟨(some 13), none, .mov (.t 5)⟩ 0, .fl ⟨(some 14), none, .iaV 2 (.t 12) (.t 13)⟩ 0, .fl ⟨(some 15), none, .load (some 2) (.t 14)⟩ 0, .fl ⟨(some 16), none, .bin .eql (.struct [(0, none, .str), (1, none, .int)]) false (.t 11) (.t 15)⟩ 0]] 0) (
     .cond (.t 16) (
      .seq (.reg [⟨(some 17), none, .mov (.t 5)⟩, ⟨(some 4), none, .mov (.t 17)⟩]) (
      .ret)) (
      .skip))))) (
    .reg [⟨(some 18), none, .bin .add .int false (.t 8) (.c (.i .i64 1))⟩, ⟨(some 8), none, .mov (.t 18)⟩]))))))) (
  .seq (.reg [⟨(some 4), none, .mov (.c (.i .i64 (-1)))⟩]) (
  .ret))),
 [.tmp 4]⟩
/- slices.IndexFunc[[]lodestar/api.Field,lodestar/api.Field] -/
noncomputable def a247 : F := ⟨19,
  .seq (.reg [⟨(some 4), none, .mov (.c (.i .i64 0))⟩]) (
  .seq (.seq (.reg [⟨(some 6), none, .mov (.t 0)⟩, ⟨(some 7), none, .call (.b .lenV) [(.t 6)]⟩, ⟨(some 8), none, .mov (.c (.i .i64 0))⟩]) (
  .block 0 (.loop (
    .seq (.reg [⟨(some 9), none, .bin .lss .int false (.t 8) (.t 7)⟩]) (
    .seq (.cond (.t 9) (
     .skip) (
     .exit 0)) (
    .seq (.block 1 (.seq (.reg [⟨(some 10), none, .mov (.t 8)⟩, ⟨(some 5), none, .mov (.t 10)⟩]) (
     .seq (.reg [⟨(some 11), none, .mov (.t 1)⟩, ⟨(some 12), none, .mov (.t 0)⟩, ⟨(some 13), none, .mov (.t 5)⟩, ⟨(some 14), none, .iaV 4 (.t 12) (.t 13)⟩, ⟨(some 15), none, .load (some 4) (.t 14)⟩, ⟨(some 16), none, .call (.v (.t 11)) [(.t 15)]⟩]) (
     .cond (.t 16) (
      .seq (.reg [⟨(some 17), none, .mov (.t 5)⟩, ⟨(some 4), none, .mov (.t 17)⟩]) (
      .ret)) (
      .skip))))) (
    .reg [⟨(some 18), none, .bin .add .int false (.t 8) (.c (.i .i64 1))⟩, ⟨(some 8), none, .mov (.t 18)⟩]))))))) (
  .seq (.reg [⟨(some 4), none, .mov (.c (.i .i64 (-1)))⟩]) (
  .ret))),
 [.tmp 4]⟩
/- strings.IndexRune -/
noncomputable def a283 : F := ⟨187,
  .seq (.reg [⟨(some 4), none, .mov (.c (.i .i64 0))⟩]) (
  .block 0 (.seq (.reg [⟨(some 161), none, .mov (.t 1)⟩, ⟨(some 162), none, .bin .leq .int false (.c (.i .i32 0)) (.t 161)⟩, ⟨(some 163), none, .mov (.t 162)⟩, ⟨(some 164), (some (163, true)), .mov (.t 1)⟩, ⟨(some 165), (some (163, true)), .bin .lss .int false (.t 164) (.c (.i .i32 128))⟩, ⟨(some 166), none, .pick (.t 163) (.t 165) (.c (.b false))⟩, ⟨(some 160), none, .mov (.t 166)⟩]) (
   .cond (.t 160) (
    .seq (.reg [⟨(some 167), none, .mov (.t 0)⟩, ⟨(some 168), none, .mov (.t 1)⟩, ⟨(some 169), none, .conv (.int .u8) (.t 168)⟩, ⟨(some 170), none, .call (.v (.c (.fn (.func 127) [] []))) [(.t 167), (.t 169)]⟩, ⟨(some 4), none, .mov (.t 170)⟩]) (
    .ret)) (
    .seq (.reg [⟨(some 172), none, .mov (.t 1)⟩, ⟨(some 173), none, .bin .eql .int false (.t 172) (.c (.i .i32 65533))⟩, ⟨(some 171), none, .mov (.t 173)⟩]) (
    .cond (.t 171) (
     .seq (.seq (.reg [⟨(some 174), none, .mov (.t 0)⟩, ⟨(some 175), none, .rngS (.t 174)⟩]) (
     .block 9 (.loop (
       .seq (.reg [⟨(some 176), none, .nxtS (.t 175)⟩, ⟨(some 177), none, .ext (.t 176) 0⟩]) (
       .seq (.cond (.t 177) (
        .skip) (
        .exit 9)) (
       .block 10 (.seq (.reg [⟨(some 178), none, .ext (.t 176) 1⟩, ⟨(some 179), none, .ext (.t 176) 2⟩, ⟨(some 5), none, .mov (.t 178)⟩, ⟨(some 6), none, .mov (.t 179)⟩]) (
        .seq (.reg [⟨(some 180), none, .mov (.t 6)⟩, ⟨(some 181), none, .bin .eql .int false (.t 180) (.c (.i .i32 65533))⟩]) (
        .cond (.t 181) (
         .seq (.reg [⟨(some 182), none, .mov (.t 5)⟩, ⟨(some 4), none, .mov (.t 182)⟩]) (
         .ret)) (
         .skip)))))))))) (
     .seq (.reg [⟨(some 4), none, .mov (.c (.i .i64 (-1)))⟩]) (
     .ret))) (
     .seq (.reg [⟨(some 184), none, .mov (.t 1)⟩, ⟨(some 185), none, .call (.v (.c (.fn (.func 379) [] []))) [(.t 184)]⟩, ⟨(some 186), none, .un .not (.t 185)⟩, ⟨(some 183), none, .mov (.t 186)⟩]) (
     .cond (.t 183) (
      .seq (.reg [⟨(some 4), none, .mov (.c (.i .i64 (-1)))⟩]) (
      .ret)) (
      .reg [⟨none, none, .bad⟩])))))))),
 [.tmp 4]⟩
/- lodestar/wal.fix -/
noncomputable def a284 : F := ⟨15,
  .seq (.reg [⟨(some 4), none, .mov (.c (.s []))⟩]) (
  .seq (.reg [⟨(some 8), none, .mov (.t 0)⟩, ⟨(some 9), none, .conv (.int .u64) (.t 8)⟩, ⟨(some 10), none, .mov (.t 1)⟩, ⟨(some 11), none, .call (.v (.c (.fn (.func 179) [] []))) [(.t 9), (.t 10)]⟩, ⟨(some 7), none, .mov (.t 11)⟩, ⟨(some 12), none, .ext (.t 7) 0⟩, ⟨(some 13), none, .ext (.t 7) 1⟩, ⟨(some 5), none, .mov (.t 12)⟩, ⟨(some 6), none, .mov (.t 13)⟩]) (
  .seq (.reg [⟨(some 14), none, .mov (.t 5)⟩, ⟨(some 4), none, .mov (.t 14)⟩]) (
  .ret))),
 [.tmp 4]⟩
/- lodestar/wal.sum -/
noncomputable def a285 : F := ⟨7,
  .seq (.reg [⟨(some 2), none, .mov (.c (.s []))⟩]) (
  .seq (.reg [⟨(some 3), none, .mov (.t 0)⟩, ⟨(some 4), none, .call (.v (.c (.fn (.func 101) [] []))) [(.t 3)]⟩, ⟨(some 5), none, .conv (.int .i64) (.t 4)⟩, ⟨(some 6), none, .call (.v (.c (.fn (.func 284) [] []))) [(.t 5), (.c (.i .i64 4))]⟩, ⟨(some 2), none, .mov (.t 6)⟩]) (
  .ret)),
 [.tmp 2]⟩
/- errors.Is -/
noncomputable def a286 : F := ⟨22,
  .seq (.reg [⟨(some 4), none, .mov (.c (.b false))⟩]) (
  .seq (.seq (.reg [⟨(some 6), none, .mov (.t 0)⟩, ⟨(some 7), none, .bin .eql (.iface true pl) true (.t 6) (.c .ni)⟩, ⟨(some 8), none, .mov (.t 7)⟩, ⟨(some 9), (some (8, false)), .mov (.t 1)⟩, ⟨(some 10), (some (8, false)), .bin .eql (.iface true pl) true (.t 9) (.c .ni)⟩, ⟨(some 11), none, .pick (.t 8) (.c (.b true)) (.t 10)⟩]) (
  .cond (.t 11) (
   .seq (.reg [⟨(some 12), none, .mov (.t 0)⟩, ⟨(some 13), none, .mov (.t 1)⟩, ⟨(some 14), none, .bin .eql (.iface true pl) false (.t 12) (.t 13)⟩, ⟨(some 4), none, .mov (.t 14)⟩]) (
   .ret)) (
   .skip))) (
  .seq (.reg [⟨(some 15), none, .mov (.t 1)⟩, ⟨(some 16), none, .call (.v (.c (.fn (.func 382) [] []))) [(.t 15)]⟩, ⟨(some 17), none, .call (.m (.t 16) [(460, 576, none)]) []⟩, ⟨(some 5), none, .mov (.t 17)⟩]) (
  .seq (.reg [⟨(some 18), none, .mov (.t 0)⟩, ⟨(some 19), none, .mov (.t 1)⟩, ⟨(some 20), none, .mov (.t 5)⟩, ⟨(some 21), none, .call (.v (.c (.fn (.func 383) [] []))) [(.t 18), (.t 19), (.t 20)]⟩, ⟨(some 4), none, .mov (.t 21)⟩]) (
  .ret)))),
 [.tmp 4]⟩
/- slices.ContainsFunc[[]lodestar/api.Field,lodestar/api.Field] -/
noncomputable def a287 : F := ⟨9,
  .seq (.reg [⟨(some 4), none, .mov (.c (.b false))⟩]) (
  .seq (.reg [⟨(some 5), none, .mov (.t 0)⟩, ⟨(some 6), none, .mov (.t 1)⟩, ⟨(some 7), none, .call (.v (.c (.fn (.func 247) [] []))) [(.t 5), (.t 6)]⟩, ⟨(some 8), none, .bin .geq .int false (.t 7) (.c (.i .i64 0))⟩, ⟨(some 4), none, .mov (.t 8)⟩]) (
  .ret)),
 [.tmp 4]⟩
/- lodestar/payload.may$1 -/
noncomputable def a288 : F := ⟨7,
  .seq (.reg [⟨(some 1), none, .box (.t 0) 117⟩, ⟨(some 2), none, .mov (.c (.b false))⟩]) (
  .seq (.reg [⟨(some 3), none, .fa 1 (.t 1)⟩, ⟨(some 4), none, .load (some 3) (.t 3)⟩, ⟨(some 5), none, .call (.v (.c (.fn (.func 146) [] []))) [(.t 4)]⟩, ⟨(some 6), none, .un .not (.t 5)⟩, ⟨(some 2), none, .mov (.t 6)⟩]) (
  .ret)),
 [.tmp 2]⟩
/- lodestar/manifest.may -/
noncomputable def a291 : F := ⟨62,
  .seq (.reg [⟨(some 1), none, .box (.t 0) 105⟩, ⟨(some 2), none, .mov (.c (.b false))⟩]) (
  .seq (.seq (.reg [⟨(some 6), none, .fa 2 (.t 1)⟩, ⟨(some 7), none, .load none (.t 6)⟩, ⟨(some 8), none, .bin .lss .int false (.t 7) (.c (.i .i64 1))⟩, ⟨(some 9), none, .mov (.t 8)⟩, ⟨(some 10), (some (9, false)), .fa 2 (.t 1)⟩, ⟨(some 11), (some (9, false)), .load none (.t 10)⟩, ⟨(some 12), (some (9, false)), .bin .gtr .int false (.t 11) (.c (.i .i64 4503599627370496))⟩, ⟨(some 13), none, .pick (.t 9) (.c (.b true)) (.t 12)⟩, ⟨(some 14), none, .mov (.t 13)⟩, ⟨(some 15), (some (14, false)), .fa 3 (.t 1)⟩, ⟨(some 16), (some (14, false)), .load none (.t 15)⟩, ⟨(some 17), (some (14, false)), .bin .lss .int false (.t 16) (.c (.i .i64 0))⟩, ⟨(some 18), none, .pick (.t 14) (.c (.b true)) (.t 17)⟩, ⟨(some 19), none, .mov (.t 18)⟩, ⟨(some 20), (some (19, false)), .fa 3 (.t 1)⟩, ⟨(some 21), (some (19, false)), .load none (.t 20)⟩, ⟨(some 22), (some (19, false)), .bin .gtr .int false (.t 21) (.c (.i .i64 4503599627370496))⟩, ⟨(some 23), none, .pick (.t 19) (.c (.b true)) (.t 22)⟩, ⟨(some 24), none, .mov (.t 23)⟩, ⟨(some 25), (some (24, false)), .fa 1 (.t 1)⟩, ⟨(some 26), (some (24, false)), .load none (.t 25)⟩, ⟨(some 27), (some (24, false)), .fa 2 (.t 1)⟩, ⟨(some 28), (some (24, false)), .load none (.t 27)⟩, ⟨(some 29), (some (24, false)), .call (.v (.c (.fn (.func 387) [] []))) [(.t 26), (.t 28)]⟩, ⟨(some 30), (some (24, false)), .un .not (.t 29)⟩, ⟨(some 31), none, .pick (.t 24) (.c (.b true)) (.t 30)⟩, ⟨(some 32), none, .mov (.t 31)⟩, ⟨(some 33), (some (32, false)), .fa 0 (.t 1)⟩, ⟨(some 34), (some (32, false)), .load none (.t 33)⟩, ⟨(some 35), (some (32, false)), .call (.b .lenV) [(.t 34)]⟩, ⟨(some 36), (some (32, false)), .bin .gtr .int false (.t 35) (.c (.i .i64 1024))⟩, ⟨(some 37), none, .pick (.t 32) (.c (.b true)) (.t 36)⟩]) (
  .cond (.t 37) (
   .seq (.reg [⟨(some 2), none, .mov (.c (.b false))⟩]) (
   .ret)) (
   .skip))) (
  .seq (.reg [⟨(some 38), none, .mkM⟩, ⟨(some 39), none, .fa 1 (.t 1)⟩, ⟨(some 40), none, .load none (.t 39)⟩, ⟨none, none, .mset .str (.t 38) (.t 40) (.c (.b true))⟩, ⟨(some 41), none, .mov (.t 38)⟩, ⟨(some 3), none, .mov (.t 41)⟩]) (
  .seq (.seq (.reg [⟨(some 42), none, .fa 0 (.t 1)⟩, ⟨(some 43), none, .load none (.t 42)⟩, ⟨(some 44), none, .call (.b .lenV) [(.t 43)]⟩, ⟨(some 45), none, .mov (.c (.i .i64 0))⟩]) (
  .block 0 (.loop (
    .seq (.reg [⟨(some 46), none, .bin .lss .int false (.t 45) (.t 44)⟩]) (
    .seq (.cond (.t 46) (
     .skip) (
     .exit 0)) (
    .seq (.block 1 (.seq (.reg [⟨(some 47), none, .iaV 1 (.t 43) (.t 45)⟩, ⟨(some 48), none, .load none (.t 47)⟩, ⟨(some 5), none, .mov (.t 48)⟩]) (
     .seq (.seq (.reg [⟨(some 49), none, .mov (.t 5)⟩, ⟨(some 50), none, .fa 2 (.t 1)⟩, ⟨(some 51), none, .load none (.t 50)⟩, ⟨(some 52), none, .call (.v (.c (.fn (.func 387) [] []))) [(.t 49), (.t 51)]⟩, ⟨(some 53), none, .un .not (.t 52)⟩, ⟨(some 54), none, .mov (.t 53)⟩, ⟨(some 55), (some (54, false)), .mov (.t 3)⟩, ⟨(some 56), (some (54, false)), .mov (.t 5)⟩, ⟨(some 57), (some (54, false)), .lkp .str (.b false) false (.t 55) (.t 56)⟩, ⟨(some 58), none, .pick (.t 54) (.c (.b true)) (.t 57)⟩]) (
     .cond (.t 58) (
      .seq (.reg [⟨(some 2), none, .mov (.c (.b false))⟩]) (
      .ret)) (
      .skip))) (
     .reg [⟨(some 59), none, .mov (.t 3)⟩, ⟨(some 60), none, .mov (.t 5)⟩, ⟨none, none, .mset .str (.t 59) (.t 60) (.c (.b true))⟩])))) (
    .reg [⟨(some 61), none, .bin .add .int false (.t 45) (.c (.i .i64 1))⟩, ⟨(some 45), none, .mov (.t 61)⟩]))))))) (
  .seq (.reg [⟨(some 2), none, .mov (.c (.b true))⟩]) (
  .ret))))),
 [.tmp 2]⟩
/- sort.Strings -/
noncomputable def a292 : F := ⟨4,
  .reg [⟨(some 2), none, .mov (.t 0)⟩, ⟨(some 3), none, .call (.v (.c (.fn (.func 388) [] []))) [(.t 2)]⟩],
 []⟩
/- lodestar/manifest.number -/
noncomputable def a294 : F := ⟨24,
  .seq (.reg [⟨(some 2), none, .mov (.c (.i .i64 0))⟩, ⟨(some 3), none, .mov (.c (.b false))⟩]) (
  .seq (.reg [⟨(some 7), none, .mov (.t 0)⟩, ⟨(some 8), none, .call (.v (.c (.fn (.func 125) [] []))) [(.t 7)]⟩, ⟨(some 6), none, .mov (.t 8)⟩, ⟨(some 9), none, .ext (.t 6) 0⟩, ⟨(some 10), none, .ext (.t 6) 1⟩, ⟨(some 4), none, .mov (.t 9)⟩, ⟨(some 5), none, .mov (.t 10)⟩]) (
  .seq (.reg [⟨(some 11), none, .mov (.t 4)⟩, ⟨(some 12), none, .mov (.t 5)⟩, ⟨(some 13), none, .bin .eql (.iface true pl) true (.t 12) (.c .ni)⟩, ⟨(some 14), none, .mov (.t 13)⟩, ⟨(some 15), (some (14, true)), .mov (.t 4)⟩, ⟨(some 16), (some (14, true)), .bin .geq .int false (.t 15) (.c (.i .i64 0))⟩, ⟨(some 17), none, .pick (.t 14) (.t 16) (.c (.b false))⟩, ⟨(some 18), none, .mov (.t 17)⟩, ⟨(some 19), (some (18, true)), .mov (.t 4)⟩, ⟨(some 20), (some (18, true)), .call (.v (.c (.fn (.func 23) [] []))) [(.t 19)]⟩, ⟨(some 21), (some (18, true)), .mov (.t 0)⟩, ⟨(some 22), (some (18, true)), .bin .eql .str false (.t 20) (.t 21)⟩, ⟨(some 23), none, .pick (.t 18) (.t 22) (.c (.b false))⟩, ⟨(some 2), none, .mov (.t 11)⟩, ⟨(some 3), none, .mov (.t 23)⟩]) (
  .ret))),
 [.tmp 2, .tmp 3]⟩
/- math/bits.Len64 -/
noncomputable def a305 : F := ⟨25,
  .seq (.reg [⟨(some 2), none, .mov (.c (.i .i64 0))⟩]) (
  .seq (.seq (.reg [⟨(some 3), none, .mov (.t 0)⟩, ⟨(some 4), none, .bin .geq .int false (.t 3) (.c (.i .u64 4294967296))⟩]) (
  .cond (.t 4) (
   .seq (.reg [⟨(some 5), none, .mov (.t 0)⟩, ⟨(some 6), none, .bin .shr .int false (.t 5) (.c (.i .u64 32))⟩, ⟨(some 0), none, .mov (.t 6)⟩]) (
   .reg [⟨(some 2), none, .mov (.c (.i .i64 32))⟩])) (
   .skip))) (
  .seq (.seq (.reg [⟨(some 7), none, .mov (.t 0)⟩, ⟨(some 8), none, .bin .geq .int false (.t 7) (.c (.i .u64 65536))⟩]) (
  .cond (.t 8) (
   .seq (.reg [⟨(some 9), none, .mov (.t 0)⟩, ⟨(some 10), none, .bin .shr .int false (.t 9) (.c (.i .u64 16))⟩, ⟨(some 0), none, .mov (.t 10)⟩]) (
   .reg [⟨(some 11), none, .mov (.t 2)⟩, ⟨(some 12), none, .bin .add .int false (.t 11) (.c (.i .i64 16))⟩, ⟨(some 2), none, .mov (.t 12)⟩])) (
   .skip))) (
  .seq (.seq (.reg [⟨(some 13), none, .mov (.t 0)⟩, ⟨(some 14), none, .bin .geq .int false (.t 13) (.c (.i .u64 256))⟩]) (
  .cond (.t 14) (
   .seq (.reg [⟨(some 15), none, .mov (.t 0)⟩, ⟨(some 16), none, .bin .shr .int false (.t 15) (.c (.i .u64 8))⟩, ⟨(some 0), none, .mov (.t 16)⟩]) (
   .reg [⟨(some 17), none, .mov (.t 2)⟩, ⟨(some 18), none, .bin .add .int false (.t 17) (.c (.i .i64 8))⟩, ⟨(some 2), none, .mov (.t 18)⟩])) (
   .skip))) (
  .seq (.reg [⟨(some 19), none, .mov (.t 2)⟩, ⟨(some 20), none, .mov (.t 0)⟩, ⟨(some 21), none, .conv (.int .u8) (.t 20)⟩, ⟨(some 22), none, .ixS (.c (.s [0, 1, 2, 2, 3, 3, 3, 3, 4, 4, 4, 4, 4, 4, 4, 4, 5, 5, 5, 5, 5, 5, 5, 5, 5, 5, 5, 5, 5, 5, 5, 5, 6, 6, 6, 6, 6, 6, 6, 6, 6, 6, 6, 6, 6, 6, 6, 6, 6, 6, 6, 6, 6, 6, 6, 6, 6, 6, 6, 6, 6, 6, 6, 6, 7, 7, 7, 7, 7, 7, 7, 7, 7, 7, 7, 7, 7, 7, 7, 7, 7, 7, 7, 7, 7, 7, 7, 7, 7, 7, 7, 7, 7, 7, 7, 7, 7, 7, 7, 7, 7, 7, 7, 7, 7, 7, 7, 7, 7, 7, 7, 7, 7, 7, 7, 7, 7, 7, 7, 7, 7, 7, 7, 7, 7, 7, 7, 7, 8, 8, 8, 8, 8, 8, 8, 8, 8, 8, 8, 8, 8, 8, 8, 8, 8, 8, 8, 8, 8, 8, 8, 8, 8, 8, 8, 8, 8, 8, 8, 8, 8, 8, 8, 8, 8, 8, 8, 8, 8, 8, 8, 8, 8, 8, 8, 8, 8, 8, 8, 8, 8, 8, 8, 8, 8, 8, 8, 8, 8, 8, 8, 8, 8, 8, 8, 8, 8, 8, 8, 8, 8, 8, 8, 8, 8, 8, 8, 8, 8, 8, 8, 8, 8, 8, 8, 8, 8, 8, 8, 8, 8, 8, 8, 8, 8, 8, 8, 8, 8, 8, 8, 8, 8, 8, 8, 8, 8, 8, 8, 8, 8, 8, 8, 8, 8, 8, 8, 8, 8, 8, 8, 8, 8, 8, 8, 8])) (.t 21)⟩, ⟨(some 23), none, .conv (.int .i64) (.t 22)⟩, ⟨(some 24), none, .bin .add .int false (.t 19) (.t 23)⟩, ⟨(some 2), none, .mov (.t 24)⟩]) (
  .ret))))),
 [.tmp 2]⟩
/- lodestar/payload.name -/
noncomputable def a314 : F := ⟨52,
  .seq (.reg [⟨(some 2), none, .mov (.c (.b false))⟩]) (
  .seq (.seq (.reg [⟨(some 5), none, .mov (.t 0)⟩, ⟨(some 6), none, .conv (.strBytes 5) (.t 5)⟩, ⟨(some 7), none, .call (.b .lenV) [(.t 6)]⟩, ⟨(some 8), none, .mov (.c (.i .i64 0))⟩]) (
  .block 0 (.loop (
    .seq (.reg [⟨(some 9), none, .bin .lss .int false (.t 8) (.t 7)⟩]) (
    .seq (.cond (.t 9) (
     .skip) (
     .exit 0)) (
    .seq (.block 1 (.seq (.reg [⟨(some 10), none, .mov (.t 8)⟩, ⟨(some 11), none, .iaV 1 (.t 6) (.t 8)⟩, ⟨(some 12), none, .load none (.t 11)⟩, ⟨(some 3), none, .mov (.t 10)⟩, ⟨(some 4), none, .mov (.t 12)⟩]) (
     .seq (.seq (.reg [⟨(some 13), none, .mov (.t 4)⟩, ⟨(some 14), none, .bin .eql .int false (.t 13) (.c (.i .u8 95))⟩, ⟨(some 15), none, .mov (.t 14)⟩, ⟨(some 16), (some (15, false)), .mov (.t 4)⟩, ⟨(some 17), (some (15, false)), .bin .geq .int false (.t 16) (.c (.i .u8 97))⟩, ⟨(some 18), (some (15, false)), .mov (.t 17)⟩, ⟨(some 19), (some (18, true)), .mov (.t 4)⟩, ⟨(some 20), (some (18, true)), .bin .leq .int false (.t 19) (.c (.i .u8 122))⟩, ⟨(some 21), (some (15, false)), .pick (.t 18) (.t 20) (.c (.b false))⟩, ⟨(some 22), none, .pick (.t 15) (.c (.b true)) (.t 21)⟩, ⟨(some 23), none, .mov (.t 22)⟩, ⟨(some 24), (some (23, false)), .mov (.t 4)⟩, ⟨(some 25), (some (23, false)), .bin .geq .int false (.t 24) (.c (.i .u8 65))⟩, ⟨(some 26), (some (23, false)), .mov (.t 25)⟩, ⟨(some 27), (some (26, true)), .mov (.t 4)⟩, ⟨(some 28), (some (26, true)), .bin .leq .int false (.t 27) (.c (.i .u8 90))⟩, ⟨(some 29), (some (23, false)), .pick (.t 26) (.t 28) (.c (.b false))⟩, ⟨(some 30), none, .pick (.t 23) (.c (.b true)) (.t 29)⟩, ⟨(some 31), none, .mov (.t 30)⟩, ⟨(some 32), (some (31, false)), .mov (.t 3)⟩, ⟨(some 33), (some (31, false)), .bin .gtr .int false (.t 32) (.c (.i .i64 0))⟩, ⟨(some 34), (some (31, false)), .mov (.t 33)⟩, ⟨(some 35), (some (34, true)), .mov (.t 4)⟩, ⟨(some 36), (some (34, true)), .bin .geq .int false (.t 35) (.c (.i .u8 48))⟩, ⟨(some 37), (some (31, false)), .pick (.t 34) (.t 36) (.c (.b false))⟩, ⟨(some 38), (some (31, false)), .mov (.t 37)⟩, ⟨(some 39), (some (38, true)), .mov (.t 4)⟩, ⟨(some 40), (some (38, true)), .bin .leq .int false (.t 39) (.c (.i .u8 57))⟩, ⟨(some 41), (some (31, false)), .pick (.t 38) (.t 40) (.c (.b false))⟩, ⟨(some 42), none, .pick (.t 31) (.c (.b true)) (.t 41)⟩]) (
     .cond (.t 42) (
      .exit 1) (
      .skip))) (
     .seq (.reg [⟨(some 2), none, .mov (.c (.b false))⟩]) (
     .ret))))) (
    .reg [⟨(some 43), none, .bin .add .int false (.t 8) (.c (.i .i64 1))⟩, ⟨(some 8), none, .mov (.t 43)⟩]))))))) (
  .seq (.reg [⟨(some 44), none, .mov (.t 0)⟩, ⟨(some 45), none, .call (.b .lenS) [(.t 44)]⟩, ⟨(some 46), none, .bin .geq .int false (.t 45) (.c (.i .i64 1))⟩, ⟨(some 47), none, .mov (.t 46)⟩, ⟨(some 48), (some (47, true)), .mov (.t 0)⟩, ⟨(some 49), (some (47, true)), .call (.b .lenS) [(.t 48)]⟩, ⟨(some 50), (some (47, true)), .bin .leq .int false (.t 49) (.c (.i .i64 32))⟩, ⟨(some 51), none, .pick (.t 47) (.t 50) (.c (.b false))⟩, ⟨(some 2), none, .mov (.t 51)⟩]) (
  .ret))),
 [.tmp 2]⟩
/- internal/strconv.log10Pow2 -/
noncomputable def a315 : F := ⟨6,
  .seq (.reg [⟨(some 2), none, .mov (.c (.i .i64 0))⟩]) (
  .seq (.reg [⟨(some 3), none, .mov (.t 0)⟩, ⟨(some 4), none, .bin .mul .int false (.t 3) (.c (.i .i64 78913))⟩, ⟨(some 5), none, .bin .shr .int false (.t 4) (.c (.i .u64 18))⟩, ⟨(some 2), none, .mov (.t 5)⟩]) (
  .ret)),
 [.tmp 2]⟩
/- internal/strconv.bool2[int] -/
noncomputable def a316 : F := ⟨4,
  .seq (.reg [⟨(some 2), none, .mov (.c (.i .i64 0))⟩]) (
  .seq (.seq (.reg [⟨(some 3), none, .mov (.t 0)⟩]) (
  .cond (.t 3) (
   .seq (.reg [⟨(some 2), none, .mov (.c (.i .i64 1))⟩]) (
   .ret)) (
   .skip))) (
  .seq (.reg [⟨(some 2), none, .mov (.c (.i .i64 0))⟩]) (
  .ret))),
 [.tmp 2]⟩
/- unicode/utf8.AppendRune -/
noncomputable def a326 : F := ⟨16,
  .seq (.reg [⟨(some 4), none, .mov (.c (.sl none 0 0))⟩]) (
  .seq (.seq (.reg [⟨(some 5), none, .mov (.t 1)⟩, ⟨(some 6), none, .conv (.int .u32) (.t 5)⟩, ⟨(some 7), none, .bin .leq .int false (.t 6) (.c (.i .u32 127))⟩]) (
  .cond (.t 7) (
   .seq (.reg [⟨(some 8), none, .mov (.t 0)⟩, ⟨(some 9), none, .mov (.t 1)⟩, ⟨(some 10), none, .conv (.int .u8) (.t 9)⟩, ⟨(some 11), none, .buildS [(.i .u8 0)] 1 [(0, 1, (.t 10))] 5⟩, ⟨(some 12), none, .call (.b (.append 1 1 5)) [(.t 8), (.t 11)]⟩, ⟨(some 4), none, .mov (.t 12)⟩]) (
   .ret)) (
   .skip))) (
  .seq (.reg [⟨(some 13), none, .mov (.t 0)⟩, ⟨(some 14), none, .mov (.t 1)⟩, ⟨(some 15), none, .call (.v (.c (.fn (.func 401) [] []))) [(.t 13), (.t 14)]⟩, ⟨(some 4), none, .mov (.t 15)⟩]) (
  .ret))),
 [.tmp 4]⟩
/- slices.insertionSortCmpFunc[lodestar/api.Vec] -/
noncomputable def a327 : F := ⟨53,
  .seq (.reg [⟨(some 10), none, .mov (.t 1)⟩, ⟨(some 11), none, .bin .add .int false (.t 10) (.c (.i .i64 1))⟩, ⟨(some 8), none, .mov (.t 11)⟩]) (
  .block 0 (.loop (
    .seq (.seq (.reg [⟨(some 12), none, .mov (.t 8)⟩, ⟨(some 13), none, .mov (.t 2)⟩, ⟨(some 14), none, .bin .lss .int false (.t 12) (.t 13)⟩]) (
    .cond (.t 14) (
     .skip) (
     .exit 0))) (
    .seq (.block 1 (.seq (.reg [⟨(some 17), none, .mov (.t 8)⟩, ⟨(some 9), none, .mov (.t 17)⟩]) (
     .block 2 (.loop (
       .seq (.seq (.dreg [[.fl ⟨(some 18), none, .mov (.t 9)⟩ 0, .fl ⟨(some 19), none, .mov (.t 1)⟩ 0, .fl ⟨(some 20), none, .bin .gtr .int false (.t 18) (.t 19)⟩ 0, .fl ⟨(some 21), none, .mov (.t 20)⟩ 0, .fl ⟨(some 22), (some (21, true)), .mov (.t 3)⟩ 0, .fl ⟨(some 23), (some (21, true)), .mov (.t 0)⟩ 0, .fl ⟨(some 24), (some (21, true)), .mov (.t 9)⟩ 0, .fl ⟨(some 25), (some (21, true)), .iaV 2 (.t 23) (.t 24)⟩ 0, .fl ⟨(some 26), (some (21, true)), .load (some 2) (.t 25)⟩ 0, .fl ⟨(some 27), (some (21, true)), .mov (.t 0)⟩ 0, .fl ⟨(some 28), (some (21, true)), .mov (.t 9)⟩ 0, .fl ⟨(some 29), (some (21, true)), .bin .sub .int false (.t 28) (.c (.i .i64 1))⟩ 0, .fl ⟨(some 30), (some (21, true)), .iaV 2 (.t 27) (.t 29)⟩ 0, .fl ⟨(some 31), (some (21, true)), .load (some 2) (.t 30)⟩ 0, .an ⟨(some 32), (some (21, true)), .call (.v (.t 22)) [(.t 26), (.t 31)]⟩ [], .fl ⟨(some 33), (some (21, true)), .bin .lss .int false (.t 32) (.c (.i .i64 0))⟩ 0, .fl ⟨(some 34), none, .pick (.t 21) (.t 33) (.c (.b false))⟩ 0]] 0) (
       .cond (.t 34) (
        .skip) (
        .exit 2))) (
       .seq (.block 3 (.dreg [[.fl ⟨(some 37), none, .mov (.t 0)⟩ 0, .fl ⟨(some 38), none, .mov (.t 9)⟩ 0, .fl ⟨(some 39), none, .mov (.t 0)⟩ 0, .fl ⟨(some 40), none, .mov (.t 9)⟩ 0, .fl ⟨(some 41), none, .bin .sub .int false (.t 40) (.c (.i .i64 1))⟩ 0, .fl ⟨(some 42), none, .mov (.t 0)⟩ 0, .fl ⟨(some 43), none, .mov (.t 9)⟩ 0, .fl ⟨(some 44), none, .bin .sub .int false (.t 43) (.c (.i .i64 1))⟩ 0, .fl ⟨(some 45), none, .iaV 2 (.t 42) (.t 44)⟩ 0, .fl ⟨(some 46), none, .load (some 2) (.t 45)⟩ 0, .fl ⟨(some 47), none, .mov (.t 0)⟩ 0, .fl ⟨(some 48), none, .mov (.t 9)⟩ 0, .fl ⟨(some 49), none, .iaV 2 (.t 47) (.t 48)⟩ 0, .fl ⟨(some 50), none, .load (some 2) (.t 49)⟩ 0, .fl ⟨(some 51), none, .iaV 2 (.t 37) (.t 38)⟩ 0, .an ⟨none, none, .store 2 (.t 51) (.t 46)⟩ [], .fl ⟨(some 52), none, .iaV 2 (.t 39) (.t 41)⟩ 0, .an ⟨none, none, .store 2 (.t 52) (.t 50)⟩ []]] 0)) (
       .reg [⟨(some 35), none, .mov (.t 9)⟩, ⟨(some 36), none, .bin .sub .int false (.t 35) (.c (.i .i64 1))⟩, ⟨(some 9), none, .mov (.t 36)⟩]))))))) (
    .reg [⟨(some 15), none, .mov (.t 8)⟩, ⟨(some 16), none, .bin .add .int false (.t 15) (.c (.i .i64 1))⟩, ⟨(some 8), none, .mov (.t 16)⟩]))))),
 []⟩
/- slices.insertionSortCmpFunc[lodestar/api.Field] -/
noncomputable def a336 : F := ⟨53,
  .seq (.reg [⟨(some 10), none, .mov (.t 1)⟩, ⟨(some 11), none, .bin .add .int false (.t 10) (.c (.i .i64 1))⟩, ⟨(some 8), none, .mov (.t 11)⟩]) (
  .block 0 (.loop (
    .seq (.seq (.reg [⟨(some 12), none, .mov (.t 8)⟩, ⟨(some 13), none, .mov (.t 2)⟩, ⟨(some 14), none, .bin .lss .int false (.t 12) (.t 13)⟩]) (
    .cond (.t 14) (
     .skip) (
     .exit 0))) (
    .seq (.block 1 (.seq (.reg [⟨(some 17), none, .mov (.t 8)⟩, ⟨(some 9), none, .mov (.t 17)⟩]) (
     .block 2 (.loop (
       .seq (.seq (.dreg [[.fl ⟨(some 18), none, .mov (.t 9)⟩ 0, .fl ⟨(some 19), none, .mov (.t 1)⟩ 0, .fl ⟨(some 20), none, .bin .gtr .int false (.t 18) (.t 19)⟩ 0, .fl ⟨(some 21), none, .mov (.t 20)⟩ 0, .fl ⟨(some 22), (some (21, true)), .mov (.t 3)⟩ 0, .fl ⟨(some 23), (some (21, true)), .mov (.t 0)⟩ 0, .fl ⟨(some 24), (some (21, true)), .mov (.t 9)⟩ 0, .fl ⟨(some 25), (some (21, true)), .iaV 4 (.t 23) (.t 24)⟩ 0, .fl ⟨(some 26), (some (21, true)), .load (some 4) (.t 25)⟩ 0, .fl ⟨(some 27), (some (21, true)), .mov (.t 0)⟩ 0, .fl ⟨(some 28), (some (21, true)), .mov (.t 9)⟩ 0, .fl ⟨(some 29), (some (21, true)), .bin .sub .int false (.t 28) (.c (.i .i64 1))⟩ 0, .fl ⟨(some 30), (some (21, true)), .iaV 4 (.t 27) (.t 29)⟩ 0, .fl ⟨(some 31), (some (21, true)), .load (some 4) (.t 30)⟩ 0, .an ⟨(some 32), (some (21, true)), .call (.v (.t 22)) [(.t 26), (.t 31)]⟩ [], .fl ⟨(some 33), (some (21, true)), .bin .lss .int false (.t 32) (.c (.i .i64 0))⟩ 0, .fl ⟨(some 34), none, .pick (.t 21) (.t 33) (.c (.b false))⟩ 0]] 0) (
       .cond (.t 34) (
        .skip) (
        .exit 2))) (
       .seq (.block 3 (.dreg [[.fl ⟨(some 37), none, .mov (.t 0)⟩ 0, .fl ⟨(some 38), none, .mov (.t 9)⟩ 0, .fl ⟨(some 39), none, .mov (.t 0)⟩ 0, .fl ⟨(some 40), none, .mov (.t 9)⟩ 0, .fl ⟨(some 41), none, .bin .sub .int false (.t 40) (.c (.i .i64 1))⟩ 0, .fl ⟨(some 42), none, .mov (.t 0)⟩ 0, .fl ⟨(some 43), none, .mov (.t 9)⟩ 0, .fl ⟨(some 44), none, .bin .sub .int false (.t 43) (.c (.i .i64 1))⟩ 0, .fl ⟨(some 45), none, .iaV 4 (.t 42) (.t 44)⟩ 0, .fl ⟨(some 46), none, .load (some 4) (.t 45)⟩ 0, .fl ⟨(some 47), none, .mov (.t 0)⟩ 0, .fl ⟨(some 48), none, .mov (.t 9)⟩ 0, .fl ⟨(some 49), none, .iaV 4 (.t 47) (.t 48)⟩ 0, .fl ⟨(some 50), none, .load (some 4) (.t 49)⟩ 0, .fl ⟨(some 51), none, .iaV 4 (.t 37) (.t 38)⟩ 0, .an ⟨none, none, .store 4 (.t 51) (.t 46)⟩ [], .fl ⟨(some 52), none, .iaV 4 (.t 39) (.t 41)⟩ 0, .an ⟨none, none, .store 4 (.t 52) (.t 50)⟩ []]] 0)) (
       .reg [⟨(some 35), none, .mov (.t 9)⟩, ⟨(some 36), none, .bin .sub .int false (.t 35) (.c (.i .i64 1))⟩, ⟨(some 9), none, .mov (.t 36)⟩]))))))) (
    .reg [⟨(some 15), none, .mov (.t 8)⟩, ⟨(some 16), none, .bin .add .int false (.t 15) (.c (.i .i64 1))⟩, ⟨(some 8), none, .mov (.t 16)⟩]))))),
 []⟩
/- slices.IndexFunc[[]lodestar/api.Json,lodestar/api.Json] -/
noncomputable def a345 : F := ⟨19,
  .seq (.reg [⟨(some 4), none, .mov (.c (.i .i64 0))⟩]) (
  .seq (.seq (.reg [⟨(some 6), none, .mov (.t 0)⟩, ⟨(some 7), none, .call (.b .lenV) [(.t 6)]⟩, ⟨(some 8), none, .mov (.c (.i .i64 0))⟩]) (
  .block 0 (.loop (
    .seq (.reg [⟨(some 9), none, .bin .lss .int false (.t 8) (.t 7)⟩]) (
    .seq (.cond (.t 9) (
     .skip) (
     .exit 0)) (
    .seq (.block 1 (.seq (.reg [⟨(some 10), none, .mov (.t 8)⟩, ⟨(some 5), none, .mov (.t 10)⟩]) (
     .seq (.reg [⟨(some 11), none, .mov (.t 1)⟩, ⟨(some 12), none, .mov (.t 0)⟩, ⟨(some 13), none, .mov (.t 5)⟩, ⟨(some 14), none, .iaV 5 (.t 12) (.t 13)⟩, ⟨(some 15), none, .load (some 5) (.t 14)⟩, ⟨(some 16), none, .call (.v (.t 11)) [(.t 15)]⟩]) (
     .cond (.t 16) (
      .seq (.reg [⟨(some 17), none, .mov (.t 5)⟩, ⟨(some 4), none, .mov (.t 17)⟩]) (
      .ret)) (
      .skip))))) (
    .reg [⟨(some 18), none, .bin .add .int false (.t 8) (.c (.i .i64 1))⟩, ⟨(some 8), none, .mov (.t 18)⟩]))))))) (
  .seq (.reg [⟨(some 4), none, .mov (.c (.i .i64 (-1)))⟩]) (
  .ret))),
 [.tmp 4]⟩
/- lodestar/payload.inside$1 -/
noncomputable def a346 : F := ⟨9,
  .seq (.reg [⟨(some 2), none, .mov (.c (.b false))⟩]) (
  .seq (.reg [⟨(some 3), none, .mov (.t 0)⟩, ⟨(some 4), none, .bin .lss .int false (.t 3) (.c (.i .i64 (-32768)))⟩, ⟨(some 5), none, .mov (.t 4)⟩, ⟨(some 6), (some (5, false)), .mov (.t 0)⟩, ⟨(some 7), (some (5, false)), .bin .gtr .int false (.t 6) (.c (.i .i64 32767))⟩, ⟨(some 8), none, .pick (.t 5) (.c (.b true)) (.t 7)⟩, ⟨(some 2), none, .mov (.t 8)⟩]) (
  .ret)),
 [.tmp 2]⟩
/- slices.IndexFunc[[]int,int] -/
noncomputable def a347 : F := ⟨19,
  .seq (.reg [⟨(some 4), none, .mov (.c (.i .i64 0))⟩]) (
  .seq (.seq (.reg [⟨(some 6), none, .mov (.t 0)⟩, ⟨(some 7), none, .call (.b .lenV) [(.t 6)]⟩, ⟨(some 8), none, .mov (.c (.i .i64 0))⟩]) (
  .block 0 (.loop (
    .seq (.reg [⟨(some 9), none, .bin .lss .int false (.t 8) (.t 7)⟩]) (
    .seq (.cond (.t 9) (
     .skip) (
     .exit 0)) (
    .seq (.block 1 (.seq (.reg [⟨(some 10), none, .mov (.t 8)⟩, ⟨(some 5), none, .mov (.t 10)⟩]) (
     .seq (.reg [⟨(some 11), none, .mov (.t 1)⟩, ⟨(some 12), none, .mov (.t 0)⟩, ⟨(some 13), none, .mov (.t 5)⟩, ⟨(some 14), none, .iaV 1 (.t 12) (.t 13)⟩, ⟨(some 15), none, .load none (.t 14)⟩, ⟨(some 16), none, .call (.v (.t 11)) [(.t 15)]⟩]) (
     .cond (.t 16) (
      .seq (.reg [⟨(some 17), none, .mov (.t 5)⟩, ⟨(some 4), none, .mov (.t 17)⟩]) (
      .ret)) (
      .skip))))) (
    .reg [⟨(some 18), none, .bin .add .int false (.t 8) (.c (.i .i64 1))⟩, ⟨(some 8), none, .mov (.t 18)⟩]))))))) (
  .seq (.reg [⟨(some 4), none, .mov (.c (.i .i64 (-1)))⟩]) (
  .ret))),
 [.tmp 4]⟩
/- errors.is -/
noncomputable def a383 : F := ⟨54,
  .seq (.reg [⟨(some 6), none, .mov (.c (.b false))⟩]) (
  .block 0 (.loop (
    .block 1 (.seq (.seq (.reg [⟨(some 14), none, .mov (.t 2)⟩, ⟨(some 15), none, .mov (.t 14)⟩, ⟨(some 16), (some (15, true)), .mov (.t 0)⟩, ⟨(some 17), (some (15, true)), .mov (.t 1)⟩, ⟨(some 18), (some (15, true)), .bin .eql (.iface true pl) false (.t 16) (.t 17)⟩, ⟨(some 19), none, .pick (.t 15) (.t 18) (.c (.b false))⟩]) (
     .cond (.t 19) (
      .seq (.reg [⟨(some 6), none, .mov (.c (.b true))⟩]) (
      .ret)) (
      .skip))) (
     .seq (.seq (.reg [⟨(some 21), none, .mov (.t 0)⟩, ⟨(some 22), none, .tasI [] 730 .ni true (.t 21)⟩, ⟨(some 20), none, .mov (.t 22)⟩, ⟨(some 23), none, .ext (.t 20) 0⟩, ⟨(some 24), none, .ext (.t 20) 1⟩, ⟨(some 7), none, .mov (.t 23)⟩, ⟨(some 8), none, .mov (.t 24)⟩]) (
     .seq (.reg [⟨(some 25), none, .mov (.t 8)⟩, ⟨(some 26), none, .mov (.t 25)⟩, ⟨(some 27), (some (26, true)), .mov (.t 7)⟩, ⟨(some 28), (some (26, true)), .mov (.t 1)⟩, ⟨(some 29), (some (26, true)), .call (.m (.t 27) []) [(.t 28)]⟩, ⟨(some 30), none, .pick (.t 26) (.t 29) (.c (.b false))⟩]) (
     .cond (.t 30) (
      .seq (.reg [⟨(some 6), none, .mov (.c (.b true))⟩]) (
      .ret)) (
      .skip)))) (
     .seq (.reg [⟨(some 31), none, .mov (.t 0)⟩]) (
     .block 2 (.seq (.reg [⟨(some 32), none, .tasI [476] 730 .ni true (.t 31)⟩, ⟨(some 33), none, .ext (.t 32) 1⟩, ⟨(some 34), none, .ext (.t 32) 0⟩]) (
      .cond (.t 33) (
       .seq (.reg [⟨(some 9), none, .mov (.t 34)⟩]) (
       .seq (.reg [⟨(some 35), none, .mov (.t 9)⟩, ⟨(some 36), none, .call (.m (.t 35) [(476, 583, none)]) []⟩, ⟨(some 0), none, .mov (.t 36)⟩]) (
       .seq (.reg [⟨(some 37), none, .mov (.t 0)⟩, ⟨(some 38), none, .bin .eql (.iface true pl) true (.t 37) (.c .ni)⟩]) (
       .cond (.t 38) (
        .seq (.reg [⟨(some 6), none, .mov (.c (.b false))⟩]) (
        .ret)) (
        .skip))))) (
       .seq (.reg [⟨(some 39), none, .tasI [] 730 .ni true (.t 31)⟩, ⟨(some 40), none, .ext (.t 39) 1⟩, ⟨(some 41), none, .ext (.t 39) 0⟩]) (
       .cond (.t 40) (
        .seq (.reg [⟨(some 10), none, .mov (.t 41)⟩]) (
        .seq (.seq (.reg [⟨(some 42), none, .mov (.t 10)⟩, ⟨(some 43), none, .call (.m (.t 42) [(476, 583, none)]) []⟩, ⟨(some 44), none, .call (.b .lenV) [(.t 43)]⟩, ⟨(some 45), none, .mov (.c (.i .i64 0))⟩]) (
        .block 3 (.loop (
          .seq (.reg [⟨(some 46), none, .bin .lss .int false (.t 45) (.t 44)⟩]) (
          .seq (.cond (.t 46) (
           .skip) (
           .exit 3)) (
          .seq (.block 4 (.seq (.reg [⟨(some 47), none, .iaV 1 (.t 43) (.t 45)⟩, ⟨(some 48), none, .load none (.t 47)⟩, ⟨(some 12), none, .mov (.t 48)⟩]) (
           .seq (.reg [⟨(some 49), none, .mov (.t 12)⟩, ⟨(some 50), none, .mov (.t 1)⟩, ⟨(some 51), none, .mov (.t 2)⟩, ⟨(some 52), none, .call (.v (.c (.fn (.func 383) [] []))) [(.t 49), (.t 50), (.t 51)]⟩]) (
           .cond (.t 52) (
            .seq (.reg [⟨(some 6), none, .mov (.c (.b true))⟩]) (
            .ret)) (
            .skip))))) (
          .reg [⟨(some 53), none, .bin .add .int false (.t 45) (.c (.i .i64 1))⟩, ⟨(some 45), none, .mov (.t 53)⟩]))))))) (
        .seq (.reg [⟨(some 6), none, .mov (.c (.b false))⟩]) (
        .ret)))) (
        .seq (.reg [⟨(some 13), none, .mov (.t 31)⟩]) (
        .seq (.reg [⟨(some 6), none, .mov (.c (.b false))⟩]) (
        .ret)))))))))))))),
 [.tmp 6]⟩
/- lodestar/manifest.file -/
noncomputable def a387 : F := ⟨36,
  .seq (.reg [⟨(some 4), none, .mov (.c (.b false))⟩]) (
  .seq (.seq (.reg [⟨(some 7), none, .mov (.t 0)⟩, ⟨(some 8), none, .call (.b .lenS) [(.t 7)]⟩, ⟨(some 9), none, .bin .lss .int false (.t 8) (.c (.i .i64 2))⟩, ⟨(some 10), none, .mov (.t 9)⟩, ⟨(some 11), (some (10, false)), .mov (.t 0)⟩, ⟨(some 12), (some (10, false)), .ixS (.t 11) (.c (.i .i64 0))⟩, ⟨(some 13), (some (10, false)), .bin .neq .int false (.t 12) (.c (.i .u8 115))⟩, ⟨(some 14), (some (10, false)), .mov (.t 13)⟩, ⟨(some 15), (some (14, true)), .mov (.t 0)⟩, ⟨(some 16), (some (14, true)), .ixS (.t 15) (.c (.i .i64 0))⟩, ⟨(some 17), (some (14, true)), .bin .neq .int false (.t 16) (.c (.i .u8 108))⟩, ⟨(some 18), (some (10, false)), .pick (.t 14) (.t 17) (.c (.b false))⟩, ⟨(some 19), none, .pick (.t 10) (.c (.b true)) (.t 18)⟩]) (
  .cond (.t 19) (
   .seq (.reg [⟨(some 4), none, .mov (.c (.b false))⟩]) (
   .ret)) (
   .skip))) (
  .seq (.reg [⟨(some 21), none, .mov (.t 0)⟩, ⟨(some 22), none, .slS (.t 21) (some (.c (.i .i64 1))) none⟩, ⟨(some 23), none, .call (.v (.c (.fn (.func 294) [] []))) [(.t 22)]⟩, ⟨(some 20), none, .mov (.t 23)⟩, ⟨(some 24), none, .ext (.t 20) 0⟩, ⟨(some 25), none, .ext (.t 20) 1⟩, ⟨(some 5), none, .mov (.t 24)⟩, ⟨(some 6), none, .mov (.t 25)⟩]) (
  .seq (.reg [⟨(some 26), none, .mov (.t 6)⟩, ⟨(some 27), none, .mov (.t 26)⟩, ⟨(some 28), (some (27, true)), .mov (.t 5)⟩, ⟨(some 29), (some (27, true)), .bin .geq .int false (.t 28) (.c (.i .i64 1))⟩, ⟨(some 30), none, .pick (.t 27) (.t 29) (.c (.b false))⟩, ⟨(some 31), none, .mov (.t 30)⟩, ⟨(some 32), (some (31, true)), .mov (.t 5)⟩, ⟨(some 33), (some (31, true)), .mov (.t 1)⟩, ⟨(some 34), (some (31, true)), .bin .lss .int false (.t 32) (.t 33)⟩, ⟨(some 35), none, .pick (.t 31) (.t 34) (.c (.b false))⟩, ⟨(some 4), none, .mov (.t 35)⟩]) (
  .ret)))),
 [.tmp 4]⟩
/- slices.Sort[[]string,string] -/
noncomputable def a388 : F := ⟨11,
  .seq (.reg [⟨(some 3), none, .mov (.t 0)⟩, ⟨(some 4), none, .call (.b .lenV) [(.t 3)]⟩, ⟨(some 2), none, .mov (.t 4)⟩]) (
  .reg [⟨(some 5), none, .mov (.t 0)⟩, ⟨(some 6), none, .mov (.t 2)⟩, ⟨(some 7), none, .mov (.t 2)⟩, ⟨(some 8), none, .conv (.int .u64) (.t 7)⟩, ⟨(some 9), none, .call (.v (.c (.fn (.func 199) [] []))) [(.t 8)]⟩, ⟨(some 10), none, .call (.v (.c (.fn (.func 445) [] []))) [(.t 5), (.c (.i .i64 0)), (.t 6), (.t 9)]⟩]),
 []⟩
/- slices.pdqsortOrdered[string] -/
noncomputable def a445 : F := ⟨134,
  .seq (.reg [⟨(some 8), none, .mov (.c (.b true))⟩]) (
  .seq (.reg [⟨(some 9), none, .mov (.c (.b true))⟩]) (
  .block 0 (.loop (
    .block 1 (.seq (.reg [⟨(some 19), none, .mov (.t 2)⟩, ⟨(some 20), none, .mov (.t 1)⟩, ⟨(some 21), none, .bin .sub .int false (.t 19) (.t 20)⟩, ⟨(some 10), none, .mov (.t 21)⟩]) (
     .seq (.seq (.reg [⟨(some 22), none, .mov (.t 10)⟩, ⟨(some 23), none, .bin .leq .int false (.t 22) (.c (.i .i64 12))⟩]) (
     .cond (.t 23) (
      .seq (.reg [⟨(some 24), none, .mov (.t 0)⟩, ⟨(some 25), none, .mov (.t 1)⟩, ⟨(some 26), none, .mov (.t 2)⟩, ⟨(some 27), none, .call (.v (.c (.fn (.func 493) [] []))) [(.t 24), (.t 25), (.t 26)]⟩]) (
      .ret)) (
      .skip))) (
     .seq (.seq (.reg [⟨(some 28), none, .mov (.t 3)⟩, ⟨(some 29), none, .bin .eql .int false (.t 28) (.c (.i .i64 0))⟩]) (
     .cond (.t 29) (
      .seq (.reg [⟨(some 30), none, .mov (.t 0)⟩, ⟨(some 31), none, .mov (.t 1)⟩, ⟨(some 32), none, .mov (.t 2)⟩, ⟨(some 33), none, .call (.v (.c (.fn (.func 494) [] []))) [(.t 30), (.t 31), (.t 32)]⟩]) (
      .ret)) (
      .skip))) (
     .seq (.seq (.reg [⟨(some 34), none, .mov (.t 8)⟩, ⟨(some 35), none, .un .not (.t 34)⟩]) (
     .cond (.t 35) (
      .seq (.reg [⟨(some 36), none, .mov (.t 0)⟩, ⟨(some 37), none, .mov (.t 1)⟩, ⟨(some 38), none, .mov (.t 2)⟩, ⟨(some 39), none, .call (.v (.c (.fn (.func 495) [] []))) [(.t 36), (.t 37), (.t 38)]⟩]) (
      .reg [⟨(some 40), none, .mov (.t 3)⟩, ⟨(some 41), none, .bin .sub .int false (.t 40) (.c (.i .i64 1))⟩, ⟨(some 3), none, .mov (.t 41)⟩])) (
      .skip))) (
     .seq (.reg [⟨(some 43), none, .mov (.t 0)⟩, ⟨(some 44), none, .mov (.t 1)⟩, ⟨(some 45), none, .mov (.t 2)⟩, ⟨(some 46), none, .call (.v (.c (.fn (.func 496) [] []))) [(.t 43), (.t 44), (.t 45)]⟩, ⟨(some 42), none, .mov (.t 46)⟩, ⟨(some 47), none, .ext (.t 42) 0⟩, ⟨(some 48), none, .ext (.t 42) 1⟩, ⟨(some 11), none, .mov (.t 47)⟩, ⟨(some 12), none, .mov (.t 48)⟩]) (
     .seq (.seq (.reg [⟨(some 49), none, .mov (.t 12)⟩, ⟨(some 50), none, .bin .eql .int false (.t 49) (.c (.i .i64 2))⟩]) (
     .cond (.t 50) (
      .seq (.reg [⟨(some 51), none, .mov (.t 0)⟩, ⟨(some 52), none, .mov (.t 1)⟩, ⟨(some 53), none, .mov (.t 2)⟩, ⟨(some 54), none, .call (.v (.c (.fn (.func 497) [] []))) [(.t 51), (.t 52), (.t 53)]⟩]) (
      .seq (.reg [⟨(some 55), none, .mov (.t 2)⟩, ⟨(some 56), none, .bin .sub .int false (.t 55) (.c (.i .i64 1))⟩, ⟨(some 57), none, .mov (.t 11)⟩, ⟨(some 58), none, .mov (.t 1)⟩, ⟨(some 59), none, .bin .sub .int false (.t 57) (.t 58)⟩, ⟨(some 60), none, .bin .sub .int false (.t 56) (.t 59)⟩, ⟨(some 11), none, .mov (.t 60)⟩]) (
      .reg [⟨(some 12), none, .mov (.c (.i .i64 1))⟩]))) (
      .skip))) (
     .seq (.seq (.reg [⟨(some 61), none, .mov (.t 8)⟩, ⟨(some 62), none, .mov (.t 61)⟩, ⟨(some 63), (some (62, true)), .mov (.t 9)⟩, ⟨(some 64), none, .pick (.t 62) (.t 63) (.c (.b false))⟩, ⟨(some 65), none, .mov (.t 64)⟩, ⟨(some 66), (some (65, true)), .mov (.t 12)⟩, ⟨(some 67), (some (65, true)), .bin .eql .int false (.t 66) (.c (.i .i64 1))⟩, ⟨(some 68), none, .pick (.t 65) (.t 67) (.c (.b false))⟩]) (
     .cond (.t 68) (
      .seq (.reg [⟨(some 69), none, .mov (.t 0)⟩, ⟨(some 70), none, .mov (.t 1)⟩, ⟨(some 71), none, .mov (.t 2)⟩, ⟨(some 72), none, .call (.v (.c (.fn (.func 498) [] []))) [(.t 69), (.t 70), (.t 71)]⟩]) (
      .cond (.t 72) (
       .ret) (
       .skip))) (
      .skip))) (
     .seq (.seq (.dreg [[.fl ⟨(some 73), none, .mov (.t 1)⟩ 0, .fl ⟨(some 74), none, .bin .gtr .int false (.t 73) (.c (.i .i64 0))⟩ 0, .fl ⟨(some 75), none, .mov (.t 74)⟩ 0, .fl ⟨(some 76), (some (75, true)), .mov (.t 0)⟩ 0, .fl ⟨(some 77), (some (75, true)), .mov (.t 1)⟩ 0, .fl ⟨(some 78), (some (75, true)), .bin .sub .int false (.t 77) (.c (.i .i64 1))⟩ 0, .fl ⟨(some 79), (some (75, true)), .iaV 1 (.t 76) (.t 78)⟩ 0, .fl ⟨(some 80), (some (75, true)), .load none (.t 79)⟩ 0, .fl ⟨(some 81), (some (75, true)), .mov (.t 0)⟩ 0, .fl ⟨(some 82), (some (75, true)), .mov (.t 11)⟩ 0, .fl ⟨(some 83), (some (75, true)), .iaV 1 (.t 81) (.t 82)⟩ 0, .fl ⟨(some 84), (some (75, true)), .load none (.t 83)⟩ 0, .an ⟨(some 85), (some (75, true)), .call (.v (.c (.fn (.func 499) [] []))) [(.t 80), (.t 84)]⟩ [], .fl ⟨(some 86), (some (75, true)), .un .not (.t 85)⟩ 0, .fl ⟨(some 87), none, .pick (.t 75) (.t 86) (.c (.b false))⟩ 0]] 0) (
     .cond (.t 87) (
      .seq (.reg [⟨(some 88), none, .mov (.t 0)⟩, ⟨(some 89), none, .mov (.t 1)⟩, ⟨(some 90), none, .mov (.t 2)⟩, ⟨(some 91), none, .mov (.t 11)⟩, ⟨(some 92), none, .call (.v (.c (.fn (.func 500) [] []))) [(.t 88), (.t 89), (.t 90), (.t 91)]⟩, ⟨(some 13), none, .mov (.t 92)⟩]) (
      .seq (.reg [⟨(some 93), none, .mov (.t 13)⟩, ⟨(some 1), none, .mov (.t 93)⟩]) (
      .exit 1))) (
      .skip))) (
     .seq (.reg [⟨(some 95), none, .mov (.t 0)⟩, ⟨(some 96), none, .mov (.t 1)⟩, ⟨(some 97), none, .mov (.t 2)⟩, ⟨(some 98), none, .mov (.t 11)⟩, ⟨(some 99), none, .call (.v (.c (.fn (.func 501) [] []))) [(.t 95), (.t 96), (.t 97), (.t 98)]⟩, ⟨(some 94), none, .mov (.t 99)⟩, ⟨(some 100), none, .ext (.t 94) 0⟩, ⟨(some 101), none, .ext (.t 94) 1⟩, ⟨(some 14), none, .mov (.t 100)⟩, ⟨(some 15), none, .mov (.t 101)⟩]) (
     .seq (.reg [⟨(some 102), none, .mov (.t 15)⟩, ⟨(some 9), none, .mov (.t 102)⟩]) (
     .seq (.reg [⟨(some 103), none, .mov (.t 14)⟩, ⟨(some 104), none, .mov (.t 1)⟩, ⟨(some 105), none, .bin .sub .int false (.t 103) (.t 104)⟩, ⟨(some 106), none, .mov (.t 2)⟩, ⟨(some 107), none, .mov (.t 14)⟩, ⟨(some 108), none, .bin .sub .int false (.t 106) (.t 107)⟩, ⟨(some 16), none, .mov (.t 105)⟩, ⟨(some 17), none, .mov (.t 108)⟩]) (
     .seq (.reg [⟨(some 109), none, .mov (.t 10)⟩, ⟨(some 110), none, .bin .quo .int false (.t 109) (.c (.i .i64 8))⟩, ⟨(some 18), none, .mov (.t 110)⟩]) (
     .seq (.reg [⟨(some 111), none, .mov (.t 16)⟩, ⟨(some 112), none, .mov (.t 17)⟩, ⟨(some 113), none, .bin .lss .int false (.t 111) (.t 112)⟩]) (
     .cond (.t 113) (
      .seq (.reg [⟨(some 114), none, .mov (.t 16)⟩, ⟨(some 115), none, .mov (.t 18)⟩, ⟨(some 116), none, .bin .geq .int false (.t 114) (.t 115)⟩, ⟨(some 8), none, .mov (.t 116)⟩]) (
      .seq (.reg [⟨(some 117), none, .mov (.t 0)⟩, ⟨(some 118), none, .mov (.t 1)⟩, ⟨(some 119), none, .mov (.t 14)⟩, ⟨(some 120), none, .mov (.t 3)⟩, ⟨(some 121), none, .call (.v (.c (.fn (.func 445) [] []))) [(.t 117), (.t 118), (.t 119), (.t 120)]⟩]) (
      .reg [⟨(some 122), none, .mov (.t 14)⟩, ⟨(some 123), none, .bin .add .int false (.t 122) (.c (.i .i64 1))⟩, ⟨(some 1), none, .mov (.t 123)⟩]))) (
      .seq (.reg [⟨(some 124), none, .mov (.t 17)⟩, ⟨(some 125), none, .mov (.t 18)⟩, ⟨(some 126), none, .bin .geq .int false (.t 124) (.t 125)⟩, ⟨(some 8), none, .mov (.t 126)⟩]) (
      .seq (.reg [⟨(some 127), none, .mov (.t 0)⟩, ⟨(some 128), none, .mov (.t 14)⟩, ⟨(some 129), none, .bin .add .int false (.t 128) (.c (.i .i64 1))⟩, ⟨(some 130), none, .mov (.t 2)⟩, ⟨(some 131), none, .mov (.t 3)⟩, ⟨(some 132), none, .call (.v (.c (.fn (.func 445) [] []))) [(.t 127), (.t 129), (.t 130), (.t 131)]⟩]) (
      .reg [⟨(some 133), none, .mov (.t 14)⟩, ⟨(some 2), none, .mov (.t 133)⟩]))))))))))))))))))))),
 []⟩
/- cmp.isNaN[string] -/
noncomputable def a469 : F := ⟨6,
  .seq (.reg [⟨(some 2), none, .mov (.c (.b false))⟩]) (
  .seq (.reg [⟨(some 3), none, .mov (.t 0)⟩, ⟨(some 4), none, .mov (.t 0)⟩, ⟨(some 5), none, .bin .neq .str false (.t 3) (.t 4)⟩, ⟨(some 2), none, .mov (.t 5)⟩]) (
  .ret)),
 [.tmp 2]⟩
/- slices.insertionSortOrdered[string] -/
noncomputable def a493 : F := ⟨49,
  .seq (.reg [⟨(some 8), none, .mov (.t 1)⟩, ⟨(some 9), none, .bin .add .int false (.t 8) (.c (.i .i64 1))⟩, ⟨(some 6), none, .mov (.t 9)⟩]) (
  .block 0 (.loop (
    .seq (.seq (.reg [⟨(some 10), none, .mov (.t 6)⟩, ⟨(some 11), none, .mov (.t 2)⟩, ⟨(some 12), none, .bin .lss .int false (.t 10) (.t 11)⟩]) (
    .cond (.t 12) (
     .skip) (
     .exit 0))) (
    .seq (.block 1 (.seq (.reg [⟨(some 15), none, .mov (.t 6)⟩, ⟨(some 7), none, .mov (.t 15)⟩]) (
     .block 2 (.loop (
       .seq (.seq (.dreg [[.fl ⟨(some 16), none, .mov (.t 7)⟩ 0, .fl ⟨(some 17), none, .mov (.t 1)⟩ 0, .fl ⟨(some 18), none, .bin .gtr .int false (.t 16) (.t 17)⟩ 0, .fl ⟨(some 19), none, .mov (.t 18)⟩ 0, .fl ⟨(some 20), (some (19, true)), .mov (.t 0)⟩ 0, .fl ⟨(some 21), (some (19, true)), .mov (.t 7)⟩ 0, .fl ⟨(some 22), (some (19, true)), .iaV 1 (.t 20) (.t 21)⟩ 0, .fl ⟨(some 23), (some (19, true)), .load none (.t 22)⟩ 0, .fl ⟨(some 24), (some (19, true)), .mov (.t 0)⟩ 0, .fl ⟨(some 25), (some (19, true)), .mov (.t 7)⟩ 0, .fl ⟨(some 26), (some (19, true)), .bin .sub .int false (.t 25) (.c (.i .i64 1))⟩ 0, .fl ⟨(some 27), (some (19, true)), .iaV 1 (.t 24) (.t 26)⟩ 0, .fl ⟨(some 28), (some (19, true)), .load none (.t 27)⟩ 0, .an ⟨(some 29), (some (19, true)), .call (.v (.c (.fn (.func 499) [] []))) [(.t 23), (.t 28)]⟩ [], .fl ⟨(some 30), none, .pick (.t 19) (.t 29) (.c (.b false))⟩ 0]] 0) (
       .cond (.t 30) (
        .skip) (
        .exit 2))) (
       .seq (.block 3 (.dreg [[.fl ⟨(some 33), none, .mov (.t 0)⟩ 0, .fl ⟨(some 34), none, .mov (.t 7)⟩ 0, .fl ⟨(some 35), none, .mov (.t 0)⟩ 0, .fl ⟨(some 36), none, .mov (.t 7)⟩ 0, .fl ⟨(some 37), none, .bin .sub .int false (.t 36) (.c (.i .i64 1))⟩ 0, .fl ⟨(some 38), none, .mov (.t 0)⟩ 0, .fl ⟨(some 39), none, .mov (.t 7)⟩ 0, .fl ⟨(some 40), none, .bin .sub .int false (.t 39) (.c (.i .i64 1))⟩ 0, .fl ⟨(some 41), none, .iaV 1 (.t 38) (.t 40)⟩ 0, .fl ⟨(some 42), none, .load none (.t 41)⟩ 0, .fl ⟨(some 43), none, .mov (.t 0)⟩ 0, .fl ⟨(some 44), none, .mov (.t 7)⟩ 0, .fl ⟨(some 45), none, .iaV 1 (.t 43) (.t 44)⟩ 0, .fl ⟨(some 46), none, .load none (.t 45)⟩ 0, .fl ⟨(some 47), none, .iaV 1 (.t 33) (.t 34)⟩ 0, .an ⟨none, none, .store 1 (.t 47) (.t 42)⟩ [], .fl ⟨(some 48), none, .iaV 1 (.t 35) (.t 37)⟩ 0, .an ⟨none, none, .store 1 (.t 48) (.t 46)⟩ []]] 0)) (
       .reg [⟨(some 31), none, .mov (.t 7)⟩, ⟨(some 32), none, .bin .sub .int false (.t 31) (.c (.i .i64 1))⟩, ⟨(some 7), none, .mov (.t 32)⟩]))))))) (
    .reg [⟨(some 13), none, .mov (.t 6)⟩, ⟨(some 14), none, .bin .add .int false (.t 13) (.c (.i .i64 1))⟩, ⟨(some 6), none, .mov (.t 14)⟩]))))),
 []⟩
/- cmp.Less[string] -/
noncomputable def a499 : F := ⟨17,
  .seq (.reg [⟨(some 4), none, .mov (.c (.b false))⟩]) (
  .seq (.reg [⟨(some 5), none, .mov (.t 0)⟩, ⟨(some 6), none, .call (.v (.c (.fn (.func 469) [] []))) [(.t 5)]⟩, ⟨(some 7), none, .mov (.t 6)⟩, ⟨(some 8), (some (7, true)), .mov (.t 1)⟩, ⟨(some 9), (some (7, true)), .call (.v (.c (.fn (.func 469) [] []))) [(.t 8)]⟩, ⟨(some 10), (some (7, true)), .un .not (.t 9)⟩, ⟨(some 11), none, .pick (.t 7) (.t 10) (.c (.b false))⟩, ⟨(some 12), none, .mov (.t 11)⟩, ⟨(some 13), (some (12, false)), .mov (.t 0)⟩, ⟨(some 14), (some (12, false)), .mov (.t 1)⟩, ⟨(some 15), (some (12, false)), .bin .lss .str false (.t 13) (.t 14)⟩, ⟨(some 16), none, .pick (.t 12) (.c (.b true)) (.t 15)⟩, ⟨(some 4), none, .mov (.t 16)⟩]) (
  .ret)),
 [.tmp 4]⟩

noncomputable def tbT : T F := .n (.n (.n (.n (.n (.n (.n (.n (.e) (some a127) (.n (.e) (some a383) (.e))) (some a63) (.n (.e) (some a191) (.e))) none (.n (.n (.n (.e) (some a287) (.e)) none (.e)) none (.n (.e) (some a223) (.e)))) (some a15) (.n (.n (.n (.e) (some a143) (.e)) none (.n (.e) (some a207) (.e))) (some a47) (.n (.n (.e) (some a175) (.e)) (some a111) (.e)))) (some a7) (.n (.n (.n (.n (.e) (some a135) (.e)) none (.n (.n (.e) (some a327) (.e)) (some a199) (.e))) (some a39) (.n (.e) none (.n (.e) (some a231) (.e)))) (some a23) (.n (.n (.e) (some a87) (.n (.e) (some a215) (.e))) (some a55) (.n (.n (.e) (some a183) (.e)) (some a119) (.n (.e) (some a247) (.e)))))) (some a3) (.n (.n (.n (.n (.n (.e) none (.n (.e) (some a387) (.e))) none (.e)) (some a35) (.n (.n (.n (.e) (some a291) (.e)) none (.e)) none (.n (.e) (some a227) (.e)))) none (.n (.n (.e) none (.n (.e) (some a211) (.e))) none (.n (.n (.e) (some a179) (.e)) none (.n (.e) none (.n (.e) (some a499) (.e)))))) none (.n (.n (.n (.n (.e) (some a139) (.e)) none (.n (.e) (some a203) (.e))) none (.n (.e) none (.n (.e) (some a235) (.e)))) (some a27) (.n (.n (.n (.n (.e) (some a283) (.e)) none (.e)) (some a91) (.n (.n (.e) (some a347) (.e)) none (.e))) (some a59) (.n (.n (.n (.e) (some a315) (.e)) (some a187) (.e)) (some a123) (.e)))))) none (.n (.n (.n (.n (.n (.n (.e) (some a129) (.e)) none (.n (.e) (some a193) (.e))) (some a33) (.n (.e) (some a97) (.n (.e) (some a225) (.e)))) none (.n (.n (.n (.e) (some a145) (.e)) none (.n (.e) (some a209) (.e))) none (.n (.n (.n (.e) (some a305) (.e)) (some a177) (.e)) none (.e)))) (some a9) (.n (.n (.n (.e) none (.n (.e) (some a201) (.e))) (some a41) (.n (.e) none (.n (.e) (some a233) (.e)))) (some a25) (.n (.n (.e) (some a89) (.n (.n (.e) (some a345) (.e)) none (.e))) (some a57) (.n (.n (.e) (some a185) (.e)) (some a121) (.e))))) (some a5) (.n (.n (.n (.n (.n (.e) (some a133) (.e)) none (.e)) none (.n (.e) none (.n (.e) (some a229) (.e)))) none (.n (.n (.e) (some a85) (.n (.e) none (.n (.e) (some a469) (.e)))) (some a53) (.n (.n (.e) (some a181) (.e)) none (.e)))) none (.n (.n (.n (.n (.e) (some a141) (.e)) none (.n (.e) (some a205) (.e))) none (.n (.n (.e) (some a173) (.e)) (some a109) (.n (.e) (some a237) (.n (.e) (some a493) (.e))))) none (.n (.n (.n (.n (.e) (some a285) (.e)) none (.e)) (some a93) (.n (.e) (some a221) (.e))) (some a61) (.n (.n (.e) (some a189) (.n (.e) (some a445) (.e))) (some a125) (.e))))))) none (.n (.n (.n (.n (.n (.n (.n (.e) (some a128) (.e)) (some a64) (.n (.e) (some a192) (.e))) none (.n (.n (.n (.e) (some a288) (.e)) none (.e)) (some a96) (.n (.e) (some a224) (.e)))) (some a16) (.n (.n (.n (.e) (some a144) (.e)) none (.n (.n (.e) (some a336) (.e)) (some a208) (.e))) none (.n (.n (.e) (some a176) (.e)) (some a112) (.e)))) none (.n (.n (.n (.n (.e) (some a136) (.e)) none (.e)) (some a40) (.n (.e) (some a104) (.n (.e) (some a232) (.e)))) (some a24) (.n (.n (.e) (some a88) (.n (.e) (some a216) (.e))) (some a56) (.n (.n (.e) (some a184) (.e)) none (.e))))) (some a4) (.n (.n (.n (.n (.n (.e) (some a132) (.n (.e) (some a388) (.e))) none (.e)) (some a36) (.n (.n (.n (.e) (some a292) (.e)) none (.e)) none (.n (.e) (some a228) (.e)))) none (.n (.n (.e) none (.n (.e) (some a212) (.e))) none (.n (.n (.e) (some a180) (.e)) none (.e)))) (some a12) (.n (.n (.n (.n (.e) (some a140) (.e)) none (.n (.e) (some a204) (.e))) none (.n (.e) (some a108) (.e))) (some a28) (.n (.n (.n (.n (.e) (some a284) (.e)) none (.e)) (some a92) (.n (.e) (some a220) (.e))) none (.n (.n (.n (.e) (some a316) (.e)) (some a188) (.e)) (some a124) (.e)))))) none (.n (.n (.n (.n (.n (.n (.e) (some a130) (.e)) none (.n (.e) (some a194) (.e))) (some a34) (.n (.e) (some a98) (.n (.e) (some a226) (.e)))) none (.n (.n (.n (.e) (some a146) (.e)) none (.e)) (some a50) (.n (.n (.e) (some a178) (.e)) none (.e)))) (some a10) (.n (.n (.n (.n (.e) (some a138) (.e)) none (.n (.e) (some a202) (.e))) (some a42) (.n (.e) (some a106) (.n (.e) (some a234) (.e)))) (some a26) (.n (.n (.e) (some a90) (.n (.n (.e) (some a346) (.e)) (some a218) (.e))) (some a58) (.n (.n (.n (.e) (some a314) (.e)) (some a186) (.e)) (some a122) (.e))))) (some a6) (.n (.n (.n (.n (.n (.e) (some a134) (.e)) none (.n (.n (.e) (some a326) (.e)) none (.e))) (some a38) (.n (.n (.n (.e) (some a294) (.e)) none (.e)) none (.n (.e) (some a230) (.e)))) (some a22) (.n (.n (.e) (some a86) (.n (.e) (some a214) (.e))) (some a54) (.n (.n (.e) (some a182) (.e)) none (.e)))) (some a14) (.n (.n (.n (.n (.e) (some a142) (.e)) none (.e)) none (.n (.e) (some a110) (.e))) none (.n (.n (.n (.n (.e) (some a286) (.e)) none (.e)) (some a94) (.n (.e) (some a222) (.e))) (some a62) (.n (.n (.e) (some a190) (.e)) (some a126) (.e)))))))
noncomputable def sums : List (Nat × Sum) := [(324, sIndexByte), (335, sCmp), (101, sCrc), (382, sTypeOf 639 460 11), (576, sComparable 639 11), (281, sCopy 208)]
noncomputable def dsums : List (Nat × Sum) := [(8, sIdle)]
noncomputable def tb : Tab := tabOf tbT sums dsums [192, 122, 62]
/-- What the listed variables hold. -/
noncomputable def B0 (e0 e1 e2 : TypeId) : Rd
  | .old 0 => some (.cells [.ifc 639 (.p (some ⟨.ex 0, 0⟩))] e0 none true true 1)
  | .old 1 => some (.cells [.i .u64 1, .i .u64 10, .i .u64 100, .i .u64 1000, .i .u64 10000, .i .u64 100000, .i .u64 1000000, .i .u64 10000000, .i .u64 100000000, .i .u64 1000000000, .i .u64 10000000000, .i .u64 100000000000, .i .u64 1000000000000, .i .u64 10000000000000, .i .u64 100000000000000, .i .u64 1000000000000000, .i .u64 10000000000000000, .i .u64 100000000000000000, .i .u64 1000000000000000000, .i .u64 10000000000000000000] e1 none true true 1)
  | .ex 0 => some (.cells [.s [102, 105, 110, 101]] e2 none true true 1)
  | _ => none
noncomputable def H0 : H := ⟨.e, 1⟩
end Go.Proofs.YtonckhnoealepaaGreatDoor
