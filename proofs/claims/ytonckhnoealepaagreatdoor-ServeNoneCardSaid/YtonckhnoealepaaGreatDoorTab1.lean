/- The abstract code of the functions that the closed run comes to, first part. -/
import Derived.Test.YtonckhnoealepaaGreatDoorAm8
namespace Go.Proofs.YtonckhnoealepaaGreatDoor
open Go Go.AM
def pl : List TypeId := [639]
/- lodestar/lodestarlaw27.ServeNone -/
noncomputable def a3 : F := ⟨13,
  .seq (.reg [⟨(some 1), none, .box (.t 0) 23⟩, ⟨(some 2), none, .mov (.c (.b false))⟩]) (
  .seq (.dreg [[.fl ⟨(some 5), none, .load (some 3) (.t 1)⟩ 1, .fl ⟨(some 3), none, .new [(.i .i64 0), (.s [])] 25⟩ 0, .an ⟨(some 4), none, .call (.v (.c (.fn (.func 5) [] []))) []⟩ [⟨(some 5), none, .load (some 3) (.t 1)⟩], .an ⟨(some 6), none, .call (.v (.c (.fn (.func 4) [] []))) [(.c (.p none)), (.t 4), (.t 5)]⟩ [], .an ⟨none, none, .store 2 (.t 3) (.t 6)⟩ []]] 1) (
  .seq (.reg [⟨(some 7), none, .load (some 2) (.t 3)⟩, ⟨(some 8), none, .build [(.i .i64 0), (.s [])] [(0, 1, (.c (.i .i64 500))), (1, 1, (.c (.s [123, 34, 101, 114, 114, 111, 114, 34, 58, 49, 50, 50, 125])))]⟩, ⟨(some 9), none, .bin .eql (.struct [(0, none, .int), (1, none, .str)]) false (.t 7) (.t 8)⟩, ⟨(some 10), none, .mov (.t 9)⟩, ⟨(some 11), (some (10, true)), .call (.v (.c (.fn (.func 6) [] []))) []⟩, ⟨(some 12), none, .pick (.t 10) (.t 11) (.c (.b false))⟩, ⟨(some 2), none, .mov (.t 12)⟩]) (
  .ret))),
 [.tmp 2]⟩
/- lodestar/serve.Handle -/
noncomputable def a4 : F := ⟨81,
  .seq (.reg [⟨(some 4), none, .box (.t 1) 32⟩, ⟨(some 5), none, .box (.t 2) 23⟩, ⟨(some 6), none, .new [(.i .i64 0), (.s [])] 25⟩]) (
  .seq (.seq (.reg [⟨(some 12), none, .mov (.t 0)⟩, ⟨(some 13), none, .bin .eql .ptr true (.t 12) (.c (.p none))⟩]) (
  .cond (.t 13) (
   .seq (.reg [⟨(some 14), none, .call (.v (.c (.fn (.func 7) [] []))) [(.c (.i .i64 500)), (.c (.i .i64 122))]⟩, ⟨none, none, .store 2 (.t 6) (.t 14)⟩]) (
   .ret)) (
   .skip))) (
  .seq (.reg [⟨(some 15), none, .mkF (.func 8) [] [(.t 6)]⟩, ⟨none, none, .dfr (.t 15) []⟩]) (
  .seq (.reg [⟨(some 17), none, .load (some 3) (.t 5)⟩, ⟨(some 18), none, .call (.v (.c (.fn (.func 9) [] []))) [(.t 17)]⟩, ⟨(some 16), none, .mov (.t 18)⟩, ⟨(some 19), none, .ext (.t 16) 0⟩, ⟨(some 20), none, .ext (.t 16) 1⟩, ⟨(some 21), none, .ext (.t 16) 2⟩, ⟨(some 7), none, .mov (.t 19)⟩, ⟨(some 8), none, .mov (.t 20)⟩, ⟨(some 9), none, .mov (.t 21)⟩]) (
  .seq (.seq (.reg [⟨(some 22), none, .mov (.t 9)⟩, ⟨(some 23), none, .bin .neq .int false (.t 22) (.c (.i .i64 0))⟩]) (
  .cond (.t 23) (
   .seq (.reg [⟨(some 24), none, .mov (.t 9)⟩, ⟨(some 25), none, .call (.v (.c (.fn (.func 7) [] []))) [(.t 24), (.c (.i .i64 0))]⟩, ⟨none, none, .store 2 (.t 6) (.t 25)⟩]) (
   .ret)) (
   .skip))) (
  .seq (.seq (.reg [⟨(some 26), none, .mov (.t 7)⟩]) (
  .block 0 (.seq (.reg [⟨(some 28), none, .bin .eql .str false (.t 26) (.c (.s [119, 114, 105, 116, 101]))⟩, ⟨(some 27), none, .mov (.t 28)⟩]) (
   .cond (.t 27) (
    .seq (.reg [⟨(some 29), none, .mov (.t 0)⟩, ⟨(some 30), none, .load (some 4) (.t 4)⟩, ⟨(some 31), none, .fa 2 (.t 5)⟩, ⟨(some 32), none, .load none (.t 31)⟩, ⟨(some 33), none, .call (.v (.c (.fn (.func 10) [] []))) [(.t 29), (.t 30), (.t 32)]⟩, ⟨none, none, .store 2 (.t 6) (.t 33)⟩]) (
    .ret)) (
    .seq (.reg [⟨(some 35), none, .bin .eql .str false (.t 26) (.c (.s [113, 117, 101, 114, 121]))⟩, ⟨(some 34), none, .mov (.t 35)⟩]) (
    .cond (.t 34) (
     .seq (.reg [⟨(some 36), none, .mov (.t 0)⟩, ⟨(some 37), none, .load (some 4) (.t 4)⟩, ⟨(some 38), none, .fa 2 (.t 5)⟩, ⟨(some 39), none, .load none (.t 38)⟩, ⟨(some 40), none, .call (.v (.c (.fn (.func 11) [] []))) [(.t 36), (.t 37), (.t 39)]⟩, ⟨none, none, .store 2 (.t 6) (.t 40)⟩]) (
     .ret)) (
     .seq (.reg [⟨(some 42), none, .bin .eql .str false (.t 26) (.c (.s [103, 101, 116]))⟩, ⟨(some 41), none, .mov (.t 42)⟩]) (
     .cond (.t 41) (
      .seq (.reg [⟨(some 44), none, .mov (.t 0)⟩, ⟨(some 45), none, .mov (.t 8)⟩, ⟨(some 46), none, .call (.v (.c (.fn (.func 12) [] []))) [(.t 44), (.t 45)]⟩, ⟨(some 43), none, .mov (.t 46)⟩, ⟨(some 47), none, .ext (.t 43) 0⟩, ⟨(some 48), none, .ext (.t 43) 1⟩, ⟨(some 10), none, .new [(.i .i64 0), (.sl none 0 0), (.sl none 0 0)] 45⟩, ⟨none, none, .store 3 (.t 10) (.t 47)⟩, ⟨(some 11), none, .mov (.t 48)⟩]) (
      .seq (.seq (.reg [⟨(some 49), none, .mov (.t 11)⟩, ⟨(some 50), none, .un .not (.t 49)⟩]) (
      .cond (.t 50) (
       .seq (.reg [⟨(some 51), none, .call (.v (.c (.fn (.func 13) [] []))) [(.c (.i .i64 121))]⟩, ⟨none, none, .store 2 (.t 6) (.t 51)⟩]) (
       .ret)) (
       .skip))) (
      .seq (.reg [⟨(some 52), none, .load (some 3) (.t 10)⟩, ⟨(some 53), none, .call (.v (.c (.fn (.func 15) [] []))) [(.t 52)]⟩, ⟨(some 54), none, .call (.v (.c (.fn (.func 14) [] []))) [(.t 53)]⟩, ⟨none, none, .store 2 (.t 6) (.t 54)⟩]) (
      .ret)))) (
      .seq (.reg [⟨(some 56), none, .bin .eql .str false (.t 26) (.c (.s [100, 101, 108, 101, 116, 101]))⟩, ⟨(some 55), none, .mov (.t 56)⟩]) (
      .cond (.t 55) (
       .seq (.reg [⟨(some 57), none, .mov (.t 0)⟩, ⟨(some 58), none, .mov (.t 8)⟩, ⟨(some 59), none, .call (.v (.c (.fn (.func 17) [] []))) [(.t 57), (.t 58)]⟩, ⟨(some 60), none, .buildS [(.s [])] 1 [(0, 1, (.c (.s [100, 101, 108, 101, 116, 101, 100])))] 9⟩, ⟨(some 61), none, .mov (.t 8)⟩, ⟨(some 62), none, .buildS [(.i .i64 0)] 1 [(0, 1, (.t 61))] 3⟩, ⟨(some 63), none, .call (.v (.c (.fn (.func 16) [] []))) [(.t 59), (.t 60), (.t 62)]⟩, ⟨none, none, .store 2 (.t 6) (.t 63)⟩]) (
       .ret)) (
       .seq (.reg [⟨(some 65), none, .bin .eql .str false (.t 26) (.c (.s [102, 108, 117, 115, 104]))⟩, ⟨(some 64), none, .mov (.t 65)⟩]) (
       .cond (.t 64) (
        .seq (.reg [⟨(some 66), none, .mov (.t 0)⟩, ⟨(some 67), none, .call (.v (.c (.fn (.func 18) [] []))) [(.t 66)]⟩, ⟨(some 68), none, .call (.v (.c (.fn (.func 16) [] []))) [(.t 67), (.c (.sl none 0 0)), (.c (.sl none 0 0))]⟩, ⟨none, none, .store 2 (.t 6) (.t 68)⟩]) (
        .ret)) (
        .seq (.reg [⟨(some 70), none, .bin .eql .str false (.t 26) (.c (.s [99, 111, 109, 112, 97, 99, 116]))⟩, ⟨(some 69), none, .mov (.t 70)⟩]) (
        .cond (.t 69) (
         .seq (.reg [⟨(some 71), none, .mov (.t 0)⟩, ⟨(some 72), none, .call (.v (.c (.fn (.func 19) [] []))) [(.t 71)]⟩, ⟨(some 73), none, .call (.v (.c (.fn (.func 16) [] []))) [(.t 72), (.c (.sl none 0 0)), (.c (.sl none 0 0))]⟩, ⟨none, none, .store 2 (.t 6) (.t 73)⟩]) (
         .ret)) (
         .skip))))))))))))))) (
  .seq (.reg [⟨(some 74), none, .buildS [(.s [])] 2 [(0, 1, (.c (.s [112, 111, 105, 110, 116, 115]))), (1, 1, (.c (.s [115, 101, 113])))] 9⟩, ⟨(some 75), none, .mov (.t 0)⟩, ⟨(some 76), none, .call (.v (.c (.fn (.func 20) [] []))) [(.t 75)]⟩, ⟨(some 77), none, .mov (.t 0)⟩, ⟨(some 78), none, .call (.v (.c (.fn (.func 21) [] []))) [(.t 77)]⟩, ⟨(some 79), none, .buildS [(.i .i64 0)] 2 [(0, 1, (.t 76)), (1, 1, (.t 78))] 3⟩, ⟨(some 80), none, .call (.v (.c (.fn (.func 16) [] []))) [(.c (.i .i64 0)), (.t 74), (.t 79)]⟩, ⟨none, none, .store 2 (.t 6) (.t 80)⟩]) (
  .ret))))))),
 [.cell 6 (some 2)]⟩
/- lodestar/lodestarlaw27.Config -/
noncomputable def a5 : F := ⟨10,
  .seq (.reg [⟨(some 0), none, .new [(.sl none 0 0), (.sl none 0 0), (.i .i64 0), (.i .i64 0)] 32⟩]) (
  .seq (.reg [⟨(some 1), none, .build [(.s []), (.i .i64 0), (.i .i64 0)] [(0, 1, (.c (.s [118]))), (1, 1, (.c (.i .i64 3))), (2, 1, (.c (.i .i64 1)))]⟩, ⟨(some 2), none, .build [(.s []), (.i .i64 0), (.i .i64 0)] [(0, 1, (.c (.s [119]))), (1, 1, (.c (.i .i64 2))), (2, 1, (.c (.i .i64 2)))]⟩, ⟨(some 3), none, .buildS [(.s []), (.i .i64 0), (.i .i64 0)] 2 [(0, 3, (.t 1)), (3, 3, (.t 2))] 60⟩, ⟨(some 4), none, .build [(.s []), (.i .i64 0)] [(0, 1, (.c (.s [99, 105, 116, 121]))), (1, 1, (.c (.i .i64 2)))]⟩, ⟨(some 5), none, .build [(.s []), (.i .i64 0)] [(0, 1, (.c (.s [111, 112, 101, 110]))), (1, 1, (.c (.i .i64 3)))]⟩, ⟨(some 6), none, .build [(.s []), (.i .i64 0)] [(0, 1, (.c (.s [115, 105, 122, 101]))), (1, 1, (.c (.i .i64 1)))]⟩, ⟨(some 7), none, .buildS [(.s []), (.i .i64 0)] 3 [(0, 2, (.t 4)), (2, 2, (.t 5)), (4, 2, (.t 6))] 62⟩, ⟨(some 8), none, .build [(.sl none 0 0), (.sl none 0 0)] [(0, 1, (.t 3)), (1, 1, (.t 7))]⟩, ⟨(some 9), none, .build [(.sl none 0 0), (.sl none 0 0), (.i .i64 0), (.i .i64 0)] [(0, 2, (.t 8))]⟩, ⟨none, none, .store 4 (.t 0) (.t 9)⟩]) (
  .ret)),
 [.cell 0 (some 4)]⟩
/- lodestar/lodestarlaw27.awake -/
noncomputable def a6 : F := ⟨23,
  .seq (.reg [⟨(some 0), none, .mov (.c (.b false))⟩]) (
  .seq (.reg [⟨(some 4), none, .call (.v (.c (.fn (.func 22) [] []))) []⟩, ⟨(some 1), none, .mov (.t 4)⟩]) (
  .seq (.seq (.reg [⟨(some 5), none, .mov (.t 1)⟩, ⟨(some 6), none, .bin .eql .ptr true (.t 5) (.c (.p none))⟩]) (
  .cond (.t 6) (
   .seq (.reg [⟨(some 0), none, .mov (.c (.b false))⟩]) (
   .ret)) (
   .skip))) (
  .seq (.reg [⟨(some 7), none, .mov (.t 1)⟩, ⟨(some 8), none, .call (.v (.c (.fn (.func 5) [] []))) []⟩, ⟨(some 9), none, .build [(.s []), (.s []), (.s [])] [(0, 1, (.c (.s [80, 79, 83, 84]))), (1, 1, (.c (.s [47, 112, 111, 105, 110, 116, 115]))), (2, 1, (.c (.s [123, 34, 112, 111, 105, 110, 116, 115, 34, 58, 91, 123, 34, 105, 100, 34, 58, 49, 44, 34, 118, 101, 99, 116, 111, 114, 115, 34, 58, 123, 34, 118, 34, 58, 91, 49, 44, 50, 44, 51, 93, 125, 44, 34, 102, 105, 101, 108, 100, 115, 34, 58, 123, 34, 99, 105, 116, 121, 34, 58, 34, 85, 108, 109, 34, 44, 34, 115, 105, 122, 101, 34, 58, 53, 125, 125, 93, 125])))]⟩, ⟨(some 10), none, .call (.v (.c (.fn (.func 4) [] []))) [(.t 7), (.t 8), (.t 9)]⟩, ⟨(some 2), none, .new [(.i .i64 0), (.s [])] 25⟩, ⟨none, none, .store 2 (.t 2) (.t 10)⟩]) (
  .seq (.reg [⟨(some 11), none, .mov (.t 1)⟩, ⟨(some 12), none, .call (.v (.c (.fn (.func 5) [] []))) []⟩, ⟨(some 13), none, .build [(.s []), (.s []), (.s [])] [(0, 1, (.c (.s [71, 69, 84]))), (1, 1, (.c (.s [47, 112, 111, 105, 110, 116, 115, 47, 49])))]⟩, ⟨(some 14), none, .call (.v (.c (.fn (.func 4) [] []))) [(.t 11), (.t 12), (.t 13)]⟩, ⟨(some 3), none, .new [(.i .i64 0), (.s [])] 25⟩, ⟨none, none, .store 2 (.t 3) (.t 14)⟩]) (
  .seq (.reg [⟨(some 15), none, .load (some 2) (.t 2)⟩, ⟨(some 16), none, .build [(.i .i64 0), (.s [])] [(0, 1, (.c (.i .i64 200))), (1, 1, (.c (.s [123, 34, 119, 114, 105, 116, 116, 101, 110, 34, 58, 49, 125])))]⟩, ⟨(some 17), none, .bin .eql (.struct [(0, none, .int), (1, none, .str)]) false (.t 15) (.t 16)⟩, ⟨(some 18), none, .mov (.t 17)⟩, ⟨(some 19), (some (18, true)), .load (some 2) (.t 3)⟩, ⟨(some 20), (some (18, true)), .build [(.i .i64 0), (.s [])] [(0, 1, (.c (.i .i64 200))), (1, 1, (.c (.s [123, 34, 105, 100, 34, 58, 49, 44, 34, 118, 101, 99, 116, 111, 114, 115, 34, 58, 123, 34, 118, 34, 58, 91, 49, 44, 50, 44, 51, 93, 125, 44, 34, 102, 105, 101, 108, 100, 115, 34, 58, 123, 34, 99, 105, 116, 121, 34, 58, 34, 85, 108, 109, 34, 44, 34, 115, 105, 122, 101, 34, 58, 53, 125, 125])))]⟩, ⟨(some 21), (some (18, true)), .bin .eql (.struct [(0, none, .int), (1, none, .str)]) false (.t 19) (.t 20)⟩, ⟨(some 22), none, .pick (.t 18) (.t 21) (.c (.b false))⟩, ⟨(some 0), none, .mov (.t 22)⟩]) (
  .ret)))))),
 [.tmp 0]⟩
/- lodestar/serve.failed -/
noncomputable def a7 : F := ⟨11,
  .seq (.reg [⟨(some 4), none, .new [(.i .i64 0), (.s [])] 25⟩]) (
  .seq (.reg [⟨(some 5), none, .mov (.t 0)⟩, ⟨(some 6), none, .mov (.t 1)⟩, ⟨(some 7), none, .call (.v (.c (.fn (.func 23) [] []))) [(.t 6)]⟩, ⟨(some 8), none, .bin .add .str false (.c (.s [123, 34, 101, 114, 114, 111, 114, 34, 58])) (.t 7)⟩, ⟨(some 9), none, .bin .add .str false (.t 8) (.c (.s [125]))⟩, ⟨(some 10), none, .build [(.i .i64 0), (.s [])] [(0, 1, (.t 5)), (1, 1, (.t 9))]⟩, ⟨none, none, .store 2 (.t 4) (.t 10)⟩]) (
  .ret)),
 [.cell 4 (some 2)]⟩
/- lodestar/serve.Route -/
noncomputable def a9 : F := ⟨37,
  .seq (.reg [⟨(some 1), none, .box (.t 0) 23⟩, ⟨(some 2), none, .mov (.c (.s []))⟩, ⟨(some 3), none, .mov (.c (.i .i64 0))⟩, ⟨(some 4), none, .mov (.c (.i .i64 0))⟩]) (
  .seq (.reg [⟨(some 9), none, .fa 0 (.t 1)⟩, ⟨(some 10), none, .load none (.t 9)⟩, ⟨(some 11), none, .fa 1 (.t 1)⟩, ⟨(some 12), none, .load none (.t 11)⟩, ⟨(some 13), none, .call (.v (.c (.fn (.func 24) [] []))) [(.t 10), (.t 12)]⟩, ⟨(some 8), none, .mov (.t 13)⟩, ⟨(some 14), none, .ext (.t 8) 0⟩, ⟨(some 15), none, .ext (.t 8) 1⟩, ⟨(some 16), none, .ext (.t 8) 2⟩, ⟨(some 5), none, .mov (.t 14)⟩, ⟨(some 6), none, .mov (.t 15)⟩, ⟨(some 7), none, .mov (.t 16)⟩]) (
  .seq (.block 0 (.seq (.reg [⟨(some 18), none, .mov (.t 7)⟩, ⟨(some 19), none, .un .not (.t 18)⟩, ⟨(some 17), none, .mov (.t 19)⟩]) (
   .cond (.t 17) (
    .seq (.reg [⟨(some 2), none, .mov (.c (.s []))⟩, ⟨(some 3), none, .mov (.c (.i .i64 0))⟩, ⟨(some 4), none, .mov (.c (.i .i64 404))⟩]) (
    .ret)) (
    .seq (.reg [⟨(some 21), none, .mov (.t 5)⟩, ⟨(some 22), none, .bin .eql .str false (.t 21) (.c (.s []))⟩, ⟨(some 20), none, .mov (.t 22)⟩]) (
    .cond (.t 20) (
     .seq (.reg [⟨(some 2), none, .mov (.c (.s []))⟩, ⟨(some 3), none, .mov (.c (.i .i64 0))⟩, ⟨(some 4), none, .mov (.c (.i .i64 405))⟩]) (
     .ret)) (
     .seq (.reg [⟨(some 24), none, .fa 2 (.t 1)⟩, ⟨(some 25), none, .load none (.t 24)⟩, ⟨(some 26), none, .bin .neq .str false (.t 25) (.c (.s []))⟩, ⟨(some 27), none, .mov (.t 26)⟩, ⟨(some 28), (some (27, true)), .mov (.t 5)⟩, ⟨(some 29), (some (27, true)), .bin .neq .str false (.t 28) (.c (.s [119, 114, 105, 116, 101]))⟩, ⟨(some 30), none, .pick (.t 27) (.t 29) (.c (.b false))⟩, ⟨(some 31), none, .mov (.t 30)⟩, ⟨(some 32), (some (31, true)), .mov (.t 5)⟩, ⟨(some 33), (some (31, true)), .bin .neq .str false (.t 32) (.c (.s [113, 117, 101, 114, 121]))⟩, ⟨(some 34), none, .pick (.t 31) (.t 33) (.c (.b false))⟩, ⟨(some 23), none, .mov (.t 34)⟩]) (
     .cond (.t 23) (
      .seq (.reg [⟨(some 2), none, .mov (.c (.s []))⟩, ⟨(some 3), none, .mov (.c (.i .i64 0))⟩, ⟨(some 4), none, .mov (.c (.i .i64 400))⟩]) (
      .ret)) (
      .skip)))))))) (
  .seq (.reg [⟨(some 35), none, .mov (.t 5)⟩, ⟨(some 36), none, .mov (.t 6)⟩, ⟨(some 2), none, .mov (.t 35)⟩, ⟨(some 3), none, .mov (.t 36)⟩, ⟨(some 4), none, .mov (.c (.i .i64 0))⟩]) (
  .ret)))),
 [.tmp 2, .tmp 3, .tmp 4]⟩
/- lodestar/serve.write -/
noncomputable def a10 : F := ⟨88,
  .seq (.reg [⟨(some 4), none, .box (.t 1) 32⟩, ⟨(some 6), none, .new [(.i .i64 0), (.s [])] 25⟩]) (
  .seq (.reg [⟨(some 19), none, .mov (.t 2)⟩, ⟨(some 20), none, .call (.v (.c (.fn (.func 25) [] []))) [(.t 19)]⟩, ⟨(some 18), none, .mov (.t 20)⟩, ⟨(some 21), none, .ext (.t 18) 0⟩, ⟨(some 22), none, .ext (.t 18) 1⟩, ⟨(some 23), none, .ext (.t 18) 2⟩, ⟨(some 7), none, .new [(.i .i64 0), (.i .i64 0), (.s []), (.sl none 0 0), (.sl none 0 0)] 53⟩, ⟨none, none, .store 5 (.t 7) (.t 21)⟩, ⟨(some 8), none, .mov (.t 22)⟩, ⟨(some 9), none, .mov (.t 23)⟩]) (
  .seq (.seq (.reg [⟨(some 24), none, .mov (.t 9)⟩, ⟨(some 25), none, .bin .neq .int false (.t 24) (.c (.i .i64 0))⟩]) (
  .cond (.t 25) (
   .seq (.reg [⟨(some 26), none, .mov (.t 9)⟩, ⟨(some 27), none, .call (.v (.c (.fn (.func 13) [] []))) [(.t 26)]⟩, ⟨none, none, .store 2 (.t 6) (.t 27)⟩]) (
   .ret)) (
   .skip))) (
  .seq (.reg [⟨(some 29), none, .load (some 5) (.t 7)⟩, ⟨(some 30), none, .buildS [(.s [])] 1 [(0, 1, (.c (.s [112, 111, 105, 110, 116, 115])))] 9⟩, ⟨(some 31), none, .call (.v (.c (.fn (.func 26) [] []))) [(.t 29), (.t 30)]⟩, ⟨(some 28), none, .mov (.t 31)⟩, ⟨(some 32), none, .ext (.t 28) 0⟩, ⟨(some 33), none, .ext (.t 28) 1⟩, ⟨(some 10), none, .mov (.t 32)⟩, ⟨(some 11), none, .mov (.t 33)⟩]) (
  .seq (.reg [⟨(some 34), none, .mov (.t 10)⟩, ⟨(some 35), none, .lkp .str (.agg [(.i .i64 0), (.i .i64 0), (.s []), (.sl none 0 0), (.sl none 0 0)]) false (.t 34) (.c (.s [112, 111, 105, 110, 116, 115]))⟩, ⟨(some 12), none, .new [(.i .i64 0), (.i .i64 0), (.s []), (.sl none 0 0), (.sl none 0 0)] 53⟩, ⟨none, none, .store 5 (.t 12) (.t 35)⟩]) (
  .seq (.block 0 (.seq (.reg [⟨(some 37), none, .mov (.t 11)⟩, ⟨(some 38), none, .un .not (.t 37)⟩, ⟨(some 39), none, .mov (.t 38)⟩, ⟨(some 40), (some (39, false)), .fa 0 (.t 12)⟩, ⟨(some 41), (some (39, false)), .load none (.t 40)⟩, ⟨(some 42), (some (39, false)), .bin .neq .int false (.t 41) (.c (.i .i64 5))⟩, ⟨(some 43), none, .pick (.t 39) (.c (.b true)) (.t 42)⟩, ⟨(some 36), none, .mov (.t 43)⟩]) (
   .cond (.t 36) (
    .seq (.reg [⟨(some 44), none, .call (.v (.c (.fn (.func 13) [] []))) [(.c (.i .i64 30))]⟩, ⟨none, none, .store 2 (.t 6) (.t 44)⟩]) (
    .ret)) (
    .seq (.reg [⟨(some 46), none, .fa 4 (.t 12)⟩, ⟨(some 47), none, .load none (.t 46)⟩, ⟨(some 48), none, .call (.b .lenV) [(.t 47)]⟩, ⟨(some 49), none, .bin .lss .int false (.t 48) (.c (.i .i64 1))⟩, ⟨(some 50), none, .mov (.t 49)⟩, ⟨(some 51), (some (50, false)), .fa 4 (.t 12)⟩, ⟨(some 52), (some (50, false)), .load none (.t 51)⟩, ⟨(some 53), (some (50, false)), .call (.b .lenV) [(.t 52)]⟩, ⟨(some 54), (some (50, false)), .bin .gtr .int false (.t 53) (.c (.i .i64 256))⟩, ⟨(some 55), none, .pick (.t 50) (.c (.b true)) (.t 54)⟩, ⟨(some 45), none, .mov (.t 55)⟩]) (
    .cond (.t 45) (
     .seq (.reg [⟨(some 56), none, .call (.v (.c (.fn (.func 13) [] []))) [(.c (.i .i64 220))]⟩, ⟨none, none, .store 2 (.t 6) (.t 56)⟩]) (
     .ret)) (
     .skip)))))) (
  .seq (.reg [⟨(some 13), none, .mov (.c (.sl none 0 0))⟩]) (
  .seq (.seq (.reg [⟨(some 57), none, .fa 4 (.t 12)⟩, ⟨(some 58), none, .load none (.t 57)⟩, ⟨(some 59), none, .call (.b .lenV) [(.t 58)]⟩, ⟨(some 60), none, .mov (.c (.i .i64 0))⟩]) (
  .block 1 (.loop (
    .seq (.reg [⟨(some 61), none, .bin .lss .int false (.t 60) (.t 59)⟩]) (
    .seq (.cond (.t 61) (
     .skip) (
     .exit 1)) (
    .seq (.block 2 (.seq (.reg [⟨(some 62), none, .iaV 5 (.t 58) (.t 60)⟩, ⟨(some 63), none, .load (some 5) (.t 62)⟩, ⟨(some 15), none, .new [(.i .i64 0), (.i .i64 0), (.s []), (.sl none 0 0), (.sl none 0 0)] 53⟩, ⟨none, none, .store 5 (.t 15) (.t 63)⟩]) (
     .seq (.reg [⟨(some 65), none, .load (some 5) (.t 15)⟩, ⟨(some 66), none, .fa 0 (.t 4)⟩, ⟨(some 67), none, .load (some 2) (.t 66)⟩, ⟨(some 68), none, .call (.v (.c (.fn (.func 27) [] []))) [(.t 65), (.t 67)]⟩, ⟨(some 64), none, .mov (.t 68)⟩, ⟨(some 69), none, .ext (.t 64) 0⟩, ⟨(some 70), none, .ext (.t 64) 1⟩, ⟨(some 16), none, .new [(.i .i64 0), (.sl none 0 0), (.sl none 0 0)] 45⟩, ⟨none, none, .store 3 (.t 16) (.t 69)⟩, ⟨(some 17), none, .mov (.t 70)⟩]) (
     .seq (.seq (.reg [⟨(some 71), none, .mov (.t 17)⟩, ⟨(some 72), none, .bin .neq .int false (.t 71) (.c (.i .i64 0))⟩]) (
     .cond (.t 72) (
      .seq (.reg [⟨(some 73), none, .mov (.t 17)⟩, ⟨(some 74), none, .call (.v (.c (.fn (.func 13) [] []))) [(.t 73)]⟩, ⟨none, none, .store 2 (.t 6) (.t 74)⟩]) (
      .ret)) (
      .skip))) (
     .reg [⟨(some 75), none, .mov (.t 13)⟩, ⟨(some 76), none, .load (some 3) (.t 16)⟩, ⟨(some 77), none, .buildS [(.i .i64 0), (.sl none 0 0), (.sl none 0 0)] 1 [(0, 3, (.t 76))] 45⟩, ⟨(some 78), none, .call (.b (.append 3 56 45)) [(.t 75), (.t 77)]⟩, ⟨(some 13), none, .mov (.t 78)⟩]))))) (
    .reg [⟨(some 79), none, .bin .add .int false (.t 60) (.c (.i .i64 1))⟩, ⟨(some 60), none, .mov (.t 79)⟩]))))))) (
  .seq (.reg [⟨(some 80), none, .mov (.t 0)⟩, ⟨(some 81), none, .mov (.t 13)⟩, ⟨(some 82), none, .call (.v (.c (.fn (.func 28) [] []))) [(.t 80), (.t 81)]⟩, ⟨(some 83), none, .buildS [(.s [])] 1 [(0, 1, (.c (.s [119, 114, 105, 116, 116, 101, 110])))] 9⟩, ⟨(some 84), none, .mov (.t 13)⟩, ⟨(some 85), none, .call (.b .lenV) [(.t 84)]⟩, ⟨(some 86), none, .buildS [(.i .i64 0)] 1 [(0, 1, (.t 85))] 3⟩, ⟨(some 87), none, .call (.v (.c (.fn (.func 16) [] []))) [(.t 82), (.t 83), (.t 86)]⟩, ⟨none, none, .store 2 (.t 6) (.t 87)⟩]) (
  .ret))))))))),
 [.cell 6 (some 2)]⟩
/- (*lodestar/store.Store).Get -/
noncomputable def a12 : F := ⟨17,
  .seq (.reg [⟨(some 4), none, .new [(.i .i64 0), (.sl none 0 0), (.sl none 0 0)] 45⟩, ⟨(some 5), none, .mov (.c (.b false))⟩]) (
  .seq (.seq (.reg [⟨(some 6), none, .mov (.t 0)⟩, ⟨(some 7), none, .bin .eql .ptr true (.t 6) (.c (.p none))⟩]) (
  .cond (.t 7) (
   .seq (.reg [⟨(some 8), none, .build [(.i .i64 0), (.sl none 0 0), (.sl none 0 0)] []⟩, ⟨none, none, .store 3 (.t 4) (.t 8)⟩, ⟨(some 5), none, .mov (.c (.b false))⟩]) (
   .ret)) (
   .skip))) (
  .seq (.reg [⟨(some 9), none, .mov (.t 0)⟩, ⟨(some 10), none, .nilc (.t 9)⟩, ⟨(some 11), none, .fa 0 (.t 10)⟩, ⟨(some 12), none, .load none (.t 11)⟩, ⟨(some 13), none, .mov (.t 1)⟩, ⟨(some 14), none, .call (.v (.c (.fn (.func 36) [] []))) [(.t 12), (.t 13)]⟩, ⟨(some 15), none, .ext (.t 14) 0⟩, ⟨(some 16), none, .ext (.t 14) 1⟩, ⟨none, none, .store 3 (.t 4) (.t 15)⟩, ⟨(some 5), none, .mov (.t 16)⟩]) (
  .ret))),
 [.cell 4 (some 3), .tmp 5]⟩
/- lodestar/serve.fine -/
noncomputable def a14 : F := ⟨15,
  .seq (.reg [⟨(some 1), none, .box (.t 0) 53⟩, ⟨(some 2), none, .new [(.i .i64 0), (.s [])] 25⟩]) (
  .seq (.reg [⟨(some 6), none, .load (some 5) (.t 1)⟩, ⟨(some 7), none, .call (.v (.c (.fn (.func 38) [] []))) [(.t 6)]⟩, ⟨(some 5), none, .mov (.t 7)⟩, ⟨(some 8), none, .ext (.t 5) 0⟩, ⟨(some 9), none, .ext (.t 5) 1⟩, ⟨(some 3), none, .mov (.t 8)⟩, ⟨(some 4), none, .mov (.t 9)⟩]) (
  .seq (.seq (.reg [⟨(some 10), none, .mov (.t 4)⟩, ⟨(some 11), none, .bin .neq .int false (.t 10) (.c (.i .i64 0))⟩]) (
  .cond (.t 11) (
   .reg [⟨(some 12), none, .mkI 9 (.c (.s [97, 110, 32, 97, 110, 115, 119, 101, 114, 32, 116, 104, 97, 116, 32, 99, 97, 110, 110, 111, 116, 32, 98, 101, 32, 112, 114, 105, 110, 116, 101, 100]))⟩, ⟨none, none, .bad⟩]) (
   .skip))) (
  .seq (.reg [⟨(some 13), none, .mov (.t 3)⟩, ⟨(some 14), none, .build [(.i .i64 0), (.s [])] [(0, 1, (.c (.i .i64 200))), (1, 1, (.t 13))]⟩, ⟨none, none, .store 2 (.t 2) (.t 14)⟩]) (
  .ret)))),
 [.cell 2 (some 2)]⟩
/- lodestar/serve.PointJson -/
noncomputable def a15 : F := ⟨67,
  .seq (.reg [⟨(some 1), none, .box (.t 0) 45⟩, ⟨(some 2), none, .new [(.i .i64 0), (.i .i64 0), (.s []), (.sl none 0 0), (.sl none 0 0)] 53⟩]) (
  .seq (.reg [⟨(some 13), none, .build [(.i .i64 0), (.i .i64 0), (.s []), (.sl none 0 0), (.sl none 0 0)] [(0, 1, (.c (.i .i64 6)))]⟩, ⟨(some 14), none, .build [(.i .i64 0), (.i .i64 0), (.s []), (.sl none 0 0), (.sl none 0 0)] [(0, 1, (.c (.i .i64 6)))]⟩, ⟨(some 3), none, .new [(.i .i64 0), (.i .i64 0), (.s []), (.sl none 0 0), (.sl none 0 0)] 53⟩, ⟨(some 4), none, .new [(.i .i64 0), (.i .i64 0), (.s []), (.sl none 0 0), (.sl none 0 0)] 53⟩, ⟨none, none, .store 5 (.t 3) (.t 13)⟩, ⟨none, none, .store 5 (.t 4) (.t 14)⟩]) (
  .seq (.seq (.reg [⟨(some 15), none, .fa 1 (.t 1)⟩, ⟨(some 16), none, .load none (.t 15)⟩, ⟨(some 17), none, .call (.b .lenV) [(.t 16)]⟩, ⟨(some 18), none, .mov (.c (.i .i64 0))⟩]) (
  .block 0 (.loop (
    .seq (.reg [⟨(some 19), none, .bin .lss .int false (.t 18) (.t 17)⟩]) (
    .seq (.cond (.t 19) (
     .skip) (
     .exit 0)) (
    .seq (.block 1 (.seq (.reg [⟨(some 20), none, .iaV 2 (.t 16) (.t 18)⟩, ⟨(some 21), none, .load (some 2) (.t 20)⟩, ⟨(some 6), none, .new [(.s []), (.sl none 0 0)] 115⟩, ⟨none, none, .store 2 (.t 6) (.t 21)⟩]) (
     .seq (.reg [⟨(some 22), none, .build [(.i .i64 0), (.i .i64 0), (.s []), (.sl none 0 0), (.sl none 0 0)] [(0, 1, (.c (.i .i64 5)))]⟩, ⟨(some 7), none, .new [(.i .i64 0), (.i .i64 0), (.s []), (.sl none 0 0), (.sl none 0 0)] 53⟩, ⟨none, none, .store 5 (.t 7) (.t 22)⟩]) (
     .seq (.seq (.reg [⟨(some 23), none, .fa 1 (.t 6)⟩, ⟨(some 24), none, .load none (.t 23)⟩, ⟨(some 25), none, .call (.b .lenV) [(.t 24)]⟩, ⟨(some 26), none, .mov (.c (.i .i64 0))⟩]) (
     .block 2 (.loop (
       .seq (.reg [⟨(some 27), none, .bin .lss .int false (.t 26) (.t 25)⟩]) (
       .seq (.cond (.t 27) (
        .skip) (
        .exit 2)) (
       .seq (.block 3 (.seq (.reg [⟨(some 28), none, .iaV 1 (.t 24) (.t 26)⟩, ⟨(some 29), none, .load none (.t 28)⟩, ⟨(some 9), none, .mov (.t 29)⟩]) (
        .dreg [[.fl ⟨(some 30), none, .fa 4 (.t 7)⟩ 1, .fl ⟨(some 31), none, .load none (.t 30)⟩ 1, .fl ⟨(some 32), none, .mov (.t 9)⟩ 1, .an ⟨(some 33), none, .call (.v (.c (.fn (.func 34) [] []))) [(.t 32)]⟩ [⟨(some 31), none, .load none (.t 30)⟩], .fl ⟨(some 34), none, .buildS [(.i .i64 0), (.i .i64 0), (.s []), (.sl none 0 0), (.sl none 0 0)] 1 [(0, 5, (.t 33))] 53⟩ 0, .an ⟨(some 35), none, .call (.b (.append 5 80 53)) [(.t 31), (.t 34)]⟩ [], .fl ⟨(some 36), none, .fa 4 (.t 7)⟩ 1, .an ⟨none, none, .store 1 (.t 36) (.t 35)⟩ []]] 1))) (
       .reg [⟨(some 37), none, .bin .add .int false (.t 26) (.c (.i .i64 1))⟩, ⟨(some 26), none, .mov (.t 37)⟩]))))))) (
     .reg [⟨(some 38), none, .fa 0 (.t 6)⟩, ⟨(some 39), none, .load none (.t 38)⟩, ⟨(some 40), none, .load (some 5) (.t 7)⟩, ⟨(some 41), none, .call (.v (.c (.fn (.func 33) [] []))) [(.t 3), (.t 39), (.t 40)]⟩]))))) (
    .reg [⟨(some 42), none, .bin .add .int false (.t 18) (.c (.i .i64 1))⟩, ⟨(some 18), none, .mov (.t 42)⟩]))))))) (
  .seq (.seq (.reg [⟨(some 43), none, .fa 2 (.t 1)⟩, ⟨(some 44), none, .load none (.t 43)⟩, ⟨(some 45), none, .call (.b .lenV) [(.t 44)]⟩, ⟨(some 46), none, .mov (.c (.i .i64 0))⟩]) (
  .block 4 (.loop (
    .seq (.reg [⟨(some 47), none, .bin .lss .int false (.t 46) (.t 45)⟩]) (
    .seq (.cond (.t 47) (
     .skip) (
     .exit 4)) (
    .seq (.block 5 (.seq (.reg [⟨(some 48), none, .iaV 4 (.t 44) (.t 46)⟩, ⟨(some 49), none, .load (some 4) (.t 48)⟩, ⟨(some 11), none, .new [(.s []), (.i .i64 0), (.i .i64 0), (.s [])] 117⟩, ⟨none, none, .store 4 (.t 11) (.t 49)⟩]) (
     .dreg [[.fl ⟨(some 50), none, .fa 0 (.t 11)⟩ 0, .fl ⟨(some 51), none, .load none (.t 50)⟩ 0, .fl ⟨(some 52), none, .fa 1 (.t 11)⟩ 0, .fl ⟨(some 53), none, .load (some 3) (.t 52)⟩ 0, .an ⟨(some 54), none, .call (.v (.c (.fn (.func 35) [] []))) [(.t 53)]⟩ [⟨(some 51), none, .load none (.t 50)⟩], .an ⟨(some 55), none, .call (.v (.c (.fn (.func 33) [] []))) [(.t 4), (.t 51), (.t 54)]⟩ []]] 0))) (
    .reg [⟨(some 56), none, .bin .add .int false (.t 46) (.c (.i .i64 1))⟩, ⟨(some 46), none, .mov (.t 56)⟩]))))))) (
  .seq (.reg [⟨(some 57), none, .build [(.i .i64 0), (.i .i64 0), (.s []), (.sl none 0 0), (.sl none 0 0)] [(0, 1, (.c (.i .i64 6)))]⟩, ⟨(some 12), none, .new [(.i .i64 0), (.i .i64 0), (.s []), (.sl none 0 0), (.sl none 0 0)] 53⟩, ⟨none, none, .store 5 (.t 12) (.t 57)⟩]) (
  .seq (.reg [⟨(some 58), none, .fa 0 (.t 1)⟩, ⟨(some 59), none, .load none (.t 58)⟩, ⟨(some 60), none, .call (.v (.c (.fn (.func 34) [] []))) [(.t 59)]⟩, ⟨(some 61), none, .call (.v (.c (.fn (.func 33) [] []))) [(.t 12), (.c (.s [105, 100])), (.t 60)]⟩]) (
  .seq (.reg [⟨(some 62), none, .load (some 5) (.t 3)⟩, ⟨(some 63), none, .call (.v (.c (.fn (.func 33) [] []))) [(.t 12), (.c (.s [118, 101, 99, 116, 111, 114, 115])), (.t 62)]⟩]) (
  .seq (.reg [⟨(some 64), none, .load (some 5) (.t 4)⟩, ⟨(some 65), none, .call (.v (.c (.fn (.func 33) [] []))) [(.t 12), (.c (.s [102, 105, 101, 108, 100, 115])), (.t 64)]⟩]) (
  .seq (.reg [⟨(some 66), none, .load (some 5) (.t 12)⟩, ⟨none, none, .store 5 (.t 2) (.t 66)⟩]) (
  .ret))))))))),
 [.cell 2 (some 5)]⟩
/- lodestar/serve.told -/
noncomputable def a16 : F := ⟨32,
  .seq (.reg [⟨(some 6), none, .new [(.i .i64 0), (.s [])] 25⟩]) (
  .seq (.seq (.reg [⟨(some 10), none, .mov (.t 0)⟩, ⟨(some 11), none, .bin .neq .int false (.t 10) (.c (.i .i64 0))⟩]) (
  .cond (.t 11) (
   .seq (.reg [⟨(some 12), none, .mov (.t 0)⟩, ⟨(some 13), none, .call (.v (.c (.fn (.func 13) [] []))) [(.t 12)]⟩, ⟨none, none, .store 2 (.t 6) (.t 13)⟩]) (
   .ret)) (
   .skip))) (
  .seq (.reg [⟨(some 14), none, .build [(.i .i64 0), (.i .i64 0), (.s []), (.sl none 0 0), (.sl none 0 0)] [(0, 1, (.c (.i .i64 6)))]⟩, ⟨(some 7), none, .new [(.i .i64 0), (.i .i64 0), (.s []), (.sl none 0 0), (.sl none 0 0)] 53⟩, ⟨none, none, .store 5 (.t 7) (.t 14)⟩]) (
  .seq (.seq (.reg [⟨(some 15), none, .mov (.t 2)⟩, ⟨(some 16), none, .call (.b .lenV) [(.t 15)]⟩, ⟨(some 17), none, .mov (.c (.i .i64 0))⟩]) (
  .block 0 (.loop (
    .seq (.reg [⟨(some 18), none, .bin .lss .int false (.t 17) (.t 16)⟩]) (
    .seq (.cond (.t 18) (
     .skip) (
     .exit 0)) (
    .seq (.block 1 (.seq (.reg [⟨(some 19), none, .mov (.t 17)⟩, ⟨(some 20), none, .iaV 1 (.t 15) (.t 17)⟩, ⟨(some 21), none, .load none (.t 20)⟩, ⟨(some 8), none, .mov (.t 19)⟩, ⟨(some 9), none, .mov (.t 21)⟩]) (
     .dreg [[.fl ⟨(some 22), none, .mov (.t 1)⟩ 0, .fl ⟨(some 23), none, .mov (.t 8)⟩ 0, .fl ⟨(some 24), none, .iaV 1 (.t 22) (.t 23)⟩ 0, .fl ⟨(some 25), none, .load none (.t 24)⟩ 0, .fl ⟨(some 26), none, .mov (.t 9)⟩ 0, .an ⟨(some 27), none, .call (.v (.c (.fn (.func 34) [] []))) [(.t 26)]⟩ [⟨(some 25), none, .load none (.t 24)⟩], .an ⟨(some 28), none, .call (.v (.c (.fn (.func 33) [] []))) [(.t 7), (.t 25), (.t 27)]⟩ []]] 0))) (
    .reg [⟨(some 29), none, .bin .add .int false (.t 17) (.c (.i .i64 1))⟩, ⟨(some 17), none, .mov (.t 29)⟩]))))))) (
  .seq (.reg [⟨(some 30), none, .load (some 5) (.t 7)⟩, ⟨(some 31), none, .call (.v (.c (.fn (.func 14) [] []))) [(.t 30)]⟩, ⟨none, none, .store 2 (.t 6) (.t 31)⟩]) (
  .ret))))),
 [.cell 6 (some 2)]⟩
/- lodestar/lodestarlaw27.begun -/
noncomputable def a22 : F := ⟨12,
  .seq (.reg [⟨(some 0), none, .mov (.c (.p none))⟩]) (
  .seq (.reg [⟨(some 4), none, .call (.v (.c (.fn (.func 54) [] []))) []⟩, ⟨(some 5), none, .call (.v (.c (.fn (.func 5) [] []))) []⟩, ⟨(some 6), none, .call (.v (.c (.fn (.func 53) [] []))) [(.t 4), (.t 5)]⟩, ⟨(some 3), none, .mov (.t 6)⟩, ⟨(some 7), none, .ext (.t 3) 0⟩, ⟨(some 8), none, .ext (.t 3) 1⟩, ⟨(some 1), none, .mov (.t 7)⟩, ⟨(some 2), none, .mov (.t 8)⟩]) (
  .seq (.seq (.reg [⟨(some 9), none, .mov (.t 2)⟩, ⟨(some 10), none, .bin .neq .int false (.t 9) (.c (.i .i64 0))⟩]) (
  .cond (.t 10) (
   .seq (.reg [⟨(some 0), none, .mov (.c (.p none))⟩]) (
   .ret)) (
   .skip))) (
  .seq (.reg [⟨(some 11), none, .mov (.t 1)⟩, ⟨(some 0), none, .mov (.t 11)⟩]) (
  .ret)))),
 [.tmp 0]⟩
/- strconv.Itoa -/
noncomputable def a23 : F := ⟨5,
  .seq (.reg [⟨(some 2), none, .mov (.c (.s []))⟩]) (
  .seq (.reg [⟨(some 3), none, .mov (.t 0)⟩, ⟨(some 4), none, .call (.v (.c (.fn (.func 55) [] []))) [(.t 3)]⟩, ⟨(some 2), none, .mov (.t 4)⟩]) (
  .ret)),
 [.tmp 2]⟩
/- lodestar/serve.what -/
noncomputable def a24 : F := ⟨50,
  .seq (.reg [⟨(some 4), none, .mov (.c (.s []))⟩, ⟨(some 5), none, .mov (.c (.i .i64 0))⟩, ⟨(some 6), none, .mov (.c (.b false))⟩]) (
  .seq (.seq (.reg [⟨(some 14), none, .mov (.t 1)⟩, ⟨(some 15), none, .call (.v (.c (.fn (.func 56) [] []))) [(.t 14), (.c (.s [47, 112, 111, 105, 110, 116, 115, 47]))]⟩, ⟨(some 13), none, .mov (.t 15)⟩, ⟨(some 16), none, .ext (.t 13) 0⟩, ⟨(some 17), none, .ext (.t 13) 1⟩, ⟨(some 7), none, .mov (.t 16)⟩, ⟨(some 8), none, .mov (.t 17)⟩]) (
  .seq (.reg [⟨(some 18), none, .mov (.t 8)⟩]) (
  .cond (.t 18) (
   .seq (.reg [⟨(some 20), none, .mov (.t 7)⟩, ⟨(some 21), none, .call (.v (.c (.fn (.func 57) [] []))) [(.t 20)]⟩, ⟨(some 19), none, .mov (.t 21)⟩, ⟨(some 22), none, .ext (.t 19) 0⟩, ⟨(some 23), none, .ext (.t 19) 1⟩, ⟨(some 9), none, .mov (.t 22)⟩, ⟨(some 10), none, .mov (.t 23)⟩]) (
   .seq (.block 0 (.seq (.reg [⟨(some 25), none, .mov (.t 10)⟩, ⟨(some 26), none, .un .not (.t 25)⟩, ⟨(some 24), none, .mov (.t 26)⟩]) (
    .cond (.t 24) (
     .seq (.reg [⟨(some 4), none, .mov (.c (.s []))⟩, ⟨(some 5), none, .mov (.c (.i .i64 0))⟩, ⟨(some 6), none, .mov (.c (.b false))⟩]) (
     .ret)) (
     .seq (.reg [⟨(some 28), none, .mov (.t 0)⟩, ⟨(some 29), none, .bin .eql .str false (.t 28) (.c (.s [71, 69, 84]))⟩, ⟨(some 27), none, .mov (.t 29)⟩]) (
     .cond (.t 27) (
      .seq (.reg [⟨(some 30), none, .mov (.t 9)⟩, ⟨(some 4), none, .mov (.c (.s [103, 101, 116]))⟩, ⟨(some 5), none, .mov (.t 30)⟩, ⟨(some 6), none, .mov (.c (.b true))⟩]) (
      .ret)) (
      .seq (.reg [⟨(some 32), none, .mov (.t 0)⟩, ⟨(some 33), none, .bin .eql .str false (.t 32) (.c (.s [68, 69, 76, 69, 84, 69]))⟩, ⟨(some 31), none, .mov (.t 33)⟩]) (
      .cond (.t 31) (
       .seq (.reg [⟨(some 34), none, .mov (.t 9)⟩, ⟨(some 4), none, .mov (.c (.s [100, 101, 108, 101, 116, 101]))⟩, ⟨(some 5), none, .mov (.t 34)⟩, ⟨(some 6), none, .mov (.c (.b true))⟩]) (
       .ret)) (
       .skip)))))))) (
   .seq (.reg [⟨(some 4), none, .mov (.c (.s []))⟩, ⟨(some 5), none, .mov (.c (.i .i64 0))⟩, ⟨(some 6), none, .mov (.c (.b true))⟩]) (
   .ret)))) (
   .skip)))) (
  .seq (.reg [⟨(some 11), none, .mov (.c (.s []))⟩, ⟨(some 12), none, .mov (.c (.s [80, 79, 83, 84]))⟩]) (
  .seq (.seq (.reg [⟨(some 35), none, .mov (.t 1)⟩]) (
  .block 1 (.seq (.reg [⟨(some 37), none, .bin .eql .str false (.t 35) (.c (.s [47, 112, 111, 105, 110, 116, 115]))⟩, ⟨(some 36), none, .mov (.t 37)⟩]) (
   .cond (.t 36) (
    .reg [⟨(some 11), none, .mov (.c (.s [119, 114, 105, 116, 101]))⟩]) (
    .seq (.seq (.reg [⟨(some 39), none, .bin .eql .str false (.t 35) (.c (.s [47, 113, 117, 101, 114, 121]))⟩, ⟨(some 38), none, .mov (.t 39)⟩]) (
    .cond (.t 38) (
     .skip) (
     .seq (.reg [⟨(some 40), none, .bin .eql .str false (.t 35) (.c (.s [47, 102, 108, 117, 115, 104]))⟩, ⟨(some 38), none, .mov (.t 40)⟩]) (
     .cond (.t 38) (
      .skip) (
      .reg [⟨(some 41), none, .bin .eql .str false (.t 35) (.c (.s [47, 99, 111, 109, 112, 97, 99, 116]))⟩, ⟨(some 38), none, .mov (.t 41)⟩]))))) (
    .cond (.t 38) (
     .reg [⟨(some 42), none, .mov (.t 1)⟩, ⟨(some 43), none, .slS (.t 42) (some (.c (.i .i64 1))) none⟩, ⟨(some 11), none, .mov (.t 43)⟩]) (
     .seq (.reg [⟨(some 45), none, .bin .eql .str false (.t 35) (.c (.s [47, 99, 111, 117, 110, 116]))⟩, ⟨(some 44), none, .mov (.t 45)⟩]) (
     .cond (.t 44) (
      .reg [⟨(some 11), none, .mov (.c (.s [99, 111, 117, 110, 116]))⟩, ⟨(some 12), none, .mov (.c (.s [71, 69, 84]))⟩]) (
      .seq (.reg [⟨(some 4), none, .mov (.c (.s []))⟩, ⟨(some 5), none, .mov (.c (.i .i64 0))⟩, ⟨(some 6), none, .mov (.c (.b false))⟩]) (
      .ret)))))))))) (
  .seq (.seq (.reg [⟨(some 46), none, .mov (.t 0)⟩, ⟨(some 47), none, .mov (.t 12)⟩, ⟨(some 48), none, .bin .neq .str false (.t 46) (.t 47)⟩]) (
  .cond (.t 48) (
   .reg [⟨(some 11), none, .mov (.c (.s []))⟩]) (
   .skip))) (
  .seq (.reg [⟨(some 49), none, .mov (.t 11)⟩, ⟨(some 4), none, .mov (.t 49)⟩, ⟨(some 5), none, .mov (.c (.i .i64 0))⟩, ⟨(some 6), none, .mov (.c (.b true))⟩]) (
  .ret)))))),
 [.tmp 4, .tmp 5, .tmp 6]⟩
/- lodestar/json.Parse -/
noncomputable def a25 : F := ⟨42,
  .seq (.reg [⟨(some 2), none, .new [(.i .i64 0), (.i .i64 0), (.s []), (.sl none 0 0), (.sl none 0 0)] 53⟩, ⟨(some 3), none, .mov (.c (.i .i64 0))⟩, ⟨(some 4), none, .mov (.c (.i .i64 0))⟩]) (
  .seq (.reg [⟨(some 7), none, .mov (.t 0)⟩, ⟨(some 8), none, .build [(.s []), (.i .i64 0), (.i .i64 0), (.i .i64 0)] [(0, 1, (.t 7))]⟩, ⟨(some 9), none, .box (.t 8) 155⟩, ⟨(some 5), none, .mov (.t 9)⟩]) (
  .seq (.reg [⟨(some 10), none, .mov (.t 5)⟩, ⟨(some 11), none, .call (.v (.c (.fn (.func 58) [] []))) [(.t 10), (.c (.i .i64 1))]⟩, ⟨(some 6), none, .new [(.i .i64 0), (.i .i64 0), (.s []), (.sl none 0 0), (.sl none 0 0)] 53⟩, ⟨none, none, .store 5 (.t 6) (.t 11)⟩]) (
  .seq (.reg [⟨(some 12), none, .mov (.t 5)⟩, ⟨(some 13), none, .call (.v (.c (.fn (.func 59) [] []))) [(.t 12)]⟩]) (
  .seq (.seq (.reg [⟨(some 14), none, .mov (.t 5)⟩, ⟨(some 15), none, .nilc (.t 14)⟩, ⟨(some 16), none, .fa 1 (.t 15)⟩, ⟨(some 17), none, .load none (.t 16)⟩, ⟨(some 18), none, .mov (.t 0)⟩, ⟨(some 19), none, .call (.b .lenS) [(.t 18)]⟩, ⟨(some 20), none, .bin .lss .int false (.t 17) (.t 19)⟩]) (
  .cond (.t 20) (
   .reg [⟨(some 21), none, .mov (.t 5)⟩, ⟨(some 22), none, .mov (.t 5)⟩, ⟨(some 23), none, .nilc (.t 22)⟩, ⟨(some 24), none, .fa 1 (.t 23)⟩, ⟨(some 25), none, .load none (.t 24)⟩, ⟨(some 26), none, .call (.v (.c (.fn (.func 60) [] []))) [(.t 21), (.c (.i .i64 30)), (.t 25)]⟩]) (
   .skip))) (
  .seq (.seq (.reg [⟨(some 27), none, .mov (.t 5)⟩, ⟨(some 28), none, .nilc (.t 27)⟩, ⟨(some 29), none, .fa 2 (.t 28)⟩, ⟨(some 30), none, .load none (.t 29)⟩, ⟨(some 31), none, .bin .neq .int false (.t 30) (.c (.i .i64 0))⟩]) (
  .cond (.t 31) (
   .seq (.dreg [[.fl ⟨(some 32), none, .build [(.i .i64 0), (.i .i64 0), (.s []), (.sl none 0 0), (.sl none 0 0)] []⟩ 0, .fl ⟨(some 33), none, .mov (.t 5)⟩ 0, .fl ⟨(some 34), none, .nilc (.t 33)⟩ 0, .fl ⟨(some 35), none, .fa 3 (.t 34)⟩ 0, .fl ⟨(some 36), none, .load none (.t 35)⟩ 0, .fl ⟨(some 37), none, .mov (.t 5)⟩ 0, .fl ⟨(some 38), none, .nilc (.t 37)⟩ 0, .fl ⟨(some 39), none, .fa 2 (.t 38)⟩ 0, .fl ⟨(some 40), none, .load none (.t 39)⟩ 0, .an ⟨none, none, .store 5 (.t 2) (.t 32)⟩ [⟨(some 36), none, .load none (.t 35)⟩, ⟨(some 40), none, .load none (.t 39)⟩], .an ⟨(some 3), none, .mov (.t 36)⟩ [⟨(some 40), none, .load none (.t 39)⟩], .an ⟨(some 4), none, .mov (.t 40)⟩ []]] 0) (
   .ret)) (
   .skip))) (
  .seq (.reg [⟨(some 41), none, .load (some 5) (.t 6)⟩, ⟨none, none, .store 5 (.t 2) (.t 41)⟩, ⟨(some 3), none, .mov (.c (.i .i64 0))⟩, ⟨(some 4), none, .mov (.c (.i .i64 0))⟩]) (
  .ret))))))),
 [.cell 2 (some 5), .tmp 3, .tmp 4]⟩
/- lodestar/serve.object -/
noncomputable def a26 : F := ⟨59,
  .seq (.reg [⟨(some 2), none, .box (.t 0) 53⟩, ⟨(some 4), none, .mov (.c (.m none))⟩, ⟨(some 5), none, .mov (.c (.b false))⟩]) (
  .seq (.seq (.reg [⟨(some 11), none, .fa 0 (.t 2)⟩, ⟨(some 12), none, .load none (.t 11)⟩, ⟨(some 13), none, .bin .neq .int false (.t 12) (.c (.i .i64 6))⟩, ⟨(some 14), none, .mov (.t 13)⟩, ⟨(some 15), (some (14, false)), .fa 3 (.t 2)⟩, ⟨(some 16), (some (14, false)), .load none (.t 15)⟩, ⟨(some 17), (some (14, false)), .call (.b .lenV) [(.t 16)]⟩, ⟨(some 18), (some (14, false)), .fa 4 (.t 2)⟩, ⟨(some 19), (some (14, false)), .load none (.t 18)⟩, ⟨(some 20), (some (14, false)), .call (.b .lenV) [(.t 19)]⟩, ⟨(some 21), (some (14, false)), .bin .neq .int false (.t 17) (.t 20)⟩, ⟨(some 22), none, .pick (.t 14) (.c (.b true)) (.t 21)⟩]) (
  .cond (.t 22) (
   .seq (.reg [⟨(some 4), none, .mov (.c (.m none))⟩, ⟨(some 5), none, .mov (.c (.b false))⟩]) (
   .ret)) (
   .skip))) (
  .seq (.reg [⟨(some 23), none, .mkM⟩, ⟨(some 6), none, .mov (.t 23)⟩]) (
  .seq (.seq (.reg [⟨(some 24), none, .fa 3 (.t 2)⟩, ⟨(some 25), none, .load none (.t 24)⟩, ⟨(some 26), none, .call (.b .lenV) [(.t 25)]⟩, ⟨(some 27), none, .mov (.c (.i .i64 0))⟩]) (
  .block 0 (.loop (
    .seq (.reg [⟨(some 28), none, .bin .lss .int false (.t 27) (.t 26)⟩]) (
    .seq (.cond (.t 28) (
     .skip) (
     .exit 0)) (
    .seq (.block 1 (.seq (.reg [⟨(some 29), none, .mov (.t 27)⟩, ⟨(some 30), none, .iaV 1 (.t 25) (.t 27)⟩, ⟨(some 31), none, .load none (.t 30)⟩, ⟨(some 7), none, .mov (.t 29)⟩, ⟨(some 8), none, .mov (.t 31)⟩]) (
     .seq (.seq (.reg [⟨(some 33), none, .mov (.t 6)⟩, ⟨(some 34), none, .mov (.t 8)⟩, ⟨(some 35), none, .lkp .str (.agg [(.i .i64 0), (.i .i64 0), (.s []), (.sl none 0 0), (.sl none 0 0)]) true (.t 33) (.t 34)⟩, ⟨(some 32), none, .mov (.t 35)⟩, ⟨(some 36), none, .ext (.t 32) 0⟩, ⟨(some 37), none, .ext (.t 32) 1⟩, ⟨(some 9), none, .new [(.i .i64 0), (.i .i64 0), (.s []), (.sl none 0 0), (.sl none 0 0)] 53⟩, ⟨none, none, .store 5 (.t 9) (.t 36)⟩, ⟨(some 10), none, .mov (.t 37)⟩]) (
     .seq (.reg [⟨(some 38), none, .mov (.t 10)⟩, ⟨(some 39), none, .mov (.t 38)⟩, ⟨(some 40), (some (39, false)), .mov (.t 1)⟩, ⟨(some 41), (some (39, false)), .call (.b .lenV) [(.t 40)]⟩, ⟨(some 42), (some (39, false)), .bin .gtr .int false (.t 41) (.c (.i .i64 0))⟩, ⟨(some 43), (some (39, false)), .mov (.t 42)⟩, ⟨(some 44), (some (43, true)), .mov (.t 1)⟩, ⟨(some 45), (some (43, true)), .mov (.t 8)⟩, ⟨(some 46), (some (43, true)), .call (.v (.c (.fn (.func 61) [] []))) [(.t 44), (.t 45)]⟩, ⟨(some 47), (some (43, true)), .un .not (.t 46)⟩, ⟨(some 48), (some (39, false)), .pick (.t 43) (.t 47) (.c (.b false))⟩, ⟨(some 49), none, .pick (.t 39) (.c (.b true)) (.t 48)⟩]) (
     .cond (.t 49) (
      .seq (.reg [⟨(some 4), none, .mov (.c (.m none))⟩, ⟨(some 5), none, .mov (.c (.b false))⟩]) (
      .ret)) (
      .skip)))) (
     .reg [⟨(some 50), none, .mov (.t 6)⟩, ⟨(some 51), none, .mov (.t 8)⟩, ⟨(some 52), none, .fa 4 (.t 2)⟩, ⟨(some 53), none, .load none (.t 52)⟩, ⟨(some 54), none, .mov (.t 7)⟩, ⟨(some 55), none, .iaV 5 (.t 53) (.t 54)⟩, ⟨(some 56), none, .load (some 5) (.t 55)⟩, ⟨none, none, .mset .str (.t 50) (.t 51) (.t 56)⟩])))) (
    .reg [⟨(some 57), none, .bin .add .int false (.t 27) (.c (.i .i64 1))⟩, ⟨(some 27), none, .mov (.t 57)⟩]))))))) (
  .seq (.reg [⟨(some 58), none, .mov (.t 6)⟩, ⟨(some 4), none, .mov (.t 58)⟩, ⟨(some 5), none, .mov (.c (.b true))⟩]) (
  .ret))))),
 [.tmp 4, .tmp 5]⟩
/- lodestar/serve.Point -/
noncomputable def a27 : F := ⟨30,
  .seq (.reg [⟨(some 2), none, .box (.t 0) 53⟩, ⟨(some 3), none, .box (.t 1) 30⟩, ⟨(some 4), none, .new [(.i .i64 0), (.sl none 0 0), (.sl none 0 0)] 45⟩, ⟨(some 5), none, .mov (.c (.i .i64 0))⟩]) (
  .seq (.reg [⟨(some 10), none, .load (some 5) (.t 2)⟩, ⟨(some 11), none, .call (.v (.c (.fn (.func 62) [] []))) [(.t 10)]⟩, ⟨(some 9), none, .mov (.t 11)⟩, ⟨(some 12), none, .ext (.t 9) 0⟩, ⟨(some 13), none, .ext (.t 9) 1⟩, ⟨(some 6), none, .new [(.i .i64 0), (.sl none 0 0), (.sl none 0 0)] 45⟩, ⟨none, none, .store 3 (.t 6) (.t 12)⟩, ⟨(some 7), none, .mov (.t 13)⟩]) (
  .seq (.seq (.reg [⟨(some 14), none, .mov (.t 7)⟩, ⟨(some 15), none, .un .not (.t 14)⟩, ⟨(some 16), none, .mov (.t 15)⟩, ⟨(some 17), (some (16, false)), .load (some 5) (.t 2)⟩, ⟨(some 18), (some (16, false)), .call (.v (.c (.fn (.func 63) [] []))) [(.t 17)]⟩, ⟨(some 19), (some (16, false)), .bin .neq .int false (.t 18) (.c (.i .i64 0))⟩, ⟨(some 20), none, .pick (.t 16) (.c (.b true)) (.t 19)⟩]) (
  .cond (.t 20) (
   .seq (.reg [⟨(some 21), none, .build [(.i .i64 0), (.sl none 0 0), (.sl none 0 0)] []⟩, ⟨none, none, .store 3 (.t 4) (.t 21)⟩, ⟨(some 5), none, .mov (.c (.i .i64 30))⟩]) (
   .ret)) (
   .skip))) (
  .seq (.seq (.reg [⟨(some 22), none, .load (some 2) (.t 3)⟩, ⟨(some 23), none, .load (some 3) (.t 6)⟩, ⟨(some 24), none, .call (.v (.c (.fn (.func 64) [] []))) [(.t 22), (.t 23)]⟩, ⟨(some 8), none, .mov (.t 24)⟩]) (
  .seq (.reg [⟨(some 25), none, .mov (.t 8)⟩, ⟨(some 26), none, .bin .neq .int false (.t 25) (.c (.i .i64 0))⟩]) (
  .cond (.t 26) (
   .seq (.reg [⟨(some 27), none, .build [(.i .i64 0), (.sl none 0 0), (.sl none 0 0)] []⟩, ⟨(some 28), none, .mov (.t 8)⟩, ⟨none, none, .store 3 (.t 4) (.t 27)⟩, ⟨(some 5), none, .mov (.t 28)⟩]) (
   .ret)) (
   .skip)))) (
  .seq (.reg [⟨(some 29), none, .load (some 3) (.t 6)⟩, ⟨none, none, .store 3 (.t 4) (.t 29)⟩, ⟨(some 5), none, .mov (.c (.i .i64 0))⟩]) (
  .ret))))),
 [.cell 4 (some 3), .tmp 5]⟩
/- (*lodestar/store.Store).Upsert -/
noncomputable def a28 : F := ⟨39,
  .seq (.reg [⟨(some 4), none, .mov (.c (.i .i64 0))⟩]) (
  .seq (.seq (.reg [⟨(some 8), none, .mov (.t 0)⟩, ⟨(some 9), none, .bin .eql .ptr true (.t 8) (.c (.p none))⟩]) (
  .cond (.t 9) (
   .seq (.reg [⟨(some 4), none, .mov (.c (.i .i64 1))⟩]) (
   .ret)) (
   .skip))) (
  .seq (.seq (.reg [⟨(some 10), none, .mov (.t 1)⟩, ⟨(some 11), none, .call (.b .lenV) [(.t 10)]⟩, ⟨(some 12), none, .bin .eql .int false (.t 11) (.c (.i .i64 0))⟩, ⟨(some 13), none, .mov (.t 12)⟩, ⟨(some 14), (some (13, false)), .mov (.t 1)⟩, ⟨(some 15), (some (13, false)), .call (.b .lenV) [(.t 14)]⟩, ⟨(some 16), (some (13, false)), .bin .gtr .int false (.t 15) (.c (.i .i64 256))⟩, ⟨(some 17), none, .pick (.t 13) (.c (.b true)) (.t 16)⟩]) (
  .cond (.t 17) (
   .seq (.reg [⟨(some 4), none, .mov (.c (.i .i64 120))⟩]) (
   .ret)) (
   .skip))) (
  .seq (.seq (.reg [⟨(some 18), none, .mov (.t 1)⟩, ⟨(some 19), none, .call (.b .lenV) [(.t 18)]⟩, ⟨(some 20), none, .mov (.c (.i .i64 0))⟩]) (
  .block 0 (.loop (
    .seq (.reg [⟨(some 21), none, .bin .lss .int false (.t 20) (.t 19)⟩]) (
    .seq (.cond (.t 21) (
     .skip) (
     .exit 0)) (
    .seq (.block 1 (.seq (.reg [⟨(some 22), none, .iaV 3 (.t 18) (.t 20)⟩, ⟨(some 23), none, .load (some 3) (.t 22)⟩, ⟨(some 6), none, .new [(.i .i64 0), (.sl none 0 0), (.sl none 0 0)] 45⟩, ⟨none, none, .store 3 (.t 6) (.t 23)⟩]) (
     .seq (.dreg [[.fl ⟨(some 24), none, .mov (.t 0)⟩ 0, .fl ⟨(some 25), none, .nilc (.t 24)⟩ 0, .fl ⟨(some 26), none, .fa 2 (.t 25)⟩ 0, .fl ⟨(some 27), none, .fa 0 (.t 26)⟩ 0, .fl ⟨(some 28), none, .load (some 2) (.t 27)⟩ 0, .fl ⟨(some 29), none, .load (some 3) (.t 6)⟩ 0, .an ⟨(some 30), none, .call (.v (.c (.fn (.func 64) [] []))) [(.t 28), (.t 29)]⟩ [], .an ⟨(some 7), none, .mov (.t 30)⟩ []]] 0) (
     .seq (.reg [⟨(some 31), none, .mov (.t 7)⟩, ⟨(some 32), none, .bin .neq .int false (.t 31) (.c (.i .i64 0))⟩]) (
     .cond (.t 32) (
      .seq (.reg [⟨(some 33), none, .mov (.t 7)⟩, ⟨(some 4), none, .mov (.t 33)⟩]) (
      .ret)) (
      .skip)))))) (
    .reg [⟨(some 34), none, .bin .add .int false (.t 20) (.c (.i .i64 1))⟩, ⟨(some 20), none, .mov (.t 34)⟩]))))))) (
  .seq (.reg [⟨(some 35), none, .mov (.t 0)⟩, ⟨(some 36), none, .mov (.t 1)⟩, ⟨(some 37), none, .call (.v (.c (.fn (.func 40) [] []))) [(.t 36), (.c (.i .i64 0))]⟩, ⟨(some 38), none, .call (.v (.c (.fn (.func 39) [] []))) [(.t 35), (.t 37)]⟩, ⟨(some 4), none, .mov (.t 38)⟩]) (
  .ret))))),
 [.tmp 4]⟩
/- lodestar/serve.put -/
noncomputable def a33 : F := ⟨26,
  .seq (.reg [⟨(some 5), none, .box (.t 2) 53⟩]) (
  .dreg [[.fl ⟨(some 6), none, .mov (.t 0)⟩ 2, .fl ⟨(some 7), none, .mov (.t 0)⟩ 2, .fl ⟨(some 8), none, .mov (.t 0)⟩ 2, .fl ⟨(some 9), none, .nilc (.t 8)⟩ 2, .fl ⟨(some 10), none, .fa 3 (.t 9)⟩ 2, .fl ⟨(some 11), none, .load none (.t 10)⟩ 2, .fl ⟨(some 12), none, .mov (.t 1)⟩ 2, .fl ⟨(some 13), none, .buildS [(.s [])] 1 [(0, 1, (.t 12))] 9⟩ 0, .fl ⟨(some 15), none, .mov (.t 0)⟩ 2, .fl ⟨(some 16), none, .nilc (.t 15)⟩ 2, .fl ⟨(some 17), none, .fa 4 (.t 16)⟩ 2, .fl ⟨(some 18), none, .load none (.t 17)⟩ 2, .fl ⟨(some 19), none, .load (some 5) (.t 5)⟩ 2, .fl ⟨(some 20), none, .buildS [(.i .i64 0), (.i .i64 0), (.s []), (.sl none 0 0), (.sl none 0 0)] 1 [(0, 5, (.t 19))] 53⟩ 1, .an ⟨(some 14), none, .call (.b (.append 1 16 9)) [(.t 11), (.t 13)]⟩ [⟨(some 18), none, .load none (.t 17)⟩, ⟨(some 19), none, .load (some 5) (.t 5)⟩], .an ⟨(some 21), none, .call (.b (.append 5 80 53)) [(.t 18), (.t 20)]⟩ [], .fl ⟨(some 22), none, .nilc (.t 6)⟩ 2, .fl ⟨(some 23), none, .fa 3 (.t 22)⟩ 2, .an ⟨none, none, .store 1 (.t 23) (.t 14)⟩ [], .fl ⟨(some 24), none, .nilc (.t 7)⟩ 2, .fl ⟨(some 25), none, .fa 4 (.t 24)⟩ 2, .an ⟨none, none, .store 1 (.t 25) (.t 21)⟩ []]] 2),
 []⟩
/- lodestar/serve.whole -/
noncomputable def a34 : F := ⟨5,
  .seq (.reg [⟨(some 2), none, .new [(.i .i64 0), (.i .i64 0), (.s []), (.sl none 0 0), (.sl none 0 0)] 53⟩]) (
  .seq (.reg [⟨(some 3), none, .mov (.t 0)⟩, ⟨(some 4), none, .build [(.i .i64 0), (.i .i64 0), (.s []), (.sl none 0 0), (.sl none 0 0)] [(0, 1, (.c (.i .i64 3))), (1, 1, (.t 3))]⟩, ⟨none, none, .store 5 (.t 2) (.t 4)⟩]) (
  .ret)),
 [.cell 2 (some 5)]⟩
/- lodestar/serve.valueJson -/
noncomputable def a35 : F := ⟨18,
  .seq (.reg [⟨(some 1), none, .box (.t 0) 78⟩, ⟨(some 2), none, .new [(.i .i64 0), (.i .i64 0), (.s []), (.sl none 0 0), (.sl none 0 0)] 53⟩]) (
  .seq (.seq (.reg [⟨(some 3), none, .fa 0 (.t 1)⟩, ⟨(some 4), none, .load none (.t 3)⟩]) (
  .block 0 (.seq (.reg [⟨(some 6), none, .bin .eql .int false (.t 4) (.c (.i .i64 2))⟩, ⟨(some 5), none, .mov (.t 6)⟩]) (
   .cond (.t 5) (
    .seq (.reg [⟨(some 7), none, .fa 2 (.t 1)⟩, ⟨(some 8), none, .load none (.t 7)⟩, ⟨(some 9), none, .build [(.i .i64 0), (.i .i64 0), (.s []), (.sl none 0 0), (.sl none 0 0)] [(0, 1, (.c (.i .i64 4))), (2, 1, (.t 8))]⟩, ⟨none, none, .store 5 (.t 2) (.t 9)⟩]) (
    .ret)) (
    .seq (.reg [⟨(some 11), none, .bin .eql .int false (.t 4) (.c (.i .i64 3))⟩, ⟨(some 10), none, .mov (.t 11)⟩]) (
    .cond (.t 10) (
     .seq (.reg [⟨(some 12), none, .fa 1 (.t 1)⟩, ⟨(some 13), none, .load none (.t 12)⟩, ⟨(some 14), none, .build [(.i .i64 0), (.i .i64 0), (.s []), (.sl none 0 0), (.sl none 0 0)] [(0, 1, (.c (.i .i64 2))), (1, 1, (.t 13))]⟩, ⟨none, none, .store 5 (.t 2) (.t 14)⟩]) (
     .ret)) (
     .skip))))))) (
  .seq (.reg [⟨(some 15), none, .fa 1 (.t 1)⟩, ⟨(some 16), none, .load none (.t 15)⟩, ⟨(some 17), none, .call (.v (.c (.fn (.func 34) [] []))) [(.t 16)]⟩, ⟨none, none, .store 5 (.t 2) (.t 17)⟩]) (
  .ret))),
 [.cell 2 (some 5)]⟩
/- (*lodestar/store.table).Get -/
noncomputable def a36 : F := ⟨20,
  .seq (.reg [⟨(some 4), none, .new [(.i .i64 0), (.sl none 0 0), (.sl none 0 0)] 45⟩, ⟨(some 5), none, .mov (.c (.b false))⟩]) (
  .seq (.reg [⟨(some 9), none, .mov (.t 0)⟩, ⟨(some 10), none, .nilc (.t 9)⟩, ⟨(some 11), none, .fa 0 (.t 10)⟩, ⟨(some 12), none, .load none (.t 11)⟩, ⟨(some 13), none, .mov (.t 1)⟩, ⟨(some 14), none, .lkp .int (.agg [(.i .i64 0), (.sl none 0 0), (.sl none 0 0)]) true (.t 12) (.t 13)⟩, ⟨(some 8), none, .mov (.t 14)⟩, ⟨(some 15), none, .ext (.t 8) 0⟩, ⟨(some 16), none, .ext (.t 8) 1⟩, ⟨(some 6), none, .new [(.i .i64 0), (.sl none 0 0), (.sl none 0 0)] 45⟩, ⟨none, none, .store 3 (.t 6) (.t 15)⟩, ⟨(some 7), none, .mov (.t 16)⟩]) (
  .seq (.reg [⟨(some 17), none, .load (some 3) (.t 6)⟩, ⟨(some 18), none, .call (.v (.c (.fn (.func 85) [] []))) [(.t 17)]⟩, ⟨(some 19), none, .mov (.t 7)⟩, ⟨none, none, .store 3 (.t 4) (.t 18)⟩, ⟨(some 5), none, .mov (.t 19)⟩]) (
  .ret))),
 [.cell 4 (some 3), .tmp 5]⟩
/- lodestar/json.Print -/
noncomputable def a38 : F := ⟨14,
  .seq (.reg [⟨(some 1), none, .box (.t 0) 53⟩, ⟨(some 2), none, .mov (.c (.s []))⟩, ⟨(some 3), none, .mov (.c (.i .i64 0))⟩]) (
  .seq (.seq (.reg [⟨(some 6), none, .load (some 5) (.t 1)⟩, ⟨(some 7), none, .call (.v (.c (.fn (.func 63) [] []))) [(.t 6)]⟩, ⟨(some 4), none, .mov (.t 7)⟩]) (
  .seq (.reg [⟨(some 8), none, .mov (.t 4)⟩, ⟨(some 9), none, .bin .neq .int false (.t 8) (.c (.i .i64 0))⟩]) (
  .cond (.t 9) (
   .seq (.reg [⟨(some 10), none, .mov (.t 4)⟩, ⟨(some 2), none, .mov (.c (.s []))⟩, ⟨(some 3), none, .mov (.t 10)⟩]) (
   .ret)) (
   .skip)))) (
  .seq (.reg [⟨(some 5), none, .new [(.p none), (.sl none 0 0)] 208⟩]) (
  .seq (.reg [⟨(some 11), none, .load (some 5) (.t 1)⟩, ⟨(some 12), none, .call (.v (.c (.fn (.func 86) [] []))) [(.t 5), (.t 11)]⟩]) (
  .seq (.reg [⟨(some 13), none, .call (.v (.c (.fn (.func 87) [] []))) [(.t 5)]⟩, ⟨(some 2), none, .mov (.t 13)⟩, ⟨(some 3), none, .mov (.c (.i .i64 0))⟩]) (
  .ret))))),
 [.tmp 2, .tmp 3]⟩
/- (*lodestar/store.Store).write -/
noncomputable def a39 : F := ⟨131,
  .seq (.reg [⟨(some 4), none, .mov (.c (.i .i64 0))⟩]) (
  .seq (.seq (.reg [⟨(some 10), none, .mov (.t 0)⟩, ⟨(some 11), none, .call (.v (.c (.fn (.func 41) [] []))) [(.t 10)]⟩, ⟨(some 5), none, .mov (.t 11)⟩]) (
  .seq (.reg [⟨(some 12), none, .mov (.t 5)⟩, ⟨(some 13), none, .bin .neq .int false (.t 12) (.c (.i .i64 0))⟩]) (
  .cond (.t 13) (
   .seq (.reg [⟨(some 14), none, .mov (.t 5)⟩, ⟨(some 4), none, .mov (.t 14)⟩]) (
   .ret)) (
   .skip)))) (
  .seq (.reg [⟨(some 15), none, .mov (.t 0)⟩, ⟨(some 16), none, .nilc (.t 15)⟩, ⟨(some 17), none, .fa 0 (.t 16)⟩, ⟨(some 18), none, .load none (.t 17)⟩, ⟨(some 19), none, .nilc (.t 18)⟩, ⟨(some 20), none, .fa 1 (.t 19)⟩, ⟨(some 21), none, .load none (.t 20)⟩, ⟨(some 22), none, .bin .add .int false (.t 21) (.c (.i .i64 1))⟩, ⟨(some 23), none, .mov (.t 1)⟩, ⟨(some 24), none, .build [(.i .i64 0), (.s [])] [(0, 1, (.t 22)), (1, 1, (.t 23))]⟩, ⟨(some 6), none, .new [(.i .i64 0), (.s [])] 122⟩, ⟨none, none, .store 2 (.t 6) (.t 24)⟩]) (
  .seq (.dreg [[.fl ⟨(some 25), none, .mov (.t 0)⟩ 0, .fl ⟨(some 26), none, .nilc (.t 25)⟩ 0, .fl ⟨(some 27), none, .fa 10 (.t 26)⟩ 0, .fl ⟨(some 28), none, .load none (.t 27)⟩ 0, .fl ⟨(some 29), none, .load (some 2) (.t 6)⟩ 0, .an ⟨(some 30), none, .call (.v (.c (.fn (.func 88) [] []))) [(.t 28), (.t 29)]⟩ [], .an ⟨(some 7), none, .mov (.t 30)⟩ []]] 0) (
  .seq (.seq (.reg [⟨(some 31), none, .mov (.t 7)⟩, ⟨(some 32), none, .bin .eql .int false (.t 31) (.c (.i .i64 0))⟩]) (
  .cond (.t 32) (
   .reg [⟨(some 33), none, .mov (.t 0)⟩, ⟨(some 34), none, .nilc (.t 33)⟩, ⟨(some 35), none, .fa 10 (.t 34)⟩, ⟨(some 36), none, .load none (.t 35)⟩, ⟨(some 37), none, .call (.v (.c (.fn (.func 89) [] []))) [(.t 36)]⟩, ⟨(some 7), none, .mov (.t 37)⟩]) (
   .skip))) (
  .seq (.seq (.reg [⟨(some 38), none, .mov (.t 7)⟩, ⟨(some 39), none, .bin .neq .int false (.t 38) (.c (.i .i64 0))⟩]) (
  .cond (.t 39) (
   .seq (.reg [⟨(some 40), none, .mov (.t 0)⟩, ⟨(some 41), none, .nilc (.t 40)⟩, ⟨(some 42), none, .fa 14 (.t 41)⟩, ⟨none, none, .store 1 (.t 42) (.c (.b true))⟩]) (
   .seq (.reg [⟨(some 43), none, .mov (.t 7)⟩, ⟨(some 4), none, .mov (.t 43)⟩]) (
   .ret))) (
   .skip))) (
  .seq (.dreg [[.fl ⟨(some 44), none, .mov (.t 0)⟩ 1, .fl ⟨(some 45), none, .mov (.t 0)⟩ 1, .fl ⟨(some 46), none, .nilc (.t 45)⟩ 1, .fl ⟨(some 47), none, .fa 12 (.t 46)⟩ 1, .fl ⟨(some 48), none, .load none (.t 47)⟩ 1, .fl ⟨(some 49), none, .load (some 2) (.t 6)⟩ 1, .fl ⟨(some 50), none, .buildS [(.i .i64 0), (.s [])] 1 [(0, 2, (.t 49))] 122⟩ 0, .an ⟨(some 51), none, .call (.b (.append 2 24 122)) [(.t 48), (.t 50)]⟩ [], .fl ⟨(some 52), none, .nilc (.t 44)⟩ 1, .fl ⟨(some 53), none, .fa 12 (.t 52)⟩ 1, .an ⟨none, none, .store 1 (.t 53) (.t 51)⟩ []]] 1) (
  .seq (.reg [⟨(some 54), none, .mov (.t 0)⟩, ⟨(some 55), none, .mov (.t 0)⟩, ⟨(some 56), none, .nilc (.t 55)⟩, ⟨(some 57), none, .fa 10 (.t 56)⟩, ⟨(some 58), none, .load none (.t 57)⟩, ⟨(some 59), none, .call (.v (.c (.fn (.func 90) [] []))) [(.t 58)]⟩, ⟨(some 60), none, .nilc (.t 54)⟩, ⟨(some 61), none, .fa 11 (.t 60)⟩, ⟨none, none, .store 1 (.t 61) (.t 59)⟩]) (
  .seq (.reg [⟨(some 62), none, .mov (.t 0)⟩, ⟨(some 63), none, .nilc (.t 62)⟩, ⟨(some 64), none, .fa 0 (.t 63)⟩, ⟨(some 65), none, .load none (.t 64)⟩, ⟨(some 66), none, .nilc (.t 65)⟩, ⟨(some 67), none, .fa 1 (.t 66)⟩, ⟨(some 68), none, .load none (.t 67)⟩, ⟨(some 69), none, .bin .add .int false (.t 68) (.c (.i .i64 1))⟩, ⟨(some 70), none, .nilc (.t 65)⟩, ⟨(some 71), none, .fa 1 (.t 70)⟩, ⟨none, none, .store 1 (.t 71) (.t 69)⟩]) (
  .seq (.reg [⟨(some 73), none, .load (some 2) (.t 6)⟩, ⟨(some 74), none, .call (.v (.c (.fn (.func 42) [] []))) [(.t 73)]⟩, ⟨(some 72), none, .mov (.t 74)⟩, ⟨(some 75), none, .ext (.t 72) 0⟩, ⟨(some 76), none, .ext (.t 72) 1⟩, ⟨(some 8), none, .mov (.t 75)⟩, ⟨(some 9), none, .mov (.t 76)⟩]) (
  .seq (.reg [⟨(some 77), none, .mov (.t 0)⟩, ⟨(some 78), none, .nilc (.t 77)⟩, ⟨(some 79), none, .fa 0 (.t 78)⟩, ⟨(some 80), none, .load none (.t 79)⟩, ⟨(some 81), none, .mov (.t 8)⟩, ⟨(some 82), none, .call (.v (.c (.fn (.func 91) [] []))) [(.t 80), (.t 81)]⟩]) (
  .seq (.seq (.dreg [[.fl ⟨(some 83), none, .mov (.t 0)⟩ 0, .fl ⟨(some 84), none, .nilc (.t 83)⟩ 0, .fl ⟨(some 85), none, .fa 2 (.t 84)⟩ 0, .fl ⟨(some 86), none, .fa 2 (.t 85)⟩ 0, .fl ⟨(some 87), none, .load none (.t 86)⟩ 0, .fl ⟨(some 88), none, .bin .gtr .int false (.t 87) (.c (.i .i64 0))⟩ 0, .fl ⟨(some 89), none, .mov (.t 88)⟩ 0, .fl ⟨(some 90), (some (89, true)), .mov (.t 0)⟩ 0, .fl ⟨(some 91), (some (89, true)), .nilc (.t 90)⟩ 0, .fl ⟨(some 92), (some (89, true)), .fa 12 (.t 91)⟩ 0, .fl ⟨(some 93), (some (89, true)), .load none (.t 92)⟩ 0, .fl ⟨(some 94), (some (89, true)), .call (.b .lenV) [(.t 93)]⟩ 0, .fl ⟨(some 95), (some (89, true)), .mov (.t 0)⟩ 0, .fl ⟨(some 96), (some (89, true)), .nilc (.t 95)⟩ 0, .fl ⟨(some 97), (some (89, true)), .fa 2 (.t 96)⟩ 0, .fl ⟨(some 98), (some (89, true)), .fa 2 (.t 97)⟩ 0, .fl ⟨(some 99), (some (89, true)), .load none (.t 98)⟩ 0, .fl ⟨(some 100), (some (89, true)), .bin .geq .int false (.t 94) (.t 99)⟩ 0, .fl ⟨(some 101), none, .pick (.t 89) (.t 100) (.c (.b false))⟩ 0, .fl ⟨(some 102), none, .mov (.t 101)⟩ 0, .fl ⟨(some 103), (some (102, true)), .mov (.t 0)⟩ 0, .an ⟨(some 104), (some (102, true)), .call (.v (.c (.fn (.func 18) [] []))) [(.t 103)]⟩ [], .fl ⟨(some 105), (some (102, true)), .bin .eql .int false (.t 104) (.c (.i .i64 0))⟩ 0, .fl ⟨(some 106), none, .pick (.t 102) (.t 105) (.c (.b false))⟩ 0, .fl ⟨(some 107), none, .mov (.t 106)⟩ 0, .fl ⟨(some 108), (some (107, true)), .mov (.t 0)⟩ 0, .fl ⟨(some 109), (some (107, true)), .nilc (.t 108)⟩ 0, .fl ⟨(some 110), (some (107, true)), .fa 2 (.t 109)⟩ 0, .fl ⟨(some 111), (some (107, true)), .fa 3 (.t 110)⟩ 0, .fl ⟨(some 112), (some (107, true)), .load none (.t 111)⟩ 0, .fl ⟨(some 113), (some (107, true)), .bin .gtr .int false (.t 112) (.c (.i .i64 0))⟩ 0, .fl ⟨(some 114), none, .pick (.t 107) (.t 113) (.c (.b false))⟩ 0, .fl ⟨(some 115), none, .mov (.t 114)⟩ 0, .fl ⟨(some 116), (some (115, true)), .mov (.t 0)⟩ 0, .fl ⟨(some 117), (some (115, true)), .nilc (.t 116)⟩ 0, .fl ⟨(some 118), (some (115, true)), .fa 6 (.t 117)⟩ 0, .fl ⟨(some 119), (some (115, true)), .fa 0 (.t 118)⟩ 0, .fl ⟨(some 120), (some (115, true)), .load none (.t 119)⟩ 0, .fl ⟨(some 121), (some (115, true)), .call (.b .lenV) [(.t 120)]⟩ 0, .fl ⟨(some 122), (some (115, true)), .mov (.t 0)⟩ 0, .fl ⟨(some 123), (some (115, true)), .nilc (.t 122)⟩ 0, .fl ⟨(some 124), (some (115, true)), .fa 2 (.t 123)⟩ 0, .fl ⟨(some 125), (some (115, true)), .fa 3 (.t 124)⟩ 0, .fl ⟨(some 126), (some (115, true)), .load none (.t 125)⟩ 0, .fl ⟨(some 127), (some (115, true)), .bin .geq .int false (.t 121) (.t 126)⟩ 0, .fl ⟨(some 128), none, .pick (.t 115) (.t 127) (.c (.b false))⟩ 0]] 0) (
  .cond (.t 128) (
   .reg [⟨(some 129), none, .mov (.t 0)⟩, ⟨(some 130), none, .call (.v (.c (.fn (.func 19) [] []))) [(.t 129)]⟩]) (
   .skip))) (
  .seq (.reg [⟨(some 4), none, .mov (.c (.i .i64 0))⟩]) (
  .ret))))))))))))),
 [.tmp 4]⟩
/- lodestar/store.body -/
noncomputable def a40 : F := ⟨35,
  .seq (.reg [⟨(some 4), none, .mov (.c (.s []))⟩]) (
  .seq (.seq (.reg [⟨(some 10), none, .mov (.t 1)⟩, ⟨(some 11), none, .bin .gtr .int false (.t 10) (.c (.i .i64 0))⟩]) (
  .cond (.t 11) (
   .seq (.reg [⟨(some 12), none, .mov (.t 1)⟩, ⟨(some 13), none, .call (.v (.c (.fn (.func 92) [] []))) [(.t 12), (.c (.i .i64 8))]⟩, ⟨(some 14), none, .bin .add .str false (.c (.s [68])) (.t 13)⟩, ⟨(some 4), none, .mov (.t 14)⟩]) (
   .ret)) (
   .skip))) (
  .seq (.reg [⟨(some 15), none, .mov (.t 0)⟩, ⟨(some 16), none, .call (.b .lenV) [(.t 15)]⟩, ⟨(some 17), none, .call (.v (.c (.fn (.func 92) [] []))) [(.t 16), (.c (.i .i64 4))]⟩, ⟨(some 18), none, .bin .add .str false (.c (.s [85])) (.t 17)⟩, ⟨(some 5), none, .mov (.t 18)⟩]) (
  .seq (.seq (.reg [⟨(some 19), none, .mov (.t 0)⟩, ⟨(some 20), none, .call (.b .lenV) [(.t 19)]⟩, ⟨(some 21), none, .mov (.c (.i .i64 0))⟩]) (
  .block 0 (.loop (
    .seq (.reg [⟨(some 22), none, .bin .lss .int false (.t 21) (.t 20)⟩]) (
    .seq (.cond (.t 22) (
     .skip) (
     .exit 0)) (
    .seq (.block 1 (.seq (.reg [⟨(some 23), none, .iaV 3 (.t 19) (.t 21)⟩, ⟨(some 24), none, .load (some 3) (.t 23)⟩, ⟨(some 7), none, .new [(.i .i64 0), (.sl none 0 0), (.sl none 0 0)] 45⟩, ⟨none, none, .store 3 (.t 7) (.t 24)⟩]) (
     .seq (.reg [⟨(some 26), none, .load (some 3) (.t 7)⟩, ⟨(some 27), none, .call (.v (.c (.fn (.func 93) [] []))) [(.t 26)]⟩, ⟨(some 25), none, .mov (.t 27)⟩, ⟨(some 28), none, .ext (.t 25) 0⟩, ⟨(some 29), none, .ext (.t 25) 1⟩, ⟨(some 8), none, .mov (.t 28)⟩, ⟨(some 9), none, .mov (.t 29)⟩]) (
     .reg [⟨(some 30), none, .mov (.t 5)⟩, ⟨(some 31), none, .mov (.t 8)⟩, ⟨(some 32), none, .bin .add .str false (.t 30) (.t 31)⟩, ⟨(some 5), none, .mov (.t 32)⟩])))) (
    .reg [⟨(some 33), none, .bin .add .int false (.t 21) (.c (.i .i64 1))⟩, ⟨(some 21), none, .mov (.t 33)⟩]))))))) (
  .seq (.reg [⟨(some 34), none, .mov (.t 5)⟩, ⟨(some 4), none, .mov (.t 34)⟩]) (
  .ret))))),
 [.tmp 4]⟩
/- (*lodestar/store.Store).mend -/
noncomputable def a41 : F := ⟨69,
  .seq (.reg [⟨(some 2), none, .mov (.c (.i .i64 0))⟩]) (
  .seq (.seq (.reg [⟨(some 8), none, .mov (.t 0)⟩, ⟨(some 9), none, .nilc (.t 8)⟩, ⟨(some 10), none, .fa 13 (.t 9)⟩, ⟨(some 11), none, .load none (.t 10)⟩]) (
  .cond (.t 11) (
   .seq (.seq (.reg [⟨(some 12), none, .mov (.t 0)⟩, ⟨(some 13), none, .nilc (.t 12)⟩, ⟨(some 14), none, .fa 1 (.t 13)⟩, ⟨(some 15), none, .load none (.t 14)⟩, ⟨(some 16), none, .call (.v (.c (.fn (.func 94) [] []))) [(.t 15)]⟩, ⟨(some 3), none, .mov (.t 16)⟩]) (
   .seq (.reg [⟨(some 17), none, .mov (.t 3)⟩, ⟨(some 18), none, .bin .neq .int false (.t 17) (.c (.i .i64 0))⟩]) (
   .cond (.t 18) (
    .seq (.reg [⟨(some 19), none, .mov (.t 3)⟩, ⟨(some 2), none, .mov (.t 19)⟩]) (
    .ret)) (
    .skip)))) (
   .reg [⟨(some 20), none, .mov (.t 0)⟩, ⟨(some 21), none, .nilc (.t 20)⟩, ⟨(some 22), none, .fa 13 (.t 21)⟩, ⟨none, none, .store 1 (.t 22) (.c (.b false))⟩])) (
   .skip))) (
  .seq (.seq (.reg [⟨(some 23), none, .mov (.t 0)⟩, ⟨(some 24), none, .nilc (.t 23)⟩, ⟨(some 25), none, .fa 14 (.t 24)⟩, ⟨(some 26), none, .load none (.t 25)⟩, ⟨(some 27), none, .un .not (.t 26)⟩]) (
  .cond (.t 27) (
   .seq (.reg [⟨(some 2), none, .mov (.c (.i .i64 0))⟩]) (
   .ret)) (
   .skip))) (
  .seq (.seq (.dreg [[.fl ⟨(some 28), none, .mov (.t 0)⟩ 0, .fl ⟨(some 29), none, .nilc (.t 28)⟩ 0, .fl ⟨(some 30), none, .fa 1 (.t 29)⟩ 0, .fl ⟨(some 31), none, .load none (.t 30)⟩ 0, .fl ⟨(some 32), none, .mov (.t 0)⟩ 0, .fl ⟨(some 33), none, .nilc (.t 32)⟩ 0, .fl ⟨(some 34), none, .fa 6 (.t 33)⟩ 0, .fl ⟨(some 35), none, .fa 1 (.t 34)⟩ 0, .fl ⟨(some 36), none, .load none (.t 35)⟩ 0, .fl ⟨(some 37), none, .mov (.t 0)⟩ 0, .fl ⟨(some 38), none, .nilc (.t 37)⟩ 0, .fl ⟨(some 39), none, .fa 11 (.t 38)⟩ 0, .fl ⟨(some 40), none, .load none (.t 39)⟩ 0, .an ⟨(some 41), none, .call (.v (.c (.fn (.func 95) [] []))) [(.t 31), (.t 36), (.t 40)]⟩ [], .an ⟨(some 4), none, .mov (.t 41)⟩ []]] 0) (
  .seq (.reg [⟨(some 42), none, .mov (.t 4)⟩, ⟨(some 43), none, .bin .neq .int false (.t 42) (.c (.i .i64 0))⟩]) (
  .cond (.t 43) (
   .seq (.reg [⟨(some 44), none, .mov (.t 4)⟩, ⟨(some 2), none, .mov (.t 44)⟩]) (
   .ret)) (
   .skip)))) (
  .seq (.dreg [[.fl ⟨(some 46), none, .mov (.t 0)⟩ 0, .fl ⟨(some 47), none, .nilc (.t 46)⟩ 0, .fl ⟨(some 48), none, .fa 1 (.t 47)⟩ 0, .fl ⟨(some 49), none, .load none (.t 48)⟩ 0, .fl ⟨(some 50), none, .mov (.t 0)⟩ 0, .fl ⟨(some 51), none, .nilc (.t 50)⟩ 0, .fl ⟨(some 52), none, .fa 6 (.t 51)⟩ 0, .fl ⟨(some 53), none, .fa 1 (.t 52)⟩ 0, .fl ⟨(some 54), none, .load none (.t 53)⟩ 0, .an ⟨(some 55), none, .call (.v (.c (.fn (.func 96) [] []))) [(.t 49), (.t 54)]⟩ [], .fl ⟨(some 45), none, .mov (.t 55)⟩ 0, .fl ⟨(some 56), none, .ext (.t 45) 0⟩ 0, .fl ⟨(some 57), none, .ext (.t 45) 1⟩ 0, .fl ⟨(some 58), none, .ext (.t 45) 2⟩ 0, .an ⟨(some 5), none, .mov (.t 56)⟩ [], .an ⟨(some 6), none, .mov (.t 57)⟩ [], .an ⟨(some 7), none, .mov (.t 58)⟩ []]] 0) (
  .seq (.seq (.reg [⟨(some 59), none, .mov (.t 7)⟩, ⟨(some 60), none, .bin .neq .int false (.t 59) (.c (.i .i64 0))⟩]) (
  .cond (.t 60) (
   .seq (.reg [⟨(some 61), none, .mov (.t 7)⟩, ⟨(some 2), none, .mov (.t 61)⟩]) (
   .ret)) (
   .skip))) (
  .seq (.reg [⟨(some 62), none, .mov (.t 0)⟩, ⟨(some 63), none, .mov (.t 0)⟩, ⟨(some 64), none, .mov (.t 5)⟩, ⟨(some 65), none, .nilc (.t 62)⟩, ⟨(some 66), none, .fa 10 (.t 65)⟩, ⟨none, none, .store 1 (.t 66) (.t 64)⟩, ⟨(some 67), none, .nilc (.t 63)⟩, ⟨(some 68), none, .fa 14 (.t 67)⟩, ⟨none, none, .store 1 (.t 68) (.c (.b false))⟩]) (
  .seq (.reg [⟨(some 2), none, .mov (.c (.i .i64 0))⟩]) (
  .ret)))))))),
 [.tmp 2]⟩
/- lodestar/store.versions -/
noncomputable def a42 : F := ⟨97,
  .seq (.reg [⟨(some 1), none, .box (.t 0) 122⟩, ⟨(some 2), none, .mov (.c (.sl none 0 0))⟩, ⟨(some 3), none, .mov (.c (.b false))⟩]) (
  .seq (.seq (.reg [⟨(some 13), none, .fa 1 (.t 1)⟩, ⟨(some 14), none, .load none (.t 13)⟩, ⟨(some 15), none, .call (.b .lenS) [(.t 14)]⟩, ⟨(some 16), none, .bin .eql .int false (.t 15) (.c (.i .i64 9))⟩, ⟨(some 17), none, .mov (.t 16)⟩, ⟨(some 18), (some (17, true)), .fa 1 (.t 1)⟩, ⟨(some 19), (some (17, true)), .load none (.t 18)⟩, ⟨(some 20), (some (17, true)), .ixS (.t 19) (.c (.i .i64 0))⟩, ⟨(some 21), (some (17, true)), .bin .eql .int false (.t 20) (.c (.i .u8 68))⟩, ⟨(some 22), none, .pick (.t 17) (.t 21) (.c (.b false))⟩]) (
  .cond (.t 22) (
   .seq (.reg [⟨(some 24), none, .fa 1 (.t 1)⟩, ⟨(some 25), none, .load none (.t 24)⟩, ⟨(some 26), none, .slS (.t 25) (some (.c (.i .i64 1))) none⟩, ⟨(some 27), none, .call (.v (.c (.fn (.func 97) [] []))) [(.t 26)]⟩, ⟨(some 23), none, .mov (.t 27)⟩, ⟨(some 28), none, .ext (.t 23) 0⟩, ⟨(some 29), none, .ext (.t 23) 1⟩, ⟨(some 4), none, .mov (.t 28)⟩, ⟨(some 5), none, .mov (.t 29)⟩]) (
   .seq (.seq (.reg [⟨(some 30), none, .mov (.t 4)⟩, ⟨(some 31), none, .bin .lss .int false (.t 30) (.c (.i .u64 1))⟩, ⟨(some 32), none, .mov (.t 31)⟩, ⟨(some 33), (some (32, false)), .mov (.t 4)⟩, ⟨(some 34), (some (32, false)), .bin .gtr .int false (.t 33) (.c (.i .u64 4503599627370496))⟩, ⟨(some 35), none, .pick (.t 32) (.c (.b true)) (.t 34)⟩]) (
   .cond (.t 35) (
    .seq (.reg [⟨(some 2), none, .mov (.c (.sl none 0 0))⟩, ⟨(some 3), none, .mov (.c (.b false))⟩]) (
    .ret)) (
    .skip))) (
   .seq (.reg [⟨(some 36), none, .fa 0 (.t 1)⟩, ⟨(some 37), none, .load none (.t 36)⟩, ⟨(some 38), none, .mov (.t 4)⟩, ⟨(some 39), none, .conv (.int .i64) (.t 38)⟩, ⟨(some 40), none, .build [(.i .i64 0), (.sl none 0 0), (.sl none 0 0)] [(0, 1, (.t 39))]⟩, ⟨(some 41), none, .build [(.i .i64 0), (.b false), (.i .i64 0), (.sl none 0 0), (.sl none 0 0)] [(0, 1, (.t 37)), (1, 1, (.c (.b true))), (2, 3, (.t 40))]⟩, ⟨(some 42), none, .buildS [(.i .i64 0), (.b false), (.i .i64 0), (.sl none 0 0), (.sl none 0 0)] 1 [(0, 5, (.t 41))] 127⟩, ⟨(some 2), none, .mov (.t 42)⟩, ⟨(some 3), none, .mov (.c (.b true))⟩]) (
   .ret)))) (
   .skip))) (
  .seq (.seq (.reg [⟨(some 43), none, .fa 1 (.t 1)⟩, ⟨(some 44), none, .load none (.t 43)⟩, ⟨(some 45), none, .call (.b .lenS) [(.t 44)]⟩, ⟨(some 46), none, .bin .lss .int false (.t 45) (.c (.i .i64 5))⟩, ⟨(some 47), none, .mov (.t 46)⟩, ⟨(some 48), (some (47, false)), .fa 1 (.t 1)⟩, ⟨(some 49), (some (47, false)), .load none (.t 48)⟩, ⟨(some 50), (some (47, false)), .ixS (.t 49) (.c (.i .i64 0))⟩, ⟨(some 51), (some (47, false)), .bin .neq .int false (.t 50) (.c (.i .u8 85))⟩, ⟨(some 52), none, .pick (.t 47) (.c (.b true)) (.t 51)⟩]) (
  .cond (.t 52) (
   .seq (.reg [⟨(some 2), none, .mov (.c (.sl none 0 0))⟩, ⟨(some 3), none, .mov (.c (.b false))⟩]) (
   .ret)) (
   .skip))) (
  .seq (.reg [⟨(some 54), none, .fa 1 (.t 1)⟩, ⟨(some 55), none, .load none (.t 54)⟩, ⟨(some 56), none, .slS (.t 55) (some (.c (.i .i64 1))) (some (.c (.i .i64 5)))⟩, ⟨(some 57), none, .call (.v (.c (.fn (.func 97) [] []))) [(.t 56)]⟩, ⟨(some 53), none, .mov (.t 57)⟩, ⟨(some 58), none, .ext (.t 53) 0⟩, ⟨(some 59), none, .ext (.t 53) 1⟩, ⟨(some 6), none, .mov (.t 58)⟩, ⟨(some 7), none, .mov (.t 59)⟩]) (
  .seq (.reg [⟨(some 60), none, .fa 1 (.t 1)⟩, ⟨(some 61), none, .load none (.t 60)⟩, ⟨(some 62), none, .slS (.t 61) (some (.c (.i .i64 5))) none⟩, ⟨(some 8), none, .mov (.t 62)⟩]) (
  .seq (.reg [⟨(some 9), none, .mov (.c (.sl none 0 0))⟩]) (
  .seq (.block 0 (.loop (
    .seq (.seq (.reg [⟨(some 63), none, .mov (.t 9)⟩, ⟨(some 64), none, .call (.b .lenV) [(.t 63)]⟩, ⟨(some 65), none, .conv (.int .u64) (.t 64)⟩, ⟨(some 66), none, .mov (.t 6)⟩, ⟨(some 67), none, .bin .lss .int false (.t 65) (.t 66)⟩]) (
    .cond (.t 67) (
     .skip) (
     .exit 0))) (
    .block 1 (.seq (.reg [⟨(some 69), none, .mov (.t 8)⟩, ⟨(some 70), none, .call (.v (.c (.fn (.func 98) [] []))) [(.t 69)]⟩, ⟨(some 68), none, .mov (.t 70)⟩, ⟨(some 71), none, .ext (.t 68) 0⟩, ⟨(some 72), none, .ext (.t 68) 1⟩, ⟨(some 73), none, .ext (.t 68) 2⟩, ⟨(some 10), none, .new [(.i .i64 0), (.sl none 0 0), (.sl none 0 0)] 45⟩, ⟨none, none, .store 3 (.t 10) (.t 71)⟩, ⟨(some 11), none, .mov (.t 72)⟩, ⟨(some 12), none, .mov (.t 73)⟩]) (
     .seq (.seq (.reg [⟨(some 74), none, .mov (.t 12)⟩, ⟨(some 75), none, .bin .neq .int false (.t 74) (.c (.i .i64 0))⟩]) (
     .cond (.t 75) (
      .seq (.reg [⟨(some 2), none, .mov (.c (.sl none 0 0))⟩, ⟨(some 3), none, .mov (.c (.b false))⟩]) (
      .ret)) (
      .skip))) (
     .seq (.reg [⟨(some 76), none, .mov (.t 9)⟩, ⟨(some 77), none, .fa 0 (.t 1)⟩, ⟨(some 78), none, .load none (.t 77)⟩, ⟨(some 79), none, .load (some 3) (.t 10)⟩, ⟨(some 80), none, .build [(.i .i64 0), (.b false), (.i .i64 0), (.sl none 0 0), (.sl none 0 0)] [(0, 1, (.t 78)), (2, 3, (.t 79))]⟩, ⟨(some 81), none, .buildS [(.i .i64 0), (.b false), (.i .i64 0), (.sl none 0 0), (.sl none 0 0)] 1 [(0, 5, (.t 80))] 127⟩, ⟨(some 82), none, .call (.b (.append 5 72 127)) [(.t 76), (.t 81)]⟩, ⟨(some 9), none, .mov (.t 82)⟩]) (
     .reg [⟨(some 83), none, .mov (.t 8)⟩, ⟨(some 84), none, .mov (.t 11)⟩, ⟨(some 85), none, .slS (.t 83) (some (.t 84)) none⟩, ⟨(some 8), none, .mov (.t 85)⟩])))))))) (
  .seq (.reg [⟨(some 86), none, .mov (.t 9)⟩, ⟨(some 87), none, .mov (.t 8)⟩, ⟨(some 88), none, .bin .eql .str false (.t 87) (.c (.s []))⟩, ⟨(some 89), none, .mov (.t 88)⟩, ⟨(some 90), (some (89, true)), .mov (.t 6)⟩, ⟨(some 91), (some (89, true)), .bin .gtr .int false (.t 90) (.c (.i .u64 0))⟩, ⟨(some 92), none, .pick (.t 89) (.t 91) (.c (.b false))⟩, ⟨(some 93), none, .mov (.t 92)⟩, ⟨(some 94), (some (93, true)), .mov (.t 6)⟩, ⟨(some 95), (some (93, true)), .bin .leq .int false (.t 94) (.c (.i .u64 256))⟩, ⟨(some 96), none, .pick (.t 93) (.t 95) (.c (.b false))⟩, ⟨(some 2), none, .mov (.t 86)⟩, ⟨(some 3), none, .mov (.t 96)⟩]) (
  .ret)))))))),
 [.tmp 2, .tmp 3]⟩
/- (*lodestar/store.Store).begin -/
noncomputable def a47 : F := ⟨28,
  .seq (.reg [⟨(some 4), none, .mov (.c (.p none))⟩, ⟨(some 5), none, .mov (.c (.i .i64 0))⟩]) (
  .seq (.seq (.reg [⟨(some 10), none, .mov (.t 0)⟩, ⟨(some 11), none, .mov (.t 1)⟩, ⟨(some 12), none, .call (.v (.c (.fn (.func 104) [] []))) [(.t 10), (.t 11)]⟩, ⟨(some 6), none, .mov (.t 12)⟩]) (
  .seq (.reg [⟨(some 13), none, .mov (.t 6)⟩, ⟨(some 14), none, .bin .neq .int false (.t 13) (.c (.i .i64 0))⟩]) (
  .cond (.t 14) (
   .seq (.reg [⟨(some 15), none, .mov (.t 6)⟩, ⟨(some 4), none, .mov (.c (.p none))⟩, ⟨(some 5), none, .mov (.t 15)⟩]) (
   .ret)) (
   .skip)))) (
  .seq (.reg [⟨(some 17), none, .mov (.t 0)⟩, ⟨(some 18), none, .nilc (.t 17)⟩, ⟨(some 19), none, .fa 1 (.t 18)⟩, ⟨(some 20), none, .load none (.t 19)⟩, ⟨(some 21), none, .mov (.t 1)⟩, ⟨(some 22), none, .call (.v (.c (.fn (.func 96) [] []))) [(.t 20), (.t 21)]⟩, ⟨(some 16), none, .mov (.t 22)⟩, ⟨(some 23), none, .ext (.t 16) 0⟩, ⟨(some 24), none, .ext (.t 16) 1⟩, ⟨(some 25), none, .ext (.t 16) 2⟩, ⟨(some 7), none, .mov (.t 23)⟩, ⟨(some 8), none, .mov (.t 24)⟩, ⟨(some 9), none, .mov (.t 25)⟩]) (
  .seq (.reg [⟨(some 26), none, .mov (.t 7)⟩, ⟨(some 27), none, .mov (.t 9)⟩, ⟨(some 4), none, .mov (.t 26)⟩, ⟨(some 5), none, .mov (.t 27)⟩]) (
  .ret)))),
 [.tmp 4, .tmp 5]⟩
/- (*lodestar/disk.Disk).Read -/
noncomputable def a50 : F := ⟨22,
  .seq (.reg [⟨(some 4), none, .mov (.c (.s []))⟩, ⟨(some 5), none, .mov (.c (.i .i64 0))⟩]) (
  .seq (.seq (.reg [⟨(some 7), none, .mov (.t 0)⟩, ⟨(some 8), none, .mov (.t 1)⟩, ⟨(some 9), none, .call (.v (.c (.fn (.func 111) [] []))) [(.t 7), (.t 8)]⟩, ⟨(some 6), none, .mov (.t 9)⟩]) (
  .seq (.reg [⟨(some 10), none, .mov (.t 6)⟩, ⟨(some 11), none, .bin .neq .int false (.t 10) (.c (.i .i64 0))⟩]) (
  .cond (.t 11) (
   .seq (.reg [⟨(some 12), none, .mov (.t 6)⟩, ⟨(some 4), none, .mov (.c (.s []))⟩, ⟨(some 5), none, .mov (.t 12)⟩]) (
   .ret)) (
   .skip)))) (
  .seq (.reg [⟨(some 13), none, .mov (.t 0)⟩, ⟨(some 14), none, .nilc (.t 13)⟩, ⟨(some 15), none, .fa 0 (.t 14)⟩, ⟨(some 16), none, .load none (.t 15)⟩, ⟨(some 17), none, .mov (.t 1)⟩, ⟨(some 18), none, .lkp .str (.p none) false (.t 16) (.t 17)⟩, ⟨(some 19), none, .nilc (.t 18)⟩, ⟨(some 20), none, .fa 0 (.t 19)⟩, ⟨(some 21), none, .load none (.t 20)⟩, ⟨(some 4), none, .mov (.t 21)⟩, ⟨(some 5), none, .mov (.c (.i .i64 0))⟩]) (
  .ret))),
 [.tmp 4, .tmp 5]⟩
/- lodestar/store.Open -/
noncomputable def a53 : F := ⟨67,
  .seq (.reg [⟨(some 3), none, .box (.t 1) 32⟩, ⟨(some 4), none, .mov (.c (.p none))⟩, ⟨(some 5), none, .mov (.c (.i .i64 0))⟩]) (
  .seq (.seq (.reg [⟨(some 11), none, .mov (.t 0)⟩, ⟨(some 12), none, .bin .eql .ptr true (.t 11) (.c (.p none))⟩, ⟨(some 13), none, .mov (.t 12)⟩, ⟨(some 14), (some (13, false)), .fa 2 (.t 3)⟩, ⟨(some 15), (some (13, false)), .load none (.t 14)⟩, ⟨(some 16), (some (13, false)), .bin .lss .int false (.t 15) (.c (.i .i64 0))⟩, ⟨(some 17), none, .pick (.t 13) (.c (.b true)) (.t 16)⟩, ⟨(some 18), none, .mov (.t 17)⟩, ⟨(some 19), (some (18, false)), .fa 3 (.t 3)⟩, ⟨(some 20), (some (18, false)), .load none (.t 19)⟩, ⟨(some 21), (some (18, false)), .bin .lss .int false (.t 20) (.c (.i .i64 0))⟩, ⟨(some 22), none, .pick (.t 18) (.c (.b true)) (.t 21)⟩, ⟨(some 23), none, .mov (.t 22)⟩, ⟨(some 24), (some (23, false)), .fa 3 (.t 3)⟩, ⟨(some 25), (some (23, false)), .load none (.t 24)⟩, ⟨(some 26), (some (23, false)), .bin .eql .int false (.t 25) (.c (.i .i64 1))⟩, ⟨(some 27), none, .pick (.t 23) (.c (.b true)) (.t 26)⟩]) (
  .cond (.t 27) (
   .seq (.reg [⟨(some 4), none, .mov (.c (.p none))⟩, ⟨(some 5), none, .mov (.c (.i .i64 1))⟩]) (
   .ret)) (
   .skip))) (
  .seq (.seq (.reg [⟨(some 28), none, .fa 0 (.t 3)⟩, ⟨(some 29), none, .load (some 2) (.t 28)⟩, ⟨(some 30), none, .call (.v (.c (.fn (.func 119) [] []))) [(.t 29)]⟩, ⟨(some 6), none, .mov (.t 30)⟩]) (
  .seq (.reg [⟨(some 31), none, .mov (.t 6)⟩, ⟨(some 32), none, .bin .neq .int false (.t 31) (.c (.i .i64 0))⟩]) (
  .cond (.t 32) (
   .seq (.reg [⟨(some 33), none, .mov (.t 6)⟩, ⟨(some 4), none, .mov (.c (.p none))⟩, ⟨(some 5), none, .mov (.t 33)⟩]) (
   .ret)) (
   .skip)))) (
  .seq (.reg [⟨(some 34), none, .mkM⟩, ⟨(some 35), none, .build [(.m none), (.i .i64 0)] [(0, 1, (.t 34))]⟩, ⟨(some 36), none, .box (.t 35) 139⟩, ⟨(some 37), none, .mov (.t 0)⟩, ⟨(some 38), none, .load (some 4) (.t 3)⟩, ⟨(some 39), none, .build [(.p none), (.p none), (.sl none 0 0), (.sl none 0 0), (.i .i64 0), (.i .i64 0), (.sl none 0 0), (.s []), (.i .i64 0), (.i .i64 0), (.p none), (.i .i64 0), (.sl none 0 0), (.b false), (.b false)] [(0, 1, (.t 36)), (1, 1, (.t 37)), (2, 4, (.t 38))]⟩, ⟨(some 40), none, .box (.t 39) 109⟩, ⟨(some 7), none, .mov (.t 40)⟩]) (
  .seq (.reg [⟨(some 42), none, .mov (.t 0)⟩, ⟨(some 43), none, .call (.v (.c (.fn (.func 110) [] []))) [(.t 42)]⟩, ⟨(some 41), none, .mov (.t 43)⟩, ⟨(some 44), none, .ext (.t 41) 0⟩, ⟨(some 45), none, .ext (.t 41) 1⟩, ⟨(some 46), none, .ext (.t 41) 2⟩, ⟨(some 8), none, .new [(.sl none 0 0), (.s []), (.i .i64 0), (.i .i64 0)] 105⟩, ⟨none, none, .store 4 (.t 8) (.t 44)⟩, ⟨(some 9), none, .mov (.t 45)⟩, ⟨(some 10), none, .mov (.t 46)⟩]) (
  .seq (.seq (.reg [⟨(some 47), none, .mov (.t 10)⟩, ⟨(some 48), none, .bin .neq .int false (.t 47) (.c (.i .i64 0))⟩]) (
  .cond (.t 48) (
   .seq (.reg [⟨(some 49), none, .mov (.t 10)⟩, ⟨(some 4), none, .mov (.c (.p none))⟩, ⟨(some 5), none, .mov (.t 49)⟩]) (
   .ret)) (
   .skip))) (
  .seq (.reg [⟨(some 50), none, .mov (.t 7)⟩, ⟨(some 51), none, .load (some 4) (.t 8)⟩, ⟨(some 52), none, .nilc (.t 50)⟩, ⟨(some 53), none, .fa 6 (.t 52)⟩, ⟨none, none, .store 4 (.t 53) (.t 51)⟩]) (
  .seq (.seq (.reg [⟨(some 54), none, .mov (.t 9)⟩]) (
  .cond (.t 54) (
   .reg [⟨(some 55), none, .mov (.t 7)⟩, ⟨(some 56), none, .call (.v (.c (.fn (.func 120) [] []))) [(.t 55)]⟩, ⟨(some 10), none, .mov (.t 56)⟩]) (
   .reg [⟨(some 57), none, .mov (.t 7)⟩, ⟨(some 58), none, .call (.v (.c (.fn (.func 121) [] []))) [(.t 57)]⟩, ⟨(some 10), none, .mov (.t 58)⟩]))) (
  .seq (.seq (.reg [⟨(some 59), none, .mov (.t 10)⟩, ⟨(some 60), none, .bin .eql .int false (.t 59) (.c (.i .i64 0))⟩]) (
  .cond (.t 60) (
   .reg [⟨(some 61), none, .mov (.t 7)⟩, ⟨(some 62), none, .call (.v (.c (.fn (.func 122) [] []))) [(.t 61)]⟩, ⟨(some 10), none, .mov (.t 62)⟩]) (
   .skip))) (
  .seq (.seq (.reg [⟨(some 63), none, .mov (.t 10)⟩, ⟨(some 64), none, .bin .neq .int false (.t 63) (.c (.i .i64 0))⟩]) (
  .cond (.t 64) (
   .seq (.reg [⟨(some 65), none, .mov (.t 10)⟩, ⟨(some 4), none, .mov (.c (.p none))⟩, ⟨(some 5), none, .mov (.t 65)⟩]) (
   .ret)) (
   .skip))) (
  .seq (.reg [⟨(some 66), none, .mov (.t 7)⟩, ⟨(some 4), none, .mov (.t 66)⟩, ⟨(some 5), none, .mov (.c (.i .i64 0))⟩]) (
  .ret))))))))))),
 [.tmp 4, .tmp 5]⟩
/- lodestar/disk.New -/
noncomputable def a54 : F := ⟨4,
  .seq (.reg [⟨(some 0), none, .mov (.c (.p none))⟩]) (
  .seq (.reg [⟨(some 1), none, .mkM⟩, ⟨(some 2), none, .build [(.m none), (.sl none 0 0), (.i .i64 0), (.sl none 0 0)] [(0, 1, (.t 1))]⟩, ⟨(some 3), none, .box (.t 2) 238⟩, ⟨(some 0), none, .mov (.t 3)⟩]) (
  .ret)),
 [.tmp 0]⟩
/- internal/strconv.Itoa -/
noncomputable def a55 : F := ⟨5,
  .seq (.reg [⟨(some 2), none, .mov (.c (.s []))⟩]) (
  .seq (.reg [⟨(some 3), none, .mov (.t 0)⟩, ⟨(some 4), none, .call (.v (.c (.fn (.func 123) [] []))) [(.t 3), (.c (.i .i64 10))]⟩, ⟨(some 2), none, .mov (.t 4)⟩]) (
  .ret)),
 [.tmp 2]⟩
/- strings.CutPrefix -/
noncomputable def a56 : F := ⟨11,
  .seq (.reg [⟨(some 4), none, .mov (.c (.s []))⟩, ⟨(some 5), none, .mov (.c (.b false))⟩]) (
  .seq (.reg [⟨(some 6), none, .mov (.t 0)⟩, ⟨(some 7), none, .mov (.t 1)⟩, ⟨(some 8), none, .call (.v (.c (.fn (.func 124) [] []))) [(.t 6), (.t 7)]⟩, ⟨(some 9), none, .ext (.t 8) 0⟩, ⟨(some 10), none, .ext (.t 8) 1⟩, ⟨(some 4), none, .mov (.t 9)⟩, ⟨(some 5), none, .mov (.t 10)⟩]) (
  .ret)),
 [.tmp 4, .tmp 5]⟩
/- lodestar/serve.number -/
noncomputable def a57 : F := ⟨28,
  .seq (.reg [⟨(some 2), none, .mov (.c (.i .i64 0))⟩, ⟨(some 3), none, .mov (.c (.b false))⟩]) (
  .seq (.reg [⟨(some 7), none, .mov (.t 0)⟩, ⟨(some 8), none, .call (.v (.c (.fn (.func 125) [] []))) [(.t 7)]⟩, ⟨(some 6), none, .mov (.t 8)⟩, ⟨(some 9), none, .ext (.t 6) 0⟩, ⟨(some 10), none, .ext (.t 6) 1⟩, ⟨(some 4), none, .mov (.t 9)⟩, ⟨(some 5), none, .mov (.t 10)⟩]) (
  .seq (.reg [⟨(some 11), none, .mov (.t 4)⟩, ⟨(some 12), none, .mov (.t 5)⟩, ⟨(some 13), none, .bin .eql (.iface true pl) true (.t 12) (.c .ni)⟩, ⟨(some 14), none, .mov (.t 13)⟩, ⟨(some 15), (some (14, true)), .mov (.t 4)⟩, ⟨(some 16), (some (14, true)), .bin .geq .int false (.t 15) (.c (.i .i64 1))⟩, ⟨(some 17), none, .pick (.t 14) (.t 16) (.c (.b false))⟩, ⟨(some 18), none, .mov (.t 17)⟩, ⟨(some 19), (some (18, true)), .mov (.t 4)⟩, ⟨(some 20), (some (18, true)), .bin .leq .int false (.t 19) (.c (.i .i64 4503599627370496))⟩, ⟨(some 21), none, .pick (.t 18) (.t 20) (.c (.b false))⟩, ⟨(some 22), none, .mov (.t 21)⟩, ⟨(some 23), (some (22, true)), .mov (.t 4)⟩, ⟨(some 24), (some (22, true)), .call (.v (.c (.fn (.func 23) [] []))) [(.t 23)]⟩, ⟨(some 25), (some (22, true)), .mov (.t 0)⟩, ⟨(some 26), (some (22, true)), .bin .eql .str false (.t 24) (.t 25)⟩, ⟨(some 27), none, .pick (.t 22) (.t 26) (.c (.b false))⟩, ⟨(some 2), none, .mov (.t 11)⟩, ⟨(some 3), none, .mov (.t 27)⟩]) (
  .ret))),
 [.tmp 2, .tmp 3]⟩
/- (*lodestar/json.reader).value -/
noncomputable def a58 : F := ⟨72,
  .seq (.reg [⟨(some 4), none, .new [(.i .i64 0), (.i .i64 0), (.s []), (.sl none 0 0), (.sl none 0 0)] 53⟩]) (
  .seq (.reg [⟨(some 6), none, .mov (.t 0)⟩, ⟨(some 7), none, .call (.v (.c (.fn (.func 59) [] []))) [(.t 6)]⟩]) (
  .seq (.reg [⟨(some 8), none, .mov (.t 0)⟩, ⟨(some 9), none, .call (.v (.c (.fn (.func 126) [] []))) [(.t 8)]⟩, ⟨(some 5), none, .mov (.t 9)⟩]) (
  .seq (.seq (.reg [⟨(some 10), none, .mov (.t 0)⟩, ⟨(some 11), none, .nilc (.t 10)⟩, ⟨(some 12), none, .fa 2 (.t 11)⟩, ⟨(some 13), none, .load none (.t 12)⟩, ⟨(some 14), none, .bin .neq .int false (.t 13) (.c (.i .i64 0))⟩]) (
  .cond (.t 14) (
   .seq (.reg [⟨(some 15), none, .build [(.i .i64 0), (.i .i64 0), (.s []), (.sl none 0 0), (.sl none 0 0)] []⟩, ⟨none, none, .store 5 (.t 4) (.t 15)⟩]) (
   .ret)) (
   .skip))) (
  .seq (.seq (.reg [⟨(some 16), none, .mov (.t 5)⟩, ⟨(some 17), none, .call (.v (.c (.fn (.func 127) [] []))) [(.c (.s [123, 91, 34, 45, 48, 49, 50, 51, 52, 53, 54, 55, 56, 57, 116, 102, 110])), (.t 16)]⟩, ⟨(some 18), none, .bin .lss .int false (.t 17) (.c (.i .i64 0))⟩, ⟨(some 19), none, .mov (.t 18)⟩, ⟨(some 20), (some (19, false)), .mov (.t 5)⟩, ⟨(some 21), (some (19, false)), .bin .eql .int false (.t 20) (.c (.i .u8 0))⟩, ⟨(some 22), none, .pick (.t 19) (.c (.b true)) (.t 21)⟩]) (
  .cond (.t 22) (
   .seq (.reg [⟨(some 23), none, .mov (.t 0)⟩, ⟨(some 24), none, .mov (.t 0)⟩, ⟨(some 25), none, .nilc (.t 24)⟩, ⟨(some 26), none, .fa 1 (.t 25)⟩, ⟨(some 27), none, .load none (.t 26)⟩, ⟨(some 28), none, .call (.v (.c (.fn (.func 60) [] []))) [(.t 23), (.c (.i .i64 30)), (.t 27)]⟩]) (
   .seq (.reg [⟨(some 29), none, .build [(.i .i64 0), (.i .i64 0), (.s []), (.sl none 0 0), (.sl none 0 0)] []⟩, ⟨none, none, .store 5 (.t 4) (.t 29)⟩]) (
   .ret))) (
   .skip))) (
  .seq (.seq (.reg [⟨(some 30), none, .mov (.t 1)⟩, ⟨(some 31), none, .bin .gtr .int false (.t 30) (.c (.i .i64 32))⟩]) (
  .cond (.t 31) (
   .seq (.reg [⟨(some 32), none, .mov (.t 0)⟩, ⟨(some 33), none, .mov (.t 0)⟩, ⟨(some 34), none, .nilc (.t 33)⟩, ⟨(some 35), none, .fa 1 (.t 34)⟩, ⟨(some 36), none, .load none (.t 35)⟩, ⟨(some 37), none, .call (.v (.c (.fn (.func 60) [] []))) [(.t 32), (.c (.i .i64 31)), (.t 36)]⟩]) (
   .seq (.reg [⟨(some 38), none, .build [(.i .i64 0), (.i .i64 0), (.s []), (.sl none 0 0), (.sl none 0 0)] []⟩, ⟨none, none, .store 5 (.t 4) (.t 38)⟩]) (
   .ret))) (
   .skip))) (
  .seq (.seq (.reg [⟨(some 39), none, .mov (.t 5)⟩]) (
  .block 0 (.seq (.reg [⟨(some 41), none, .bin .eql .int false (.t 39) (.c (.i .u8 123))⟩, ⟨(some 40), none, .mov (.t 41)⟩]) (
   .cond (.t 40) (
    .seq (.reg [⟨(some 42), none, .mov (.t 0)⟩, ⟨(some 43), none, .mov (.t 1)⟩, ⟨(some 44), none, .call (.v (.c (.fn (.func 128) [] []))) [(.t 42), (.t 43)]⟩, ⟨none, none, .store 5 (.t 4) (.t 44)⟩]) (
    .ret)) (
    .seq (.reg [⟨(some 46), none, .bin .eql .int false (.t 39) (.c (.i .u8 91))⟩, ⟨(some 45), none, .mov (.t 46)⟩]) (
    .cond (.t 45) (
     .seq (.reg [⟨(some 47), none, .mov (.t 0)⟩, ⟨(some 48), none, .mov (.t 1)⟩, ⟨(some 49), none, .call (.v (.c (.fn (.func 129) [] []))) [(.t 47), (.t 48)]⟩, ⟨none, none, .store 5 (.t 4) (.t 49)⟩]) (
     .ret)) (
     .seq (.reg [⟨(some 51), none, .bin .eql .int false (.t 39) (.c (.i .u8 34))⟩, ⟨(some 50), none, .mov (.t 51)⟩]) (
     .cond (.t 50) (
      .seq (.reg [⟨(some 52), none, .mov (.t 0)⟩, ⟨(some 53), none, .call (.v (.c (.fn (.func 130) [] []))) [(.t 52)]⟩, ⟨(some 54), none, .build [(.i .i64 0), (.i .i64 0), (.s []), (.sl none 0 0), (.sl none 0 0)] [(0, 1, (.c (.i .i64 4))), (2, 1, (.t 53))]⟩, ⟨none, none, .store 5 (.t 4) (.t 54)⟩]) (
      .ret)) (
      .seq (.reg [⟨(some 56), none, .bin .eql .int false (.t 39) (.c (.i .u8 116))⟩, ⟨(some 55), none, .mov (.t 56)⟩]) (
      .cond (.t 55) (
       .seq (.reg [⟨(some 57), none, .mov (.t 0)⟩, ⟨(some 58), none, .call (.v (.c (.fn (.func 131) [] []))) [(.t 57), (.c (.s [116, 114, 117, 101]))]⟩]) (
       .seq (.reg [⟨(some 59), none, .build [(.i .i64 0), (.i .i64 0), (.s []), (.sl none 0 0), (.sl none 0 0)] [(0, 1, (.c (.i .i64 2))), (1, 1, (.c (.i .i64 1)))]⟩, ⟨none, none, .store 5 (.t 4) (.t 59)⟩]) (
       .ret))) (
       .seq (.reg [⟨(some 61), none, .bin .eql .int false (.t 39) (.c (.i .u8 102))⟩, ⟨(some 60), none, .mov (.t 61)⟩]) (
       .cond (.t 60) (
        .seq (.reg [⟨(some 62), none, .mov (.t 0)⟩, ⟨(some 63), none, .call (.v (.c (.fn (.func 131) [] []))) [(.t 62), (.c (.s [102, 97, 108, 115, 101]))]⟩]) (
        .seq (.reg [⟨(some 64), none, .build [(.i .i64 0), (.i .i64 0), (.s []), (.sl none 0 0), (.sl none 0 0)] [(0, 1, (.c (.i .i64 2)))]⟩, ⟨none, none, .store 5 (.t 4) (.t 64)⟩]) (
        .ret))) (
        .seq (.reg [⟨(some 66), none, .bin .eql .int false (.t 39) (.c (.i .u8 110))⟩, ⟨(some 65), none, .mov (.t 66)⟩]) (
        .cond (.t 65) (
         .seq (.reg [⟨(some 67), none, .mov (.t 0)⟩, ⟨(some 68), none, .call (.v (.c (.fn (.func 131) [] []))) [(.t 67), (.c (.s [110, 117, 108, 108]))]⟩]) (
         .seq (.reg [⟨(some 69), none, .build [(.i .i64 0), (.i .i64 0), (.s []), (.sl none 0 0), (.sl none 0 0)] [(0, 1, (.c (.i .i64 1)))]⟩, ⟨none, none, .store 5 (.t 4) (.t 69)⟩]) (
         .ret))) (
         .skip))))))))))))))) (
  .seq (.reg [⟨(some 70), none, .mov (.t 0)⟩, ⟨(some 71), none, .call (.v (.c (.fn (.func 132) [] []))) [(.t 70)]⟩, ⟨none, none, .store 5 (.t 4) (.t 71)⟩]) (
  .ret)))))))),
 [.cell 4 (some 5)]⟩
/- (*lodestar/json.reader).blanks -/
noncomputable def a59 : F := ⟨32,
  .block 0 (.loop (
    .seq (.seq (.dreg [[.fl ⟨(some 2), none, .mov (.t 0)⟩ 0, .fl ⟨(some 3), none, .nilc (.t 2)⟩ 0, .fl ⟨(some 4), none, .fa 1 (.t 3)⟩ 0, .fl ⟨(some 5), none, .load none (.t 4)⟩ 0, .fl ⟨(some 6), none, .mov (.t 0)⟩ 0, .fl ⟨(some 7), none, .nilc (.t 6)⟩ 0, .fl ⟨(some 8), none, .fa 0 (.t 7)⟩ 0, .fl ⟨(some 9), none, .load none (.t 8)⟩ 0, .fl ⟨(some 10), none, .call (.b .lenS) [(.t 9)]⟩ 0, .fl ⟨(some 11), none, .bin .lss .int false (.t 5) (.t 10)⟩ 0, .fl ⟨(some 12), none, .mov (.t 11)⟩ 0, .fl ⟨(some 13), (some (12, true)), .mov (.t 0)⟩ 0, .fl ⟨(some 14), (some (12, true)), .nilc (.t 13)⟩ 0, .fl ⟨(some 15), (some (12, true)), .fa 0 (.t 14)⟩ 0, .fl ⟨(some 16), (some (12, true)), .load none (.t 15)⟩ 0, .fl ⟨(some 17), (some (12, true)), .mov (.t 0)⟩ 0, .fl ⟨(some 18), (some (12, true)), .nilc (.t 17)⟩ 0, .fl ⟨(some 19), (some (12, true)), .fa 1 (.t 18)⟩ 0, .fl ⟨(some 20), (some (12, true)), .load none (.t 19)⟩ 0, .fl ⟨(some 21), (some (12, true)), .ixS (.t 16) (.t 20)⟩ 0, .an ⟨(some 22), (some (12, true)), .call (.v (.c (.fn (.func 127) [] []))) [(.c (.s [32, 9, 13, 10])), (.t 21)]⟩ [], .fl ⟨(some 23), (some (12, true)), .bin .geq .int false (.t 22) (.c (.i .i64 0))⟩ 0, .fl ⟨(some 24), none, .pick (.t 12) (.t 23) (.c (.b false))⟩ 0]] 0) (
    .cond (.t 24) (
     .skip) (
     .exit 0))) (
    .block 1 (.reg [⟨(some 25), none, .mov (.t 0)⟩, ⟨(some 26), none, .nilc (.t 25)⟩, ⟨(some 27), none, .fa 1 (.t 26)⟩, ⟨(some 28), none, .load none (.t 27)⟩, ⟨(some 29), none, .bin .add .int false (.t 28) (.c (.i .i64 1))⟩, ⟨(some 30), none, .nilc (.t 25)⟩, ⟨(some 31), none, .fa 1 (.t 30)⟩, ⟨none, none, .store 1 (.t 31) (.t 29)⟩])))),
 []⟩
/- slices.Contains[[]string,string] -/
noncomputable def a61 : F := ⟨9,
  .seq (.reg [⟨(some 4), none, .mov (.c (.b false))⟩]) (
  .seq (.reg [⟨(some 5), none, .mov (.t 0)⟩, ⟨(some 6), none, .mov (.t 1)⟩, ⟨(some 7), none, .call (.v (.c (.fn (.func 133) [] []))) [(.t 5), (.t 6)]⟩, ⟨(some 8), none, .bin .geq .int false (.t 7) (.c (.i .i64 0))⟩, ⟨(some 4), none, .mov (.t 8)⟩]) (
  .ret)),
 [.tmp 4]⟩
/- lodestar/serve.point -/
noncomputable def a62 : F := ⟨116,
  .seq (.reg [⟨(some 1), none, .box (.t 0) 53⟩, ⟨(some 2), none, .new [(.i .i64 0), (.sl none 0 0), (.sl none 0 0)] 45⟩, ⟨(some 3), none, .mov (.c (.b false))⟩]) (
  .seq (.reg [⟨(some 21), none, .load (some 5) (.t 1)⟩, ⟨(some 22), none, .buildS [(.s [])] 3 [(0, 1, (.c (.s [105, 100]))), (1, 1, (.c (.s [118, 101, 99, 116, 111, 114, 115]))), (2, 1, (.c (.s [102, 105, 101, 108, 100, 115])))] 9⟩, ⟨(some 23), none, .call (.v (.c (.fn (.func 26) [] []))) [(.t 21), (.t 22)]⟩, ⟨(some 20), none, .mov (.t 23)⟩, ⟨(some 24), none, .ext (.t 20) 0⟩, ⟨(some 25), none, .ext (.t 20) 1⟩, ⟨(some 4), none, .mov (.t 24)⟩, ⟨(some 5), none, .mov (.t 25)⟩]) (
  .seq (.seq (.reg [⟨(some 26), none, .mov (.t 5)⟩, ⟨(some 27), none, .un .not (.t 26)⟩, ⟨(some 28), none, .mov (.t 27)⟩, ⟨(some 29), (some (28, false)), .mov (.t 4)⟩, ⟨(some 30), (some (28, false)), .lkp .str (.agg [(.i .i64 0), (.i .i64 0), (.s []), (.sl none 0 0), (.sl none 0 0)]) false (.t 29) (.c (.s [105, 100]))⟩, ⟨(some 31), (some (28, false)), .fld 0 none (.t 30)⟩, ⟨(some 32), (some (28, false)), .bin .neq .int false (.t 31) (.c (.i .i64 3))⟩, ⟨(some 33), none, .pick (.t 28) (.c (.b true)) (.t 32)⟩]) (
  .cond (.t 33) (
   .seq (.reg [⟨(some 34), none, .build [(.i .i64 0), (.sl none 0 0), (.sl none 0 0)] []⟩, ⟨none, none, .store 3 (.t 2) (.t 34)⟩, ⟨(some 3), none, .mov (.c (.b false))⟩]) (
   .ret)) (
   .skip))) (
  .seq (.reg [⟨(some 35), none, .mov (.t 4)⟩, ⟨(some 36), none, .lkp .str (.agg [(.i .i64 0), (.i .i64 0), (.s []), (.sl none 0 0), (.sl none 0 0)]) false (.t 35) (.c (.s [105, 100]))⟩, ⟨(some 37), none, .fld 1 none (.t 36)⟩, ⟨(some 38), none, .build [(.i .i64 0), (.sl none 0 0), (.sl none 0 0)] [(0, 1, (.t 37))]⟩, ⟨(some 6), none, .new [(.i .i64 0), (.sl none 0 0), (.sl none 0 0)] 45⟩, ⟨none, none, .store 3 (.t 6) (.t 38)⟩]) (
  .seq (.reg [⟨(some 40), none, .mov (.t 4)⟩, ⟨(some 41), none, .lkp .str (.agg [(.i .i64 0), (.i .i64 0), (.s []), (.sl none 0 0), (.sl none 0 0)]) false (.t 40) (.c (.s [118, 101, 99, 116, 111, 114, 115]))⟩, ⟨(some 42), none, .call (.v (.c (.fn (.func 26) [] []))) [(.t 41), (.c (.sl none 0 0))]⟩, ⟨(some 39), none, .mov (.t 42)⟩, ⟨(some 43), none, .ext (.t 39) 0⟩, ⟨(some 44), none, .ext (.t 39) 1⟩, ⟨(some 7), none, .mov (.t 43)⟩, ⟨(some 5), none, .mov (.t 44)⟩]) (
  .seq (.seq (.reg [⟨(some 45), none, .mov (.t 7)⟩, ⟨(some 46), none, .rngM (.t 45)⟩]) (
  .block 0 (.loop (
    .seq (.reg [⟨(some 47), none, .nxtM (.t 46)⟩, ⟨(some 48), none, .ext (.t 47) 0⟩]) (
    .seq (.cond (.t 48) (
     .skip) (
     .exit 0)) (
    .block 1 (.seq (.reg [⟨(some 49), none, .ent (.t 46)⟩, ⟨(some 50), none, .ext (.t 49) 0⟩, ⟨(some 51), none, .ext (.t 49) 1⟩, ⟨(some 9), none, .new [(.i .i64 0), (.i .i64 0), (.s []), (.sl none 0 0), (.sl none 0 0)] 53⟩, ⟨(some 8), none, .mov (.t 50)⟩, ⟨none, none, .store 5 (.t 9) (.t 51)⟩]) (
     .seq (.reg [⟨(some 53), none, .load (some 5) (.t 9)⟩, ⟨(some 54), none, .call (.v (.c (.fn (.func 134) [] []))) [(.t 53)]⟩, ⟨(some 52), none, .mov (.t 54)⟩, ⟨(some 55), none, .ext (.t 52) 0⟩, ⟨(some 56), none, .ext (.t 52) 1⟩, ⟨(some 10), none, .mov (.t 55)⟩, ⟨(some 11), none, .mov (.t 56)⟩]) (
     .seq (.reg [⟨(some 57), none, .mov (.t 5)⟩, ⟨(some 58), none, .mov (.t 57)⟩, ⟨(some 59), (some (58, true)), .mov (.t 11)⟩, ⟨(some 60), none, .pick (.t 58) (.t 59) (.c (.b false))⟩, ⟨(some 5), none, .mov (.t 60)⟩]) (
     .reg [⟨(some 61), none, .fa 1 (.t 6)⟩, ⟨(some 62), none, .load none (.t 61)⟩, ⟨(some 63), none, .mov (.t 8)⟩, ⟨(some 64), none, .mov (.t 10)⟩, ⟨(some 65), none, .build [(.s []), (.sl none 0 0)] [(0, 1, (.t 63)), (1, 1, (.t 64))]⟩, ⟨(some 66), none, .buildS [(.s []), (.sl none 0 0)] 1 [(0, 2, (.t 65))] 115⟩, ⟨(some 67), none, .call (.b (.append 2 40 115)) [(.t 62), (.t 66)]⟩, ⟨(some 68), none, .fa 1 (.t 6)⟩, ⟨none, none, .store 1 (.t 68) (.t 67)⟩])))))))))) (
  .seq (.seq (.reg [⟨(some 70), none, .mov (.t 4)⟩, ⟨(some 71), none, .lkp .str (.agg [(.i .i64 0), (.i .i64 0), (.s []), (.sl none 0 0), (.sl none 0 0)]) true (.t 70) (.c (.s [102, 105, 101, 108, 100, 115]))⟩, ⟨(some 69), none, .mov (.t 71)⟩, ⟨(some 72), none, .ext (.t 69) 0⟩, ⟨(some 73), none, .ext (.t 69) 1⟩, ⟨(some 12), none, .new [(.i .i64 0), (.i .i64 0), (.s []), (.sl none 0 0), (.sl none 0 0)] 53⟩, ⟨none, none, .store 5 (.t 12) (.t 72)⟩, ⟨(some 13), none, .mov (.t 73)⟩]) (
  .seq (.reg [⟨(some 74), none, .mov (.t 13)⟩]) (
  .cond (.t 74) (
   .seq (.reg [⟨(some 76), none, .load (some 5) (.t 12)⟩, ⟨(some 77), none, .call (.v (.c (.fn (.func 26) [] []))) [(.t 76), (.c (.sl none 0 0))]⟩, ⟨(some 75), none, .mov (.t 77)⟩, ⟨(some 78), none, .ext (.t 75) 0⟩, ⟨(some 79), none, .ext (.t 75) 1⟩, ⟨(some 14), none, .mov (.t 78)⟩, ⟨(some 15), none, .mov (.t 79)⟩]) (
   .seq (.reg [⟨(some 80), none, .mov (.t 5)⟩, ⟨(some 81), none, .mov (.t 80)⟩, ⟨(some 82), (some (81, true)), .mov (.t 15)⟩, ⟨(some 83), none, .pick (.t 81) (.t 82) (.c (.b false))⟩, ⟨(some 5), none, .mov (.t 83)⟩]) (
   .seq (.reg [⟨(some 84), none, .mov (.t 14)⟩, ⟨(some 85), none, .rngM (.t 84)⟩]) (
   .block 2 (.loop (
     .seq (.reg [⟨(some 86), none, .nxtM (.t 85)⟩, ⟨(some 87), none, .ext (.t 86) 0⟩]) (
     .seq (.cond (.t 87) (
      .skip) (
      .exit 2)) (
     .block 3 (.seq (.reg [⟨(some 88), none, .ent (.t 85)⟩, ⟨(some 89), none, .ext (.t 88) 0⟩, ⟨(some 90), none, .ext (.t 88) 1⟩, ⟨(some 17), none, .new [(.i .i64 0), (.i .i64 0), (.s []), (.sl none 0 0), (.sl none 0 0)] 53⟩, ⟨(some 16), none, .mov (.t 89)⟩, ⟨none, none, .store 5 (.t 17) (.t 90)⟩]) (
      .seq (.reg [⟨(some 92), none, .load (some 5) (.t 17)⟩, ⟨(some 93), none, .call (.v (.c (.fn (.func 135) [] []))) [(.t 92)]⟩, ⟨(some 91), none, .mov (.t 93)⟩, ⟨(some 94), none, .ext (.t 91) 0⟩, ⟨(some 95), none, .ext (.t 91) 1⟩, ⟨(some 18), none, .new [(.i .i64 0), (.i .i64 0), (.s [])] 78⟩, ⟨none, none, .store 3 (.t 18) (.t 94)⟩, ⟨(some 19), none, .mov (.t 95)⟩]) (
      .seq (.reg [⟨(some 96), none, .mov (.t 5)⟩, ⟨(some 97), none, .mov (.t 96)⟩, ⟨(some 98), (some (97, true)), .mov (.t 19)⟩, ⟨(some 99), none, .pick (.t 97) (.t 98) (.c (.b false))⟩, ⟨(some 5), none, .mov (.t 99)⟩]) (
      .reg [⟨(some 100), none, .fa 2 (.t 6)⟩, ⟨(some 101), none, .load none (.t 100)⟩, ⟨(some 102), none, .mov (.t 16)⟩, ⟨(some 103), none, .load (some 3) (.t 18)⟩, ⟨(some 104), none, .build [(.s []), (.i .i64 0), (.i .i64 0), (.s [])] [(0, 1, (.t 102)), (1, 3, (.t 103))]⟩, ⟨(some 105), none, .buildS [(.s []), (.i .i64 0), (.i .i64 0), (.s [])] 1 [(0, 4, (.t 104))] 117⟩, ⟨(some 106), none, .call (.b (.append 4 48 117)) [(.t 101), (.t 105)]⟩, ⟨(some 107), none, .fa 2 (.t 6)⟩, ⟨none, none, .store 1 (.t 107) (.t 106)⟩])))))))))))) (
   .skip)))) (
  .seq (.reg [⟨(some 108), none, .fa 1 (.t 6)⟩, ⟨(some 109), none, .load none (.t 108)⟩, ⟨(some 110), none, .call (.v (.c (.fn (.func 136) [] []))) [(.t 109), (.c (.fn (.func 137) [] []))]⟩]) (
  .seq (.reg [⟨(some 111), none, .fa 2 (.t 6)⟩, ⟨(some 112), none, .load none (.t 111)⟩, ⟨(some 113), none, .call (.v (.c (.fn (.func 139) [] []))) [(.t 112), (.c (.fn (.func 140) [] []))]⟩]) (
  .seq (.reg [⟨(some 114), none, .load (some 3) (.t 6)⟩, ⟨(some 115), none, .mov (.t 5)⟩, ⟨none, none, .store 3 (.t 2) (.t 114)⟩, ⟨(some 3), none, .mov (.t 115)⟩]) (
  .ret)))))))))),
 [.cell 2 (some 3), .tmp 3]⟩
/- lodestar/json.Check -/
noncomputable def a63 : F := ⟨11,
  .seq (.reg [⟨(some 1), none, .box (.t 0) 53⟩, ⟨(some 2), none, .mov (.c (.i .i64 0))⟩]) (
  .seq (.block 0 (.seq (.reg [⟨(some 4), none, .load (some 5) (.t 1)⟩, ⟨(some 5), none, .call (.v (.c (.fn (.func 141) [] []))) [(.t 4)]⟩, ⟨(some 6), none, .un .not (.t 5)⟩, ⟨(some 3), none, .mov (.t 6)⟩]) (
   .cond (.t 3) (
    .seq (.reg [⟨(some 2), none, .mov (.c (.i .i64 30))⟩]) (
    .ret)) (
    .seq (.reg [⟨(some 8), none, .load (some 5) (.t 1)⟩, ⟨(some 9), none, .call (.v (.c (.fn (.func 142) [] []))) [(.t 8)]⟩, ⟨(some 10), none, .bin .gtr .int false (.t 9) (.c (.i .i64 32))⟩, ⟨(some 7), none, .mov (.t 10)⟩]) (
    .cond (.t 7) (
     .seq (.reg [⟨(some 2), none, .mov (.c (.i .i64 31))⟩]) (
     .ret)) (
     .skip)))))) (
  .seq (.reg [⟨(some 2), none, .mov (.c (.i .i64 0))⟩]) (
  .ret))),
 [.tmp 2]⟩
/- lodestar/payload.Check -/
noncomputable def a64 : F := ⟨51,
  .seq (.reg [⟨(some 2), none, .box (.t 0) 30⟩, ⟨(some 3), none, .box (.t 1) 45⟩, ⟨(some 4), none, .mov (.c (.i .i64 0))⟩]) (
  .seq (.seq (.reg [⟨(some 9), none, .load (some 2) (.t 2)⟩, ⟨(some 10), none, .call (.v (.c (.fn (.func 119) [] []))) [(.t 9)]⟩, ⟨(some 11), none, .bin .neq .int false (.t 10) (.c (.i .i64 0))⟩]) (
  .cond (.t 11) (
   .seq (.reg [⟨(some 4), none, .mov (.c (.i .i64 50))⟩]) (
   .ret)) (
   .skip))) (
  .seq (.seq (.reg [⟨(some 12), none, .load (some 3) (.t 3)⟩, ⟨(some 13), none, .call (.v (.c (.fn (.func 143) [] []))) [(.t 12)]⟩, ⟨(some 14), none, .un .not (.t 13)⟩]) (
  .cond (.t 14) (
   .seq (.reg [⟨(some 4), none, .mov (.c (.i .i64 120))⟩]) (
   .ret)) (
   .skip))) (
  .seq (.seq (.reg [⟨(some 15), none, .fa 1 (.t 3)⟩, ⟨(some 16), none, .load none (.t 15)⟩, ⟨(some 17), none, .call (.b .lenV) [(.t 16)]⟩, ⟨(some 18), none, .mov (.c (.i .i64 0))⟩]) (
  .block 0 (.loop (
    .seq (.reg [⟨(some 19), none, .bin .lss .int false (.t 18) (.t 17)⟩]) (
    .seq (.cond (.t 19) (
     .skip) (
     .exit 0)) (
    .seq (.block 1 (.seq (.reg [⟨(some 20), none, .iaV 2 (.t 16) (.t 18)⟩, ⟨(some 21), none, .load (some 2) (.t 20)⟩, ⟨(some 6), none, .new [(.s []), (.sl none 0 0)] 115⟩, ⟨none, none, .store 2 (.t 6) (.t 21)⟩]) (
     .seq (.reg [⟨(some 22), none, .load (some 2) (.t 2)⟩, ⟨(some 23), none, .load (some 2) (.t 6)⟩, ⟨(some 24), none, .call (.v (.c (.fn (.func 144) [] []))) [(.t 22), (.t 23)]⟩, ⟨(some 25), none, .un .not (.t 24)⟩]) (
     .cond (.t 25) (
      .seq (.reg [⟨(some 4), none, .mov (.c (.i .i64 60))⟩]) (
      .ret)) (
      .skip))))) (
    .reg [⟨(some 26), none, .bin .add .int false (.t 18) (.c (.i .i64 1))⟩, ⟨(some 18), none, .mov (.t 26)⟩]))))))) (
  .seq (.seq (.reg [⟨(some 27), none, .fa 2 (.t 3)⟩, ⟨(some 28), none, .load none (.t 27)⟩, ⟨(some 29), none, .call (.b .lenV) [(.t 28)]⟩, ⟨(some 30), none, .mov (.c (.i .i64 0))⟩]) (
  .block 2 (.loop (
    .seq (.reg [⟨(some 31), none, .bin .lss .int false (.t 30) (.t 29)⟩]) (
    .seq (.cond (.t 31) (
     .skip) (
     .exit 2)) (
    .seq (.block 3 (.seq (.reg [⟨(some 32), none, .iaV 4 (.t 28) (.t 30)⟩, ⟨(some 33), none, .load (some 4) (.t 32)⟩, ⟨(some 8), none, .new [(.s []), (.i .i64 0), (.i .i64 0), (.s [])] 117⟩, ⟨none, none, .store 4 (.t 8) (.t 33)⟩]) (
     .seq (.reg [⟨(some 34), none, .fa 1 (.t 2)⟩, ⟨(some 35), none, .load none (.t 34)⟩, ⟨(some 36), none, .fa 0 (.t 8)⟩, ⟨(some 37), none, .load none (.t 36)⟩, ⟨(some 38), none, .fa 1 (.t 8)⟩, ⟨(some 39), none, .fa 0 (.t 38)⟩, ⟨(some 40), none, .load none (.t 39)⟩, ⟨(some 41), none, .build [(.s []), (.i .i64 0)] [(0, 1, (.t 37)), (1, 1, (.t 40))]⟩, ⟨(some 42), none, .call (.v (.c (.fn (.func 145) [] []))) [(.t 35), (.t 41)]⟩, ⟨(some 43), none, .un .not (.t 42)⟩, ⟨(some 44), none, .mov (.t 43)⟩, ⟨(some 45), (some (44, false)), .fa 1 (.t 8)⟩, ⟨(some 46), (some (44, false)), .load (some 3) (.t 45)⟩, ⟨(some 47), (some (44, false)), .call (.v (.c (.fn (.func 146) [] []))) [(.t 46)]⟩, ⟨(some 48), (some (44, false)), .un .not (.t 47)⟩, ⟨(some 49), none, .pick (.t 44) (.c (.b true)) (.t 48)⟩]) (
     .cond (.t 49) (
      .seq (.reg [⟨(some 4), none, .mov (.c (.i .i64 51))⟩]) (
      .ret)) (
      .skip))))) (
    .reg [⟨(some 50), none, .bin .add .int false (.t 30) (.c (.i .i64 1))⟩, ⟨(some 30), none, .mov (.t 50)⟩]))))))) (
  .seq (.reg [⟨(some 4), none, .mov (.c (.i .i64 0))⟩]) (
  .ret)))))),
 [.tmp 4]⟩
/- lodestar/store.copied -/
noncomputable def a85 : F := ⟨32,
  .seq (.reg [⟨(some 1), none, .box (.t 0) 45⟩, ⟨(some 2), none, .new [(.i .i64 0), (.sl none 0 0), (.sl none 0 0)] 45⟩]) (
  .seq (.dreg [[.fl ⟨(some 6), none, .fa 0 (.t 1)⟩ 1, .fl ⟨(some 7), none, .load none (.t 6)⟩ 1, .fl ⟨(some 8), none, .fa 2 (.t 1)⟩ 1, .fl ⟨(some 9), none, .load none (.t 8)⟩ 1, .fl ⟨(some 3), none, .new [(.i .i64 0), (.sl none 0 0), (.sl none 0 0)] 45⟩ 0, .an ⟨(some 10), none, .call (.b (.append 4 48 117)) [(.c (.sl none 0 0)), (.t 9)]⟩ [⟨(some 7), none, .load none (.t 6)⟩], .fl ⟨(some 11), none, .build [(.i .i64 0), (.sl none 0 0), (.sl none 0 0)] [(0, 1, (.t 7)), (2, 1, (.t 10))]⟩ 1, .an ⟨none, none, .store 3 (.t 3) (.t 11)⟩ []]] 1) (
  .seq (.seq (.reg [⟨(some 12), none, .fa 1 (.t 1)⟩, ⟨(some 13), none, .load none (.t 12)⟩, ⟨(some 14), none, .call (.b .lenV) [(.t 13)]⟩, ⟨(some 15), none, .mov (.c (.i .i64 0))⟩]) (
  .block 0 (.loop (
    .seq (.reg [⟨(some 16), none, .bin .lss .int false (.t 15) (.t 14)⟩]) (
    .seq (.cond (.t 16) (
     .skip) (
     .exit 0)) (
    .seq (.block 1 (.seq (.reg [⟨(some 17), none, .iaV 2 (.t 13) (.t 15)⟩, ⟨(some 18), none, .load (some 2) (.t 17)⟩, ⟨(some 5), none, .new [(.s []), (.sl none 0 0)] 115⟩, ⟨none, none, .store 2 (.t 5) (.t 18)⟩]) (
     .dreg [[.fl ⟨(some 19), none, .fa 1 (.t 3)⟩ 1, .fl ⟨(some 20), none, .load none (.t 19)⟩ 1, .fl ⟨(some 21), none, .fa 0 (.t 5)⟩ 1, .fl ⟨(some 22), none, .load none (.t 21)⟩ 1, .fl ⟨(some 23), none, .fa 1 (.t 5)⟩ 1, .fl ⟨(some 24), none, .load none (.t 23)⟩ 1, .an ⟨(some 25), none, .call (.b (.append 1 8 3)) [(.c (.sl none 0 0)), (.t 24)]⟩ [⟨(some 20), none, .load none (.t 19)⟩, ⟨(some 22), none, .load none (.t 21)⟩], .fl ⟨(some 26), none, .build [(.s []), (.sl none 0 0)] [(0, 1, (.t 22)), (1, 1, (.t 25))]⟩ 1, .fl ⟨(some 27), none, .buildS [(.s []), (.sl none 0 0)] 1 [(0, 2, (.t 26))] 115⟩ 0, .an ⟨(some 28), none, .call (.b (.append 2 40 115)) [(.t 20), (.t 27)]⟩ [], .fl ⟨(some 29), none, .fa 1 (.t 3)⟩ 1, .an ⟨none, none, .store 1 (.t 29) (.t 28)⟩ []]] 1))) (
    .reg [⟨(some 30), none, .bin .add .int false (.t 15) (.c (.i .i64 1))⟩, ⟨(some 15), none, .mov (.t 30)⟩]))))))) (
  .seq (.reg [⟨(some 31), none, .load (some 3) (.t 3)⟩, ⟨none, none, .store 3 (.t 2) (.t 31)⟩]) (
  .ret)))),
 [.cell 2 (some 3)]⟩
/- lodestar/json.printed -/
noncomputable def a86 : F := ⟨76,
  .seq (.reg [⟨(some 3), none, .box (.t 1) 53⟩]) (
  .seq (.reg [⟨(some 7), none, .fa 0 (.t 3)⟩, ⟨(some 8), none, .load none (.t 7)⟩]) (
  .block 0 (.seq (.reg [⟨(some 10), none, .bin .eql .int false (.t 8) (.c (.i .i64 1))⟩, ⟨(some 9), none, .mov (.t 10)⟩]) (
   .cond (.t 9) (
    .reg [⟨(some 11), none, .mov (.t 0)⟩, ⟨(some 12), none, .call (.v (.c (.fn (.func 173) [] []))) [(.t 11), (.c (.s [110, 117, 108, 108]))]⟩]) (
    .seq (.reg [⟨(some 14), none, .bin .eql .int false (.t 8) (.c (.i .i64 2))⟩, ⟨(some 13), none, .mov (.t 14)⟩]) (
    .cond (.t 13) (
     .reg [⟨(some 15), none, .mov (.t 0)⟩, ⟨(some 16), none, .fa 1 (.t 3)⟩, ⟨(some 17), none, .load none (.t 16)⟩, ⟨(some 18), none, .bin .eql .int false (.t 17) (.c (.i .i64 1))⟩, ⟨(some 19), none, .call (.v (.c (.fn (.func 174) [] []))) [(.t 18)]⟩, ⟨(some 20), none, .call (.v (.c (.fn (.func 173) [] []))) [(.t 15), (.t 19)]⟩]) (
     .seq (.reg [⟨(some 22), none, .bin .eql .int false (.t 8) (.c (.i .i64 3))⟩, ⟨(some 21), none, .mov (.t 22)⟩]) (
     .cond (.t 21) (
      .reg [⟨(some 23), none, .mov (.t 0)⟩, ⟨(some 24), none, .fa 1 (.t 3)⟩, ⟨(some 25), none, .load none (.t 24)⟩, ⟨(some 26), none, .call (.v (.c (.fn (.func 23) [] []))) [(.t 25)]⟩, ⟨(some 27), none, .call (.v (.c (.fn (.func 173) [] []))) [(.t 23), (.t 26)]⟩]) (
      .seq (.reg [⟨(some 29), none, .bin .eql .int false (.t 8) (.c (.i .i64 4))⟩, ⟨(some 28), none, .mov (.t 29)⟩]) (
      .cond (.t 28) (
       .reg [⟨(some 30), none, .mov (.t 0)⟩, ⟨(some 31), none, .fa 2 (.t 3)⟩, ⟨(some 32), none, .load none (.t 31)⟩, ⟨(some 33), none, .call (.v (.c (.fn (.func 175) [] []))) [(.t 30), (.t 32)]⟩]) (
       .seq (.seq (.reg [⟨(some 35), none, .bin .eql .int false (.t 8) (.c (.i .i64 5))⟩, ⟨(some 34), none, .mov (.t 35)⟩]) (
       .cond (.t 34) (
        .skip) (
        .reg [⟨(some 36), none, .bin .eql .int false (.t 8) (.c (.i .i64 6))⟩, ⟨(some 34), none, .mov (.t 36)⟩]))) (
       .cond (.t 34) (
        .seq (.reg [⟨(some 4), none, .mov (.c (.s [91, 93]))⟩]) (
        .seq (.seq (.reg [⟨(some 37), none, .fa 0 (.t 3)⟩, ⟨(some 38), none, .load none (.t 37)⟩, ⟨(some 39), none, .bin .eql .int false (.t 38) (.c (.i .i64 6))⟩]) (
        .cond (.t 39) (
         .reg [⟨(some 4), none, .mov (.c (.s [123, 125]))⟩]) (
         .skip))) (
        .seq (.reg [⟨(some 40), none, .mov (.t 0)⟩, ⟨(some 41), none, .mov (.t 4)⟩, ⟨(some 42), none, .ixS (.t 41) (.c (.i .i64 0))⟩, ⟨(some 43), none, .call (.v (.c (.fn (.func 176) [] []))) [(.t 40), (.t 42)]⟩]) (
        .seq (.seq (.reg [⟨(some 44), none, .fa 4 (.t 3)⟩, ⟨(some 45), none, .load none (.t 44)⟩, ⟨(some 46), none, .call (.b .lenV) [(.t 45)]⟩, ⟨(some 47), none, .mov (.c (.i .i64 0))⟩]) (
        .block 1 (.loop (
          .seq (.reg [⟨(some 48), none, .bin .lss .int false (.t 47) (.t 46)⟩]) (
          .seq (.cond (.t 48) (
           .skip) (
           .exit 1)) (
          .seq (.block 2 (.seq (.reg [⟨(some 49), none, .mov (.t 47)⟩, ⟨(some 50), none, .iaV 5 (.t 45) (.t 47)⟩, ⟨(some 51), none, .load (some 5) (.t 50)⟩, ⟨(some 6), none, .new [(.i .i64 0), (.i .i64 0), (.s []), (.sl none 0 0), (.sl none 0 0)] 53⟩, ⟨(some 5), none, .mov (.t 49)⟩, ⟨none, none, .store 5 (.t 6) (.t 51)⟩]) (
           .seq (.seq (.reg [⟨(some 52), none, .mov (.t 5)⟩, ⟨(some 53), none, .bin .gtr .int false (.t 52) (.c (.i .i64 0))⟩]) (
           .cond (.t 53) (
            .reg [⟨(some 54), none, .mov (.t 0)⟩, ⟨(some 55), none, .call (.v (.c (.fn (.func 176) [] []))) [(.t 54), (.c (.i .u8 44))]⟩]) (
            .skip))) (
           .seq (.seq (.reg [⟨(some 56), none, .fa 0 (.t 3)⟩, ⟨(some 57), none, .load none (.t 56)⟩, ⟨(some 58), none, .bin .eql .int false (.t 57) (.c (.i .i64 6))⟩]) (
           .cond (.t 58) (
            .seq (.reg [⟨(some 59), none, .mov (.t 0)⟩, ⟨(some 60), none, .fa 3 (.t 3)⟩, ⟨(some 61), none, .load none (.t 60)⟩, ⟨(some 62), none, .mov (.t 5)⟩, ⟨(some 63), none, .iaV 1 (.t 61) (.t 62)⟩, ⟨(some 64), none, .load none (.t 63)⟩, ⟨(some 65), none, .call (.v (.c (.fn (.func 175) [] []))) [(.t 59), (.t 64)]⟩]) (
            .reg [⟨(some 66), none, .mov (.t 0)⟩, ⟨(some 67), none, .call (.v (.c (.fn (.func 176) [] []))) [(.t 66), (.c (.i .u8 58))]⟩])) (
            .skip))) (
           .reg [⟨(some 68), none, .mov (.t 0)⟩, ⟨(some 69), none, .load (some 5) (.t 6)⟩, ⟨(some 70), none, .call (.v (.c (.fn (.func 86) [] []))) [(.t 68), (.t 69)]⟩]))))) (
          .reg [⟨(some 71), none, .bin .add .int false (.t 47) (.c (.i .i64 1))⟩, ⟨(some 47), none, .mov (.t 71)⟩]))))))) (
        .reg [⟨(some 72), none, .mov (.t 0)⟩, ⟨(some 73), none, .mov (.t 4)⟩, ⟨(some 74), none, .ixS (.t 73) (.c (.i .i64 1))⟩, ⟨(some 75), none, .call (.v (.c (.fn (.func 176) [] []))) [(.t 72), (.t 74)]⟩]))))) (
        .skip))))))))))))),
 []⟩
/- (*strings.Builder).String -/
noncomputable def a87 : F := ⟨14,
  .seq (.reg [⟨(some 2), none, .mov (.c (.s []))⟩]) (
  .seq (.dreg [[.fl ⟨(some 3), none, .mov (.t 0)⟩ 0, .fl ⟨(some 4), none, .nilc (.t 3)⟩ 0, .fl ⟨(some 5), none, .fa 1 (.t 4)⟩ 0, .fl ⟨(some 6), none, .load none (.t 5)⟩ 0, .fl ⟨(some 7), none, .call (.b .usSliceData) [(.t 6)]⟩ 0, .fl ⟨(some 8), none, .mov (.t 0)⟩ 0, .fl ⟨(some 9), none, .nilc (.t 8)⟩ 0, .fl ⟨(some 10), none, .fa 1 (.t 9)⟩ 0, .fl ⟨(some 11), none, .load none (.t 10)⟩ 0, .fl ⟨(some 12), none, .call (.b .lenV) [(.t 11)]⟩ 0, .an ⟨(some 13), none, .call (.b (.usString 5)) [(.t 7), (.t 12)]⟩ [], .an ⟨(some 2), none, .mov (.t 13)⟩ []]] 0) (
  .ret)),
 [.tmp 2]⟩
/- (*lodestar/wal.Log).Append -/
noncomputable def a88 : F := ⟨69,
  .seq (.reg [⟨(some 3), none, .box (.t 1) 122⟩, ⟨(some 4), none, .mov (.c (.i .i64 0))⟩]) (
  .seq (.seq (.reg [⟨(some 7), none, .mov (.t 0)⟩, ⟨(some 8), none, .bin .eql .ptr true (.t 7) (.c (.p none))⟩]) (
  .cond (.t 8) (
   .seq (.reg [⟨(some 4), none, .mov (.c (.i .i64 1))⟩]) (
   .ret)) (
   .skip))) (
  .seq (.seq (.reg [⟨(some 9), none, .mov (.t 0)⟩, ⟨(some 10), none, .nilc (.t 9)⟩, ⟨(some 11), none, .fa 4 (.t 10)⟩, ⟨(some 12), none, .load none (.t 11)⟩]) (
  .cond (.t 12) (
   .seq (.reg [⟨(some 4), none, .mov (.c (.i .i64 122))⟩]) (
   .ret)) (
   .skip))) (
  .seq (.reg [⟨(some 14), none, .load (some 2) (.t 3)⟩, ⟨(some 15), none, .call (.v (.c (.fn (.func 177) [] []))) [(.t 14)]⟩, ⟨(some 13), none, .mov (.t 15)⟩, ⟨(some 16), none, .ext (.t 13) 0⟩, ⟨(some 17), none, .ext (.t 13) 1⟩, ⟨(some 5), none, .mov (.t 16)⟩, ⟨(some 6), none, .mov (.t 17)⟩]) (
  .seq (.seq (.reg [⟨(some 18), none, .mov (.t 6)⟩, ⟨(some 19), none, .bin .neq .int false (.t 18) (.c (.i .i64 0))⟩]) (
  .cond (.t 19) (
   .seq (.reg [⟨(some 20), none, .mov (.t 6)⟩, ⟨(some 4), none, .mov (.t 20)⟩]) (
   .ret)) (
   .skip))) (
  .seq (.seq (.dreg [[.fl ⟨(some 21), none, .mov (.t 0)⟩ 0, .fl ⟨(some 22), none, .nilc (.t 21)⟩ 0, .fl ⟨(some 23), none, .fa 3 (.t 22)⟩ 0, .fl ⟨(some 24), none, .load none (.t 23)⟩ 0, .fl ⟨(some 25), none, .bin .gtr .int false (.t 24) (.c (.i .i64 0))⟩ 0, .fl ⟨(some 26), none, .mov (.t 25)⟩ 0, .fl ⟨(some 27), (some (26, true)), .fa 0 (.t 3)⟩ 0, .fl ⟨(some 28), (some (26, true)), .load none (.t 27)⟩ 0, .fl ⟨(some 29), (some (26, true)), .mov (.t 0)⟩ 0, .fl ⟨(some 30), (some (26, true)), .nilc (.t 29)⟩ 0, .fl ⟨(some 31), (some (26, true)), .fa 3 (.t 30)⟩ 0, .fl ⟨(some 32), (some (26, true)), .load none (.t 31)⟩ 0, .fl ⟨(some 33), (some (26, true)), .bin .add .int false (.t 32) (.c (.i .i64 1))⟩ 0, .fl ⟨(some 34), (some (26, true)), .bin .neq .int false (.t 28) (.t 33)⟩ 0, .fl ⟨(some 35), none, .pick (.t 26) (.t 34) (.c (.b false))⟩ 0]] 0) (
  .cond (.t 35) (
   .seq (.reg [⟨(some 4), none, .mov (.c (.i .i64 1))⟩]) (
   .ret)) (
   .skip))) (
  .seq (.dreg [[.fl ⟨(some 37), none, .mov (.t 0)⟩ 0, .fl ⟨(some 38), none, .nilc (.t 37)⟩ 0, .fl ⟨(some 39), none, .fa 0 (.t 38)⟩ 0, .fl ⟨(some 40), none, .load none (.t 39)⟩ 0, .fl ⟨(some 41), none, .mov (.t 0)⟩ 0, .fl ⟨(some 42), none, .nilc (.t 41)⟩ 0, .fl ⟨(some 43), none, .fa 1 (.t 42)⟩ 0, .fl ⟨(some 44), none, .load none (.t 43)⟩ 0, .fl ⟨(some 45), none, .mov (.t 5)⟩ 0, .an ⟨(some 46), none, .call (.v (.c (.fn (.func 106) [] []))) [(.t 40), (.t 44), (.t 45)]⟩ [], .fl ⟨(some 36), none, .mov (.t 46)⟩ 0, .fl ⟨(some 47), none, .ext (.t 36) 0⟩ 0, .fl ⟨(some 48), none, .ext (.t 36) 1⟩ 0, .an ⟨(some 6), none, .mov (.t 48)⟩ []]] 0) (
  .seq (.seq (.reg [⟨(some 49), none, .mov (.t 0)⟩, ⟨(some 50), none, .mov (.t 6)⟩, ⟨(some 51), none, .call (.v (.c (.fn (.func 178) [] []))) [(.t 49), (.t 50)]⟩, ⟨(some 6), none, .mov (.t 51)⟩]) (
  .seq (.reg [⟨(some 52), none, .mov (.t 6)⟩, ⟨(some 53), none, .bin .neq .int false (.t 52) (.c (.i .i64 0))⟩]) (
  .cond (.t 53) (
   .seq (.reg [⟨(some 54), none, .mov (.t 6)⟩, ⟨(some 4), none, .mov (.t 54)⟩]) (
   .ret)) (
   .skip)))) (
  .seq (.reg [⟨(some 55), none, .mov (.t 0)⟩, ⟨(some 56), none, .nilc (.t 55)⟩, ⟨(some 57), none, .fa 2 (.t 56)⟩, ⟨(some 58), none, .load none (.t 57)⟩, ⟨(some 59), none, .mov (.t 5)⟩, ⟨(some 60), none, .call (.b .lenS) [(.t 59)]⟩, ⟨(some 61), none, .bin .add .int false (.t 58) (.t 60)⟩, ⟨(some 62), none, .nilc (.t 55)⟩, ⟨(some 63), none, .fa 2 (.t 62)⟩, ⟨none, none, .store 1 (.t 63) (.t 61)⟩]) (
  .seq (.reg [⟨(some 64), none, .mov (.t 0)⟩, ⟨(some 65), none, .fa 0 (.t 3)⟩, ⟨(some 66), none, .load none (.t 65)⟩, ⟨(some 67), none, .nilc (.t 64)⟩, ⟨(some 68), none, .fa 3 (.t 67)⟩, ⟨none, none, .store 1 (.t 68) (.t 66)⟩]) (
  .seq (.reg [⟨(some 4), none, .mov (.c (.i .i64 0))⟩]) (
  .ret))))))))))),
 [.tmp 4]⟩
/- (*lodestar/wal.Log).Sync -/
noncomputable def a89 : F := ⟨20,
  .seq (.reg [⟨(some 2), none, .mov (.c (.i .i64 0))⟩]) (
  .seq (.seq (.reg [⟨(some 3), none, .mov (.t 0)⟩, ⟨(some 4), none, .bin .eql .ptr true (.t 3) (.c (.p none))⟩]) (
  .cond (.t 4) (
   .seq (.reg [⟨(some 2), none, .mov (.c (.i .i64 1))⟩]) (
   .ret)) (
   .skip))) (
  .seq (.seq (.reg [⟨(some 5), none, .mov (.t 0)⟩, ⟨(some 6), none, .nilc (.t 5)⟩, ⟨(some 7), none, .fa 4 (.t 6)⟩, ⟨(some 8), none, .load none (.t 7)⟩]) (
  .cond (.t 8) (
   .seq (.reg [⟨(some 2), none, .mov (.c (.i .i64 122))⟩]) (
   .ret)) (
   .skip))) (
  .seq (.dreg [[.fl ⟨(some 9), none, .mov (.t 0)⟩ 0, .fl ⟨(some 10), none, .mov (.t 0)⟩ 0, .fl ⟨(some 11), none, .nilc (.t 10)⟩ 0, .fl ⟨(some 12), none, .fa 0 (.t 11)⟩ 0, .fl ⟨(some 13), none, .load none (.t 12)⟩ 0, .fl ⟨(some 14), none, .mov (.t 0)⟩ 0, .fl ⟨(some 15), none, .nilc (.t 14)⟩ 0, .fl ⟨(some 16), none, .fa 1 (.t 15)⟩ 0, .fl ⟨(some 17), none, .load none (.t 16)⟩ 0, .an ⟨(some 18), none, .call (.v (.c (.fn (.func 108) [] []))) [(.t 13), (.t 17)]⟩ [], .an ⟨(some 19), none, .call (.v (.c (.fn (.func 178) [] []))) [(.t 9), (.t 18)]⟩ [], .an ⟨(some 2), none, .mov (.t 19)⟩ []]] 0) (
  .ret)))),
 [.tmp 2]⟩
/- (*lodestar/wal.Log).Size -/
noncomputable def a90 : F := ⟨9,
  .seq (.reg [⟨(some 2), none, .mov (.c (.i .i64 0))⟩]) (
  .seq (.seq (.reg [⟨(some 3), none, .mov (.t 0)⟩, ⟨(some 4), none, .bin .eql .ptr true (.t 3) (.c (.p none))⟩]) (
  .cond (.t 4) (
   .seq (.reg [⟨(some 2), none, .mov (.c (.i .i64 0))⟩]) (
   .ret)) (
   .skip))) (
  .seq (.reg [⟨(some 5), none, .mov (.t 0)⟩, ⟨(some 6), none, .nilc (.t 5)⟩, ⟨(some 7), none, .fa 2 (.t 6)⟩, ⟨(some 8), none, .load none (.t 7)⟩, ⟨(some 2), none, .mov (.t 8)⟩]) (
  .ret))),
 [.tmp 2]⟩
/- (*lodestar/store.table).take -/
noncomputable def a91 : F := ⟨32,
  .seq (.reg [⟨(some 6), none, .mov (.t 1)⟩, ⟨(some 7), none, .call (.b .lenV) [(.t 6)]⟩, ⟨(some 8), none, .mov (.c (.i .i64 0))⟩]) (
  .block 0 (.loop (
    .seq (.reg [⟨(some 9), none, .bin .lss .int false (.t 8) (.t 7)⟩]) (
    .seq (.cond (.t 9) (
     .skip) (
     .exit 0)) (
    .seq (.block 1 (.seq (.reg [⟨(some 10), none, .iaV 5 (.t 6) (.t 8)⟩, ⟨(some 11), none, .load (some 5) (.t 10)⟩, ⟨(some 5), none, .new [(.i .i64 0), (.b false), (.i .i64 0), (.sl none 0 0), (.sl none 0 0)] 127⟩, ⟨none, none, .store 5 (.t 5) (.t 11)⟩]) (
     .seq (.reg [⟨(some 12), none, .fa 1 (.t 5)⟩, ⟨(some 13), none, .load none (.t 12)⟩]) (
     .cond (.t 13) (
      .dreg [[.fl ⟨(some 14), none, .mov (.t 0)⟩ 0, .fl ⟨(some 15), none, .nilc (.t 14)⟩ 0, .fl ⟨(some 16), none, .fa 0 (.t 15)⟩ 0, .fl ⟨(some 17), none, .load none (.t 16)⟩ 0, .fl ⟨(some 18), none, .fa 2 (.t 5)⟩ 0, .fl ⟨(some 19), none, .fa 0 (.t 18)⟩ 0, .fl ⟨(some 20), none, .load none (.t 19)⟩ 0, .an ⟨none, none, .call (.b (.delete .int)) [(.t 17), (.t 20)]⟩ []]] 0) (
      .dreg [[.fl ⟨(some 21), none, .mov (.t 0)⟩ 0, .fl ⟨(some 22), none, .nilc (.t 21)⟩ 0, .fl ⟨(some 23), none, .fa 0 (.t 22)⟩ 0, .fl ⟨(some 24), none, .load none (.t 23)⟩ 0, .fl ⟨(some 25), none, .fa 2 (.t 5)⟩ 0, .fl ⟨(some 26), none, .fa 0 (.t 25)⟩ 0, .fl ⟨(some 27), none, .load none (.t 26)⟩ 0, .fl ⟨(some 28), none, .fa 2 (.t 5)⟩ 0, .fl ⟨(some 29), none, .load (some 3) (.t 28)⟩ 0, .an ⟨(some 30), none, .call (.v (.c (.fn (.func 85) [] []))) [(.t 29)]⟩ [⟨(some 24), none, .load none (.t 23)⟩, ⟨(some 27), none, .load none (.t 26)⟩], .an ⟨none, none, .mset .int (.t 24) (.t 27) (.t 30)⟩ []]] 0))))) (
    .reg [⟨(some 31), none, .bin .add .int false (.t 8) (.c (.i .i64 1))⟩, ⟨(some 8), none, .mov (.t 31)⟩])))))),
 []⟩
/- lodestar/store.fix -/
noncomputable def a92 : F := ⟨15,
  .seq (.reg [⟨(some 4), none, .mov (.c (.s []))⟩]) (
  .seq (.reg [⟨(some 8), none, .mov (.t 0)⟩, ⟨(some 9), none, .conv (.int .u64) (.t 8)⟩, ⟨(some 10), none, .mov (.t 1)⟩, ⟨(some 11), none, .call (.v (.c (.fn (.func 179) [] []))) [(.t 9), (.t 10)]⟩, ⟨(some 7), none, .mov (.t 11)⟩, ⟨(some 12), none, .ext (.t 7) 0⟩, ⟨(some 13), none, .ext (.t 7) 1⟩, ⟨(some 5), none, .mov (.t 12)⟩, ⟨(some 6), none, .mov (.t 13)⟩]) (
  .seq (.reg [⟨(some 14), none, .mov (.t 5)⟩, ⟨(some 4), none, .mov (.t 14)⟩]) (
  .ret))),
 [.tmp 4]⟩
/- lodestar/payload.Encode -/
noncomputable def a93 : F := ⟨106,
  .seq (.reg [⟨(some 1), none, .box (.t 0) 45⟩, ⟨(some 2), none, .mov (.c (.s []))⟩, ⟨(some 3), none, .mov (.c (.i .i64 0))⟩]) (
  .seq (.seq (.reg [⟨(some 12), none, .load (some 3) (.t 1)⟩, ⟨(some 13), none, .call (.v (.c (.fn (.func 180) [] []))) [(.t 12)]⟩, ⟨(some 14), none, .un .not (.t 13)⟩]) (
  .cond (.t 14) (
   .seq (.reg [⟨(some 2), none, .mov (.c (.s []))⟩, ⟨(some 3), none, .mov (.c (.i .i64 120))⟩]) (
   .ret)) (
   .skip))) (
  .seq (.reg [⟨(some 15), none, .fa 0 (.t 1)⟩, ⟨(some 16), none, .load none (.t 15)⟩, ⟨(some 17), none, .call (.v (.c (.fn (.func 181) [] []))) [(.c (.sl none 0 0)), (.t 16), (.c (.i .i64 8))]⟩, ⟨(some 4), none, .mov (.t 17)⟩]) (
  .seq (.reg [⟨(some 18), none, .mov (.t 4)⟩, ⟨(some 19), none, .fa 1 (.t 1)⟩, ⟨(some 20), none, .load none (.t 19)⟩, ⟨(some 21), none, .call (.b .lenV) [(.t 20)]⟩, ⟨(some 22), none, .call (.v (.c (.fn (.func 181) [] []))) [(.t 18), (.t 21), (.c (.i .i64 1))]⟩, ⟨(some 4), none, .mov (.t 22)⟩]) (
  .seq (.seq (.reg [⟨(some 23), none, .fa 1 (.t 1)⟩, ⟨(some 24), none, .load none (.t 23)⟩, ⟨(some 25), none, .call (.b .lenV) [(.t 24)]⟩, ⟨(some 26), none, .mov (.c (.i .i64 0))⟩]) (
  .block 0 (.loop (
    .seq (.reg [⟨(some 27), none, .bin .lss .int false (.t 26) (.t 25)⟩]) (
    .seq (.cond (.t 27) (
     .skip) (
     .exit 0)) (
    .seq (.block 1 (.seq (.reg [⟨(some 28), none, .iaV 2 (.t 24) (.t 26)⟩, ⟨(some 29), none, .load (some 2) (.t 28)⟩, ⟨(some 6), none, .new [(.s []), (.sl none 0 0)] 115⟩, ⟨none, none, .store 2 (.t 6) (.t 29)⟩]) (
     .seq (.dreg [[.fl ⟨(some 30), none, .mov (.t 4)⟩ 0, .fl ⟨(some 31), none, .fa 0 (.t 6)⟩ 0, .fl ⟨(some 32), none, .load none (.t 31)⟩ 0, .fl ⟨(some 33), none, .call (.b .lenS) [(.t 32)]⟩ 0, .fl ⟨(some 35), none, .fa 0 (.t 6)⟩ 0, .fl ⟨(some 36), none, .load none (.t 35)⟩ 0, .an ⟨(some 34), none, .call (.v (.c (.fn (.func 181) [] []))) [(.t 30), (.t 33), (.c (.i .i64 1))]⟩ [⟨(some 36), none, .load none (.t 35)⟩], .an ⟨(some 37), none, .call (.b (.append 1 1 5)) [(.t 34), (.t 36)]⟩ [], .an ⟨(some 4), none, .mov (.t 37)⟩ []]] 0) (
     .seq (.reg [⟨(some 38), none, .mov (.t 4)⟩, ⟨(some 39), none, .fa 1 (.t 6)⟩, ⟨(some 40), none, .load none (.t 39)⟩, ⟨(some 41), none, .call (.b .lenV) [(.t 40)]⟩, ⟨(some 42), none, .call (.v (.c (.fn (.func 181) [] []))) [(.t 38), (.t 41), (.c (.i .i64 1))]⟩, ⟨(some 4), none, .mov (.t 42)⟩]) (
     .seq (.reg [⟨(some 43), none, .fa 1 (.t 6)⟩, ⟨(some 44), none, .load none (.t 43)⟩, ⟨(some 45), none, .call (.b .lenV) [(.t 44)]⟩, ⟨(some 46), none, .mov (.c (.i .i64 0))⟩]) (
     .block 2 (.loop (
       .seq (.reg [⟨(some 47), none, .bin .lss .int false (.t 46) (.t 45)⟩]) (
       .seq (.cond (.t 47) (
        .skip) (
        .exit 2)) (
       .seq (.block 3 (.seq (.reg [⟨(some 48), none, .iaV 1 (.t 44) (.t 46)⟩, ⟨(some 49), none, .load none (.t 48)⟩, ⟨(some 8), none, .mov (.t 49)⟩]) (
        .reg [⟨(some 50), none, .mov (.t 4)⟩, ⟨(some 51), none, .mov (.t 8)⟩, ⟨(some 52), none, .bin .add .int false (.t 51) (.c (.i .i64 32768))⟩, ⟨(some 53), none, .call (.v (.c (.fn (.func 181) [] []))) [(.t 50), (.t 52), (.c (.i .i64 2))]⟩, ⟨(some 4), none, .mov (.t 53)⟩]))) (
       .reg [⟨(some 54), none, .bin .add .int false (.t 46) (.c (.i .i64 1))⟩, ⟨(some 46), none, .mov (.t 54)⟩]))))))))))) (
    .reg [⟨(some 55), none, .bin .add .int false (.t 26) (.c (.i .i64 1))⟩, ⟨(some 26), none, .mov (.t 55)⟩]))))))) (
  .seq (.reg [⟨(some 56), none, .mov (.t 4)⟩, ⟨(some 57), none, .fa 2 (.t 1)⟩, ⟨(some 58), none, .load none (.t 57)⟩, ⟨(some 59), none, .call (.b .lenV) [(.t 58)]⟩, ⟨(some 60), none, .call (.v (.c (.fn (.func 181) [] []))) [(.t 56), (.t 59), (.c (.i .i64 1))]⟩, ⟨(some 4), none, .mov (.t 60)⟩]) (
  .seq (.seq (.reg [⟨(some 61), none, .fa 2 (.t 1)⟩, ⟨(some 62), none, .load none (.t 61)⟩, ⟨(some 63), none, .call (.b .lenV) [(.t 62)]⟩, ⟨(some 64), none, .mov (.c (.i .i64 0))⟩]) (
  .block 4 (.loop (
    .seq (.reg [⟨(some 65), none, .bin .lss .int false (.t 64) (.t 63)⟩]) (
    .seq (.cond (.t 65) (
     .skip) (
     .exit 4)) (
    .seq (.block 5 (.seq (.reg [⟨(some 66), none, .iaV 4 (.t 62) (.t 64)⟩, ⟨(some 67), none, .load (some 4) (.t 66)⟩, ⟨(some 10), none, .new [(.s []), (.i .i64 0), (.i .i64 0), (.s [])] 117⟩, ⟨none, none, .store 4 (.t 10) (.t 67)⟩]) (
     .seq (.dreg [[.fl ⟨(some 68), none, .mov (.t 4)⟩ 0, .fl ⟨(some 69), none, .fa 0 (.t 10)⟩ 0, .fl ⟨(some 70), none, .load none (.t 69)⟩ 0, .fl ⟨(some 71), none, .call (.b .lenS) [(.t 70)]⟩ 0, .fl ⟨(some 73), none, .fa 0 (.t 10)⟩ 0, .fl ⟨(some 74), none, .load none (.t 73)⟩ 0, .an ⟨(some 72), none, .call (.v (.c (.fn (.func 181) [] []))) [(.t 68), (.t 71), (.c (.i .i64 1))]⟩ [⟨(some 74), none, .load none (.t 73)⟩], .an ⟨(some 75), none, .call (.b (.append 1 1 5)) [(.t 72), (.t 74)]⟩ [], .an ⟨(some 4), none, .mov (.t 75)⟩ []]] 0) (
     .seq (.reg [⟨(some 76), none, .mov (.t 4)⟩, ⟨(some 77), none, .fa 1 (.t 10)⟩, ⟨(some 78), none, .fa 0 (.t 77)⟩, ⟨(some 79), none, .load none (.t 78)⟩, ⟨(some 80), none, .call (.v (.c (.fn (.func 181) [] []))) [(.t 76), (.t 79), (.c (.i .i64 1))]⟩, ⟨(some 4), none, .mov (.t 80)⟩]) (
     .seq (.reg [⟨(some 81), none, .fa 1 (.t 10)⟩, ⟨(some 82), none, .fa 1 (.t 81)⟩, ⟨(some 83), none, .load none (.t 82)⟩, ⟨(some 11), none, .mov (.t 83)⟩]) (
     .seq (.seq (.reg [⟨(some 84), none, .fa 1 (.t 10)⟩, ⟨(some 85), none, .fa 0 (.t 84)⟩, ⟨(some 86), none, .load none (.t 85)⟩, ⟨(some 87), none, .bin .eql .int false (.t 86) (.c (.i .i64 2))⟩]) (
     .cond (.t 87) (
      .reg [⟨(some 88), none, .fa 1 (.t 10)⟩, ⟨(some 89), none, .fa 2 (.t 88)⟩, ⟨(some 90), none, .load none (.t 89)⟩, ⟨(some 91), none, .call (.b .lenS) [(.t 90)]⟩, ⟨(some 11), none, .mov (.t 91)⟩]) (
      .skip))) (
     .dreg [[.fl ⟨(some 92), none, .mov (.t 4)⟩ 0, .fl ⟨(some 93), none, .mov (.t 11)⟩ 0, .fl ⟨(some 94), none, .fa 1 (.t 10)⟩ 0, .fl ⟨(some 95), none, .fa 0 (.t 94)⟩ 0, .fl ⟨(some 96), none, .load none (.t 95)⟩ 0, .fl ⟨(some 99), none, .fa 1 (.t 10)⟩ 0, .fl ⟨(some 100), none, .fa 2 (.t 99)⟩ 0, .fl ⟨(some 101), none, .load none (.t 100)⟩ 0, .an ⟨(some 97), none, .call (.v (.c (.fn (.func 182) [] []))) [(.t 96)]⟩ [⟨(some 101), none, .load none (.t 100)⟩], .an ⟨(some 98), none, .call (.v (.c (.fn (.func 181) [] []))) [(.t 92), (.t 93), (.t 97)]⟩ [⟨(some 101), none, .load none (.t 100)⟩], .an ⟨(some 102), none, .call (.b (.append 1 1 5)) [(.t 98), (.t 101)]⟩ [], .an ⟨(some 4), none, .mov (.t 102)⟩ []]] 0))))))) (
    .reg [⟨(some 103), none, .bin .add .int false (.t 64) (.c (.i .i64 1))⟩, ⟨(some 64), none, .mov (.t 103)⟩]))))))) (
  .seq (.reg [⟨(some 104), none, .mov (.t 4)⟩, ⟨(some 105), none, .conv .bytesStr (.t 104)⟩, ⟨(some 2), none, .mov (.t 105)⟩, ⟨(some 3), none, .mov (.c (.i .i64 0))⟩]) (
  .ret)))))))),
 [.tmp 2, .tmp 3]⟩
/- (*lodestar/disk.Disk).SyncNames -/
noncomputable def a94 : F := ⟨14,
  .seq (.reg [⟨(some 2), none, .mov (.c (.i .i64 0))⟩]) (
  .seq (.seq (.reg [⟨(some 4), none, .mov (.t 0)⟩, ⟨(some 5), none, .bin .eql .ptr true (.t 4) (.c (.p none))⟩]) (
  .cond (.t 5) (
   .seq (.reg [⟨(some 2), none, .mov (.c (.i .i64 1))⟩]) (
   .ret)) (
   .skip))) (
  .seq (.seq (.reg [⟨(some 6), none, .mov (.t 0)⟩, ⟨(some 7), none, .call (.v (.c (.fn (.func 112) [] []))) [(.t 6)]⟩, ⟨(some 3), none, .mov (.t 7)⟩]) (
  .seq (.reg [⟨(some 8), none, .mov (.t 3)⟩, ⟨(some 9), none, .bin .neq .int false (.t 8) (.c (.i .i64 0))⟩]) (
  .cond (.t 9) (
   .seq (.reg [⟨(some 10), none, .mov (.t 3)⟩, ⟨(some 2), none, .mov (.t 10)⟩]) (
   .ret)) (
   .skip)))) (
  .seq (.reg [⟨(some 11), none, .mov (.t 0)⟩, ⟨(some 12), none, .nilc (.t 11)⟩, ⟨(some 13), none, .fa 1 (.t 12)⟩, ⟨none, none, .store 1 (.t 13) (.c (.sl none 0 0))⟩]) (
  .seq (.reg [⟨(some 2), none, .mov (.c (.i .i64 0))⟩]) (
  .ret))))),
 [.tmp 2]⟩
/- lodestar/wal.Open -/
noncomputable def a96 : F := ⟨77,
  .seq (.reg [⟨(some 4), none, .mov (.c (.p none))⟩, ⟨(some 5), none, .mov (.c (.sl none 0 0))⟩, ⟨(some 6), none, .mov (.c (.i .i64 0))⟩]) (
  .seq (.seq (.reg [⟨(some 16), none, .mov (.t 0)⟩, ⟨(some 17), none, .bin .eql .ptr true (.t 16) (.c (.p none))⟩]) (
  .cond (.t 17) (
   .seq (.reg [⟨(some 4), none, .mov (.c (.p none))⟩, ⟨(some 5), none, .mov (.c (.sl none 0 0))⟩, ⟨(some 6), none, .mov (.c (.i .i64 1))⟩]) (
   .ret)) (
   .skip))) (
  .seq (.reg [⟨(some 19), none, .mov (.t 0)⟩, ⟨(some 20), none, .mov (.t 1)⟩, ⟨(some 21), none, .call (.v (.c (.fn (.func 183) [] []))) [(.t 19), (.t 20)]⟩, ⟨(some 18), none, .mov (.t 21)⟩, ⟨(some 22), none, .ext (.t 18) 0⟩, ⟨(some 23), none, .ext (.t 18) 1⟩, ⟨(some 7), none, .mov (.t 22)⟩, ⟨(some 8), none, .mov (.t 23)⟩]) (
  .seq (.seq (.reg [⟨(some 24), none, .mov (.t 8)⟩, ⟨(some 25), none, .call (.v (.c (.fn (.func 184) [] []))) [(.t 24)]⟩, ⟨(some 9), none, .mov (.t 25)⟩]) (
  .seq (.reg [⟨(some 26), none, .mov (.t 9)⟩, ⟨(some 27), none, .bin .neq .int false (.t 26) (.c (.i .i64 0))⟩]) (
  .cond (.t 27) (
   .seq (.reg [⟨(some 28), none, .mov (.t 9)⟩, ⟨(some 4), none, .mov (.c (.p none))⟩, ⟨(some 5), none, .mov (.c (.sl none 0 0))⟩, ⟨(some 6), none, .mov (.t 28)⟩]) (
   .ret)) (
   .skip)))) (
  .seq (.reg [⟨(some 30), none, .mov (.t 7)⟩, ⟨(some 31), none, .call (.v (.c (.fn (.func 185) [] []))) [(.t 30)]⟩, ⟨(some 29), none, .mov (.t 31)⟩, ⟨(some 32), none, .ext (.t 29) 0⟩, ⟨(some 33), none, .ext (.t 29) 1⟩, ⟨(some 34), none, .ext (.t 29) 2⟩, ⟨(some 10), none, .mov (.t 32)⟩, ⟨(some 11), none, .mov (.t 33)⟩, ⟨(some 12), none, .mov (.t 34)⟩]) (
  .seq (.seq (.reg [⟨(some 35), none, .mov (.t 12)⟩, ⟨(some 36), none, .bin .eql .int false (.t 35) (.c (.i .i64 90))⟩]) (
  .cond (.t 36) (
   .seq (.reg [⟨(some 37), none, .mov (.t 12)⟩, ⟨(some 4), none, .mov (.c (.p none))⟩, ⟨(some 5), none, .mov (.c (.sl none 0 0))⟩, ⟨(some 6), none, .mov (.t 37)⟩]) (
   .ret)) (
   .skip))) (
  .seq (.seq (.reg [⟨(some 38), none, .mov (.t 12)⟩, ⟨(some 39), none, .bin .eql .int false (.t 38) (.c (.i .i64 91))⟩]) (
  .cond (.t 39) (
   .seq (.reg [⟨(some 40), none, .mov (.t 0)⟩, ⟨(some 41), none, .mov (.t 1)⟩, ⟨(some 42), none, .mov (.t 11)⟩, ⟨(some 43), none, .call (.v (.c (.fn (.func 95) [] []))) [(.t 40), (.t 41), (.t 42)]⟩, ⟨(some 44), none, .call (.v (.c (.fn (.func 186) [] []))) [(.t 43)]⟩, ⟨(some 45), none, .call (.v (.c (.fn (.func 184) [] []))) [(.t 44)]⟩, ⟨(some 13), none, .mov (.t 45)⟩]) (
   .seq (.reg [⟨(some 46), none, .mov (.t 13)⟩, ⟨(some 47), none, .bin .neq .int false (.t 46) (.c (.i .i64 0))⟩]) (
   .cond (.t 47) (
    .seq (.reg [⟨(some 48), none, .mov (.t 13)⟩, ⟨(some 4), none, .mov (.c (.p none))⟩, ⟨(some 5), none, .mov (.c (.sl none 0 0))⟩, ⟨(some 6), none, .mov (.t 48)⟩]) (
    .ret)) (
    .skip)))) (
   .skip))) (
  .seq (.seq (.reg [⟨(some 49), none, .mov (.t 0)⟩, ⟨(some 50), none, .mov (.t 1)⟩, ⟨(some 51), none, .call (.v (.c (.fn (.func 108) [] []))) [(.t 49), (.t 50)]⟩, ⟨(some 52), none, .call (.v (.c (.fn (.func 186) [] []))) [(.t 51)]⟩, ⟨(some 53), none, .call (.v (.c (.fn (.func 184) [] []))) [(.t 52)]⟩, ⟨(some 14), none, .mov (.t 53)⟩]) (
  .seq (.reg [⟨(some 54), none, .mov (.t 14)⟩, ⟨(some 55), none, .bin .neq .int false (.t 54) (.c (.i .i64 0))⟩]) (
  .cond (.t 55) (
   .seq (.reg [⟨(some 56), none, .mov (.t 14)⟩, ⟨(some 4), none, .mov (.c (.p none))⟩, ⟨(some 5), none, .mov (.c (.sl none 0 0))⟩, ⟨(some 6), none, .mov (.t 56)⟩]) (
   .ret)) (
   .skip)))) (
  .seq (.reg [⟨(some 57), none, .mov (.t 0)⟩, ⟨(some 58), none, .mov (.t 1)⟩, ⟨(some 59), none, .mov (.t 11)⟩, ⟨(some 60), none, .build [(.p none), (.s []), (.i .i64 0), (.i .i64 0), (.b false)] [(0, 1, (.t 57)), (1, 1, (.t 58)), (2, 1, (.t 59))]⟩, ⟨(some 61), none, .box (.t 60) 324⟩, ⟨(some 15), none, .mov (.t 61)⟩]) (
  .seq (.seq (.reg [⟨(some 62), none, .mov (.t 10)⟩, ⟨(some 63), none, .call (.b .lenV) [(.t 62)]⟩, ⟨(some 64), none, .bin .gtr .int false (.t 63) (.c (.i .i64 0))⟩]) (
  .cond (.t 64) (
   .reg [⟨(some 65), none, .mov (.t 15)⟩, ⟨(some 66), none, .mov (.t 10)⟩, ⟨(some 67), none, .mov (.t 10)⟩, ⟨(some 68), none, .call (.b .lenV) [(.t 67)]⟩, ⟨(some 69), none, .bin .sub .int false (.t 68) (.c (.i .i64 1))⟩, ⟨(some 70), none, .iaV 2 (.t 66) (.t 69)⟩, ⟨(some 71), none, .fa 0 (.t 70)⟩, ⟨(some 72), none, .load none (.t 71)⟩, ⟨(some 73), none, .nilc (.t 65)⟩, ⟨(some 74), none, .fa 3 (.t 73)⟩, ⟨none, none, .store 1 (.t 74) (.t 72)⟩]) (
   .skip))) (
  .seq (.reg [⟨(some 75), none, .mov (.t 15)⟩, ⟨(some 76), none, .mov (.t 10)⟩, ⟨(some 4), none, .mov (.t 75)⟩, ⟨(some 5), none, .mov (.t 76)⟩, ⟨(some 6), none, .mov (.c (.i .i64 0))⟩]) (
  .ret))))))))))),
 [.tmp 4, .tmp 5, .tmp 6]⟩
/- lodestar/num.Unfix -/
noncomputable def a97 : F := ⟨29,
  .seq (.reg [⟨(some 2), none, .mov (.c (.i .u64 0))⟩, ⟨(some 3), none, .mov (.c (.i .i64 0))⟩]) (
  .seq (.seq (.reg [⟨(some 6), none, .mov (.t 0)⟩, ⟨(some 7), none, .call (.b .lenS) [(.t 6)]⟩, ⟨(some 8), none, .bin .lss .int false (.t 7) (.c (.i .i64 1))⟩, ⟨(some 9), none, .mov (.t 8)⟩, ⟨(some 10), (some (9, false)), .mov (.t 0)⟩, ⟨(some 11), (some (9, false)), .call (.b .lenS) [(.t 10)]⟩, ⟨(some 12), (some (9, false)), .bin .gtr .int false (.t 11) (.c (.i .i64 8))⟩, ⟨(some 13), none, .pick (.t 9) (.c (.b true)) (.t 12)⟩]) (
  .cond (.t 13) (
   .seq (.reg [⟨(some 2), none, .mov (.c (.i .u64 0))⟩, ⟨(some 3), none, .mov (.c (.i .i64 11))⟩]) (
   .ret)) (
   .skip))) (
  .seq (.reg [⟨(some 4), none, .mov (.c (.i .u64 0))⟩]) (
  .seq (.seq (.reg [⟨(some 14), none, .mov (.t 0)⟩, ⟨(some 15), none, .call (.b .lenS) [(.t 14)]⟩, ⟨(some 16), none, .bin .sub .int false (.t 15) (.c (.i .i64 1))⟩, ⟨(some 5), none, .mov (.t 16)⟩]) (
  .block 0 (.loop (
    .seq (.seq (.reg [⟨(some 17), none, .mov (.t 5)⟩, ⟨(some 18), none, .bin .geq .int false (.t 17) (.c (.i .i64 0))⟩]) (
    .cond (.t 18) (
     .skip) (
     .exit 0))) (
    .seq (.block 1 (.reg [⟨(some 21), none, .mov (.t 4)⟩, ⟨(some 22), none, .bin .shl .int false (.t 21) (.c (.i .u64 8))⟩, ⟨(some 23), none, .mov (.t 0)⟩, ⟨(some 24), none, .mov (.t 5)⟩, ⟨(some 25), none, .ixS (.t 23) (.t 24)⟩, ⟨(some 26), none, .conv (.int .u64) (.t 25)⟩, ⟨(some 27), none, .bin .or .int false (.t 22) (.t 26)⟩, ⟨(some 4), none, .mov (.t 27)⟩])) (
    .reg [⟨(some 19), none, .mov (.t 5)⟩, ⟨(some 20), none, .bin .sub .int false (.t 19) (.c (.i .i64 1))⟩, ⟨(some 5), none, .mov (.t 20)⟩])))))) (
  .seq (.reg [⟨(some 28), none, .mov (.t 4)⟩, ⟨(some 2), none, .mov (.t 28)⟩, ⟨(some 3), none, .mov (.c (.i .i64 0))⟩]) (
  .ret))))),
 [.tmp 2, .tmp 3]⟩
/- lodestar/payload.Decode -/
noncomputable def a98 : F := ⟨140,
  .seq (.reg [⟨(some 2), none, .new [(.i .i64 0), (.sl none 0 0), (.sl none 0 0)] 45⟩, ⟨(some 3), none, .mov (.c (.i .i64 0))⟩, ⟨(some 4), none, .mov (.c (.i .i64 0))⟩]) (
  .seq (.reg [⟨(some 12), none, .mov (.t 0)⟩, ⟨(some 13), none, .build [(.s []), (.i .i64 0), (.b false)] [(0, 1, (.t 12))]⟩, ⟨(some 14), none, .box (.t 13) 338⟩, ⟨(some 5), none, .mov (.t 14)⟩]) (
  .seq (.reg [⟨(some 15), none, .mov (.t 5)⟩, ⟨(some 16), none, .call (.v (.c (.fn (.func 187) [] []))) [(.t 15), (.c (.i .i64 8))]⟩, ⟨(some 17), none, .build [(.i .i64 0), (.sl none 0 0), (.sl none 0 0)] [(0, 1, (.t 16))]⟩, ⟨(some 6), none, .new [(.i .i64 0), (.sl none 0 0), (.sl none 0 0)] 45⟩, ⟨none, none, .store 3 (.t 6) (.t 17)⟩]) (
  .seq (.seq (.reg [⟨(some 18), none, .mov (.t 5)⟩, ⟨(some 19), none, .call (.v (.c (.fn (.func 187) [] []))) [(.t 18), (.c (.i .i64 1))]⟩, ⟨(some 7), none, .mov (.t 19)⟩]) (
  .block 0 (.loop (
    .seq (.seq (.reg [⟨(some 20), none, .mov (.t 7)⟩, ⟨(some 21), none, .bin .gtr .int false (.t 20) (.c (.i .i64 0))⟩, ⟨(some 22), none, .mov (.t 21)⟩, ⟨(some 23), (some (22, true)), .mov (.t 5)⟩, ⟨(some 24), (some (22, true)), .nilc (.t 23)⟩, ⟨(some 25), (some (22, true)), .fa 2 (.t 24)⟩, ⟨(some 26), (some (22, true)), .load none (.t 25)⟩, ⟨(some 27), (some (22, true)), .un .not (.t 26)⟩, ⟨(some 28), none, .pick (.t 22) (.t 27) (.c (.b false))⟩]) (
    .cond (.t 28) (
     .skip) (
     .exit 0))) (
    .seq (.block 1 (.seq (.reg [⟨(some 31), none, .mov (.t 5)⟩, ⟨(some 32), none, .mov (.t 5)⟩, ⟨(some 33), none, .call (.v (.c (.fn (.func 187) [] []))) [(.t 32), (.c (.i .i64 1))]⟩, ⟨(some 34), none, .call (.v (.c (.fn (.func 188) [] []))) [(.t 31), (.t 33)]⟩, ⟨(some 35), none, .build [(.s []), (.sl none 0 0)] [(0, 1, (.t 34))]⟩, ⟨(some 8), none, .new [(.s []), (.sl none 0 0)] 115⟩, ⟨none, none, .store 2 (.t 8) (.t 35)⟩]) (
     .seq (.seq (.reg [⟨(some 36), none, .mov (.t 5)⟩, ⟨(some 37), none, .call (.v (.c (.fn (.func 187) [] []))) [(.t 36), (.c (.i .i64 1))]⟩, ⟨(some 9), none, .mov (.t 37)⟩]) (
     .block 2 (.loop (
       .seq (.seq (.reg [⟨(some 38), none, .mov (.t 9)⟩, ⟨(some 39), none, .bin .gtr .int false (.t 38) (.c (.i .i64 0))⟩, ⟨(some 40), none, .mov (.t 39)⟩, ⟨(some 41), (some (40, true)), .mov (.t 5)⟩, ⟨(some 42), (some (40, true)), .nilc (.t 41)⟩, ⟨(some 43), (some (40, true)), .fa 2 (.t 42)⟩, ⟨(some 44), (some (40, true)), .load none (.t 43)⟩, ⟨(some 45), (some (40, true)), .un .not (.t 44)⟩, ⟨(some 46), none, .pick (.t 40) (.t 45) (.c (.b false))⟩]) (
       .cond (.t 46) (
        .skip) (
        .exit 2))) (
       .seq (.block 3 (.dreg [[.fl ⟨(some 49), none, .fa 1 (.t 8)⟩ 1, .fl ⟨(some 50), none, .load none (.t 49)⟩ 1, .fl ⟨(some 51), none, .mov (.t 5)⟩ 1, .an ⟨(some 52), none, .call (.v (.c (.fn (.func 187) [] []))) [(.t 51), (.c (.i .i64 2))]⟩ [⟨(some 50), none, .load none (.t 49)⟩], .fl ⟨(some 53), none, .bin .sub .int false (.t 52) (.c (.i .i64 32768))⟩ 1, .fl ⟨(some 54), none, .buildS [(.i .i64 0)] 1 [(0, 1, (.t 53))] 3⟩ 0, .an ⟨(some 55), none, .call (.b (.append 1 8 3)) [(.t 50), (.t 54)]⟩ [], .fl ⟨(some 56), none, .fa 1 (.t 8)⟩ 1, .an ⟨none, none, .store 1 (.t 56) (.t 55)⟩ []]] 1)) (
       .reg [⟨(some 47), none, .mov (.t 9)⟩, ⟨(some 48), none, .bin .sub .int false (.t 47) (.c (.i .i64 1))⟩, ⟨(some 9), none, .mov (.t 48)⟩])))))) (
     .reg [⟨(some 57), none, .fa 1 (.t 6)⟩, ⟨(some 58), none, .load none (.t 57)⟩, ⟨(some 59), none, .load (some 2) (.t 8)⟩, ⟨(some 60), none, .buildS [(.s []), (.sl none 0 0)] 1 [(0, 2, (.t 59))] 115⟩, ⟨(some 61), none, .call (.b (.append 2 40 115)) [(.t 58), (.t 60)]⟩, ⟨(some 62), none, .fa 1 (.t 6)⟩, ⟨none, none, .store 1 (.t 62) (.t 61)⟩])))) (
    .reg [⟨(some 29), none, .mov (.t 7)⟩, ⟨(some 30), none, .bin .sub .int false (.t 29) (.c (.i .i64 1))⟩, ⟨(some 7), none, .mov (.t 30)⟩])))))) (
  .seq (.seq (.reg [⟨(some 63), none, .mov (.t 5)⟩, ⟨(some 64), none, .call (.v (.c (.fn (.func 187) [] []))) [(.t 63), (.c (.i .i64 1))]⟩, ⟨(some 10), none, .mov (.t 64)⟩]) (
  .block 4 (.loop (
    .seq (.seq (.reg [⟨(some 65), none, .mov (.t 10)⟩, ⟨(some 66), none, .bin .gtr .int false (.t 65) (.c (.i .i64 0))⟩, ⟨(some 67), none, .mov (.t 66)⟩, ⟨(some 68), (some (67, true)), .mov (.t 5)⟩, ⟨(some 69), (some (67, true)), .nilc (.t 68)⟩, ⟨(some 70), (some (67, true)), .fa 2 (.t 69)⟩, ⟨(some 71), (some (67, true)), .load none (.t 70)⟩, ⟨(some 72), (some (67, true)), .un .not (.t 71)⟩, ⟨(some 73), none, .pick (.t 67) (.t 72) (.c (.b false))⟩]) (
    .cond (.t 73) (
     .skip) (
     .exit 4))) (
    .seq (.block 5 (.seq (.reg [⟨(some 76), none, .mov (.t 5)⟩, ⟨(some 77), none, .mov (.t 5)⟩, ⟨(some 78), none, .call (.v (.c (.fn (.func 187) [] []))) [(.t 77), (.c (.i .i64 1))]⟩, ⟨(some 79), none, .call (.v (.c (.fn (.func 188) [] []))) [(.t 76), (.t 78)]⟩, ⟨(some 80), none, .build [(.s []), (.i .i64 0), (.i .i64 0), (.s [])] [(0, 1, (.t 79))]⟩, ⟨(some 11), none, .new [(.s []), (.i .i64 0), (.i .i64 0), (.s [])] 117⟩, ⟨none, none, .store 4 (.t 11) (.t 80)⟩]) (
     .seq (.reg [⟨(some 81), none, .mov (.t 5)⟩, ⟨(some 82), none, .call (.v (.c (.fn (.func 187) [] []))) [(.t 81), (.c (.i .i64 1))]⟩, ⟨(some 83), none, .fa 1 (.t 11)⟩, ⟨(some 84), none, .fa 0 (.t 83)⟩, ⟨none, none, .store 1 (.t 84) (.t 82)⟩]) (
     .seq (.seq (.reg [⟨(some 85), none, .fa 1 (.t 11)⟩, ⟨(some 86), none, .fa 0 (.t 85)⟩, ⟨(some 87), none, .load none (.t 86)⟩, ⟨(some 88), none, .bin .lss .int false (.t 87) (.c (.i .i64 1))⟩, ⟨(some 89), none, .mov (.t 88)⟩, ⟨(some 90), (some (89, false)), .fa 1 (.t 11)⟩, ⟨(some 91), (some (89, false)), .fa 0 (.t 90)⟩, ⟨(some 92), (some (89, false)), .load none (.t 91)⟩, ⟨(some 93), (some (89, false)), .bin .gtr .int false (.t 92) (.c (.i .i64 3))⟩, ⟨(some 94), none, .pick (.t 89) (.c (.b true)) (.t 93)⟩]) (
     .cond (.t 94) (
      .seq (.reg [⟨(some 95), none, .mov (.t 5)⟩, ⟨(some 96), none, .nilc (.t 95)⟩, ⟨(some 97), none, .fa 2 (.t 96)⟩, ⟨none, none, .store 1 (.t 97) (.c (.b true))⟩]) (
      .exit 4)) (
      .skip))) (
     .seq (.reg [⟨(some 98), none, .mov (.t 5)⟩, ⟨(some 99), none, .fa 1 (.t 11)⟩, ⟨(some 100), none, .fa 0 (.t 99)⟩, ⟨(some 101), none, .load none (.t 100)⟩, ⟨(some 102), none, .call (.v (.c (.fn (.func 182) [] []))) [(.t 101)]⟩, ⟨(some 103), none, .call (.v (.c (.fn (.func 187) [] []))) [(.t 98), (.t 102)]⟩, ⟨(some 104), none, .fa 1 (.t 11)⟩, ⟨(some 105), none, .fa 1 (.t 104)⟩, ⟨none, none, .store 1 (.t 105) (.t 103)⟩]) (
     .seq (.seq (.reg [⟨(some 106), none, .fa 1 (.t 11)⟩, ⟨(some 107), none, .fa 0 (.t 106)⟩, ⟨(some 108), none, .load none (.t 107)⟩, ⟨(some 109), none, .bin .eql .int false (.t 108) (.c (.i .i64 2))⟩]) (
     .cond (.t 109) (
      .reg [⟨(some 110), none, .mov (.t 5)⟩, ⟨(some 111), none, .fa 1 (.t 11)⟩, ⟨(some 112), none, .fa 1 (.t 111)⟩, ⟨(some 113), none, .load none (.t 112)⟩, ⟨(some 114), none, .call (.v (.c (.fn (.func 188) [] []))) [(.t 110), (.t 113)]⟩, ⟨(some 115), none, .fa 1 (.t 11)⟩, ⟨(some 116), none, .fa 2 (.t 115)⟩, ⟨none, none, .store 1 (.t 116) (.t 114)⟩, ⟨(some 117), none, .fa 1 (.t 11)⟩, ⟨(some 118), none, .fa 1 (.t 117)⟩, ⟨none, none, .store 1 (.t 118) (.c (.i .i64 0))⟩]) (
      .skip))) (
     .reg [⟨(some 119), none, .fa 2 (.t 6)⟩, ⟨(some 120), none, .load none (.t 119)⟩, ⟨(some 121), none, .load (some 4) (.t 11)⟩, ⟨(some 122), none, .buildS [(.s []), (.i .i64 0), (.i .i64 0), (.s [])] 1 [(0, 4, (.t 121))] 117⟩, ⟨(some 123), none, .call (.b (.append 4 48 117)) [(.t 120), (.t 122)]⟩, ⟨(some 124), none, .fa 2 (.t 6)⟩, ⟨none, none, .store 1 (.t 124) (.t 123)⟩]))))))) (
    .reg [⟨(some 74), none, .mov (.t 10)⟩, ⟨(some 75), none, .bin .sub .int false (.t 74) (.c (.i .i64 1))⟩, ⟨(some 10), none, .mov (.t 75)⟩])))))) (
  .seq (.seq (.reg [⟨(some 125), none, .mov (.t 5)⟩, ⟨(some 126), none, .nilc (.t 125)⟩, ⟨(some 127), none, .fa 2 (.t 126)⟩, ⟨(some 128), none, .load none (.t 127)⟩, ⟨(some 129), none, .mov (.t 128)⟩, ⟨(some 130), (some (129, false)), .load (some 3) (.t 6)⟩, ⟨(some 131), (some (129, false)), .call (.v (.c (.fn (.func 180) [] []))) [(.t 130)]⟩, ⟨(some 132), (some (129, false)), .un .not (.t 131)⟩, ⟨(some 133), none, .pick (.t 129) (.c (.b true)) (.t 132)⟩]) (
  .cond (.t 133) (
   .seq (.reg [⟨(some 134), none, .build [(.i .i64 0), (.sl none 0 0), (.sl none 0 0)] []⟩, ⟨none, none, .store 3 (.t 2) (.t 134)⟩, ⟨(some 3), none, .mov (.c (.i .i64 0))⟩, ⟨(some 4), none, .mov (.c (.i .i64 52))⟩]) (
   .ret)) (
   .skip))) (
  .seq (.dreg [[.fl ⟨(some 135), none, .load (some 3) (.t 6)⟩ 0, .fl ⟨(some 136), none, .mov (.t 5)⟩ 0, .fl ⟨(some 137), none, .nilc (.t 136)⟩ 0, .fl ⟨(some 138), none, .fa 1 (.t 137)⟩ 0, .fl ⟨(some 139), none, .load none (.t 138)⟩ 0, .an ⟨none, none, .store 3 (.t 2) (.t 135)⟩ [⟨(some 139), none, .load none (.t 138)⟩], .an ⟨(some 3), none, .mov (.t 139)⟩ [], .an ⟨(some 4), none, .mov (.c (.i .i64 0))⟩ []]] 0) (
  .ret))))))),
 [.cell 2 (some 3), .tmp 3, .tmp 4]⟩
/- (*lodestar/store.Store).away -/
noncomputable def a104 : F := ⟨14,
  .seq (.reg [⟨(some 4), none, .mov (.c (.i .i64 0))⟩]) (
  .seq (.seq (.reg [⟨(some 5), none, .mov (.t 0)⟩, ⟨(some 6), none, .mov (.t 1)⟩, ⟨(some 7), none, .call (.v (.c (.fn (.func 189) [] []))) [(.t 5), (.t 6)]⟩]) (
  .cond (.t 7) (
   .seq (.reg [⟨(some 8), none, .mov (.t 0)⟩, ⟨(some 9), none, .nilc (.t 8)⟩, ⟨(some 10), none, .fa 1 (.t 9)⟩, ⟨(some 11), none, .load none (.t 10)⟩, ⟨(some 12), none, .mov (.t 1)⟩, ⟨(some 13), none, .call (.v (.c (.fn (.func 49) [] []))) [(.t 11), (.t 12)]⟩, ⟨(some 4), none, .mov (.t 13)⟩]) (
   .ret)) (
   .skip))) (
  .seq (.reg [⟨(some 4), none, .mov (.c (.i .i64 0))⟩]) (
  .ret))),
 [.tmp 4]⟩
/- (*lodestar/disk.Disk).Write -/
noncomputable def a106 : F := ⟨73,
  .seq (.reg [⟨(some 6), none, .mov (.c (.i .i64 0))⟩, ⟨(some 7), none, .mov (.c (.i .i64 0))⟩]) (
  .seq (.seq (.reg [⟨(some 11), none, .mov (.t 0)⟩, ⟨(some 12), none, .bin .eql .ptr true (.t 11) (.c (.p none))⟩, ⟨(some 13), none, .mov (.t 12)⟩, ⟨(some 14), (some (13, false)), .mov (.t 1)⟩, ⟨(some 15), (some (13, false)), .bin .eql .str false (.t 14) (.c (.s []))⟩, ⟨(some 16), none, .pick (.t 13) (.c (.b true)) (.t 15)⟩]) (
  .cond (.t 16) (
   .seq (.reg [⟨(some 6), none, .mov (.c (.i .i64 0))⟩, ⟨(some 7), none, .mov (.c (.i .i64 1))⟩]) (
   .ret)) (
   .skip))) (
  .seq (.reg [⟨(some 18), none, .mov (.t 0)⟩, ⟨(some 19), none, .call (.v (.c (.fn (.func 190) [] []))) [(.t 18)]⟩, ⟨(some 17), none, .mov (.t 19)⟩, ⟨(some 20), none, .ext (.t 17) 0⟩, ⟨(some 21), none, .ext (.t 17) 1⟩, ⟨(some 8), none, .new [(.i .i64 0), (.i .i64 0), (.i .i64 0)] 343⟩, ⟨none, none, .store 3 (.t 8) (.t 20)⟩, ⟨(some 9), none, .mov (.t 21)⟩]) (
  .seq (.seq (.reg [⟨(some 22), none, .mov (.t 9)⟩, ⟨(some 23), none, .bin .neq .int false (.t 22) (.c (.i .i64 0))⟩]) (
  .cond (.t 23) (
   .seq (.seq (.reg [⟨(some 24), none, .fa 1 (.t 8)⟩, ⟨(some 25), none, .load none (.t 24)⟩, ⟨(some 26), none, .bin .neq .int false (.t 25) (.c (.i .i64 2))⟩]) (
   .cond (.t 26) (
    .seq (.reg [⟨(some 27), none, .mov (.t 9)⟩, ⟨(some 6), none, .mov (.c (.i .i64 0))⟩, ⟨(some 7), none, .mov (.t 27)⟩]) (
    .ret)) (
    .skip))) (
   .reg [⟨(some 28), none, .mov (.t 2)⟩, ⟨(some 29), none, .fa 2 (.t 8)⟩, ⟨(some 30), none, .load none (.t 29)⟩, ⟨(some 31), none, .mov (.t 2)⟩, ⟨(some 32), none, .call (.b .lenS) [(.t 31)]⟩, ⟨(some 33), none, .call (.b .min) [(.t 30), (.t 32)]⟩, ⟨(some 34), none, .slS (.t 28) none (some (.t 33))⟩, ⟨(some 2), none, .mov (.t 34)⟩])) (
   .skip))) (
  .seq (.reg [⟨(some 35), none, .mov (.t 0)⟩, ⟨(some 36), none, .nilc (.t 35)⟩, ⟨(some 37), none, .fa 0 (.t 36)⟩, ⟨(some 38), none, .load none (.t 37)⟩, ⟨(some 39), none, .mov (.t 1)⟩, ⟨(some 40), none, .lkp .str (.p none) false (.t 38) (.t 39)⟩, ⟨(some 10), none, .mov (.t 40)⟩]) (
  .seq (.seq (.reg [⟨(some 41), none, .mov (.t 10)⟩, ⟨(some 42), none, .bin .eql .ptr true (.t 41) (.c (.p none))⟩]) (
  .cond (.t 42) (
   .seq (.reg [⟨(some 43), none, .build [(.s []), (.i .i64 0)] []⟩, ⟨(some 44), none, .box (.t 43) 243⟩, ⟨(some 10), none, .mov (.t 44)⟩]) (
   .seq (.reg [⟨(some 45), none, .mov (.t 0)⟩, ⟨(some 46), none, .nilc (.t 45)⟩, ⟨(some 47), none, .fa 0 (.t 46)⟩, ⟨(some 48), none, .load none (.t 47)⟩, ⟨(some 49), none, .mov (.t 1)⟩, ⟨(some 50), none, .mov (.t 10)⟩, ⟨none, none, .mset .str (.t 48) (.t 49) (.t 50)⟩]) (
   .reg [⟨(some 51), none, .mov (.t 0)⟩, ⟨(some 52), none, .mov (.t 0)⟩, ⟨(some 53), none, .nilc (.t 52)⟩, ⟨(some 54), none, .fa 1 (.t 53)⟩, ⟨(some 55), none, .load none (.t 54)⟩, ⟨(some 56), none, .mov (.t 1)⟩, ⟨(some 57), none, .build [(.s []), (.s []), (.p none), (.i .i64 0)] [(1, 1, (.t 56)), (3, 1, (.c (.i .i64 0)))]⟩, ⟨(some 58), none, .buildS [(.s []), (.s []), (.p none), (.i .i64 0)] 1 [(0, 4, (.t 57))] 241⟩, ⟨(some 59), none, .call (.b (.append 4 48 241)) [(.t 55), (.t 58)]⟩, ⟨(some 60), none, .nilc (.t 51)⟩, ⟨(some 61), none, .fa 1 (.t 60)⟩, ⟨none, none, .store 1 (.t 61) (.t 59)⟩]))) (
   .skip))) (
  .seq (.reg [⟨(some 62), none, .mov (.t 10)⟩, ⟨(some 63), none, .nilc (.t 62)⟩, ⟨(some 64), none, .fa 0 (.t 63)⟩, ⟨(some 65), none, .load none (.t 64)⟩, ⟨(some 66), none, .mov (.t 2)⟩, ⟨(some 67), none, .bin .add .str false (.t 65) (.t 66)⟩, ⟨(some 68), none, .nilc (.t 62)⟩, ⟨(some 69), none, .fa 0 (.t 68)⟩, ⟨none, none, .store 1 (.t 69) (.t 67)⟩]) (
  .seq (.reg [⟨(some 70), none, .mov (.t 2)⟩, ⟨(some 71), none, .call (.b .lenS) [(.t 70)]⟩, ⟨(some 72), none, .mov (.t 9)⟩, ⟨(some 6), none, .mov (.t 71)⟩, ⟨(some 7), none, .mov (.t 72)⟩]) (
  .ret)))))))),
 [.tmp 6, .tmp 7]⟩
/- (*lodestar/disk.Disk).Sync -/
noncomputable def a108 : F := ⟨33,
  .seq (.reg [⟨(some 4), none, .mov (.c (.i .i64 0))⟩]) (
  .seq (.seq (.reg [⟨(some 8), none, .mov (.t 0)⟩, ⟨(some 9), none, .mov (.t 1)⟩, ⟨(some 10), none, .call (.v (.c (.fn (.func 111) [] []))) [(.t 8), (.t 9)]⟩, ⟨(some 5), none, .mov (.t 10)⟩]) (
  .seq (.reg [⟨(some 11), none, .mov (.t 5)⟩, ⟨(some 12), none, .bin .neq .int false (.t 11) (.c (.i .i64 0))⟩]) (
  .cond (.t 12) (
   .seq (.reg [⟨(some 13), none, .mov (.t 5)⟩, ⟨(some 4), none, .mov (.t 13)⟩]) (
   .ret)) (
   .skip)))) (
  .seq (.seq (.reg [⟨(some 14), none, .mov (.t 0)⟩, ⟨(some 15), none, .call (.v (.c (.fn (.func 112) [] []))) [(.t 14)]⟩, ⟨(some 6), none, .mov (.t 15)⟩]) (
  .seq (.reg [⟨(some 16), none, .mov (.t 6)⟩, ⟨(some 17), none, .bin .neq .int false (.t 16) (.c (.i .i64 0))⟩]) (
  .cond (.t 17) (
   .seq (.reg [⟨(some 18), none, .mov (.t 6)⟩, ⟨(some 4), none, .mov (.t 18)⟩]) (
   .ret)) (
   .skip)))) (
  .seq (.reg [⟨(some 19), none, .mov (.t 0)⟩, ⟨(some 20), none, .nilc (.t 19)⟩, ⟨(some 21), none, .fa 0 (.t 20)⟩, ⟨(some 22), none, .load none (.t 21)⟩, ⟨(some 23), none, .mov (.t 1)⟩, ⟨(some 24), none, .lkp .str (.p none) false (.t 22) (.t 23)⟩, ⟨(some 7), none, .mov (.t 24)⟩]) (
  .seq (.reg [⟨(some 25), none, .mov (.t 7)⟩, ⟨(some 26), none, .mov (.t 7)⟩, ⟨(some 27), none, .nilc (.t 26)⟩, ⟨(some 28), none, .fa 0 (.t 27)⟩, ⟨(some 29), none, .load none (.t 28)⟩, ⟨(some 30), none, .call (.b .lenS) [(.t 29)]⟩, ⟨(some 31), none, .nilc (.t 25)⟩, ⟨(some 32), none, .fa 1 (.t 31)⟩, ⟨none, none, .store 1 (.t 32) (.t 30)⟩]) (
  .seq (.reg [⟨(some 4), none, .mov (.c (.i .i64 0))⟩]) (
  .ret)))))),
 [.tmp 4]⟩
/- lodestar/manifest.Store -/
noncomputable def a109 : F := ⟨47,
  .seq (.reg [⟨(some 2), none, .box (.t 0) 103⟩, ⟨(some 3), none, .box (.t 1) 105⟩, ⟨(some 4), none, .mov (.c (.i .i64 0))⟩]) (
  .seq (.seq (.reg [⟨(some 7), none, .load none (.t 2)⟩, ⟨(some 8), none, .bin .eql .ptr true (.t 7) (.c (.p none))⟩]) (
  .cond (.t 8) (
   .seq (.reg [⟨(some 4), none, .mov (.c (.i .i64 1))⟩]) (
   .ret)) (
   .skip))) (
  .seq (.reg [⟨(some 10), none, .load (some 4) (.t 3)⟩, ⟨(some 11), none, .call (.v (.c (.fn (.func 191) [] []))) [(.t 10)]⟩, ⟨(some 9), none, .mov (.t 11)⟩, ⟨(some 12), none, .ext (.t 9) 0⟩, ⟨(some 13), none, .ext (.t 9) 1⟩, ⟨(some 5), none, .mov (.t 12)⟩, ⟨(some 4), none, .mov (.t 13)⟩]) (
  .seq (.seq (.reg [⟨(some 14), none, .mov (.t 4)⟩, ⟨(some 15), none, .bin .neq .int false (.t 14) (.c (.i .i64 0))⟩]) (
  .cond (.t 15) (
   .seq (.reg [⟨(some 16), none, .mov (.t 4)⟩, ⟨(some 4), none, .mov (.t 16)⟩]) (
   .ret)) (
   .skip))) (
  .seq (.seq (.reg [⟨(some 17), none, .load none (.t 2)⟩, ⟨(some 18), none, .call (.v (.c (.fn (.func 192) [] []))) [(.t 17)]⟩, ⟨(some 19), none, .call (.v (.c (.fn (.func 61) [] []))) [(.t 18), (.c (.s [116, 109, 112]))]⟩]) (
  .cond (.t 19) (
   .seq (.reg [⟨(some 20), none, .load none (.t 2)⟩, ⟨(some 21), none, .call (.v (.c (.fn (.func 49) [] []))) [(.t 20), (.c (.s [116, 109, 112]))]⟩, ⟨(some 4), none, .mov (.t 21)⟩]) (
   .seq (.reg [⟨(some 22), none, .mov (.t 4)⟩, ⟨(some 23), none, .bin .neq .int false (.t 22) (.c (.i .i64 0))⟩]) (
   .cond (.t 23) (
    .seq (.reg [⟨(some 24), none, .mov (.t 4)⟩, ⟨(some 4), none, .mov (.t 24)⟩]) (
    .ret)) (
    .skip)))) (
   .skip))) (
  .seq (.reg [⟨(some 6), none, .new [(.b false)] 4⟩, ⟨none, none, .store 1 (.t 6) (.c (.b false))⟩]) (
  .seq (.reg [⟨(some 25), none, .mkF (.func 193) [] [(.t 6), (.t 2)]⟩, ⟨none, none, .dfr (.t 25) []⟩]) (
  .seq (.seq (.reg [⟨(some 27), none, .load none (.t 2)⟩, ⟨(some 28), none, .mov (.t 5)⟩, ⟨(some 29), none, .call (.v (.c (.fn (.func 106) [] []))) [(.t 27), (.c (.s [116, 109, 112])), (.t 28)]⟩, ⟨(some 26), none, .mov (.t 29)⟩, ⟨(some 30), none, .ext (.t 26) 0⟩, ⟨(some 31), none, .ext (.t 26) 1⟩, ⟨(some 4), none, .mov (.t 31)⟩]) (
  .seq (.reg [⟨(some 32), none, .mov (.t 4)⟩, ⟨(some 33), none, .bin .neq .int false (.t 32) (.c (.i .i64 0))⟩]) (
  .cond (.t 33) (
   .seq (.reg [⟨(some 34), none, .mov (.t 4)⟩, ⟨(some 4), none, .mov (.t 34)⟩]) (
   .ret)) (
   .skip)))) (
  .seq (.seq (.reg [⟨(some 35), none, .load none (.t 2)⟩, ⟨(some 36), none, .call (.v (.c (.fn (.func 108) [] []))) [(.t 35), (.c (.s [116, 109, 112]))]⟩, ⟨(some 4), none, .mov (.t 36)⟩]) (
  .seq (.reg [⟨(some 37), none, .mov (.t 4)⟩, ⟨(some 38), none, .bin .neq .int false (.t 37) (.c (.i .i64 0))⟩]) (
  .cond (.t 38) (
   .seq (.reg [⟨(some 39), none, .mov (.t 4)⟩, ⟨(some 4), none, .mov (.t 39)⟩]) (
   .ret)) (
   .skip)))) (
  .seq (.seq (.reg [⟨(some 40), none, .load none (.t 2)⟩, ⟨(some 41), none, .call (.v (.c (.fn (.func 194) [] []))) [(.t 40), (.c (.s [116, 109, 112])), (.c (.s [109, 97, 110, 105, 102, 101, 115, 116]))]⟩, ⟨(some 4), none, .mov (.t 41)⟩]) (
  .seq (.reg [⟨(some 42), none, .mov (.t 4)⟩, ⟨(some 43), none, .bin .neq .int false (.t 42) (.c (.i .i64 0))⟩]) (
  .cond (.t 43) (
   .seq (.reg [⟨(some 44), none, .mov (.t 4)⟩, ⟨(some 4), none, .mov (.t 44)⟩]) (
   .ret)) (
   .skip)))) (
  .seq (.reg [⟨none, none, .store 1 (.t 6) (.c (.b true))⟩]) (
  .seq (.reg [⟨(some 45), none, .load none (.t 2)⟩, ⟨(some 46), none, .call (.v (.c (.fn (.func 94) [] []))) [(.t 45)]⟩, ⟨(some 4), none, .mov (.t 46)⟩]) (
  .ret)))))))))))),
 [.tmp 4]⟩
/- lodestar/manifest.Load -/
noncomputable def a110 : F := ⟨33,
  .seq (.reg [⟨(some 2), none, .new [(.sl none 0 0), (.s []), (.i .i64 0), (.i .i64 0)] 105⟩, ⟨(some 3), none, .mov (.c (.b false))⟩, ⟨(some 4), none, .mov (.c (.i .i64 0))⟩]) (
  .seq (.seq (.reg [⟨(some 8), none, .mov (.t 0)⟩, ⟨(some 9), none, .bin .eql .ptr true (.t 8) (.c (.p none))⟩]) (
  .cond (.t 9) (
   .seq (.reg [⟨(some 10), none, .build [(.sl none 0 0), (.s []), (.i .i64 0), (.i .i64 0)] []⟩, ⟨none, none, .store 4 (.t 2) (.t 10)⟩, ⟨(some 3), none, .mov (.c (.b false))⟩, ⟨(some 4), none, .mov (.c (.i .i64 1))⟩]) (
   .ret)) (
   .skip))) (
  .seq (.reg [⟨(some 12), none, .mov (.t 0)⟩, ⟨(some 13), none, .call (.v (.c (.fn (.func 50) [] []))) [(.t 12), (.c (.s [109, 97, 110, 105, 102, 101, 115, 116]))]⟩, ⟨(some 11), none, .mov (.t 13)⟩, ⟨(some 14), none, .ext (.t 11) 0⟩, ⟨(some 15), none, .ext (.t 11) 1⟩, ⟨(some 5), none, .mov (.t 14)⟩, ⟨(some 6), none, .mov (.t 15)⟩]) (
  .seq (.seq (.reg [⟨(some 16), none, .mov (.t 6)⟩]) (
  .block 0 (.seq (.reg [⟨(some 20), none, .bin .eql .int false (.t 16) (.c (.i .i64 0))⟩, ⟨(some 19), none, .mov (.t 20)⟩]) (
   .cond (.t 19) (
    .skip) (
    .seq (.reg [⟨(some 22), none, .bin .eql .int false (.t 16) (.c (.i .i64 20))⟩, ⟨(some 21), none, .mov (.t 22)⟩]) (
    .cond (.t 21) (
     .seq (.reg [⟨(some 23), none, .build [(.sl none 0 0), (.s []), (.i .i64 0), (.i .i64 0)] []⟩, ⟨none, none, .store 4 (.t 2) (.t 23)⟩, ⟨(some 3), none, .mov (.c (.b false))⟩, ⟨(some 4), none, .mov (.c (.i .i64 0))⟩]) (
     .ret)) (
     .seq (.reg [⟨(some 17), none, .build [(.sl none 0 0), (.s []), (.i .i64 0), (.i .i64 0)] []⟩, ⟨(some 18), none, .mov (.t 6)⟩, ⟨none, none, .store 4 (.t 2) (.t 17)⟩, ⟨(some 3), none, .mov (.c (.b false))⟩, ⟨(some 4), none, .mov (.t 18)⟩]) (
     .ret)))))))) (
  .seq (.reg [⟨(some 25), none, .mov (.t 5)⟩, ⟨(some 26), none, .call (.v (.c (.fn (.func 195) [] []))) [(.t 25)]⟩, ⟨(some 24), none, .mov (.t 26)⟩, ⟨(some 27), none, .ext (.t 24) 0⟩, ⟨(some 28), none, .ext (.t 24) 1⟩, ⟨(some 7), none, .new [(.sl none 0 0), (.s []), (.i .i64 0), (.i .i64 0)] 105⟩, ⟨none, none, .store 4 (.t 7) (.t 27)⟩, ⟨(some 6), none, .mov (.t 28)⟩]) (
  .seq (.reg [⟨(some 29), none, .load (some 4) (.t 7)⟩, ⟨(some 30), none, .mov (.t 6)⟩, ⟨(some 31), none, .bin .eql .int false (.t 30) (.c (.i .i64 0))⟩, ⟨(some 32), none, .mov (.t 6)⟩, ⟨none, none, .store 4 (.t 2) (.t 29)⟩, ⟨(some 3), none, .mov (.t 31)⟩, ⟨(some 4), none, .mov (.t 32)⟩]) (
  .ret)))))),
 [.cell 2 (some 4), .tmp 3, .tmp 4]⟩
/- (*lodestar/disk.Disk).known -/
noncomputable def a111 : F := ⟨20,
  .seq (.reg [⟨(some 4), none, .mov (.c (.i .i64 0))⟩]) (
  .seq (.block 0 (.seq (.reg [⟨(some 6), none, .mov (.t 0)⟩, ⟨(some 7), none, .bin .eql .ptr true (.t 6) (.c (.p none))⟩, ⟨(some 8), none, .mov (.t 7)⟩, ⟨(some 9), (some (8, false)), .mov (.t 1)⟩, ⟨(some 10), (some (8, false)), .bin .eql .str false (.t 9) (.c (.s []))⟩, ⟨(some 11), none, .pick (.t 8) (.c (.b true)) (.t 10)⟩, ⟨(some 5), none, .mov (.t 11)⟩]) (
   .cond (.t 5) (
    .seq (.reg [⟨(some 4), none, .mov (.c (.i .i64 1))⟩]) (
    .ret)) (
    .seq (.reg [⟨(some 13), none, .mov (.t 0)⟩, ⟨(some 14), none, .nilc (.t 13)⟩, ⟨(some 15), none, .fa 0 (.t 14)⟩, ⟨(some 16), none, .load none (.t 15)⟩, ⟨(some 17), none, .mov (.t 1)⟩, ⟨(some 18), none, .lkp .str (.p none) false (.t 16) (.t 17)⟩, ⟨(some 19), none, .bin .eql .ptr true (.t 18) (.c (.p none))⟩, ⟨(some 12), none, .mov (.t 19)⟩]) (
    .cond (.t 12) (
     .seq (.reg [⟨(some 4), none, .mov (.c (.i .i64 20))⟩]) (
     .ret)) (
     .skip)))))) (
  .seq (.reg [⟨(some 4), none, .mov (.c (.i .i64 0))⟩]) (
  .ret))),
 [.tmp 4]⟩
/- (*lodestar/disk.Disk).refused -/
noncomputable def a112 : F := ⟨11,
  .seq (.reg [⟨(some 2), none, .mov (.c (.i .i64 0))⟩]) (
  .seq (.reg [⟨(some 6), none, .mov (.t 0)⟩, ⟨(some 7), none, .call (.v (.c (.fn (.func 190) [] []))) [(.t 6)]⟩, ⟨(some 5), none, .mov (.t 7)⟩, ⟨(some 8), none, .ext (.t 5) 0⟩, ⟨(some 9), none, .ext (.t 5) 1⟩, ⟨(some 3), none, .new [(.i .i64 0), (.i .i64 0), (.i .i64 0)] 343⟩, ⟨none, none, .store 3 (.t 3) (.t 8)⟩, ⟨(some 4), none, .mov (.t 9)⟩]) (
  .seq (.reg [⟨(some 10), none, .mov (.t 4)⟩, ⟨(some 2), none, .mov (.t 10)⟩]) (
  .ret))),
 [.tmp 2]⟩
/- lodestar/payload.CheckSchema -/
noncomputable def a119 : F := ⟨86,
  .seq (.reg [⟨(some 1), none, .box (.t 0) 30⟩, ⟨(some 2), none, .mov (.c (.i .i64 0))⟩]) (
  .seq (.reg [⟨(some 8), none, .fa 0 (.t 1)⟩, ⟨(some 9), none, .load none (.t 8)⟩, ⟨(some 10), none, .call (.b .lenV) [(.t 9)]⟩, ⟨(some 11), none, .bin .geq .int false (.t 10) (.c (.i .i64 1))⟩, ⟨(some 12), none, .mov (.t 11)⟩, ⟨(some 13), (some (12, true)), .fa 0 (.t 1)⟩, ⟨(some 14), (some (12, true)), .load none (.t 13)⟩, ⟨(some 15), (some (12, true)), .call (.b .lenV) [(.t 14)]⟩, ⟨(some 16), (some (12, true)), .bin .leq .int false (.t 15) (.c (.i .i64 4))⟩, ⟨(some 17), none, .pick (.t 12) (.t 16) (.c (.b false))⟩, ⟨(some 18), none, .mov (.t 17)⟩, ⟨(some 19), (some (18, true)), .fa 1 (.t 1)⟩, ⟨(some 20), (some (18, true)), .load none (.t 19)⟩, ⟨(some 21), (some (18, true)), .call (.b .lenV) [(.t 20)]⟩, ⟨(some 22), (some (18, true)), .bin .leq .int false (.t 21) (.c (.i .i64 16))⟩, ⟨(some 23), none, .pick (.t 18) (.t 22) (.c (.b false))⟩, ⟨(some 24), none, .mov (.t 23)⟩, ⟨(some 25), (some (24, true)), .fa 0 (.t 1)⟩, ⟨(some 26), (some (24, true)), .load none (.t 25)⟩, ⟨(some 27), (some (24, true)), .call (.v (.c (.fn (.func 202) [] []))) [(.t 26), (.c (.fn (.func 203) [] []))]⟩, ⟨(some 28), (some (24, true)), .call (.v (.c (.fn (.func 201) [] []))) [(.t 27)]⟩, ⟨(some 29), none, .pick (.t 24) (.t 28) (.c (.b false))⟩, ⟨(some 30), none, .mov (.t 29)⟩, ⟨(some 31), (some (30, true)), .fa 1 (.t 1)⟩, ⟨(some 32), (some (30, true)), .load none (.t 31)⟩, ⟨(some 33), (some (30, true)), .call (.v (.c (.fn (.func 204) [] []))) [(.t 32), (.c (.fn (.func 205) [] []))]⟩, ⟨(some 34), (some (30, true)), .call (.v (.c (.fn (.func 201) [] []))) [(.t 33)]⟩, ⟨(some 35), none, .pick (.t 30) (.t 34) (.c (.b false))⟩, ⟨(some 3), none, .mov (.t 35)⟩]) (
  .seq (.seq (.reg [⟨(some 36), none, .fa 0 (.t 1)⟩, ⟨(some 37), none, .load none (.t 36)⟩, ⟨(some 38), none, .call (.b .lenV) [(.t 37)]⟩, ⟨(some 39), none, .mov (.c (.i .i64 0))⟩]) (
  .block 0 (.loop (
    .seq (.reg [⟨(some 40), none, .bin .lss .int false (.t 39) (.t 38)⟩]) (
    .seq (.cond (.t 40) (
     .skip) (
     .exit 0)) (
    .seq (.block 1 (.seq (.reg [⟨(some 41), none, .iaV 3 (.t 37) (.t 39)⟩, ⟨(some 42), none, .load (some 3) (.t 41)⟩, ⟨(some 5), none, .new [(.s []), (.i .i64 0), (.i .i64 0)] 60⟩, ⟨none, none, .store 3 (.t 5) (.t 42)⟩]) (
     .reg [⟨(some 43), none, .mov (.t 3)⟩, ⟨(some 44), none, .mov (.t 43)⟩, ⟨(some 45), (some (44, true)), .fa 1 (.t 5)⟩, ⟨(some 46), (some (44, true)), .load none (.t 45)⟩, ⟨(some 47), (some (44, true)), .bin .geq .int false (.t 46) (.c (.i .i64 1))⟩, ⟨(some 48), none, .pick (.t 44) (.t 47) (.c (.b false))⟩, ⟨(some 49), none, .mov (.t 48)⟩, ⟨(some 50), (some (49, true)), .fa 1 (.t 5)⟩, ⟨(some 51), (some (49, true)), .load none (.t 50)⟩, ⟨(some 52), (some (49, true)), .bin .leq .int false (.t 51) (.c (.i .i64 64))⟩, ⟨(some 53), none, .pick (.t 49) (.t 52) (.c (.b false))⟩, ⟨(some 54), none, .mov (.t 53)⟩, ⟨(some 55), (some (54, true)), .fa 2 (.t 5)⟩, ⟨(some 56), (some (54, true)), .load none (.t 55)⟩, ⟨(some 57), (some (54, true)), .bin .geq .int false (.t 56) (.c (.i .i64 1))⟩, ⟨(some 58), none, .pick (.t 54) (.t 57) (.c (.b false))⟩, ⟨(some 59), none, .mov (.t 58)⟩, ⟨(some 60), (some (59, true)), .fa 2 (.t 5)⟩, ⟨(some 61), (some (59, true)), .load none (.t 60)⟩, ⟨(some 62), (some (59, true)), .bin .leq .int false (.t 61) (.c (.i .i64 3))⟩, ⟨(some 63), none, .pick (.t 59) (.t 62) (.c (.b false))⟩, ⟨(some 3), none, .mov (.t 63)⟩]))) (
    .reg [⟨(some 64), none, .bin .add .int false (.t 39) (.c (.i .i64 1))⟩, ⟨(some 39), none, .mov (.t 64)⟩]))))))) (
  .seq (.seq (.reg [⟨(some 65), none, .fa 1 (.t 1)⟩, ⟨(some 66), none, .load none (.t 65)⟩, ⟨(some 67), none, .call (.b .lenV) [(.t 66)]⟩, ⟨(some 68), none, .mov (.c (.i .i64 0))⟩]) (
  .block 2 (.loop (
    .seq (.reg [⟨(some 69), none, .bin .lss .int false (.t 68) (.t 67)⟩]) (
    .seq (.cond (.t 69) (
     .skip) (
     .exit 2)) (
    .seq (.block 3 (.seq (.reg [⟨(some 70), none, .iaV 2 (.t 66) (.t 68)⟩, ⟨(some 71), none, .load (some 2) (.t 70)⟩, ⟨(some 7), none, .new [(.s []), (.i .i64 0)] 62⟩, ⟨none, none, .store 2 (.t 7) (.t 71)⟩]) (
     .reg [⟨(some 72), none, .mov (.t 3)⟩, ⟨(some 73), none, .mov (.t 72)⟩, ⟨(some 74), (some (73, true)), .fa 1 (.t 7)⟩, ⟨(some 75), (some (73, true)), .load none (.t 74)⟩, ⟨(some 76), (some (73, true)), .bin .geq .int false (.t 75) (.c (.i .i64 1))⟩, ⟨(some 77), none, .pick (.t 73) (.t 76) (.c (.b false))⟩, ⟨(some 78), none, .mov (.t 77)⟩, ⟨(some 79), (some (78, true)), .fa 1 (.t 7)⟩, ⟨(some 80), (some (78, true)), .load none (.t 79)⟩, ⟨(some 81), (some (78, true)), .bin .leq .int false (.t 80) (.c (.i .i64 3))⟩, ⟨(some 82), none, .pick (.t 78) (.t 81) (.c (.b false))⟩, ⟨(some 3), none, .mov (.t 82)⟩]))) (
    .reg [⟨(some 83), none, .bin .add .int false (.t 68) (.c (.i .i64 1))⟩, ⟨(some 68), none, .mov (.t 83)⟩]))))))) (
  .seq (.seq (.reg [⟨(some 84), none, .mov (.t 3)⟩, ⟨(some 85), none, .un .not (.t 84)⟩]) (
  .cond (.t 85) (
   .seq (.reg [⟨(some 2), none, .mov (.c (.i .i64 50))⟩]) (
   .ret)) (
   .skip))) (
  .seq (.reg [⟨(some 2), none, .mov (.c (.i .i64 0))⟩]) (
  .ret)))))),
 [.tmp 2]⟩
/- (*lodestar/store.Store).first -/
noncomputable def a121 : F := ⟨30,
  .seq (.reg [⟨(some 2), none, .mov (.c (.i .i64 0))⟩]) (
  .seq (.reg [⟨(some 6), none, .mov (.t 0)⟩, ⟨(some 7), none, .call (.v (.c (.fn (.func 47) [] []))) [(.t 6), (.c (.s [108, 49]))]⟩, ⟨(some 5), none, .mov (.t 7)⟩, ⟨(some 8), none, .ext (.t 5) 0⟩, ⟨(some 9), none, .ext (.t 5) 1⟩, ⟨(some 3), none, .mov (.t 8)⟩, ⟨(some 4), none, .mov (.t 9)⟩]) (
  .seq (.seq (.reg [⟨(some 10), none, .mov (.t 4)⟩, ⟨(some 11), none, .bin .neq .int false (.t 10) (.c (.i .i64 0))⟩]) (
  .cond (.t 11) (
   .seq (.reg [⟨(some 12), none, .mov (.t 4)⟩, ⟨(some 2), none, .mov (.t 12)⟩]) (
   .ret)) (
   .skip))) (
  .seq (.reg [⟨(some 13), none, .mov (.t 0)⟩, ⟨(some 14), none, .mov (.t 0)⟩, ⟨(some 15), none, .mov (.t 3)⟩, ⟨(some 16), none, .build [(.sl none 0 0), (.s []), (.i .i64 0), (.i .i64 0)] [(1, 1, (.c (.s [108, 49]))), (2, 1, (.c (.i .i64 2)))]⟩, ⟨(some 17), none, .nilc (.t 13)⟩, ⟨(some 18), none, .fa 10 (.t 17)⟩, ⟨none, none, .store 1 (.t 18) (.t 15)⟩, ⟨(some 19), none, .nilc (.t 14)⟩, ⟨(some 20), none, .fa 6 (.t 19)⟩, ⟨none, none, .store 4 (.t 20) (.t 16)⟩]) (
  .seq (.dreg [[.fl ⟨(some 21), none, .mov (.t 0)⟩ 0, .fl ⟨(some 22), none, .nilc (.t 21)⟩ 0, .fl ⟨(some 23), none, .fa 1 (.t 22)⟩ 0, .fl ⟨(some 24), none, .load none (.t 23)⟩ 0, .fl ⟨(some 25), none, .mov (.t 0)⟩ 0, .fl ⟨(some 26), none, .nilc (.t 25)⟩ 0, .fl ⟨(some 27), none, .fa 6 (.t 26)⟩ 0, .fl ⟨(some 28), none, .load (some 4) (.t 27)⟩ 0, .an ⟨(some 29), none, .call (.v (.c (.fn (.func 109) [] []))) [(.t 24), (.t 28)]⟩ [], .an ⟨(some 2), none, .mov (.t 29)⟩ []]] 0) (
  .ret))))),
 [.tmp 2]⟩
/- (*lodestar/store.Store).clean -/
noncomputable def a122 : F := ⟨60,
  .seq (.reg [⟨(some 2), none, .mov (.c (.i .i64 0))⟩]) (
  .seq (.dreg [[.fl ⟨(some 9), none, .mkM⟩ 0, .fl ⟨(some 10), none, .mov (.t 0)⟩ 1, .fl ⟨(some 11), none, .nilc (.t 10)⟩ 1, .fl ⟨(some 12), none, .fa 6 (.t 11)⟩ 1, .fl ⟨(some 13), none, .fa 1 (.t 12)⟩ 1, .fl ⟨(some 14), none, .load none (.t 13)⟩ 1, .an ⟨none, none, .mset .str (.t 9) (.c (.s [109, 97, 110, 105, 102, 101, 115, 116])) (.c (.i .i64 1))⟩ [⟨(some 14), none, .load none (.t 13)⟩], .an ⟨none, none, .mset .str (.t 9) (.t 14) (.c (.i .i64 1))⟩ [], .fl ⟨(some 15), none, .mov (.t 9)⟩ 1, .an ⟨(some 3), none, .mov (.t 15)⟩ []], [.fl ⟨(some 9), none, .mkM⟩ 0, .fl ⟨(some 10), none, .mov (.t 0)⟩ 1, .fl ⟨(some 11), none, .nilc (.t 10)⟩ 1, .fl ⟨(some 12), none, .fa 6 (.t 11)⟩ 1, .fl ⟨(some 13), none, .fa 1 (.t 12)⟩ 1, .fl ⟨(some 14), none, .load none (.t 13)⟩ 1, .an ⟨none, none, .mset .str (.t 9) (.t 14) (.c (.i .i64 1))⟩ [], .an ⟨none, none, .mset .str (.t 9) (.c (.s [109, 97, 110, 105, 102, 101, 115, 116])) (.c (.i .i64 1))⟩ [⟨(some 14), none, .load none (.t 13)⟩], .fl ⟨(some 15), none, .mov (.t 9)⟩ 1, .an ⟨(some 3), none, .mov (.t 15)⟩ []]] 1) (
  .seq (.seq (.reg [⟨(some 16), none, .mov (.t 0)⟩, ⟨(some 17), none, .nilc (.t 16)⟩, ⟨(some 18), none, .fa 6 (.t 17)⟩, ⟨(some 19), none, .fa 0 (.t 18)⟩, ⟨(some 20), none, .load none (.t 19)⟩, ⟨(some 21), none, .call (.b .lenV) [(.t 20)]⟩, ⟨(some 22), none, .mov (.c (.i .i64 0))⟩]) (
  .block 0 (.loop (
    .seq (.reg [⟨(some 23), none, .bin .lss .int false (.t 22) (.t 21)⟩]) (
    .seq (.cond (.t 23) (
     .skip) (
     .exit 0)) (
    .seq (.block 1 (.seq (.reg [⟨(some 24), none, .iaV 1 (.t 20) (.t 22)⟩, ⟨(some 25), none, .load none (.t 24)⟩, ⟨(some 5), none, .mov (.t 25)⟩]) (
     .reg [⟨(some 26), none, .mov (.t 3)⟩, ⟨(some 27), none, .mov (.t 5)⟩, ⟨(some 28), none, .lkp .str (.i .i64 0) false (.t 26) (.t 27)⟩, ⟨(some 29), none, .bin .add .int false (.t 28) (.c (.i .i64 1))⟩, ⟨none, none, .mset .str (.t 26) (.t 27) (.t 29)⟩]))) (
    .reg [⟨(some 30), none, .bin .add .int false (.t 22) (.c (.i .i64 1))⟩, ⟨(some 22), none, .mov (.t 30)⟩]))))))) (
  .seq (.seq (.reg [⟨(some 31), none, .mov (.t 0)⟩, ⟨(some 32), none, .nilc (.t 31)⟩, ⟨(some 33), none, .fa 1 (.t 32)⟩, ⟨(some 34), none, .load none (.t 33)⟩, ⟨(some 35), none, .call (.v (.c (.fn (.func 192) [] []))) [(.t 34)]⟩, ⟨(some 36), none, .call (.b .lenV) [(.t 35)]⟩, ⟨(some 37), none, .mov (.c (.i .i64 0))⟩]) (
  .block 2 (.loop (
    .seq (.reg [⟨(some 38), none, .bin .lss .int false (.t 37) (.t 36)⟩]) (
    .seq (.cond (.t 38) (
     .skip) (
     .exit 2)) (
    .seq (.block 3 (.seq (.reg [⟨(some 39), none, .iaV 1 (.t 35) (.t 37)⟩, ⟨(some 40), none, .load none (.t 39)⟩, ⟨(some 7), none, .mov (.t 40)⟩]) (
     .seq (.reg [⟨(some 41), none, .mov (.t 3)⟩, ⟨(some 42), none, .mov (.t 7)⟩, ⟨(some 43), none, .lkp .str (.i .i64 0) false (.t 41) (.t 42)⟩, ⟨(some 44), none, .bin .eql .int false (.t 43) (.c (.i .i64 0))⟩]) (
     .cond (.t 44) (
      .seq (.reg [⟨(some 45), none, .mov (.t 0)⟩, ⟨(some 46), none, .nilc (.t 45)⟩, ⟨(some 47), none, .fa 1 (.t 46)⟩, ⟨(some 48), none, .load none (.t 47)⟩, ⟨(some 49), none, .mov (.t 7)⟩, ⟨(some 50), none, .call (.v (.c (.fn (.func 49) [] []))) [(.t 48), (.t 49)]⟩, ⟨(some 8), none, .mov (.t 50)⟩]) (
      .seq (.reg [⟨(some 51), none, .mov (.t 8)⟩, ⟨(some 52), none, .bin .neq .int false (.t 51) (.c (.i .i64 0))⟩]) (
      .cond (.t 52) (
       .seq (.reg [⟨(some 53), none, .mov (.t 8)⟩, ⟨(some 2), none, .mov (.t 53)⟩]) (
       .ret)) (
       .skip)))) (
      .skip))))) (
    .reg [⟨(some 54), none, .bin .add .int false (.t 37) (.c (.i .i64 1))⟩, ⟨(some 37), none, .mov (.t 54)⟩]))))))) (
  .seq (.reg [⟨(some 55), none, .mov (.t 0)⟩, ⟨(some 56), none, .nilc (.t 55)⟩, ⟨(some 57), none, .fa 1 (.t 56)⟩, ⟨(some 58), none, .load none (.t 57)⟩, ⟨(some 59), none, .call (.v (.c (.fn (.func 94) [] []))) [(.t 58)]⟩, ⟨(some 2), none, .mov (.t 59)⟩]) (
  .ret))))),
 [.tmp 2]⟩
/- internal/strconv.FormatInt -/
noncomputable def a123 : F := ⟨54,
  .seq (.reg [⟨(some 4), none, .mov (.c (.s []))⟩]) (
  .seq (.seq (.reg [⟨(some 10), none, .mov (.t 1)⟩, ⟨(some 11), none, .bin .eql .int false (.t 10) (.c (.i .i64 10))⟩]) (
  .cond (.t 11) (
   .seq (.seq (.reg [⟨(some 12), none, .mov (.t 0)⟩, ⟨(some 13), none, .bin .leq .int false (.c (.i .i64 0)) (.t 12)⟩, ⟨(some 14), none, .mov (.t 13)⟩, ⟨(some 15), (some (14, true)), .mov (.t 0)⟩, ⟨(some 16), (some (14, true)), .bin .lss .int false (.t 15) (.c (.i .i64 100))⟩, ⟨(some 17), none, .pick (.t 14) (.t 16) (.c (.b false))⟩]) (
   .cond (.t 17) (
    .seq (.reg [⟨(some 18), none, .mov (.t 0)⟩, ⟨(some 19), none, .call (.v (.c (.fn (.func 207) [] []))) [(.t 18)]⟩, ⟨(some 4), none, .mov (.t 19)⟩]) (
    .ret)) (
    .skip))) (
   .seq (.reg [⟨(some 5), none, .new [(.i .u8 0), (.i .u8 0), (.i .u8 0), (.i .u8 0), (.i .u8 0), (.i .u8 0), (.i .u8 0), (.i .u8 0), (.i .u8 0), (.i .u8 0), (.i .u8 0), (.i .u8 0), (.i .u8 0), (.i .u8 0), (.i .u8 0), (.i .u8 0), (.i .u8 0), (.i .u8 0), (.i .u8 0), (.i .u8 0), (.i .u8 0), (.i .u8 0), (.i .u8 0), (.i .u8 0)] 369⟩]) (
   .seq (.reg [⟨(some 20), none, .mov (.t 0)⟩, ⟨(some 21), none, .conv (.int .u64) (.t 20)⟩, ⟨(some 6), none, .mov (.t 21)⟩]) (
   .seq (.seq (.reg [⟨(some 22), none, .mov (.t 0)⟩, ⟨(some 23), none, .bin .lss .int false (.t 22) (.c (.i .i64 0))⟩]) (
   .cond (.t 23) (
    .reg [⟨(some 24), none, .mov (.t 6)⟩, ⟨(some 25), none, .un .neg (.t 24)⟩, ⟨(some 6), none, .mov (.t 25)⟩]) (
    .skip))) (
   .seq (.reg [⟨(some 26), none, .mov (.t 6)⟩, ⟨(some 27), none, .call (.v (.c (.fn (.func 208) [] []))) [(.t 26)]⟩, ⟨(some 7), none, .mov (.t 27)⟩]) (
   .seq (.reg [⟨(some 28), none, .mov (.t 7)⟩, ⟨(some 29), none, .bin .add .int false (.c (.i .i64 1)) (.t 28)⟩, ⟨(some 30), none, .slA 24 1 (.t 5) (some (.c (.i .i64 1))) (some (.t 29)) none⟩, ⟨(some 31), none, .mov (.t 6)⟩, ⟨(some 32), none, .call (.v (.c (.fn (.func 209) [] []))) [(.t 30), (.t 31)]⟩]) (
   .seq (.seq (.reg [⟨(some 33), none, .mov (.t 0)⟩, ⟨(some 34), none, .bin .lss .int false (.t 33) (.c (.i .i64 0))⟩]) (
   .cond (.t 34) (
    .seq (.reg [⟨(some 35), none, .iaA 24 1 (.t 5) (.c (.i .i64 0))⟩, ⟨none, none, .store 1 (.t 35) (.c (.i .u8 45))⟩]) (
    .seq (.reg [⟨(some 36), none, .mov (.t 7)⟩, ⟨(some 37), none, .bin .add .int false (.c (.i .i64 1)) (.t 36)⟩, ⟨(some 38), none, .slA 24 1 (.t 5) none (some (.t 37)) none⟩, ⟨(some 39), none, .conv .bytesStr (.t 38)⟩, ⟨(some 4), none, .mov (.t 39)⟩]) (
    .ret))) (
    .skip))) (
   .seq (.reg [⟨(some 40), none, .mov (.t 7)⟩, ⟨(some 41), none, .bin .add .int false (.c (.i .i64 1)) (.t 40)⟩, ⟨(some 42), none, .slA 24 1 (.t 5) (some (.c (.i .i64 1))) (some (.t 41)) none⟩, ⟨(some 43), none, .conv .bytesStr (.t 42)⟩, ⟨(some 4), none, .mov (.t 43)⟩]) (
   .ret))))))))) (
   .skip))) (
  .seq (.reg [⟨(some 45), none, .mov (.t 0)⟩, ⟨(some 46), none, .conv (.int .u64) (.t 45)⟩, ⟨(some 47), none, .mov (.t 1)⟩, ⟨(some 48), none, .mov (.t 0)⟩, ⟨(some 49), none, .bin .lss .int false (.t 48) (.c (.i .i64 0))⟩, ⟨(some 50), none, .call (.v (.c (.fn (.func 210) [] []))) [(.c (.sl none 0 0)), (.t 46), (.t 47), (.t 49), (.c (.b false))]⟩, ⟨(some 44), none, .mov (.t 50)⟩, ⟨(some 51), none, .ext (.t 44) 0⟩, ⟨(some 52), none, .ext (.t 44) 1⟩, ⟨(some 8), none, .mov (.t 51)⟩, ⟨(some 9), none, .mov (.t 52)⟩]) (
  .seq (.reg [⟨(some 53), none, .mov (.t 9)⟩, ⟨(some 4), none, .mov (.t 53)⟩]) (
  .ret)))),
 [.tmp 4]⟩
/- internal/stringslite.CutPrefix -/
noncomputable def a124 : F := ⟨15,
  .seq (.reg [⟨(some 4), none, .mov (.c (.s []))⟩, ⟨(some 5), none, .mov (.c (.b false))⟩]) (
  .seq (.seq (.reg [⟨(some 6), none, .mov (.t 0)⟩, ⟨(some 7), none, .mov (.t 1)⟩, ⟨(some 8), none, .call (.v (.c (.fn (.func 211) [] []))) [(.t 6), (.t 7)]⟩, ⟨(some 9), none, .un .not (.t 8)⟩]) (
  .cond (.t 9) (
   .seq (.reg [⟨(some 10), none, .mov (.t 0)⟩, ⟨(some 4), none, .mov (.t 10)⟩, ⟨(some 5), none, .mov (.c (.b false))⟩]) (
   .ret)) (
   .skip))) (
  .seq (.reg [⟨(some 11), none, .mov (.t 0)⟩, ⟨(some 12), none, .mov (.t 1)⟩, ⟨(some 13), none, .call (.b .lenS) [(.t 12)]⟩, ⟨(some 14), none, .slS (.t 11) (some (.t 13)) none⟩, ⟨(some 4), none, .mov (.t 14)⟩, ⟨(some 5), none, .mov (.c (.b true))⟩]) (
  .ret))),
 [.tmp 4, .tmp 5]⟩
/- strconv.Atoi -/
noncomputable def a125 : F := ⟨18,
  .seq (.reg [⟨(some 2), none, .mov (.c (.i .i64 0))⟩, ⟨(some 3), none, .mov (.c .ni)⟩]) (
  .seq (.reg [⟨(some 7), none, .mov (.t 0)⟩, ⟨(some 8), none, .call (.v (.c (.fn (.func 212) [] []))) [(.t 7)]⟩, ⟨(some 6), none, .mov (.t 8)⟩, ⟨(some 9), none, .ext (.t 6) 0⟩, ⟨(some 10), none, .ext (.t 6) 1⟩, ⟨(some 4), none, .mov (.t 9)⟩, ⟨(some 5), none, .mov (.t 10)⟩]) (
  .seq (.seq (.reg [⟨(some 11), none, .mov (.t 5)⟩, ⟨(some 12), none, .bin .neq (.iface true pl) true (.t 11) (.c .ni)⟩]) (
  .cond (.t 12) (
   .seq (.reg [⟨(some 13), none, .mov (.t 4)⟩, ⟨(some 14), none, .mov (.t 0)⟩, ⟨(some 15), none, .mov (.t 5)⟩, ⟨(some 16), none, .call (.v (.c (.fn (.func 213) [] []))) [(.c (.s [65, 116, 111, 105])), (.t 14), (.c (.i .i64 0)), (.c (.i .i64 0)), (.t 15)]⟩, ⟨(some 2), none, .mov (.t 13)⟩, ⟨(some 3), none, .mov (.t 16)⟩]) (
   .ret)) (
   .skip))) (
  .seq (.reg [⟨(some 17), none, .mov (.t 4)⟩, ⟨(some 2), none, .mov (.t 17)⟩, ⟨(some 3), none, .mov (.c .ni)⟩]) (
  .ret)))),
 [.tmp 2, .tmp 3]⟩
/- (*lodestar/json.reader).look -/
noncomputable def a126 : F := ⟨22,
  .seq (.reg [⟨(some 2), none, .mov (.c (.i .u8 0))⟩]) (
  .seq (.seq (.dreg [[.fl ⟨(some 3), none, .mov (.t 0)⟩ 0, .fl ⟨(some 4), none, .nilc (.t 3)⟩ 0, .fl ⟨(some 5), none, .fa 1 (.t 4)⟩ 0, .fl ⟨(some 6), none, .load none (.t 5)⟩ 0, .fl ⟨(some 7), none, .mov (.t 0)⟩ 0, .fl ⟨(some 8), none, .nilc (.t 7)⟩ 0, .fl ⟨(some 9), none, .fa 0 (.t 8)⟩ 0, .fl ⟨(some 10), none, .load none (.t 9)⟩ 0, .fl ⟨(some 11), none, .call (.b .lenS) [(.t 10)]⟩ 0, .fl ⟨(some 12), none, .bin .lss .int false (.t 6) (.t 11)⟩ 0]] 0) (
  .cond (.t 12) (
   .seq (.dreg [[.fl ⟨(some 13), none, .mov (.t 0)⟩ 0, .fl ⟨(some 14), none, .nilc (.t 13)⟩ 0, .fl ⟨(some 15), none, .fa 0 (.t 14)⟩ 0, .fl ⟨(some 16), none, .load none (.t 15)⟩ 0, .fl ⟨(some 17), none, .mov (.t 0)⟩ 0, .fl ⟨(some 18), none, .nilc (.t 17)⟩ 0, .fl ⟨(some 19), none, .fa 1 (.t 18)⟩ 0, .fl ⟨(some 20), none, .load none (.t 19)⟩ 0, .fl ⟨(some 21), none, .ixS (.t 16) (.t 20)⟩ 0, .an ⟨(some 2), none, .mov (.t 21)⟩ []]] 0) (
   .ret)) (
   .skip))) (
  .seq (.reg [⟨(some 2), none, .mov (.c (.i .u8 0))⟩]) (
  .ret))),
 [.tmp 2]⟩
/- strings.IndexByte -/
noncomputable def a127 : F := ⟨8,
  .seq (.reg [⟨(some 4), none, .mov (.c (.i .i64 0))⟩]) (
  .seq (.reg [⟨(some 5), none, .mov (.t 0)⟩, ⟨(some 6), none, .mov (.t 1)⟩, ⟨(some 7), none, .call (.v (.c (.fn (.func 214) [] []))) [(.t 5), (.t 6)]⟩, ⟨(some 4), none, .mov (.t 7)⟩]) (
  .ret)),
 [.tmp 4]⟩
/- (*lodestar/json.reader).object -/
noncomputable def a128 : F := ⟨81,
  .seq (.reg [⟨(some 4), none, .new [(.i .i64 0), (.i .i64 0), (.s []), (.sl none 0 0), (.sl none 0 0)] 53⟩]) (
  .seq (.reg [⟨(some 9), none, .build [(.i .i64 0), (.i .i64 0), (.s []), (.sl none 0 0), (.sl none 0 0)] [(0, 1, (.c (.i .i64 6)))]⟩, ⟨(some 5), none, .new [(.i .i64 0), (.i .i64 0), (.s []), (.sl none 0 0), (.sl none 0 0)] 53⟩, ⟨none, none, .store 5 (.t 5) (.t 9)⟩]) (
  .seq (.reg [⟨(some 10), none, .mov (.t 0)⟩, ⟨(some 11), none, .call (.v (.c (.fn (.func 215) [] []))) [(.t 10), (.c (.i .u8 123))]⟩]) (
  .seq (.reg [⟨(some 12), none, .mov (.t 0)⟩, ⟨(some 13), none, .call (.v (.c (.fn (.func 59) [] []))) [(.t 12)]⟩]) (
  .seq (.seq (.reg [⟨(some 14), none, .mov (.t 0)⟩, ⟨(some 15), none, .call (.v (.c (.fn (.func 216) [] []))) [(.t 14), (.c (.i .u8 125))]⟩]) (
  .cond (.t 15) (
   .seq (.reg [⟨(some 16), none, .load (some 5) (.t 5)⟩, ⟨none, none, .store 5 (.t 4) (.t 16)⟩]) (
   .ret)) (
   .skip))) (
  .seq (.reg [⟨(some 17), none, .mkM⟩, ⟨(some 6), none, .mov (.t 17)⟩]) (
  .seq (.block 0 (.loop (
    .seq (.seq (.reg [⟨(some 18), none, .mov (.t 0)⟩, ⟨(some 19), none, .nilc (.t 18)⟩, ⟨(some 20), none, .fa 2 (.t 19)⟩, ⟨(some 21), none, .load none (.t 20)⟩, ⟨(some 22), none, .bin .eql .int false (.t 21) (.c (.i .i64 0))⟩]) (
    .cond (.t 22) (
     .skip) (
     .exit 0))) (
    .block 1 (.seq (.reg [⟨(some 23), none, .mov (.t 0)⟩, ⟨(some 24), none, .call (.v (.c (.fn (.func 59) [] []))) [(.t 23)]⟩]) (
     .seq (.reg [⟨(some 25), none, .mov (.t 0)⟩, ⟨(some 26), none, .nilc (.t 25)⟩, ⟨(some 27), none, .fa 1 (.t 26)⟩, ⟨(some 28), none, .load none (.t 27)⟩, ⟨(some 7), none, .mov (.t 28)⟩]) (
     .seq (.seq (.reg [⟨(some 29), none, .mov (.t 0)⟩, ⟨(some 30), none, .call (.v (.c (.fn (.func 126) [] []))) [(.t 29)]⟩, ⟨(some 31), none, .bin .neq .int false (.t 30) (.c (.i .u8 34))⟩]) (
     .cond (.t 31) (
      .seq (.reg [⟨(some 32), none, .mov (.t 0)⟩, ⟨(some 33), none, .mov (.t 0)⟩, ⟨(some 34), none, .nilc (.t 33)⟩, ⟨(some 35), none, .fa 1 (.t 34)⟩, ⟨(some 36), none, .load none (.t 35)⟩, ⟨(some 37), none, .call (.v (.c (.fn (.func 60) [] []))) [(.t 32), (.c (.i .i64 30)), (.t 36)]⟩]) (
      .exit 0)) (
      .skip))) (
     .seq (.reg [⟨(some 38), none, .mov (.t 0)⟩, ⟨(some 39), none, .call (.v (.c (.fn (.func 130) [] []))) [(.t 38)]⟩, ⟨(some 8), none, .mov (.t 39)⟩]) (
     .seq (.seq (.reg [⟨(some 40), none, .mov (.t 0)⟩, ⟨(some 41), none, .nilc (.t 40)⟩, ⟨(some 42), none, .fa 2 (.t 41)⟩, ⟨(some 43), none, .load none (.t 42)⟩, ⟨(some 44), none, .bin .eql .int false (.t 43) (.c (.i .i64 0))⟩, ⟨(some 45), none, .mov (.t 44)⟩, ⟨(some 46), (some (45, true)), .mov (.t 6)⟩, ⟨(some 47), (some (45, true)), .mov (.t 8)⟩, ⟨(some 48), (some (45, true)), .lkp .str (.b false) false (.t 46) (.t 47)⟩, ⟨(some 49), none, .pick (.t 45) (.t 48) (.c (.b false))⟩]) (
     .cond (.t 49) (
      .reg [⟨(some 50), none, .mov (.t 0)⟩, ⟨(some 51), none, .mov (.t 7)⟩, ⟨(some 52), none, .call (.v (.c (.fn (.func 60) [] []))) [(.t 50), (.c (.i .i64 32)), (.t 51)]⟩]) (
      .skip))) (
     .seq (.reg [⟨(some 53), none, .mov (.t 6)⟩, ⟨(some 54), none, .mov (.t 8)⟩, ⟨none, none, .mset .str (.t 53) (.t 54) (.c (.b true))⟩]) (
     .seq (.reg [⟨(some 55), none, .mov (.t 0)⟩, ⟨(some 56), none, .call (.v (.c (.fn (.func 59) [] []))) [(.t 55)]⟩]) (
     .seq (.reg [⟨(some 57), none, .mov (.t 0)⟩, ⟨(some 58), none, .call (.v (.c (.fn (.func 215) [] []))) [(.t 57), (.c (.i .u8 58))]⟩]) (
     .seq (.reg [⟨(some 59), none, .fa 3 (.t 5)⟩, ⟨(some 60), none, .load none (.t 59)⟩, ⟨(some 61), none, .mov (.t 8)⟩, ⟨(some 62), none, .buildS [(.s [])] 1 [(0, 1, (.t 61))] 9⟩, ⟨(some 63), none, .call (.b (.append 1 16 9)) [(.t 60), (.t 62)]⟩, ⟨(some 64), none, .fa 3 (.t 5)⟩, ⟨none, none, .store 1 (.t 64) (.t 63)⟩]) (
     .seq (.dreg [[.fl ⟨(some 65), none, .fa 4 (.t 5)⟩ 1, .fl ⟨(some 66), none, .load none (.t 65)⟩ 1, .fl ⟨(some 67), none, .mov (.t 0)⟩ 1, .fl ⟨(some 68), none, .mov (.t 1)⟩ 1, .fl ⟨(some 69), none, .bin .add .int false (.t 68) (.c (.i .i64 1))⟩ 1, .an ⟨(some 70), none, .call (.v (.c (.fn (.func 58) [] []))) [(.t 67), (.t 69)]⟩ [⟨(some 66), none, .load none (.t 65)⟩], .fl ⟨(some 71), none, .buildS [(.i .i64 0), (.i .i64 0), (.s []), (.sl none 0 0), (.sl none 0 0)] 1 [(0, 5, (.t 70))] 53⟩ 0, .an ⟨(some 72), none, .call (.b (.append 5 80 53)) [(.t 66), (.t 71)]⟩ [], .fl ⟨(some 73), none, .fa 4 (.t 5)⟩ 1, .an ⟨none, none, .store 1 (.t 73) (.t 72)⟩ []]] 1) (
     .seq (.reg [⟨(some 74), none, .mov (.t 0)⟩, ⟨(some 75), none, .call (.v (.c (.fn (.func 59) [] []))) [(.t 74)]⟩]) (
     .seq (.seq (.reg [⟨(some 76), none, .mov (.t 0)⟩, ⟨(some 77), none, .call (.v (.c (.fn (.func 216) [] []))) [(.t 76), (.c (.i .u8 125))]⟩]) (
     .cond (.t 77) (
      .exit 0) (
      .skip))) (
     .reg [⟨(some 78), none, .mov (.t 0)⟩, ⟨(some 79), none, .call (.v (.c (.fn (.func 215) [] []))) [(.t 78), (.c (.i .u8 44))]⟩]))))))))))))))))) (
  .seq (.reg [⟨(some 80), none, .load (some 5) (.t 5)⟩, ⟨none, none, .store 5 (.t 4) (.t 80)⟩]) (
  .ret)))))))),
 [.cell 4 (some 5)]⟩
/- (*lodestar/json.reader).list -/
noncomputable def a129 : F := ⟨35,
  .seq (.reg [⟨(some 4), none, .new [(.i .i64 0), (.i .i64 0), (.s []), (.sl none 0 0), (.sl none 0 0)] 53⟩]) (
  .seq (.reg [⟨(some 6), none, .build [(.i .i64 0), (.i .i64 0), (.s []), (.sl none 0 0), (.sl none 0 0)] [(0, 1, (.c (.i .i64 5)))]⟩, ⟨(some 5), none, .new [(.i .i64 0), (.i .i64 0), (.s []), (.sl none 0 0), (.sl none 0 0)] 53⟩, ⟨none, none, .store 5 (.t 5) (.t 6)⟩]) (
  .seq (.reg [⟨(some 7), none, .mov (.t 0)⟩, ⟨(some 8), none, .call (.v (.c (.fn (.func 215) [] []))) [(.t 7), (.c (.i .u8 91))]⟩]) (
  .seq (.reg [⟨(some 9), none, .mov (.t 0)⟩, ⟨(some 10), none, .call (.v (.c (.fn (.func 59) [] []))) [(.t 9)]⟩]) (
  .seq (.seq (.reg [⟨(some 11), none, .mov (.t 0)⟩, ⟨(some 12), none, .call (.v (.c (.fn (.func 216) [] []))) [(.t 11), (.c (.i .u8 93))]⟩]) (
  .cond (.t 12) (
   .seq (.reg [⟨(some 13), none, .load (some 5) (.t 5)⟩, ⟨none, none, .store 5 (.t 4) (.t 13)⟩]) (
   .ret)) (
   .skip))) (
  .seq (.block 0 (.loop (
    .seq (.seq (.reg [⟨(some 14), none, .mov (.t 0)⟩, ⟨(some 15), none, .nilc (.t 14)⟩, ⟨(some 16), none, .fa 2 (.t 15)⟩, ⟨(some 17), none, .load none (.t 16)⟩, ⟨(some 18), none, .bin .eql .int false (.t 17) (.c (.i .i64 0))⟩]) (
    .cond (.t 18) (
     .skip) (
     .exit 0))) (
    .block 1 (.seq (.dreg [[.fl ⟨(some 19), none, .fa 4 (.t 5)⟩ 1, .fl ⟨(some 20), none, .load none (.t 19)⟩ 1, .fl ⟨(some 21), none, .mov (.t 0)⟩ 1, .fl ⟨(some 22), none, .mov (.t 1)⟩ 1, .fl ⟨(some 23), none, .bin .add .int false (.t 22) (.c (.i .i64 1))⟩ 1, .an ⟨(some 24), none, .call (.v (.c (.fn (.func 58) [] []))) [(.t 21), (.t 23)]⟩ [⟨(some 20), none, .load none (.t 19)⟩], .fl ⟨(some 25), none, .buildS [(.i .i64 0), (.i .i64 0), (.s []), (.sl none 0 0), (.sl none 0 0)] 1 [(0, 5, (.t 24))] 53⟩ 0, .an ⟨(some 26), none, .call (.b (.append 5 80 53)) [(.t 20), (.t 25)]⟩ [], .fl ⟨(some 27), none, .fa 4 (.t 5)⟩ 1, .an ⟨none, none, .store 1 (.t 27) (.t 26)⟩ []]] 1) (
     .seq (.reg [⟨(some 28), none, .mov (.t 0)⟩, ⟨(some 29), none, .call (.v (.c (.fn (.func 59) [] []))) [(.t 28)]⟩]) (
     .seq (.seq (.reg [⟨(some 30), none, .mov (.t 0)⟩, ⟨(some 31), none, .call (.v (.c (.fn (.func 216) [] []))) [(.t 30), (.c (.i .u8 93))]⟩]) (
     .cond (.t 31) (
      .exit 0) (
      .skip))) (
     .reg [⟨(some 32), none, .mov (.t 0)⟩, ⟨(some 33), none, .call (.v (.c (.fn (.func 215) [] []))) [(.t 32), (.c (.i .u8 44))]⟩])))))))) (
  .seq (.reg [⟨(some 34), none, .load (some 5) (.t 5)⟩, ⟨none, none, .store 5 (.t 4) (.t 34)⟩]) (
  .ret))))))),
 [.cell 4 (some 5)]⟩
/- (*lodestar/json.reader).text -/
noncomputable def a130 : F := ⟨76,
  .seq (.reg [⟨(some 2), none, .mov (.c (.s []))⟩]) (
  .seq (.reg [⟨(some 8), none, .mov (.t 0)⟩, ⟨(some 9), none, .call (.v (.c (.fn (.func 215) [] []))) [(.t 8), (.c (.i .u8 34))]⟩]) (
  .seq (.reg [⟨(some 3), none, .new [(.p none), (.sl none 0 0)] 208⟩]) (
  .seq (.block 0 (.loop (
    .seq (.seq (.reg [⟨(some 10), none, .mov (.t 0)⟩, ⟨(some 11), none, .nilc (.t 10)⟩, ⟨(some 12), none, .fa 2 (.t 11)⟩, ⟨(some 13), none, .load none (.t 12)⟩, ⟨(some 14), none, .bin .eql .int false (.t 13) (.c (.i .i64 0))⟩]) (
    .cond (.t 14) (
     .skip) (
     .exit 0))) (
    .block 1 (.seq (.seq (.reg [⟨(some 15), none, .mov (.t 0)⟩, ⟨(some 16), none, .call (.v (.c (.fn (.func 216) [] []))) [(.t 15), (.c (.i .u8 34))]⟩]) (
     .cond (.t 16) (
      .exit 0) (
      .skip))) (
     .seq (.seq (.reg [⟨(some 17), none, .mov (.t 0)⟩, ⟨(some 18), none, .call (.v (.c (.fn (.func 126) [] []))) [(.t 17)]⟩, ⟨(some 19), none, .bin .eql .int false (.t 18) (.c (.i .u8 92))⟩]) (
     .cond (.t 19) (
      .seq (.reg [⟨(some 20), none, .mov (.t 0)⟩, ⟨(some 21), none, .call (.v (.c (.fn (.func 217) [] []))) [(.t 20)]⟩, ⟨(some 22), none, .call (.v (.c (.fn (.func 173) [] []))) [(.t 3), (.t 21)]⟩]) (
      .exit 1)) (
      .skip))) (
     .seq (.reg [⟨(some 4), none, .mov (.c (.b false))⟩]) (
     .seq (.seq (.dreg [[.fl ⟨(some 23), none, .mov (.t 0)⟩ 0, .fl ⟨(some 24), none, .nilc (.t 23)⟩ 0, .fl ⟨(some 25), none, .fa 0 (.t 24)⟩ 0, .fl ⟨(some 26), none, .load none (.t 25)⟩ 0, .fl ⟨(some 27), none, .mov (.t 0)⟩ 0, .fl ⟨(some 28), none, .nilc (.t 27)⟩ 0, .fl ⟨(some 29), none, .fa 1 (.t 28)⟩ 0, .fl ⟨(some 30), none, .load none (.t 29)⟩ 0, .fl ⟨(some 31), none, .slS (.t 26) (some (.t 30)) none⟩ 0, .an ⟨(some 32), none, .rngS (.t 31)⟩ []]] 0) (
     .block 2 (.loop (
       .seq (.reg [⟨(some 33), none, .nxtS (.t 32)⟩, ⟨(some 34), none, .ext (.t 33) 0⟩]) (
       .seq (.cond (.t 34) (
        .skip) (
        .exit 2)) (
       .block 3 (.seq (.reg [⟨(some 35), none, .ext (.t 33) 2⟩, ⟨(some 6), none, .mov (.t 35)⟩]) (
        .seq (.reg [⟨(some 36), none, .mov (.t 6)⟩, ⟨(some 37), none, .call (.v (.c (.fn (.func 218) [] []))) [(.t 36)]⟩, ⟨(some 7), none, .mov (.t 37)⟩]) (
        .seq (.seq (.dreg [[.fl ⟨(some 38), none, .mov (.t 6)⟩ 0, .fl ⟨(some 39), none, .bin .eql .int false (.t 38) (.c (.i .i32 65533))⟩ 0, .fl ⟨(some 40), none, .mov (.t 39)⟩ 0, .fl ⟨(some 41), (some (40, true)), .mov (.t 0)⟩ 0, .fl ⟨(some 42), (some (40, true)), .nilc (.t 41)⟩ 0, .fl ⟨(some 43), (some (40, true)), .fa 0 (.t 42)⟩ 0, .fl ⟨(some 44), (some (40, true)), .load none (.t 43)⟩ 0, .fl ⟨(some 45), (some (40, true)), .mov (.t 0)⟩ 0, .fl ⟨(some 46), (some (40, true)), .nilc (.t 45)⟩ 0, .fl ⟨(some 47), (some (40, true)), .fa 1 (.t 46)⟩ 0, .fl ⟨(some 48), (some (40, true)), .load none (.t 47)⟩ 0, .fl ⟨(some 49), (some (40, true)), .slS (.t 44) (some (.t 48)) none⟩ 0, .an ⟨(some 50), (some (40, true)), .call (.v (.c (.fn (.func 219) [] []))) [(.t 49), (.c (.s [239, 191, 189]))]⟩ [], .fl ⟨(some 51), (some (40, true)), .un .not (.t 50)⟩ 0, .fl ⟨(some 52), none, .pick (.t 40) (.t 51) (.c (.b false))⟩ 0, .fl ⟨(some 53), none, .mov (.t 52)⟩ 0, .fl ⟨(some 54), (some (53, false)), .mov (.t 6)⟩ 0, .fl ⟨(some 55), (some (53, false)), .bin .lss .int false (.t 54) (.c (.i .i32 32))⟩ 0, .fl ⟨(some 56), none, .pick (.t 53) (.c (.b true)) (.t 55)⟩ 0]] 0) (
        .cond (.t 56) (
         .exit 2) (
         .skip))) (
        .seq (.reg [⟨(some 57), none, .mov (.t 6)⟩, ⟨(some 58), none, .call (.v (.c (.fn (.func 220) [] []))) [(.t 3), (.t 57)]⟩]) (
        .seq (.reg [⟨(some 59), none, .mov (.t 0)⟩, ⟨(some 60), none, .nilc (.t 59)⟩, ⟨(some 61), none, .fa 1 (.t 60)⟩, ⟨(some 62), none, .load none (.t 61)⟩, ⟨(some 63), none, .mov (.t 7)⟩, ⟨(some 64), none, .bin .add .int false (.t 62) (.t 63)⟩, ⟨(some 65), none, .nilc (.t 59)⟩, ⟨(some 66), none, .fa 1 (.t 65)⟩, ⟨none, none, .store 1 (.t 66) (.t 64)⟩]) (
        .seq (.reg [⟨(some 4), none, .mov (.c (.b true))⟩]) (
        .exit 2))))))))))))) (
     .seq (.reg [⟨(some 67), none, .mov (.t 4)⟩, ⟨(some 68), none, .un .not (.t 67)⟩]) (
     .cond (.t 68) (
      .reg [⟨(some 69), none, .mov (.t 0)⟩, ⟨(some 70), none, .mov (.t 0)⟩, ⟨(some 71), none, .nilc (.t 70)⟩, ⟨(some 72), none, .fa 1 (.t 71)⟩, ⟨(some 73), none, .load none (.t 72)⟩, ⟨(some 74), none, .call (.v (.c (.fn (.func 60) [] []))) [(.t 69), (.c (.i .i64 30)), (.t 73)]⟩]) (
      .skip))))))))))) (
  .seq (.reg [⟨(some 75), none, .call (.v (.c (.fn (.func 87) [] []))) [(.t 3)]⟩, ⟨(some 2), none, .mov (.t 75)⟩]) (
  .ret))))),
 [.tmp 2]⟩
/- (*lodestar/json.reader).number -/
noncomputable def a132 : F := ⟨98,
  .seq (.reg [⟨(some 2), none, .new [(.i .i64 0), (.i .i64 0), (.s []), (.sl none 0 0), (.sl none 0 0)] 53⟩]) (
  .seq (.reg [⟨(some 7), none, .mov (.t 0)⟩, ⟨(some 8), none, .nilc (.t 7)⟩, ⟨(some 9), none, .fa 1 (.t 8)⟩, ⟨(some 10), none, .load none (.t 9)⟩, ⟨(some 3), none, .mov (.t 10)⟩]) (
  .seq (.reg [⟨(some 4), none, .mov (.c (.b true))⟩]) (
  .seq (.reg [⟨(some 11), none, .mov (.t 0)⟩, ⟨(some 12), none, .call (.v (.c (.fn (.func 216) [] []))) [(.t 11), (.c (.i .u8 45))]⟩]) (
  .seq (.seq (.reg [⟨(some 13), none, .mov (.t 0)⟩, ⟨(some 14), none, .call (.v (.c (.fn (.func 216) [] []))) [(.t 13), (.c (.i .u8 48))]⟩, ⟨(some 15), none, .un .not (.t 14)⟩, ⟨(some 16), none, .mov (.t 15)⟩, ⟨(some 17), (some (16, true)), .mov (.t 0)⟩, ⟨(some 18), (some (16, true)), .call (.v (.c (.fn (.func 221) [] []))) [(.t 17)]⟩, ⟨(some 19), (some (16, true)), .bin .eql .int false (.t 18) (.c (.i .i64 0))⟩, ⟨(some 20), none, .pick (.t 16) (.t 19) (.c (.b false))⟩]) (
  .cond (.t 20) (
   .reg [⟨(some 21), none, .mov (.t 0)⟩, ⟨(some 22), none, .mov (.t 0)⟩, ⟨(some 23), none, .nilc (.t 22)⟩, ⟨(some 24), none, .fa 1 (.t 23)⟩, ⟨(some 25), none, .load none (.t 24)⟩, ⟨(some 26), none, .call (.v (.c (.fn (.func 60) [] []))) [(.t 21), (.c (.i .i64 30)), (.t 25)]⟩]) (
   .skip))) (
  .seq (.seq (.reg [⟨(some 27), none, .mov (.t 0)⟩, ⟨(some 28), none, .call (.v (.c (.fn (.func 216) [] []))) [(.t 27), (.c (.i .u8 46))]⟩]) (
  .cond (.t 28) (
   .seq (.reg [⟨(some 4), none, .mov (.c (.b false))⟩]) (
   .seq (.reg [⟨(some 29), none, .mov (.t 0)⟩, ⟨(some 30), none, .call (.v (.c (.fn (.func 221) [] []))) [(.t 29)]⟩, ⟨(some 31), none, .bin .eql .int false (.t 30) (.c (.i .i64 0))⟩]) (
   .cond (.t 31) (
    .reg [⟨(some 32), none, .mov (.t 0)⟩, ⟨(some 33), none, .mov (.t 0)⟩, ⟨(some 34), none, .nilc (.t 33)⟩, ⟨(some 35), none, .fa 1 (.t 34)⟩, ⟨(some 36), none, .load none (.t 35)⟩, ⟨(some 37), none, .call (.v (.c (.fn (.func 60) [] []))) [(.t 32), (.c (.i .i64 30)), (.t 36)]⟩]) (
    .skip)))) (
   .skip))) (
  .seq (.seq (.reg [⟨(some 38), none, .mov (.t 0)⟩, ⟨(some 39), none, .call (.v (.c (.fn (.func 216) [] []))) [(.t 38), (.c (.i .u8 101))]⟩, ⟨(some 40), none, .mov (.t 39)⟩, ⟨(some 41), (some (40, false)), .mov (.t 0)⟩, ⟨(some 42), (some (40, false)), .call (.v (.c (.fn (.func 216) [] []))) [(.t 41), (.c (.i .u8 69))]⟩, ⟨(some 43), none, .pick (.t 40) (.c (.b true)) (.t 42)⟩]) (
  .cond (.t 43) (
   .seq (.reg [⟨(some 4), none, .mov (.c (.b false))⟩]) (
   .seq (.seq (.reg [⟨(some 44), none, .mov (.t 0)⟩, ⟨(some 45), none, .call (.v (.c (.fn (.func 216) [] []))) [(.t 44), (.c (.i .u8 43))]⟩, ⟨(some 46), none, .un .not (.t 45)⟩]) (
   .cond (.t 46) (
    .reg [⟨(some 47), none, .mov (.t 0)⟩, ⟨(some 48), none, .call (.v (.c (.fn (.func 216) [] []))) [(.t 47), (.c (.i .u8 45))]⟩]) (
    .skip))) (
   .seq (.reg [⟨(some 49), none, .mov (.t 0)⟩, ⟨(some 50), none, .call (.v (.c (.fn (.func 221) [] []))) [(.t 49)]⟩, ⟨(some 51), none, .bin .eql .int false (.t 50) (.c (.i .i64 0))⟩]) (
   .cond (.t 51) (
    .reg [⟨(some 52), none, .mov (.t 0)⟩, ⟨(some 53), none, .mov (.t 0)⟩, ⟨(some 54), none, .nilc (.t 53)⟩, ⟨(some 55), none, .fa 1 (.t 54)⟩, ⟨(some 56), none, .load none (.t 55)⟩, ⟨(some 57), none, .call (.v (.c (.fn (.func 60) [] []))) [(.t 52), (.c (.i .i64 30)), (.t 56)]⟩]) (
    .skip))))) (
   .skip))) (
  .seq (.dreg [[.fl ⟨(some 59), none, .mov (.t 0)⟩ 0, .fl ⟨(some 60), none, .nilc (.t 59)⟩ 0, .fl ⟨(some 61), none, .fa 0 (.t 60)⟩ 0, .fl ⟨(some 62), none, .load none (.t 61)⟩ 0, .fl ⟨(some 63), none, .mov (.t 3)⟩ 0, .fl ⟨(some 64), none, .mov (.t 0)⟩ 0, .fl ⟨(some 65), none, .nilc (.t 64)⟩ 0, .fl ⟨(some 66), none, .fa 1 (.t 65)⟩ 0, .fl ⟨(some 67), none, .load none (.t 66)⟩ 0, .fl ⟨(some 68), none, .slS (.t 62) (some (.t 63)) (some (.t 67))⟩ 0, .an ⟨(some 69), none, .call (.v (.c (.fn (.func 125) [] []))) [(.t 68)]⟩ [], .fl ⟨(some 58), none, .mov (.t 69)⟩ 0, .fl ⟨(some 70), none, .ext (.t 58) 0⟩ 0, .fl ⟨(some 71), none, .ext (.t 58) 1⟩ 0, .an ⟨(some 5), none, .mov (.t 70)⟩ [], .an ⟨(some 6), none, .mov (.t 71)⟩ []]] 0) (
  .seq (.seq (.reg [⟨(some 72), none, .mov (.t 0)⟩, ⟨(some 73), none, .nilc (.t 72)⟩, ⟨(some 74), none, .fa 2 (.t 73)⟩, ⟨(some 75), none, .load none (.t 74)⟩, ⟨(some 76), none, .bin .eql .int false (.t 75) (.c (.i .i64 0))⟩, ⟨(some 77), none, .mov (.t 76)⟩, ⟨(some 78), (some (77, true)), .mov (.t 4)⟩, ⟨(some 79), (some (77, true)), .un .not (.t 78)⟩, ⟨(some 80), (some (77, true)), .mov (.t 79)⟩, ⟨(some 81), (some (80, false)), .mov (.t 6)⟩, ⟨(some 82), (some (80, false)), .bin .neq (.iface true pl) true (.t 81) (.c .ni)⟩, ⟨(some 83), (some (77, true)), .pick (.t 80) (.c (.b true)) (.t 82)⟩, ⟨(some 84), (some (77, true)), .mov (.t 83)⟩, ⟨(some 85), (some (84, false)), .mov (.t 5)⟩, ⟨(some 86), (some (84, false)), .bin .gtr .int false (.t 85) (.c (.i .i64 9007199254740991))⟩, ⟨(some 87), (some (77, true)), .pick (.t 84) (.c (.b true)) (.t 86)⟩, ⟨(some 88), (some (77, true)), .mov (.t 87)⟩, ⟨(some 89), (some (88, false)), .mov (.t 5)⟩, ⟨(some 90), (some (88, false)), .bin .lss .int false (.t 89) (.c (.i .i64 (-9007199254740991)))⟩, ⟨(some 91), (some (77, true)), .pick (.t 88) (.c (.b true)) (.t 90)⟩, ⟨(some 92), none, .pick (.t 77) (.t 91) (.c (.b false))⟩]) (
  .cond (.t 92) (
   .reg [⟨(some 93), none, .mov (.t 0)⟩, ⟨(some 94), none, .mov (.t 3)⟩, ⟨(some 95), none, .call (.v (.c (.fn (.func 60) [] []))) [(.t 93), (.c (.i .i64 33)), (.t 94)]⟩]) (
   .skip))) (
  .seq (.reg [⟨(some 96), none, .mov (.t 5)⟩, ⟨(some 97), none, .build [(.i .i64 0), (.i .i64 0), (.s []), (.sl none 0 0), (.sl none 0 0)] [(0, 1, (.c (.i .i64 3))), (1, 1, (.t 96))]⟩, ⟨none, none, .store 5 (.t 2) (.t 97)⟩]) (
  .ret)))))))))),
 [.cell 2 (some 5)]⟩

end Go.Proofs.YtonckhnoealepaaGreatDoor
