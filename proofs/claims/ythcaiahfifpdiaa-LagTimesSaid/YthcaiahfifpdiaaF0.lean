import Derived.Test.YthcaiahfifpdiaaL2
import Derived.Test.YthcaiahfifpdiaaProg
import Derived.KernelRfl
set_option linter.unusedVariables false

/- The functions of the cut, compiled for the evaluator by a program of this claim; each is checked against the program. -/
namespace Go.Proofs.Ythcaiahfifpdiaa
open Go.AL

/-- gosem.cut.init -/
def fn2 : AFun := ⟨1, [], .ops [⟨(some 0), .call (.val (.func 1 [] [])) [], none⟩]⟩
theorem ok2 : compFun Try.prog 2 = some fn2 := by kernel_rfl

/-- postrider/postriderlaw20.LagTicks -/
def fn3 : AFun := ⟨139, [8], .seq (.ops [⟨(some 8), .plain (.mv (.val (.bool false))), none⟩])
  (.seq (.ops [⟨(some 21), .plain (.mv (.tmp 0)), none⟩,
     ⟨(some 22), .plain (.mv (.tmp 1)), none⟩,
     ⟨(some 23), .call (.val (.func 8 [] [])) [(.tmp 21), (.tmp 22)], none⟩,
     ⟨(some 20), .plain (.mv (.tmp 23)), none⟩,
     ⟨(some 24), .plain (.extract (.tmp 20) 0), none⟩,
     ⟨(some 25), .plain (.extract (.tmp 20) 1), none⟩,
     ⟨(some 9), .plain (.mv (.tmp 24)), none⟩,
     ⟨(some 10), .plain (.mv (.tmp 25)), none⟩])
  (.seq (.ops [⟨(some 27), .plain (.mv (.tmp 0)), none⟩,
     ⟨(some 28), .plain (.mv (.tmp 1)), none⟩,
     ⟨(some 29), .call (.val (.func 9 [] [])) [(.tmp 27), (.tmp 28)], none⟩,
     ⟨(some 26), .plain (.mv (.tmp 29)), none⟩,
     ⟨(some 30), .plain (.extract (.tmp 26) 0), none⟩,
     ⟨(some 31), .plain (.extract (.tmp 26) 1), none⟩,
     ⟨(some 11), .plain (.mv (.tmp 30)), none⟩,
     ⟨(some 12), .plain (.mv (.tmp 31)), none⟩])
  (.seq (.seq (.ops [⟨(some 32), .plain (.mv (.tmp 10)), none⟩,
      ⟨(some 33), .plain (.mv (.tmp 12)), none⟩,
      ⟨(some 34), .plain (.bin .neq (.tmp 32) (.tmp 33)), none⟩,
      ⟨(some 35), .plain (.mv (.tmp 34)), none⟩,
      ⟨(some 36), .plain (.mv (.tmp 9)), (some (35, false))⟩,
      ⟨(some 37), .plain (.eqn .ptr false (.tmp 36) (.val .nilp)), (some (35, false))⟩,
      ⟨(some 38), .plain (.mv (.tmp 11)), (some (35, false))⟩,
      ⟨(some 39), .plain (.eqn .ptr false (.tmp 38) (.val .nilp)), (some (35, false))⟩,
      ⟨(some 40), .plain (.eqb true (.tmp 37) (.tmp 39)), (some (35, false))⟩,
      ⟨(some 41), .plain (.pick (.tmp 35) (.val (.bool true)) (.tmp 40)), none⟩])
   (.cond (.tmp 41) (.seq (.ops [⟨(some 8), .plain (.mv (.val (.bool false))), none⟩])
    (.ret))
   (.skip)))
  (.seq (.seq (.ops [⟨(some 42), .plain (.mv (.tmp 11)), none⟩,
      ⟨(some 43), .plain (.eqn .ptr false (.tmp 42) (.val .nilp)), none⟩])
   (.cond (.tmp 43) (.seq (.ops [⟨(some 44), .call (.val (.func 10 [] [])) [], none⟩,
       ⟨(some 8), .plain (.mv (.tmp 44)), none⟩])
    (.ret))
   (.skip)))
  (.seq (.seq (.ops [⟨(some 13), .plain (.mv (.val (.int .i64 0))), none⟩])
   (.block 0 (.loop (.seq (.seq (.ops [⟨(some 45), .plain (.mv (.tmp 13)), none⟩,
         ⟨(some 46), .plain (.mv (.tmp 2)), none⟩,
         ⟨(some 47), .plain (.lenS (.tmp 46)), none⟩,
         ⟨(some 48), .plain (.bin .lss (.tmp 45) (.tmp 47)), none⟩,
         ⟨(some 49), .plain (.mv (.tmp 48)), none⟩,
         ⟨(some 50), .plain (.mv (.tmp 13)), (some (49, true))⟩,
         ⟨(some 51), .plain (.bin .lss (.tmp 50) (.val (.int .i64 60))), (some (49, true))⟩,
         ⟨(some 52), .plain (.pick (.tmp 49) (.tmp 51) (.val (.bool false))), none⟩])
      (.cond (.tmp 52) (.skip)
      (.exit 0)))
     (.seq (.block 1 (.seq (.dops [⟨0, ⟨(some 55), .plain (.mv (.tmp 2)), none⟩, []⟩,
          ⟨1, ⟨(some 56), .plain (.mv (.tmp 13)), none⟩, []⟩,
          ⟨2, ⟨(some 57), .plain (.idxS 1 (.tmp 55) (.tmp 56)), none⟩, []⟩,
          ⟨3, ⟨(some 58), .plain (.load1 (.tmp 57)), none⟩, []⟩,
          ⟨4, ⟨(some 59), .plain (.mv (.tmp 2)), none⟩, []⟩,
          ⟨5, ⟨(some 60), .plain (.mv (.tmp 13)), none⟩, []⟩,
          ⟨6, ⟨(some 61), .plain (.idxS 1 (.tmp 59) (.tmp 60)), none⟩, []⟩,
          ⟨7, ⟨(some 62), .plain (.load1 (.tmp 61)), none⟩, []⟩,
          ⟨8, ⟨(some 63), .plain (.lenS (.tmp 62)), none⟩, []⟩,
          ⟨9, ⟨(some 64), .plain (.min (.tmp 63) (.val (.int .i64 30))), none⟩, []⟩,
          ⟨10, ⟨(some 65), .plain (.slice 2 (.tmp 58) none (some (.tmp 64))), none⟩, []⟩,
          ⟨11, ⟨(some 14), .plain (.mv (.tmp 65)), none⟩, []⟩])
       (.seq (.ops [⟨(some 67), .plain (.mv (.tmp 9)), none⟩,
          ⟨(some 68), .plain (.buildSlice 48 2 [] 0 []), none⟩,
          ⟨(some 69), .plain (.mv (.tmp 14)), none⟩,
          ⟨(some 70), .plain (.append 48 2 16 (.tmp 68) (.tmp 69)), none⟩,
          ⟨(some 71), .call (.val (.func 11 [] [])) [(.tmp 67), (.tmp 70)], none⟩,
          ⟨(some 66), .plain (.mv (.tmp 71)), none⟩,
          ⟨(some 72), .plain (.extract (.tmp 66) 0), none⟩,
          ⟨(some 73), .plain (.extract (.tmp 66) 1), none⟩,
          ⟨(some 15), .plain (.mv (.tmp 72)), none⟩,
          ⟨(some 16), .plain (.mv (.tmp 73)), none⟩])
       (.seq (.ops [⟨(some 75), .plain (.mv (.tmp 11)), none⟩,
          ⟨(some 76), .plain (.mv (.tmp 14)), none⟩,
          ⟨(some 77), .call (.val (.func 13 [] [])) [(.tmp 76)], none⟩,
          ⟨(some 78), .call (.val (.func 12 [] [])) [(.tmp 75), (.tmp 77)], none⟩,
          ⟨(some 74), .plain (.mv (.tmp 78)), none⟩,
          ⟨(some 79), .plain (.extract (.tmp 74) 0), none⟩,
          ⟨(some 80), .plain (.extract (.tmp 74) 1), none⟩,
          ⟨(some 17), .plain (.mv (.tmp 79)), none⟩,
          ⟨(some 18), .plain (.mv (.tmp 80)), none⟩])
       (.seq (.seq (.ops [⟨(some 81), .plain (.mv (.tmp 15)), none⟩,
           ⟨(some 82), .plain (.mv (.tmp 17)), none⟩,
           ⟨(some 83), .call (.val (.func 14 [] [])) [(.tmp 81), (.tmp 82)], none⟩,
           ⟨(some 84), .plain (.not (.tmp 83)), none⟩,
           ⟨(some 85), .plain (.mv (.tmp 84)), none⟩,
           ⟨(some 86), .plain (.mv (.tmp 16)), (some (85, false))⟩,
           ⟨(some 87), .plain (.mv (.tmp 18)), (some (85, false))⟩,
           ⟨(some 88), .plain (.bin .neq (.tmp 86) (.tmp 87)), (some (85, false))⟩,
           ⟨(some 89), .plain (.pick (.tmp 85) (.val (.bool true)) (.tmp 88)), none⟩])
        (.cond (.tmp 89) (.seq (.ops [⟨(some 8), .plain (.mv (.val (.bool false))), none⟩])
         (.ret))
        (.skip)))
       (.seq (.seq (.ops [⟨(some 90), .plain (.mv (.tmp 13)), none⟩,
           ⟨(some 91), .plain (.mv (.tmp 3)), none⟩,
           ⟨(some 92), .plain (.lenS (.tmp 91)), none⟩,
           ⟨(some 93), .plain (.bin .lss (.tmp 90) (.tmp 92)), none⟩])
        (.cond (.tmp 93) (.seq (.ops [⟨(some 94), .plain (.mv (.tmp 9)), none⟩,
            ⟨(some 95), .plain (.mv (.tmp 3)), none⟩,
            ⟨(some 96), .plain (.mv (.tmp 13)), none⟩,
            ⟨(some 97), .plain (.idxS 1 (.tmp 95) (.tmp 96)), none⟩,
            ⟨(some 98), .plain (.load1 (.tmp 97)), none⟩,
            ⟨(some 99), .call (.val (.func 15 [] [])) [(.tmp 94), (.tmp 98)], none⟩])
         (.seq (.ops [⟨(some 100), .plain (.mv (.tmp 3)), none⟩,
            ⟨(some 101), .plain (.mv (.tmp 13)), none⟩,
            ⟨(some 102), .plain (.idxS 1 (.tmp 100) (.tmp 101)), none⟩,
            ⟨(some 103), .plain (.load1 (.tmp 102)), none⟩,
            ⟨(some 104), .plain (.bin .geq (.tmp 103) (.val (.int .i64 0))), none⟩,
            ⟨(some 105), .plain (.mv (.tmp 104)), none⟩,
            ⟨(some 106), .plain (.mv (.tmp 3)), (some (105, true))⟩,
            ⟨(some 107), .plain (.mv (.tmp 13)), (some (105, true))⟩,
            ⟨(some 108), .plain (.idxS 1 (.tmp 106) (.tmp 107)), (some (105, true))⟩,
            ⟨(some 109), .plain (.load1 (.tmp 108)), (some (105, true))⟩,
            ⟨(some 110), .plain (.bin .lss (.tmp 109) (.val (.int .i64 16))), (some (105, true))⟩,
            ⟨(some 111), .plain (.pick (.tmp 105) (.tmp 110) (.val (.bool false))), none⟩])
         (.cond (.tmp 111) (.dops [⟨0, ⟨(some 112), .plain (.mv (.tmp 11)), none⟩, []⟩,
            ⟨1, ⟨(some 113), .plain (.mv (.tmp 3)), none⟩, []⟩,
            ⟨2, ⟨(some 114), .plain (.mv (.tmp 13)), none⟩, []⟩,
            ⟨3, ⟨(some 115), .plain (.idxS 1 (.tmp 113) (.tmp 114)), none⟩, []⟩,
            ⟨4, ⟨(some 116), .plain (.load1 (.tmp 115)), none⟩, []⟩,
            ⟨5, ⟨(some 117), .plain (.nilCheck (.tmp 112)), none⟩, []⟩,
            ⟨6, ⟨(some 118), .plain (.addOff 3 (.tmp 117)), none⟩, []⟩,
            ⟨7, ⟨(some 119), .plain (.idxA 16 1 (.tmp 118) (.tmp 116)), none⟩, []⟩,
            ⟨8, ⟨none, .plain (.store 1 (.tmp 119) (.val (.int .i64 0))), none⟩, []⟩])
         (.skip))))
        (.skip)))
       (.seq (.seq (.ops [⟨(some 19), .plain (.mv (.val (.int .i64 (-1)))), none⟩])
        (.block 2 (.loop (.seq (.seq (.ops [⟨(some 120), .plain (.mv (.tmp 19)), none⟩,
              ⟨(some 121), .plain (.bin .leq (.tmp 120) (.val (.int .i64 16))), none⟩])
           (.cond (.tmp 121) (.skip)
           (.exit 2)))
          (.seq (.block 3 (.seq (.ops [⟨(some 124), .plain (.mv (.tmp 9)), none⟩,
               ⟨(some 125), .plain (.mv (.tmp 19)), none⟩,
               ⟨(some 126), .call (.val (.func 16 [] [])) [(.tmp 124), (.tmp 125)], none⟩,
               ⟨(some 127), .plain (.mv (.tmp 11)), none⟩,
               ⟨(some 128), .plain (.mv (.tmp 19)), none⟩,
               ⟨(some 129), .call (.val (.func 17 [] [])) [(.tmp 127), (.tmp 128)], none⟩,
               ⟨(some 130), .plain (.bin .neq (.tmp 126) (.tmp 129)), none⟩])
            (.cond (.tmp 130) (.seq (.ops [⟨(some 8), .plain (.mv (.val (.bool false))), none⟩])
             (.ret))
            (.skip))))
          (.ops [⟨(some 122), .plain (.mv (.tmp 19)), none⟩,
            ⟨(some 123), .plain (.bin .add (.tmp 122) (.val (.int .i64 1))), none⟩,
            ⟨(some 19), .plain (.mv (.tmp 123)), none⟩]))))))
       (.seq (.dops [⟨0, ⟨(some 131), .plain (.mv (.tmp 9)), none⟩, []⟩,
          ⟨2, ⟨(some 133), .plain (.mv (.tmp 11)), none⟩, []⟩,
          ⟨3, ⟨(some 134), .plain (.nilCheck (.tmp 133)), none⟩, []⟩,
          ⟨4, ⟨(some 135), .plain (.addOff 2 (.tmp 134)), none⟩, []⟩,
          ⟨5, ⟨(some 136), .plain (.load1 (.tmp 135)), none⟩, []⟩,
          ⟨1, ⟨(some 132), .call (.val (.func 18 [] [])) [(.tmp 131)], none⟩, [5]⟩,
          ⟨6, ⟨(some 137), .plain (.bin .neq (.tmp 132) (.tmp 136)), none⟩, []⟩])
       (.cond (.tmp 137) (.seq (.ops [⟨(some 8), .plain (.mv (.val (.bool false))), none⟩])
        (.ret))
       (.skip))))))))))
     (.ops [⟨(some 53), .plain (.mv (.tmp 13)), none⟩,
       ⟨(some 54), .plain (.bin .add (.tmp 53) (.val (.int .i64 1))), none⟩,
       ⟨(some 13), .plain (.mv (.tmp 54)), none⟩]))))))
  (.seq (.ops [⟨(some 138), .call (.val (.func 10 [] [])) [], none⟩,
     ⟨(some 8), .plain (.mv (.tmp 138)), none⟩])
  (.ret)))))))⟩
theorem ok3 : compFun Try.prog 3 = some fn3 := by kernel_rfl

/-- postrider/postriderlaw20.LagTimes -/
def fn4 : AFun := ⟨107, [8], .seq (.ops [⟨(some 8), .plain (.mv (.val (.bool false))), none⟩])
  (.seq (.seq (.ops [⟨(some 19), .call (.val (.func 10 [] [])) [], none⟩,
      ⟨(some 20), .plain (.not (.tmp 19)), none⟩])
   (.cond (.tmp 20) (.seq (.ops [⟨(some 8), .plain (.mv (.val (.bool false))), none⟩])
    (.ret))
   (.skip)))
  (.seq (.ops [⟨(some 21), .plain (.mv (.tmp 0)), none⟩,
     ⟨(some 22), .call (.val (.func 19 [] [])) [(.tmp 21), (.val (.int .i64 100))], none⟩,
     ⟨(some 23), .plain (.mv (.tmp 1)), none⟩,
     ⟨(some 24), .call (.val (.func 19 [] [])) [(.tmp 23), (.val (.int .i64 9))], none⟩,
     ⟨(some 25), .plain (.bin .add (.val (.int .i64 1)) (.tmp 24)), none⟩,
     ⟨(some 0), .plain (.mv (.tmp 22)), none⟩,
     ⟨(some 1), .plain (.mv (.tmp 25)), none⟩])
  (.seq (.ops [⟨(some 27), .plain (.mv (.tmp 0)), none⟩,
     ⟨(some 28), .plain (.mv (.tmp 1)), none⟩,
     ⟨(some 29), .call (.val (.func 8 [] [])) [(.tmp 27), (.tmp 28)], none⟩,
     ⟨(some 26), .plain (.mv (.tmp 29)), none⟩,
     ⟨(some 30), .plain (.extract (.tmp 26) 0), none⟩,
     ⟨(some 31), .plain (.extract (.tmp 26) 1), none⟩,
     ⟨(some 9), .plain (.mv (.tmp 30)), none⟩,
     ⟨(some 10), .plain (.mv (.tmp 31)), none⟩])
  (.seq (.seq (.ops [⟨(some 32), .plain (.mv (.tmp 9)), none⟩,
      ⟨(some 33), .plain (.eqn .ptr false (.tmp 32) (.val .nilp)), none⟩,
      ⟨(some 34), .plain (.mv (.tmp 33)), none⟩,
      ⟨(some 35), .plain (.mv (.tmp 10)), (some (34, false))⟩,
      ⟨(some 36), .plain (.bin .neq (.tmp 35) (.val (.int .i64 0))), (some (34, false))⟩,
      ⟨(some 37), .plain (.pick (.tmp 34) (.val (.bool true)) (.tmp 36)), none⟩])
   (.cond (.tmp 37) (.seq (.ops [⟨(some 8), .plain (.mv (.val (.bool false))), none⟩])
    (.ret))
   (.skip)))
  (.seq (.ops [⟨(some 11), .plain (.mv (.val (.int .i64 0))), none⟩])
  (.seq (.seq (.ops [⟨(some 12), .plain (.mv (.val (.int .i64 0))), none⟩])
   (.block 0 (.loop (.seq (.seq (.ops [⟨(some 38), .plain (.mv (.tmp 12)), none⟩,
         ⟨(some 39), .plain (.mv (.tmp 2)), none⟩,
         ⟨(some 40), .plain (.lenS (.tmp 39)), none⟩,
         ⟨(some 41), .plain (.bin .lss (.tmp 38) (.tmp 40)), none⟩,
         ⟨(some 42), .plain (.mv (.tmp 41)), none⟩,
         ⟨(some 43), .plain (.mv (.tmp 12)), (some (42, true))⟩,
         ⟨(some 44), .plain (.bin .lss (.tmp 43) (.val (.int .i64 100))), (some (42, true))⟩,
         ⟨(some 45), .plain (.pick (.tmp 42) (.tmp 44) (.val (.bool false))), none⟩])
      (.cond (.tmp 45) (.skip)
      (.exit 0)))
     (.seq (.block 1 (.seq (.ops [⟨(some 48), .plain (.mv (.tmp 2)), none⟩,
          ⟨(some 49), .plain (.mv (.tmp 12)), none⟩,
          ⟨(some 50), .plain (.idxS 1 (.tmp 48) (.tmp 49)), none⟩,
          ⟨(some 51), .plain (.load1 (.tmp 50)), none⟩,
          ⟨(some 52), .call (.val (.func 19 [] [])) [(.tmp 51), (.val (.int .i64 200))], none⟩,
          ⟨(some 13), .plain (.mv (.tmp 52)), none⟩])
       (.seq (.ops [⟨(some 53), .plain (.mv (.tmp 13)), none⟩,
          ⟨(some 54), .plain (.build [(.int .i64 0), (.int .i64 0)] [(0, 1, (.val (.int .i64 3))), (1, 1, (.tmp 53))]), none⟩,
          ⟨(some 55), .plain (.buildSlice 48 2 [(.int .i64 0), (.int .i64 0)] 1 [(0, 2, (.tmp 54))]), none⟩,
          ⟨(some 14), .plain (.mv (.tmp 55)), none⟩])
       (.seq (.seq (.ops [⟨(some 56), .plain (.mv (.tmp 12)), none⟩,
           ⟨(some 57), .plain (.mv (.tmp 3)), none⟩,
           ⟨(some 58), .plain (.lenS (.tmp 57)), none⟩,
           ⟨(some 59), .plain (.bin .lss (.tmp 56) (.tmp 58)), none⟩])
        (.cond (.tmp 59) (.ops [⟨(some 60), .plain (.mv (.tmp 14)), none⟩,
           ⟨(some 61), .plain (.mv (.tmp 3)), none⟩,
           ⟨(some 62), .plain (.mv (.tmp 12)), none⟩,
           ⟨(some 63), .plain (.idxS 1 (.tmp 61) (.tmp 62)), none⟩,
           ⟨(some 64), .plain (.load1 (.tmp 63)), none⟩,
           ⟨(some 65), .call (.val (.func 19 [] [])) [(.tmp 64), (.val (.int .i64 200))], none⟩,
           ⟨(some 66), .plain (.build [(.int .i64 0), (.int .i64 0)] [(0, 1, (.val (.int .i64 5))), (1, 1, (.tmp 65))]), none⟩,
           ⟨(some 67), .plain (.buildSlice 48 2 [(.int .i64 0), (.int .i64 0)] 1 [(0, 2, (.tmp 66))]), none⟩,
           ⟨(some 68), .plain (.append 48 2 16 (.tmp 60) (.tmp 67)), none⟩,
           ⟨(some 14), .plain (.mv (.tmp 68)), none⟩])
        (.skip)))
       (.seq (.ops [⟨(some 70), .plain (.mv (.tmp 9)), none⟩,
          ⟨(some 71), .plain (.mv (.tmp 14)), none⟩,
          ⟨(some 72), .call (.val (.func 11 [] [])) [(.tmp 70), (.tmp 71)], none⟩,
          ⟨(some 69), .plain (.mv (.tmp 72)), none⟩,
          ⟨(some 73), .plain (.extract (.tmp 69) 0), none⟩,
          ⟨(some 74), .plain (.extract (.tmp 69) 1), none⟩,
          ⟨(some 15), .plain (.mv (.tmp 73)), none⟩,
          ⟨(some 16), .plain (.mv (.tmp 74)), none⟩])
       (.seq (.ops [⟨(some 17), .plain (.mv (.val (.int .i64 0))), none⟩])
       (.seq (.seq (.ops [⟨(some 75), .plain (.mv (.tmp 12)), none⟩,
           ⟨(some 18), .plain (.mv (.tmp 75)), none⟩])
        (.block 2 (.loop (.seq (.seq (.ops [⟨(some 76), .plain (.mv (.tmp 18)), none⟩,
              ⟨(some 77), .plain (.mv (.tmp 11)), none⟩,
              ⟨(some 78), .plain (.bin .geq (.tmp 76) (.tmp 77)), none⟩,
              ⟨(some 79), .plain (.mv (.tmp 78)), none⟩,
              ⟨(some 80), .plain (.mv (.tmp 2)), (some (79, true))⟩,
              ⟨(some 81), .plain (.mv (.tmp 18)), (some (79, true))⟩,
              ⟨(some 82), .plain (.idxS 1 (.tmp 80) (.tmp 81)), (some (79, true))⟩,
              ⟨(some 83), .plain (.load1 (.tmp 82)), (some (79, true))⟩,
              ⟨(some 84), .call (.val (.func 19 [] [])) [(.tmp 83), (.val (.int .i64 200))], (some (79, true))⟩,
              ⟨(some 85), .plain (.mv (.tmp 0)), (some (79, true))⟩,
              ⟨(some 86), .plain (.bin .gtr (.tmp 84) (.tmp 85)), (some (79, true))⟩,
              ⟨(some 87), .plain (.pick (.tmp 79) (.tmp 86) (.val (.bool false))), none⟩])
           (.cond (.tmp 87) (.skip)
           (.exit 2)))
          (.seq (.block 3 (.ops [⟨(some 90), .plain (.mv (.tmp 17)), none⟩,
              ⟨(some 91), .plain (.bin .add (.tmp 90) (.val (.int .i64 1))), none⟩,
              ⟨(some 17), .plain (.mv (.tmp 91)), none⟩]))
          (.ops [⟨(some 88), .plain (.mv (.tmp 18)), none⟩,
            ⟨(some 89), .plain (.bin .sub (.tmp 88) (.val (.int .i64 1))), none⟩,
            ⟨(some 18), .plain (.mv (.tmp 89)), none⟩]))))))
       (.seq (.seq (.ops [⟨(some 92), .plain (.mv (.tmp 16)), none⟩,
           ⟨(some 93), .plain (.bin .neq (.tmp 92) (.val (.int .i64 0))), none⟩,
           ⟨(some 94), .plain (.mv (.tmp 93)), none⟩,
           ⟨(some 95), .plain (.mv (.tmp 15)), (some (94, false))⟩,
           ⟨(some 96), .call (.val (.func 20 [] [])) [(.tmp 95), (.val (.int .i64 3))], (some (94, false))⟩,
           ⟨(some 97), .plain (.mv (.tmp 17)), (some (94, false))⟩,
           ⟨(some 98), .plain (.mv (.tmp 1)), (some (94, false))⟩,
           ⟨(some 99), .plain (.bin .geq (.tmp 97) (.tmp 98)), (some (94, false))⟩,
           ⟨(some 100), .plain (.eqb true (.tmp 96) (.tmp 99)), (some (94, false))⟩,
           ⟨(some 101), .plain (.pick (.tmp 94) (.val (.bool true)) (.tmp 100)), none⟩])
        (.cond (.tmp 101) (.seq (.ops [⟨(some 8), .plain (.mv (.val (.bool false))), none⟩])
         (.ret))
        (.skip)))
       (.seq (.ops [⟨(some 102), .plain (.mv (.tmp 17)), none⟩,
          ⟨(some 103), .plain (.mv (.tmp 1)), none⟩,
          ⟨(some 104), .plain (.bin .geq (.tmp 102) (.tmp 103)), none⟩])
       (.cond (.tmp 104) (.ops [⟨(some 105), .plain (.mv (.tmp 12)), none⟩,
          ⟨(some 106), .plain (.bin .add (.tmp 105) (.val (.int .i64 1))), none⟩,
          ⟨(some 11), .plain (.mv (.tmp 106)), none⟩])
       (.skip)))))))))))
     (.ops [⟨(some 46), .plain (.mv (.tmp 12)), none⟩,
       ⟨(some 47), .plain (.bin .add (.tmp 46) (.val (.int .i64 1))), none⟩,
       ⟨(some 12), .plain (.mv (.tmp 47)), none⟩]))))))
  (.seq (.ops [⟨(some 8), .plain (.mv (.val (.bool true))), none⟩])
  (.ret))))))))⟩
theorem ok4 : compFun Try.prog 4 = some fn4 := by kernel_rfl

/-- postrider/postriderlaw20.LagNever -/
def fn5 : AFun := ⟨100, [4], .seq (.ops [⟨(some 4), .plain (.mv (.val (.bool false))), none⟩])
  (.seq (.seq (.ops [⟨(some 15), .call (.val (.func 10 [] [])) [], none⟩,
      ⟨(some 16), .plain (.not (.tmp 15)), none⟩])
   (.cond (.tmp 16) (.seq (.ops [⟨(some 4), .plain (.mv (.val (.bool false))), none⟩])
    (.ret))
   (.skip)))
  (.seq (.ops [⟨(some 17), .plain (.mv (.tmp 0)), none⟩,
     ⟨(some 18), .call (.val (.func 19 [] [])) [(.tmp 17), (.val (.int .i64 100))], none⟩,
     ⟨(some 0), .plain (.mv (.tmp 18)), none⟩])
  (.seq (.ops [⟨(some 20), .plain (.mv (.tmp 0)), none⟩,
     ⟨(some 21), .call (.val (.func 8 [] [])) [(.tmp 20), (.val (.int .i64 3))], none⟩,
     ⟨(some 19), .plain (.mv (.tmp 21)), none⟩,
     ⟨(some 22), .plain (.extract (.tmp 19) 0), none⟩,
     ⟨(some 23), .plain (.extract (.tmp 19) 1), none⟩,
     ⟨(some 5), .plain (.mv (.tmp 22)), none⟩,
     ⟨(some 6), .plain (.mv (.tmp 23)), none⟩])
  (.seq (.ops [⟨(some 25), .plain (.mv (.tmp 0)), none⟩,
     ⟨(some 26), .call (.val (.func 8 [] [])) [(.tmp 25), (.val (.int .i64 1))], none⟩,
     ⟨(some 24), .plain (.mv (.tmp 26)), none⟩,
     ⟨(some 27), .plain (.extract (.tmp 24) 0), none⟩,
     ⟨(some 28), .plain (.extract (.tmp 24) 1), none⟩,
     ⟨(some 7), .plain (.mv (.tmp 27)), none⟩,
     ⟨(some 8), .plain (.mv (.tmp 28)), none⟩])
  (.seq (.seq (.ops [⟨(some 29), .plain (.mv (.tmp 5)), none⟩,
      ⟨(some 30), .plain (.eqn .ptr false (.tmp 29) (.val .nilp)), none⟩,
      ⟨(some 31), .plain (.mv (.tmp 30)), none⟩,
      ⟨(some 32), .plain (.mv (.tmp 7)), (some (31, false))⟩,
      ⟨(some 33), .plain (.eqn .ptr false (.tmp 32) (.val .nilp)), (some (31, false))⟩,
      ⟨(some 34), .plain (.pick (.tmp 31) (.val (.bool true)) (.tmp 33)), none⟩])
   (.cond (.tmp 34) (.seq (.ops [⟨(some 4), .plain (.mv (.val (.bool false))), none⟩])
    (.ret))
   (.skip)))
  (.seq (.seq (.ops [⟨(some 9), .plain (.mv (.val (.int .i64 0))), none⟩])
   (.block 0 (.loop (.seq (.seq (.ops [⟨(some 35), .plain (.mv (.tmp 9)), none⟩,
         ⟨(some 36), .plain (.mv (.tmp 1)), none⟩,
         ⟨(some 37), .plain (.lenS (.tmp 36)), none⟩,
         ⟨(some 38), .plain (.bin .lss (.tmp 35) (.tmp 37)), none⟩,
         ⟨(some 39), .plain (.mv (.tmp 38)), none⟩,
         ⟨(some 40), .plain (.mv (.tmp 9)), (some (39, true))⟩,
         ⟨(some 41), .plain (.bin .lss (.tmp 40) (.val (.int .i64 100))), (some (39, true))⟩,
         ⟨(some 42), .plain (.pick (.tmp 39) (.tmp 41) (.val (.bool false))), none⟩])
      (.cond (.tmp 42) (.skip)
      (.exit 0)))
     (.seq (.block 1 (.seq (.ops [⟨(some 46), .plain (.mv (.tmp 5)), none⟩,
          ⟨(some 47), .plain (.mv (.tmp 1)), none⟩,
          ⟨(some 48), .plain (.mv (.tmp 9)), none⟩,
          ⟨(some 49), .plain (.idxS 1 (.tmp 47) (.tmp 48)), none⟩,
          ⟨(some 50), .plain (.load1 (.tmp 49)), none⟩,
          ⟨(some 51), .plain (.mv (.tmp 0)), none⟩,
          ⟨(some 52), .plain (.bin .add (.tmp 51) (.val (.int .i64 1))), none⟩,
          ⟨(some 53), .call (.val (.func 19 [] [])) [(.tmp 50), (.tmp 52)], none⟩,
          ⟨(some 54), .plain (.build [(.int .i64 0), (.int .i64 0)] [(0, 1, (.val (.int .i64 0))), (1, 1, (.tmp 53))]), none⟩,
          ⟨(some 55), .plain (.buildSlice 48 2 [(.int .i64 0), (.int .i64 0)] 1 [(0, 2, (.tmp 54))]), none⟩,
          ⟨(some 56), .call (.val (.func 11 [] [])) [(.tmp 46), (.tmp 55)], none⟩,
          ⟨(some 45), .plain (.mv (.tmp 56)), none⟩,
          ⟨(some 57), .plain (.extract (.tmp 45) 0), none⟩,
          ⟨(some 58), .plain (.extract (.tmp 45) 1), none⟩,
          ⟨(some 10), .plain (.mv (.tmp 57)), none⟩,
          ⟨(some 11), .plain (.mv (.tmp 58)), none⟩])
       (.seq (.ops [⟨(some 59), .plain (.mv (.tmp 1)), none⟩,
          ⟨(some 60), .plain (.mv (.tmp 9)), none⟩,
          ⟨(some 61), .plain (.idxS 1 (.tmp 59) (.tmp 60)), none⟩,
          ⟨(some 62), .plain (.load1 (.tmp 61)), none⟩,
          ⟨(some 63), .call (.val (.func 19 [] [])) [(.tmp 62), (.val (.int .i64 200))], none⟩,
          ⟨(some 12), .plain (.mv (.tmp 63)), none⟩])
       (.seq (.ops [⟨(some 65), .plain (.mv (.tmp 7)), none⟩,
          ⟨(some 66), .plain (.mv (.tmp 12)), none⟩,
          ⟨(some 67), .plain (.build [(.int .i64 0), (.int .i64 0)] [(0, 1, (.val (.int .i64 0))), (1, 1, (.tmp 66))]), none⟩,
          ⟨(some 68), .plain (.buildSlice 48 2 [(.int .i64 0), (.int .i64 0)] 1 [(0, 2, (.tmp 67))]), none⟩,
          ⟨(some 69), .call (.val (.func 11 [] [])) [(.tmp 65), (.tmp 68)], none⟩,
          ⟨(some 64), .plain (.mv (.tmp 69)), none⟩,
          ⟨(some 70), .plain (.extract (.tmp 64) 0), none⟩,
          ⟨(some 71), .plain (.extract (.tmp 64) 1), none⟩,
          ⟨(some 13), .plain (.mv (.tmp 70)), none⟩,
          ⟨(some 14), .plain (.mv (.tmp 71)), none⟩])
       (.seq (.ops [⟨(some 72), .plain (.mv (.tmp 10)), none⟩,
          ⟨(some 73), .plain (.lenS (.tmp 72)), none⟩,
          ⟨(some 74), .plain (.bin .gtr (.tmp 73) (.val (.int .i64 0))), none⟩,
          ⟨(some 75), .plain (.mv (.tmp 74)), none⟩,
          ⟨(some 76), .plain (.mv (.tmp 11)), (some (75, false))⟩,
          ⟨(some 77), .plain (.bin .neq (.tmp 76) (.val (.int .i64 0))), (some (75, false))⟩,
          ⟨(some 78), .plain (.pick (.tmp 75) (.val (.bool true)) (.tmp 77)), none⟩,
          ⟨(some 79), .plain (.mv (.tmp 78)), none⟩,
          ⟨(some 80), .plain (.mv (.tmp 14)), (some (79, false))⟩,
          ⟨(some 81), .plain (.bin .neq (.tmp 80) (.val (.int .i64 0))), (some (79, false))⟩,
          ⟨(some 82), .plain (.pick (.tmp 79) (.val (.bool true)) (.tmp 81)), none⟩,
          ⟨(some 83), .plain (.mv (.tmp 82)), none⟩,
          ⟨(some 84), .plain (.mv (.tmp 13)), (some (83, false))⟩,
          ⟨(some 85), .plain (.lenS (.tmp 84)), (some (83, false))⟩,
          ⟨(some 86), .plain (.bin .eql (.tmp 85) (.val (.int .i64 1))), (some (83, false))⟩,
          ⟨(some 87), .plain (.mv (.tmp 12)), (some (83, false))⟩,
          ⟨(some 88), .plain (.mv (.tmp 0)), (some (83, false))⟩,
          ⟨(some 89), .plain (.bin .gtr (.tmp 87) (.tmp 88)), (some (83, false))⟩,
          ⟨(some 90), .plain (.eqb true (.tmp 86) (.tmp 89)), (some (83, false))⟩,
          ⟨(some 91), .plain (.pick (.tmp 83) (.val (.bool true)) (.tmp 90)), none⟩])
       (.cond (.tmp 91) (.seq (.ops [⟨(some 4), .plain (.mv (.val (.bool false))), none⟩])
        (.ret))
       (.skip)))))))
     (.ops [⟨(some 43), .plain (.mv (.tmp 9)), none⟩,
       ⟨(some 44), .plain (.bin .add (.tmp 43) (.val (.int .i64 1))), none⟩,
       ⟨(some 9), .plain (.mv (.tmp 44)), none⟩]))))))
  (.seq (.ops [⟨(some 92), .plain (.mv (.tmp 5)), none⟩,
     ⟨(some 93), .call (.val (.func 16 [] [])) [(.tmp 92), (.val (.int .i64 0))], none⟩,
     ⟨(some 94), .plain (.bin .eql (.tmp 93) (.val (.int .i64 0))), none⟩,
     ⟨(some 95), .plain (.mv (.tmp 94)), none⟩,
     ⟨(some 96), .plain (.mv (.tmp 7)), (some (95, true))⟩,
     ⟨(some 97), .call (.val (.func 16 [] [])) [(.tmp 96), (.val (.int .i64 0))], (some (95, true))⟩,
     ⟨(some 98), .plain (.bin .eql (.tmp 97) (.val (.int .i64 0))), (some (95, true))⟩,
     ⟨(some 99), .plain (.pick (.tmp 95) (.tmp 98) (.val (.bool false))), none⟩,
     ⟨(some 4), .plain (.mv (.tmp 99)), none⟩])
  (.ret))))))))⟩
theorem ok5 : compFun Try.prog 5 = some fn5 := by kernel_rfl

/-- postrider/postriderlaw20.LagVoid -/
def fn6 : AFun := ⟨46, [2], .seq (.ops [⟨(some 2), .plain (.mv (.val (.bool false))), none⟩])
  (.seq (.seq (.ops [⟨(some 9), .call (.val (.func 10 [] [])) [], none⟩,
      ⟨(some 10), .plain (.not (.tmp 9)), none⟩])
   (.cond (.tmp 10) (.seq (.ops [⟨(some 2), .plain (.mv (.val (.bool false))), none⟩])
    (.ret))
   (.skip)))
  (.seq (.ops [⟨(some 3), .plain (.mv (.val .nilp)), none⟩])
  (.seq (.ops [⟨(some 4), .plain (.alloc 53 [(.int .i64 0), (.int .i64 0), (.int .i64 0), (.int .i64 0), (.int .i64 0), (.int .i64 0), (.int .i64 0), (.int .i64 0), (.int .i64 0), (.int .i64 0), (.int .i64 0), (.int .i64 0), (.int .i64 0), (.int .i64 0), (.int .i64 0), (.int .i64 0), (.int .i64 0), (.int .i64 0), (.int .i64 0)]), none⟩])
  (.seq (.ops [⟨(some 11), .plain (.mv (.tmp 3)), none⟩,
     ⟨(some 12), .plain (.mv (.tmp 0)), none⟩,
     ⟨(some 13), .call (.val (.func 15 [] [])) [(.tmp 11), (.tmp 12)], none⟩])
  (.seq (.ops [⟨(some 14), .plain (.mv (.tmp 0)), none⟩,
     ⟨(some 15), .call (.val (.func 15 [] [])) [(.tmp 4), (.tmp 14)], none⟩])
  (.seq (.ops [⟨(some 17), .plain (.mv (.tmp 3)), none⟩,
     ⟨(some 18), .call (.val (.func 11 [] [])) [(.tmp 17), (.val .nils)], none⟩,
     ⟨(some 16), .plain (.mv (.tmp 18)), none⟩,
     ⟨(some 19), .plain (.extract (.tmp 16) 0), none⟩,
     ⟨(some 20), .plain (.extract (.tmp 16) 1), none⟩,
     ⟨(some 5), .plain (.mv (.tmp 19)), none⟩,
     ⟨(some 6), .plain (.mv (.tmp 20)), none⟩])
  (.seq (.ops [⟨(some 22), .call (.val (.func 11 [] [])) [(.tmp 4), (.val .nils)], none⟩,
     ⟨(some 21), .plain (.mv (.tmp 22)), none⟩,
     ⟨(some 23), .plain (.extract (.tmp 21) 0), none⟩,
     ⟨(some 24), .plain (.extract (.tmp 21) 1), none⟩,
     ⟨(some 7), .plain (.mv (.tmp 23)), none⟩,
     ⟨(some 8), .plain (.mv (.tmp 24)), none⟩])
  (.seq (.ops [⟨(some 25), .plain (.mv (.tmp 6)), none⟩,
     ⟨(some 26), .plain (.bin .eql (.tmp 25) (.val (.int .i64 1))), none⟩,
     ⟨(some 27), .plain (.mv (.tmp 26)), none⟩,
     ⟨(some 28), .plain (.mv (.tmp 8)), (some (27, true))⟩,
     ⟨(some 29), .plain (.mv (.tmp 6)), (some (27, true))⟩,
     ⟨(some 30), .plain (.bin .eql (.tmp 28) (.tmp 29)), (some (27, true))⟩,
     ⟨(some 31), .plain (.pick (.tmp 27) (.tmp 30) (.val (.bool false))), none⟩,
     ⟨(some 32), .plain (.mv (.tmp 31)), none⟩,
     ⟨(some 33), .plain (.mv (.tmp 3)), (some (32, true))⟩,
     ⟨(some 34), .plain (.mv (.tmp 0)), (some (32, true))⟩,
     ⟨(some 35), .call (.val (.func 16 [] [])) [(.tmp 33), (.tmp 34)], (some (32, true))⟩,
     ⟨(some 36), .plain (.mv (.tmp 0)), (some (32, true))⟩,
     ⟨(some 37), .call (.val (.func 16 [] [])) [(.tmp 4), (.tmp 36)], (some (32, true))⟩,
     ⟨(some 38), .plain (.bin .add (.tmp 35) (.tmp 37)), (some (32, true))⟩,
     ⟨(some 39), .plain (.mv (.tmp 3)), (some (32, true))⟩,
     ⟨(some 40), .call (.val (.func 18 [] [])) [(.tmp 39)], (some (32, true))⟩,
     ⟨(some 41), .plain (.bin .add (.tmp 38) (.tmp 40)), (some (32, true))⟩,
     ⟨(some 42), .call (.val (.func 18 [] [])) [(.tmp 4)], (some (32, true))⟩,
     ⟨(some 43), .plain (.bin .add (.tmp 41) (.tmp 42)), (some (32, true))⟩,
     ⟨(some 44), .plain (.bin .eql (.tmp 43) (.val (.int .i64 0))), (some (32, true))⟩,
     ⟨(some 45), .plain (.pick (.tmp 32) (.tmp 44) (.val (.bool false))), none⟩,
     ⟨(some 2), .plain (.mv (.tmp 45)), none⟩])
  (.ret)))))))))⟩
theorem ok6 : compFun Try.prog 6 = some fn6 := by kernel_rfl

/-- postrider/postriderlaw20.LagForgets -/
def fn7 : AFun := ⟨115, [8], .seq (.ops [⟨(some 8), .plain (.mv (.val (.bool false))), none⟩])
  (.seq (.seq (.ops [⟨(some 20), .call (.val (.func 10 [] [])) [], none⟩,
      ⟨(some 21), .plain (.not (.tmp 20)), none⟩])
   (.cond (.tmp 21) (.seq (.ops [⟨(some 8), .plain (.mv (.val (.bool false))), none⟩])
    (.ret))
   (.skip)))
  (.seq (.ops [⟨(some 22), .plain (.mv (.tmp 0)), none⟩,
     ⟨(some 23), .call (.val (.func 19 [] [])) [(.tmp 22), (.val (.int .i64 50))], none⟩,
     ⟨(some 24), .plain (.mv (.tmp 1)), none⟩,
     ⟨(some 25), .call (.val (.func 19 [] [])) [(.tmp 24), (.val (.int .i64 5))], none⟩,
     ⟨(some 26), .plain (.bin .add (.val (.int .i64 1)) (.tmp 25)), none⟩,
     ⟨(some 0), .plain (.mv (.tmp 23)), none⟩,
     ⟨(some 1), .plain (.mv (.tmp 26)), none⟩])
  (.seq (.ops [⟨(some 28), .plain (.mv (.tmp 0)), none⟩,
     ⟨(some 29), .plain (.mv (.tmp 1)), none⟩,
     ⟨(some 30), .call (.val (.func 8 [] [])) [(.tmp 28), (.tmp 29)], none⟩,
     ⟨(some 27), .plain (.mv (.tmp 30)), none⟩,
     ⟨(some 31), .plain (.extract (.tmp 27) 0), none⟩,
     ⟨(some 32), .plain (.extract (.tmp 27) 1), none⟩,
     ⟨(some 9), .plain (.mv (.tmp 31)), none⟩,
     ⟨(some 10), .plain (.mv (.tmp 32)), none⟩])
  (.seq (.ops [⟨(some 34), .plain (.mv (.tmp 0)), none⟩,
     ⟨(some 35), .plain (.mv (.tmp 1)), none⟩,
     ⟨(some 36), .call (.val (.func 8 [] [])) [(.tmp 34), (.tmp 35)], none⟩,
     ⟨(some 33), .plain (.mv (.tmp 36)), none⟩,
     ⟨(some 37), .plain (.extract (.tmp 33) 0), none⟩,
     ⟨(some 38), .plain (.extract (.tmp 33) 1), none⟩,
     ⟨(some 11), .plain (.mv (.tmp 37)), none⟩,
     ⟨(some 12), .plain (.mv (.tmp 38)), none⟩])
  (.seq (.seq (.ops [⟨(some 39), .plain (.mv (.tmp 9)), none⟩,
      ⟨(some 40), .plain (.eqn .ptr false (.tmp 39) (.val .nilp)), none⟩,
      ⟨(some 41), .plain (.mv (.tmp 40)), none⟩,
      ⟨(some 42), .plain (.mv (.tmp 11)), (some (41, false))⟩,
      ⟨(some 43), .plain (.eqn .ptr false (.tmp 42) (.val .nilp)), (some (41, false))⟩,
      ⟨(some 44), .plain (.pick (.tmp 41) (.val (.bool true)) (.tmp 43)), none⟩])
   (.cond (.tmp 44) (.seq (.ops [⟨(some 8), .plain (.mv (.val (.bool false))), none⟩])
    (.ret))
   (.skip)))
  (.seq (.seq (.ops [⟨(some 13), .plain (.mv (.val (.int .i64 0))), none⟩])
   (.block 0 (.loop (.seq (.seq (.ops [⟨(some 45), .plain (.mv (.tmp 13)), none⟩,
         ⟨(some 46), .plain (.mv (.tmp 2)), none⟩,
         ⟨(some 47), .plain (.lenS (.tmp 46)), none⟩,
         ⟨(some 48), .plain (.bin .lss (.tmp 45) (.tmp 47)), none⟩,
         ⟨(some 49), .plain (.mv (.tmp 48)), none⟩,
         ⟨(some 50), .plain (.mv (.tmp 13)), (some (49, true))⟩,
         ⟨(some 51), .plain (.bin .lss (.tmp 50) (.val (.int .i64 60))), (some (49, true))⟩,
         ⟨(some 52), .plain (.pick (.tmp 49) (.tmp 51) (.val (.bool false))), none⟩])
      (.cond (.tmp 52) (.skip)
      (.exit 0)))
     (.seq (.block 1 (.seq (.ops [⟨(some 55), .plain (.mv (.tmp 2)), none⟩,
          ⟨(some 56), .plain (.mv (.tmp 13)), none⟩,
          ⟨(some 57), .plain (.idxS 1 (.tmp 55) (.tmp 56)), none⟩,
          ⟨(some 58), .plain (.load1 (.tmp 57)), none⟩,
          ⟨(some 59), .call (.val (.func 19 [] [])) [(.tmp 58), (.val (.int .i64 100))], none⟩,
          ⟨(some 14), .plain (.mv (.tmp 59)), none⟩])
       (.seq (.ops [⟨(some 61), .plain (.mv (.tmp 9)), none⟩,
          ⟨(some 62), .plain (.mv (.tmp 14)), none⟩,
          ⟨(some 63), .plain (.build [(.int .i64 0), (.int .i64 0)] [(0, 1, (.val (.int .i64 2))), (1, 1, (.tmp 62))]), none⟩,
          ⟨(some 64), .plain (.buildSlice 48 2 [(.int .i64 0), (.int .i64 0)] 1 [(0, 2, (.tmp 63))]), none⟩,
          ⟨(some 65), .call (.val (.func 11 [] [])) [(.tmp 61), (.tmp 64)], none⟩,
          ⟨(some 60), .plain (.mv (.tmp 65)), none⟩,
          ⟨(some 66), .plain (.extract (.tmp 60) 0), none⟩,
          ⟨(some 67), .plain (.extract (.tmp 60) 1), none⟩,
          ⟨(some 15), .plain (.mv (.tmp 66)), none⟩,
          ⟨(some 16), .plain (.mv (.tmp 67)), none⟩])
       (.seq (.ops [⟨(some 68), .plain (.mv (.tmp 13)), none⟩,
          ⟨(some 69), .plain (.mv (.tmp 3)), none⟩,
          ⟨(some 70), .plain (.lenS (.tmp 69)), none⟩,
          ⟨(some 71), .plain (.bin .lss (.tmp 68) (.tmp 70)), none⟩,
          ⟨(some 72), .plain (.mv (.tmp 71)), none⟩,
          ⟨(some 73), .plain (.mv (.tmp 3)), (some (72, true))⟩,
          ⟨(some 74), .plain (.mv (.tmp 13)), (some (72, true))⟩,
          ⟨(some 75), .plain (.idxS 1 (.tmp 73) (.tmp 74)), (some (72, true))⟩,
          ⟨(some 76), .plain (.load1 (.tmp 75)), (some (72, true))⟩,
          ⟨(some 77), .plain (.bin .rem (.tmp 76) (.val (.int .i64 2))), (some (72, true))⟩,
          ⟨(some 78), .plain (.bin .eql (.tmp 77) (.val (.int .i64 0))), (some (72, true))⟩,
          ⟨(some 79), .plain (.pick (.tmp 72) (.tmp 78) (.val (.bool false))), none⟩,
          ⟨(some 80), .plain (.mv (.tmp 79)), none⟩,
          ⟨(some 81), .plain (.mv (.tmp 15)), (some (80, true))⟩,
          ⟨(some 82), .plain (.lenS (.tmp 81)), (some (80, true))⟩,
          ⟨(some 83), .plain (.bin .eql (.tmp 82) (.val (.int .i64 0))), (some (80, true))⟩,
          ⟨(some 84), .plain (.pick (.tmp 80) (.tmp 83) (.val (.bool false))), none⟩,
          ⟨(some 17), .plain (.mv (.tmp 84)), none⟩])
       (.seq (.seq (.ops [⟨(some 85), .plain (.mv (.tmp 17)), none⟩])
        (.cond (.tmp 85) (.seq (.ops [⟨(some 86), .plain (.mv (.tmp 9)), none⟩,
            ⟨(some 87), .call (.val (.func 15 [] [])) [(.tmp 86), (.val (.int .i64 2))], none⟩])
         (.ops [⟨(some 14), .plain (.mv (.val (.int .i64 0))), none⟩]))
        (.skip)))
       (.seq (.ops [⟨(some 89), .plain (.mv (.tmp 11)), none⟩,
          ⟨(some 90), .plain (.mv (.tmp 14)), none⟩,
          ⟨(some 91), .plain (.build [(.int .i64 0), (.int .i64 0)] [(0, 1, (.val (.int .i64 2))), (1, 1, (.tmp 90))]), none⟩,
          ⟨(some 92), .plain (.buildSlice 48 2 [(.int .i64 0), (.int .i64 0)] 1 [(0, 2, (.tmp 91))]), none⟩,
          ⟨(some 93), .call (.val (.func 11 [] [])) [(.tmp 89), (.tmp 92)], none⟩,
          ⟨(some 88), .plain (.mv (.tmp 93)), none⟩,
          ⟨(some 94), .plain (.extract (.tmp 88) 0), none⟩,
          ⟨(some 95), .plain (.extract (.tmp 88) 1), none⟩,
          ⟨(some 18), .plain (.mv (.tmp 94)), none⟩,
          ⟨(some 19), .plain (.mv (.tmp 95)), none⟩])
       (.seq (.ops [⟨(some 96), .plain (.mv (.tmp 16)), none⟩,
          ⟨(some 97), .plain (.bin .neq (.tmp 96) (.val (.int .i64 0))), none⟩,
          ⟨(some 98), .plain (.mv (.tmp 97)), none⟩,
          ⟨(some 99), .plain (.mv (.tmp 19)), (some (98, false))⟩,
          ⟨(some 100), .plain (.bin .neq (.tmp 99) (.val (.int .i64 0))), (some (98, false))⟩,
          ⟨(some 101), .plain (.pick (.tmp 98) (.val (.bool true)) (.tmp 100)), none⟩,
          ⟨(some 102), .plain (.mv (.tmp 101)), none⟩,
          ⟨(some 103), .plain (.mv (.tmp 15)), (some (102, false))⟩,
          ⟨(some 104), .plain (.mv (.tmp 18)), (some (102, false))⟩,
          ⟨(some 105), .call (.val (.func 14 [] [])) [(.tmp 103), (.tmp 104)], (some (102, false))⟩,
          ⟨(some 106), .plain (.not (.tmp 105)), (some (102, false))⟩,
          ⟨(some 107), .plain (.pick (.tmp 102) (.val (.bool true)) (.tmp 106)), none⟩,
          ⟨(some 108), .plain (.mv (.tmp 107)), none⟩,
          ⟨(some 109), .plain (.mv (.tmp 9)), (some (108, false))⟩,
          ⟨(some 110), .call (.val (.func 16 [] [])) [(.tmp 109), (.val (.int .i64 2))], (some (108, false))⟩,
          ⟨(some 111), .plain (.mv (.tmp 11)), (some (108, false))⟩,
          ⟨(some 112), .call (.val (.func 16 [] [])) [(.tmp 111), (.val (.int .i64 2))], (some (108, false))⟩,
          ⟨(some 113), .plain (.bin .neq (.tmp 110) (.tmp 112)), (some (108, false))⟩,
          ⟨(some 114), .plain (.pick (.tmp 108) (.val (.bool true)) (.tmp 113)), none⟩])
       (.cond (.tmp 114) (.seq (.ops [⟨(some 8), .plain (.mv (.val (.bool false))), none⟩])
        (.ret))
       (.skip)))))))))
     (.ops [⟨(some 53), .plain (.mv (.tmp 13)), none⟩,
       ⟨(some 54), .plain (.bin .add (.tmp 53) (.val (.int .i64 1))), none⟩,
       ⟨(some 13), .plain (.mv (.tmp 54)), none⟩]))))))
  (.seq (.ops [⟨(some 8), .plain (.mv (.val (.bool true))), none⟩])
  (.ret))))))))⟩
theorem ok7 : compFun Try.prog 7 = some fn7 := by kernel_rfl

/-- postrider/lag.Make -/
def fn8 : AFun := ⟨24, [4, 5], .seq (.ops [⟨(some 4), .plain (.mv (.val .nilp)), none⟩,
     ⟨(some 5), .plain (.mv (.val (.int .i64 0))), none⟩])
  (.seq (.seq (.ops [⟨(some 6), .plain (.mv (.tmp 0)), none⟩,
      ⟨(some 7), .plain (.bin .lss (.tmp 6) (.val (.int .i64 0))), none⟩,
      ⟨(some 8), .plain (.mv (.tmp 7)), none⟩,
      ⟨(some 9), .plain (.mv (.tmp 0)), (some (8, false))⟩,
      ⟨(some 10), .plain (.bin .gtr (.tmp 9) (.val (.int .i64 1099511627776))), (some (8, false))⟩,
      ⟨(some 11), .plain (.pick (.tmp 8) (.val (.bool true)) (.tmp 10)), none⟩,
      ⟨(some 12), .plain (.mv (.tmp 11)), none⟩,
      ⟨(some 13), .plain (.mv (.tmp 1)), (some (12, false))⟩,
      ⟨(some 14), .plain (.bin .lss (.tmp 13) (.val (.int .i64 1))), (some (12, false))⟩,
      ⟨(some 15), .plain (.pick (.tmp 12) (.val (.bool true)) (.tmp 14)), none⟩,
      ⟨(some 16), .plain (.mv (.tmp 15)), none⟩,
      ⟨(some 17), .plain (.mv (.tmp 1)), (some (16, false))⟩,
      ⟨(some 18), .plain (.bin .gtr (.tmp 17) (.val (.int .i64 256))), (some (16, false))⟩,
      ⟨(some 19), .plain (.pick (.tmp 16) (.val (.bool true)) (.tmp 18)), none⟩])
   (.cond (.tmp 19) (.seq (.ops [⟨(some 4), .plain (.mv (.val .nilp)), none⟩,
       ⟨(some 5), .plain (.mv (.val (.int .i64 2))), none⟩])
    (.ret))
   (.skip)))
  (.seq (.ops [⟨(some 20), .plain (.mv (.tmp 0)), none⟩,
     ⟨(some 21), .plain (.mv (.tmp 1)), none⟩,
     ⟨(some 22), .plain (.build [(.int .i64 0), (.int .i64 0), (.int .i64 0), (.int .i64 0), (.int .i64 0), (.int .i64 0), (.int .i64 0), (.int .i64 0), (.int .i64 0), (.int .i64 0), (.int .i64 0), (.int .i64 0), (.int .i64 0), (.int .i64 0), (.int .i64 0), (.int .i64 0), (.int .i64 0), (.int .i64 0), (.int .i64 0)] [(0, 1, (.tmp 20)), (1, 1, (.tmp 21))]), none⟩,
     ⟨(some 23), .plain (.box 53 (.tmp 22)), none⟩,
     ⟨(some 4), .plain (.mv (.tmp 23)), none⟩,
     ⟨(some 5), .plain (.mv (.val (.int .i64 0))), none⟩])
  (.ret)))⟩
theorem ok8 : compFun Try.prog 8 = some fn8 := by kernel_rfl

/-- postrider/postriderref20.Make -/
def fn9 : AFun := ⟨24, [4, 5], .seq (.ops [⟨(some 4), .plain (.mv (.val .nilp)), none⟩,
     ⟨(some 5), .plain (.mv (.val (.int .i64 0))), none⟩])
  (.seq (.seq (.ops [⟨(some 6), .plain (.mv (.tmp 0)), none⟩,
      ⟨(some 7), .plain (.bin .lss (.tmp 6) (.val (.int .i64 0))), none⟩,
      ⟨(some 8), .plain (.mv (.tmp 7)), none⟩,
      ⟨(some 9), .plain (.mv (.tmp 0)), (some (8, false))⟩,
      ⟨(some 10), .plain (.bin .gtr (.tmp 9) (.val (.int .i64 1099511627776))), (some (8, false))⟩,
      ⟨(some 11), .plain (.pick (.tmp 8) (.val (.bool true)) (.tmp 10)), none⟩,
      ⟨(some 12), .plain (.mv (.tmp 11)), none⟩,
      ⟨(some 13), .plain (.mv (.tmp 1)), (some (12, false))⟩,
      ⟨(some 14), .plain (.bin .lss (.tmp 13) (.val (.int .i64 1))), (some (12, false))⟩,
      ⟨(some 15), .plain (.pick (.tmp 12) (.val (.bool true)) (.tmp 14)), none⟩,
      ⟨(some 16), .plain (.mv (.tmp 15)), none⟩,
      ⟨(some 17), .plain (.mv (.tmp 1)), (some (16, false))⟩,
      ⟨(some 18), .plain (.bin .gtr (.tmp 17) (.val (.int .i64 256))), (some (16, false))⟩,
      ⟨(some 19), .plain (.pick (.tmp 16) (.val (.bool true)) (.tmp 18)), none⟩])
   (.cond (.tmp 19) (.seq (.ops [⟨(some 4), .plain (.mv (.val .nilp)), none⟩,
       ⟨(some 5), .plain (.mv (.val (.int .i64 2))), none⟩])
    (.ret))
   (.skip)))
  (.seq (.ops [⟨(some 20), .plain (.mv (.tmp 0)), none⟩,
     ⟨(some 21), .plain (.mv (.tmp 1)), none⟩,
     ⟨(some 22), .plain (.build [(.int .i64 0), (.int .i64 0), (.int .i64 0), (.int .i64 0), (.int .i64 0), (.int .i64 0), (.int .i64 0), (.int .i64 0), (.int .i64 0), (.int .i64 0), (.int .i64 0), (.int .i64 0), (.int .i64 0), (.int .i64 0), (.int .i64 0), (.int .i64 0), (.int .i64 0), (.int .i64 0), (.int .i64 0)] [(0, 1, (.tmp 20)), (1, 1, (.tmp 21))]), none⟩,
     ⟨(some 23), .plain (.box 42 (.tmp 22)), none⟩,
     ⟨(some 4), .plain (.mv (.tmp 23)), none⟩,
     ⟨(some 5), .plain (.mv (.val (.int .i64 0))), none⟩])
  (.ret)))⟩
theorem ok9 : compFun Try.prog 9 = some fn9 := by kernel_rfl

/-- postrider/postriderlaw20.works -/
def fn10 : AFun := ⟨53, [0], .seq (.ops [⟨(some 0), .plain (.mv (.val (.bool false))), none⟩])
  (.seq (.ops [⟨(some 8), .call (.val (.func 8 [] [])) [(.val (.int .i64 3)), (.val (.int .i64 2))], none⟩,
     ⟨(some 7), .plain (.mv (.tmp 8)), none⟩,
     ⟨(some 9), .plain (.extract (.tmp 7) 0), none⟩,
     ⟨(some 10), .plain (.extract (.tmp 7) 1), none⟩,
     ⟨(some 1), .plain (.mv (.tmp 9)), none⟩,
     ⟨(some 2), .plain (.mv (.tmp 10)), none⟩])
  (.seq (.seq (.ops [⟨(some 11), .plain (.mv (.tmp 1)), none⟩,
      ⟨(some 12), .plain (.eqn .ptr false (.tmp 11) (.val .nilp)), none⟩,
      ⟨(some 13), .plain (.mv (.tmp 12)), none⟩,
      ⟨(some 14), .plain (.mv (.tmp 2)), (some (13, false))⟩,
      ⟨(some 15), .plain (.bin .neq (.tmp 14) (.val (.int .i64 0))), (some (13, false))⟩,
      ⟨(some 16), .plain (.pick (.tmp 13) (.val (.bool true)) (.tmp 15)), none⟩])
   (.cond (.tmp 16) (.seq (.ops [⟨(some 0), .plain (.mv (.val (.bool false))), none⟩])
    (.ret))
   (.skip)))
  (.seq (.ops [⟨(some 18), .plain (.mv (.tmp 1)), none⟩,
     ⟨(some 19), .plain (.build [(.int .i64 0), (.int .i64 0)] [(0, 1, (.val (.int .i64 1))), (1, 1, (.val (.int .i64 4)))]), none⟩,
     ⟨(some 20), .plain (.buildSlice 48 2 [(.int .i64 0), (.int .i64 0)] 1 [(0, 2, (.tmp 19))]), none⟩,
     ⟨(some 21), .call (.val (.func 11 [] [])) [(.tmp 18), (.tmp 20)], none⟩,
     ⟨(some 17), .plain (.mv (.tmp 21)), none⟩,
     ⟨(some 22), .plain (.extract (.tmp 17) 0), none⟩,
     ⟨(some 23), .plain (.extract (.tmp 17) 1), none⟩,
     ⟨(some 3), .plain (.mv (.tmp 22)), none⟩,
     ⟨(some 4), .plain (.mv (.tmp 23)), none⟩])
  (.seq (.ops [⟨(some 25), .plain (.mv (.tmp 1)), none⟩,
     ⟨(some 26), .plain (.build [(.int .i64 0), (.int .i64 0)] [(0, 1, (.val (.int .i64 1))), (1, 1, (.val (.int .i64 9)))]), none⟩,
     ⟨(some 27), .plain (.buildSlice 48 2 [(.int .i64 0), (.int .i64 0)] 1 [(0, 2, (.tmp 26))]), none⟩,
     ⟨(some 28), .call (.val (.func 11 [] [])) [(.tmp 25), (.tmp 27)], none⟩,
     ⟨(some 24), .plain (.mv (.tmp 28)), none⟩,
     ⟨(some 29), .plain (.extract (.tmp 24) 0), none⟩,
     ⟨(some 30), .plain (.extract (.tmp 24) 1), none⟩,
     ⟨(some 5), .plain (.mv (.tmp 29)), none⟩,
     ⟨(some 6), .plain (.mv (.tmp 30)), none⟩])
  (.seq (.ops [⟨(some 31), .plain (.mv (.tmp 3)), none⟩,
     ⟨(some 32), .plain (.lenS (.tmp 31)), none⟩,
     ⟨(some 33), .plain (.bin .eql (.tmp 32) (.val (.int .i64 0))), none⟩,
     ⟨(some 34), .plain (.mv (.tmp 33)), none⟩,
     ⟨(some 35), .plain (.mv (.tmp 5)), (some (34, true))⟩,
     ⟨(some 36), .plain (.buildSlice 3 1 [(.int .i64 0)] 1 [(0, 1, (.val (.int .i64 1)))]), (some (34, true))⟩,
     ⟨(some 37), .call (.val (.func 14 [] [])) [(.tmp 35), (.tmp 36)], (some (34, true))⟩,
     ⟨(some 38), .plain (.pick (.tmp 34) (.tmp 37) (.val (.bool false))), none⟩,
     ⟨(some 39), .plain (.mv (.tmp 38)), none⟩,
     ⟨(some 40), .plain (.mv (.tmp 6)), (some (39, true))⟩,
     ⟨(some 41), .plain (.bin .eql (.tmp 40) (.val (.int .i64 0))), (some (39, true))⟩,
     ⟨(some 42), .plain (.pick (.tmp 39) (.tmp 41) (.val (.bool false))), none⟩,
     ⟨(some 43), .plain (.mv (.tmp 42)), none⟩,
     ⟨(some 44), .plain (.mv (.tmp 1)), (some (43, true))⟩,
     ⟨(some 45), .call (.val (.func 16 [] [])) [(.tmp 44), (.val (.int .i64 1))], (some (43, true))⟩,
     ⟨(some 46), .plain (.bin .eql (.tmp 45) (.val (.int .i64 0))), (some (43, true))⟩,
     ⟨(some 47), .plain (.pick (.tmp 43) (.tmp 46) (.val (.bool false))), none⟩,
     ⟨(some 48), .plain (.mv (.tmp 47)), none⟩,
     ⟨(some 49), .plain (.mv (.tmp 1)), (some (48, true))⟩,
     ⟨(some 50), .call (.val (.func 18 [] [])) [(.tmp 49)], (some (48, true))⟩,
     ⟨(some 51), .plain (.bin .eql (.tmp 50) (.val (.int .i64 2))), (some (48, true))⟩,
     ⟨(some 52), .plain (.pick (.tmp 48) (.tmp 51) (.val (.bool false))), none⟩,
     ⟨(some 0), .plain (.mv (.tmp 52)), none⟩])
  (.ret))))))⟩
theorem ok10 : compFun Try.prog 10 = some fn10 := by kernel_rfl

/-- (*postrider/lag.Watch).Tick -/
def fn11 : AFun := ⟨73, [4, 5], .seq (.ops [⟨(some 2), .plain (.box 24 (.tmp 0)), none⟩,
     ⟨(some 4), .plain (.mv (.val .nils)), none⟩,
     ⟨(some 5), .plain (.mv (.val (.int .i64 0))), none⟩])
  (.seq (.block 0 (.seq (.ops [⟨(some 14), .plain (.load1 (.tmp 2)), none⟩,
       ⟨(some 15), .call (.val (.func 21 [] [])) [(.tmp 14)], none⟩,
       ⟨(some 16), .plain (.not (.tmp 15)), none⟩,
       ⟨(some 13), .plain (.mv (.tmp 16)), none⟩])
    (.cond (.tmp 13) (.seq (.ops [⟨(some 4), .plain (.mv (.val .nils)), none⟩,
        ⟨(some 5), .plain (.mv (.val (.int .i64 1))), none⟩])
     (.ret))
    (.seq (.ops [⟨(some 18), .plain (.mv (.tmp 1)), none⟩,
        ⟨(some 19), .call (.val (.func 22 [] [])) [(.tmp 18)], none⟩,
        ⟨(some 20), .plain (.not (.tmp 19)), none⟩,
        ⟨(some 17), .plain (.mv (.tmp 20)), none⟩])
     (.cond (.tmp 17) (.seq (.ops [⟨(some 4), .plain (.mv (.val .nils)), none⟩,
         ⟨(some 5), .plain (.mv (.val (.int .i64 2))), none⟩])
      (.ret))
     (.skip))))))
  (.seq (.ops [⟨(some 21), .plain (.mkFunc 23 [] [(.tmp 2)]), none⟩,
     ⟨none, .dfr (.tmp 21) [], none⟩])
  (.seq (.ops [⟨(some 22), .plain (.load1 (.tmp 2)), none⟩,
     ⟨(some 23), .plain (.nilCheck (.tmp 22)), none⟩,
     ⟨(some 24), .plain (.addOff 3 (.tmp 23)), none⟩,
     ⟨(some 25), .plain (.loadN 16 (.tmp 24)), none⟩,
     ⟨(some 6), .plain (.alloc 40 [(.int .i64 0), (.int .i64 0), (.int .i64 0), (.int .i64 0), (.int .i64 0), (.int .i64 0), (.int .i64 0), (.int .i64 0), (.int .i64 0), (.int .i64 0), (.int .i64 0), (.int .i64 0), (.int .i64 0), (.int .i64 0), (.int .i64 0), (.int .i64 0)]), none⟩,
     ⟨none, .plain (.store 16 (.tmp 6) (.tmp 25)), none⟩])
  (.seq (.ops [⟨(some 26), .plain (.load1 (.tmp 2)), none⟩,
     ⟨(some 27), .plain (.build [(.int .i64 0), (.int .i64 0), (.int .i64 0), (.int .i64 0), (.int .i64 0), (.int .i64 0), (.int .i64 0), (.int .i64 0), (.int .i64 0), (.int .i64 0), (.int .i64 0), (.int .i64 0), (.int .i64 0), (.int .i64 0), (.int .i64 0), (.int .i64 0)] []), none⟩,
     ⟨(some 28), .plain (.nilCheck (.tmp 26)), none⟩,
     ⟨(some 29), .plain (.addOff 3 (.tmp 28)), none⟩,
     ⟨none, .plain (.store 16 (.tmp 29) (.tmp 27)), none⟩])
  (.seq (.seq (.ops [⟨(some 30), .plain (.mv (.tmp 1)), none⟩,
      ⟨(some 31), .plain (.lenS (.tmp 30)), none⟩,
      ⟨(some 32), .plain (.mv (.val (.int .i64 0))), none⟩])
   (.block 1 (.loop (.seq (.ops [⟨(some 33), .plain (.bin .lss (.tmp 32) (.tmp 31)), none⟩])
     (.seq (.cond (.tmp 33) (.skip)
      (.exit 1))
     (.seq (.block 2 (.seq (.ops [⟨(some 34), .plain (.idxS 2 (.tmp 30) (.tmp 32)), none⟩,
          ⟨(some 35), .plain (.loadN 2 (.tmp 34)), none⟩,
          ⟨(some 8), .plain (.alloc 48 [(.int .i64 0), (.int .i64 0)]), none⟩,
          ⟨none, .plain (.store 2 (.tmp 8) (.tmp 35)), none⟩])
       (.seq (.dops [⟨0, ⟨(some 36), .plain (.addOff 1 (.tmp 8)), none⟩, []⟩,
          ⟨1, ⟨(some 37), .plain (.load1 (.tmp 36)), none⟩, []⟩,
          ⟨2, ⟨(some 38), .plain (.load1 (.tmp 2)), none⟩, []⟩,
          ⟨3, ⟨(some 39), .plain (.nilCheck (.tmp 38)), none⟩, []⟩,
          ⟨4, ⟨(some 40), .plain (.addOff 0 (.tmp 39)), none⟩, []⟩,
          ⟨5, ⟨(some 41), .plain (.load1 (.tmp 40)), none⟩, []⟩,
          ⟨6, ⟨(some 42), .plain (.bin .gtr (.tmp 37) (.tmp 41)), none⟩, []⟩])
       (.cond (.tmp 42) (.dops [⟨0, ⟨(some 43), .plain (.load1 (.tmp 2)), none⟩, []⟩,
          ⟨1, ⟨(some 44), .plain (.addOff 0 (.tmp 8)), none⟩, []⟩,
          ⟨2, ⟨(some 45), .plain (.load1 (.tmp 44)), none⟩, []⟩,
          ⟨3, ⟨(some 46), .plain (.addOff 0 (.tmp 8)), none⟩, []⟩,
          ⟨4, ⟨(some 47), .plain (.load1 (.tmp 46)), none⟩, []⟩,
          ⟨5, ⟨(some 48), .plain (.idxA 16 1 (.tmp 6) (.tmp 47)), none⟩, []⟩,
          ⟨6, ⟨(some 49), .plain (.load1 (.tmp 48)), none⟩, []⟩,
          ⟨7, ⟨(some 50), .plain (.bin .add (.tmp 49) (.val (.int .i64 1))), none⟩, []⟩,
          ⟨8, ⟨(some 51), .plain (.nilCheck (.tmp 43)), none⟩, []⟩,
          ⟨9, ⟨(some 52), .plain (.addOff 3 (.tmp 51)), none⟩, []⟩,
          ⟨10, ⟨(some 53), .plain (.idxA 16 1 (.tmp 52) (.tmp 45)), none⟩, []⟩,
          ⟨11, ⟨none, .plain (.store 1 (.tmp 53) (.tmp 50)), none⟩, []⟩])
       (.skip)))))
     (.ops [⟨(some 54), .plain (.bin .add (.tmp 32) (.val (.int .i64 1))), none⟩,
       ⟨(some 32), .plain (.mv (.tmp 54)), none⟩])))))))
  (.seq (.ops [⟨(some 9), .plain (.alloc 23 [.nils]), none⟩])
  (.seq (.seq (.ops [⟨(some 55), .plain (.load1 (.tmp 2)), none⟩,
      ⟨(some 56), .call (.val (.func 24 [] [])) [(.tmp 55)], none⟩])
   (.block 3 (.rfunc (.tmp 56) [57] (.ops [⟨(some 10), .plain (.mv (.tmp 57)), none⟩])
    (.block 4 (.ops [⟨(some 58), .plain (.load1 (.tmp 9)), none⟩,
        ⟨(some 59), .plain (.mv (.tmp 10)), none⟩,
        ⟨(some 60), .plain (.buildSlice 3 1 [(.int .i64 0)] 1 [(0, 1, (.tmp 59))]), none⟩,
        ⟨(some 61), .plain (.append 3 1 8 (.tmp 58) (.tmp 60)), none⟩,
        ⟨none, .plain (.store 1 (.tmp 9) (.tmp 61)), none⟩])))))
  (.seq (.seq (.ops [⟨(some 62), .plain (.load1 (.tmp 9)), none⟩,
      ⟨(some 63), .plain (.lenS (.tmp 62)), none⟩,
      ⟨(some 64), .plain (.mv (.val (.int .i64 0))), none⟩])
   (.block 5 (.loop (.seq (.ops [⟨(some 65), .plain (.bin .lss (.tmp 64) (.tmp 63)), none⟩])
     (.seq (.cond (.tmp 65) (.skip)
      (.exit 5))
     (.seq (.block 6 (.seq (.ops [⟨(some 66), .plain (.idxS 1 (.tmp 62) (.tmp 64)), none⟩,
          ⟨(some 67), .plain (.load1 (.tmp 66)), none⟩,
          ⟨(some 12), .plain (.mv (.tmp 67)), none⟩])
       (.ops [⟨(some 68), .plain (.load1 (.tmp 2)), none⟩,
         ⟨(some 69), .plain (.mv (.tmp 12)), none⟩,
         ⟨(some 70), .call (.val (.func 15 [] [])) [(.tmp 68), (.tmp 69)], none⟩])))
     (.ops [⟨(some 71), .plain (.bin .add (.tmp 64) (.val (.int .i64 1))), none⟩,
       ⟨(some 64), .plain (.mv (.tmp 71)), none⟩])))))))
  (.seq (.ops [⟨(some 72), .plain (.load1 (.tmp 9)), none⟩,
     ⟨(some 4), .plain (.mv (.tmp 72)), none⟩,
     ⟨(some 5), .plain (.mv (.val (.int .i64 0))), none⟩])
  (.ret))))))))))⟩
theorem ok11 : compFun Try.prog 11 = some fn11 := by kernel_rfl

/-- (*postrider/postriderref20.Watch).Tick -/
def fn12 : AFun := ⟨124, [4, 5], .seq (.ops [⟨(some 4), .plain (.mv (.val .nils)), none⟩,
     ⟨(some 5), .plain (.mv (.val (.int .i64 0))), none⟩])
  (.seq (.seq (.ops [⟨(some 12), .plain (.mv (.tmp 1)), none⟩,
      ⟨(some 13), .plain (.lenS (.tmp 12)), none⟩,
      ⟨(some 14), .plain (.bin .gtr (.tmp 13) (.val (.int .i64 16))), none⟩])
   (.cond (.tmp 14) (.seq (.ops [⟨(some 4), .plain (.mv (.val .nils)), none⟩,
       ⟨(some 5), .plain (.mv (.val (.int .i64 2))), none⟩])
    (.ret))
   (.skip)))
  (.seq (.seq (.ops [⟨(some 6), .plain (.mv (.val (.int .i64 0))), none⟩])
   (.block 0 (.loop (.seq (.seq (.ops [⟨(some 15), .plain (.mv (.tmp 6)), none⟩,
         ⟨(some 16), .plain (.mv (.tmp 1)), none⟩,
         ⟨(some 17), .plain (.lenS (.tmp 16)), none⟩,
         ⟨(some 18), .plain (.bin .lss (.tmp 15) (.tmp 17)), none⟩])
      (.cond (.tmp 18) (.skip)
      (.exit 0)))
     (.seq (.block 1 (.seq (.seq (.ops [⟨(some 21), .plain (.mv (.tmp 1)), none⟩,
           ⟨(some 22), .plain (.mv (.tmp 6)), none⟩,
           ⟨(some 23), .plain (.idxS 2 (.tmp 21) (.tmp 22)), none⟩,
           ⟨(some 24), .plain (.addOff 0 (.tmp 23)), none⟩,
           ⟨(some 25), .plain (.load1 (.tmp 24)), none⟩,
           ⟨(some 26), .plain (.bin .lss (.tmp 25) (.val (.int .i64 0))), none⟩,
           ⟨(some 27), .plain (.mv (.tmp 26)), none⟩,
           ⟨(some 28), .plain (.mv (.tmp 1)), (some (27, false))⟩,
           ⟨(some 29), .plain (.mv (.tmp 6)), (some (27, false))⟩,
           ⟨(some 30), .plain (.idxS 2 (.tmp 28) (.tmp 29)), (some (27, false))⟩,
           ⟨(some 31), .plain (.addOff 0 (.tmp 30)), (some (27, false))⟩,
           ⟨(some 32), .plain (.load1 (.tmp 31)), (some (27, false))⟩,
           ⟨(some 33), .plain (.bin .geq (.tmp 32) (.val (.int .i64 16))), (some (27, false))⟩,
           ⟨(some 34), .plain (.pick (.tmp 27) (.val (.bool true)) (.tmp 33)), none⟩,
           ⟨(some 35), .plain (.mv (.tmp 34)), none⟩,
           ⟨(some 36), .plain (.mv (.tmp 1)), (some (35, false))⟩,
           ⟨(some 37), .plain (.mv (.tmp 6)), (some (35, false))⟩,
           ⟨(some 38), .plain (.idxS 2 (.tmp 36) (.tmp 37)), (some (35, false))⟩,
           ⟨(some 39), .plain (.addOff 1 (.tmp 38)), (some (35, false))⟩,
           ⟨(some 40), .plain (.load1 (.tmp 39)), (some (35, false))⟩,
           ⟨(some 41), .plain (.bin .lss (.tmp 40) (.val (.int .i64 0))), (some (35, false))⟩,
           ⟨(some 42), .plain (.pick (.tmp 35) (.val (.bool true)) (.tmp 41)), none⟩])
        (.cond (.tmp 42) (.seq (.ops [⟨(some 4), .plain (.mv (.val .nils)), none⟩,
            ⟨(some 5), .plain (.mv (.val (.int .i64 2))), none⟩])
         (.ret))
        (.skip)))
       (.seq (.ops [⟨(some 7), .plain (.mv (.val (.int .i64 0))), none⟩])
       (.block 2 (.loop (.seq (.seq (.ops [⟨(some 43), .plain (.mv (.tmp 7)), none⟩,
             ⟨(some 44), .plain (.mv (.tmp 6)), none⟩,
             ⟨(some 45), .plain (.bin .lss (.tmp 43) (.tmp 44)), none⟩])
          (.cond (.tmp 45) (.skip)
          (.exit 2)))
         (.seq (.block 3 (.seq (.dops [⟨0, ⟨(some 48), .plain (.mv (.tmp 1)), none⟩, []⟩,
              ⟨1, ⟨(some 49), .plain (.mv (.tmp 7)), none⟩, []⟩,
              ⟨2, ⟨(some 50), .plain (.idxS 2 (.tmp 48) (.tmp 49)), none⟩, []⟩,
              ⟨3, ⟨(some 51), .plain (.addOff 0 (.tmp 50)), none⟩, []⟩,
              ⟨4, ⟨(some 52), .plain (.load1 (.tmp 51)), none⟩, []⟩,
              ⟨5, ⟨(some 53), .plain (.mv (.tmp 1)), none⟩, []⟩,
              ⟨6, ⟨(some 54), .plain (.mv (.tmp 6)), none⟩, []⟩,
              ⟨7, ⟨(some 55), .plain (.idxS 2 (.tmp 53) (.tmp 54)), none⟩, []⟩,
              ⟨8, ⟨(some 56), .plain (.addOff 0 (.tmp 55)), none⟩, []⟩,
              ⟨9, ⟨(some 57), .plain (.load1 (.tmp 56)), none⟩, []⟩,
              ⟨10, ⟨(some 58), .plain (.bin .eql (.tmp 52) (.tmp 57)), none⟩, []⟩])
           (.cond (.tmp 58) (.seq (.ops [⟨(some 4), .plain (.mv (.val .nils)), none⟩,
               ⟨(some 5), .plain (.mv (.val (.int .i64 2))), none⟩])
            (.ret))
           (.skip))))
         (.ops [⟨(some 46), .plain (.mv (.tmp 7)), none⟩,
           ⟨(some 47), .plain (.bin .add (.tmp 46) (.val (.int .i64 1))), none⟩,
           ⟨(some 7), .plain (.mv (.tmp 47)), none⟩]))))))))
     (.ops [⟨(some 19), .plain (.mv (.tmp 6)), none⟩,
       ⟨(some 20), .plain (.bin .add (.tmp 19) (.val (.int .i64 1))), none⟩,
       ⟨(some 6), .plain (.mv (.tmp 20)), none⟩]))))))
  (.seq (.ops [⟨(some 59), .plain (.build [(.int .i64 0), (.int .i64 0), (.int .i64 0), (.int .i64 0), (.int .i64 0), (.int .i64 0), (.int .i64 0), (.int .i64 0), (.int .i64 0), (.int .i64 0), (.int .i64 0), (.int .i64 0), (.int .i64 0), (.int .i64 0), (.int .i64 0), (.int .i64 0)] []), none⟩,
     ⟨(some 8), .plain (.alloc 40 [(.int .i64 0), (.int .i64 0), (.int .i64 0), (.int .i64 0), (.int .i64 0), (.int .i64 0), (.int .i64 0), (.int .i64 0), (.int .i64 0), (.int .i64 0), (.int .i64 0), (.int .i64 0), (.int .i64 0), (.int .i64 0), (.int .i64 0), (.int .i64 0)]), none⟩,
     ⟨none, .plain (.store 16 (.tmp 8) (.tmp 59)), none⟩])
  (.seq (.seq (.ops [⟨(some 9), .plain (.mv (.val (.int .i64 0))), none⟩])
   (.block 4 (.loop (.seq (.seq (.ops [⟨(some 60), .plain (.mv (.tmp 9)), none⟩,
         ⟨(some 61), .plain (.mv (.tmp 1)), none⟩,
         ⟨(some 62), .plain (.lenS (.tmp 61)), none⟩,
         ⟨(some 63), .plain (.bin .lss (.tmp 60) (.tmp 62)), none⟩])
      (.cond (.tmp 63) (.skip)
      (.exit 4)))
     (.seq (.block 5 (.seq (.dops [⟨0, ⟨(some 66), .plain (.mv (.tmp 1)), none⟩, []⟩,
          ⟨1, ⟨(some 67), .plain (.mv (.tmp 9)), none⟩, []⟩,
          ⟨2, ⟨(some 68), .plain (.idxS 2 (.tmp 66) (.tmp 67)), none⟩, []⟩,
          ⟨3, ⟨(some 69), .plain (.addOff 1 (.tmp 68)), none⟩, []⟩,
          ⟨4, ⟨(some 70), .plain (.load1 (.tmp 69)), none⟩, []⟩,
          ⟨5, ⟨(some 71), .plain (.mv (.tmp 0)), none⟩, []⟩,
          ⟨6, ⟨(some 72), .plain (.nilCheck (.tmp 71)), none⟩, []⟩,
          ⟨7, ⟨(some 73), .plain (.addOff 0 (.tmp 72)), none⟩, []⟩,
          ⟨8, ⟨(some 74), .plain (.load1 (.tmp 73)), none⟩, []⟩,
          ⟨9, ⟨(some 75), .plain (.bin .gtr (.tmp 70) (.tmp 74)), none⟩, []⟩])
       (.cond (.tmp 75) (.dops [⟨0, ⟨(some 76), .plain (.mv (.tmp 1)), none⟩, []⟩,
          ⟨1, ⟨(some 77), .plain (.mv (.tmp 9)), none⟩, []⟩,
          ⟨2, ⟨(some 78), .plain (.idxS 2 (.tmp 76) (.tmp 77)), none⟩, []⟩,
          ⟨3, ⟨(some 79), .plain (.addOff 0 (.tmp 78)), none⟩, []⟩,
          ⟨4, ⟨(some 80), .plain (.load1 (.tmp 79)), none⟩, []⟩,
          ⟨5, ⟨(some 81), .plain (.mv (.tmp 0)), none⟩, []⟩,
          ⟨6, ⟨(some 82), .plain (.mv (.tmp 1)), none⟩, []⟩,
          ⟨7, ⟨(some 83), .plain (.mv (.tmp 9)), none⟩, []⟩,
          ⟨8, ⟨(some 84), .plain (.idxS 2 (.tmp 82) (.tmp 83)), none⟩, []⟩,
          ⟨9, ⟨(some 85), .plain (.addOff 0 (.tmp 84)), none⟩, []⟩,
          ⟨10, ⟨(some 86), .plain (.load1 (.tmp 85)), none⟩, []⟩,
          ⟨11, ⟨(some 87), .plain (.nilCheck (.tmp 81)), none⟩, []⟩,
          ⟨12, ⟨(some 88), .plain (.addOff 3 (.tmp 87)), none⟩, []⟩,
          ⟨13, ⟨(some 89), .plain (.idxA 16 1 (.tmp 88) (.tmp 86)), none⟩, []⟩,
          ⟨14, ⟨(some 90), .plain (.load1 (.tmp 89)), none⟩, []⟩,
          ⟨15, ⟨(some 91), .plain (.bin .add (.tmp 90) (.val (.int .i64 1))), none⟩, []⟩,
          ⟨16, ⟨(some 92), .plain (.idxA 16 1 (.tmp 8) (.tmp 80)), none⟩, []⟩,
          ⟨17, ⟨none, .plain (.store 1 (.tmp 92) (.tmp 91)), none⟩, []⟩])
       (.skip))))
     (.ops [⟨(some 64), .plain (.mv (.tmp 9)), none⟩,
       ⟨(some 65), .plain (.bin .add (.tmp 64) (.val (.int .i64 1))), none⟩,
       ⟨(some 9), .plain (.mv (.tmp 65)), none⟩]))))))
  (.seq (.ops [⟨(some 93), .plain (.buildSlice 3 1 [] 0 []), none⟩,
     ⟨(some 10), .plain (.mv (.tmp 93)), none⟩])
  (.seq (.seq (.ops [⟨(some 11), .plain (.mv (.val (.int .i64 0))), none⟩])
   (.block 6 (.loop (.seq (.seq (.ops [⟨(some 94), .plain (.mv (.tmp 11)), none⟩,
         ⟨(some 95), .plain (.bin .lss (.tmp 94) (.val (.int .i64 16))), none⟩])
      (.cond (.tmp 95) (.skip)
      (.exit 6)))
     (.seq (.block 7 (.seq (.dops [⟨0, ⟨(some 98), .plain (.mv (.tmp 11)), none⟩, []⟩,
          ⟨1, ⟨(some 99), .plain (.idxA 16 1 (.tmp 8) (.tmp 98)), none⟩, []⟩,
          ⟨2, ⟨(some 100), .plain (.load1 (.tmp 99)), none⟩, []⟩,
          ⟨3, ⟨(some 101), .plain (.mv (.tmp 0)), none⟩, []⟩,
          ⟨4, ⟨(some 102), .plain (.nilCheck (.tmp 101)), none⟩, []⟩,
          ⟨5, ⟨(some 103), .plain (.addOff 1 (.tmp 102)), none⟩, []⟩,
          ⟨6, ⟨(some 104), .plain (.load1 (.tmp 103)), none⟩, []⟩,
          ⟨7, ⟨(some 105), .plain (.bin .eql (.tmp 100) (.tmp 104)), none⟩, []⟩])
       (.cond (.tmp 105) (.seq (.ops [⟨(some 106), .plain (.mv (.tmp 10)), none⟩,
           ⟨(some 107), .plain (.mv (.tmp 11)), none⟩,
           ⟨(some 108), .plain (.buildSlice 3 1 [(.int .i64 0)] 1 [(0, 1, (.tmp 107))]), none⟩,
           ⟨(some 109), .plain (.append 3 1 8 (.tmp 106) (.tmp 108)), none⟩,
           ⟨(some 10), .plain (.mv (.tmp 109)), none⟩])
        (.ops [⟨(some 110), .plain (.mv (.tmp 11)), none⟩,
          ⟨(some 111), .plain (.idxA 16 1 (.tmp 8) (.tmp 110)), none⟩,
          ⟨none, .plain (.store 1 (.tmp 111) (.val (.int .i64 0))), none⟩]))
       (.skip))))
     (.ops [⟨(some 96), .plain (.mv (.tmp 11)), none⟩,
       ⟨(some 97), .plain (.bin .add (.tmp 96) (.val (.int .i64 1))), none⟩,
       ⟨(some 11), .plain (.mv (.tmp 97)), none⟩]))))))
  (.seq (.ops [⟨(some 112), .plain (.mv (.tmp 0)), none⟩,
     ⟨(some 113), .plain (.loadN 16 (.tmp 8)), none⟩,
     ⟨(some 114), .plain (.nilCheck (.tmp 112)), none⟩,
     ⟨(some 115), .plain (.addOff 3 (.tmp 114)), none⟩,
     ⟨none, .plain (.store 16 (.tmp 115) (.tmp 113)), none⟩])
  (.seq (.ops [⟨(some 116), .plain (.mv (.tmp 0)), none⟩,
     ⟨(some 117), .plain (.nilCheck (.tmp 116)), none⟩,
     ⟨(some 118), .plain (.addOff 2 (.tmp 117)), none⟩,
     ⟨(some 119), .plain (.load1 (.tmp 118)), none⟩,
     ⟨(some 120), .plain (.bin .add (.tmp 119) (.val (.int .i64 1))), none⟩,
     ⟨(some 121), .plain (.nilCheck (.tmp 116)), none⟩,
     ⟨(some 122), .plain (.addOff 2 (.tmp 121)), none⟩,
     ⟨none, .plain (.store 1 (.tmp 122) (.tmp 120)), none⟩])
  (.seq (.ops [⟨(some 123), .plain (.mv (.tmp 10)), none⟩,
     ⟨(some 4), .plain (.mv (.tmp 123)), none⟩,
     ⟨(some 5), .plain (.mv (.val (.int .i64 0))), none⟩])
  (.ret))))))))))⟩
theorem ok12 : compFun Try.prog 12 = some fn12 := by kernel_rfl

/-- postrider/postriderlaw20.plain -/
def fn13 : AFun := ⟨27, [2], .seq (.ops [⟨(some 2), .plain (.mv (.val .nils)), none⟩])
  (.seq (.ops [⟨(some 5), .plain (.buildSlice 59 2 [] 0 []), none⟩,
     ⟨(some 3), .plain (.mv (.tmp 5)), none⟩])
  (.seq (.seq (.ops [⟨(some 4), .plain (.mv (.val (.int .i64 0))), none⟩])
   (.block 0 (.loop (.seq (.seq (.ops [⟨(some 6), .plain (.mv (.tmp 4)), none⟩,
         ⟨(some 7), .plain (.mv (.tmp 0)), none⟩,
         ⟨(some 8), .plain (.lenS (.tmp 7)), none⟩,
         ⟨(some 9), .plain (.bin .lss (.tmp 6) (.tmp 8)), none⟩])
      (.cond (.tmp 9) (.skip)
      (.exit 0)))
     (.seq (.block 1 (.dops [⟨0, ⟨(some 12), .plain (.mv (.tmp 3)), none⟩, []⟩,
         ⟨1, ⟨(some 13), .plain (.mv (.tmp 0)), none⟩, []⟩,
         ⟨2, ⟨(some 14), .plain (.mv (.tmp 4)), none⟩, []⟩,
         ⟨3, ⟨(some 15), .plain (.idxS 2 (.tmp 13) (.tmp 14)), none⟩, []⟩,
         ⟨4, ⟨(some 16), .plain (.addOff 0 (.tmp 15)), none⟩, []⟩,
         ⟨5, ⟨(some 17), .plain (.load1 (.tmp 16)), none⟩, []⟩,
         ⟨6, ⟨(some 18), .plain (.mv (.tmp 0)), none⟩, []⟩,
         ⟨7, ⟨(some 19), .plain (.mv (.tmp 4)), none⟩, []⟩,
         ⟨8, ⟨(some 20), .plain (.idxS 2 (.tmp 18) (.tmp 19)), none⟩, []⟩,
         ⟨9, ⟨(some 21), .plain (.addOff 1 (.tmp 20)), none⟩, []⟩,
         ⟨10, ⟨(some 22), .plain (.load1 (.tmp 21)), none⟩, []⟩,
         ⟨11, ⟨(some 23), .plain (.build [(.int .i64 0), (.int .i64 0)] [(0, 1, (.tmp 17)), (1, 1, (.tmp 22))]), none⟩, []⟩,
         ⟨12, ⟨(some 24), .plain (.buildSlice 59 2 [(.int .i64 0), (.int .i64 0)] 1 [(0, 2, (.tmp 23))]), none⟩, []⟩,
         ⟨13, ⟨(some 25), .plain (.append 59 2 16 (.tmp 12) (.tmp 24)), none⟩, []⟩,
         ⟨14, ⟨(some 3), .plain (.mv (.tmp 25)), none⟩, []⟩]))
     (.ops [⟨(some 10), .plain (.mv (.tmp 4)), none⟩,
       ⟨(some 11), .plain (.bin .add (.tmp 10) (.val (.int .i64 1))), none⟩,
       ⟨(some 4), .plain (.mv (.tmp 11)), none⟩]))))))
  (.seq (.ops [⟨(some 26), .plain (.mv (.tmp 3)), none⟩,
     ⟨(some 2), .plain (.mv (.tmp 26)), none⟩])
  (.ret))))⟩
theorem ok13 : compFun Try.prog 13 = some fn13 := by kernel_rfl

/-- postrider/postriderbase.SameInts -/
def fn14 : AFun := ⟨26, [4], .seq (.ops [⟨(some 4), .plain (.mv (.val (.bool false))), none⟩])
  (.seq (.seq (.ops [⟨(some 6), .plain (.mv (.tmp 0)), none⟩,
      ⟨(some 7), .plain (.lenS (.tmp 6)), none⟩,
      ⟨(some 8), .plain (.mv (.tmp 1)), none⟩,
      ⟨(some 9), .plain (.lenS (.tmp 8)), none⟩,
      ⟨(some 10), .plain (.bin .neq (.tmp 7) (.tmp 9)), none⟩])
   (.cond (.tmp 10) (.seq (.ops [⟨(some 4), .plain (.mv (.val (.bool false))), none⟩])
    (.ret))
   (.skip)))
  (.seq (.seq (.ops [⟨(some 5), .plain (.mv (.val (.int .i64 0))), none⟩])
   (.block 0 (.loop (.seq (.seq (.ops [⟨(some 11), .plain (.mv (.tmp 5)), none⟩,
         ⟨(some 12), .plain (.mv (.tmp 0)), none⟩,
         ⟨(some 13), .plain (.lenS (.tmp 12)), none⟩,
         ⟨(some 14), .plain (.bin .lss (.tmp 11) (.tmp 13)), none⟩])
      (.cond (.tmp 14) (.skip)
      (.exit 0)))
     (.seq (.block 1 (.seq (.dops [⟨0, ⟨(some 17), .plain (.mv (.tmp 0)), none⟩, []⟩,
          ⟨1, ⟨(some 18), .plain (.mv (.tmp 5)), none⟩, []⟩,
          ⟨2, ⟨(some 19), .plain (.idxS 1 (.tmp 17) (.tmp 18)), none⟩, []⟩,
          ⟨3, ⟨(some 20), .plain (.load1 (.tmp 19)), none⟩, []⟩,
          ⟨4, ⟨(some 21), .plain (.mv (.tmp 1)), none⟩, []⟩,
          ⟨5, ⟨(some 22), .plain (.mv (.tmp 5)), none⟩, []⟩,
          ⟨6, ⟨(some 23), .plain (.idxS 1 (.tmp 21) (.tmp 22)), none⟩, []⟩,
          ⟨7, ⟨(some 24), .plain (.load1 (.tmp 23)), none⟩, []⟩,
          ⟨8, ⟨(some 25), .plain (.bin .neq (.tmp 20) (.tmp 24)), none⟩, []⟩])
       (.cond (.tmp 25) (.seq (.ops [⟨(some 4), .plain (.mv (.val (.bool false))), none⟩])
        (.ret))
       (.skip))))
     (.ops [⟨(some 15), .plain (.mv (.tmp 5)), none⟩,
       ⟨(some 16), .plain (.bin .add (.tmp 15) (.val (.int .i64 1))), none⟩,
       ⟨(some 5), .plain (.mv (.tmp 16)), none⟩]))))))
  (.seq (.ops [⟨(some 4), .plain (.mv (.val (.bool true))), none⟩])
  (.ret))))⟩
theorem ok14 : compFun Try.prog 14 = some fn14 := by kernel_rfl

/-- (*postrider/lag.Watch).Forget -/
def fn15 : AFun := ⟨15, [], .seq (.ops [⟨(some 4), .plain (.mv (.tmp 0)), none⟩,
     ⟨(some 5), .call (.val (.func 21 [] [])) [(.tmp 4)], none⟩,
     ⟨(some 6), .plain (.mv (.tmp 5)), none⟩,
     ⟨(some 7), .plain (.mv (.tmp 1)), (some (6, true))⟩,
     ⟨(some 8), .call (.val (.func 25 [] [])) [(.tmp 7)], (some (6, true))⟩,
     ⟨(some 9), .plain (.pick (.tmp 6) (.tmp 8) (.val (.bool false))), none⟩])
  (.cond (.tmp 9) (.ops [⟨(some 10), .plain (.mv (.tmp 0)), none⟩,
     ⟨(some 11), .plain (.mv (.tmp 1)), none⟩,
     ⟨(some 12), .plain (.nilCheck (.tmp 10)), none⟩,
     ⟨(some 13), .plain (.addOff 3 (.tmp 12)), none⟩,
     ⟨(some 14), .plain (.idxA 16 1 (.tmp 13) (.tmp 11)), none⟩,
     ⟨none, .plain (.store 1 (.tmp 14) (.val (.int .i64 0))), none⟩])
  (.skip))⟩
theorem ok15 : compFun Try.prog 15 = some fn15 := by kernel_rfl

/-- (*postrider/lag.Watch).Run -/
def fn16 : AFun := ⟨19, [4], .seq (.ops [⟨(some 4), .plain (.mv (.val (.int .i64 0))), none⟩])
  (.seq (.seq (.ops [⟨(some 5), .plain (.mv (.tmp 0)), none⟩,
      ⟨(some 6), .call (.val (.func 21 [] [])) [(.tmp 5)], none⟩,
      ⟨(some 7), .plain (.not (.tmp 6)), none⟩,
      ⟨(some 8), .plain (.mv (.tmp 7)), none⟩,
      ⟨(some 9), .plain (.mv (.tmp 1)), (some (8, false))⟩,
      ⟨(some 10), .call (.val (.func 25 [] [])) [(.tmp 9)], (some (8, false))⟩,
      ⟨(some 11), .plain (.not (.tmp 10)), (some (8, false))⟩,
      ⟨(some 12), .plain (.pick (.tmp 8) (.val (.bool true)) (.tmp 11)), none⟩])
   (.cond (.tmp 12) (.seq (.ops [⟨(some 4), .plain (.mv (.val (.int .i64 0))), none⟩])
    (.ret))
   (.skip)))
  (.seq (.ops [⟨(some 13), .plain (.mv (.tmp 0)), none⟩,
     ⟨(some 14), .plain (.mv (.tmp 1)), none⟩,
     ⟨(some 15), .plain (.nilCheck (.tmp 13)), none⟩,
     ⟨(some 16), .plain (.addOff 3 (.tmp 15)), none⟩,
     ⟨(some 17), .plain (.idxA 16 1 (.tmp 16) (.tmp 14)), none⟩,
     ⟨(some 18), .plain (.load1 (.tmp 17)), none⟩,
     ⟨(some 4), .plain (.mv (.tmp 18)), none⟩])
  (.ret)))⟩
theorem ok16 : compFun Try.prog 16 = some fn16 := by kernel_rfl

/-- (*postrider/postriderref20.Watch).Run -/
def fn17 : AFun := ⟨17, [4], .seq (.ops [⟨(some 4), .plain (.mv (.val (.int .i64 0))), none⟩])
  (.seq (.seq (.ops [⟨(some 5), .plain (.mv (.tmp 1)), none⟩,
      ⟨(some 6), .plain (.bin .lss (.tmp 5) (.val (.int .i64 0))), none⟩,
      ⟨(some 7), .plain (.mv (.tmp 6)), none⟩,
      ⟨(some 8), .plain (.mv (.tmp 1)), (some (7, false))⟩,
      ⟨(some 9), .plain (.bin .geq (.tmp 8) (.val (.int .i64 16))), (some (7, false))⟩,
      ⟨(some 10), .plain (.pick (.tmp 7) (.val (.bool true)) (.tmp 9)), none⟩])
   (.cond (.tmp 10) (.seq (.ops [⟨(some 4), .plain (.mv (.val (.int .i64 0))), none⟩])
    (.ret))
   (.skip)))
  (.seq (.ops [⟨(some 11), .plain (.mv (.tmp 0)), none⟩,
     ⟨(some 12), .plain (.mv (.tmp 1)), none⟩,
     ⟨(some 13), .plain (.nilCheck (.tmp 11)), none⟩,
     ⟨(some 14), .plain (.addOff 3 (.tmp 13)), none⟩,
     ⟨(some 15), .plain (.idxA 16 1 (.tmp 14) (.tmp 12)), none⟩,
     ⟨(some 16), .plain (.load1 (.tmp 15)), none⟩,
     ⟨(some 4), .plain (.mv (.tmp 16)), none⟩])
  (.ret)))⟩
theorem ok17 : compFun Try.prog 17 = some fn17 := by kernel_rfl

/-- (*postrider/lag.Watch).Ticks -/
def fn18 : AFun := ⟨10, [2], .seq (.ops [⟨(some 2), .plain (.mv (.val (.int .i64 0))), none⟩])
  (.seq (.seq (.ops [⟨(some 3), .plain (.mv (.tmp 0)), none⟩,
      ⟨(some 4), .call (.val (.func 21 [] [])) [(.tmp 3)], none⟩,
      ⟨(some 5), .plain (.not (.tmp 4)), none⟩])
   (.cond (.tmp 5) (.seq (.ops [⟨(some 2), .plain (.mv (.val (.int .i64 0))), none⟩])
    (.ret))
   (.skip)))
  (.seq (.ops [⟨(some 6), .plain (.mv (.tmp 0)), none⟩,
     ⟨(some 7), .plain (.nilCheck (.tmp 6)), none⟩,
     ⟨(some 8), .plain (.addOff 2 (.tmp 7)), none⟩,
     ⟨(some 9), .plain (.load1 (.tmp 8)), none⟩,
     ⟨(some 2), .plain (.mv (.tmp 9)), none⟩])
  (.ret)))⟩
theorem ok18 : compFun Try.prog 18 = some fn18 := by kernel_rfl

/-- postrider/postriderbase.Among -/
def fn19 : AFun := ⟨13, [4], .seq (.ops [⟨(some 4), .plain (.mv (.val (.int .i64 0))), none⟩])
  (.seq (.seq (.ops [⟨(some 5), .plain (.mv (.tmp 1)), none⟩,
      ⟨(some 6), .plain (.bin .lss (.tmp 5) (.val (.int .i64 1))), none⟩])
   (.cond (.tmp 6) (.seq (.ops [⟨(some 4), .plain (.mv (.val (.int .i64 0))), none⟩])
    (.ret))
   (.skip)))
  (.seq (.ops [⟨(some 7), .plain (.mv (.tmp 0)), none⟩,
     ⟨(some 8), .plain (.conv .u64 (.tmp 7)), none⟩,
     ⟨(some 9), .plain (.mv (.tmp 1)), none⟩,
     ⟨(some 10), .plain (.conv .u64 (.tmp 9)), none⟩,
     ⟨(some 11), .plain (.bin .rem (.tmp 8) (.tmp 10)), none⟩,
     ⟨(some 12), .plain (.conv .i64 (.tmp 11)), none⟩,
     ⟨(some 4), .plain (.mv (.tmp 12)), none⟩])
  (.ret)))⟩
theorem ok19 : compFun Try.prog 19 = some fn19 := by kernel_rfl

/-- postrider/postriderbase.HasInt -/
def fn20 : AFun := ⟨18, [4], .seq (.ops [⟨(some 4), .plain (.mv (.val (.bool false))), none⟩])
  (.seq (.seq (.ops [⟨(some 5), .plain (.mv (.val (.int .i64 0))), none⟩])
   (.block 0 (.loop (.seq (.seq (.ops [⟨(some 6), .plain (.mv (.tmp 5)), none⟩,
         ⟨(some 7), .plain (.mv (.tmp 0)), none⟩,
         ⟨(some 8), .plain (.lenS (.tmp 7)), none⟩,
         ⟨(some 9), .plain (.bin .lss (.tmp 6) (.tmp 8)), none⟩])
      (.cond (.tmp 9) (.skip)
      (.exit 0)))
     (.seq (.block 1 (.seq (.ops [⟨(some 12), .plain (.mv (.tmp 0)), none⟩,
          ⟨(some 13), .plain (.mv (.tmp 5)), none⟩,
          ⟨(some 14), .plain (.idxS 1 (.tmp 12) (.tmp 13)), none⟩,
          ⟨(some 15), .plain (.load1 (.tmp 14)), none⟩,
          ⟨(some 16), .plain (.mv (.tmp 1)), none⟩,
          ⟨(some 17), .plain (.bin .eql (.tmp 15) (.tmp 16)), none⟩])
       (.cond (.tmp 17) (.seq (.ops [⟨(some 4), .plain (.mv (.val (.bool true))), none⟩])
        (.ret))
       (.skip))))
     (.ops [⟨(some 10), .plain (.mv (.tmp 5)), none⟩,
       ⟨(some 11), .plain (.bin .add (.tmp 10) (.val (.int .i64 1))), none⟩,
       ⟨(some 5), .plain (.mv (.tmp 11)), none⟩]))))))
  (.seq (.ops [⟨(some 4), .plain (.mv (.val (.bool false))), none⟩])
  (.ret)))⟩
theorem ok20 : compFun Try.prog 20 = some fn20 := by kernel_rfl

/-- (*postrider/lag.Watch).is -/
def fn21 : AFun := ⟨12, [2], .seq (.ops [⟨(some 2), .plain (.mv (.val (.bool false))), none⟩])
  (.seq (.ops [⟨(some 3), .plain (.mv (.tmp 0)), none⟩,
     ⟨(some 4), .plain (.eqn .ptr true (.tmp 3) (.val .nilp)), none⟩,
     ⟨(some 5), .plain (.mv (.tmp 4)), none⟩,
     ⟨(some 6), .plain (.mv (.tmp 0)), (some (5, true))⟩,
     ⟨(some 7), .plain (.nilCheck (.tmp 6)), (some (5, true))⟩,
     ⟨(some 8), .plain (.addOff 1 (.tmp 7)), (some (5, true))⟩,
     ⟨(some 9), .plain (.load1 (.tmp 8)), (some (5, true))⟩,
     ⟨(some 10), .plain (.bin .gtr (.tmp 9) (.val (.int .i64 0))), (some (5, true))⟩,
     ⟨(some 11), .plain (.pick (.tmp 5) (.tmp 10) (.val (.bool false))), none⟩,
     ⟨(some 2), .plain (.mv (.tmp 11)), none⟩])
  (.ret))⟩
theorem ok21 : compFun Try.prog 21 = some fn21 := by kernel_rfl

/-- postrider/lag.right -/
def fn22 : AFun := ⟨32, [2], .seq (.ops [⟨(some 2), .plain (.mv (.val (.bool false))), none⟩])
  (.seq (.ops [⟨(some 6), .plain (.build [(.bool false), (.bool false), (.bool false), (.bool false), (.bool false), (.bool false), (.bool false), (.bool false), (.bool false), (.bool false), (.bool false), (.bool false), (.bool false), (.bool false), (.bool false), (.bool false)] []), none⟩,
     ⟨(some 3), .plain (.alloc 61 [(.bool false), (.bool false), (.bool false), (.bool false), (.bool false), (.bool false), (.bool false), (.bool false), (.bool false), (.bool false), (.bool false), (.bool false), (.bool false), (.bool false), (.bool false), (.bool false)]), none⟩,
     ⟨none, .plain (.store 16 (.tmp 3) (.tmp 6)), none⟩])
  (.seq (.seq (.ops [⟨(some 7), .plain (.mv (.tmp 0)), none⟩,
      ⟨(some 8), .plain (.lenS (.tmp 7)), none⟩,
      ⟨(some 9), .plain (.mv (.val (.int .i64 0))), none⟩])
   (.block 0 (.loop (.seq (.ops [⟨(some 10), .plain (.bin .lss (.tmp 9) (.tmp 8)), none⟩])
     (.seq (.cond (.tmp 10) (.skip)
      (.exit 0))
     (.seq (.block 1 (.seq (.ops [⟨(some 11), .plain (.idxS 2 (.tmp 7) (.tmp 9)), none⟩,
          ⟨(some 12), .plain (.loadN 2 (.tmp 11)), none⟩,
          ⟨(some 5), .plain (.alloc 48 [(.int .i64 0), (.int .i64 0)]), none⟩,
          ⟨none, .plain (.store 2 (.tmp 5) (.tmp 12)), none⟩])
       (.seq (.seq (.ops [⟨(some 13), .plain (.addOff 0 (.tmp 5)), none⟩,
           ⟨(some 14), .plain (.load1 (.tmp 13)), none⟩,
           ⟨(some 15), .call (.val (.func 25 [] [])) [(.tmp 14)], none⟩,
           ⟨(some 16), .plain (.not (.tmp 15)), none⟩,
           ⟨(some 17), .plain (.mv (.tmp 16)), none⟩,
           ⟨(some 18), .plain (.addOff 1 (.tmp 5)), (some (17, false))⟩,
           ⟨(some 19), .plain (.load1 (.tmp 18)), (some (17, false))⟩,
           ⟨(some 20), .plain (.bin .lss (.tmp 19) (.val (.int .i64 0))), (some (17, false))⟩,
           ⟨(some 21), .plain (.pick (.tmp 17) (.val (.bool true)) (.tmp 20)), none⟩,
           ⟨(some 22), .plain (.mv (.tmp 21)), none⟩,
           ⟨(some 23), .plain (.addOff 0 (.tmp 5)), (some (22, false))⟩,
           ⟨(some 24), .plain (.load1 (.tmp 23)), (some (22, false))⟩,
           ⟨(some 25), .plain (.idxA 16 1 (.tmp 3) (.tmp 24)), (some (22, false))⟩,
           ⟨(some 26), .plain (.load1 (.tmp 25)), (some (22, false))⟩,
           ⟨(some 27), .plain (.pick (.tmp 22) (.val (.bool true)) (.tmp 26)), none⟩])
        (.cond (.tmp 27) (.seq (.ops [⟨(some 2), .plain (.mv (.val (.bool false))), none⟩])
         (.ret))
        (.skip)))
       (.ops [⟨(some 28), .plain (.addOff 0 (.tmp 5)), none⟩,
         ⟨(some 29), .plain (.load1 (.tmp 28)), none⟩,
         ⟨(some 30), .plain (.idxA 16 1 (.tmp 3) (.tmp 29)), none⟩,
         ⟨none, .plain (.store 1 (.tmp 30) (.val (.bool true))), none⟩]))))
     (.ops [⟨(some 31), .plain (.bin .add (.tmp 9) (.val (.int .i64 1))), none⟩,
       ⟨(some 9), .plain (.mv (.tmp 31)), none⟩])))))))
  (.seq (.ops [⟨(some 2), .plain (.mv (.val (.bool true))), none⟩])
  (.ret))))⟩
theorem ok22 : compFun Try.prog 22 = some fn22 := by kernel_rfl

/-- (*postrider/lag.Watch).Tick$1 -/
def fn23 : AFun := ⟨8, [], .ops [⟨(some 1), .plain (.load1 (.tmp 0)), none⟩,
    ⟨(some 2), .plain (.nilCheck (.tmp 1)), none⟩,
    ⟨(some 3), .plain (.addOff 2 (.tmp 2)), none⟩,
    ⟨(some 4), .plain (.load1 (.tmp 3)), none⟩,
    ⟨(some 5), .plain (.bin .add (.tmp 4) (.val (.int .i64 1))), none⟩,
    ⟨(some 6), .plain (.nilCheck (.tmp 1)), none⟩,
    ⟨(some 7), .plain (.addOff 2 (.tmp 6)), none⟩,
    ⟨none, .plain (.store 1 (.tmp 7) (.tmp 5)), none⟩]⟩
theorem ok23 : compFun Try.prog 23 = some fn23 := by kernel_rfl

/-- (*postrider/lag.Watch).slow -/
def fn24 : AFun := ⟨4, [2], .seq (.ops [⟨(some 1), .plain (.box 24 (.tmp 0)), none⟩,
     ⟨(some 2), .plain (.mv (.val .nilf)), none⟩])
  (.seq (.ops [⟨(some 3), .plain (.mkFunc 26 [] [(.tmp 1)]), none⟩,
     ⟨(some 2), .plain (.mv (.tmp 3)), none⟩])
  (.ret))⟩
theorem ok24 : compFun Try.prog 24 = some fn24 := by kernel_rfl

/-- postrider/lag.session -/
def fn25 : AFun := ⟨9, [2], .seq (.ops [⟨(some 2), .plain (.mv (.val (.bool false))), none⟩])
  (.seq (.ops [⟨(some 3), .plain (.mv (.tmp 0)), none⟩,
     ⟨(some 4), .plain (.bin .geq (.tmp 3) (.val (.int .i64 0))), none⟩,
     ⟨(some 5), .plain (.mv (.tmp 4)), none⟩,
     ⟨(some 6), .plain (.mv (.tmp 0)), (some (5, true))⟩,
     ⟨(some 7), .plain (.bin .lss (.tmp 6) (.val (.int .i64 16))), (some (5, true))⟩,
     ⟨(some 8), .plain (.pick (.tmp 5) (.tmp 7) (.val (.bool false))), none⟩,
     ⟨(some 2), .plain (.mv (.tmp 8)), none⟩])
  (.ret))⟩
theorem ok25 : compFun Try.prog 25 = some fn25 := by kernel_rfl

/-- (*postrider/lag.Watch).slow$1 -/
def fn26 : AFun := ⟨26, [], .seq (.ops [⟨(some 5), .plain (.load1 (.tmp 1)), none⟩,
     ⟨(some 6), .plain (.nilCheck (.tmp 5)), none⟩,
     ⟨(some 7), .plain (.addOff 3 (.tmp 6)), none⟩,
     ⟨(some 8), .plain (.loadN 16 (.tmp 7)), none⟩,
     ⟨(some 9), .plain (.mv (.val (.int .i64 0))), none⟩])
  (.block 0 (.loop (.seq (.ops [⟨(some 10), .plain (.bin .lss (.tmp 9) (.val (.int .i64 16))), none⟩])
    (.seq (.cond (.tmp 10) (.skip)
     (.exit 0))
    (.seq (.block 1 (.seq (.ops [⟨(some 11), .plain (.mv (.tmp 9)), none⟩,
         ⟨(some 12), .plain (.index1 16 1 (.tmp 8) (.tmp 9)), none⟩,
         ⟨(some 3), .plain (.mv (.tmp 11)), none⟩,
         ⟨(some 4), .plain (.mv (.tmp 12)), none⟩])
      (.seq (.ops [⟨(some 13), .plain (.mv (.tmp 4)), none⟩,
         ⟨(some 14), .plain (.load1 (.tmp 1)), none⟩,
         ⟨(some 15), .plain (.nilCheck (.tmp 14)), none⟩,
         ⟨(some 16), .plain (.addOff 1 (.tmp 15)), none⟩,
         ⟨(some 17), .plain (.load1 (.tmp 16)), none⟩,
         ⟨(some 18), .plain (.bin .eql (.tmp 13) (.tmp 17)), none⟩,
         ⟨(some 19), .plain (.mv (.tmp 18)), none⟩,
         ⟨(some 20), .plain (.mv (.tmp 0)), (some (19, true))⟩,
         ⟨(some 21), .plain (.mv (.tmp 3)), (some (19, true))⟩,
         ⟨(some 22), .call (.tmp 20) [(.tmp 21)], (some (19, true))⟩,
         ⟨(some 23), .plain (.not (.tmp 22)), (some (19, true))⟩,
         ⟨(some 24), .plain (.pick (.tmp 19) (.tmp 23) (.val (.bool false))), none⟩])
      (.cond (.tmp 24) (.ret)
      (.skip)))))
    (.ops [⟨(some 25), .plain (.bin .add (.tmp 9) (.val (.int .i64 1))), none⟩,
      ⟨(some 9), .plain (.mv (.tmp 25)), none⟩]))))))⟩
theorem ok26 : compFun Try.prog 26 = some fn26 := by kernel_rfl

end Go.Proofs.Ythcaiahfifpdiaa

/- The table of the functions. -/
namespace Go.Proofs.Ythcaiahfifpdiaa
open Go.AL

def pgAll : List (FuncId × AFun) := [(2, fn2), (3, fn3), (4, fn4), (5, fn5), (6, fn6), (7, fn7), (8, fn8), (9, fn9), (10, fn10), (11, fn11), (12, fn12), (13, fn13), (14, fn14), (15, fn15), (16, fn16), (17, fn17), (18, fn18), (19, fn19), (20, fn20), (21, fn21), (22, fn22), (23, fn23), (24, fn24), (25, fn25), (26, fn26)]
/-- All of a list but some. -/
def pgOf (l : List (FuncId × AFun)) (f : FuncId) : Option AFun :=
  match l with
  | [] => none
  | p :: r => if p.1 = f then some p.2 else pgOf r f
def AllOk (P : Program) : List (FuncId × AFun) → Prop
  | [] => True
  | p :: r => compFun P p.1 = some p.2 ∧ AllOk P r
theorem AllOk.ok {P : Program} : ∀ {l : List (FuncId × AFun)}, AllOk P l → AProgOk P (pgOf l)
  | [], _, f, af, h => by simp [pgOf] at h
  | p :: r, hh, f, af, h => by
    simp only [pgOf] at h
    split at h
    · rename_i he
      injection h with h
      rw [← he, ← h]; exact hh.1
    · exact AllOk.ok hh.2 f af h
theorem all_ok : AllOk Try.prog pgAll := ⟨ok2, ok3, ok4, ok5, ok6, ok7, ok8, ok9, ok10, ok11, ok12, ok13, ok14, ok15, ok16, ok17, ok18, ok19, ok20, ok21, ok22, ok23, ok24, ok25, ok26, trivial⟩
theorem mixed : Try.prog.follows .mixedOrders = true := by kernel_rfl

end Go.Proofs.Ythcaiahfifpdiaa

namespace Go.Proofs.Ythcaiahfifpdiaa
open Go.AL Go.SL

/-- One of a tick's list may be. -/
def GoodAt (id bh : Int → Int) (i : Int) : Prop := 0 ≤ id i ∧ id i < 16 ∧ 0 ≤ bh i ∧ ∀ k, 0 ≤ k → k < i → id k ≠ id i
/-- A tick's list may be. -/
def RightP (id bh : Int → Int) (n : Int) : Prop := ∀ i, 0 ≤ i → i < n → GoodAt id bh i

structure GR where
  id : Int → Int
  bh : Int → Int
  n : Int
def conR : Con where
  G := GR
  rom := fun g => [([.arr (.sym g.n) 2 (pairE g.id g.bh)], 48)]
  args := fun g => [.sl (.arg 0) (.lit 0) 2 (.sym g.n) none]
  heap := fun _ => []
  nx := 0
  side := fun g => 0 ≤ g.n ∧ g.n ≤ 1099511627776
  alts := [{ G2 := Unit, cond := fun _ _ => True, res := fun g _ => .bool (.sym (RightP g.id g.bh g.n)), heap := fun _ _ => [], nx := 0 }]
structure LR where
  i : Int
  m : Int → Prop
def cfgR (g : GR) : Cfg := mkCfg (pgOf pgAll) []
  [((22, 0), mkL fn22 0 LR (fun l => 0 ≤ l.i ∧ l.i ≤ g.n ∧ RightP g.id g.bh l.i ∧ ∀ j, l.m j ↔ ∃ k, 0 ≤ k ∧ k < l.i ∧ g.id k = j) (fun l => (g.n - l.i).toNat)
    (fun l => [(9, iv l.i)]) (fun l => [(0, .cells [.arr (.lit 16) 1 (boolE l.m)] 61)]) 0)]
end Go.Proofs.Ythcaiahfifpdiaa

section
namespace Go.Proofs.Ythcaiahfifpdiaa
open Go.AL Go.SL
--BEGIN
set_option maxRecDepth 100000
set_option linter.unusedVariables false
theorem vcR : 
    ∀ (g : GR), 0 ≤ GR.n g ∧ GR.n g ≤ 1099511627776 → 0 ≤ GR.n g ∧ (∃ (g_1 : LR), (0 ≤ LR.i g_1 ∧ LR.i g_1 ≤ GR.n g ∧ RightP (GR.id g) (GR.bh g) (LR.i g_1) ∧ ∀ (j : Int), LR.m g_1 j ↔ ∃ (k : Int), 0 ≤ k ∧
    k < LR.i g_1 ∧ GR.id g k = j) ∧ GR.n g = GR.n g ∧ Bid.arg 0 = Bid.arg 0 ∧ GR.n g = GR.n g ∧ LR.i g_1 = 0 ∧ (∀ (j : Int), 0 ≤ j → j < 16 → j < 16 ∧ ¬LR.m g_1 j ∧ True) ∧ True) ∧ ∀ (g_1 : LR), (0 ≤ LR.i
    g_1 ∧ LR.i g_1 ≤ GR.n g ∧ RightP (GR.id g) (GR.bh g) (LR.i g_1) ∧ ∀ (j : Int), LR.m g_1 j ↔ ∃ (k : Int), 0 ≤ k ∧ k < LR.i g_1 ∧ GR.id g k = j) → (LR.i g_1 < GR.n g → 0 ≤ LR.i g_1 ∧ LR.i g_1 < GR.n g ∧
    0 ≤ LR.i g_1 ∧ LR.i g_1 < GR.n g ∧ (0 ≤ GR.id g (LR.i g_1) → (¬GR.id g (LR.i g_1) < 16 → ∃ (g2 : Unit), True ∧ ¬RightP (GR.id g) (GR.bh g) (GR.n g) ∧ True) ∧ (¬¬GR.id g (LR.i g_1) < 16 → (GR.bh g
    (LR.i g_1) < 0 → ∃ (g2 : Unit), True ∧ ¬RightP (GR.id g) (GR.bh g) (GR.n g) ∧ True) ∧ (¬GR.bh g (LR.i g_1) < 0 → 0 ≤ GR.id g (LR.i g_1) ∧ GR.id g (LR.i g_1) < 16 ∧ 0 ≤ GR.id g (LR.i g_1) ∧ GR.id g
    (LR.i g_1) < 16 ∧ (LR.m g_1 (GR.id g (LR.i g_1)) → ∃ (g2 : Unit), True ∧ ¬RightP (GR.id g) (GR.bh g) (GR.n g) ∧ True) ∧ (¬LR.m g_1 (GR.id g (LR.i g_1)) → 0 ≤ GR.id g (LR.i g_1) ∧ GR.id g (LR.i g_1) <
    16 ∧ 0 ≤ GR.id g (LR.i g_1) ∧ GR.id g (LR.i g_1) < 16 ∧ (-9223372036854775808 ≤ LR.i g_1 + 1 ∧ LR.i g_1 + 1 ≤ 9223372036854775807) ∧ ∃ (g' : LR), (0 ≤ LR.i g' ∧ LR.i g' ≤ GR.n g ∧ RightP (GR.id g)
    (GR.bh g) (LR.i g') ∧ ∀ (j : Int), LR.m g' j ↔ ∃ (k : Int), 0 ≤ k ∧ k < LR.i g' ∧ GR.id g k = j) ∧ Int.toNat (GR.n g - LR.i g') < Int.toNat (GR.n g - LR.i g_1) ∧ GR.n g = GR.n g ∧ Bid.arg 0 = Bid.arg
    0 ∧ GR.n g = GR.n g ∧ LR.i g' = LR.i g_1 + 1 ∧ (∀ (j : Int), 0 ≤ j → j < 16 → (j = GR.id g (LR.i g_1) → LR.m g' j ∧ True) ∧ (¬j = GR.id g (LR.i g_1) → (LR.m g' j ↔ LR.m g_1 j) ∧ True)) ∧ True)))) ∧
    (¬0 ≤ GR.id g (LR.i g_1) → ∃ (g2 : Unit), True ∧ ¬RightP (GR.id g) (GR.bh g) (GR.n g) ∧ True)) ∧ (¬LR.i g_1 < GR.n g → ∃ (g2 : Unit), True ∧ RightP (GR.id g) (GR.bh g) (GR.n g) ∧ True)
    := by
  rintro ⟨id, bh, n⟩ ⟨h1, h2⟩
  simp only [true_and, and_true, exists_const, Decidable.not_not] at *
  refine ⟨h1, ⟨⟨0, fun _ => False⟩, ⟨by simp, by simpa, fun i h3 h4 => by simp at h4; omega, fun j => ?_⟩, rfl, by simp⟩, ?_⟩
  · simp; intros; omega
  rintro ⟨i, m⟩ ⟨h3, h4, h5, h6⟩
  simp only at *
  refine ⟨fun h7 => ⟨h3, h7, h3, h7, fun h8 => ⟨fun h9 hr => h9 (hr i h3 h7).2.1, fun h9 => ⟨fun h10 hr => by have := (hr i h3 h7).2.2.1; omega, fun h10 => ⟨h8, by omega, h8, by omega, fun h11 hr => ?_, fun h11 => ⟨h8, by omega, h8, by omega, by omega, ⟨i + 1, fun j => m j ∨ j = id i⟩, ?_, ?_⟩⟩⟩⟩, fun h8 hr => h8 (hr i h3 h7).1⟩, fun h7 => ?_⟩
  · obtain ⟨k, k1, k2, k3⟩ := (h6 _).1 h11
    exact (hr i h3 h7).2.2.2 k k1 k2 k3
  · refine ⟨by simp; omega, by simp; omega, fun k k1 k2 => ?_, fun j => ?_⟩
    · simp only at k2
      by_cases hk : k = i
      · subst hk
        exact ⟨h8, by omega, by omega, fun q q1 q2 q3 => h11 ((h6 _).2 ⟨q, q1, q2, q3⟩)⟩
      · exact h5 k k1 (by omega)
    · simp only
      constructor
      · rintro (h | h)
        · obtain ⟨k, k1, k2, k3⟩ := (h6 _).1 h; exact ⟨k, k1, by omega, k3⟩
        · exact ⟨i, h3, by omega, h.symm⟩
      · rintro ⟨k, k1, k2, k3⟩
        by_cases hk : k = i
        · subst hk; exact .inr k3.symm
        · exact .inl ((h6 _).2 ⟨k, k1, by omega, k3⟩)
  · exact ⟨by simp only; omega, rfl, fun j _ _ => ⟨fun h => .inr h, fun h => ⟨fun h' => h'.resolve_right h, .inl⟩⟩⟩
  · exact fun k k1 k2 => h5 k k1 (by omega)

theorem okR : ConOk Try.prog 22 conR := by
  refine conOk_of_SE cfgR (fun g => ⟨all_ok.ok, fun f sp h => by cases h⟩) mixed 5 ok22 ?_ (fun g => by rfl) ?_
  · intro g _; simp only [romFree, conR]; exact ⟨⟨rfl, fun j _ _ => ⟨rfl, rfl, trivial⟩, trivial⟩, trivial⟩
  · show ConVC 22 fn22 conR cfgR 5
    refine Eq.mp ?_ vcR
    kernel_rfl
end Go.Proofs.Ythcaiahfifpdiaa
end

namespace Go.Proofs.Ythcaiahfifpdiaa
open Go.AL Go.SL

open Classical in
/-- Runs behind the first k of a list. -/
noncomputable def accR (bound : Int) (runs id bh : Int → Int) (k j : Int) : Int := if ∃ i, 0 ≤ i ∧ i < k ∧ id i = j ∧ bound < bh i then runs j + 1 else 0
/-- Those below k whose run is the patience. -/
def slowL (r : Int → Int) (pat : Int) : Nat → List Int
  | 0 => []
  | k + 1 => slowL r pat k ++ (if r k = pat then [(k : Int)] else [])
def resetR (r : Int → Int) (pat j : Int) : Int := if r j = pat then 0 else r j
def listE (l : List Int) : Int → List SV := intE fun j => l.getD j.toNat 0
structure GT where
  bound : Int
  pat : Int
  ticks : Int
  runs : Int → Int
  id : Int → Int
  bh : Int → Int
  n : Int
noncomputable def GT.acc (g : GT) : Int → Int := accR g.bound g.runs g.id g.bh g.n
noncomputable def GT.out (g : GT) : List Int := slowL g.acc g.pat 16
/-- What a watch is sure to be. -/
structure GT.Ok (g : GT) : Prop where
  b0 : 0 ≤ g.bound
  b1 : g.bound ≤ 1099511627776
  p0 : 1 ≤ g.pat
  p1 : g.pat ≤ 256
  t0 : 0 ≤ g.ticks
  t1 : g.ticks ≤ 1099511627776
  r : ∀ j, 0 ≤ j → j < 16 → 0 ≤ g.runs j ∧ g.runs j < g.pat
  n0 : 0 ≤ g.n
  n1 : g.n ≤ 1099511627776
def watch (b p t : Int) (r : Int → Int) : SO := .cells [iv b, iv p, iv t, .arr (.lit 16) 1 (intE r)] 53
noncomputable def conT : Con where
  G := GT
  rom := fun g => [([.arr (.sym g.n) 2 (pairE g.id g.bh)], 48)]
  args := fun g => [.ptr (.own 0) 0, .sl (.arg 0) (.lit 0) 2 (.sym g.n) none]
  heap := fun g => [(0, watch g.bound g.pat g.ticks g.runs)]
  nx := 1
  side := fun g => g.Ok
  alts := [{ G2 := Unit, cond := fun g _ => ¬ RightP g.id g.bh g.n, res := fun _ _ => .tup [.nils, il 2], heap := fun g _ => [(0, watch g.bound g.pat g.ticks g.runs)], nx := 1 },
    { G2 := Unit, cond := fun g _ => RightP g.id g.bh g.n, res := fun g _ => .tup [.sl (.own 1) (.lit 0) 1 (.sym g.out.length) none, il 0],
      heap := fun g _ => [(0, watch g.bound g.pat (g.ticks + 1) (resetR g.acc g.pat)), (1, .cells [.arr (.sym g.out.length) 1 (listE g.out)] 3)], nx := 2 }]
noncomputable def cfgT (g : GT) : Cfg := mkCfg (pgOf pgAll) [(22, spOf conR (romL (conT.rom g)))]
  [((11, 0), mkL fn11 0 Int (fun i => 0 ≤ i ∧ i ≤ g.n) (fun i => (g.n - i).toNat) (fun i => [(32, iv i)]) (fun i => [(0, watch g.bound g.pat g.ticks (accR g.bound g.runs g.id g.bh i))]) 0),
   ((26, 0), mkL fn26 0 Nat (fun k => k ≤ 16) (fun k => 16 - k) (fun k => [(9, iv k)])
      (fun k => [(3, .cells [.sl (.own 7) (.lit 0) 1 (.sym (slowL g.acc g.pat k).length) none] 23), (7, .cells [.arr (.sym (slowL g.acc g.pat k).length) 1 (listE (slowL g.acc g.pat k))] 3)]) 1),
   ((11, 1), mkL fn11 1 Nat (fun i => i ≤ g.out.length) (fun i => g.out.length - i) (fun i => [(64, iv i)])
      (fun i => [(0, watch g.bound g.pat g.ticks (fun j => if j ∈ g.out.take i then 0 else g.acc j))]) 0)]

theorem accR_zero (b : Int) (r id bh : Int → Int) (j : Int) : accR b r id bh 0 j = 0 := by
  unfold accR; rw [if_neg]; rintro ⟨i, h1, h2, _⟩; omega
theorem accR_hit {b : Int} {r id bh : Int → Int} {k : Int} (h0 : 0 ≤ k) (h : b < bh k) : accR b r id bh (k + 1) (id k) = r (id k) + 1 := by
  unfold accR; rw [if_pos ⟨k, h0, by omega, rfl, h⟩]
theorem accR_other {b : Int} {r id bh : Int → Int} {k j : Int} (h : b < bh k → j ≠ id k) : accR b r id bh (k + 1) j = accR b r id bh k j := by
  unfold accR
  by_cases he : ∃ i, 0 ≤ i ∧ i < k ∧ id i = j ∧ b < bh i
  · obtain ⟨i, h1, h2, h3⟩ := he
    rw [if_pos ⟨i, h1, by omega, h3⟩, if_pos ⟨i, h1, h2, h3⟩]
  · rw [if_neg he, if_neg]
    rintro ⟨i, h1, h2, h3, h4⟩
    by_cases hk : i = k
    · subst hk; exact h h4 h3.symm
    · exact he ⟨i, h1, by omega, h3, h4⟩
theorem slowL_mem {r : Int → Int} {p : Int} {j : Int} : ∀ {k : Nat}, j ∈ slowL r p k ↔ ∃ m : Nat, m < k ∧ j = m ∧ r m = p
  | 0 => by simp [slowL]
  | k + 1 => by
    simp only [slowL, List.mem_append, slowL_mem (k := k)]
    constructor
    · rintro (⟨m, h1, h2⟩ | h)
      · exact ⟨m, by omega, h2⟩
      · split at h
        · rename_i hr
          rw [List.mem_singleton] at h
          exact ⟨k, by omega, h, hr⟩
        · cases h
    · rintro ⟨m, h1, h2, h3⟩
      by_cases hm : m = k
      · subst hm; rw [if_pos h3]; exact .inr (List.mem_singleton.2 h2)
      · exact .inl ⟨m, by omega, h2, h3⟩
theorem slowL_len {r : Int → Int} {p : Int} : ∀ k : Nat, (slowL r p k).length ≤ k
  | 0 => by simp [slowL]
  | k + 1 => by
    simp only [slowL, List.length_append]
    have := slowL_len (r := r) (p := p) k
    split <;> simp <;> omega
theorem getD_append_lt {l m : List Int} {i : Nat} (h : i < l.length) : (l ++ m).getD i 0 = l.getD i 0 := by
  simp [List.getD_eq_getElem?_getD, List.getElem?_append_left h]
theorem getD_append_len {l : List Int} {x : Int} : (l ++ [x]).getD l.length 0 = x := by
  simp [List.getD_eq_getElem?_getD]
theorem take_mem_succ {l : List Int} {i : Nat} (hi : i < l.length) {j : Int} : j ∈ l.take (i + 1) ↔ j ∈ l.take i ∨ j = l.getD i 0 := by
  rw [List.take_succ_eq_append_getElem hi, List.mem_append, List.mem_singleton]
  simp [List.getD_eq_getElem?_getD, List.getElem?_eq_getElem hi]
theorem getD_mem {l : List Int} {i : Nat} (hi : i < l.length) : l.getD i 0 ∈ l := by
  simp [List.getD_eq_getElem?_getD, List.getElem?_eq_getElem hi]
end Go.Proofs.Ythcaiahfifpdiaa

section
namespace Go.Proofs.Ythcaiahfifpdiaa
open Go.AL Go.SL
--BEGIN
set_option maxRecDepth 100000
set_option linter.unusedVariables false
theorem vcT : 
    ∀ (g : GT), GT.Ok g → (¬0 < GT.pat g → (∃ (g2 : Unit), (RightP (GT.id g) (GT.bh g) (GT.n g) → False) ∧ False) ∨ ∃ (g2 : Unit), (∀ (i : Int), 0 ≤ i → i < GT.n g → GoodAt (GT.id g) (GT.bh g) i) ∧
    (↑(List.length (GT.out g)) : Int) = 0 ∧ (↑(List.length (GT.out g)) : Int) = 0 ∧ False) ∧ (¬¬0 < GT.pat g → ∃ (g_1 : GR), GR.n g_1 = GT.n g ∧ Bid.arg 0 = Bid.arg 0 ∧ GR.n g_1 = GT.n g ∧ (∀ (j : Int), 0
    ≤ j → j < GR.n g_1 → GR.id g_1 j = GT.id g j ∧ GR.bh g_1 j = GT.bh g j ∧ True) ∧ (0 ≤ GR.n g_1 ∧ GR.n g_1 ≤ 1099511627776) ∧ ∀ (g2 : Unit), True → (¬RightP (GR.id g_1) (GR.bh g_1) (GR.n g_1) → (∃ (g2
    : Unit), (RightP (GT.id g) (GT.bh g) (GT.n g) → False) ∧ GT.bound g = GT.bound g ∧ GT.pat g = GT.pat g ∧ GT.ticks g = GT.ticks g ∧ (∀ (j : Int), 0 ≤ j → j < 16 → GT.runs g j = GT.runs g j ∧ True) ∧
    True) ∨ ∃ (g2 : Unit), (∀ (i : Int), 0 ≤ i → i < GT.n g → GoodAt (GT.id g) (GT.bh g) i) ∧ (↑(List.length (GT.out g)) : Int) = 0 ∧ (↑(List.length (GT.out g)) : Int) = 0 ∧ False) ∧ (¬¬RightP (GR.id g_1)
    (GR.bh g_1) (GR.n g_1) → 0 ≤ GT.n g ∧ (∃ (g_2 : Int), (0 ≤ g_2 ∧ g_2 ≤ GT.n g) ∧ GT.n g = GT.n g ∧ Bid.arg 0 = Bid.arg 0 ∧ GT.n g = GT.n g ∧ g_2 = 0 ∧ GT.bound g = GT.bound g ∧ GT.pat g = GT.pat g ∧
    GT.ticks g = GT.ticks g ∧ (∀ (j : Int), 0 ≤ j → j < 16 → j < 16 ∧ accR (GT.bound g) (GT.runs g) (GT.id g) (GT.bh g) g_2 j = 0 ∧ True) ∧ (∀ (j : Int), 0 ≤ j → j < 16 → GT.runs g j = GT.runs g j ∧ True)
    ∧ True) ∧ ∀ (g_2 : Int), 0 ≤ g_2 ∧ g_2 ≤ GT.n g → (g_2 < GT.n g → 0 ≤ g_2 ∧ g_2 < GT.n g ∧ 0 ≤ g_2 ∧ g_2 < GT.n g ∧ (GT.bound g < GT.bh g g_2 → 0 ≤ GT.id g g_2 ∧ GT.id g g_2 < 16 ∧ 0 ≤ GT.id g g_2 ∧
    GT.id g g_2 < 16 ∧ (-9223372036854775808 ≤ GT.runs g (GT.id g g_2) + 1 ∧ GT.runs g (GT.id g g_2) + 1 ≤ 9223372036854775807) ∧ 0 ≤ GT.id g g_2 ∧ GT.id g g_2 < 16 ∧ 0 ≤ GT.id g g_2 ∧ GT.id g g_2 < 16 ∧
    (-9223372036854775808 ≤ g_2 + 1 ∧ g_2 + 1 ≤ 9223372036854775807) ∧ ∃ (g' : Int), (0 ≤ g' ∧ g' ≤ GT.n g) ∧ Int.toNat (GT.n g - g') < Int.toNat (GT.n g - g_2) ∧ GT.n g = GT.n g ∧ Bid.arg 0 = Bid.arg 0 ∧
    GT.n g = GT.n g ∧ g' = g_2 + 1 ∧ GT.bound g = GT.bound g ∧ GT.pat g = GT.pat g ∧ GT.ticks g = GT.ticks g ∧ (∀ (j : Int), 0 ≤ j → j < 16 → (j = GT.id g g_2 → accR (GT.bound g) (GT.runs g) (GT.id g)
    (GT.bh g) g' j = GT.runs g (GT.id g g_2) + 1 ∧ True) ∧ (¬j = GT.id g g_2 → accR (GT.bound g) (GT.runs g) (GT.id g) (GT.bh g) g' j = accR (GT.bound g) (GT.runs g) (GT.id g) (GT.bh g) g_2 j ∧ True)) ∧
    (∀ (j : Int), 0 ≤ j → j < 16 → GT.runs g j = GT.runs g j ∧ True) ∧ True) ∧ (¬GT.bound g < GT.bh g g_2 → (-9223372036854775808 ≤ g_2 + 1 ∧ g_2 + 1 ≤ 9223372036854775807) ∧ ∃ (g' : Int), (0 ≤ g' ∧ g' ≤
    GT.n g) ∧ Int.toNat (GT.n g - g') < Int.toNat (GT.n g - g_2) ∧ GT.n g = GT.n g ∧ Bid.arg 0 = Bid.arg 0 ∧ GT.n g = GT.n g ∧ g' = g_2 + 1 ∧ GT.bound g = GT.bound g ∧ GT.pat g = GT.pat g ∧ GT.ticks g =
    GT.ticks g ∧ (∀ (j : Int), 0 ≤ j → j < 16 → accR (GT.bound g) (GT.runs g) (GT.id g) (GT.bh g) g' j = accR (GT.bound g) (GT.runs g) (GT.id g) (GT.bh g) g_2 j ∧ True) ∧ (∀ (j : Int), 0 ≤ j → j < 16 →
    GT.runs g j = GT.runs g j ∧ True) ∧ True)) ∧ (¬g_2 < GT.n g → (∃ (g_3 : Nat), g_3 ≤ 16 ∧ (∀ (j : Int), 0 ≤ j → j < 16 → accR (GT.bound g) (GT.runs g) (GT.id g) (GT.bh g) g_2 j = accR (GT.bound g)
    (GT.runs g) (GT.id g) (GT.bh g) g_2 j ∧ True) ∧ (↑g_3 : Int) = 0 ∧ GT.bound g = GT.bound g ∧ GT.pat g = GT.pat g ∧ GT.ticks g = GT.ticks g ∧ (∀ (j : Int), 0 ≤ j → j < 16 → accR (GT.bound g) (GT.runs
    g) (GT.id g) (GT.bh g) g_2 j = accR (GT.bound g) (GT.runs g) (GT.id g) (GT.bh g) g_2 j ∧ True) ∧ (∀ (j : Int), 0 ≤ j → j < 16 → GT.runs g j = GT.runs g j ∧ True) ∧ (↑(List.length (slowL (GT.acc g)
    (GT.pat g) g_3)) : Int) = 0 ∧ (↑(List.length (slowL (GT.acc g) (GT.pat g) g_3)) : Int) = 0 ∧ (↑(List.length (slowL (GT.acc g) (GT.pat g) g_3)) : Int) = 0 ∧ True) ∧ ∀ (g_3 : Nat), g_3 ≤ 16 → ((↑g_3 :
    Int) < 16 → 0 ≤ (↑g_3 : Int) ∧ (↑g_3 : Int) < 16 ∧ 0 ≤ (↑g_3 : Int) ∧ (↑g_3 : Int) < 16 ∧ (accR (GT.bound g) (GT.runs g) (GT.id g) (GT.bh g) g_2 (↑g_3 : Int) = GT.pat g → 0 ≤ (↑(List.length (slowL
    (GT.acc g) (GT.pat g) g_3)) : Int) ∧ (↑(List.length (slowL (GT.acc g) (GT.pat g) g_3)) : Int) ≤ (↑(List.length (slowL (GT.acc g) (GT.pat g) g_3)) : Int) ∧ (↑(List.length (slowL (GT.acc g) (GT.pat g)
    g_3)) : Int) + 1 ≤ 1099511627776 ∧ (-9223372036854775808 ≤ (↑g_3 : Int) + 1 ∧ (↑g_3 : Int) + 1 ≤ 9223372036854775807) ∧ ∃ (g' : Nat), g' ≤ 16 ∧ 16 - g' < 16 - g_3 ∧ (∀ (j : Int), 0 ≤ j → j < 16 → accR
    (GT.bound g) (GT.runs g) (GT.id g) (GT.bh g) g_2 j = accR (GT.bound g) (GT.runs g) (GT.id g) (GT.bh g) g_2 j ∧ True) ∧ (↑g' : Int) = (↑g_3 : Int) + 1 ∧ GT.bound g = GT.bound g ∧ GT.pat g = GT.pat g ∧
    GT.ticks g = GT.ticks g ∧ (∀ (j : Int), 0 ≤ j → j < 16 → accR (GT.bound g) (GT.runs g) (GT.id g) (GT.bh g) g_2 j = accR (GT.bound g) (GT.runs g) (GT.id g) (GT.bh g) g_2 j ∧ True) ∧ (∀ (j : Int), 0 ≤ j
    → j < 16 → GT.runs g j = GT.runs g j ∧ True) ∧ (↑(List.length (slowL (GT.acc g) (GT.pat g) g')) : Int) = (↑(List.length (slowL (GT.acc g) (GT.pat g) g_3)) : Int) + 1 ∧ (↑(List.length (slowL (GT.acc g)
    (GT.pat g) g')) : Int) = (↑(List.length (slowL (GT.acc g) (GT.pat g) g_3)) : Int) + 1 ∧ (∀ (j : Int), 0 ≤ j → j < (↑(List.length (slowL (GT.acc g) (GT.pat g) g')) : Int) → (j < (↑(List.length (slowL
    (GT.acc g) (GT.pat g) g_3)) : Int) → List.getD (slowL (GT.acc g) (GT.pat g) g') (Int.toNat j) 0 = List.getD (slowL (GT.acc g) (GT.pat g) g_3) (Int.toNat j) 0 ∧ True) ∧ (¬j < (↑(List.length (slowL
    (GT.acc g) (GT.pat g) g_3)) : Int) → j - (↑(List.length (slowL (GT.acc g) (GT.pat g) g_3)) : Int) = 0 ∧ List.getD (slowL (GT.acc g) (GT.pat g) g') (Int.toNat j) 0 = (↑g_3 : Int) ∧ True)) ∧ True) ∧
    (¬accR (GT.bound g) (GT.runs g) (GT.id g) (GT.bh g) g_2 (↑g_3 : Int) = GT.pat g → (-9223372036854775808 ≤ (↑g_3 : Int) + 1 ∧ (↑g_3 : Int) + 1 ≤ 9223372036854775807) ∧ ∃ (g' : Nat), g' ≤ 16 ∧ 16 - g' <
    16 - g_3 ∧ (∀ (j : Int), 0 ≤ j → j < 16 → accR (GT.bound g) (GT.runs g) (GT.id g) (GT.bh g) g_2 j = accR (GT.bound g) (GT.runs g) (GT.id g) (GT.bh g) g_2 j ∧ True) ∧ (↑g' : Int) = (↑g_3 : Int) + 1 ∧
    GT.bound g = GT.bound g ∧ GT.pat g = GT.pat g ∧ GT.ticks g = GT.ticks g ∧ (∀ (j : Int), 0 ≤ j → j < 16 → accR (GT.bound g) (GT.runs g) (GT.id g) (GT.bh g) g_2 j = accR (GT.bound g) (GT.runs g) (GT.id
    g) (GT.bh g) g_2 j ∧ True) ∧ (∀ (j : Int), 0 ≤ j → j < 16 → GT.runs g j = GT.runs g j ∧ True) ∧ (↑(List.length (slowL (GT.acc g) (GT.pat g) g')) : Int) = (↑(List.length (slowL (GT.acc g) (GT.pat g)
    g_3)) : Int) ∧ (↑(List.length (slowL (GT.acc g) (GT.pat g) g')) : Int) = (↑(List.length (slowL (GT.acc g) (GT.pat g) g_3)) : Int) ∧ (∀ (j : Int), 0 ≤ j → j < (↑(List.length (slowL (GT.acc g) (GT.pat
    g) g')) : Int) → List.getD (slowL (GT.acc g) (GT.pat g) g') (Int.toNat j) 0 = List.getD (slowL (GT.acc g) (GT.pat g) g_3) (Int.toNat j) 0 ∧ True) ∧ True)) ∧ (¬(↑g_3 : Int) < 16 → 0 ≤ (↑(List.length
    (slowL (GT.acc g) (GT.pat g) g_3)) : Int) ∧ (∃ (g_4 : Nat), g_4 ≤ List.length (GT.out g) ∧ (↑(List.length (slowL (GT.acc g) (GT.pat g) g_3)) : Int) = (↑(List.length (slowL (GT.acc g) (GT.pat g) g_3))
    : Int) ∧ (↑(List.length (slowL (GT.acc g) (GT.pat g) g_3)) : Int) = (↑(List.length (slowL (GT.acc g) (GT.pat g) g_3)) : Int) ∧ (↑g_4 : Int) = 0 ∧ GT.bound g = GT.bound g ∧ GT.pat g = GT.pat g ∧
    GT.ticks g = GT.ticks g ∧ (∀ (j : Int), 0 ≤ j → j < 16 → (if j ∈ List.take g_4 (GT.out g) then 0 else GT.acc g j) = accR (GT.bound g) (GT.runs g) (GT.id g) (GT.bh g) g_2 j ∧ True) ∧ (∀ (j : Int), 0 ≤
    j → j < 16 → GT.runs g j = GT.runs g j ∧ True) ∧ (↑(List.length (slowL (GT.acc g) (GT.pat g) g_3)) : Int) = (↑(List.length (slowL (GT.acc g) (GT.pat g) g_3)) : Int) ∧ (↑(List.length (slowL (GT.acc g)
    (GT.pat g) g_3)) : Int) = (↑(List.length (slowL (GT.acc g) (GT.pat g) g_3)) : Int) ∧ (∀ (j : Int), 0 ≤ j → j < (↑(List.length (slowL (GT.acc g) (GT.pat g) g_3)) : Int) → List.getD (slowL (GT.acc g)
    (GT.pat g) g_3) (Int.toNat j) 0 = List.getD (slowL (GT.acc g) (GT.pat g) g_3) (Int.toNat j) 0 ∧ True) ∧ True) ∧ ∀ (g_4 : Nat), g_4 ≤ List.length (GT.out g) → ((↑g_4 : Int) < (↑(List.length (slowL
    (GT.acc g) (GT.pat g) g_3)) : Int) → 0 ≤ (↑g_4 : Int) ∧ (↑g_4 : Int) < (↑(List.length (slowL (GT.acc g) (GT.pat g) g_3)) : Int) ∧ 0 ≤ (↑g_4 : Int) ∧ (↑g_4 : Int) < (↑(List.length (slowL (GT.acc g)
    (GT.pat g) g_3)) : Int) ∧ (0 < GT.pat g → (0 ≤ List.getD (slowL (GT.acc g) (GT.pat g) g_3) (Int.toNat (↑g_4 : Int)) 0 → (List.getD (slowL (GT.acc g) (GT.pat g) g_3) (Int.toNat (↑g_4 : Int)) 0 < 16 → 0
    ≤ List.getD (slowL (GT.acc g) (GT.pat g) g_3) (Int.toNat (↑g_4 : Int)) 0 ∧ List.getD (slowL (GT.acc g) (GT.pat g) g_3) (Int.toNat (↑g_4 : Int)) 0 < 16 ∧ 0 ≤ List.getD (slowL (GT.acc g) (GT.pat g) g_3)
    (Int.toNat (↑g_4 : Int)) 0 ∧ List.getD (slowL (GT.acc g) (GT.pat g) g_3) (Int.toNat (↑g_4 : Int)) 0 < 16 ∧ (-9223372036854775808 ≤ (↑g_4 : Int) + 1 ∧ (↑g_4 : Int) + 1 ≤ 9223372036854775807) ∧ ∃ (g' :
    Nat), g' ≤ List.length (GT.out g) ∧ List.length (GT.out g) - g' < List.length (GT.out g) - g_4 ∧ (↑(List.length (slowL (GT.acc g) (GT.pat g) g_3)) : Int) = (↑(List.length (slowL (GT.acc g) (GT.pat g)
    g_3)) : Int) ∧ (↑(List.length (slowL (GT.acc g) (GT.pat g) g_3)) : Int) = (↑(List.length (slowL (GT.acc g) (GT.pat g) g_3)) : Int) ∧ (↑g' : Int) = (↑g_4 : Int) + 1 ∧ GT.bound g = GT.bound g ∧ GT.pat g
    = GT.pat g ∧ GT.ticks g = GT.ticks g ∧ (∀ (j : Int), 0 ≤ j → j < 16 → (j = List.getD (slowL (GT.acc g) (GT.pat g) g_3) (Int.toNat (↑g_4 : Int)) 0 → (if j ∈ List.take g' (GT.out g) then 0 else GT.acc g
    j) = 0 ∧ True) ∧ (¬j = List.getD (slowL (GT.acc g) (GT.pat g) g_3) (Int.toNat (↑g_4 : Int)) 0 → ((if j ∈ List.take g' (GT.out g) then 0 else GT.acc g j) = if j ∈ List.take g_4 (GT.out g) then 0 else
    GT.acc g j) ∧ True)) ∧ (∀ (j : Int), 0 ≤ j → j < 16 → GT.runs g j = GT.runs g j ∧ True) ∧ (↑(List.length (slowL (GT.acc g) (GT.pat g) g_3)) : Int) = (↑(List.length (slowL (GT.acc g) (GT.pat g) g_3)) :
    Int) ∧ (↑(List.length (slowL (GT.acc g) (GT.pat g) g_3)) : Int) = (↑(List.length (slowL (GT.acc g) (GT.pat g) g_3)) : Int) ∧ (∀ (j : Int), 0 ≤ j → j < (↑(List.length (slowL (GT.acc g) (GT.pat g) g_3))
    : Int) → List.getD (slowL (GT.acc g) (GT.pat g) g_3) (Int.toNat j) 0 = List.getD (slowL (GT.acc g) (GT.pat g) g_3) (Int.toNat j) 0 ∧ True) ∧ True) ∧ (¬List.getD (slowL (GT.acc g) (GT.pat g) g_3)
    (Int.toNat (↑g_4 : Int)) 0 < 16 → (-9223372036854775808 ≤ (↑g_4 : Int) + 1 ∧ (↑g_4 : Int) + 1 ≤ 9223372036854775807) ∧ ∃ (g' : Nat), g' ≤ List.length (GT.out g) ∧ List.length (GT.out g) - g' <
    List.length (GT.out g) - g_4 ∧ (↑(List.length (slowL (GT.acc g) (GT.pat g) g_3)) : Int) = (↑(List.length (slowL (GT.acc g) (GT.pat g) g_3)) : Int) ∧ (↑(List.length (slowL (GT.acc g) (GT.pat g) g_3)) :
    Int) = (↑(List.length (slowL (GT.acc g) (GT.pat g) g_3)) : Int) ∧ (↑g' : Int) = (↑g_4 : Int) + 1 ∧ GT.bound g = GT.bound g ∧ GT.pat g = GT.pat g ∧ GT.ticks g = GT.ticks g ∧ (∀ (j : Int), 0 ≤ j → j <
    16 → ((if j ∈ List.take g' (GT.out g) then 0 else GT.acc g j) = if j ∈ List.take g_4 (GT.out g) then 0 else GT.acc g j) ∧ True) ∧ (∀ (j : Int), 0 ≤ j → j < 16 → GT.runs g j = GT.runs g j ∧ True) ∧
    (↑(List.length (slowL (GT.acc g) (GT.pat g) g_3)) : Int) = (↑(List.length (slowL (GT.acc g) (GT.pat g) g_3)) : Int) ∧ (↑(List.length (slowL (GT.acc g) (GT.pat g) g_3)) : Int) = (↑(List.length (slowL
    (GT.acc g) (GT.pat g) g_3)) : Int) ∧ (∀ (j : Int), 0 ≤ j → j < (↑(List.length (slowL (GT.acc g) (GT.pat g) g_3)) : Int) → List.getD (slowL (GT.acc g) (GT.pat g) g_3) (Int.toNat j) 0 = List.getD (slowL
    (GT.acc g) (GT.pat g) g_3) (Int.toNat j) 0 ∧ True) ∧ True)) ∧ (¬0 ≤ List.getD (slowL (GT.acc g) (GT.pat g) g_3) (Int.toNat (↑g_4 : Int)) 0 → (-9223372036854775808 ≤ (↑g_4 : Int) + 1 ∧ (↑g_4 : Int) + 1
    ≤ 9223372036854775807) ∧ ∃ (g' : Nat), g' ≤ List.length (GT.out g) ∧ List.length (GT.out g) - g' < List.length (GT.out g) - g_4 ∧ (↑(List.length (slowL (GT.acc g) (GT.pat g) g_3)) : Int) =
    (↑(List.length (slowL (GT.acc g) (GT.pat g) g_3)) : Int) ∧ (↑(List.length (slowL (GT.acc g) (GT.pat g) g_3)) : Int) = (↑(List.length (slowL (GT.acc g) (GT.pat g) g_3)) : Int) ∧ (↑g' : Int) = (↑g_4 :
    Int) + 1 ∧ GT.bound g = GT.bound g ∧ GT.pat g = GT.pat g ∧ GT.ticks g = GT.ticks g ∧ (∀ (j : Int), 0 ≤ j → j < 16 → ((if j ∈ List.take g' (GT.out g) then 0 else GT.acc g j) = if j ∈ List.take g_4
    (GT.out g) then 0 else GT.acc g j) ∧ True) ∧ (∀ (j : Int), 0 ≤ j → j < 16 → GT.runs g j = GT.runs g j ∧ True) ∧ (↑(List.length (slowL (GT.acc g) (GT.pat g) g_3)) : Int) = (↑(List.length (slowL (GT.acc
    g) (GT.pat g) g_3)) : Int) ∧ (↑(List.length (slowL (GT.acc g) (GT.pat g) g_3)) : Int) = (↑(List.length (slowL (GT.acc g) (GT.pat g) g_3)) : Int) ∧ (∀ (j : Int), 0 ≤ j → j < (↑(List.length (slowL
    (GT.acc g) (GT.pat g) g_3)) : Int) → List.getD (slowL (GT.acc g) (GT.pat g) g_3) (Int.toNat j) 0 = List.getD (slowL (GT.acc g) (GT.pat g) g_3) (Int.toNat j) 0 ∧ True) ∧ True)) ∧ (¬0 < GT.pat g →
    (-9223372036854775808 ≤ (↑g_4 : Int) + 1 ∧ (↑g_4 : Int) + 1 ≤ 9223372036854775807) ∧ ∃ (g' : Nat), g' ≤ List.length (GT.out g) ∧ List.length (GT.out g) - g' < List.length (GT.out g) - g_4 ∧
    (↑(List.length (slowL (GT.acc g) (GT.pat g) g_3)) : Int) = (↑(List.length (slowL (GT.acc g) (GT.pat g) g_3)) : Int) ∧ (↑(List.length (slowL (GT.acc g) (GT.pat g) g_3)) : Int) = (↑(List.length (slowL
    (GT.acc g) (GT.pat g) g_3)) : Int) ∧ (↑g' : Int) = (↑g_4 : Int) + 1 ∧ GT.bound g = GT.bound g ∧ GT.pat g = GT.pat g ∧ GT.ticks g = GT.ticks g ∧ (∀ (j : Int), 0 ≤ j → j < 16 → ((if j ∈ List.take g'
    (GT.out g) then 0 else GT.acc g j) = if j ∈ List.take g_4 (GT.out g) then 0 else GT.acc g j) ∧ True) ∧ (∀ (j : Int), 0 ≤ j → j < 16 → GT.runs g j = GT.runs g j ∧ True) ∧ (↑(List.length (slowL (GT.acc
    g) (GT.pat g) g_3)) : Int) = (↑(List.length (slowL (GT.acc g) (GT.pat g) g_3)) : Int) ∧ (↑(List.length (slowL (GT.acc g) (GT.pat g) g_3)) : Int) = (↑(List.length (slowL (GT.acc g) (GT.pat g) g_3)) :
    Int) ∧ (∀ (j : Int), 0 ≤ j → j < (↑(List.length (slowL (GT.acc g) (GT.pat g) g_3)) : Int) → List.getD (slowL (GT.acc g) (GT.pat g) g_3) (Int.toNat j) 0 = List.getD (slowL (GT.acc g) (GT.pat g) g_3)
    (Int.toNat j) 0 ∧ True) ∧ True)) ∧ (¬(↑g_4 : Int) < (↑(List.length (slowL (GT.acc g) (GT.pat g) g_3)) : Int) → (-9223372036854775808 ≤ GT.ticks g + 1 ∧ GT.ticks g + 1 ≤ 9223372036854775807) ∧ ((∃ (g2
    : Unit), (RightP (GT.id g) (GT.bh g) (GT.n g) → False) ∧ False) ∨ ∃ (g2 : Unit), (∀ (i : Int), 0 ≤ i → i < GT.n g → GoodAt (GT.id g) (GT.bh g) i) ∧ (↑(List.length (GT.out g)) : Int) = (↑(List.length
    (slowL (GT.acc g) (GT.pat g) g_3)) : Int) ∧ GT.bound g = GT.bound g ∧ GT.pat g = GT.pat g ∧ GT.ticks g + 1 = GT.ticks g + 1 ∧ (∀ (j : Int), 0 ≤ j → j < 16 → (resetR (GT.acc g) (GT.pat g) j = if j ∈
    List.take g_4 (GT.out g) then 0 else GT.acc g j) ∧ True) ∧ (↑(List.length (GT.out g)) : Int) = (↑(List.length (slowL (GT.acc g) (GT.pat g) g_3)) : Int) ∧ (∀ (j : Int), 0 ≤ j → j < (↑(List.length
    (GT.out g)) : Int) → List.getD (GT.out g) (Int.toNat j) 0 = List.getD (slowL (GT.acc g) (GT.pat g) g_3) (Int.toNat j) 0 ∧ True) ∧ True))))))
    := by
  intro g h
  have ⟨b0, b1, p0, p1, t0, t1, hr, n0, n1⟩ := h
  simp only [true_and, and_true, implies_true, exists_const, Decidable.not_not] at *
  refine ⟨fun h => absurd p0 (by omega), fun _ => ⟨⟨g.id, g.bh, g.n⟩, rfl, rfl, fun _ _ _ => ⟨rfl, rfl⟩, ⟨n0, n1⟩, fun _ _ => ⟨fun h => .inl h, fun hR => ?_⟩⟩⟩
  have hR := Classical.not_not.1 hR
  simp only at *
  refine ⟨n0, ⟨0, ⟨by omega, n0⟩, rfl, fun j _ h => ⟨h, accR_zero _ _ _ _ _⟩⟩, fun i ⟨i0, i1⟩ => ⟨fun hi => ?_, fun hi => ?_⟩⟩
  · have hg := hR i i0 hi
    obtain ⟨g1, g2, g3, g4⟩ := hg
    have hrr := hr (g.id i) g1 g2
    refine ⟨i0, hi, i0, hi, fun hb => ⟨g1, g2, g1, g2, by omega, g1, g2, g1, g2, by omega, i + 1, by omega, by omega, rfl, fun j _ _ => ⟨fun hj => ?_, fun hj => ?_⟩⟩, fun hb => ⟨by omega, i + 1, by omega, by omega, rfl, fun j _ _ => ?_⟩⟩
    · subst hj; exact accR_hit i0 hb
    · exact accR_other fun _ => hj
    · exact accR_other fun h => absurd h hb
  · obtain rfl : i = g.n := by omega
    have hacc : ∀ j, accR g.bound g.runs g.id g.bh g.n j = g.acc j := fun _ => rfl
    refine ⟨⟨0, by omega, rfl, rfl, rfl, rfl⟩, fun k hk => ⟨fun hk' => ?_, fun hk' => ?_⟩⟩
    · have hl := slowL_len (r := g.acc) (p := g.pat) k
      refine ⟨by omega, hk', by omega, hk', fun hp => ⟨by omega, by omega, by omega, by omega, k + 1, by omega, by omega, by omega, ?_, ?_, fun j j0 j1 => ⟨fun j2 => ?_, fun j2 => ?_⟩⟩, fun hp => ⟨by omega, k + 1, by omega, by omega, by omega, ?_, ?_, fun j j0 j1 => ?_⟩⟩
      all_goals (rw [hacc] at hp; first | rw [slowL, if_pos hp] | rw [slowL, if_neg hp] | skip)
      · simp
      · simp
      · exact getD_append_lt (by omega)
      · rw [slowL, if_pos hp] at j1
        simp at j1
        have e : j.toNat = (slowL g.acc g.pat k).length := by omega
        rw [e]
        exact ⟨by omega, getD_append_len⟩
      · simp
      · simp
      · simp
    · obtain rfl : k = 16 := by omega
      have ho : slowL g.acc g.pat 16 = g.out := rfl
      simp only [ho]
      have hol : g.out.length ≤ 16 := slowL_len _
      refine ⟨by omega, ⟨0, by omega, rfl, fun j _ _ => by simp [hacc]⟩, fun q hq => ⟨fun hq' => ?_, fun hq' => ?_⟩⟩
      · have hq2 : q < g.out.length := by omega
        have hmem := getD_mem hq2
        have hx : ((q : Int)).toNat = q := by omega
        rw [hx]
        obtain ⟨m, m1, m2, m3⟩ := slowL_mem.1 hmem
        refine ⟨by omega, hq', by omega, hq', fun _ => ⟨fun _ => ⟨fun _ => ⟨by omega, by omega, by omega, by omega, by omega, q + 1, by omega, by omega, by omega, fun j _ _ => ⟨fun hj => ?_, fun hj => ?_⟩⟩, fun h => absurd h (by omega)⟩, fun h => absurd h (by omega)⟩, fun h => absurd p0 (by omega)⟩
        · rw [if_pos ((take_mem_succ hq2).2 (.inr hj))]
        · by_cases hj2 : j ∈ g.out.take q
          · rw [if_pos hj2, if_pos ((take_mem_succ hq2).2 (.inl hj2))]
          · rw [if_neg hj2, if_neg fun h => ((take_mem_succ hq2).1 h).elim hj2 hj]
      · refine ⟨by omega, .inr ⟨hR, trivial, fun j j0 j1 => ?_, trivial, fun _ _ _ => trivial⟩⟩
        have hqe : q = g.out.length := by omega
        rw [hqe, List.take_length]
        unfold resetR
        by_cases hj : g.acc j = g.pat
        · rw [if_pos hj, if_pos (show j ∈ g.out from slowL_mem.2 ⟨j.toNat, by omega, by omega, by rw [Int.toNat_of_nonneg j0]; exact hj⟩)]
        · rw [if_neg hj, if_neg]
          intro hm
          obtain ⟨m, m1, m2, m3⟩ := slowL_mem.1 hm
          rw [← m2] at m3
          exact hj m3
theorem okT : ConOk Try.prog 11 conT := by
  refine conOk_of_SE cfgT (fun g => ⟨all_ok.ok, spL_ok fun p hp => ?_⟩) mixed 5 ok11 ?_ (fun g => by rfl) ?_
  · simp only [List.mem_singleton] at hp; subst hp; exact spOf_ok okR _
  · intro g _; simp only [romFree, conT]; exact ⟨⟨rfl, fun j _ _ => ⟨rfl, rfl, trivial⟩, trivial⟩, trivial⟩
  · show ConVC 11 fn11 conT cfgT 5
    refine Eq.mp ?_ vcT
    kernel_rfl
end Go.Proofs.Ythcaiahfifpdiaa
end

section
namespace Go.Proofs.Ythcaiahfifpdiaa
open Go.AL Go.SL
def conW : Con where
  G := Unit
  rom := fun _ => []
  args := fun _ => []
  heap := fun _ => []
  nx := 0
  side := fun _ => True
  alts := [{ G2 := Unit, cond := fun _ _ => True, res := fun _ _ => .bool (.lit true), heap := fun _ _ => [], nx := 0 }]
def cfgW : Cfg := mkCfg (pgOf pgAll) [] []
structure GA where
  x : Int
  n : Int
def am (x n : Int) : Int := (IntKind.u64.wrap x) % n
def conAm : Con where
  G := GA
  rom := fun _ => []
  args := fun g => [iv g.x, iv g.n]
  heap := fun _ => []
  nx := 0
  side := fun g => InR g.x ∧ 1 ≤ g.n ∧ g.n ≤ 9223372036854775807
  alts := [{ G2 := Unit, cond := fun _ _ => True, res := fun g _ => iv (am g.x g.n), heap := fun _ _ => [], nx := 0 }]
theorem am_rng {x n : Int} (h : 1 ≤ n) : 0 ≤ am x n ∧ am x n < n := ⟨Int.emod_nonneg _ (by omega), Int.emod_lt_of_pos _ (by omega)⟩
theorem wrapU (x : Int) : IntKind.u64.wrap x = x % 18446744073709551616 := by
  simp [IntKind.wrap, IntKind.bits, IntKind.signed]
theorem wrapI {x : Int} (h : InR x) : IntKind.i64.wrap x = x := by
  have ⟨h1, h2⟩ := h
  simp [IntKind.wrap, IntKind.bits, IntKind.signed]; omega
--BEGIN
set_option maxRecDepth 100000
set_option linter.unusedVariables false
theorem vcW : 
    ∀ (g : Unit), True → ∃ (g2 : Unit), True ∧ True
    := by
  intro _ _
  exact ⟨(), trivial, trivial⟩
theorem okW : ConOk Try.prog 10 conW := by
  refine conOk_of_SE (fun _ => cfgW) (fun g => ⟨all_ok.ok, fun f sp h => by cases h⟩) mixed 8 ok10 ?_ (fun g => by rfl) ?_
  · intro g _; exact trivial
  · show ConVC 10 fn10 conW (fun _ => cfgW) 8
    refine Eq.mp ?_ vcW
    kernel_rfl
theorem vcAm : 
    ∀ (g : GA), ((-9223372036854775808 : Int) ≤ GA.x g ∧ GA.x g ≤ (9223372036854775807 : Int)) ∧ (1 : Int) ≤ GA.n g ∧ GA.n g ≤ (9223372036854775807 : Int) → (GA.n g < (1 : Int) → ∃ (g2 : Unit), True ∧ am
    (GA.x g) (GA.n g) = (0 : Int) ∧ True) ∧ (¬GA.n g < (1 : Int) → ¬IntKind.wrap IntKind.u64 (GA.n g) = (0 : Int) ∧ ∃ (g2 : Unit), True ∧ am (GA.x g) (GA.n g) = IntKind.wrap IntKind.i64 (Int.tmod
    (IntKind.wrap IntKind.u64 (GA.x g)) (IntKind.wrap IntKind.u64 (GA.n g))) ∧ True)
    := by
  intro g ⟨h1, h2, h3⟩
  refine ⟨fun h => absurd h (by omega), fun _ => ?_⟩
  have e : IntKind.u64.wrap g.n = g.n := by rw [wrapU]; omega
  have hr := am_rng (x := g.x) h2
  rw [e]
  refine ⟨by omega, (), trivial, ?_, trivial⟩
  have hn : 0 ≤ IntKind.u64.wrap g.x := by rw [wrapU]; omega
  rw [Int.tmod_eq_emod_of_nonneg hn]
  show _ = IntKind.i64.wrap (am g.x g.n)
  exact (wrapI ⟨by omega, by omega⟩).symm
theorem okAm : ConOk Try.prog 19 conAm := by
  refine conOk_of_SE (fun _ => cfgW) (fun g => ⟨all_ok.ok, fun f sp h => by cases h⟩) mixed 8 ok19 ?_ (fun g => by rfl) ?_
  · intro g _; exact trivial
  · show ConVC 19 fn19 conAm (fun _ => cfgW) 8
    refine Eq.mp ?_ vcAm
    kernel_rfl
end Go.Proofs.Ythcaiahfifpdiaa
end

namespace Go.Proofs.Ythcaiahfifpdiaa
open Go.AL Go.SL

theorem slowL_none {r : Int → Int} {p : Int} {k : Nat} (h : ∀ m : Nat, m < k → r m ≠ p) : slowL r p k = [] := by
  apply List.eq_nil_iff_forall_not_mem.2
  intro j hj
  obtain ⟨m, m1, _, m3⟩ := slowL_mem.1 hj
  exact h m m1 m3
theorem slowL_single {r : Int → Int} {p : Int} {i : Nat} : ∀ {k : Nat}, i < k → r i = p → (∀ m : Nat, m < k → r m = p → m = i) → slowL r p k = [(i : Int)]
  | 0, h, _, _ => absurd h (by omega)
  | k + 1, h, hr, hu => by
    simp only [slowL]
    by_cases hk : k = i
    · subst hk
      rw [if_pos hr, slowL_none fun m hm he => by have := hu m (by omega) he; omega]; rfl
    · rw [if_neg fun he => hk (hu k (by omega) he), slowL_single (by omega) hr fun m hm => hu m (by omega)]; rfl

/-- A tick that tells one. -/
def one (b p t : Int) (r : Int → Int) (i n : Int) : GT := ⟨b, p, t, r, fun _ => i, fun _ => n, 1⟩
theorem one_right {i n : Int} (h1 : 0 ≤ i) (h2 : i < 16) (h3 : 0 ≤ n) : RightP (fun _ => i) (fun _ => n) 1 :=
  fun j j0 j1 => ⟨h1, h2, h3, fun k k0 k1 => by omega⟩
theorem one_acc {b p t : Int} {r : Int → Int} {i n j : Int} : (one b p t r i n).acc j = if j = i ∧ b < n then r i + 1 else 0 := by
  show accR b r (fun _ => i) (fun _ => n) 1 j = _
  unfold accR
  by_cases h : j = i ∧ b < n
  · rw [if_pos h, if_pos ⟨0, by omega, by omega, h.1.symm, h.2⟩, h.1]
  · rw [if_neg h, if_neg]
    rintro ⟨q, _, _, q1, q2⟩
    exact h ⟨q1.symm, q2⟩
theorem one_out {b p t : Int} {r : Int → Int} {i n : Int} (h1 : 0 ≤ i) (h2 : i < 16) (hp : 1 ≤ p) : (one b p t r i n).out = if b < n ∧ r i + 1 = p then [i] else [] := by
  show slowL (one b p t r i n).acc p 16 = _
  split
  · rename_i h
    have e : ((i.toNat : Nat) : Int) = i := by omega
    rw [← e]
    refine slowL_single (by omega) ?_ fun m hm => ?_
    · rw [e, one_acc, if_pos ⟨rfl, h.1⟩]; exact h.2
    · rw [one_acc]
      split
      · omega
      · intro hx; omega
  · rename_i h
    refine slowL_none fun m hm => ?_
    rw [one_acc]
    split
    · rename_i h2; intro hx; exact h ⟨h2.2, hx⟩
    · omega
theorem one_reset {b p t : Int} {r : Int → Int} {i n j : Int} : resetR (one b p t r i n).acc p j = if j = i ∧ b < n ∧ r i + 1 ≠ p then r i + 1 else 0 := by
  unfold resetR
  rw [one_acc]
  by_cases h : j = i ∧ b < n
  · rw [if_pos h]
    by_cases h2 : r i + 1 = p
    · rw [if_pos h2, if_neg fun h3 => h3.2.2 h2]
    · rw [if_neg h2, if_pos ⟨h.1, h.2, h2⟩]
  · have e : (if (0 : Int) = p then (0 : Int) else 0) = 0 := by split <;> rfl
    rw [if_neg h, e, if_neg fun h3 => h ⟨h3.1, h3.2.1⟩]
theorem one_ok {b p t : Int} {r : Int → Int} {i n : Int} (b0 : 0 ≤ b) (b1 : b ≤ 1099511627776) (p0 : 1 ≤ p) (p1 : p ≤ 256) (t0 : 0 ≤ t) (t1 : t ≤ 1099511627776) (hr : ∀ j, 0 ≤ j → j < 16 → 0 ≤ r j ∧ r j < p) : (one b p t r i n).Ok :=
  ⟨b0, b1, p0, p1, t0, t1, hr, show (0 : Int) ≤ 1 by decide, show (1 : Int) ≤ _ by decide⟩

structure GO where
  b : Int
  p : Int
  t : Int
  r : Int → Int
  i : Int
  n : Int
def GO.hit (g : GO) : Prop := g.b < g.n ∧ g.r g.i + 1 = g.p
open Classical in
/-- Who is told too slow. -/
noncomputable def GO.out (g : GO) : List Int := if g.b < g.n ∧ g.r g.i + 1 = g.p then [g.i] else []
open Classical in
noncomputable def GO.nxt (g : GO) (j : Int) : Int := if j = g.i ∧ g.b < g.n ∧ g.r g.i + 1 ≠ g.p then g.r g.i + 1 else 0
structure GO.Ok (g : GO) : Prop where
  b0 : 0 ≤ g.b
  b1 : g.b ≤ 1099511627776
  p0 : 1 ≤ g.p
  p1 : g.p ≤ 256
  t0 : 0 ≤ g.t
  t1 : g.t ≤ 1099511627776
  r : ∀ j, 0 ≤ j → j < 16 → 0 ≤ g.r j ∧ g.r j < g.p
  i0 : 0 ≤ g.i
  i1 : g.i < 16
  n0 : 0 ≤ g.n
/-- A tick that tells one. -/
noncomputable def conO : Con where
  G := GO
  rom := fun g => [([.arr (.sym 1) 2 (pairE (fun _ => g.i) (fun _ => g.n))], 48)]
  args := fun g => [.ptr (.own 0) 0, .sl (.arg 0) (.lit 0) 2 (.sym 1) none]
  heap := fun g => [(0, watch g.b g.p g.t g.r)]
  nx := 1
  side := fun g => g.Ok
  alts := [{ G2 := Unit, cond := fun _ _ => True, res := fun g _ => .tup [.sl (.own 1) (.lit 0) 1 (.sym g.out.length) none, il 0], heap := fun g _ => [(0, watch g.b g.p (g.t + 1) g.nxt), (1, .cells [.arr (.sym g.out.length) 1 (listE g.out)] 3)], nx := 2 }]
theorem okO : ConOk Try.prog 11 conO := by
  refine con_via okT (fun g => one g.b g.p g.t g.r g.i g.n) (fun g h => one_ok h.b0 h.b1 h.p0 h.p1 h.t0 h.t1 h.r) (fun g => rfl) (fun g => rfl) (fun g => rfl) rfl ?_
  intro g h a ha g2 hc
  have ha : a = _ ∨ a ∈ [_] := List.mem_cons.1 ha
  rcases ha with rfl | ha
  · exact absurd (one_right h.i0 h.i1 h.n0) hc
  · obtain rfl := List.mem_singleton.1 ha
    have e1 : (one g.b g.p g.t g.r g.i g.n).out = g.out := by rw [one_out h.i0 h.i1 h.p0]; unfold GO.out; split <;> simp_all
    have e2 : resetR (one g.b g.p g.t g.r g.i g.n).acc g.p = g.nxt := by funext j; rw [one_reset]; unfold GO.nxt; split <;> simp_all
    refine ⟨_, List.mem_singleton_self _, (), trivial, ?_, ?_, rfl⟩
    · show SV.tup [.sl (.own 1) (.lit 0) 1 (.sym (one g.b g.p g.t g.r g.i g.n).out.length) none, il 0] = _
      rw [e1]
    · show [(0, watch g.b g.p (g.t + 1) (resetR (one g.b g.p g.t g.r g.i g.n).acc g.p)), (1, SO.cells [.arr (.sym (one g.b g.p g.t g.r g.i g.n).out.length) 1 (listE (one g.b g.p g.t g.r g.i g.n).out)] 3)] = _
      rw [e1, e2]
end Go.Proofs.Ythcaiahfifpdiaa

section
namespace Go.Proofs.Ythcaiahfifpdiaa
open Go.AL Go.SL
structure GS2 where
  n : Int
  m : Int
  a : Int → Int
  b : Int → Int
def SameP (g : GS2) : Prop := g.n = g.m ∧ ∀ j, 0 ≤ j → j < g.n → g.a j = g.b j
def conS : Con where
  G := GS2
  rom := fun g => [([.arr (.sym g.n) 1 (intE g.a)], 3), ([.arr (.sym g.m) 1 (intE g.b)], 3)]
  args := fun g => [.sl (.arg 0) (.lit 0) 1 (.sym g.n) none, .sl (.arg 1) (.lit 0) 1 (.sym g.m) none]
  heap := fun _ => []
  nx := 0
  side := fun g => 0 ≤ g.n ∧ g.n ≤ 9223372036854775807 ∧ 0 ≤ g.m
  alts := [{ G2 := Unit, cond := fun _ _ => True, res := fun g _ => .bool (.sym (SameP g)), heap := fun _ _ => [], nx := 0 }]
def cfgS (g : GS2) : Cfg := mkCfg (pgOf pgAll) []
  [((14, 0), mkL fn14 0 Int (fun i => 0 ≤ i ∧ i ≤ g.n ∧ g.n = g.m ∧ ∀ j, 0 ≤ j → j < i → g.a j = g.b j) (fun i => (g.n - i).toNat) (fun i => [(5, iv i)]) (fun _ => []) 0)]
--BEGIN
set_option maxRecDepth 100000
set_option linter.unusedVariables false
theorem vcS : 
    ∀ (g : GS2), (0 : Int) ≤ GS2.n g ∧ GS2.n g ≤ (9223372036854775807 : Int) ∧ (0 : Int) ≤ GS2.m g → (0 : Int) ≤ GS2.n g ∧ (0 : Int) ≤ GS2.m g ∧ (¬GS2.n g = GS2.m g → ∃ (g2 : Unit), True ∧ ¬SameP g ∧
    True) ∧ (¬¬GS2.n g = GS2.m g → (∃ (g_1 : Int), ((0 : Int) ≤ g_1 ∧ g_1 ≤ GS2.n g ∧ GS2.n g = GS2.m g ∧ ∀ (j : Int), (0 : Int) ≤ j → j < g_1 → GS2.a g j = GS2.b g j) ∧ GS2.n g = GS2.n g ∧ Bid.arg (0 :
    Nat) = Bid.arg (0 : Nat) ∧ GS2.m g = GS2.m g ∧ Bid.arg (1 : Nat) = Bid.arg (1 : Nat) ∧ g_1 = (0 : Int) ∧ True) ∧ ∀ (g_1 : Int), ((0 : Int) ≤ g_1 ∧ g_1 ≤ GS2.n g ∧ GS2.n g = GS2.m g ∧ ∀ (j : Int), (0 :
    Int) ≤ j → j < g_1 → GS2.a g j = GS2.b g j) → (0 : Int) ≤ GS2.n g ∧ (g_1 < GS2.n g → (0 : Int) ≤ g_1 ∧ g_1 < GS2.n g ∧ (0 : Int) ≤ g_1 ∧ g_1 < GS2.n g ∧ (0 : Int) ≤ g_1 ∧ g_1 < GS2.m g ∧ (0 : Int) ≤
    g_1 ∧ g_1 < GS2.m g ∧ (¬GS2.a g g_1 = GS2.b g g_1 → ∃ (g2 : Unit), True ∧ ¬SameP g ∧ True) ∧ (¬¬GS2.a g g_1 = GS2.b g g_1 → ((-9223372036854775808 : Int) ≤ g_1 + (1 : Int) ∧ g_1 + (1 : Int) ≤
    (9223372036854775807 : Int)) ∧ ∃ (g' : Int), ((0 : Int) ≤ g' ∧ g' ≤ GS2.n g ∧ GS2.n g = GS2.m g ∧ ∀ (j : Int), (0 : Int) ≤ j → j < g' → GS2.a g j = GS2.b g j) ∧ Int.toNat (GS2.n g - g') < Int.toNat
    (GS2.n g - g_1) ∧ GS2.n g = GS2.n g ∧ Bid.arg (0 : Nat) = Bid.arg (0 : Nat) ∧ GS2.m g = GS2.m g ∧ Bid.arg (1 : Nat) = Bid.arg (1 : Nat) ∧ g' = g_1 + (1 : Int) ∧ True)) ∧ (¬g_1 < GS2.n g → ∃ (g2 :
    Unit), True ∧ SameP g ∧ True))
    := by
  intro g ⟨n0, n1, m0⟩
  simp only [true_and, and_true, exists_const, Decidable.not_not] at *
  refine ⟨n0, m0, fun h hs => h hs.1, fun e => ⟨⟨0, ⟨by omega, n0, e, fun j _ _ => by omega⟩, rfl⟩, fun i ⟨i0, i1, _, i3⟩ => ⟨n0, fun hi => ⟨i0, hi, i0, hi, i0, by omega, i0, by omega, fun h hs => h (hs.2 i i0 hi), fun h => ⟨⟨by omega, by omega⟩, i + 1, ⟨by omega, by omega, e, fun j j0 j1 => ?_⟩, by omega, rfl⟩⟩,
    fun hi => ⟨e, fun j j0 j1 => i3 j j0 (by omega)⟩⟩⟩⟩
  by_cases hj : j = i
  · subst hj; exact h
  · exact i3 j j0 (by omega)
theorem okS : ConOk Try.prog 14 conS := by
  refine conOk_of_SE cfgS (fun g => ⟨all_ok.ok, fun f sp h => by cases h⟩) mixed 5 ok14 ?_ (fun g => by rfl) ?_
  · intro g _; simp only [romFree, conS]; exact ⟨⟨rfl, fun j _ _ => ⟨rfl, trivial⟩, trivial⟩, ⟨rfl, fun j _ _ => ⟨rfl, trivial⟩, trivial⟩, trivial⟩
  · show ConVC 14 fn14 conS cfgS 5
    refine Eq.mp ?_ vcS
    kernel_rfl
end Go.Proofs.Ythcaiahfifpdiaa
end

section
namespace Go.Proofs.Ythcaiahfifpdiaa
open Go.AL Go.SL
structure GM where
  b : Int
  p : Int
def conM : Con where
  G := GM
  rom := fun _ => []
  args := fun g => [iv g.b, iv g.p]
  heap := fun _ => []
  nx := 0
  side := fun g => 0 ≤ g.b ∧ g.b ≤ 1099511627776 ∧ 1 ≤ g.p ∧ g.p ≤ 256
  alts := [{ G2 := Unit, cond := fun _ _ => True, res := fun _ _ => .tup [.ptr (.own 0) 0, il 0], heap := fun g _ => [(0, watch g.b g.p 0 fun _ => 0)], nx := 1 }]
structure GRn where
  b : Int
  p : Int
  t : Int
  r : Int → Int
  id : Int
def runE (r : Int → Int) (id : Int) : Int := if 0 ≤ id ∧ id < 16 then r id else 0
def conRn : Con where
  G := GRn
  rom := fun _ => []
  args := fun g => [.ptr (.own 0) 0, iv g.id]
  heap := fun g => [(0, watch g.b g.p g.t g.r)]
  nx := 1
  side := fun g => 1 ≤ g.p
  alts := [{ G2 := Unit, cond := fun _ _ => True, res := fun g _ => iv (runE g.r g.id), heap := fun g _ => [(0, watch g.b g.p g.t g.r)], nx := 1 }]
def conFg : Con where
  G := GRn
  rom := fun _ => []
  args := fun g => [.ptr (.own 0) 0, iv g.id]
  heap := fun g => [(0, watch g.b g.p g.t g.r)]
  nx := 1
  side := fun g => 1 ≤ g.p
  alts := [{ G2 := Unit, cond := fun _ _ => True, res := fun _ _ => .tup [], heap := fun g _ => [(0, watch g.b g.p g.t fun j => if j = g.id then 0 else g.r j)], nx := 1 }]
--BEGIN
set_option maxRecDepth 100000
set_option linter.unusedVariables false
theorem vcM : 
    ∀ (g : GM), (0 : Int) ≤ GM.b g ∧ GM.b g ≤ (1099511627776 : Int) ∧ (1 : Int) ≤ GM.p g ∧ GM.p g ≤ (256 : Int) → (GM.b g < (0 : Int) → ∃ (g2 : Unit), True ∧ False) ∧ (¬GM.b g < (0 : Int) →
    ((1099511627776 : Int) < GM.b g → ∃ (g2 : Unit), True ∧ False) ∧ (¬(1099511627776 : Int) < GM.b g → (GM.p g < (1 : Int) → ∃ (g2 : Unit), True ∧ False) ∧ (¬GM.p g < (1 : Int) → ((256 : Int) < GM.p g →
    ∃ (g2 : Unit), True ∧ False) ∧ (¬(256 : Int) < GM.p g → ∃ (g2 : Unit), True ∧ GM.b g = GM.b g ∧ GM.p g = GM.p g ∧ (0 : Int) = (0 : Int) ∧ (∀ (j : Int), (0 : Int) ≤ j → j < (16 : Int) → j < (16 : Int)
    ∧ (0 : Int) = (0 : Int) ∧ True) ∧ True))))
    := by
  intro g ⟨h1, h2, h3, h4⟩
  refine ⟨fun h => absurd h (by omega), fun _ => ⟨fun h => absurd h (by omega), fun _ => ⟨fun h => absurd h (by omega), fun _ => ⟨fun h => absurd h (by omega), fun _ => ⟨(), trivial, ?_⟩⟩⟩⟩⟩
  simp
theorem okM : ConOk Try.prog 8 conM := by
  refine conOk_of_SE (fun _ => mkCfg (pgOf pgAll) [] []) (fun g => ⟨all_ok.ok, fun f sp h => by cases h⟩) mixed 5 ok8 ?_ (fun g => by rfl) ?_
  · intro g _; exact trivial
  · show ConVC 8 fn8 conM (fun _ => mkCfg (pgOf pgAll) [] []) 5
    refine Eq.mp ?_ vcM
    kernel_rfl
theorem vcRn : 
    ∀ (g : GRn), Int.NonNeg (GRn.p g - (1 : Int)) → (¬(0 : Int) < GRn.p g → ∃ (g2 : Unit), True ∧ runE (GRn.r g) (GRn.id g) = (0 : Int) ∧ GRn.b g = GRn.b g ∧ GRn.p g = GRn.p g ∧ GRn.t g = GRn.t g ∧ (∀ (j
    : Int), (0 : Int) ≤ j → j < (16 : Int) → GRn.r g j = GRn.r g j ∧ True) ∧ True) ∧ (¬¬(0 : Int) < GRn.p g → ((0 : Int) ≤ GRn.id g → (¬GRn.id g < (16 : Int) → ∃ (g2 : Unit), True ∧ runE (GRn.r g) (GRn.id
    g) = (0 : Int) ∧ GRn.b g = GRn.b g ∧ GRn.p g = GRn.p g ∧ GRn.t g = GRn.t g ∧ (∀ (j : Int), (0 : Int) ≤ j → j < (16 : Int) → GRn.r g j = GRn.r g j ∧ True) ∧ True) ∧ (¬¬GRn.id g < (16 : Int) → (0 : Int)
    ≤ GRn.id g ∧ GRn.id g < (16 : Int) ∧ (0 : Int) ≤ GRn.id g ∧ GRn.id g < (16 : Int) ∧ ∃ (g2 : Unit), True ∧ runE (GRn.r g) (GRn.id g) = GRn.r g (GRn.id g) ∧ GRn.b g = GRn.b g ∧ GRn.p g = GRn.p g ∧ GRn.t
    g = GRn.t g ∧ (∀ (j : Int), (0 : Int) ≤ j → j < (16 : Int) → GRn.r g j = GRn.r g j ∧ True) ∧ True)) ∧ (¬(0 : Int) ≤ GRn.id g → ∃ (g2 : Unit), True ∧ runE (GRn.r g) (GRn.id g) = (0 : Int) ∧ GRn.b g =
    GRn.b g ∧ GRn.p g = GRn.p g ∧ GRn.t g = GRn.t g ∧ (∀ (j : Int), (0 : Int) ≤ j → j < (16 : Int) → GRn.r g j = GRn.r g j ∧ True) ∧ True))
    := by
  intro g h1
  have h1 : 1 ≤ g.p := h1
  simp only [true_and, and_true, exists_const, implies_true, Decidable.not_not, runE]
  refine ⟨fun h => absurd h1 (by omega), fun _ => ⟨fun h => ⟨fun h2 => by rw [if_neg fun h3 => h2 h3.2], fun h2 => ⟨h, h2, h, h2, by rw [if_pos ⟨h, h2⟩]⟩⟩, fun h => by rw [if_neg fun h3 => h h3.1]⟩⟩
theorem okRn : ConOk Try.prog 16 conRn := by
  refine conOk_of_SE (fun _ => mkCfg (pgOf pgAll) [] []) (fun g => ⟨all_ok.ok, fun f sp h => by cases h⟩) mixed 5 ok16 ?_ (fun g => by rfl) ?_
  · intro g _; exact trivial
  · show ConVC 16 fn16 conRn (fun _ => mkCfg (pgOf pgAll) [] []) 5
    refine Eq.mp ?_ vcRn
    kernel_rfl
theorem vcFg : 
    ∀ (g : GRn), Int.NonNeg (GRn.p g - (1 : Int)) → ((0 : Int) < GRn.p g → ((0 : Int) ≤ GRn.id g → (GRn.id g < (16 : Int) → (0 : Int) ≤ GRn.id g ∧ GRn.id g < (16 : Int) ∧ (0 : Int) ≤ GRn.id g ∧ GRn.id g <
    (16 : Int) ∧ ∃ (g2 : Unit), True ∧ GRn.b g = GRn.b g ∧ GRn.p g = GRn.p g ∧ GRn.t g = GRn.t g ∧ (∀ (j : Int), (0 : Int) ≤ j → j < (16 : Int) → (j = GRn.id g → (if j = GRn.id g then (0 : Int) else GRn.r
    g j) = (0 : Int) ∧ True) ∧ (¬j = GRn.id g → (if j = GRn.id g then (0 : Int) else GRn.r g j) = GRn.r g j ∧ True)) ∧ True) ∧ (¬GRn.id g < (16 : Int) → ∃ (g2 : Unit), True ∧ GRn.b g = GRn.b g ∧ GRn.p g =
    GRn.p g ∧ GRn.t g = GRn.t g ∧ (∀ (j : Int), (0 : Int) ≤ j → j < (16 : Int) → (if j = GRn.id g then (0 : Int) else GRn.r g j) = GRn.r g j ∧ True) ∧ True)) ∧ (¬(0 : Int) ≤ GRn.id g → ∃ (g2 : Unit), True
    ∧ GRn.b g = GRn.b g ∧ GRn.p g = GRn.p g ∧ GRn.t g = GRn.t g ∧ (∀ (j : Int), (0 : Int) ≤ j → j < (16 : Int) → (if j = GRn.id g then (0 : Int) else GRn.r g j) = GRn.r g j ∧ True) ∧ True)) ∧ (¬(0 : Int)
    < GRn.p g → ∃ (g2 : Unit), True ∧ GRn.b g = GRn.b g ∧ GRn.p g = GRn.p g ∧ GRn.t g = GRn.t g ∧ (∀ (j : Int), (0 : Int) ≤ j → j < (16 : Int) → (if j = GRn.id g then (0 : Int) else GRn.r g j) = GRn.r g j
    ∧ True) ∧ True)
    := by
  intro g h1
  have h1 : 1 ≤ g.p := h1
  simp only [true_and, and_true, exists_const]
  refine ⟨fun _ => ⟨fun h => ⟨fun h2 => ⟨h, h2, h, h2, fun j _ _ => ⟨fun e => by rw [if_pos e], fun e => by rw [if_neg e]⟩⟩, fun h2 j j0 j1 => by rw [if_neg (by omega)]⟩, fun h2 j j0 j1 => by rw [if_neg (by omega)]⟩, fun h => absurd h1 (by omega)⟩
theorem okFg : ConOk Try.prog 15 conFg := by
  refine conOk_of_SE (fun _ => mkCfg (pgOf pgAll) [] []) (fun g => ⟨all_ok.ok, fun f sp h => by cases h⟩) mixed 5 ok15 ?_ (fun g => by rfl) ?_
  · intro g _; exact trivial
  · show ConVC 15 fn15 conFg (fun _ => mkCfg (pgOf pgAll) [] []) 5
    refine Eq.mp ?_ vcFg
    kernel_rfl
end Go.Proofs.Ythcaiahfifpdiaa
end

section
namespace Go.Proofs.Ythcaiahfifpdiaa
open Go.AL Go.SL
structure GH where
  n : Int
  a : Int → Int
  x : Int
def HasP (g : GH) : Prop := ∃ j, 0 ≤ j ∧ j < g.n ∧ g.a j = g.x
def conH : Con where
  G := GH
  rom := fun g => [([.arr (.sym g.n) 1 (intE g.a)], 3)]
  args := fun g => [.sl (.arg 0) (.lit 0) 1 (.sym g.n) none, iv g.x]
  heap := fun _ => []
  nx := 0
  side := fun g => 0 ≤ g.n ∧ g.n ≤ 9223372036854775807
  alts := [{ G2 := Unit, cond := fun _ _ => True, res := fun g _ => .bool (.sym (HasP g)), heap := fun _ _ => [], nx := 0 }]
def cfgH (g : GH) : Cfg := mkCfg (pgOf pgAll) []
  [((20, 0), mkL fn20 0 Int (fun i => 0 ≤ i ∧ i ≤ g.n ∧ ∀ j, 0 ≤ j → j < i → g.a j ≠ g.x) (fun i => (g.n - i).toNat) (fun i => [(5, iv i)]) (fun _ => []) 0)]
/-- A tick that tells what it may. -/
noncomputable def conTr : Con where
  G := GT
  rom := fun g => [([.arr (.sym g.n) 2 (pairE g.id g.bh)], 48)]
  args := fun g => [.ptr (.own 0) 0, .sl (.arg 0) (.lit 0) 2 (.sym g.n) none]
  heap := fun g => [(0, watch g.bound g.pat g.ticks g.runs)]
  nx := 1
  side := fun g => g.Ok ∧ RightP g.id g.bh g.n
  alts := [{ G2 := Unit, cond := fun _ _ => True, res := fun g _ => .tup [.sl (.own 1) (.lit 0) 1 (.sym g.out.length) none, il 0], heap := fun g _ => [(0, watch g.bound g.pat (g.ticks + 1) (resetR g.acc g.pat)), (1, .cells [.arr (.sym g.out.length) 1 (listE g.out)] 3)], nx := 2 }]
theorem okTr : ConOk Try.prog 11 conTr := by
  refine con_via okT (fun g => g) (fun g h => h.1) (fun g => rfl) (fun g => rfl) (fun g => rfl) rfl ?_
  intro g h a ha g2 hc
  have ha : a = _ ∨ a ∈ [_] := List.mem_cons.1 ha
  rcases ha with rfl | ha
  · exact absurd h.2 hc
  · obtain rfl := List.mem_singleton.1 ha
    exact ⟨_, List.mem_singleton_self _, (), trivial, rfl, rfl, rfl⟩
theorem hasP_list {l : List Int} {x : Int} : HasP ⟨l.length, fun j => l.getD j.toNat 0, x⟩ ↔ x ∈ l := by
  constructor
  · rintro ⟨j, j0, j1, j2⟩
    have j1 : j < (l.length : Int) := j1
    have hj : j.toNat < l.length := by omega
    have j2 : l.getD j.toNat 0 = x := j2
    rw [← j2]; exact getD_mem hj
  · intro h
    obtain ⟨k, hk, hx⟩ := List.getElem_of_mem h
    refine ⟨k, by omega, by show (k : Int) < l.length; omega, ?_⟩
    show l.getD ((k : Int)).toNat 0 = x
    rw [Int.toNat_natCast, List.getD_eq_getElem?_getD, List.getElem?_eq_getElem hk]; exact hx
theorem acc_rng {g : GT} (h : ∀ j, 0 ≤ j → j < 16 → 0 ≤ g.runs j ∧ g.runs j < g.pat) {j : Int} (j0 : 0 ≤ j) (j1 : j < 16) : 0 ≤ g.acc j ∧ g.acc j ≤ g.pat := by
  have := h j j0 j1
  unfold GT.acc accR
  split <;> omega
theorem mem_out {g : GT} {j : Int} : j ∈ g.out ↔ 0 ≤ j ∧ j < 16 ∧ g.acc j = g.pat := by
  unfold GT.out
  rw [slowL_mem]
  constructor
  · rintro ⟨m, m1, rfl, m2⟩; exact ⟨by omega, by omega, m2⟩
  · rintro ⟨j0, j1, j2⟩
    exact ⟨j.toNat, by omega, by omega, by rw [Int.toNat_of_nonneg j0]; exact j2⟩
theorem out_len {g : GT} : g.out.length ≤ 16 := slowL_len _
--BEGIN
set_option maxRecDepth 100000
set_option linter.unusedVariables false
theorem vcH : 
    ∀ (g : GH), (0 : Int) ≤ GH.n g ∧ GH.n g ≤ (9223372036854775807 : Int) → (∃ (g_1 : Int), ((0 : Int) ≤ g_1 ∧ g_1 ≤ GH.n g ∧ ∀ (j : Int), (0 : Int) ≤ j → j < g_1 → GH.a g j ≠ GH.x g) ∧ GH.n g = GH.n g ∧
    Bid.arg (0 : Nat) = Bid.arg (0 : Nat) ∧ GH.x g = GH.x g ∧ g_1 = (0 : Int) ∧ True) ∧ ∀ (g_1 : Int), ((0 : Int) ≤ g_1 ∧ g_1 ≤ GH.n g ∧ ∀ (j : Int), (0 : Int) ≤ j → j < g_1 → GH.a g j ≠ GH.x g) → (0 :
    Int) ≤ GH.n g ∧ (g_1 < GH.n g → (0 : Int) ≤ g_1 ∧ g_1 < GH.n g ∧ (0 : Int) ≤ g_1 ∧ g_1 < GH.n g ∧ (GH.a g g_1 = GH.x g → ∃ (g2 : Unit), True ∧ HasP g ∧ True) ∧ (¬GH.a g g_1 = GH.x g →
    ((-9223372036854775808 : Int) ≤ g_1 + (1 : Int) ∧ g_1 + (1 : Int) ≤ (9223372036854775807 : Int)) ∧ ∃ (g' : Int), ((0 : Int) ≤ g' ∧ g' ≤ GH.n g ∧ ∀ (j : Int), (0 : Int) ≤ j → j < g' → GH.a g j ≠ GH.x
    g) ∧ Int.toNat (GH.n g - g') < Int.toNat (GH.n g - g_1) ∧ GH.n g = GH.n g ∧ Bid.arg (0 : Nat) = Bid.arg (0 : Nat) ∧ GH.x g = GH.x g ∧ g' = g_1 + (1 : Int) ∧ True)) ∧ (¬g_1 < GH.n g → ∃ (g2 : Unit),
    True ∧ ¬HasP g ∧ True)
    := by
  intro g ⟨n0, n1⟩
  simp only [true_and, and_true, exists_const] at *
  refine ⟨⟨0, ⟨by omega, n0, fun j _ _ => by omega⟩, rfl⟩, fun i ⟨i0, i1, i3⟩ => ⟨n0, fun hi => ⟨i0, hi, i0, hi, fun h => ⟨i, i0, hi, h⟩, fun h => ⟨⟨by omega, by omega⟩, i + 1, ⟨by omega, by omega, fun j j0 j1 => ?_⟩, by omega, rfl⟩⟩,
    fun hi => fun ⟨j, j0, j1, j2⟩ => i3 j j0 (by omega) j2⟩⟩
  by_cases hj : j = i
  · subst hj; exact h
  · exact i3 j j0 (by omega)
theorem okH : ConOk Try.prog 20 conH := by
  refine conOk_of_SE cfgH (fun g => ⟨all_ok.ok, fun f sp h => by cases h⟩) mixed 5 ok20 ?_ (fun g => by rfl) ?_
  · intro g _; simp only [romFree, conH]; exact ⟨⟨rfl, fun j _ _ => ⟨rfl, trivial⟩, trivial⟩, trivial⟩
  · show ConVC 20 fn20 conH cfgH 5
    refine Eq.mp ?_ vcH
    kernel_rfl
end Go.Proofs.Ythcaiahfifpdiaa
end

section
namespace Go.Proofs.Ythcaiahfifpdiaa
open Go.AL Go.SL
structure GX where
  b : Int
  p : Int
  n : Int
  l : Int → Int
  m : Int
  o : Int → Int
def conX : Con where
  G := GX
  rom := fun g => [([.arr (.sym g.n) 1 (intE g.l)], 3), ([.arr (.sym g.m) 1 (intE g.o)], 3)]
  args := fun g => [iv g.b, iv g.p, .sl (.arg 0) (.lit 0) 1 (.sym g.n) none, .sl (.arg 1) (.lit 0) 1 (.sym g.m) none]
  heap := fun _ => []
  nx := 0
  side := fun g => InR g.b ∧ InR g.p ∧ 0 ≤ g.n ∧ g.n ≤ 9223372036854775807 ∧ 0 ≤ g.m ∧ g.m ≤ 9223372036854775807 ∧ (∀ j, 0 ≤ j → j < g.n → InR (g.l j)) ∧ (∀ j, 0 ≤ j → j < g.m → InR (g.o j))
  alts := [{ G2 := Unit, cond := fun _ _ => True, res := fun _ _ => .bool (.lit true), heap := fun _ _ => [], nx := 0 }]
/-- Further behind than the bound at a tick. -/
def hold (g : GX) (k : Int) : Prop := am g.b 100 < am (g.l k) 200
structure LX where
  i : Int
  s : Int
  r : Int → Int
structure LX.Ok (g : GX) (x : LX) : Prop where
  i0 : 0 ≤ x.i
  i1 : x.i ≤ g.n
  i2 : x.i ≤ 100
  s0 : 0 ≤ x.s
  s1 : x.r 3 ≤ x.i - x.s
  r : ∀ j, 0 ≤ j → j < 16 → 0 ≤ x.r j ∧ x.r j < 1 + am g.p 9
  h : ∀ k, x.i - x.r 3 ≤ k → k < x.i → hold g k
  e : x.i - x.r 3 = x.s ∨ ¬ hold g (x.i - x.r 3 - 1)
noncomputable def spX (g : GX) : List (Nat × (List SV → SHeap → Nat → SK → Prop)) := [(10, spOf conW (romL (conX.rom g))), (19, spOf conAm (romL (conX.rom g))), (11, spOf conTr (romL (conX.rom g))), (20, spOf conH (romL (conX.rom g))), (8, spOf conM (romL (conX.rom g)))]
structure LY where
  k : Int
  held : Int
def withI (σ : SSt) (t : Nat) (K : Int → LoopSpec) : LoopSpec :=
  match getEnv σ.env t with
  | some (.int _ (.sym n)) => K n
  | some (.int _ (.lit n)) => K n
  | _ => K 0
noncomputable def cfgX (g : GX) : Cfg := mkCfg (pgOf pgAll) (spX g)
  [((4, 0), mkL fn4 0 LX (fun x => x.Ok g) (fun x => (g.n - x.i).toNat) (fun x => [(12, iv x.i), (11, iv x.s)]) (fun x => [(0, watch (am g.b 100) (1 + am g.p 9) x.i x.r)]) 0),
   ((4, 1), fun σ => withI σ 12 fun i => withI σ 11 fun s => mkL fn4 1 LY (fun y => s - 1 ≤ y.k ∧ y.k ≤ i ∧ y.held = i - y.k ∧ ∀ q, y.k < q → q ≤ i → hold g q) (fun y => (y.k + 1 - s).toNat) (fun y => [(17, iv y.held), (18, iv y.k)]) (fun _ => []) 0 σ)]
theorem stepX {g : GX} {x : LX} (hx : x.Ok g) (hi : x.i < g.n) (hi2 : x.i < 100) {acc : Int → Int} (p0 : 0 ≤ am g.p 9) (ha : ∀ j, 0 ≤ j → j < 16 → 0 ≤ acc j ∧ acc j ≤ 1 + am g.p 9) (h1 : hold g x.i → acc 3 = x.r 3 + 1) (h0 : ¬ hold g x.i → acc 3 = 0)
    {k held : Int} (k0 : x.s - 1 ≤ k) (k1 : k ≤ x.i) (hh : held = x.i - k) (hq : ∀ q, k < q → q ≤ x.i → hold g q) (he : k < x.s ∨ ¬ hold g k) :
    acc 3 = held ∧ (1 + am g.p 9 ≤ held → LX.Ok g ⟨x.i + 1, x.i + 1, resetR acc (1 + am g.p 9)⟩) ∧ (¬ 1 + am g.p 9 ≤ held → LX.Ok g ⟨x.i + 1, x.s, resetR acc (1 + am g.p 9)⟩) := by
  obtain ⟨i0, i1, i2, s0, s1, r, h, e⟩ := hx
  have r3 := r 3 (by decide) (by decide)
  have a3 := ha 3 (by decide) (by decide)
  have hheld : acc 3 = held := by
    by_cases hd : hold g x.i
    · rw [h1 hd]
      have k2 : ¬ x.i - x.r 3 ≤ k := by
        intro hk
        rcases he with h | h2
        · omega
        · by_cases hki : k = x.i
          · subst hki; exact h2 hd
          · exact h2 (h k hk (by omega))
      have k3 : ¬ k < x.i - x.r 3 - 1 := by
        intro hk
        have := hq (x.i - x.r 3 - 1) hk (by omega)
        rcases e with e | e
        · omega
        · exact e this
      omega
    · rw [h0 hd]
      by_cases hki : k = x.i
      · omega
      · exact absurd (hq x.i (by omega) (by omega)) hd
  have rr : ∀ j, 0 ≤ j → j < 16 → 0 ≤ resetR acc (1 + am g.p 9) j ∧ resetR acc (1 + am g.p 9) j < 1 + am g.p 9 := by
    intro j j0 j1
    have := ha j j0 j1
    unfold resetR; split <;> omega
  refine ⟨hheld, fun hp => ?_, fun hp => ?_⟩
  · have e3 : resetR acc (1 + am g.p 9) 3 = 0 := if_pos (by omega)
    exact ⟨by simp only; omega, by simp only; omega, by simp only; omega, by simp only; omega, by simp only [e3]; omega, rr, fun q q0 q1 => by simp only [e3] at q0 q1; omega, .inl (by simp only [e3]; omega)⟩
  · have e3 : resetR acc (1 + am g.p 9) 3 = acc 3 := if_neg (by omega)
    by_cases hd : hold g x.i
    · have := h1 hd
      refine ⟨by simp only; omega, by simp only; omega, by simp only; omega, by simp only; omega, by simp only [e3]; omega, rr, fun q q0 q1 => ?_, ?_⟩
      · simp only [e3] at q0 q1
        by_cases hqi : q = x.i
        · subst hqi; exact hd
        · exact h q (by omega) (by omega)
      · simp only [e3]
        rw [show x.i + 1 - acc 3 = x.i - x.r 3 by omega]; exact e
    · have := h0 hd
      refine ⟨by simp only; omega, by simp only; omega, by simp only; omega, by simp only; omega, by simp only [e3]; omega, rr, fun q q0 q1 => ?_, .inr ?_⟩
      · simp only [e3] at q0 q1; omega
      · simp only [e3]
        rw [show x.i + 1 - acc 3 - 1 = x.i by omega]; exact hd
/-- A tick that tells two. -/
def two (b p t : Int) (r : Int → Int) (n m : Int) : GT := ⟨b, p, t, r, fun j => if j = 0 then 3 else 5, fun j => if j = 0 then n else m, 2⟩
theorem two_right {b p t : Int} {r : Int → Int} {n m : Int} (h1 : 0 ≤ n) (h2 : 0 ≤ m) : RightP (two b p t r n m).id (two b p t r n m).bh (two b p t r n m).n := by
  intro j j0 j1
  have j1 : j < 2 := j1
  simp only [two]
  refine ⟨?_, ?_, ?_, fun k k0 k1 => ?_⟩
  · simp only; split <;> decide
  · simp only; split <;> decide
  · simp only; split <;> assumption
  · have : k = 0 := by omega
    have : j = 1 := by omega
    subst k j; decide
theorem two_acc {b p t : Int} {r : Int → Int} {n m : Int} : (two b p t r n m).acc 3 = if b < n then r 3 + 1 else 0 := by
  show accR b r (fun j => if j = 0 then 3 else 5) (fun j => if j = 0 then n else m) 2 3 = _
  unfold accR
  by_cases h : b < n
  · rw [if_pos h, if_pos ⟨0, by omega, by omega, if_pos rfl, h⟩]
  · rw [if_neg h, if_neg]
    rintro ⟨q, q0, q1, q2, q3⟩
    by_cases hq : q = 0
    · subst hq; exact h q3
    · simp only [if_neg hq] at q2; exact absurd q2 (by decide)
--BEGIN
set_option maxRecDepth 100000
set_option linter.unusedVariables false
set_option maxHeartbeats 1000000 in
theorem vcX : 
    ∀ (g : GX), (((-9223372036854775808 : Int) ≤ GX.b g ∧ GX.b g ≤ (9223372036854775807 : Int)) ∧ ((-9223372036854775808 : Int) ≤ GX.p g ∧ GX.p g ≤ (9223372036854775807 : Int)) ∧ (0 : Int) ≤ GX.n g ∧ GX.n
    g ≤ (9223372036854775807 : Int) ∧ (0 : Int) ≤ GX.m g ∧ GX.m g ≤ (9223372036854775807 : Int) ∧ (∀ (j : Int), (0 : Int) ≤ j → j < GX.n g → (-9223372036854775808 : Int) ≤ GX.l g j ∧ GX.l g j ≤
    (9223372036854775807 : Int)) ∧ ∀ (j : Int), (0 : Int) ≤ j → j < GX.m g → (-9223372036854775808 : Int) ≤ GX.o g j ∧ GX.o g j ≤ (9223372036854775807 : Int)) → ∃ (g_1 : Unit), True ∧ ∀ (g2 : Unit), True
    → ∃ (g_2 : GA), GA.x g_2 = GX.b g ∧ GA.n g_2 = (100 : Int) ∧ (((-9223372036854775808 : Int) ≤ GA.x g_2 ∧ GA.x g_2 ≤ (9223372036854775807 : Int)) ∧ (1 : Int) ≤ GA.n g_2 ∧ GA.n g_2 ≤
    (9223372036854775807 : Int)) ∧ ∀ (g2 : Unit), True → ∃ (g_3 : GA), GA.x g_3 = GX.p g ∧ GA.n g_3 = (9 : Int) ∧ (((-9223372036854775808 : Int) ≤ GA.x g_3 ∧ GA.x g_3 ≤ (9223372036854775807 : Int)) ∧ (1 :
    Int) ≤ GA.n g_3 ∧ GA.n g_3 ≤ (9223372036854775807 : Int)) ∧ ∀ (g2 : Unit), True → ((-9223372036854775808 : Int) ≤ (1 : Int) + am (GA.x g_3) (GA.n g_3) ∧ (1 : Int) + am (GA.x g_3) (GA.n g_3) ≤
    (9223372036854775807 : Int)) ∧ ∃ (g_4 : GM), GM.b g_4 = am (GA.x g_2) (GA.n g_2) ∧ GM.p g_4 = (1 : Int) + am (GA.x g_3) (GA.n g_3) ∧ ((0 : Int) ≤ GM.b g_4 ∧ GM.b g_4 ≤ (1099511627776 : Int) ∧ (1 :
    Int) ≤ GM.p g_4 ∧ GM.p g_4 ≤ (256 : Int)) ∧ ∀ (g2 : Unit), True → (∀ (j : Int), nfL (intE (fun (x : Int) => (0 : Int)) j) = true) ∧ (∃ (g_5 : LX), LX.Ok g g_5 ∧ am (GA.x g_2) (GA.n g_2) = am (GA.x
    g_2) (GA.n g_2) ∧ (1 : Int) + am (GA.x g_3) (GA.n g_3) = (1 : Int) + am (GA.x g_3) (GA.n g_3) ∧ GX.n g = GX.n g ∧ Bid.arg (0 : Nat) = Bid.arg (0 : Nat) ∧ GX.m g = GX.m g ∧ Bid.arg (1 : Nat) = Bid.arg
    (1 : Nat) ∧ LX.s g_5 = (0 : Int) ∧ LX.i g_5 = (0 : Int) ∧ am (GX.b g) (100 : Int) = GM.b g_4 ∧ (1 : Int) + am (GX.p g) (9 : Int) = GM.p g_4 ∧ LX.i g_5 = (0 : Int) ∧ (∀ (j : Int), (0 : Int) ≤ j → j <
    (16 : Int) → LX.r g_5 j = (0 : Int) ∧ True) ∧ True) ∧ ∀ (g_5 : LX), LX.Ok g g_5 → (0 : Int) ≤ GX.n g ∧ (LX.i g_5 < GX.n g → (LX.i g_5 < (100 : Int) → (0 : Int) ≤ LX.i g_5 ∧ LX.i g_5 < GX.n g ∧ (0 :
    Int) ≤ LX.i g_5 ∧ LX.i g_5 < GX.n g ∧ ∃ (g_6 : GA), GA.x g_6 = GX.l g (LX.i g_5) ∧ GA.n g_6 = (200 : Int) ∧ (((-9223372036854775808 : Int) ≤ GA.x g_6 ∧ GA.x g_6 ≤ (9223372036854775807 : Int)) ∧ (1 :
    Int) ≤ GA.n g_6 ∧ GA.n g_6 ≤ (9223372036854775807 : Int)) ∧ ∀ (g2 : Unit), True → (0 : Int) ≤ GX.m g ∧ (LX.i g_5 < GX.m g → (0 : Int) ≤ LX.i g_5 ∧ LX.i g_5 < GX.m g ∧ (0 : Int) ≤ LX.i g_5 ∧ LX.i g_5 <
    GX.m g ∧ ∃ (g_7 : GA), GA.x g_7 = GX.o g (LX.i g_5) ∧ GA.n g_7 = (200 : Int) ∧ (((-9223372036854775808 : Int) ≤ GA.x g_7 ∧ GA.x g_7 ≤ (9223372036854775807 : Int)) ∧ (1 : Int) ≤ GA.n g_7 ∧ GA.n g_7 ≤
    (9223372036854775807 : Int)) ∧ ∀ (g2 : Unit), True → ∃ (g_8 : GT), GT.n g_8 = (2 : Int) ∧ Bid.own (3 : Nat) = Bid.own (3 : Nat) ∧ GT.bound g_8 = am (GX.b g) (100 : Int) ∧ GT.pat g_8 = (1 : Int) + am
    (GX.p g) (9 : Int) ∧ GT.ticks g_8 = LX.i g_5 ∧ (∀ (j : Int), (0 : Int) ≤ j → j < (16 : Int) → GT.runs g_8 j = LX.r g_5 j ∧ True) ∧ GT.n g_8 = (2 : Int) ∧ (∀ (j : Int), (0 : Int) ≤ j → j < GT.n g_8 →
    (j = (0 : Int) → GT.id g_8 j = (3 : Int) ∧ GT.bh g_8 j = am (GA.x g_6) (GA.n g_6) ∧ True) ∧ (j ≠ (0 : Int) → j = (1 : Int) ∧ GT.id g_8 j = (5 : Int) ∧ GT.bh g_8 j = am (GA.x g_7) (GA.n g_7) ∧ True)) ∧
    (GT.Ok g_8 ∧ RightP (GT.id g_8) (GT.bh g_8) (GT.n g_8)) ∧ ∀ (g2 : Unit), True → (∀ (j : Int), nfL (intE (resetR (GT.acc g_8) (GT.pat g_8)) j) = true) ∧ (∀ (j : Int), nfL (listE (GT.out g_8) j) = true)
    ∧ (∃ (g_9 : LY), (LX.s g_5 - (1 : Int) ≤ LY.k g_9 ∧ LY.k g_9 ≤ LX.i g_5 ∧ LY.held g_9 = LX.i g_5 - LY.k g_9 ∧ ∀ (q : Int), LY.k g_9 < q → q ≤ LX.i g_5 → hold g q) ∧ am (GA.x g_2) (GA.n g_2) = am (GA.x
    g_2) (GA.n g_2) ∧ (1 : Int) + am (GA.x g_3) (GA.n g_3) = (1 : Int) + am (GA.x g_3) (GA.n g_3) ∧ GX.n g = GX.n g ∧ Bid.arg (0 : Nat) = Bid.arg (0 : Nat) ∧ GX.m g = GX.m g ∧ Bid.arg (1 : Nat) = Bid.arg
    (1 : Nat) ∧ LX.s g_5 = LX.s g_5 ∧ LX.i g_5 = LX.i g_5 ∧ am (GA.x g_6) (GA.n g_6) = am (GA.x g_6) (GA.n g_6) ∧ (↑(List.length (GT.out g_8)) : Int) = (↑(List.length (GT.out g_8)) : Int) ∧ LY.held g_9 =
    (0 : Int) ∧ LY.k g_9 = LX.i g_5 ∧ LX.i g_5 = LX.i g_5 ∧ GX.n g = GX.n g ∧ Bid.arg (0 : Nat) = Bid.arg (0 : Nat) ∧ GX.n g = GX.n g ∧ (LX.i g_5 < GX.n g ↔ LX.i g_5 < GX.n g) ∧ LX.i g_5 = LX.i g_5 ∧
    (LX.i g_5 < (100 : Int) ↔ LX.i g_5 < (100 : Int)) ∧ GX.n g = GX.n g ∧ Bid.arg (0 : Nat) = Bid.arg (0 : Nat) ∧ LX.i g_5 = LX.i g_5 ∧ LX.i g_5 = LX.i g_5 ∧ Bid.arg (0 : Nat) = Bid.arg (0 : Nat) ∧ GX.l g
    (LX.i g_5) = GX.l g (LX.i g_5) ∧ am (GA.x g_6) (GA.n g_6) = am (GA.x g_6) (GA.n g_6) ∧ am (GA.x g_6) (GA.n g_6) = am (GA.x g_6) (GA.n g_6) ∧ am (GA.x g_6) (GA.n g_6) = am (GA.x g_6) (GA.n g_6) ∧ LX.i
    g_5 = LX.i g_5 ∧ GX.m g = GX.m g ∧ Bid.arg (1 : Nat) = Bid.arg (1 : Nat) ∧ GX.m g = GX.m g ∧ GX.m g = GX.m g ∧ Bid.arg (1 : Nat) = Bid.arg (1 : Nat) ∧ LX.i g_5 = LX.i g_5 ∧ LX.i g_5 = LX.i g_5 ∧
    Bid.arg (1 : Nat) = Bid.arg (1 : Nat) ∧ GX.o g (LX.i g_5) = GX.o g (LX.i g_5) ∧ am (GA.x g_7) (GA.n g_7) = am (GA.x g_7) (GA.n g_7) ∧ am (GA.x g_7) (GA.n g_7) = am (GA.x g_7) (GA.n g_7) ∧
    (↑(List.length (GT.out g_8)) : Int) = (↑(List.length (GT.out g_8)) : Int) ∧ (↑(List.length (GT.out g_8)) : Int) = (↑(List.length (GT.out g_8)) : Int) ∧ (↑(List.length (GT.out g_8)) : Int) =
    (↑(List.length (GT.out g_8)) : Int) ∧ LX.i g_5 = LX.i g_5 ∧ GT.bound g_8 = GT.bound g_8 ∧ GT.pat g_8 = GT.pat g_8 ∧ GT.ticks g_8 + (1 : Int) = GT.ticks g_8 + (1 : Int) ∧ (∀ (j : Int), (0 : Int) ≤ j →
    j < (16 : Int) → resetR (GT.acc g_8) (GT.pat g_8) j = resetR (GT.acc g_8) (GT.pat g_8) j ∧ True) ∧ (↑(List.length (GT.out g_8)) : Int) = (↑(List.length (GT.out g_8)) : Int) ∧ (∀ (j : Int), (0 : Int) ≤
    j → j < (↑(List.length (GT.out g_8)) : Int) → List.getD (GT.out g_8) (Int.toNat j) (0 : Int) = List.getD (GT.out g_8) (Int.toNat j) (0 : Int) ∧ True) ∧ (∀ (j : Int), (0 : Int) ≤ j → j < (1 : Int) → j
    = (0 : Int) ∧ j = (0 : Int) ∧ am (GA.x g_7) (GA.n g_7) = am (GA.x g_7) (GA.n g_7) ∧ True) ∧ (∀ (j : Int), (0 : Int) ≤ j → j < (2 : Int) → (j = (0 : Int) → (j = (0 : Int) → am (GA.x g_6) (GA.n g_6) =
    am (GA.x g_6) (GA.n g_6) ∧ True) ∧ (j ≠ (0 : Int) → j = (1 : Int) ∧ False)) ∧ (j ≠ (0 : Int) → j = (1 : Int) ∧ (j = (0 : Int) → False) ∧ (j ≠ (0 : Int) → j = (1 : Int) ∧ am (GA.x g_7) (GA.n g_7) = am
    (GA.x g_7) (GA.n g_7) ∧ True))) ∧ True) ∧ ∀ (g_9 : LY), (LX.s g_5 - (1 : Int) ≤ LY.k g_9 ∧ LY.k g_9 ≤ LX.i g_5 ∧ LY.held g_9 = LX.i g_5 - LY.k g_9 ∧ ∀ (q : Int), LY.k g_9 < q → q ≤ LX.i g_5 → hold g
    q) → (LX.s g_5 ≤ LY.k g_9 → (0 : Int) ≤ LY.k g_9 ∧ LY.k g_9 < GX.n g ∧ (0 : Int) ≤ LY.k g_9 ∧ LY.k g_9 < GX.n g ∧ ∃ (g_10 : GA), GA.x g_10 = GX.l g (LY.k g_9) ∧ GA.n g_10 = (200 : Int) ∧
    (((-9223372036854775808 : Int) ≤ GA.x g_10 ∧ GA.x g_10 ≤ (9223372036854775807 : Int)) ∧ (1 : Int) ≤ GA.n g_10 ∧ GA.n g_10 ≤ (9223372036854775807 : Int)) ∧ ∀ (g2 : Unit), True → (am (GA.x g_2) (GA.n
    g_2) < am (GA.x g_10) (GA.n g_10) → ((-9223372036854775808 : Int) ≤ LY.held g_9 + (1 : Int) ∧ LY.held g_9 + (1 : Int) ≤ (9223372036854775807 : Int)) ∧ ((-9223372036854775808 : Int) ≤ LY.k g_9 - (1 :
    Int) ∧ LY.k g_9 - (1 : Int) ≤ (9223372036854775807 : Int)) ∧ ∃ (g' : LY), (LX.s g_5 - (1 : Int) ≤ LY.k g' ∧ LY.k g' ≤ LX.i g_5 ∧ LY.held g' = LX.i g_5 - LY.k g' ∧ ∀ (q : Int), LY.k g' < q → q ≤ LX.i
    g_5 → hold g q) ∧ Int.toNat (LY.k g' + (1 : Int) - LX.s g_5) < Int.toNat (LY.k g_9 + (1 : Int) - LX.s g_5) ∧ am (GA.x g_2) (GA.n g_2) = am (GA.x g_2) (GA.n g_2) ∧ (1 : Int) + am (GA.x g_3) (GA.n g_3)
    = (1 : Int) + am (GA.x g_3) (GA.n g_3) ∧ GX.n g = GX.n g ∧ Bid.arg (0 : Nat) = Bid.arg (0 : Nat) ∧ GX.m g = GX.m g ∧ Bid.arg (1 : Nat) = Bid.arg (1 : Nat) ∧ LX.s g_5 = LX.s g_5 ∧ LX.i g_5 = LX.i g_5 ∧
    am (GA.x g_6) (GA.n g_6) = am (GA.x g_6) (GA.n g_6) ∧ (↑(List.length (GT.out g_8)) : Int) = (↑(List.length (GT.out g_8)) : Int) ∧ LY.held g' = LY.held g_9 + (1 : Int) ∧ LY.k g' = LY.k g_9 - (1 : Int)
    ∧ LX.i g_5 = LX.i g_5 ∧ GX.n g = GX.n g ∧ Bid.arg (0 : Nat) = Bid.arg (0 : Nat) ∧ GX.n g = GX.n g ∧ (LX.i g_5 < GX.n g ↔ LX.i g_5 < GX.n g) ∧ LX.i g_5 = LX.i g_5 ∧ (LX.i g_5 < (100 : Int) ↔ LX.i g_5 <
    (100 : Int)) ∧ GX.n g = GX.n g ∧ Bid.arg (0 : Nat) = Bid.arg (0 : Nat) ∧ LX.i g_5 = LX.i g_5 ∧ LX.i g_5 = LX.i g_5 ∧ Bid.arg (0 : Nat) = Bid.arg (0 : Nat) ∧ GX.l g (LX.i g_5) = GX.l g (LX.i g_5) ∧ am
    (GA.x g_6) (GA.n g_6) = am (GA.x g_6) (GA.n g_6) ∧ am (GA.x g_6) (GA.n g_6) = am (GA.x g_6) (GA.n g_6) ∧ am (GA.x g_6) (GA.n g_6) = am (GA.x g_6) (GA.n g_6) ∧ LX.i g_5 = LX.i g_5 ∧ GX.m g = GX.m g ∧
    Bid.arg (1 : Nat) = Bid.arg (1 : Nat) ∧ GX.m g = GX.m g ∧ GX.m g = GX.m g ∧ Bid.arg (1 : Nat) = Bid.arg (1 : Nat) ∧ LX.i g_5 = LX.i g_5 ∧ LX.i g_5 = LX.i g_5 ∧ Bid.arg (1 : Nat) = Bid.arg (1 : Nat) ∧
    GX.o g (LX.i g_5) = GX.o g (LX.i g_5) ∧ am (GA.x g_7) (GA.n g_7) = am (GA.x g_7) (GA.n g_7) ∧ am (GA.x g_7) (GA.n g_7) = am (GA.x g_7) (GA.n g_7) ∧ (↑(List.length (GT.out g_8)) : Int) = (↑(List.length
    (GT.out g_8)) : Int) ∧ (↑(List.length (GT.out g_8)) : Int) = (↑(List.length (GT.out g_8)) : Int) ∧ (↑(List.length (GT.out g_8)) : Int) = (↑(List.length (GT.out g_8)) : Int) ∧ LX.i g_5 = LX.i g_5 ∧
    GT.bound g_8 = GT.bound g_8 ∧ GT.pat g_8 = GT.pat g_8 ∧ GT.ticks g_8 + (1 : Int) = GT.ticks g_8 + (1 : Int) ∧ (∀ (j : Int), (0 : Int) ≤ j → j < (16 : Int) → resetR (GT.acc g_8) (GT.pat g_8) j = resetR
    (GT.acc g_8) (GT.pat g_8) j ∧ True) ∧ (↑(List.length (GT.out g_8)) : Int) = (↑(List.length (GT.out g_8)) : Int) ∧ (∀ (j : Int), (0 : Int) ≤ j → j < (↑(List.length (GT.out g_8)) : Int) → List.getD
    (GT.out g_8) (Int.toNat j) (0 : Int) = List.getD (GT.out g_8) (Int.toNat j) (0 : Int) ∧ True) ∧ (∀ (j : Int), (0 : Int) ≤ j → j < (1 : Int) → j = (0 : Int) ∧ j = (0 : Int) ∧ am (GA.x g_7) (GA.n g_7) =
    am (GA.x g_7) (GA.n g_7) ∧ True) ∧ (∀ (j : Int), (0 : Int) ≤ j → j < (2 : Int) → (j = (0 : Int) → (j = (0 : Int) → am (GA.x g_6) (GA.n g_6) = am (GA.x g_6) (GA.n g_6) ∧ True) ∧ (j ≠ (0 : Int) → j = (1
    : Int) ∧ False)) ∧ (j ≠ (0 : Int) → j = (1 : Int) ∧ (j = (0 : Int) → False) ∧ (j ≠ (0 : Int) → j = (1 : Int) ∧ am (GA.x g_7) (GA.n g_7) = am (GA.x g_7) (GA.n g_7) ∧ True))) ∧ True) ∧ (¬am (GA.x g_2)
    (GA.n g_2) < am (GA.x g_10) (GA.n g_10) → ∃ (g_11 : GH), GH.n g_11 = (↑(List.length (GT.out g_8)) : Int) ∧ Bid.own (5 : Nat) = Bid.own (5 : Nat) ∧ GH.x g_11 = (3 : Int) ∧ GH.n g_11 = (↑(List.length
    (GT.out g_8)) : Int) ∧ (∀ (j : Int), (0 : Int) ≤ j → j < GH.n g_11 → GH.a g_11 j = List.getD (GT.out g_8) (Int.toNat j) (0 : Int) ∧ True) ∧ ((0 : Int) ≤ GH.n g_11 ∧ GH.n g_11 ≤ (9223372036854775807 :
    Int)) ∧ ∀ (g2 : Unit), True → (¬(HasP g_11 ↔ (1 : Int) + am (GA.x g_3) (GA.n g_3) ≤ LY.held g_9) → ∃ (g2 : Unit), True ∧ False) ∧ (¬¬(HasP g_11 ↔ (1 : Int) + am (GA.x g_3) (GA.n g_3) ≤ LY.held g_9) →
    ((1 : Int) + am (GA.x g_3) (GA.n g_3) ≤ LY.held g_9 → ((-9223372036854775808 : Int) ≤ LX.i g_5 + (1 : Int) ∧ LX.i g_5 + (1 : Int) ≤ (9223372036854775807 : Int)) ∧ ((-9223372036854775808 : Int) ≤ LX.i
    g_5 + (1 : Int) ∧ LX.i g_5 + (1 : Int) ≤ (9223372036854775807 : Int)) ∧ ∃ (g' : LX), LX.Ok g g' ∧ Int.toNat (GX.n g - LX.i g') < Int.toNat (GX.n g - LX.i g_5) ∧ am (GA.x g_2) (GA.n g_2) = am (GA.x
    g_2) (GA.n g_2) ∧ (1 : Int) + am (GA.x g_3) (GA.n g_3) = (1 : Int) + am (GA.x g_3) (GA.n g_3) ∧ GX.n g = GX.n g ∧ Bid.arg (0 : Nat) = Bid.arg (0 : Nat) ∧ GX.m g = GX.m g ∧ Bid.arg (1 : Nat) = Bid.arg
    (1 : Nat) ∧ LX.s g' = LX.i g_5 + (1 : Int) ∧ LX.i g' = LX.i g_5 + (1 : Int) ∧ am (GX.b g) (100 : Int) = GT.bound g_8 ∧ (1 : Int) + am (GX.p g) (9 : Int) = GT.pat g_8 ∧ LX.i g' = GT.ticks g_8 + (1 :
    Int) ∧ (∀ (j : Int), (0 : Int) ≤ j → j < (16 : Int) → LX.r g' j = resetR (GT.acc g_8) (GT.pat g_8) j ∧ True) ∧ True) ∧ (¬(1 : Int) + am (GA.x g_3) (GA.n g_3) ≤ LY.held g_9 → ((-9223372036854775808 :
    Int) ≤ LX.i g_5 + (1 : Int) ∧ LX.i g_5 + (1 : Int) ≤ (9223372036854775807 : Int)) ∧ ∃ (g' : LX), LX.Ok g g' ∧ Int.toNat (GX.n g - LX.i g') < Int.toNat (GX.n g - LX.i g_5) ∧ am (GA.x g_2) (GA.n g_2) =
    am (GA.x g_2) (GA.n g_2) ∧ (1 : Int) + am (GA.x g_3) (GA.n g_3) = (1 : Int) + am (GA.x g_3) (GA.n g_3) ∧ GX.n g = GX.n g ∧ Bid.arg (0 : Nat) = Bid.arg (0 : Nat) ∧ GX.m g = GX.m g ∧ Bid.arg (1 : Nat) =
    Bid.arg (1 : Nat) ∧ LX.s g' = LX.s g_5 ∧ LX.i g' = LX.i g_5 + (1 : Int) ∧ am (GX.b g) (100 : Int) = GT.bound g_8 ∧ (1 : Int) + am (GX.p g) (9 : Int) = GT.pat g_8 ∧ LX.i g' = GT.ticks g_8 + (1 : Int) ∧
    (∀ (j : Int), (0 : Int) ≤ j → j < (16 : Int) → LX.r g' j = resetR (GT.acc g_8) (GT.pat g_8) j ∧ True) ∧ True)))) ∧ (¬LX.s g_5 ≤ LY.k g_9 → ∃ (g_10 : GH), GH.n g_10 = (↑(List.length (GT.out g_8)) :
    Int) ∧ Bid.own (5 : Nat) = Bid.own (5 : Nat) ∧ GH.x g_10 = (3 : Int) ∧ GH.n g_10 = (↑(List.length (GT.out g_8)) : Int) ∧ (∀ (j : Int), (0 : Int) ≤ j → j < GH.n g_10 → GH.a g_10 j = List.getD (GT.out
    g_8) (Int.toNat j) (0 : Int) ∧ True) ∧ ((0 : Int) ≤ GH.n g_10 ∧ GH.n g_10 ≤ (9223372036854775807 : Int)) ∧ ∀ (g2 : Unit), True → (¬(HasP g_10 ↔ (1 : Int) + am (GA.x g_3) (GA.n g_3) ≤ LY.held g_9) → ∃
    (g2 : Unit), True ∧ False) ∧ (¬¬(HasP g_10 ↔ (1 : Int) + am (GA.x g_3) (GA.n g_3) ≤ LY.held g_9) → ((1 : Int) + am (GA.x g_3) (GA.n g_3) ≤ LY.held g_9 → ((-9223372036854775808 : Int) ≤ LX.i g_5 + (1 :
    Int) ∧ LX.i g_5 + (1 : Int) ≤ (9223372036854775807 : Int)) ∧ ((-9223372036854775808 : Int) ≤ LX.i g_5 + (1 : Int) ∧ LX.i g_5 + (1 : Int) ≤ (9223372036854775807 : Int)) ∧ ∃ (g' : LX), LX.Ok g g' ∧
    Int.toNat (GX.n g - LX.i g') < Int.toNat (GX.n g - LX.i g_5) ∧ am (GA.x g_2) (GA.n g_2) = am (GA.x g_2) (GA.n g_2) ∧ (1 : Int) + am (GA.x g_3) (GA.n g_3) = (1 : Int) + am (GA.x g_3) (GA.n g_3) ∧ GX.n
    g = GX.n g ∧ Bid.arg (0 : Nat) = Bid.arg (0 : Nat) ∧ GX.m g = GX.m g ∧ Bid.arg (1 : Nat) = Bid.arg (1 : Nat) ∧ LX.s g' = LX.i g_5 + (1 : Int) ∧ LX.i g' = LX.i g_5 + (1 : Int) ∧ am (GX.b g) (100 : Int)
    = GT.bound g_8 ∧ (1 : Int) + am (GX.p g) (9 : Int) = GT.pat g_8 ∧ LX.i g' = GT.ticks g_8 + (1 : Int) ∧ (∀ (j : Int), (0 : Int) ≤ j → j < (16 : Int) → LX.r g' j = resetR (GT.acc g_8) (GT.pat g_8) j ∧
    True) ∧ True) ∧ (¬(1 : Int) + am (GA.x g_3) (GA.n g_3) ≤ LY.held g_9 → ((-9223372036854775808 : Int) ≤ LX.i g_5 + (1 : Int) ∧ LX.i g_5 + (1 : Int) ≤ (9223372036854775807 : Int)) ∧ ∃ (g' : LX), LX.Ok g
    g' ∧ Int.toNat (GX.n g - LX.i g') < Int.toNat (GX.n g - LX.i g_5) ∧ am (GA.x g_2) (GA.n g_2) = am (GA.x g_2) (GA.n g_2) ∧ (1 : Int) + am (GA.x g_3) (GA.n g_3) = (1 : Int) + am (GA.x g_3) (GA.n g_3) ∧
    GX.n g = GX.n g ∧ Bid.arg (0 : Nat) = Bid.arg (0 : Nat) ∧ GX.m g = GX.m g ∧ Bid.arg (1 : Nat) = Bid.arg (1 : Nat) ∧ LX.s g' = LX.s g_5 ∧ LX.i g' = LX.i g_5 + (1 : Int) ∧ am (GX.b g) (100 : Int) =
    GT.bound g_8 ∧ (1 : Int) + am (GX.p g) (9 : Int) = GT.pat g_8 ∧ LX.i g' = GT.ticks g_8 + (1 : Int) ∧ (∀ (j : Int), (0 : Int) ≤ j → j < (16 : Int) → LX.r g' j = resetR (GT.acc g_8) (GT.pat g_8) j ∧
    True) ∧ True)))) ∧ (¬LX.i g_5 < GX.m g → ∃ (g_7 : GT), GT.n g_7 = (1 : Int) ∧ Bid.own (1 : Nat) = Bid.own (1 : Nat) ∧ GT.bound g_7 = am (GX.b g) (100 : Int) ∧ GT.pat g_7 = (1 : Int) + am (GX.p g) (9 :
    Int) ∧ GT.ticks g_7 = LX.i g_5 ∧ (∀ (j : Int), (0 : Int) ≤ j → j < (16 : Int) → GT.runs g_7 j = LX.r g_5 j ∧ True) ∧ GT.n g_7 = (1 : Int) ∧ (∀ (j : Int), (0 : Int) ≤ j → j < GT.n g_7 → j = (0 : Int) ∧
    GT.id g_7 j = (3 : Int) ∧ GT.bh g_7 j = am (GA.x g_6) (GA.n g_6) ∧ True) ∧ (GT.Ok g_7 ∧ RightP (GT.id g_7) (GT.bh g_7) (GT.n g_7)) ∧ ∀ (g2 : Unit), True → (∀ (j : Int), nfL (intE (resetR (GT.acc g_7)
    (GT.pat g_7)) j) = true) ∧ (∀ (j : Int), nfL (listE (GT.out g_7) j) = true) ∧ (∃ (g_8 : LY), (LX.s g_5 - (1 : Int) ≤ LY.k g_8 ∧ LY.k g_8 ≤ LX.i g_5 ∧ LY.held g_8 = LX.i g_5 - LY.k g_8 ∧ ∀ (q : Int),
    LY.k g_8 < q → q ≤ LX.i g_5 → hold g q) ∧ am (GA.x g_2) (GA.n g_2) = am (GA.x g_2) (GA.n g_2) ∧ (1 : Int) + am (GA.x g_3) (GA.n g_3) = (1 : Int) + am (GA.x g_3) (GA.n g_3) ∧ GX.n g = GX.n g ∧ Bid.arg
    (0 : Nat) = Bid.arg (0 : Nat) ∧ GX.m g = GX.m g ∧ Bid.arg (1 : Nat) = Bid.arg (1 : Nat) ∧ LX.s g_5 = LX.s g_5 ∧ LX.i g_5 = LX.i g_5 ∧ am (GA.x g_6) (GA.n g_6) = am (GA.x g_6) (GA.n g_6) ∧
    (↑(List.length (GT.out g_7)) : Int) = (↑(List.length (GT.out g_7)) : Int) ∧ LY.held g_8 = (0 : Int) ∧ LY.k g_8 = LX.i g_5 ∧ LX.i g_5 = LX.i g_5 ∧ GX.n g = GX.n g ∧ Bid.arg (0 : Nat) = Bid.arg (0 :
    Nat) ∧ GX.n g = GX.n g ∧ (LX.i g_5 < GX.n g ↔ LX.i g_5 < GX.n g) ∧ LX.i g_5 = LX.i g_5 ∧ (LX.i g_5 < (100 : Int) ↔ LX.i g_5 < (100 : Int)) ∧ GX.n g = GX.n g ∧ Bid.arg (0 : Nat) = Bid.arg (0 : Nat) ∧
    LX.i g_5 = LX.i g_5 ∧ LX.i g_5 = LX.i g_5 ∧ Bid.arg (0 : Nat) = Bid.arg (0 : Nat) ∧ GX.l g (LX.i g_5) = GX.l g (LX.i g_5) ∧ am (GA.x g_6) (GA.n g_6) = am (GA.x g_6) (GA.n g_6) ∧ am (GA.x g_6) (GA.n
    g_6) = am (GA.x g_6) (GA.n g_6) ∧ am (GA.x g_6) (GA.n g_6) = am (GA.x g_6) (GA.n g_6) ∧ LX.i g_5 = LX.i g_5 ∧ GX.m g = GX.m g ∧ Bid.arg (1 : Nat) = Bid.arg (1 : Nat) ∧ GX.m g = GX.m g ∧ (↑(List.length
    (GT.out g_7)) : Int) = (↑(List.length (GT.out g_7)) : Int) ∧ (↑(List.length (GT.out g_7)) : Int) = (↑(List.length (GT.out g_7)) : Int) ∧ (↑(List.length (GT.out g_7)) : Int) = (↑(List.length (GT.out
    g_7)) : Int) ∧ LX.i g_5 = LX.i g_5 ∧ GT.bound g_7 = GT.bound g_7 ∧ GT.pat g_7 = GT.pat g_7 ∧ GT.ticks g_7 + (1 : Int) = GT.ticks g_7 + (1 : Int) ∧ (∀ (j : Int), (0 : Int) ≤ j → j < (16 : Int) → resetR
    (GT.acc g_7) (GT.pat g_7) j = resetR (GT.acc g_7) (GT.pat g_7) j ∧ True) ∧ (↑(List.length (GT.out g_7)) : Int) = (↑(List.length (GT.out g_7)) : Int) ∧ (∀ (j : Int), (0 : Int) ≤ j → j < (↑(List.length
    (GT.out g_7)) : Int) → List.getD (GT.out g_7) (Int.toNat j) (0 : Int) = List.getD (GT.out g_7) (Int.toNat j) (0 : Int) ∧ True) ∧ (∀ (j : Int), (0 : Int) ≤ j → j < (1 : Int) → j = (0 : Int) ∧ j = (0 :
    Int) ∧ am (GA.x g_6) (GA.n g_6) = am (GA.x g_6) (GA.n g_6) ∧ True) ∧ True) ∧ ∀ (g_8 : LY), (LX.s g_5 - (1 : Int) ≤ LY.k g_8 ∧ LY.k g_8 ≤ LX.i g_5 ∧ LY.held g_8 = LX.i g_5 - LY.k g_8 ∧ ∀ (q : Int),
    LY.k g_8 < q → q ≤ LX.i g_5 → hold g q) → (LX.s g_5 ≤ LY.k g_8 → (0 : Int) ≤ LY.k g_8 ∧ LY.k g_8 < GX.n g ∧ (0 : Int) ≤ LY.k g_8 ∧ LY.k g_8 < GX.n g ∧ ∃ (g_9 : GA), GA.x g_9 = GX.l g (LY.k g_8) ∧ GA.n
    g_9 = (200 : Int) ∧ (((-9223372036854775808 : Int) ≤ GA.x g_9 ∧ GA.x g_9 ≤ (9223372036854775807 : Int)) ∧ (1 : Int) ≤ GA.n g_9 ∧ GA.n g_9 ≤ (9223372036854775807 : Int)) ∧ ∀ (g2 : Unit), True → (am
    (GA.x g_2) (GA.n g_2) < am (GA.x g_9) (GA.n g_9) → ((-9223372036854775808 : Int) ≤ LY.held g_8 + (1 : Int) ∧ LY.held g_8 + (1 : Int) ≤ (9223372036854775807 : Int)) ∧ ((-9223372036854775808 : Int) ≤
    LY.k g_8 - (1 : Int) ∧ LY.k g_8 - (1 : Int) ≤ (9223372036854775807 : Int)) ∧ ∃ (g' : LY), (LX.s g_5 - (1 : Int) ≤ LY.k g' ∧ LY.k g' ≤ LX.i g_5 ∧ LY.held g' = LX.i g_5 - LY.k g' ∧ ∀ (q : Int), LY.k g'
    < q → q ≤ LX.i g_5 → hold g q) ∧ Int.toNat (LY.k g' + (1 : Int) - LX.s g_5) < Int.toNat (LY.k g_8 + (1 : Int) - LX.s g_5) ∧ am (GA.x g_2) (GA.n g_2) = am (GA.x g_2) (GA.n g_2) ∧ (1 : Int) + am (GA.x
    g_3) (GA.n g_3) = (1 : Int) + am (GA.x g_3) (GA.n g_3) ∧ GX.n g = GX.n g ∧ Bid.arg (0 : Nat) = Bid.arg (0 : Nat) ∧ GX.m g = GX.m g ∧ Bid.arg (1 : Nat) = Bid.arg (1 : Nat) ∧ LX.s g_5 = LX.s g_5 ∧ LX.i
    g_5 = LX.i g_5 ∧ am (GA.x g_6) (GA.n g_6) = am (GA.x g_6) (GA.n g_6) ∧ (↑(List.length (GT.out g_7)) : Int) = (↑(List.length (GT.out g_7)) : Int) ∧ LY.held g' = LY.held g_8 + (1 : Int) ∧ LY.k g' = LY.k
    g_8 - (1 : Int) ∧ LX.i g_5 = LX.i g_5 ∧ GX.n g = GX.n g ∧ Bid.arg (0 : Nat) = Bid.arg (0 : Nat) ∧ GX.n g = GX.n g ∧ (LX.i g_5 < GX.n g ↔ LX.i g_5 < GX.n g) ∧ LX.i g_5 = LX.i g_5 ∧ (LX.i g_5 < (100 :
    Int) ↔ LX.i g_5 < (100 : Int)) ∧ GX.n g = GX.n g ∧ Bid.arg (0 : Nat) = Bid.arg (0 : Nat) ∧ LX.i g_5 = LX.i g_5 ∧ LX.i g_5 = LX.i g_5 ∧ Bid.arg (0 : Nat) = Bid.arg (0 : Nat) ∧ GX.l g (LX.i g_5) = GX.l
    g (LX.i g_5) ∧ am (GA.x g_6) (GA.n g_6) = am (GA.x g_6) (GA.n g_6) ∧ am (GA.x g_6) (GA.n g_6) = am (GA.x g_6) (GA.n g_6) ∧ am (GA.x g_6) (GA.n g_6) = am (GA.x g_6) (GA.n g_6) ∧ LX.i g_5 = LX.i g_5 ∧
    GX.m g = GX.m g ∧ Bid.arg (1 : Nat) = Bid.arg (1 : Nat) ∧ GX.m g = GX.m g ∧ (↑(List.length (GT.out g_7)) : Int) = (↑(List.length (GT.out g_7)) : Int) ∧ (↑(List.length (GT.out g_7)) : Int) =
    (↑(List.length (GT.out g_7)) : Int) ∧ (↑(List.length (GT.out g_7)) : Int) = (↑(List.length (GT.out g_7)) : Int) ∧ LX.i g_5 = LX.i g_5 ∧ GT.bound g_7 = GT.bound g_7 ∧ GT.pat g_7 = GT.pat g_7 ∧ GT.ticks
    g_7 + (1 : Int) = GT.ticks g_7 + (1 : Int) ∧ (∀ (j : Int), (0 : Int) ≤ j → j < (16 : Int) → resetR (GT.acc g_7) (GT.pat g_7) j = resetR (GT.acc g_7) (GT.pat g_7) j ∧ True) ∧ (↑(List.length (GT.out
    g_7)) : Int) = (↑(List.length (GT.out g_7)) : Int) ∧ (∀ (j : Int), (0 : Int) ≤ j → j < (↑(List.length (GT.out g_7)) : Int) → List.getD (GT.out g_7) (Int.toNat j) (0 : Int) = List.getD (GT.out g_7)
    (Int.toNat j) (0 : Int) ∧ True) ∧ (∀ (j : Int), (0 : Int) ≤ j → j < (1 : Int) → j = (0 : Int) ∧ j = (0 : Int) ∧ am (GA.x g_6) (GA.n g_6) = am (GA.x g_6) (GA.n g_6) ∧ True) ∧ True) ∧ (¬am (GA.x g_2)
    (GA.n g_2) < am (GA.x g_9) (GA.n g_9) → ∃ (g_10 : GH), GH.n g_10 = (↑(List.length (GT.out g_7)) : Int) ∧ Bid.own (3 : Nat) = Bid.own (3 : Nat) ∧ GH.x g_10 = (3 : Int) ∧ GH.n g_10 = (↑(List.length
    (GT.out g_7)) : Int) ∧ (∀ (j : Int), (0 : Int) ≤ j → j < GH.n g_10 → GH.a g_10 j = List.getD (GT.out g_7) (Int.toNat j) (0 : Int) ∧ True) ∧ ((0 : Int) ≤ GH.n g_10 ∧ GH.n g_10 ≤ (9223372036854775807 :
    Int)) ∧ ∀ (g2 : Unit), True → (¬(HasP g_10 ↔ (1 : Int) + am (GA.x g_3) (GA.n g_3) ≤ LY.held g_8) → ∃ (g2 : Unit), True ∧ False) ∧ (¬¬(HasP g_10 ↔ (1 : Int) + am (GA.x g_3) (GA.n g_3) ≤ LY.held g_8) →
    ((1 : Int) + am (GA.x g_3) (GA.n g_3) ≤ LY.held g_8 → ((-9223372036854775808 : Int) ≤ LX.i g_5 + (1 : Int) ∧ LX.i g_5 + (1 : Int) ≤ (9223372036854775807 : Int)) ∧ ((-9223372036854775808 : Int) ≤ LX.i
    g_5 + (1 : Int) ∧ LX.i g_5 + (1 : Int) ≤ (9223372036854775807 : Int)) ∧ ∃ (g' : LX), LX.Ok g g' ∧ Int.toNat (GX.n g - LX.i g') < Int.toNat (GX.n g - LX.i g_5) ∧ am (GA.x g_2) (GA.n g_2) = am (GA.x
    g_2) (GA.n g_2) ∧ (1 : Int) + am (GA.x g_3) (GA.n g_3) = (1 : Int) + am (GA.x g_3) (GA.n g_3) ∧ GX.n g = GX.n g ∧ Bid.arg (0 : Nat) = Bid.arg (0 : Nat) ∧ GX.m g = GX.m g ∧ Bid.arg (1 : Nat) = Bid.arg
    (1 : Nat) ∧ LX.s g' = LX.i g_5 + (1 : Int) ∧ LX.i g' = LX.i g_5 + (1 : Int) ∧ am (GX.b g) (100 : Int) = GT.bound g_7 ∧ (1 : Int) + am (GX.p g) (9 : Int) = GT.pat g_7 ∧ LX.i g' = GT.ticks g_7 + (1 :
    Int) ∧ (∀ (j : Int), (0 : Int) ≤ j → j < (16 : Int) → LX.r g' j = resetR (GT.acc g_7) (GT.pat g_7) j ∧ True) ∧ True) ∧ (¬(1 : Int) + am (GA.x g_3) (GA.n g_3) ≤ LY.held g_8 → ((-9223372036854775808 :
    Int) ≤ LX.i g_5 + (1 : Int) ∧ LX.i g_5 + (1 : Int) ≤ (9223372036854775807 : Int)) ∧ ∃ (g' : LX), LX.Ok g g' ∧ Int.toNat (GX.n g - LX.i g') < Int.toNat (GX.n g - LX.i g_5) ∧ am (GA.x g_2) (GA.n g_2) =
    am (GA.x g_2) (GA.n g_2) ∧ (1 : Int) + am (GA.x g_3) (GA.n g_3) = (1 : Int) + am (GA.x g_3) (GA.n g_3) ∧ GX.n g = GX.n g ∧ Bid.arg (0 : Nat) = Bid.arg (0 : Nat) ∧ GX.m g = GX.m g ∧ Bid.arg (1 : Nat) =
    Bid.arg (1 : Nat) ∧ LX.s g' = LX.s g_5 ∧ LX.i g' = LX.i g_5 + (1 : Int) ∧ am (GX.b g) (100 : Int) = GT.bound g_7 ∧ (1 : Int) + am (GX.p g) (9 : Int) = GT.pat g_7 ∧ LX.i g' = GT.ticks g_7 + (1 : Int) ∧
    (∀ (j : Int), (0 : Int) ≤ j → j < (16 : Int) → LX.r g' j = resetR (GT.acc g_7) (GT.pat g_7) j ∧ True) ∧ True)))) ∧ (¬LX.s g_5 ≤ LY.k g_8 → ∃ (g_9 : GH), GH.n g_9 = (↑(List.length (GT.out g_7)) : Int)
    ∧ Bid.own (3 : Nat) = Bid.own (3 : Nat) ∧ GH.x g_9 = (3 : Int) ∧ GH.n g_9 = (↑(List.length (GT.out g_7)) : Int) ∧ (∀ (j : Int), (0 : Int) ≤ j → j < GH.n g_9 → GH.a g_9 j = List.getD (GT.out g_7)
    (Int.toNat j) (0 : Int) ∧ True) ∧ ((0 : Int) ≤ GH.n g_9 ∧ GH.n g_9 ≤ (9223372036854775807 : Int)) ∧ ∀ (g2 : Unit), True → (¬(HasP g_9 ↔ (1 : Int) + am (GA.x g_3) (GA.n g_3) ≤ LY.held g_8) → ∃ (g2 :
    Unit), True ∧ False) ∧ (¬¬(HasP g_9 ↔ (1 : Int) + am (GA.x g_3) (GA.n g_3) ≤ LY.held g_8) → ((1 : Int) + am (GA.x g_3) (GA.n g_3) ≤ LY.held g_8 → ((-9223372036854775808 : Int) ≤ LX.i g_5 + (1 : Int) ∧
    LX.i g_5 + (1 : Int) ≤ (9223372036854775807 : Int)) ∧ ((-9223372036854775808 : Int) ≤ LX.i g_5 + (1 : Int) ∧ LX.i g_5 + (1 : Int) ≤ (9223372036854775807 : Int)) ∧ ∃ (g' : LX), LX.Ok g g' ∧ Int.toNat
    (GX.n g - LX.i g') < Int.toNat (GX.n g - LX.i g_5) ∧ am (GA.x g_2) (GA.n g_2) = am (GA.x g_2) (GA.n g_2) ∧ (1 : Int) + am (GA.x g_3) (GA.n g_3) = (1 : Int) + am (GA.x g_3) (GA.n g_3) ∧ GX.n g = GX.n g
    ∧ Bid.arg (0 : Nat) = Bid.arg (0 : Nat) ∧ GX.m g = GX.m g ∧ Bid.arg (1 : Nat) = Bid.arg (1 : Nat) ∧ LX.s g' = LX.i g_5 + (1 : Int) ∧ LX.i g' = LX.i g_5 + (1 : Int) ∧ am (GX.b g) (100 : Int) = GT.bound
    g_7 ∧ (1 : Int) + am (GX.p g) (9 : Int) = GT.pat g_7 ∧ LX.i g' = GT.ticks g_7 + (1 : Int) ∧ (∀ (j : Int), (0 : Int) ≤ j → j < (16 : Int) → LX.r g' j = resetR (GT.acc g_7) (GT.pat g_7) j ∧ True) ∧
    True) ∧ (¬(1 : Int) + am (GA.x g_3) (GA.n g_3) ≤ LY.held g_8 → ((-9223372036854775808 : Int) ≤ LX.i g_5 + (1 : Int) ∧ LX.i g_5 + (1 : Int) ≤ (9223372036854775807 : Int)) ∧ ∃ (g' : LX), LX.Ok g g' ∧
    Int.toNat (GX.n g - LX.i g') < Int.toNat (GX.n g - LX.i g_5) ∧ am (GA.x g_2) (GA.n g_2) = am (GA.x g_2) (GA.n g_2) ∧ (1 : Int) + am (GA.x g_3) (GA.n g_3) = (1 : Int) + am (GA.x g_3) (GA.n g_3) ∧ GX.n
    g = GX.n g ∧ Bid.arg (0 : Nat) = Bid.arg (0 : Nat) ∧ GX.m g = GX.m g ∧ Bid.arg (1 : Nat) = Bid.arg (1 : Nat) ∧ LX.s g' = LX.s g_5 ∧ LX.i g' = LX.i g_5 + (1 : Int) ∧ am (GX.b g) (100 : Int) = GT.bound
    g_7 ∧ (1 : Int) + am (GX.p g) (9 : Int) = GT.pat g_7 ∧ LX.i g' = GT.ticks g_7 + (1 : Int) ∧ (∀ (j : Int), (0 : Int) ≤ j → j < (16 : Int) → LX.r g' j = resetR (GT.acc g_7) (GT.pat g_7) j ∧ True) ∧
    True))))) ∧ (¬LX.i g_5 < (100 : Int) → ∃ (g2 : Unit), True ∧ True)) ∧ (¬LX.i g_5 < GX.n g → ∃ (g2 : Unit), True ∧ True)
    := by
  intro g ⟨hb, hp, n0, n1, m0, m1, hl, hf⟩
  have ⟨a0, a1⟩ := am_rng (x := g.b) (n := 100) (by omega)
  have ⟨p0, p1⟩ := am_rng (x := g.p) (n := 9) (by omega)
  refine ⟨(), trivial, fun _ _ => ⟨⟨g.b, 100⟩, rfl, rfl, ⟨hb, by simp only; omega, by simp only; omega⟩, fun _ _ => ?_⟩⟩
  refine ⟨⟨g.p, 9⟩, rfl, rfl, ⟨hp, by simp only; omega, by simp only; omega⟩, fun _ _ => ?_⟩
  simp only [true_and, and_true, exists_const, forall_const, implies_true]
  refine ⟨⟨by omega, by omega⟩, ⟨am g.b 100, 1 + am g.p 9⟩, rfl, rfl, ⟨a0, by simp only; omega, by simp only; omega, by simp only; omega⟩, fun _ => rfl, ⟨⟨0, 0, fun _ => 0⟩, ⟨by decide, n0, by decide, by decide, by simp, fun j _ _ => by simp only; omega, fun k _ _ => by simp only at *; omega, .inl rfl⟩, rfl, rfl, rfl, rfl, rfl, fun _ _ _ => rfl⟩, ?_⟩
  intro x hx
  refine ⟨n0, fun hi hi2 => ⟨hx.i0, hi, hx.i0, hi, ⟨g.l x.i, 200⟩, rfl, rfl, ⟨hl x.i hx.i0 hi, by simp only; omega, by simp only; omega⟩, m0, fun hm => ⟨hx.i0, hm, hx.i0, hm, ⟨g.o x.i, 200⟩, rfl, rfl, ⟨hf x.i hx.i0 hm, by simp only; omega, by simp only; omega⟩, ?_⟩, fun hm => ?_⟩⟩
  all_goals have ⟨c0, c1⟩ := am_rng (x := g.l x.i) (n := 200) (by omega)
  all_goals have x0 := hx.i0
  all_goals have x1 := hx.i1
  all_goals have x2 := hx.s0
  all_goals have x3 := hx.s1
  all_goals have x4 := hx.r 3 (by decide) (by decide)
  · have ⟨d0, d1⟩ := am_rng (x := g.o x.i) (n := 200) (by omega)
    have hacc1 : hold g x.i → (two (am g.b 100) (1 + am g.p 9) x.i x.r (am (g.l x.i) 200) (am (g.o x.i) 200)).acc 3 = x.r 3 + 1 := fun h => by rw [two_acc, if_pos (show am g.b 100 < am (g.l x.i) 200 from h)]
    have hacc0 : ¬ hold g x.i → (two (am g.b 100) (1 + am g.p 9) x.i x.r (am (g.l x.i) 200) (am (g.o x.i) 200)).acc 3 = 0 := fun h => by rw [two_acc, if_neg (show ¬ am g.b 100 < am (g.l x.i) 200 from h)]
    have eb : (two (am g.b 100) (1 + am g.p 9) x.i x.r (am (g.l x.i) 200) (am (g.o x.i) 200)).bound = (am g.b 100) := rfl
    have ep : (two (am g.b 100) (1 + am g.p 9) x.i x.r (am (g.l x.i) 200) (am (g.o x.i) 200)).pat = (1 + am g.p 9) := rfl
    have et : (two (am g.b 100) (1 + am g.p 9) x.i x.r (am (g.l x.i) 200) (am (g.o x.i) 200)).ticks = x.i := rfl
    have ol : (two (am g.b 100) (1 + am g.p 9) x.i x.r (am (g.l x.i) 200) (am (g.o x.i) 200)).out.length ≤ 16 := out_len
    have hrng : ∀ j, 0 ≤ j → j < 16 → 0 ≤ (two (am g.b 100) (1 + am g.p 9) x.i x.r (am (g.l x.i) 200) (am (g.o x.i) 200)).acc j ∧ (two (am g.b 100) (1 + am g.p 9) x.i x.r (am (g.l x.i) 200) (am (g.o x.i) 200)).acc j ≤ (1 + am g.p 9) := fun j j0 j1 => acc_rng (g := (two (am g.b 100) (1 + am g.p 9) x.i x.r (am (g.l x.i) 200) (am (g.o x.i) 200))) hx.r j0 j1
    refine ⟨(two (am g.b 100) (1 + am g.p 9) x.i x.r (am (g.l x.i) 200) (am (g.o x.i) 200)), rfl, rfl, rfl, rfl, fun _ _ _ => rfl, rfl, fun j j0 (j1 : j < 2) => ⟨fun h => ⟨if_pos h, if_pos h⟩, fun h => ⟨by omega, if_neg h, if_neg h⟩⟩, ⟨⟨a0, by rw [eb]; omega, by rw [ep]; omega, by rw [ep]; omega, by rw [et]; omega, by rw [et]; omega, hx.r, show (0 : Int) ≤ 2 by decide, show (2 : Int) ≤ _ by decide⟩, two_right c0 d0⟩, fun _ => rfl, fun _ => rfl, ?_⟩
    generalize (two (am g.b 100) (1 + am g.p 9) x.i x.r (am (g.l x.i) 200) (am (g.o x.i) 200)) = w at *
    refine ⟨⟨⟨x.i, 0⟩, ⟨by simp only; omega, by simp only; omega, by simp only; omega, fun q q0 q1 => by simp only at q0; omega⟩, rfl, rfl, fun j _ _ => ⟨by omega, by omega⟩, fun j _ _ => ⟨fun h h2 => absurd h h2, fun h => ⟨by omega, fun h2 => h h2, fun _ => by omega⟩⟩⟩, ?_⟩
    rintro ⟨k, held⟩ ⟨k0, k1, hh, hq⟩
    simp only at k0 k1 hh hq ⊢
    refine ⟨fun hk => ⟨by omega, by omega, by omega, by omega, ⟨g.l k, 200⟩, rfl, rfl, ⟨hl k (by omega) (by omega), by simp only; omega, by simp only; omega⟩, fun hd => ⟨⟨by omega, by omega⟩, ⟨by omega, by omega⟩, ⟨k - 1, held + 1⟩, ⟨by simp only; omega, by simp only; omega, by simp only; omega, fun q q0 q1 => ?_⟩, by simp only; omega, rfl, rfl, fun j _ _ => ⟨by omega, by omega⟩, fun j _ _ => ⟨fun h h2 => absurd h h2, fun h => ⟨by omega, fun h2 => h h2, fun _ => by omega⟩⟩⟩, fun hd => ?_⟩, fun hk => ?_⟩
    · by_cases hqk : q = k
      · subst hqk; exact hd
      · exact hq q (by simp only at q0; omega) q1
    · refine ⟨⟨w.out.length, fun j => w.out.getD j.toNat 0, 3⟩, rfl, rfl, rfl, fun _ _ _ => by simp only, ⟨by simp only; omega, by simp only; omega⟩, ?_⟩
      have st := stepX hx hi hi2 p0 (acc := w.acc) hrng hacc1 hacc0 k0 k1 hh hq (.inr hd)
      have hP := hasP_list (l := w.out) (x := 3)
      have hm3 := mem_out (g := w) (j := 3)
      have hr3 := (hrng 3 (by decide) (by decide)).2
      rw [st.1] at hr3
      rw [ep, st.1] at hm3
      refine ⟨fun h => h ?_, fun _ => ⟨fun hge => ⟨⟨by omega, by omega⟩, ⟨by omega, by omega⟩, ⟨x.i + 1, x.i + 1, resetR w.acc (1 + am g.p 9)⟩, st.2.1 hge, by simp only; omega, rfl, rfl, eb.symm, ep.symm, by simp only; omega, fun j _ _ => by rw [ep]⟩, fun hlt => ⟨⟨by omega, by omega⟩, ⟨x.i + 1, x.s, resetR w.acc (1 + am g.p 9)⟩, st.2.2 hlt, by simp only; omega, rfl, rfl, eb.symm, ep.symm, by simp only; omega, fun j _ _ => by rw [ep]⟩⟩⟩
      rw [hP, hm3]
      exact ⟨fun h => by omega, fun h => ⟨by decide, by decide, by omega⟩⟩
    · refine ⟨⟨w.out.length, fun j => w.out.getD j.toNat 0, 3⟩, rfl, rfl, rfl, fun _ _ _ => by simp only, ⟨by simp only; omega, by simp only; omega⟩, ?_⟩
      have st := stepX hx hi hi2 p0 (acc := w.acc) hrng hacc1 hacc0 k0 k1 hh hq (.inl (by omega))
      have hP := hasP_list (l := w.out) (x := 3)
      have hm3 := mem_out (g := w) (j := 3)
      have hr3 := (hrng 3 (by decide) (by decide)).2
      rw [st.1] at hr3
      rw [ep, st.1] at hm3
      refine ⟨fun h => h ?_, fun _ => ⟨fun hge => ⟨⟨by omega, by omega⟩, ⟨by omega, by omega⟩, ⟨x.i + 1, x.i + 1, resetR w.acc (1 + am g.p 9)⟩, st.2.1 hge, by simp only; omega, rfl, rfl, eb.symm, ep.symm, by simp only; omega, fun j _ _ => by rw [ep]⟩, fun hlt => ⟨⟨by omega, by omega⟩, ⟨x.i + 1, x.s, resetR w.acc (1 + am g.p 9)⟩, st.2.2 hlt, by simp only; omega, rfl, rfl, eb.symm, ep.symm, by simp only; omega, fun j _ _ => by rw [ep]⟩⟩⟩
      rw [hP, hm3]
      exact ⟨fun h => by omega, fun h => ⟨by decide, by decide, by omega⟩⟩
  · have hacc1 : hold g x.i → (one (am g.b 100) (1 + am g.p 9) x.i x.r 3 (am (g.l x.i) 200)).acc 3 = x.r 3 + 1 := fun h => by rw [one_acc, if_pos ⟨rfl, h⟩]
    have hacc0 : ¬ hold g x.i → (one (am g.b 100) (1 + am g.p 9) x.i x.r 3 (am (g.l x.i) 200)).acc 3 = 0 := fun h => by rw [one_acc, if_neg fun h2 => h h2.2]
    have eb : (one (am g.b 100) (1 + am g.p 9) x.i x.r 3 (am (g.l x.i) 200)).bound = (am g.b 100) := rfl
    have ep : (one (am g.b 100) (1 + am g.p 9) x.i x.r 3 (am (g.l x.i) 200)).pat = (1 + am g.p 9) := rfl
    have et : (one (am g.b 100) (1 + am g.p 9) x.i x.r 3 (am (g.l x.i) 200)).ticks = x.i := rfl
    have ol : (one (am g.b 100) (1 + am g.p 9) x.i x.r 3 (am (g.l x.i) 200)).out.length ≤ 16 := out_len
    have hrng : ∀ j, 0 ≤ j → j < 16 → 0 ≤ (one (am g.b 100) (1 + am g.p 9) x.i x.r 3 (am (g.l x.i) 200)).acc j ∧ (one (am g.b 100) (1 + am g.p 9) x.i x.r 3 (am (g.l x.i) 200)).acc j ≤ (1 + am g.p 9) := fun j j0 j1 => acc_rng (g := (one (am g.b 100) (1 + am g.p 9) x.i x.r 3 (am (g.l x.i) 200))) hx.r j0 j1
    refine ⟨(one (am g.b 100) (1 + am g.p 9) x.i x.r 3 (am (g.l x.i) 200)), rfl, rfl, rfl, rfl, fun _ _ _ => rfl, rfl, fun j j0 (j1 : j < 1) => ⟨by omega, rfl, rfl⟩, ⟨one_ok a0 (by omega) (by omega) (by omega) x0 (by omega) hx.r, one_right (by decide) (by decide) c0⟩, fun _ => rfl, fun _ => rfl, ?_⟩
    generalize (one (am g.b 100) (1 + am g.p 9) x.i x.r 3 (am (g.l x.i) 200)) = w at *
    refine ⟨⟨⟨x.i, 0⟩, ⟨by simp only; omega, by simp only; omega, by simp only; omega, fun q q0 q1 => by simp only at q0; omega⟩, rfl, rfl, fun j _ _ => ⟨by omega, by omega⟩⟩, ?_⟩
    rintro ⟨k, held⟩ ⟨k0, k1, hh, hq⟩
    simp only at k0 k1 hh hq ⊢
    refine ⟨fun hk => ⟨by omega, by omega, by omega, by omega, ⟨g.l k, 200⟩, rfl, rfl, ⟨hl k (by omega) (by omega), by simp only; omega, by simp only; omega⟩, fun hd => ⟨⟨by omega, by omega⟩, ⟨by omega, by omega⟩, ⟨k - 1, held + 1⟩, ⟨by simp only; omega, by simp only; omega, by simp only; omega, fun q q0 q1 => ?_⟩, by simp only; omega, rfl, rfl, fun j _ _ => ⟨by omega, by omega⟩⟩, fun hd => ?_⟩, fun hk => ?_⟩
    · by_cases hqk : q = k
      · subst hqk; exact hd
      · exact hq q (by simp only at q0; omega) q1
    · refine ⟨⟨w.out.length, fun j => w.out.getD j.toNat 0, 3⟩, rfl, rfl, rfl, fun _ _ _ => by simp only, ⟨by simp only; omega, by simp only; omega⟩, ?_⟩
      have st := stepX hx hi hi2 p0 (acc := w.acc) hrng hacc1 hacc0 k0 k1 hh hq (.inr hd)
      have hP := hasP_list (l := w.out) (x := 3)
      have hm3 := mem_out (g := w) (j := 3)
      have hr3 := (hrng 3 (by decide) (by decide)).2
      rw [st.1] at hr3
      rw [ep, st.1] at hm3
      refine ⟨fun h => h ?_, fun _ => ⟨fun hge => ⟨⟨by omega, by omega⟩, ⟨by omega, by omega⟩, ⟨x.i + 1, x.i + 1, resetR w.acc (1 + am g.p 9)⟩, st.2.1 hge, by simp only; omega, rfl, rfl, eb.symm, ep.symm, by simp only; omega, fun j _ _ => by rw [ep]⟩, fun hlt => ⟨⟨by omega, by omega⟩, ⟨x.i + 1, x.s, resetR w.acc (1 + am g.p 9)⟩, st.2.2 hlt, by simp only; omega, rfl, rfl, eb.symm, ep.symm, by simp only; omega, fun j _ _ => by rw [ep]⟩⟩⟩
      rw [hP, hm3]
      exact ⟨fun h => by omega, fun h => ⟨by decide, by decide, by omega⟩⟩
    · refine ⟨⟨w.out.length, fun j => w.out.getD j.toNat 0, 3⟩, rfl, rfl, rfl, fun _ _ _ => by simp only, ⟨by simp only; omega, by simp only; omega⟩, ?_⟩
      have st := stepX hx hi hi2 p0 (acc := w.acc) hrng hacc1 hacc0 k0 k1 hh hq (.inl (by omega))
      have hP := hasP_list (l := w.out) (x := 3)
      have hm3 := mem_out (g := w) (j := 3)
      have hr3 := (hrng 3 (by decide) (by decide)).2
      rw [st.1] at hr3
      rw [ep, st.1] at hm3
      refine ⟨fun h => h ?_, fun _ => ⟨fun hge => ⟨⟨by omega, by omega⟩, ⟨by omega, by omega⟩, ⟨x.i + 1, x.i + 1, resetR w.acc (1 + am g.p 9)⟩, st.2.1 hge, by simp only; omega, rfl, rfl, eb.symm, ep.symm, by simp only; omega, fun j _ _ => by rw [ep]⟩, fun hlt => ⟨⟨by omega, by omega⟩, ⟨x.i + 1, x.s, resetR w.acc (1 + am g.p 9)⟩, st.2.2 hlt, by simp only; omega, rfl, rfl, eb.symm, ep.symm, by simp only; omega, fun j _ _ => by rw [ep]⟩⟩⟩
      rw [hP, hm3]
      exact ⟨fun h => by omega, fun h => ⟨by decide, by decide, by omega⟩⟩
theorem okX : ConOk Try.prog 4 conX := by
  refine conOk_of_SE cfgX (fun g => ⟨all_ok.ok, spL_ok fun p hp => ?_⟩) mixed 8 ok4 ?_ (fun g => by rfl) ?_
  · simp only [spX, List.mem_cons, List.not_mem_nil, or_false] at hp
    rcases hp with rfl | rfl | rfl | rfl | rfl
    · exact spOf_ok okW _
    · exact spOf_ok okAm _
    · exact spOf_ok okTr _
    · exact spOf_ok okH _
    · exact spOf_ok okM _
  · intro g _; simp only [romFree, conX]; exact ⟨⟨rfl, fun j _ _ => ⟨rfl, trivial⟩, trivial⟩, ⟨rfl, fun j _ _ => ⟨rfl, trivial⟩, trivial⟩, trivial⟩
  · show ConVC 4 fn4 conX cfgX 8
    refine Eq.mp ?_ vcX
    kernel_rfl
end Go.Proofs.Ythcaiahfifpdiaa
end
