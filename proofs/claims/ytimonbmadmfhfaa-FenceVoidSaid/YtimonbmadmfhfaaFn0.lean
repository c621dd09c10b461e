/- The functions of the cut, compiled for the evaluator by a program of this claim; each is checked against the program. -/
import Derived.Test.YtimonbmadmfhfaaALu
import Derived.Test.YtimonbmadmfhfaaProg
import Derived.KernelRfl
namespace Go.Proofs.Ytimonbmadmfhfaa
open Go.AL

/-- gosem.cut.init -/
def fn2 : AFun := ⟨1, [], .ops [⟨(some 0), .call (.val (.func 1 [] [])) [], none⟩]⟩
theorem ok2 : compFun Try.prog 2 = some fn2 := by kernel_rfl

/-- postrider/postriderlaw18.FenceAscends -/
def fn3 : AFun := ⟨163, [4], .seq (.ops [⟨(some 4), .plain (.mv (.val (.bool false))), none⟩])
  (.seq (.seq (.ops [⟨(some 19), .call (.val (.func 8 [] [])) [], none⟩,
      ⟨(some 20), .plain (.not (.tmp 19)), none⟩])
   (.cond (.tmp 20) (.seq (.ops [⟨(some 4), .plain (.mv (.val (.bool false))), none⟩])
    (.ret))
   (.skip)))
  (.seq (.ops [⟨(some 21), .plain (.mv (.tmp 0)), none⟩,
     ⟨(some 22), .call (.val (.func 9 [] [])) [(.tmp 21), (.val (.int .i64 50))], none⟩,
     ⟨(some 0), .plain (.mv (.tmp 22)), none⟩])
  (.seq (.ops [⟨(some 24), .plain (.mv (.tmp 0)), none⟩,
     ⟨(some 25), .call (.val (.func 10 [] [])) [(.tmp 24)], none⟩,
     ⟨(some 23), .plain (.mv (.tmp 25)), none⟩,
     ⟨(some 26), .plain (.extract (.tmp 23) 0), none⟩,
     ⟨(some 27), .plain (.extract (.tmp 23) 1), none⟩,
     ⟨(some 5), .plain (.mv (.tmp 26)), none⟩,
     ⟨(some 6), .plain (.mv (.tmp 27)), none⟩])
  (.seq (.seq (.ops [⟨(some 28), .plain (.mv (.tmp 5)), none⟩,
      ⟨(some 29), .plain (.eqn .ptr false (.tmp 28) (.val .nilp)), none⟩,
      ⟨(some 30), .plain (.mv (.tmp 29)), none⟩,
      ⟨(some 31), .plain (.mv (.tmp 6)), (some (30, false))⟩,
      ⟨(some 32), .plain (.bin .neq (.tmp 31) (.val (.int .i64 0))), (some (30, false))⟩,
      ⟨(some 33), .plain (.pick (.tmp 30) (.val (.bool true)) (.tmp 32)), none⟩])
   (.cond (.tmp 33) (.seq (.ops [⟨(some 4), .plain (.mv (.val (.bool false))), none⟩])
    (.ret))
   (.skip)))
  (.seq (.ops [⟨(some 34), .plain (.mv (.tmp 0)), none⟩,
     ⟨(some 7), .plain (.mv (.val (.int .i64 0))), none⟩,
     ⟨(some 8), .plain (.mv (.tmp 34)), none⟩])
  (.seq (.ops [⟨(some 35), .plain (.mv (.tmp 0)), none⟩,
     ⟨(some 36), .plain (.bin .sub (.tmp 35) (.val (.int .i64 1))), none⟩,
     ⟨(some 9), .plain (.mv (.tmp 36)), none⟩])
  (.seq (.ops [⟨(some 37), .plain (.buildSlice 3 1 [] 0 []), none⟩,
     ⟨(some 10), .plain (.mv (.tmp 37)), none⟩])
  (.seq (.seq (.ops [⟨(some 11), .plain (.mv (.val (.int .i64 0))), none⟩])
   (.block 0 (.loop (.seq (.seq (.ops [⟨(some 38), .plain (.mv (.tmp 11)), none⟩,
         ⟨(some 39), .plain (.mv (.tmp 1)), none⟩,
         ⟨(some 40), .plain (.lenS (.tmp 39)), none⟩,
         ⟨(some 41), .plain (.bin .lss (.tmp 38) (.tmp 40)), none⟩,
         ⟨(some 42), .plain (.mv (.tmp 41)), none⟩,
         ⟨(some 43), .plain (.mv (.tmp 11)), (some (42, true))⟩,
         ⟨(some 44), .plain (.bin .lss (.tmp 43) (.val (.int .i64 150))), (some (42, true))⟩,
         ⟨(some 45), .plain (.pick (.tmp 42) (.tmp 44) (.val (.bool false))), none⟩])
      (.cond (.tmp 45) (.skip)
      (.exit 0)))
     (.seq (.block 1 (.seq (.ops [⟨(some 48), .plain (.mv (.tmp 1)), none⟩,
          ⟨(some 49), .plain (.mv (.tmp 11)), none⟩,
          ⟨(some 50), .plain (.idxS 5 (.tmp 48) (.tmp 49)), none⟩,
          ⟨(some 51), .plain (.loadN 5 (.tmp 50)), none⟩,
          ⟨(some 12), .plain (.alloc 31 [(.int .i64 0), (.int .i64 0), (.int .i64 0), (.int .i64 0), (.bool false)]), none⟩,
          ⟨none, .plain (.store 5 (.tmp 12) (.tmp 51)), none⟩])
       (.seq (.ops [⟨(some 52), .plain (.mv (.tmp 8)), none⟩,
          ⟨(some 53), .plain (.addOff 3 (.tmp 12)), none⟩,
          ⟨(some 54), .plain (.load1 (.tmp 53)), none⟩,
          ⟨(some 55), .call (.val (.func 9 [] [])) [(.tmp 54), (.val (.int .i64 4))], none⟩,
          ⟨(some 56), .plain (.bin .add (.tmp 52) (.tmp 55)), none⟩,
          ⟨(some 8), .plain (.mv (.tmp 56)), none⟩])
       (.seq (.ops [⟨(some 57), .plain (.mv (.tmp 7)), none⟩,
          ⟨(some 58), .plain (.mv (.tmp 8)), none⟩,
          ⟨(some 59), .plain (.bin .sub (.tmp 58) (.val (.int .i64 1))), none⟩,
          ⟨(some 60), .plain (.addOff 2 (.tmp 12)), none⟩,
          ⟨(some 61), .plain (.load1 (.tmp 60)), none⟩,
          ⟨(some 62), .call (.val (.func 9 [] [])) [(.tmp 61), (.val (.int .i64 12))], none⟩,
          ⟨(some 63), .plain (.bin .sub (.tmp 59) (.tmp 62)), none⟩,
          ⟨(some 64), .plain (.max (.tmp 57) (.tmp 63)), none⟩,
          ⟨(some 7), .plain (.mv (.tmp 64)), none⟩])
       (.seq (.ops [⟨(some 65), .plain (.mv (.tmp 7)), none⟩,
          ⟨(some 66), .plain (.mv (.tmp 8)), none⟩,
          ⟨(some 67), .plain (.min (.tmp 65) (.tmp 66)), none⟩,
          ⟨(some 7), .plain (.mv (.tmp 67)), none⟩])
       (.seq (.ops [⟨(some 68), .plain (.mv (.tmp 5)), none⟩,
          ⟨(some 69), .call (.val (.func 11 [] [])) [(.tmp 68)], none⟩,
          ⟨(some 13), .plain (.mv (.tmp 69)), none⟩])
       (.seq (.seq (.ops [⟨(some 70), .plain (.addOff 0 (.tmp 12)), none⟩,
           ⟨(some 71), .plain (.load1 (.tmp 70)), none⟩,
           ⟨(some 72), .call (.val (.func 9 [] [])) [(.tmp 71), (.val (.int .i64 9))], none⟩])
        (.block 2 (.seq (.seq (.ops [⟨(some 103), .plain (.bin .eql (.tmp 72) (.val (.int .i64 4))), none⟩,
             ⟨(some 102), .plain (.mv (.tmp 103)), none⟩])
          (.cond (.tmp 102) (.skip)
          (.ops [⟨(some 104), .plain (.bin .eql (.tmp 72) (.val (.int .i64 5))), none⟩,
             ⟨(some 102), .plain (.mv (.tmp 104)), none⟩])))
         (.cond (.tmp 102) (.seq (.ops [⟨(some 105), .plain (.mv (.tmp 13)), none⟩,
             ⟨(some 106), .plain (.bin .add (.tmp 105) (.val (.int .i64 1))), none⟩,
             ⟨(some 107), .plain (.addOff 1 (.tmp 12)), none⟩,
             ⟨(some 108), .plain (.load1 (.tmp 107)), none⟩,
             ⟨(some 109), .call (.val (.func 9 [] [])) [(.tmp 108), (.val (.int .i64 3))], none⟩,
             ⟨(some 110), .plain (.bin .add (.tmp 106) (.tmp 109)), none⟩,
             ⟨(some 14), .plain (.mv (.tmp 110)), none⟩])
          (.seq (.ops [⟨(some 111), .plain (.mv (.tmp 5)), none⟩,
             ⟨(some 112), .plain (.mv (.tmp 14)), none⟩,
             ⟨(some 113), .call (.val (.func 12 [] [])) [(.tmp 111), (.tmp 112)], none⟩,
             ⟨(some 15), .plain (.mv (.tmp 113)), none⟩])
          (.seq (.ops [⟨(some 114), .plain (.mv (.tmp 15)), none⟩,
             ⟨(some 115), .plain (.bin .eql (.tmp 114) (.val (.int .i64 0))), none⟩])
          (.cond (.tmp 115) (.seq (.ops [⟨(some 116), .plain (.mv (.tmp 13)), none⟩,
              ⟨(some 16), .plain (.mv (.tmp 116)), none⟩])
           (.block 3 (.loop (.seq (.seq (.ops [⟨(some 117), .plain (.mv (.tmp 16)), none⟩,
                 ⟨(some 118), .plain (.mv (.tmp 14)), none⟩,
                 ⟨(some 119), .plain (.bin .lss (.tmp 117) (.tmp 118)), none⟩])
              (.cond (.tmp 119) (.skip)
              (.exit 3)))
             (.seq (.block 4 (.seq (.ops [⟨(some 122), .plain (.mv (.tmp 10)), none⟩,
                  ⟨(some 123), .plain (.mv (.tmp 16)), none⟩,
                  ⟨(some 124), .call (.val (.func 13 [] [])) [(.tmp 122), (.tmp 123)], none⟩,
                  ⟨(some 125), .plain (.not (.tmp 124)), none⟩])
               (.cond (.tmp 125) (.seq (.ops [⟨(some 4), .plain (.mv (.val (.bool false))), none⟩])
                (.ret))
               (.skip))))
             (.ops [⟨(some 120), .plain (.mv (.tmp 16)), none⟩,
               ⟨(some 121), .plain (.bin .add (.tmp 120) (.val (.int .i64 1))), none⟩,
               ⟨(some 16), .plain (.mv (.tmp 121)), none⟩]))))))
          (.skip)))))
         (.seq (.ops [⟨(some 127), .plain (.bin .eql (.tmp 72) (.val (.int .i64 6))), none⟩,
             ⟨(some 126), .plain (.mv (.tmp 127)), none⟩])
          (.cond (.tmp 126) (.seq (.ops [⟨(some 128), .plain (.mv (.tmp 5)), none⟩,
              ⟨(some 129), .plain (.mv (.tmp 13)), none⟩,
              ⟨(some 130), .plain (.addOff 1 (.tmp 12)), none⟩,
              ⟨(some 131), .plain (.load1 (.tmp 130)), none⟩,
              ⟨(some 132), .call (.val (.func 9 [] [])) [(.tmp 131), (.val (.int .i64 5))], none⟩,
              ⟨(some 133), .plain (.bin .add (.tmp 129) (.tmp 132)), none⟩,
              ⟨(some 134), .plain (.mv (.tmp 7)), none⟩,
              ⟨(some 135), .plain (.mv (.tmp 8)), none⟩,
              ⟨(some 136), .call (.val (.func 14 [] [])) [(.tmp 128), (.tmp 133), (.tmp 134), (.tmp 135)], none⟩,
              ⟨(some 137), .plain (.bin .eql (.tmp 136) (.val (.int .i64 0))), none⟩])
           (.cond (.tmp 137) (.ops [⟨(some 138), .plain (.mv (.tmp 5)), none⟩,
              ⟨(some 139), .call (.val (.func 15 [] [])) [(.tmp 138)], none⟩,
              ⟨(some 140), .plain (.bin .sub (.tmp 139) (.val (.int .i64 1))), none⟩,
              ⟨(some 9), .plain (.mv (.tmp 140)), none⟩])
           (.skip)))
          (.seq (.ops [⟨(some 142), .plain (.bin .eql (.tmp 72) (.val (.int .i64 7))), none⟩,
              ⟨(some 141), .plain (.mv (.tmp 142)), none⟩])
           (.cond (.tmp 141) (.seq (.ops [⟨(some 143), .plain (.mv (.tmp 5)), none⟩,
               ⟨(some 144), .call (.val (.func 16 [] [])) [(.tmp 143)], none⟩])
            (.seq (.ops [⟨(some 145), .plain (.mv (.tmp 5)), none⟩,
               ⟨(some 146), .call (.val (.func 15 [] [])) [(.tmp 145)], none⟩,
               ⟨(some 147), .plain (.bin .sub (.tmp 146) (.val (.int .i64 1))), none⟩,
               ⟨(some 9), .plain (.mv (.tmp 147)), none⟩])
            (.seq (.ops [⟨(some 148), .plain (.mv (.tmp 5)), none⟩,
               ⟨(some 149), .call (.val (.func 15 [] [])) [(.tmp 148)], none⟩,
               ⟨(some 150), .plain (.mv (.tmp 13)), none⟩,
               ⟨(some 151), .plain (.bin .neq (.tmp 149) (.tmp 150)), none⟩])
            (.cond (.tmp 151) (.seq (.ops [⟨(some 4), .plain (.mv (.val (.bool false))), none⟩])
             (.ret))
            (.skip)))))
           (.seq (.ops [⟨(some 74), .plain (.mv (.tmp 5)), none⟩,
               ⟨(some 75), .plain (.mv (.tmp 7)), none⟩,
               ⟨(some 76), .plain (.mv (.tmp 8)), none⟩,
               ⟨(some 77), .call (.val (.func 17 [] [])) [(.tmp 74), (.tmp 75), (.tmp 76)], none⟩,
               ⟨(some 73), .plain (.mv (.tmp 77)), none⟩,
               ⟨(some 78), .plain (.extract (.tmp 73) 0), none⟩,
               ⟨(some 79), .plain (.extract (.tmp 73) 1), none⟩,
               ⟨(some 17), .plain (.mv (.tmp 78)), none⟩,
               ⟨(some 18), .plain (.mv (.tmp 79)), none⟩])
            (.seq (.ops [⟨(some 80), .plain (.mv (.tmp 18)), none⟩,
               ⟨(some 81), .plain (.bin .eql (.tmp 80) (.val (.int .i64 0))), none⟩])
            (.cond (.tmp 81) (.seq (.seq (.ops [⟨(some 82), .plain (.mv (.tmp 17)), none⟩,
                 ⟨(some 83), .plain (.mv (.tmp 9)), none⟩,
                 ⟨(some 84), .plain (.bin .leq (.tmp 82) (.tmp 83)), none⟩,
                 ⟨(some 85), .plain (.mv (.tmp 84)), none⟩,
                 ⟨(some 86), .plain (.mv (.tmp 17)), (some (85, false))⟩,
                 ⟨(some 87), .plain (.mv (.tmp 7)), (some (85, false))⟩,
                 ⟨(some 88), .plain (.bin .lss (.tmp 86) (.tmp 87)), (some (85, false))⟩,
                 ⟨(some 89), .plain (.pick (.tmp 85) (.val (.bool true)) (.tmp 88)), none⟩,
                 ⟨(some 90), .plain (.mv (.tmp 89)), none⟩,
                 ⟨(some 91), .plain (.mv (.tmp 17)), (some (90, false))⟩,
                 ⟨(some 92), .plain (.mv (.tmp 8)), (some (90, false))⟩,
                 ⟨(some 93), .plain (.bin .geq (.tmp 91) (.tmp 92)), (some (90, false))⟩,
                 ⟨(some 94), .plain (.pick (.tmp 90) (.val (.bool true)) (.tmp 93)), none⟩])
              (.cond (.tmp 94) (.seq (.ops [⟨(some 4), .plain (.mv (.val (.bool false))), none⟩])
               (.ret))
              (.skip)))
             (.seq (.ops [⟨(some 95), .plain (.mv (.tmp 17)), none⟩,
                ⟨(some 9), .plain (.mv (.tmp 95)), none⟩])
             (.ops [⟨(some 96), .plain (.mv (.tmp 10)), none⟩,
               ⟨(some 97), .plain (.mv (.tmp 17)), none⟩,
               ⟨(some 98), .plain (.buildSlice 3 1 [(.int .i64 0)] 1 [(0, 1, (.tmp 97))]), none⟩,
               ⟨(some 99), .plain (.append 3 1 8 (.tmp 96) (.tmp 98)), none⟩,
               ⟨(some 10), .plain (.mv (.tmp 99)), none⟩])))
            (.seq (.ops [⟨(some 100), .plain (.mv (.tmp 18)), none⟩,
                ⟨(some 101), .plain (.bin .neq (.tmp 100) (.val (.int .i64 5))), none⟩])
             (.cond (.tmp 101) (.seq (.ops [⟨(some 4), .plain (.mv (.val (.bool false))), none⟩])
              (.ret))
             (.skip))))))))))))))
       (.seq (.ops [⟨(some 152), .plain (.mv (.tmp 5)), none⟩,
          ⟨(some 153), .call (.val (.func 11 [] [])) [(.tmp 152)], none⟩,
          ⟨(some 154), .plain (.mv (.tmp 13)), none⟩,
          ⟨(some 155), .plain (.bin .lss (.tmp 153) (.tmp 154)), none⟩,
          ⟨(some 156), .plain (.mv (.tmp 155)), none⟩,
          ⟨(some 157), .plain (.mv (.tmp 5)), (some (156, false))⟩,
          ⟨(some 158), .call (.val (.func 11 [] [])) [(.tmp 157)], (some (156, false))⟩,
          ⟨(some 159), .plain (.mv (.tmp 5)), (some (156, false))⟩,
          ⟨(some 160), .call (.val (.func 15 [] [])) [(.tmp 159)], (some (156, false))⟩,
          ⟨(some 161), .plain (.bin .gtr (.tmp 158) (.tmp 160)), (some (156, false))⟩,
          ⟨(some 162), .plain (.pick (.tmp 156) (.val (.bool true)) (.tmp 161)), none⟩])
       (.cond (.tmp 162) (.seq (.ops [⟨(some 4), .plain (.mv (.val (.bool false))), none⟩])
        (.ret))
       (.skip))))))))))
     (.ops [⟨(some 46), .plain (.mv (.tmp 11)), none⟩,
       ⟨(some 47), .plain (.bin .add (.tmp 46) (.val (.int .i64 1))), none⟩,
       ⟨(some 11), .plain (.mv (.tmp 47)), none⟩]))))))
  (.seq (.ops [⟨(some 4), .plain (.mv (.val (.bool true))), none⟩])
  (.ret))))))))))⟩
theorem ok3 : compFun Try.prog 3 = some fn3 := by kernel_rfl

/-- postrider/postriderlaw18.FenceVoid -/
def fn4 : AFun := ⟨85, [2], .seq (.ops [⟨(some 2), .plain (.mv (.val (.bool false))), none⟩])
  (.seq (.seq (.ops [⟨(some 9), .call (.val (.func 8 [] [])) [], none⟩,
      ⟨(some 10), .plain (.not (.tmp 9)), none⟩])
   (.cond (.tmp 10) (.seq (.ops [⟨(some 2), .plain (.mv (.val (.bool false))), none⟩])
    (.ret))
   (.skip)))
  (.seq (.ops [⟨(some 3), .plain (.mv (.val .nilp)), none⟩])
  (.seq (.ops [⟨(some 4), .plain (.alloc 41 [.nilp, (.int .i64 0)]), none⟩])
  (.seq (.ops [⟨(some 11), .plain (.mv (.tmp 3)), none⟩,
     ⟨(some 12), .call (.val (.func 16 [] [])) [(.tmp 11)], none⟩])
  (.seq (.ops [⟨(some 13), .call (.val (.func 16 [] [])) [(.tmp 4)], none⟩])
  (.seq (.ops [⟨(some 15), .plain (.mv (.tmp 3)), none⟩,
     ⟨(some 16), .plain (.mv (.tmp 0)), none⟩,
     ⟨(some 17), .plain (.mv (.tmp 0)), none⟩,
     ⟨(some 18), .call (.val (.func 18 [] [])) [(.tmp 15), (.tmp 16), (.tmp 17)], none⟩,
     ⟨(some 14), .plain (.mv (.tmp 18)), none⟩,
     ⟨(some 19), .plain (.extract (.tmp 14) 0), none⟩,
     ⟨(some 20), .plain (.extract (.tmp 14) 1), none⟩,
     ⟨(some 5), .plain (.mv (.tmp 19)), none⟩,
     ⟨(some 6), .plain (.mv (.tmp 20)), none⟩])
  (.seq (.ops [⟨(some 22), .plain (.mv (.tmp 0)), none⟩,
     ⟨(some 23), .plain (.mv (.tmp 0)), none⟩,
     ⟨(some 24), .call (.val (.func 17 [] [])) [(.tmp 4), (.tmp 22), (.tmp 23)], none⟩,
     ⟨(some 21), .plain (.mv (.tmp 24)), none⟩,
     ⟨(some 25), .plain (.extract (.tmp 21) 0), none⟩,
     ⟨(some 26), .plain (.extract (.tmp 21) 1), none⟩,
     ⟨(some 7), .plain (.mv (.tmp 25)), none⟩,
     ⟨(some 8), .plain (.mv (.tmp 26)), none⟩])
  (.seq (.ops [⟨(some 27), .plain (.mv (.tmp 6)), none⟩,
     ⟨(some 28), .plain (.bin .eql (.tmp 27) (.val (.int .i64 1))), none⟩,
     ⟨(some 29), .plain (.mv (.tmp 28)), none⟩,
     ⟨(some 30), .plain (.mv (.tmp 8)), (some (29, true))⟩,
     ⟨(some 31), .plain (.mv (.tmp 6)), (some (29, true))⟩,
     ⟨(some 32), .plain (.bin .eql (.tmp 30) (.tmp 31)), (some (29, true))⟩,
     ⟨(some 33), .plain (.pick (.tmp 29) (.tmp 32) (.val (.bool false))), none⟩,
     ⟨(some 34), .plain (.mv (.tmp 33)), none⟩,
     ⟨(some 35), .plain (.mv (.tmp 3)), (some (34, true))⟩,
     ⟨(some 36), .plain (.mv (.tmp 0)), (some (34, true))⟩,
     ⟨(some 37), .call (.val (.func 12 [] [])) [(.tmp 35), (.tmp 36)], (some (34, true))⟩,
     ⟨(some 38), .plain (.mv (.tmp 6)), (some (34, true))⟩,
     ⟨(some 39), .plain (.bin .eql (.tmp 37) (.tmp 38)), (some (34, true))⟩,
     ⟨(some 40), .plain (.pick (.tmp 34) (.tmp 39) (.val (.bool false))), none⟩,
     ⟨(some 41), .plain (.mv (.tmp 40)), none⟩,
     ⟨(some 42), .plain (.mv (.tmp 0)), (some (41, true))⟩,
     ⟨(some 43), .call (.val (.func 12 [] [])) [(.tmp 4), (.tmp 42)], (some (41, true))⟩,
     ⟨(some 44), .plain (.mv (.tmp 6)), (some (41, true))⟩,
     ⟨(some 45), .plain (.bin .eql (.tmp 43) (.tmp 44)), (some (41, true))⟩,
     ⟨(some 46), .plain (.pick (.tmp 41) (.tmp 45) (.val (.bool false))), none⟩,
     ⟨(some 47), .plain (.mv (.tmp 46)), none⟩,
     ⟨(some 48), .plain (.mv (.tmp 3)), (some (47, true))⟩,
     ⟨(some 49), .plain (.mv (.tmp 0)), (some (47, true))⟩,
     ⟨(some 50), .plain (.mv (.tmp 0)), (some (47, true))⟩,
     ⟨(some 51), .plain (.mv (.tmp 0)), (some (47, true))⟩,
     ⟨(some 52), .call (.val (.func 14 [] [])) [(.tmp 48), (.tmp 49), (.tmp 50), (.tmp 51)], (some (47, true))⟩,
     ⟨(some 53), .plain (.mv (.tmp 6)), (some (47, true))⟩,
     ⟨(some 54), .plain (.bin .eql (.tmp 52) (.tmp 53)), (some (47, true))⟩,
     ⟨(some 55), .plain (.pick (.tmp 47) (.tmp 54) (.val (.bool false))), none⟩,
     ⟨(some 56), .plain (.mv (.tmp 55)), none⟩,
     ⟨(some 57), .plain (.mv (.tmp 0)), (some (56, true))⟩,
     ⟨(some 58), .plain (.mv (.tmp 0)), (some (56, true))⟩,
     ⟨(some 59), .plain (.mv (.tmp 0)), (some (56, true))⟩,
     ⟨(some 60), .call (.val (.func 14 [] [])) [(.tmp 4), (.tmp 57), (.tmp 58), (.tmp 59)], (some (56, true))⟩,
     ⟨(some 61), .plain (.mv (.tmp 6)), (some (56, true))⟩,
     ⟨(some 62), .plain (.bin .eql (.tmp 60) (.tmp 61)), (some (56, true))⟩,
     ⟨(some 63), .plain (.pick (.tmp 56) (.tmp 62) (.val (.bool false))), none⟩,
     ⟨(some 64), .plain (.mv (.tmp 63)), none⟩,
     ⟨(some 65), .plain (.mv (.tmp 3)), (some (64, true))⟩,
     ⟨(some 66), .call (.val (.func 15 [] [])) [(.tmp 65)], (some (64, true))⟩,
     ⟨(some 67), .call (.val (.func 15 [] [])) [(.tmp 4)], (some (64, true))⟩,
     ⟨(some 68), .plain (.bin .add (.tmp 66) (.tmp 67)), (some (64, true))⟩,
     ⟨(some 69), .plain (.mv (.tmp 3)), (some (64, true))⟩,
     ⟨(some 70), .call (.val (.func 11 [] [])) [(.tmp 69)], (some (64, true))⟩,
     ⟨(some 71), .plain (.bin .add (.tmp 68) (.tmp 70)), (some (64, true))⟩,
     ⟨(some 72), .call (.val (.func 11 [] [])) [(.tmp 4)], (some (64, true))⟩,
     ⟨(some 73), .plain (.bin .add (.tmp 71) (.tmp 72)), (some (64, true))⟩,
     ⟨(some 74), .plain (.bin .eql (.tmp 73) (.val (.int .i64 0))), (some (64, true))⟩,
     ⟨(some 75), .plain (.pick (.tmp 64) (.tmp 74) (.val (.bool false))), none⟩,
     ⟨(some 76), .plain (.mv (.tmp 75)), none⟩,
     ⟨(some 77), .plain (.mv (.tmp 3)), (some (76, true))⟩,
     ⟨(some 78), .call (.val (.func 19 [] [])) [(.tmp 77)], (some (76, true))⟩,
     ⟨(some 79), .plain (.eqn .ptr false (.tmp 78) (.val .nilp)), (some (76, true))⟩,
     ⟨(some 80), .plain (.pick (.tmp 76) (.tmp 79) (.val (.bool false))), none⟩,
     ⟨(some 81), .plain (.mv (.tmp 80)), none⟩,
     ⟨(some 82), .call (.val (.func 19 [] [])) [(.tmp 4)], (some (81, true))⟩,
     ⟨(some 83), .plain (.eqn .ptr false (.tmp 82) (.val .nilp)), (some (81, true))⟩,
     ⟨(some 84), .plain (.pick (.tmp 81) (.tmp 83) (.val (.bool false))), none⟩,
     ⟨(some 2), .plain (.mv (.tmp 84)), none⟩])
  (.ret)))))))))⟩
theorem ok4 : compFun Try.prog 4 = some fn4 := by kernel_rfl

/-- postrider/postriderlaw18.FencePlays -/
def fn5 : AFun := ⟨182, [4], .seq (.ops [⟨(some 4), .plain (.mv (.val (.bool false))), none⟩])
  (.seq (.ops [⟨(some 22), .plain (.mv (.tmp 0)), none⟩,
     ⟨(some 23), .call (.val (.func 10 [] [])) [(.tmp 22)], none⟩,
     ⟨(some 21), .plain (.mv (.tmp 23)), none⟩,
     ⟨(some 24), .plain (.extract (.tmp 21) 0), none⟩,
     ⟨(some 25), .plain (.extract (.tmp 21) 1), none⟩,
     ⟨(some 5), .plain (.mv (.tmp 24)), none⟩,
     ⟨(some 6), .plain (.mv (.tmp 25)), none⟩])
  (.seq (.ops [⟨(some 27), .plain (.mv (.tmp 0)), none⟩,
     ⟨(some 28), .call (.val (.func 20 [] [])) [(.tmp 27)], none⟩,
     ⟨(some 26), .plain (.mv (.tmp 28)), none⟩,
     ⟨(some 29), .plain (.extract (.tmp 26) 0), none⟩,
     ⟨(some 30), .plain (.extract (.tmp 26) 1), none⟩,
     ⟨(some 7), .plain (.mv (.tmp 29)), none⟩,
     ⟨(some 8), .plain (.mv (.tmp 30)), none⟩])
  (.seq (.seq (.ops [⟨(some 31), .plain (.mv (.tmp 6)), none⟩,
      ⟨(some 32), .plain (.mv (.tmp 8)), none⟩,
      ⟨(some 33), .plain (.bin .neq (.tmp 31) (.tmp 32)), none⟩,
      ⟨(some 34), .plain (.mv (.tmp 33)), none⟩,
      ⟨(some 35), .plain (.mv (.tmp 5)), (some (34, false))⟩,
      ⟨(some 36), .plain (.eqn .ptr false (.tmp 35) (.val .nilp)), (some (34, false))⟩,
      ⟨(some 37), .plain (.mv (.tmp 7)), (some (34, false))⟩,
      ⟨(some 38), .plain (.eqn .ptr false (.tmp 37) (.val .nilp)), (some (34, false))⟩,
      ⟨(some 39), .plain (.eqb true (.tmp 36) (.tmp 38)), (some (34, false))⟩,
      ⟨(some 40), .plain (.pick (.tmp 34) (.val (.bool true)) (.tmp 39)), none⟩])
   (.cond (.tmp 40) (.seq (.ops [⟨(some 4), .plain (.mv (.val (.bool false))), none⟩])
    (.ret))
   (.skip)))
  (.seq (.seq (.ops [⟨(some 41), .plain (.mv (.tmp 7)), none⟩,
      ⟨(some 42), .plain (.eqn .ptr false (.tmp 41) (.val .nilp)), none⟩])
   (.cond (.tmp 42) (.seq (.ops [⟨(some 43), .call (.val (.func 8 [] [])) [], none⟩,
       ⟨(some 4), .plain (.mv (.tmp 43)), none⟩])
    (.ret))
   (.skip)))
  (.seq (.seq (.ops [⟨(some 9), .plain (.mv (.val (.int .i64 0))), none⟩])
   (.block 0 (.loop (.seq (.seq (.ops [⟨(some 44), .plain (.mv (.tmp 9)), none⟩,
         ⟨(some 45), .plain (.mv (.tmp 1)), none⟩,
         ⟨(some 46), .plain (.lenS (.tmp 45)), none⟩,
         ⟨(some 47), .plain (.bin .lss (.tmp 44) (.tmp 46)), none⟩,
         ⟨(some 48), .plain (.mv (.tmp 47)), none⟩,
         ⟨(some 49), .plain (.mv (.tmp 9)), (some (48, true))⟩,
         ⟨(some 50), .plain (.bin .lss (.tmp 49) (.val (.int .i64 150))), (some (48, true))⟩,
         ⟨(some 51), .plain (.pick (.tmp 48) (.tmp 50) (.val (.bool false))), none⟩])
      (.cond (.tmp 51) (.skip)
      (.exit 0)))
     (.seq (.block 1 (.seq (.ops [⟨(some 54), .plain (.mv (.tmp 1)), none⟩,
          ⟨(some 55), .plain (.mv (.tmp 9)), none⟩,
          ⟨(some 56), .plain (.idxS 5 (.tmp 54) (.tmp 55)), none⟩,
          ⟨(some 57), .plain (.loadN 5 (.tmp 56)), none⟩,
          ⟨(some 10), .plain (.alloc 31 [(.int .i64 0), (.int .i64 0), (.int .i64 0), (.int .i64 0), (.bool false)]), none⟩,
          ⟨none, .plain (.store 5 (.tmp 10) (.tmp 57)), none⟩])
       (.seq (.ops [⟨(some 58), .plain (.addOff 1 (.tmp 10)), none⟩,
          ⟨(some 59), .plain (.load1 (.tmp 58)), none⟩,
          ⟨(some 11), .plain (.mv (.tmp 59)), none⟩])
       (.seq (.seq (.ops [⟨(some 60), .plain (.addOff 4 (.tmp 10)), none⟩,
           ⟨(some 61), .plain (.load1 (.tmp 60)), none⟩])
        (.cond (.tmp 61) (.dops [⟨0, ⟨(some 62), .plain (.mv (.tmp 7)), none⟩, []⟩,
           ⟨1, ⟨(some 63), .plain (.nilCheck (.tmp 62)), none⟩, []⟩,
           ⟨2, ⟨(some 64), .plain (.addOff 0 (.tmp 63)), none⟩, []⟩,
           ⟨3, ⟨(some 65), .plain (.load1 (.tmp 64)), none⟩, []⟩,
           ⟨5, ⟨(some 67), .plain (.addOff 1 (.tmp 10)), none⟩, []⟩,
           ⟨6, ⟨(some 68), .plain (.load1 (.tmp 67)), none⟩, []⟩,
           ⟨4, ⟨(some 66), .call (.val (.func 21 [] [])) [(.tmp 65)], none⟩, [6]⟩,
           ⟨7, ⟨(some 69), .call (.val (.func 9 [] [])) [(.tmp 68), (.val (.int .i64 9))], none⟩, []⟩,
           ⟨8, ⟨(some 70), .plain (.bin .add (.tmp 66) (.tmp 69)), none⟩, []⟩,
           ⟨9, ⟨(some 71), .plain (.bin .sub (.tmp 70) (.val (.int .i64 2))), none⟩, []⟩,
           ⟨10, ⟨(some 11), .plain (.mv (.tmp 71)), none⟩, []⟩])
        (.skip)))
       (.seq (.ops [⟨(some 12), .plain (.mv (.val (.bool true))), none⟩])
       (.seq (.seq (.ops [⟨(some 72), .plain (.addOff 0 (.tmp 10)), none⟩,
           ⟨(some 73), .plain (.load1 (.tmp 72)), none⟩,
           ⟨(some 74), .call (.val (.func 9 [] [])) [(.tmp 73), (.val (.int .i64 9))], none⟩])
        (.block 2 (.seq (.seq (.ops [⟨(some 76), .plain (.bin .eql (.tmp 74) (.val (.int .i64 0))), none⟩,
             ⟨(some 75), .plain (.mv (.tmp 76)), none⟩])
          (.cond (.tmp 75) (.skip)
          (.seq (.ops [⟨(some 77), .plain (.bin .eql (.tmp 74) (.val (.int .i64 1))), none⟩,
              ⟨(some 75), .plain (.mv (.tmp 77)), none⟩])
           (.cond (.tmp 75) (.skip)
           (.seq (.ops [⟨(some 78), .plain (.bin .eql (.tmp 74) (.val (.int .i64 2))), none⟩,
               ⟨(some 75), .plain (.mv (.tmp 78)), none⟩])
            (.cond (.tmp 75) (.skip)
            (.ops [⟨(some 79), .plain (.bin .eql (.tmp 74) (.val (.int .i64 3))), none⟩,
               ⟨(some 75), .plain (.mv (.tmp 79)), none⟩])))))))
         (.cond (.tmp 75) (.seq (.ops [⟨(some 81), .plain (.mv (.tmp 5)), none⟩,
             ⟨(some 82), .plain (.addOff 2 (.tmp 10)), none⟩,
             ⟨(some 83), .plain (.load1 (.tmp 82)), none⟩,
             ⟨(some 84), .plain (.addOff 3 (.tmp 10)), none⟩,
             ⟨(some 85), .plain (.load1 (.tmp 84)), none⟩,
             ⟨(some 86), .call (.val (.func 17 [] [])) [(.tmp 81), (.tmp 83), (.tmp 85)], none⟩,
             ⟨(some 80), .plain (.mv (.tmp 86)), none⟩,
             ⟨(some 87), .plain (.extract (.tmp 80) 0), none⟩,
             ⟨(some 88), .plain (.extract (.tmp 80) 1), none⟩,
             ⟨(some 13), .plain (.mv (.tmp 87)), none⟩,
             ⟨(some 14), .plain (.mv (.tmp 88)), none⟩])
          (.seq (.ops [⟨(some 90), .plain (.mv (.tmp 7)), none⟩,
             ⟨(some 91), .plain (.addOff 2 (.tmp 10)), none⟩,
             ⟨(some 92), .plain (.load1 (.tmp 91)), none⟩,
             ⟨(some 93), .plain (.addOff 3 (.tmp 10)), none⟩,
             ⟨(some 94), .plain (.load1 (.tmp 93)), none⟩,
             ⟨(some 95), .call (.val (.func 22 [] [])) [(.tmp 90), (.tmp 92), (.tmp 94)], none⟩,
             ⟨(some 89), .plain (.mv (.tmp 95)), none⟩,
             ⟨(some 96), .plain (.extract (.tmp 89) 0), none⟩,
             ⟨(some 97), .plain (.extract (.tmp 89) 1), none⟩,
             ⟨(some 15), .plain (.mv (.tmp 96)), none⟩,
             ⟨(some 16), .plain (.mv (.tmp 97)), none⟩])
          (.ops [⟨(some 98), .plain (.mv (.tmp 13)), none⟩,
            ⟨(some 99), .plain (.mv (.tmp 15)), none⟩,
            ⟨(some 100), .plain (.bin .eql (.tmp 98) (.tmp 99)), none⟩,
            ⟨(some 101), .plain (.mv (.tmp 100)), none⟩,
            ⟨(some 102), .plain (.mv (.tmp 14)), (some (101, true))⟩,
            ⟨(some 103), .plain (.mv (.tmp 16)), (some (101, true))⟩,
            ⟨(some 104), .plain (.bin .eql (.tmp 102) (.tmp 103)), (some (101, true))⟩,
            ⟨(some 105), .plain (.pick (.tmp 101) (.tmp 104) (.val (.bool false))), none⟩,
            ⟨(some 12), .plain (.mv (.tmp 105)), none⟩])))
         (.seq (.seq (.ops [⟨(some 107), .plain (.bin .eql (.tmp 74) (.val (.int .i64 4))), none⟩,
              ⟨(some 106), .plain (.mv (.tmp 107)), none⟩])
           (.cond (.tmp 106) (.skip)
           (.ops [⟨(some 108), .plain (.bin .eql (.tmp 74) (.val (.int .i64 5))), none⟩,
              ⟨(some 106), .plain (.mv (.tmp 108)), none⟩])))
          (.cond (.tmp 106) (.ops [⟨(some 109), .plain (.mv (.tmp 5)), none⟩,
             ⟨(some 110), .plain (.mv (.tmp 11)), none⟩,
             ⟨(some 111), .call (.val (.func 12 [] [])) [(.tmp 109), (.tmp 110)], none⟩,
             ⟨(some 112), .plain (.mv (.tmp 7)), none⟩,
             ⟨(some 113), .plain (.mv (.tmp 11)), none⟩,
             ⟨(some 114), .call (.val (.func 23 [] [])) [(.tmp 112), (.tmp 113)], none⟩,
             ⟨(some 115), .plain (.bin .eql (.tmp 111) (.tmp 114)), none⟩,
             ⟨(some 12), .plain (.mv (.tmp 115)), none⟩])
          (.seq (.ops [⟨(some 117), .plain (.bin .eql (.tmp 74) (.val (.int .i64 6))), none⟩,
              ⟨(some 116), .plain (.mv (.tmp 117)), none⟩])
           (.cond (.tmp 116) (.dops [⟨0, ⟨(some 118), .plain (.mv (.tmp 5)), none⟩, []⟩,
              ⟨1, ⟨(some 119), .plain (.mv (.tmp 11)), none⟩, []⟩,
              ⟨2, ⟨(some 120), .plain (.addOff 2 (.tmp 10)), none⟩, []⟩,
              ⟨3, ⟨(some 121), .plain (.load1 (.tmp 120)), none⟩, []⟩,
              ⟨4, ⟨(some 122), .plain (.addOff 3 (.tmp 10)), none⟩, []⟩,
              ⟨5, ⟨(some 123), .plain (.load1 (.tmp 122)), none⟩, []⟩,
              ⟨7, ⟨(some 125), .plain (.mv (.tmp 7)), none⟩, []⟩,
              ⟨8, ⟨(some 126), .plain (.mv (.tmp 11)), none⟩, []⟩,
              ⟨9, ⟨(some 127), .plain (.addOff 2 (.tmp 10)), none⟩, []⟩,
              ⟨10, ⟨(some 128), .plain (.load1 (.tmp 127)), none⟩, []⟩,
              ⟨11, ⟨(some 129), .plain (.addOff 3 (.tmp 10)), none⟩, []⟩,
              ⟨12, ⟨(some 130), .plain (.load1 (.tmp 129)), none⟩, []⟩,
              ⟨6, ⟨(some 124), .call (.val (.func 14 [] [])) [(.tmp 118), (.tmp 119), (.tmp 121), (.tmp 123)], none⟩, [10, 12]⟩,
              ⟨13, ⟨(some 131), .call (.val (.func 24 [] [])) [(.tmp 125), (.tmp 126), (.tmp 128), (.tmp 130)], none⟩, []⟩,
              ⟨14, ⟨(some 132), .plain (.bin .eql (.tmp 124) (.tmp 131)), none⟩, []⟩,
              ⟨15, ⟨(some 12), .plain (.mv (.tmp 132)), none⟩, []⟩])
           (.seq (.ops [⟨(some 134), .plain (.bin .eql (.tmp 74) (.val (.int .i64 7))), none⟩,
               ⟨(some 133), .plain (.mv (.tmp 134)), none⟩])
            (.cond (.tmp 133) (.seq (.ops [⟨(some 135), .plain (.mv (.tmp 5)), none⟩,
                ⟨(some 136), .call (.val (.func 16 [] [])) [(.tmp 135)], none⟩])
             (.ops [⟨(some 137), .plain (.mv (.tmp 7)), none⟩,
               ⟨(some 138), .plain (.mv (.tmp 7)), none⟩,
               ⟨(some 139), .plain (.nilCheck (.tmp 138)), none⟩,
               ⟨(some 140), .plain (.addOff 0 (.tmp 139)), none⟩,
               ⟨(some 141), .plain (.load1 (.tmp 140)), none⟩,
               ⟨(some 142), .call (.val (.func 21 [] [])) [(.tmp 141)], none⟩,
               ⟨(some 143), .plain (.nilCheck (.tmp 137)), none⟩,
               ⟨(some 144), .plain (.addOff 1 (.tmp 143)), none⟩,
               ⟨none, .plain (.store 1 (.tmp 144) (.tmp 142)), none⟩]))
            (.seq (.ops [⟨(some 146), .plain (.bin .eql (.tmp 74) (.val (.int .i64 8))), none⟩,
                ⟨(some 145), .plain (.mv (.tmp 146)), none⟩])
             (.cond (.tmp 145) (.seq (.ops [⟨(some 148), .plain (.mv (.tmp 5)), none⟩,
                 ⟨(some 149), .plain (.addOff 2 (.tmp 10)), none⟩,
                 ⟨(some 150), .plain (.load1 (.tmp 149)), none⟩,
                 ⟨(some 151), .plain (.addOff 3 (.tmp 10)), none⟩,
                 ⟨(some 152), .plain (.load1 (.tmp 151)), none⟩,
                 ⟨(some 153), .call (.val (.func 18 [] [])) [(.tmp 148), (.tmp 150), (.tmp 152)], none⟩,
                 ⟨(some 147), .plain (.mv (.tmp 153)), none⟩,
                 ⟨(some 154), .plain (.extract (.tmp 147) 0), none⟩,
                 ⟨(some 155), .plain (.extract (.tmp 147) 1), none⟩,
                 ⟨(some 17), .plain (.mv (.tmp 154)), none⟩,
                 ⟨(some 18), .plain (.mv (.tmp 155)), none⟩])
              (.seq (.ops [⟨(some 157), .plain (.mv (.tmp 7)), none⟩,
                 ⟨(some 158), .plain (.addOff 2 (.tmp 10)), none⟩,
                 ⟨(some 159), .plain (.load1 (.tmp 158)), none⟩,
                 ⟨(some 160), .plain (.addOff 3 (.tmp 10)), none⟩,
                 ⟨(some 161), .plain (.load1 (.tmp 160)), none⟩,
                 ⟨(some 162), .call (.val (.func 25 [] [])) [(.tmp 157), (.tmp 159), (.tmp 161)], none⟩,
                 ⟨(some 156), .plain (.mv (.tmp 162)), none⟩,
                 ⟨(some 163), .plain (.extract (.tmp 156) 0), none⟩,
                 ⟨(some 164), .plain (.extract (.tmp 156) 1), none⟩,
                 ⟨(some 19), .plain (.mv (.tmp 163)), none⟩,
                 ⟨(some 20), .plain (.mv (.tmp 164)), none⟩])
              (.ops [⟨(some 165), .plain (.mv (.tmp 17)), none⟩,
                ⟨(some 166), .plain (.mv (.tmp 19)), none⟩,
                ⟨(some 167), .plain (.bin .eql (.tmp 165) (.tmp 166)), none⟩,
                ⟨(some 168), .plain (.mv (.tmp 167)), none⟩,
                ⟨(some 169), .plain (.mv (.tmp 18)), (some (168, true))⟩,
                ⟨(some 170), .plain (.mv (.tmp 20)), (some (168, true))⟩,
                ⟨(some 171), .plain (.bin .eql (.tmp 169) (.tmp 170)), (some (168, true))⟩,
                ⟨(some 172), .plain (.pick (.tmp 168) (.tmp 171) (.val (.bool false))), none⟩,
                ⟨(some 12), .plain (.mv (.tmp 172)), none⟩])))
             (.skip)))))))))))))
       (.seq (.ops [⟨(some 173), .plain (.mv (.tmp 12)), none⟩,
          ⟨(some 174), .plain (.not (.tmp 173)), none⟩,
          ⟨(some 175), .plain (.mv (.tmp 174)), none⟩,
          ⟨(some 176), .plain (.mv (.tmp 5)), (some (175, false))⟩,
          ⟨(some 177), .plain (.mv (.tmp 7)), (some (175, false))⟩,
          ⟨(some 178), .call (.val (.func 26 [] [])) [(.tmp 176), (.tmp 177)], (some (175, false))⟩,
          ⟨(some 179), .plain (.not (.tmp 178)), (some (175, false))⟩,
          ⟨(some 180), .plain (.pick (.tmp 175) (.val (.bool true)) (.tmp 179)), none⟩])
       (.cond (.tmp 180) (.seq (.ops [⟨(some 4), .plain (.mv (.val (.bool false))), none⟩])
        (.ret))
       (.skip)))))))))
     (.ops [⟨(some 52), .plain (.mv (.tmp 9)), none⟩,
       ⟨(some 53), .plain (.bin .add (.tmp 52) (.val (.int .i64 1))), none⟩,
       ⟨(some 9), .plain (.mv (.tmp 53)), none⟩]))))))
  (.seq (.ops [⟨(some 181), .call (.val (.func 8 [] [])) [], none⟩,
     ⟨(some 4), .plain (.mv (.tmp 181)), none⟩])
  (.ret)))))))⟩
theorem ok5 : compFun Try.prog 5 = some fn5 := by kernel_rfl

/-- postrider/postriderlaw18.FenceOnce -/
def fn6 : AFun := ⟨147, [4], .seq (.ops [⟨(some 4), .plain (.mv (.val (.bool false))), none⟩])
  (.seq (.seq (.ops [⟨(some 16), .call (.val (.func 8 [] [])) [], none⟩,
      ⟨(some 17), .plain (.not (.tmp 16)), none⟩])
   (.cond (.tmp 17) (.seq (.ops [⟨(some 4), .plain (.mv (.val (.bool false))), none⟩])
    (.ret))
   (.skip)))
  (.seq (.ops [⟨(some 18), .plain (.mv (.tmp 0)), none⟩,
     ⟨(some 19), .call (.val (.func 9 [] [])) [(.tmp 18), (.val (.int .i64 50))], none⟩,
     ⟨(some 0), .plain (.mv (.tmp 19)), none⟩])
  (.seq (.ops [⟨(some 21), .plain (.mv (.tmp 0)), none⟩,
     ⟨(some 22), .call (.val (.func 10 [] [])) [(.tmp 21)], none⟩,
     ⟨(some 20), .plain (.mv (.tmp 22)), none⟩,
     ⟨(some 23), .plain (.extract (.tmp 20) 0), none⟩,
     ⟨(some 24), .plain (.extract (.tmp 20) 1), none⟩,
     ⟨(some 5), .plain (.mv (.tmp 23)), none⟩,
     ⟨(some 6), .plain (.mv (.tmp 24)), none⟩])
  (.seq (.seq (.ops [⟨(some 25), .plain (.mv (.tmp 5)), none⟩,
      ⟨(some 26), .plain (.eqn .ptr false (.tmp 25) (.val .nilp)), none⟩])
   (.cond (.tmp 26) (.seq (.ops [⟨(some 4), .plain (.mv (.val (.bool false))), none⟩])
    (.ret))
   (.skip)))
  (.seq (.ops [⟨(some 27), .plain (.mv (.tmp 0)), none⟩,
     ⟨(some 7), .plain (.mv (.val (.int .i64 0))), none⟩,
     ⟨(some 8), .plain (.mv (.tmp 27)), none⟩])
  (.seq (.seq (.ops [⟨(some 9), .plain (.mv (.val (.int .i64 0))), none⟩])
   (.block 0 (.loop (.seq (.seq (.ops [⟨(some 28), .plain (.mv (.tmp 9)), none⟩,
         ⟨(some 29), .plain (.mv (.tmp 1)), none⟩,
         ⟨(some 30), .plain (.lenS (.tmp 29)), none⟩,
         ⟨(some 31), .plain (.bin .lss (.tmp 28) (.tmp 30)), none⟩,
         ⟨(some 32), .plain (.mv (.tmp 31)), none⟩,
         ⟨(some 33), .plain (.mv (.tmp 9)), (some (32, true))⟩,
         ⟨(some 34), .plain (.bin .lss (.tmp 33) (.val (.int .i64 150))), (some (32, true))⟩,
         ⟨(some 35), .plain (.pick (.tmp 32) (.tmp 34) (.val (.bool false))), none⟩])
      (.cond (.tmp 35) (.skip)
      (.exit 0)))
     (.seq (.block 1 (.seq (.ops [⟨(some 38), .plain (.mv (.tmp 1)), none⟩,
          ⟨(some 39), .plain (.mv (.tmp 9)), none⟩,
          ⟨(some 40), .plain (.idxS 5 (.tmp 38) (.tmp 39)), none⟩,
          ⟨(some 41), .plain (.loadN 5 (.tmp 40)), none⟩,
          ⟨(some 10), .plain (.alloc 31 [(.int .i64 0), (.int .i64 0), (.int .i64 0), (.int .i64 0), (.bool false)]), none⟩,
          ⟨none, .plain (.store 5 (.tmp 10) (.tmp 41)), none⟩])
       (.seq (.ops [⟨(some 42), .plain (.mv (.tmp 8)), none⟩,
          ⟨(some 43), .plain (.addOff 3 (.tmp 10)), none⟩,
          ⟨(some 44), .plain (.load1 (.tmp 43)), none⟩,
          ⟨(some 45), .call (.val (.func 9 [] [])) [(.tmp 44), (.val (.int .i64 4))], none⟩,
          ⟨(some 46), .plain (.bin .add (.tmp 42) (.tmp 45)), none⟩,
          ⟨(some 8), .plain (.mv (.tmp 46)), none⟩])
       (.seq (.ops [⟨(some 47), .plain (.mv (.tmp 7)), none⟩,
          ⟨(some 48), .plain (.mv (.tmp 8)), none⟩,
          ⟨(some 49), .plain (.bin .sub (.tmp 48) (.val (.int .i64 1))), none⟩,
          ⟨(some 50), .plain (.addOff 2 (.tmp 10)), none⟩,
          ⟨(some 51), .plain (.load1 (.tmp 50)), none⟩,
          ⟨(some 52), .call (.val (.func 9 [] [])) [(.tmp 51), (.val (.int .i64 12))], none⟩,
          ⟨(some 53), .plain (.bin .sub (.tmp 49) (.tmp 52)), none⟩,
          ⟨(some 54), .plain (.max (.tmp 47) (.tmp 53)), none⟩,
          ⟨(some 55), .plain (.mv (.tmp 8)), none⟩,
          ⟨(some 56), .plain (.min (.tmp 54) (.tmp 55)), none⟩,
          ⟨(some 7), .plain (.mv (.tmp 56)), none⟩])
       (.seq (.ops [⟨(some 57), .plain (.addOff 0 (.tmp 10)), none⟩,
          ⟨(some 58), .plain (.load1 (.tmp 57)), none⟩,
          ⟨(some 59), .call (.val (.func 9 [] [])) [(.tmp 58), (.val (.int .i64 9))], none⟩])
       (.block 2 (.seq (.seq (.ops [⟨(some 65), .plain (.bin .eql (.tmp 59) (.val (.int .i64 4))), none⟩,
            ⟨(some 64), .plain (.mv (.tmp 65)), none⟩])
         (.cond (.tmp 64) (.skip)
         (.ops [⟨(some 66), .plain (.bin .eql (.tmp 59) (.val (.int .i64 5))), none⟩,
            ⟨(some 64), .plain (.mv (.tmp 66)), none⟩])))
        (.cond (.tmp 64) (.dops [⟨0, ⟨(some 67), .plain (.mv (.tmp 5)), none⟩, []⟩,
           ⟨1, ⟨(some 68), .plain (.mv (.tmp 5)), none⟩, []⟩,
           ⟨3, ⟨(some 70), .plain (.addOff 1 (.tmp 10)), none⟩, []⟩,
           ⟨4, ⟨(some 71), .plain (.load1 (.tmp 70)), none⟩, []⟩,
           ⟨2, ⟨(some 69), .call (.val (.func 15 [] [])) [(.tmp 68)], none⟩, [4]⟩,
           ⟨5, ⟨(some 72), .call (.val (.func 9 [] [])) [(.tmp 71), (.val (.int .i64 3))], none⟩, []⟩,
           ⟨6, ⟨(some 73), .plain (.bin .sub (.tmp 69) (.tmp 72)), none⟩, []⟩,
           ⟨7, ⟨(some 74), .call (.val (.func 12 [] [])) [(.tmp 67), (.tmp 73)], none⟩, []⟩])
        (.seq (.ops [⟨(some 76), .plain (.bin .eql (.tmp 59) (.val (.int .i64 6))), none⟩,
            ⟨(some 75), .plain (.mv (.tmp 76)), none⟩])
         (.cond (.tmp 75) (.dops [⟨0, ⟨(some 77), .plain (.mv (.tmp 5)), none⟩, []⟩,
            ⟨1, ⟨(some 78), .plain (.mv (.tmp 5)), none⟩, []⟩,
            ⟨3, ⟨(some 80), .plain (.addOff 1 (.tmp 10)), none⟩, []⟩,
            ⟨4, ⟨(some 81), .plain (.load1 (.tmp 80)), none⟩, []⟩,
            ⟨8, ⟨(some 85), .plain (.mv (.tmp 7)), none⟩, []⟩,
            ⟨9, ⟨(some 86), .plain (.mv (.tmp 8)), none⟩, []⟩,
            ⟨2, ⟨(some 79), .call (.val (.func 15 [] [])) [(.tmp 78)], none⟩, [4]⟩,
            ⟨5, ⟨(some 82), .call (.val (.func 9 [] [])) [(.tmp 81), (.val (.int .i64 5))], none⟩, []⟩,
            ⟨6, ⟨(some 83), .plain (.bin .add (.tmp 79) (.tmp 82)), none⟩, []⟩,
            ⟨7, ⟨(some 84), .plain (.bin .sub (.tmp 83) (.val (.int .i64 2))), none⟩, []⟩,
            ⟨10, ⟨(some 87), .call (.val (.func 14 [] [])) [(.tmp 77), (.tmp 84), (.tmp 85), (.tmp 86)], none⟩, []⟩])
         (.seq (.ops [⟨(some 89), .plain (.bin .eql (.tmp 59) (.val (.int .i64 7))), none⟩,
             ⟨(some 88), .plain (.mv (.tmp 89)), none⟩])
          (.cond (.tmp 88) (.ops [⟨(some 90), .plain (.mv (.tmp 5)), none⟩,
             ⟨(some 91), .call (.val (.func 16 [] [])) [(.tmp 90)], none⟩])
          (.ops [⟨(some 60), .plain (.mv (.tmp 5)), none⟩,
             ⟨(some 61), .plain (.mv (.tmp 7)), none⟩,
             ⟨(some 62), .plain (.mv (.tmp 8)), none⟩,
             ⟨(some 63), .call (.val (.func 17 [] [])) [(.tmp 60), (.tmp 61), (.tmp 62)], none⟩])))))))))))))
     (.ops [⟨(some 36), .plain (.mv (.tmp 9)), none⟩,
       ⟨(some 37), .plain (.bin .add (.tmp 36) (.val (.int .i64 1))), none⟩,
       ⟨(some 9), .plain (.mv (.tmp 37)), none⟩]))))))
  (.seq (.ops [⟨(some 92), .plain (.mv (.tmp 5)), none⟩,
     ⟨(some 93), .call (.val (.func 19 [] [])) [(.tmp 92)], none⟩,
     ⟨(some 11), .plain (.mv (.tmp 93)), none⟩])
  (.seq (.seq (.ops [⟨(some 94), .plain (.mv (.tmp 11)), none⟩,
      ⟨(some 95), .plain (.eqn .ptr false (.tmp 94) (.val .nilp)), none⟩,
      ⟨(some 96), .plain (.mv (.tmp 95)), none⟩,
      ⟨(some 97), .plain (.mv (.tmp 11)), (some (96, false))⟩,
      ⟨(some 98), .call (.val (.func 27 [] [])) [(.tmp 97)], (some (96, false))⟩,
      ⟨(some 99), .plain (.mv (.tmp 0)), (some (96, false))⟩,
      ⟨(some 100), .plain (.bin .neq (.tmp 98) (.tmp 99)), (some (96, false))⟩,
      ⟨(some 101), .plain (.pick (.tmp 96) (.val (.bool true)) (.tmp 100)), none⟩,
      ⟨(some 102), .plain (.mv (.tmp 101)), none⟩,
      ⟨(some 103), .plain (.mv (.tmp 11)), (some (102, false))⟩,
      ⟨(some 104), .call (.val (.func 28 [] [])) [(.tmp 103)], (some (102, false))⟩,
      ⟨(some 105), .plain (.mv (.tmp 5)), (some (102, false))⟩,
      ⟨(some 106), .call (.val (.func 11 [] [])) [(.tmp 105)], (some (102, false))⟩,
      ⟨(some 107), .plain (.bin .neq (.tmp 104) (.tmp 106)), (some (102, false))⟩,
      ⟨(some 108), .plain (.pick (.tmp 102) (.val (.bool true)) (.tmp 107)), none⟩])
   (.cond (.tmp 108) (.seq (.ops [⟨(some 4), .plain (.mv (.val (.bool false))), none⟩])
    (.ret))
   (.skip)))
  (.seq (.ops [⟨(some 109), .plain (.mv (.tmp 11)), none⟩,
     ⟨(some 110), .call (.val (.func 29 [] [])) [(.tmp 109)], none⟩,
     ⟨(some 111), .plain (.mv (.tmp 11)), none⟩,
     ⟨(some 112), .call (.val (.func 30 [] [])) [(.tmp 111)], none⟩,
     ⟨(some 113), .plain (.append 54 2 16 (.tmp 110) (.tmp 112)), none⟩,
     ⟨(some 12), .plain (.mv (.tmp 113)), none⟩])
  (.seq (.seq (.ops [⟨(some 114), .plain (.mv (.tmp 0)), none⟩,
      ⟨(some 13), .plain (.mv (.tmp 114)), none⟩])
   (.block 3 (.loop (.seq (.seq (.ops [⟨(some 115), .plain (.mv (.tmp 13)), none⟩,
         ⟨(some 116), .plain (.mv (.tmp 5)), none⟩,
         ⟨(some 117), .call (.val (.func 11 [] [])) [(.tmp 116)], none⟩,
         ⟨(some 118), .plain (.bin .lss (.tmp 115) (.tmp 117)), none⟩])
      (.cond (.tmp 118) (.skip)
      (.exit 3)))
     (.seq (.block 4 (.seq (.ops [⟨(some 14), .plain (.mv (.val (.int .i64 0))), none⟩])
       (.seq (.seq (.ops [⟨(some 15), .plain (.mv (.val (.int .i64 0))), none⟩])
        (.block 5 (.loop (.seq (.seq (.ops [⟨(some 121), .plain (.mv (.tmp 15)), none⟩,
              ⟨(some 122), .plain (.mv (.tmp 12)), none⟩,
              ⟨(some 123), .plain (.lenS (.tmp 122)), none⟩,
              ⟨(some 124), .plain (.bin .lss (.tmp 121) (.tmp 123)), none⟩])
           (.cond (.tmp 124) (.skip)
           (.exit 5)))
          (.seq (.block 6 (.seq (.ops [⟨(some 127), .plain (.mv (.tmp 13)), none⟩,
               ⟨(some 128), .plain (.mv (.tmp 12)), none⟩,
               ⟨(some 129), .plain (.mv (.tmp 15)), none⟩,
               ⟨(some 130), .plain (.idxS 2 (.tmp 128) (.tmp 129)), none⟩,
               ⟨(some 131), .plain (.addOff 0 (.tmp 130)), none⟩,
               ⟨(some 132), .plain (.load1 (.tmp 131)), none⟩,
               ⟨(some 133), .plain (.bin .geq (.tmp 127) (.tmp 132)), none⟩,
               ⟨(some 134), .plain (.mv (.tmp 133)), none⟩,
               ⟨(some 135), .plain (.mv (.tmp 13)), (some (134, true))⟩,
               ⟨(some 136), .plain (.mv (.tmp 12)), (some (134, true))⟩,
               ⟨(some 137), .plain (.mv (.tmp 15)), (some (134, true))⟩,
               ⟨(some 138), .plain (.idxS 2 (.tmp 136) (.tmp 137)), (some (134, true))⟩,
               ⟨(some 139), .plain (.addOff 1 (.tmp 138)), (some (134, true))⟩,
               ⟨(some 140), .plain (.load1 (.tmp 139)), (some (134, true))⟩,
               ⟨(some 141), .plain (.bin .lss (.tmp 135) (.tmp 140)), (some (134, true))⟩,
               ⟨(some 142), .plain (.pick (.tmp 134) (.tmp 141) (.val (.bool false))), none⟩])
            (.cond (.tmp 142) (.ops [⟨(some 143), .plain (.mv (.tmp 14)), none⟩,
               ⟨(some 144), .plain (.bin .add (.tmp 143) (.val (.int .i64 1))), none⟩,
               ⟨(some 14), .plain (.mv (.tmp 144)), none⟩])
            (.skip))))
          (.ops [⟨(some 125), .plain (.mv (.tmp 15)), none⟩,
            ⟨(some 126), .plain (.bin .add (.tmp 125) (.val (.int .i64 1))), none⟩,
            ⟨(some 15), .plain (.mv (.tmp 126)), none⟩]))))))
       (.seq (.ops [⟨(some 145), .plain (.mv (.tmp 14)), none⟩,
          ⟨(some 146), .plain (.bin .neq (.tmp 145) (.val (.int .i64 1))), none⟩])
       (.cond (.tmp 146) (.seq (.ops [⟨(some 4), .plain (.mv (.val (.bool false))), none⟩])
        (.ret))
       (.skip))))))
     (.ops [⟨(some 119), .plain (.mv (.tmp 13)), none⟩,
       ⟨(some 120), .plain (.bin .add (.tmp 119) (.val (.int .i64 1))), none⟩,
       ⟨(some 13), .plain (.mv (.tmp 120)), none⟩]))))))
  (.seq (.ops [⟨(some 4), .plain (.mv (.val (.bool true))), none⟩])
  (.ret))))))))))))⟩
theorem ok6 : compFun Try.prog 6 = some fn6 := by kernel_rfl

/-- postrider/postriderlaw18.FenceJudges -/
def fn7 : AFun := ⟨126, [10], .seq (.ops [⟨(some 9), .plain (.box 57 (.tmp 4)), none⟩,
     ⟨(some 10), .plain (.mv (.val (.bool false))), none⟩])
  (.seq (.ops [⟨(some 17), .call (.val (.func 31 [] [])) [], none⟩,
     ⟨(some 18), .call (.val (.func 32 [] [])) [], none⟩,
     ⟨(some 11), .plain (.mv (.tmp 17)), none⟩,
     ⟨(some 12), .plain (.mv (.tmp 18)), none⟩])
  (.seq (.seq (.ops [⟨(some 19), .plain (.mv (.tmp 11)), none⟩,
      ⟨(some 20), .plain (.eqn .ptr false (.tmp 19) (.val .nilp)), none⟩])
   (.cond (.tmp 20) (.seq (.ops [⟨(some 10), .plain (.mv (.val (.bool false))), none⟩])
    (.ret))
   (.skip)))
  (.seq (.ops [⟨(some 21), .plain (.build [(.int .i64 0), (.int .i64 0)] []), none⟩,
     ⟨(some 22), .plain (.build [(.int .i64 0), (.int .i64 0)] [(1, 1, (.val (.int .i64 1)))]), none⟩,
     ⟨(some 23), .plain (.build [(.int .i64 0), (.int .i64 0)] [(0, 1, (.val (.int .i64 1)))]), none⟩,
     ⟨(some 24), .plain (.build [(.int .i64 0), (.int .i64 0)] [(0, 1, (.val (.int .i64 1))), (1, 1, (.val (.int .i64 1)))]), none⟩,
     ⟨(some 25), .plain (.buildSlice 57 2 [(.int .i64 0), (.int .i64 0), (.int .i64 0), (.int .i64 0), (.int .i64 0), (.int .i64 0), (.int .i64 0), (.int .i64 0)] 4 [(0, 2, (.tmp 21)), (2, 2, (.tmp 22)), (4, 2, (.tmp 23)), (6, 2, (.tmp 24))]), none⟩,
     ⟨(some 13), .plain (.mv (.tmp 25)), none⟩])
  (.seq (.seq (.ops [⟨(some 14), .plain (.mv (.val (.int .i64 0))), none⟩])
   (.block 0 (.loop (.seq (.seq (.ops [⟨(some 26), .plain (.mv (.tmp 14)), none⟩,
         ⟨(some 27), .plain (.mv (.tmp 0)), none⟩,
         ⟨(some 28), .plain (.lenS (.tmp 27)), none⟩,
         ⟨(some 29), .plain (.bin .lss (.tmp 26) (.tmp 28)), none⟩,
         ⟨(some 30), .plain (.mv (.tmp 29)), none⟩,
         ⟨(some 31), .plain (.mv (.tmp 14)), (some (30, true))⟩,
         ⟨(some 32), .plain (.bin .lss (.tmp 31) (.val (.int .i64 20))), (some (30, true))⟩,
         ⟨(some 33), .plain (.pick (.tmp 30) (.tmp 32) (.val (.bool false))), none⟩])
      (.cond (.tmp 33) (.skip)
      (.exit 0)))
     (.seq (.block 1 (.seq (.dops [⟨0, ⟨(some 36), .plain (.mv (.tmp 0)), none⟩, []⟩,
          ⟨1, ⟨(some 37), .plain (.mv (.tmp 14)), none⟩, []⟩,
          ⟨2, ⟨(some 38), .plain (.idxS 1 (.tmp 36) (.tmp 37)), none⟩, []⟩,
          ⟨3, ⟨(some 39), .plain (.load1 (.tmp 38)), none⟩, []⟩,
          ⟨4, ⟨(some 40), .plain (.mv (.tmp 0)), none⟩, []⟩,
          ⟨5, ⟨(some 41), .plain (.mv (.tmp 14)), none⟩, []⟩,
          ⟨6, ⟨(some 42), .plain (.idxS 1 (.tmp 40) (.tmp 41)), none⟩, []⟩,
          ⟨7, ⟨(some 43), .plain (.load1 (.tmp 42)), none⟩, []⟩,
          ⟨8, ⟨(some 44), .plain (.lenS (.tmp 43)), none⟩, []⟩,
          ⟨9, ⟨(some 45), .plain (.min (.tmp 44) (.val (.int .i64 12))), none⟩, []⟩,
          ⟨10, ⟨(some 46), .plain (.slice 1 (.tmp 39) none (some (.tmp 45))), none⟩, []⟩,
          ⟨11, ⟨(some 15), .plain (.mv (.tmp 46)), none⟩, []⟩])
       (.seq (.ops [⟨(some 47), .plain (.mv (.tmp 11)), none⟩,
          ⟨(some 48), .plain (.mv (.tmp 13)), none⟩,
          ⟨(some 49), .plain (.mv (.tmp 15)), none⟩,
          ⟨(some 50), .call (.val (.func 33 [] [])) [(.tmp 47), (.tmp 48), (.tmp 49)], none⟩])
       (.seq (.ops [⟨(some 51), .plain (.mv (.tmp 12)), none⟩,
          ⟨(some 52), .plain (.mv (.tmp 13)), none⟩,
          ⟨(some 53), .plain (.mv (.tmp 15)), none⟩,
          ⟨(some 54), .call (.val (.func 34 [] [])) [(.tmp 51), (.tmp 52), (.tmp 53)], none⟩])
       (.seq (.ops [⟨(some 55), .plain (.mv (.tmp 14)), none⟩,
          ⟨(some 56), .plain (.mv (.tmp 1)), none⟩,
          ⟨(some 57), .plain (.lenS (.tmp 56)), none⟩,
          ⟨(some 58), .plain (.bin .lss (.tmp 55) (.tmp 57)), none⟩])
       (.cond (.tmp 58) (.seq (.ops [⟨(some 59), .plain (.mv (.tmp 11)), none⟩,
           ⟨(some 60), .plain (.mv (.tmp 1)), none⟩,
           ⟨(some 61), .plain (.mv (.tmp 14)), none⟩,
           ⟨(some 62), .plain (.idxS 1 (.tmp 60) (.tmp 61)), none⟩,
           ⟨(some 63), .plain (.load1 (.tmp 62)), none⟩,
           ⟨(some 64), .call (.val (.func 35 [] [])) [(.tmp 59), (.tmp 63)], none⟩])
        (.ops [⟨(some 65), .plain (.mv (.tmp 12)), none⟩,
          ⟨(some 66), .plain (.mv (.tmp 1)), none⟩,
          ⟨(some 67), .plain (.mv (.tmp 14)), none⟩,
          ⟨(some 68), .plain (.idxS 1 (.tmp 66) (.tmp 67)), none⟩,
          ⟨(some 69), .plain (.load1 (.tmp 68)), none⟩,
          ⟨(some 70), .call (.val (.func 36 [] [])) [(.tmp 65), (.tmp 69)], none⟩]))
       (.skip)))))))
     (.ops [⟨(some 34), .plain (.mv (.tmp 14)), none⟩,
       ⟨(some 35), .plain (.bin .add (.tmp 34) (.val (.int .i64 1))), none⟩,
       ⟨(some 14), .plain (.mv (.tmp 35)), none⟩]))))))
  (.seq (.seq (.ops [⟨(some 71), .plain (.mv (.tmp 2)), none⟩,
      ⟨(some 72), .plain (.mv (.tmp 3)), none⟩,
      ⟨(some 73), .plain (.loadN 2 (.tmp 9)), none⟩,
      ⟨(some 74), .call (.val (.func 37 [] [])) [(.val .nilp), (.tmp 71), (.tmp 72), (.tmp 73)], none⟩,
      ⟨(some 75), .plain (.bin .neq (.tmp 74) (.val (.int .i64 1))), none⟩])
   (.cond (.tmp 75) (.seq (.ops [⟨(some 10), .plain (.mv (.val (.bool false))), none⟩])
    (.ret))
   (.skip)))
  (.seq (.dops [⟨0, ⟨(some 76), .plain (.mv (.tmp 11)), none⟩, []⟩,
     ⟨1, ⟨(some 77), .plain (.mv (.tmp 2)), none⟩, []⟩,
     ⟨2, ⟨(some 78), .plain (.mv (.tmp 12)), none⟩, []⟩,
     ⟨3, ⟨(some 79), .plain (.nilCheck (.tmp 78)), none⟩, []⟩,
     ⟨4, ⟨(some 80), .plain (.addOff 3 (.tmp 79)), none⟩, []⟩,
     ⟨5, ⟨(some 81), .plain (.load1 (.tmp 80)), none⟩, []⟩,
     ⟨6, ⟨(some 82), .plain (.loadN 2 (.tmp 9)), none⟩, []⟩,
     ⟨7, ⟨(some 83), .call (.val (.func 37 [] [])) [(.tmp 76), (.tmp 77), (.tmp 81), (.tmp 82)], none⟩, []⟩,
     ⟨8, ⟨(some 16), .plain (.mv (.tmp 83)), none⟩, []⟩])
  (.seq (.dops [⟨0, ⟨(some 84), .plain (.mv (.tmp 11)), none⟩, []⟩,
     ⟨1, ⟨(some 85), .plain (.mv (.tmp 2)), none⟩, []⟩,
     ⟨2, ⟨(some 86), .plain (.mv (.tmp 3)), none⟩, []⟩,
     ⟨3, ⟨(some 87), .plain (.loadN 2 (.tmp 9)), none⟩, []⟩,
     ⟨5, ⟨(some 89), .plain (.mv (.tmp 12)), none⟩, []⟩,
     ⟨6, ⟨(some 90), .plain (.mv (.tmp 2)), none⟩, []⟩,
     ⟨7, ⟨(some 91), .plain (.mv (.tmp 3)), none⟩, []⟩,
     ⟨8, ⟨(some 92), .plain (.loadN 2 (.tmp 9)), none⟩, []⟩,
     ⟨4, ⟨(some 88), .call (.val (.func 37 [] [])) [(.tmp 84), (.tmp 85), (.tmp 86), (.tmp 87)], none⟩, [8]⟩,
     ⟨9, ⟨(some 93), .call (.val (.func 38 [] [])) [(.tmp 89), (.tmp 90), (.tmp 91), (.tmp 92)], none⟩, []⟩,
     ⟨10, ⟨(some 94), .plain (.bin .eql (.tmp 88) (.tmp 93)), none⟩, []⟩,
     ⟨11, ⟨(some 95), .plain (.mv (.tmp 94)), none⟩, []⟩,
     ⟨12, ⟨(some 96), .plain (.mv (.tmp 16)), (some (95, true))⟩, []⟩,
     ⟨13, ⟨(some 97), .plain (.mv (.tmp 12)), (some (95, true))⟩, []⟩,
     ⟨14, ⟨(some 98), .plain (.mv (.tmp 2)), (some (95, true))⟩, []⟩,
     ⟨15, ⟨(some 99), .plain (.mv (.tmp 12)), (some (95, true))⟩, []⟩,
     ⟨16, ⟨(some 100), .plain (.nilCheck (.tmp 99)), (some (95, true))⟩, []⟩,
     ⟨17, ⟨(some 101), .plain (.addOff 3 (.tmp 100)), (some (95, true))⟩, []⟩,
     ⟨18, ⟨(some 102), .plain (.load1 (.tmp 101)), (some (95, true))⟩, []⟩,
     ⟨19, ⟨(some 103), .plain (.loadN 2 (.tmp 9)), (some (95, true))⟩, []⟩,
     ⟨20, ⟨(some 104), .call (.val (.func 38 [] [])) [(.tmp 97), (.tmp 98), (.tmp 102), (.tmp 103)], (some (95, true))⟩, []⟩,
     ⟨21, ⟨(some 105), .plain (.bin .eql (.tmp 96) (.tmp 104)), (some (95, true))⟩, []⟩,
     ⟨22, ⟨(some 106), .plain (.pick (.tmp 95) (.tmp 105) (.val (.bool false))), none⟩, []⟩,
     ⟨23, ⟨(some 107), .plain (.mv (.tmp 106)), none⟩, []⟩,
     ⟨24, ⟨(some 108), .plain (.mv (.tmp 3)), (some (107, true))⟩, []⟩,
     ⟨25, ⟨(some 109), .plain (.mv (.tmp 12)), (some (107, true))⟩, []⟩,
     ⟨26, ⟨(some 110), .plain (.nilCheck (.tmp 109)), (some (107, true))⟩, []⟩,
     ⟨27, ⟨(some 111), .plain (.addOff 3 (.tmp 110)), (some (107, true))⟩, []⟩,
     ⟨28, ⟨(some 112), .plain (.load1 (.tmp 111)), (some (107, true))⟩, []⟩,
     ⟨29, ⟨(some 113), .plain (.bin .eql (.tmp 108) (.tmp 112)), (some (107, true))⟩, []⟩,
     ⟨30, ⟨(some 114), .plain (.mv (.tmp 113)), (some (107, true))⟩, []⟩,
     ⟨31, ⟨(some 115), .plain (.mv (.tmp 11)), (some (114, false))⟩, []⟩,
     ⟨32, ⟨(some 116), .plain (.mv (.tmp 2)), (some (114, false))⟩, []⟩,
     ⟨33, ⟨(some 117), .plain (.mv (.tmp 3)), (some (114, false))⟩, []⟩,
     ⟨34, ⟨(some 118), .plain (.loadN 2 (.tmp 9)), (some (114, false))⟩, []⟩,
     ⟨35, ⟨(some 119), .call (.val (.func 37 [] [])) [(.tmp 115), (.tmp 116), (.tmp 117), (.tmp 118)], (some (114, false))⟩, []⟩,
     ⟨36, ⟨(some 120), .plain (.bin .eql (.tmp 119) (.val (.int .i64 180))), (some (114, false))⟩, []⟩,
     ⟨37, ⟨(some 121), .plain (.pick (.tmp 114) (.val (.bool true)) (.tmp 120)), (some (107, true))⟩, []⟩,
     ⟨38, ⟨(some 122), .plain (.pick (.tmp 107) (.tmp 121) (.val (.bool false))), none⟩, []⟩,
     ⟨39, ⟨(some 123), .plain (.mv (.tmp 122)), none⟩, []⟩,
     ⟨40, ⟨(some 124), .call (.val (.func 8 [] [])) [], (some (123, true))⟩, []⟩,
     ⟨41, ⟨(some 125), .plain (.pick (.tmp 123) (.tmp 124) (.val (.bool false))), none⟩, []⟩,
     ⟨42, ⟨(some 10), .plain (.mv (.tmp 125)), none⟩, []⟩])
  (.ret))))))))⟩
theorem ok7 : compFun Try.prog 7 = some fn7 := by kernel_rfl

/-- postrider/postriderlaw18.works -/
def fn8 : AFun := ⟨61, [0], .seq (.ops [⟨(some 0), .plain (.mv (.val (.bool false))), none⟩])
  (.seq (.ops [⟨(some 8), .call (.val (.func 10 [] [])) [(.val (.int .i64 0))], none⟩,
     ⟨(some 7), .plain (.mv (.tmp 8)), none⟩,
     ⟨(some 9), .plain (.extract (.tmp 7) 0), none⟩,
     ⟨(some 10), .plain (.extract (.tmp 7) 1), none⟩,
     ⟨(some 1), .plain (.mv (.tmp 9)), none⟩,
     ⟨(some 2), .plain (.mv (.tmp 10)), none⟩])
  (.seq (.seq (.ops [⟨(some 11), .plain (.mv (.tmp 1)), none⟩,
      ⟨(some 12), .plain (.eqn .ptr false (.tmp 11) (.val .nilp)), none⟩,
      ⟨(some 13), .plain (.mv (.tmp 12)), none⟩,
      ⟨(some 14), .plain (.mv (.tmp 2)), (some (13, false))⟩,
      ⟨(some 15), .plain (.bin .neq (.tmp 14) (.val (.int .i64 0))), (some (13, false))⟩,
      ⟨(some 16), .plain (.pick (.tmp 13) (.val (.bool true)) (.tmp 15)), none⟩])
   (.cond (.tmp 16) (.seq (.ops [⟨(some 0), .plain (.mv (.val (.bool false))), none⟩])
    (.ret))
   (.skip)))
  (.seq (.ops [⟨(some 18), .plain (.mv (.tmp 1)), none⟩,
     ⟨(some 19), .call (.val (.func 17 [] [])) [(.tmp 18), (.val (.int .i64 0)), (.val (.int .i64 5))], none⟩,
     ⟨(some 17), .plain (.mv (.tmp 19)), none⟩,
     ⟨(some 20), .plain (.extract (.tmp 17) 0), none⟩,
     ⟨(some 21), .plain (.extract (.tmp 17) 1), none⟩,
     ⟨(some 3), .plain (.mv (.tmp 20)), none⟩,
     ⟨(some 4), .plain (.mv (.tmp 21)), none⟩])
  (.seq (.ops [⟨(some 23), .plain (.mv (.tmp 1)), none⟩,
     ⟨(some 24), .call (.val (.func 17 [] [])) [(.tmp 23), (.val (.int .i64 3)), (.val (.int .i64 5))], none⟩,
     ⟨(some 22), .plain (.mv (.tmp 24)), none⟩,
     ⟨(some 25), .plain (.extract (.tmp 22) 0), none⟩,
     ⟨(some 26), .plain (.extract (.tmp 22) 1), none⟩,
     ⟨(some 5), .plain (.mv (.tmp 25)), none⟩,
     ⟨(some 6), .plain (.mv (.tmp 26)), none⟩])
  (.seq (.ops [⟨(some 27), .plain (.mv (.tmp 3)), none⟩,
     ⟨(some 28), .plain (.bin .eql (.tmp 27) (.val (.int .i64 0))), none⟩,
     ⟨(some 29), .plain (.mv (.tmp 28)), none⟩,
     ⟨(some 30), .plain (.mv (.tmp 4)), (some (29, true))⟩,
     ⟨(some 31), .plain (.bin .eql (.tmp 30) (.val (.int .i64 0))), (some (29, true))⟩,
     ⟨(some 32), .plain (.pick (.tmp 29) (.tmp 31) (.val (.bool false))), none⟩,
     ⟨(some 33), .plain (.mv (.tmp 32)), none⟩,
     ⟨(some 34), .plain (.mv (.tmp 5)), (some (33, true))⟩,
     ⟨(some 35), .plain (.bin .eql (.tmp 34) (.val (.int .i64 3))), (some (33, true))⟩,
     ⟨(some 36), .plain (.pick (.tmp 33) (.tmp 35) (.val (.bool false))), none⟩,
     ⟨(some 37), .plain (.mv (.tmp 36)), none⟩,
     ⟨(some 38), .plain (.mv (.tmp 6)), (some (37, true))⟩,
     ⟨(some 39), .plain (.bin .eql (.tmp 38) (.val (.int .i64 0))), (some (37, true))⟩,
     ⟨(some 40), .plain (.pick (.tmp 37) (.tmp 39) (.val (.bool false))), none⟩,
     ⟨(some 41), .plain (.mv (.tmp 40)), none⟩,
     ⟨(some 42), .plain (.mv (.tmp 1)), (some (41, true))⟩,
     ⟨(some 43), .call (.val (.func 11 [] [])) [(.tmp 42)], (some (41, true))⟩,
     ⟨(some 44), .plain (.bin .eql (.tmp 43) (.val (.int .i64 3))), (some (41, true))⟩,
     ⟨(some 45), .plain (.pick (.tmp 41) (.tmp 44) (.val (.bool false))), none⟩,
     ⟨(some 46), .plain (.mv (.tmp 45)), none⟩,
     ⟨(some 47), .plain (.mv (.tmp 1)), (some (46, true))⟩,
     ⟨(some 48), .call (.val (.func 12 [] [])) [(.tmp 47), (.val (.int .i64 4))], (some (46, true))⟩,
     ⟨(some 49), .plain (.bin .eql (.tmp 48) (.val (.int .i64 0))), (some (46, true))⟩,
     ⟨(some 50), .plain (.pick (.tmp 46) (.tmp 49) (.val (.bool false))), none⟩,
     ⟨(some 51), .plain (.mv (.tmp 50)), none⟩,
     ⟨(some 52), .plain (.mv (.tmp 1)), (some (51, true))⟩,
     ⟨(some 53), .call (.val (.func 12 [] [])) [(.tmp 52), (.val (.int .i64 5))], (some (51, true))⟩,
     ⟨(some 54), .plain (.bin .eql (.tmp 53) (.val (.int .i64 61))), (some (51, true))⟩,
     ⟨(some 55), .plain (.pick (.tmp 51) (.tmp 54) (.val (.bool false))), none⟩,
     ⟨(some 56), .plain (.mv (.tmp 55)), none⟩,
     ⟨(some 57), .plain (.mv (.tmp 1)), (some (56, true))⟩,
     ⟨(some 58), .call (.val (.func 15 [] [])) [(.tmp 57)], (some (56, true))⟩,
     ⟨(some 59), .plain (.bin .eql (.tmp 58) (.val (.int .i64 4))), (some (56, true))⟩,
     ⟨(some 60), .plain (.pick (.tmp 56) (.tmp 59) (.val (.bool false))), none⟩,
     ⟨(some 0), .plain (.mv (.tmp 60)), none⟩])
  (.ret))))))⟩
theorem ok8 : compFun Try.prog 8 = some fn8 := by kernel_rfl

/-- postrider/postriderbase.Among -/
def fn9 : AFun := ⟨13, [4], .seq (.ops [⟨(some 4), .plain (.mv (.val (.int .i64 0))), none⟩])
  (.seq (.seq (.ops [⟨(some 5), .plain (.mv (.tmp 1)), none⟩,
      ⟨(some 6), .plain (.bin .lss (.tmp 5) (.val (.int .i64 1))), none⟩])
   (.cond (.tmp 6) (.seq (.ops [⟨(some 4), .plain (.mv (.val (.int .i64 0))), none⟩])
    (.ret))
   (.skip)))
  (.seq (.ops [⟨(some 7), .plain (.mv (.tmp 0)), none⟩,
     ⟨(some 8), .plain (.conv .u64 (.tmp 7)), none⟩,
     ⟨(some 9), .plain (.mv (.tmp 1)), none⟩,
     ⟨(some 10), .plain (.conv .u64 (.tmp 9)), none⟩,
     ⟨(some 11), .plain (.bin .rem (.tmp 8) (.tmp 10)), none⟩,
     ⟨(some 12), .plain (.conv .i64 (.tmp 11)), none⟩,
     ⟨(some 4), .plain (.mv (.tmp 12)), none⟩])
  (.ret)))⟩
theorem ok9 : compFun Try.prog 9 = some fn9 := by kernel_rfl

/-- postrider/fence.Make -/
def fn10 : AFun := ⟨19, [2, 3], .seq (.ops [⟨(some 2), .plain (.mv (.val .nilp)), none⟩,
     ⟨(some 3), .plain (.mv (.val (.int .i64 0))), none⟩])
  (.seq (.ops [⟨(some 7), .plain (.mv (.tmp 0)), none⟩,
     ⟨(some 8), .call (.val (.func 39 [] [])) [(.tmp 7)], none⟩,
     ⟨(some 6), .plain (.mv (.tmp 8)), none⟩,
     ⟨(some 9), .plain (.extract (.tmp 6) 0), none⟩,
     ⟨(some 10), .plain (.extract (.tmp 6) 1), none⟩,
     ⟨(some 4), .plain (.mv (.tmp 9)), none⟩,
     ⟨(some 5), .plain (.mv (.tmp 10)), none⟩])
  (.seq (.seq (.ops [⟨(some 11), .plain (.mv (.tmp 5)), none⟩,
      ⟨(some 12), .plain (.bin .neq (.tmp 11) (.val (.int .i64 0))), none⟩])
   (.cond (.tmp 12) (.seq (.ops [⟨(some 13), .plain (.mv (.tmp 5)), none⟩,
       ⟨(some 2), .plain (.mv (.val .nilp)), none⟩,
       ⟨(some 3), .plain (.mv (.tmp 13)), none⟩])
    (.ret))
   (.skip)))
  (.seq (.ops [⟨(some 14), .plain (.mv (.tmp 4)), none⟩,
     ⟨(some 15), .plain (.mv (.tmp 0)), none⟩,
     ⟨(some 16), .plain (.build [.nilp, (.int .i64 0)] [(0, 1, (.tmp 14)), (1, 1, (.tmp 15))]), none⟩,
     ⟨(some 17), .plain (.box 41 (.tmp 16)), none⟩,
     ⟨(some 18), .plain (.mv (.tmp 5)), none⟩,
     ⟨(some 2), .plain (.mv (.tmp 17)), none⟩,
     ⟨(some 3), .plain (.mv (.tmp 18)), none⟩])
  (.ret))))⟩
theorem ok10 : compFun Try.prog 10 = some fn10 := by kernel_rfl

/-- (*postrider/fence.Track).Committed -/
def fn11 : AFun := ⟨11, [2], .seq (.ops [⟨(some 2), .plain (.mv (.val (.int .i64 0))), none⟩])
  (.seq (.seq (.ops [⟨(some 3), .plain (.mv (.tmp 0)), none⟩,
      ⟨(some 4), .call (.val (.func 40 [] [])) [(.tmp 3)], none⟩,
      ⟨(some 5), .plain (.not (.tmp 4)), none⟩])
   (.cond (.tmp 5) (.seq (.ops [⟨(some 2), .plain (.mv (.val (.int .i64 0))), none⟩])
    (.ret))
   (.skip)))
  (.seq (.ops [⟨(some 6), .plain (.mv (.tmp 0)), none⟩,
     ⟨(some 7), .plain (.nilCheck (.tmp 6)), none⟩,
     ⟨(some 8), .plain (.addOff 0 (.tmp 7)), none⟩,
     ⟨(some 9), .plain (.load1 (.tmp 8)), none⟩,
     ⟨(some 10), .call (.val (.func 28 [] [])) [(.tmp 9)], none⟩,
     ⟨(some 2), .plain (.mv (.tmp 10)), none⟩])
  (.ret)))⟩
theorem ok11 : compFun Try.prog 11 = some fn11 := by kernel_rfl

/-- (*postrider/fence.Track).Commit -/
def fn12 : AFun := ⟨35, [4], .seq (.ops [⟨(some 4), .plain (.mv (.val (.int .i64 0))), none⟩])
  (.seq (.block 0 (.seq (.ops [⟨(some 6), .plain (.mv (.tmp 0)), none⟩,
       ⟨(some 7), .call (.val (.func 40 [] [])) [(.tmp 6)], none⟩,
       ⟨(some 8), .plain (.not (.tmp 7)), none⟩,
       ⟨(some 5), .plain (.mv (.tmp 8)), none⟩])
    (.cond (.tmp 5) (.seq (.ops [⟨(some 4), .plain (.mv (.val (.int .i64 1))), none⟩])
     (.ret))
    (.seq (.ops [⟨(some 10), .plain (.mv (.tmp 1)), none⟩,
        ⟨(some 11), .call (.val (.func 41 [] [])) [(.tmp 10)], none⟩,
        ⟨(some 12), .plain (.not (.tmp 11)), none⟩,
        ⟨(some 9), .plain (.mv (.tmp 12)), none⟩])
     (.cond (.tmp 9) (.seq (.ops [⟨(some 4), .plain (.mv (.val (.int .i64 2))), none⟩])
      (.ret))
     (.seq (.ops [⟨(some 14), .plain (.mv (.tmp 1)), none⟩,
         ⟨(some 15), .plain (.mv (.tmp 0)), none⟩,
         ⟨(some 16), .plain (.nilCheck (.tmp 15)), none⟩,
         ⟨(some 17), .plain (.addOff 0 (.tmp 16)), none⟩,
         ⟨(some 18), .plain (.load1 (.tmp 17)), none⟩,
         ⟨(some 19), .call (.val (.func 28 [] [])) [(.tmp 18)], none⟩,
         ⟨(some 20), .plain (.bin .leq (.tmp 14) (.tmp 19)), none⟩,
         ⟨(some 21), .plain (.mv (.tmp 20)), none⟩,
         ⟨(some 22), .plain (.mv (.tmp 1)), (some (21, false))⟩,
         ⟨(some 23), .plain (.mv (.tmp 0)), (some (21, false))⟩,
         ⟨(some 24), .plain (.nilCheck (.tmp 23)), (some (21, false))⟩,
         ⟨(some 25), .plain (.addOff 1 (.tmp 24)), (some (21, false))⟩,
         ⟨(some 26), .plain (.load1 (.tmp 25)), (some (21, false))⟩,
         ⟨(some 27), .plain (.bin .gtr (.tmp 22) (.tmp 26)), (some (21, false))⟩,
         ⟨(some 28), .plain (.pick (.tmp 21) (.val (.bool true)) (.tmp 27)), none⟩,
         ⟨(some 13), .plain (.mv (.tmp 28)), none⟩])
      (.cond (.tmp 13) (.seq (.ops [⟨(some 4), .plain (.mv (.val (.int .i64 61))), none⟩])
       (.ret))
      (.skip))))))))
  (.seq (.ops [⟨(some 29), .plain (.mv (.tmp 0)), none⟩,
     ⟨(some 30), .plain (.nilCheck (.tmp 29)), none⟩,
     ⟨(some 31), .plain (.addOff 0 (.tmp 30)), none⟩,
     ⟨(some 32), .plain (.load1 (.tmp 31)), none⟩,
     ⟨(some 33), .plain (.mv (.tmp 1)), none⟩,
     ⟨(some 34), .call (.val (.func 42 [] [])) [(.tmp 32), (.tmp 33)], none⟩,
     ⟨(some 4), .plain (.mv (.tmp 34)), none⟩])
  (.ret)))⟩
theorem ok12 : compFun Try.prog 12 = some fn12 := by kernel_rfl

/-- postrider/postriderbase.HasInt -/
def fn13 : AFun := ⟨18, [4], .seq (.ops [⟨(some 4), .plain (.mv (.val (.bool false))), none⟩])
  (.seq (.seq (.ops [⟨(some 5), .plain (.mv (.val (.int .i64 0))), none⟩])
   (.block 0 (.loop (.seq (.seq (.ops [⟨(some 6), .plain (.mv (.tmp 5)), none⟩,
         ⟨(some 7), .plain (.mv (.tmp 0)), none⟩,
         ⟨(some 8), .plain (.lenS (.tmp 7)), none⟩,
         ⟨(some 9), .plain (.bin .lss (.tmp 6) (.tmp 8)), none⟩])
      (.cond (.tmp 9) (.skip)
      (.exit 0)))
     (.seq (.block 1 (.seq (.ops [⟨(some 12), .plain (.mv (.tmp 0)), none⟩,
          ⟨(some 13), .plain (.mv (.tmp 5)), none⟩,
          ⟨(some 14), .plain (.idxS 1 (.tmp 12) (.tmp 13)), none⟩,
          ⟨(some 15), .plain (.load1 (.tmp 14)), none⟩,
          ⟨(some 16), .plain (.mv (.tmp 1)), none⟩,
          ⟨(some 17), .plain (.bin .eql (.tmp 15) (.tmp 16)), none⟩])
       (.cond (.tmp 17) (.seq (.ops [⟨(some 4), .plain (.mv (.val (.bool true))), none⟩])
        (.ret))
       (.skip))))
     (.ops [⟨(some 10), .plain (.mv (.tmp 5)), none⟩,
       ⟨(some 11), .plain (.bin .add (.tmp 10) (.val (.int .i64 1))), none⟩,
       ⟨(some 5), .plain (.mv (.tmp 11)), none⟩]))))))
  (.seq (.ops [⟨(some 4), .plain (.mv (.val (.bool false))), none⟩])
  (.ret)))⟩
theorem ok13 : compFun Try.prog 13 = some fn13 := by kernel_rfl

/-- (*postrider/fence.Track).Seek -/
def fn14 : AFun := ⟨59, [8], .seq (.ops [⟨(some 8), .plain (.mv (.val (.int .i64 0))), none⟩])
  (.seq (.seq (.ops [⟨(some 11), .plain (.mv (.tmp 0)), none⟩,
      ⟨(some 12), .call (.val (.func 40 [] [])) [(.tmp 11)], none⟩,
      ⟨(some 13), .plain (.not (.tmp 12)), none⟩])
   (.cond (.tmp 13) (.seq (.ops [⟨(some 8), .plain (.mv (.val (.int .i64 1))), none⟩])
    (.ret))
   (.skip)))
  (.seq (.seq (.ops [⟨(some 14), .plain (.mv (.tmp 2)), none⟩,
      ⟨(some 15), .plain (.mv (.tmp 3)), none⟩,
      ⟨(some 16), .call (.val (.func 43 [] [])) [(.tmp 14), (.tmp 15)], none⟩,
      ⟨(some 9), .plain (.mv (.tmp 16)), none⟩])
   (.seq (.ops [⟨(some 17), .plain (.mv (.tmp 9)), none⟩,
      ⟨(some 18), .plain (.bin .neq (.tmp 17) (.val (.int .i64 0))), none⟩])
   (.cond (.tmp 18) (.seq (.ops [⟨(some 19), .plain (.mv (.tmp 9)), none⟩,
       ⟨(some 8), .plain (.mv (.tmp 19)), none⟩])
    (.ret))
   (.skip))))
  (.seq (.block 0 (.seq (.ops [⟨(some 21), .plain (.mv (.tmp 1)), none⟩,
       ⟨(some 22), .call (.val (.func 41 [] [])) [(.tmp 21)], none⟩,
       ⟨(some 23), .plain (.not (.tmp 22)), none⟩,
       ⟨(some 20), .plain (.mv (.tmp 23)), none⟩])
    (.cond (.tmp 20) (.seq (.ops [⟨(some 8), .plain (.mv (.val (.int .i64 2))), none⟩])
     (.ret))
    (.seq (.ops [⟨(some 25), .plain (.mv (.tmp 1)), none⟩,
        ⟨(some 26), .plain (.mv (.tmp 2)), none⟩,
        ⟨(some 27), .plain (.bin .lss (.tmp 25) (.tmp 26)), none⟩,
        ⟨(some 28), .plain (.mv (.tmp 27)), none⟩,
        ⟨(some 29), .plain (.mv (.tmp 1)), (some (28, false))⟩,
        ⟨(some 30), .plain (.mv (.tmp 3)), (some (28, false))⟩,
        ⟨(some 31), .plain (.bin .gtr (.tmp 29) (.tmp 30)), (some (28, false))⟩,
        ⟨(some 32), .plain (.pick (.tmp 28) (.val (.bool true)) (.tmp 31)), none⟩,
        ⟨(some 33), .plain (.mv (.tmp 32)), none⟩,
        ⟨(some 34), .plain (.mv (.tmp 1)), (some (33, false))⟩,
        ⟨(some 35), .plain (.mv (.tmp 0)), (some (33, false))⟩,
        ⟨(some 36), .plain (.nilCheck (.tmp 35)), (some (33, false))⟩,
        ⟨(some 37), .plain (.addOff 0 (.tmp 36)), (some (33, false))⟩,
        ⟨(some 38), .plain (.load1 (.tmp 37)), (some (33, false))⟩,
        ⟨(some 39), .call (.val (.func 28 [] [])) [(.tmp 38)], (some (33, false))⟩,
        ⟨(some 40), .plain (.bin .lss (.tmp 34) (.tmp 39)), (some (33, false))⟩,
        ⟨(some 41), .plain (.pick (.tmp 33) (.val (.bool true)) (.tmp 40)), none⟩,
        ⟨(some 24), .plain (.mv (.tmp 41)), none⟩])
     (.cond (.tmp 24) (.seq (.ops [⟨(some 8), .plain (.mv (.val (.int .i64 61))), none⟩])
      (.ret))
     (.seq (.ops [⟨(some 43), .plain (.mv (.tmp 1)), none⟩,
         ⟨(some 44), .plain (.mv (.tmp 0)), none⟩,
         ⟨(some 45), .plain (.nilCheck (.tmp 44)), none⟩,
         ⟨(some 46), .plain (.addOff 1 (.tmp 45)), none⟩,
         ⟨(some 47), .plain (.load1 (.tmp 46)), none⟩,
         ⟨(some 48), .plain (.bin .gtr (.tmp 43) (.tmp 47)), none⟩,
         ⟨(some 42), .plain (.mv (.tmp 48)), none⟩])
      (.cond (.tmp 42) (.seq (.ops [⟨(some 49), .plain (.mv (.tmp 0)), none⟩,
          ⟨(some 50), .plain (.mv (.tmp 1)), none⟩,
          ⟨(some 51), .call (.val (.func 44 [] [])) [(.tmp 49), (.tmp 50)], none⟩,
          ⟨(some 10), .plain (.mv (.tmp 51)), none⟩])
       (.seq (.ops [⟨(some 52), .plain (.mv (.tmp 10)), none⟩,
          ⟨(some 53), .plain (.bin .neq (.tmp 52) (.val (.int .i64 0))), none⟩])
       (.cond (.tmp 53) (.seq (.ops [⟨(some 54), .plain (.mv (.tmp 10)), none⟩,
           ⟨(some 8), .plain (.mv (.tmp 54)), none⟩])
        (.ret))
       (.skip))))
      (.skip))))))))
  (.seq (.ops [⟨(some 55), .plain (.mv (.tmp 0)), none⟩,
     ⟨(some 56), .plain (.mv (.tmp 1)), none⟩,
     ⟨(some 57), .plain (.nilCheck (.tmp 55)), none⟩,
     ⟨(some 58), .plain (.addOff 1 (.tmp 57)), none⟩,
     ⟨none, .plain (.store 1 (.tmp 58) (.tmp 56)), none⟩])
  (.seq (.ops [⟨(some 8), .plain (.mv (.val (.int .i64 0))), none⟩])
  (.ret))))))⟩
theorem ok14 : compFun Try.prog 14 = some fn14 := by kernel_rfl

/-- (*postrider/fence.Track).Next -/
def fn15 : AFun := ⟨10, [2], .seq (.ops [⟨(some 2), .plain (.mv (.val (.int .i64 0))), none⟩])
  (.seq (.seq (.ops [⟨(some 3), .plain (.mv (.tmp 0)), none⟩,
      ⟨(some 4), .call (.val (.func 40 [] [])) [(.tmp 3)], none⟩,
      ⟨(some 5), .plain (.not (.tmp 4)), none⟩])
   (.cond (.tmp 5) (.seq (.ops [⟨(some 2), .plain (.mv (.val (.int .i64 0))), none⟩])
    (.ret))
   (.skip)))
  (.seq (.ops [⟨(some 6), .plain (.mv (.tmp 0)), none⟩,
     ⟨(some 7), .plain (.nilCheck (.tmp 6)), none⟩,
     ⟨(some 8), .plain (.addOff 1 (.tmp 7)), none⟩,
     ⟨(some 9), .plain (.load1 (.tmp 8)), none⟩,
     ⟨(some 2), .plain (.mv (.tmp 9)), none⟩])
  (.ret)))⟩
theorem ok15 : compFun Try.prog 15 = some fn15 := by kernel_rfl

/-- (*postrider/fence.Track).Back -/
def fn16 : AFun := ⟨12, [], .seq (.ops [⟨(some 2), .plain (.mv (.tmp 0)), none⟩,
     ⟨(some 3), .call (.val (.func 40 [] [])) [(.tmp 2)], none⟩])
  (.cond (.tmp 3) (.ops [⟨(some 4), .plain (.mv (.tmp 0)), none⟩,
     ⟨(some 5), .plain (.mv (.tmp 0)), none⟩,
     ⟨(some 6), .plain (.nilCheck (.tmp 5)), none⟩,
     ⟨(some 7), .plain (.addOff 0 (.tmp 6)), none⟩,
     ⟨(some 8), .plain (.load1 (.tmp 7)), none⟩,
     ⟨(some 9), .call (.val (.func 28 [] [])) [(.tmp 8)], none⟩,
     ⟨(some 10), .plain (.nilCheck (.tmp 4)), none⟩,
     ⟨(some 11), .plain (.addOff 1 (.tmp 10)), none⟩,
     ⟨none, .plain (.store 1 (.tmp 11) (.tmp 9)), none⟩])
  (.skip))⟩
theorem ok16 : compFun Try.prog 16 = some fn16 := by kernel_rfl

/-- (*postrider/fence.Track).Deliver -/
def fn17 : AFun := ⟨40, [6, 7], .seq (.ops [⟨(some 6), .plain (.mv (.val (.int .i64 0))), none⟩,
     ⟨(some 7), .plain (.mv (.val (.int .i64 0))), none⟩])
  (.seq (.ops [⟨(some 11), .plain (.mv (.tmp 0)), none⟩,
     ⟨(some 12), .plain (.mv (.tmp 1)), none⟩,
     ⟨(some 13), .plain (.mv (.tmp 2)), none⟩,
     ⟨(some 14), .call (.val (.func 18 [] [])) [(.tmp 11), (.tmp 12), (.tmp 13)], none⟩,
     ⟨(some 10), .plain (.mv (.tmp 14)), none⟩,
     ⟨(some 15), .plain (.extract (.tmp 10) 0), none⟩,
     ⟨(some 16), .plain (.extract (.tmp 10) 1), none⟩,
     ⟨(some 8), .plain (.mv (.tmp 15)), none⟩,
     ⟨(some 9), .plain (.mv (.tmp 16)), none⟩])
  (.seq (.seq (.ops [⟨(some 17), .plain (.mv (.tmp 9)), none⟩,
      ⟨(some 18), .plain (.bin .eql (.tmp 17) (.val (.int .i64 0))), none⟩,
      ⟨(some 19), .plain (.mv (.tmp 18)), none⟩,
      ⟨(some 20), .plain (.mv (.tmp 8)), (some (19, true))⟩,
      ⟨(some 21), .plain (.mv (.tmp 0)), (some (19, true))⟩,
      ⟨(some 22), .plain (.nilCheck (.tmp 21)), (some (19, true))⟩,
      ⟨(some 23), .plain (.addOff 1 (.tmp 22)), (some (19, true))⟩,
      ⟨(some 24), .plain (.load1 (.tmp 23)), (some (19, true))⟩,
      ⟨(some 25), .plain (.bin .gtr (.tmp 20) (.tmp 24)), (some (19, true))⟩,
      ⟨(some 26), .plain (.pick (.tmp 19) (.tmp 25) (.val (.bool false))), none⟩])
   (.cond (.tmp 26) (.ops [⟨(some 27), .plain (.mv (.tmp 0)), none⟩,
      ⟨(some 28), .plain (.mv (.tmp 8)), none⟩,
      ⟨(some 29), .call (.val (.func 44 [] [])) [(.tmp 27), (.tmp 28)], none⟩,
      ⟨(some 9), .plain (.mv (.tmp 29)), none⟩])
   (.skip)))
  (.seq (.seq (.ops [⟨(some 30), .plain (.mv (.tmp 9)), none⟩,
      ⟨(some 31), .plain (.bin .neq (.tmp 30) (.val (.int .i64 0))), none⟩])
   (.cond (.tmp 31) (.seq (.ops [⟨(some 32), .plain (.mv (.tmp 9)), none⟩,
       ⟨(some 6), .plain (.mv (.val (.int .i64 0))), none⟩,
       ⟨(some 7), .plain (.mv (.tmp 32)), none⟩])
    (.ret))
   (.skip)))
  (.seq (.ops [⟨(some 33), .plain (.mv (.tmp 0)), none⟩,
     ⟨(some 34), .plain (.mv (.tmp 8)), none⟩,
     ⟨(some 35), .plain (.bin .add (.tmp 34) (.val (.int .i64 1))), none⟩,
     ⟨(some 36), .plain (.nilCheck (.tmp 33)), none⟩,
     ⟨(some 37), .plain (.addOff 1 (.tmp 36)), none⟩,
     ⟨none, .plain (.store 1 (.tmp 37) (.tmp 35)), none⟩])
  (.seq (.ops [⟨(some 38), .plain (.mv (.tmp 8)), none⟩,
     ⟨(some 39), .plain (.mv (.tmp 9)), none⟩,
     ⟨(some 6), .plain (.mv (.tmp 38)), none⟩,
     ⟨(some 7), .plain (.mv (.tmp 39)), none⟩])
  (.ret))))))⟩
theorem ok17 : compFun Try.prog 17 = some fn17 := by kernel_rfl

/-- (*postrider/fence.Track).Peek -/
def fn18 : AFun := ⟨29, [6, 7], .seq (.ops [⟨(some 6), .plain (.mv (.val (.int .i64 0))), none⟩,
     ⟨(some 7), .plain (.mv (.val (.int .i64 0))), none⟩])
  (.seq (.seq (.ops [⟨(some 10), .plain (.mv (.tmp 0)), none⟩,
      ⟨(some 11), .call (.val (.func 40 [] [])) [(.tmp 10)], none⟩,
      ⟨(some 12), .plain (.not (.tmp 11)), none⟩])
   (.cond (.tmp 12) (.seq (.ops [⟨(some 6), .plain (.mv (.val (.int .i64 0))), none⟩,
       ⟨(some 7), .plain (.mv (.val (.int .i64 1))), none⟩])
    (.ret))
   (.skip)))
  (.seq (.seq (.ops [⟨(some 13), .plain (.mv (.tmp 1)), none⟩,
      ⟨(some 14), .plain (.mv (.tmp 2)), none⟩,
      ⟨(some 15), .call (.val (.func 43 [] [])) [(.tmp 13), (.tmp 14)], none⟩,
      ⟨(some 8), .plain (.mv (.tmp 15)), none⟩])
   (.seq (.ops [⟨(some 16), .plain (.mv (.tmp 8)), none⟩,
      ⟨(some 17), .plain (.bin .neq (.tmp 16) (.val (.int .i64 0))), none⟩])
   (.cond (.tmp 17) (.seq (.ops [⟨(some 18), .plain (.mv (.tmp 8)), none⟩,
       ⟨(some 6), .plain (.mv (.val (.int .i64 0))), none⟩,
       ⟨(some 7), .plain (.mv (.tmp 18)), none⟩])
    (.ret))
   (.skip))))
  (.seq (.ops [⟨(some 19), .plain (.mv (.tmp 0)), none⟩,
     ⟨(some 20), .plain (.nilCheck (.tmp 19)), none⟩,
     ⟨(some 21), .plain (.addOff 1 (.tmp 20)), none⟩,
     ⟨(some 22), .plain (.load1 (.tmp 21)), none⟩,
     ⟨(some 23), .plain (.mv (.tmp 1)), none⟩,
     ⟨(some 24), .plain (.max (.tmp 22) (.tmp 23)), none⟩,
     ⟨(some 9), .plain (.mv (.tmp 24)), none⟩])
  (.seq (.seq (.ops [⟨(some 25), .plain (.mv (.tmp 9)), none⟩,
      ⟨(some 26), .plain (.mv (.tmp 2)), none⟩,
      ⟨(some 27), .plain (.bin .geq (.tmp 25) (.tmp 26)), none⟩])
   (.cond (.tmp 27) (.seq (.ops [⟨(some 6), .plain (.mv (.val (.int .i64 0))), none⟩,
       ⟨(some 7), .plain (.mv (.val (.int .i64 5))), none⟩])
    (.ret))
   (.skip)))
  (.seq (.ops [⟨(some 28), .plain (.mv (.tmp 9)), none⟩,
     ⟨(some 6), .plain (.mv (.tmp 28)), none⟩,
     ⟨(some 7), .plain (.mv (.val (.int .i64 0))), none⟩])
  (.ret))))))⟩
theorem ok18 : compFun Try.prog 18 = some fn18 := by kernel_rfl

/-- (*postrider/fence.Track).Ledger -/
def fn19 : AFun := ⟨11, [2], .seq (.ops [⟨(some 2), .plain (.mv (.val .nilp)), none⟩])
  (.seq (.seq (.ops [⟨(some 3), .plain (.mv (.tmp 0)), none⟩,
      ⟨(some 4), .call (.val (.func 40 [] [])) [(.tmp 3)], none⟩,
      ⟨(some 5), .plain (.not (.tmp 4)), none⟩])
   (.cond (.tmp 5) (.seq (.ops [⟨(some 2), .plain (.mv (.val .nilp)), none⟩])
    (.ret))
   (.skip)))
  (.seq (.ops [⟨(some 6), .plain (.mv (.tmp 0)), none⟩,
     ⟨(some 7), .plain (.nilCheck (.tmp 6)), none⟩,
     ⟨(some 8), .plain (.addOff 0 (.tmp 7)), none⟩,
     ⟨(some 9), .plain (.load1 (.tmp 8)), none⟩,
     ⟨(some 10), .call (.val (.func 45 [] [])) [(.tmp 9)], none⟩,
     ⟨(some 2), .plain (.mv (.tmp 10)), none⟩])
  (.ret)))⟩
theorem ok19 : compFun Try.prog 19 = some fn19 := by kernel_rfl

/-- postrider/postriderref18.Make -/
def fn20 : AFun := ⟨18, [2, 3], .seq (.ops [⟨(some 2), .plain (.mv (.val .nilp)), none⟩,
     ⟨(some 3), .plain (.mv (.val (.int .i64 0))), none⟩])
  (.seq (.ops [⟨(some 7), .plain (.mv (.tmp 0)), none⟩,
     ⟨(some 8), .call (.val (.func 46 [] [])) [(.tmp 7)], none⟩,
     ⟨(some 6), .plain (.mv (.tmp 8)), none⟩,
     ⟨(some 9), .plain (.extract (.tmp 6) 0), none⟩,
     ⟨(some 10), .plain (.extract (.tmp 6) 1), none⟩,
     ⟨(some 4), .plain (.mv (.tmp 9)), none⟩,
     ⟨(some 5), .plain (.mv (.tmp 10)), none⟩])
  (.seq (.seq (.ops [⟨(some 11), .plain (.mv (.tmp 5)), none⟩,
      ⟨(some 12), .plain (.bin .neq (.tmp 11) (.val (.int .i64 0))), none⟩])
   (.cond (.tmp 12) (.seq (.ops [⟨(some 13), .plain (.mv (.tmp 5)), none⟩,
       ⟨(some 2), .plain (.mv (.val .nilp)), none⟩,
       ⟨(some 3), .plain (.mv (.tmp 13)), none⟩])
    (.ret))
   (.skip)))
  (.seq (.ops [⟨(some 14), .plain (.mv (.tmp 4)), none⟩,
     ⟨(some 15), .plain (.mv (.tmp 0)), none⟩,
     ⟨(some 16), .plain (.build [.nilp, (.int .i64 0)] [(0, 1, (.tmp 14)), (1, 1, (.tmp 15))]), none⟩,
     ⟨(some 17), .plain (.box 49 (.tmp 16)), none⟩,
     ⟨(some 2), .plain (.mv (.tmp 17)), none⟩,
     ⟨(some 3), .plain (.mv (.val (.int .i64 0))), none⟩])
  (.ret))))⟩
theorem ok20 : compFun Try.prog 20 = some fn20 := by kernel_rfl

/-- (*postrider/postriderref14.Ledger).End -/
def fn21 : AFun := ⟨26, [2], .seq (.ops [⟨(some 2), .plain (.mv (.val (.int .i64 0))), none⟩])
  (.seq (.seq (.ops [⟨(some 3), .plain (.mv (.tmp 0)), none⟩,
      ⟨(some 4), .plain (.nilCheck (.tmp 3)), none⟩,
      ⟨(some 5), .plain (.addOff 1 (.tmp 4)), none⟩,
      ⟨(some 6), .plain (.load1 (.tmp 5)), none⟩,
      ⟨(some 7), .plain (.lenS (.tmp 6)), none⟩,
      ⟨(some 8), .plain (.bin .eql (.tmp 7) (.val (.int .i64 0))), none⟩])
   (.cond (.tmp 8) (.seq (.ops [⟨(some 9), .plain (.mv (.tmp 0)), none⟩,
       ⟨(some 10), .plain (.nilCheck (.tmp 9)), none⟩,
       ⟨(some 11), .plain (.addOff 0 (.tmp 10)), none⟩,
       ⟨(some 12), .plain (.load1 (.tmp 11)), none⟩,
       ⟨(some 2), .plain (.mv (.tmp 12)), none⟩])
    (.ret))
   (.skip)))
  (.seq (.dops [⟨0, ⟨(some 13), .plain (.mv (.tmp 0)), none⟩, []⟩,
     ⟨1, ⟨(some 14), .plain (.nilCheck (.tmp 13)), none⟩, []⟩,
     ⟨2, ⟨(some 15), .plain (.addOff 1 (.tmp 14)), none⟩, []⟩,
     ⟨3, ⟨(some 16), .plain (.load1 (.tmp 15)), none⟩, []⟩,
     ⟨4, ⟨(some 17), .plain (.mv (.tmp 0)), none⟩, []⟩,
     ⟨5, ⟨(some 18), .plain (.nilCheck (.tmp 17)), none⟩, []⟩,
     ⟨6, ⟨(some 19), .plain (.addOff 1 (.tmp 18)), none⟩, []⟩,
     ⟨7, ⟨(some 20), .plain (.load1 (.tmp 19)), none⟩, []⟩,
     ⟨8, ⟨(some 21), .plain (.lenS (.tmp 20)), none⟩, []⟩,
     ⟨9, ⟨(some 22), .plain (.bin .sub (.tmp 21) (.val (.int .i64 1))), none⟩, []⟩,
     ⟨10, ⟨(some 23), .plain (.idxS 2 (.tmp 16) (.tmp 22)), none⟩, []⟩,
     ⟨11, ⟨(some 24), .plain (.addOff 1 (.tmp 23)), none⟩, []⟩,
     ⟨12, ⟨(some 25), .plain (.load1 (.tmp 24)), none⟩, []⟩,
     ⟨13, ⟨(some 2), .plain (.mv (.tmp 25)), none⟩, []⟩])
  (.ret)))⟩
theorem ok21 : compFun Try.prog 21 = some fn21 := by kernel_rfl

/-- (*postrider/postriderref18.Track).Deliver -/
def fn22 : AFun := ⟨39, [6, 7], .seq (.ops [⟨(some 6), .plain (.mv (.val (.int .i64 0))), none⟩,
     ⟨(some 7), .plain (.mv (.val (.int .i64 0))), none⟩])
  (.seq (.ops [⟨(some 12), .plain (.mv (.tmp 0)), none⟩,
     ⟨(some 13), .plain (.mv (.tmp 1)), none⟩,
     ⟨(some 14), .plain (.mv (.tmp 2)), none⟩,
     ⟨(some 15), .call (.val (.func 25 [] [])) [(.tmp 12), (.tmp 13), (.tmp 14)], none⟩,
     ⟨(some 11), .plain (.mv (.tmp 15)), none⟩,
     ⟨(some 16), .plain (.extract (.tmp 11) 0), none⟩,
     ⟨(some 17), .plain (.extract (.tmp 11) 1), none⟩,
     ⟨(some 8), .plain (.mv (.tmp 16)), none⟩,
     ⟨(some 9), .plain (.mv (.tmp 17)), none⟩])
  (.seq (.seq (.ops [⟨(some 18), .plain (.mv (.tmp 9)), none⟩,
      ⟨(some 19), .plain (.bin .neq (.tmp 18) (.val (.int .i64 0))), none⟩])
   (.cond (.tmp 19) (.seq (.ops [⟨(some 20), .plain (.mv (.tmp 9)), none⟩,
       ⟨(some 6), .plain (.mv (.val (.int .i64 0))), none⟩,
       ⟨(some 7), .plain (.mv (.tmp 20)), none⟩])
    (.ret))
   (.skip)))
  (.seq (.seq (.ops [⟨(some 21), .plain (.mv (.tmp 0)), none⟩,
      ⟨(some 22), .plain (.nilCheck (.tmp 21)), none⟩,
      ⟨(some 23), .plain (.addOff 1 (.tmp 22)), none⟩,
      ⟨(some 24), .plain (.load1 (.tmp 23)), none⟩,
      ⟨(some 25), .plain (.mv (.tmp 1)), none⟩,
      ⟨(some 26), .plain (.bin .lss (.tmp 24) (.tmp 25)), none⟩])
   (.cond (.tmp 26) (.seq (.ops [⟨(some 27), .plain (.mv (.tmp 0)), none⟩,
       ⟨(some 28), .plain (.mv (.tmp 1)), none⟩,
       ⟨(some 29), .call (.val (.func 47 [] [])) [(.tmp 27), (.tmp 28)], none⟩,
       ⟨(some 10), .plain (.mv (.tmp 29)), none⟩])
    (.seq (.ops [⟨(some 30), .plain (.mv (.tmp 10)), none⟩,
       ⟨(some 31), .plain (.bin .neq (.tmp 30) (.val (.int .i64 0))), none⟩])
    (.cond (.tmp 31) (.seq (.ops [⟨(some 32), .plain (.mv (.tmp 10)), none⟩,
        ⟨(some 6), .plain (.mv (.val (.int .i64 0))), none⟩,
        ⟨(some 7), .plain (.mv (.tmp 32)), none⟩])
     (.ret))
    (.skip))))
   (.skip)))
  (.seq (.ops [⟨(some 33), .plain (.mv (.tmp 0)), none⟩,
     ⟨(some 34), .plain (.mv (.tmp 8)), none⟩,
     ⟨(some 35), .plain (.bin .add (.tmp 34) (.val (.int .i64 1))), none⟩,
     ⟨(some 36), .plain (.nilCheck (.tmp 33)), none⟩,
     ⟨(some 37), .plain (.addOff 1 (.tmp 36)), none⟩,
     ⟨none, .plain (.store 1 (.tmp 37) (.tmp 35)), none⟩])
  (.seq (.ops [⟨(some 38), .plain (.mv (.tmp 8)), none⟩,
     ⟨(some 6), .plain (.mv (.tmp 38)), none⟩,
     ⟨(some 7), .plain (.mv (.val (.int .i64 0))), none⟩])
  (.ret))))))⟩
theorem ok22 : compFun Try.prog 22 = some fn22 := by kernel_rfl

/-- (*postrider/postriderref18.Track).Commit -/
def fn23 : AFun := ⟨32, [4], .seq (.ops [⟨(some 4), .plain (.mv (.val (.int .i64 0))), none⟩])
  (.seq (.seq (.ops [⟨(some 5), .plain (.mv (.tmp 1)), none⟩,
      ⟨(some 6), .plain (.bin .lss (.tmp 5) (.val (.int .i64 0))), none⟩,
      ⟨(some 7), .plain (.mv (.tmp 6)), none⟩,
      ⟨(some 8), .plain (.mv (.tmp 1)), (some (7, false))⟩,
      ⟨(some 9), .plain (.bin .gtr (.tmp 8) (.val (.int .i64 1099511627776))), (some (7, false))⟩,
      ⟨(some 10), .plain (.pick (.tmp 7) (.val (.bool true)) (.tmp 9)), none⟩])
   (.cond (.tmp 10) (.seq (.ops [⟨(some 4), .plain (.mv (.val (.int .i64 2))), none⟩])
    (.ret))
   (.skip)))
  (.seq (.seq (.ops [⟨(some 11), .plain (.mv (.tmp 1)), none⟩,
      ⟨(some 12), .plain (.mv (.tmp 0)), none⟩,
      ⟨(some 13), .plain (.nilCheck (.tmp 12)), none⟩,
      ⟨(some 14), .plain (.addOff 0 (.tmp 13)), none⟩,
      ⟨(some 15), .plain (.load1 (.tmp 14)), none⟩,
      ⟨(some 16), .call (.val (.func 21 [] [])) [(.tmp 15)], none⟩,
      ⟨(some 17), .plain (.bin .leq (.tmp 11) (.tmp 16)), none⟩,
      ⟨(some 18), .plain (.mv (.tmp 17)), none⟩,
      ⟨(some 19), .plain (.mv (.tmp 1)), (some (18, false))⟩,
      ⟨(some 20), .plain (.mv (.tmp 0)), (some (18, false))⟩,
      ⟨(some 21), .plain (.nilCheck (.tmp 20)), (some (18, false))⟩,
      ⟨(some 22), .plain (.addOff 1 (.tmp 21)), (some (18, false))⟩,
      ⟨(some 23), .plain (.load1 (.tmp 22)), (some (18, false))⟩,
      ⟨(some 24), .plain (.bin .gtr (.tmp 19) (.tmp 23)), (some (18, false))⟩,
      ⟨(some 25), .plain (.pick (.tmp 18) (.val (.bool true)) (.tmp 24)), none⟩])
   (.cond (.tmp 25) (.seq (.ops [⟨(some 4), .plain (.mv (.val (.int .i64 61))), none⟩])
    (.ret))
   (.skip)))
  (.seq (.ops [⟨(some 26), .plain (.mv (.tmp 0)), none⟩,
     ⟨(some 27), .plain (.nilCheck (.tmp 26)), none⟩,
     ⟨(some 28), .plain (.addOff 0 (.tmp 27)), none⟩,
     ⟨(some 29), .plain (.load1 (.tmp 28)), none⟩,
     ⟨(some 30), .plain (.mv (.tmp 1)), none⟩,
     ⟨(some 31), .call (.val (.func 48 [] [])) [(.tmp 29), (.tmp 30), (.val (.bool true))], none⟩,
     ⟨(some 4), .plain (.mv (.tmp 31)), none⟩])
  (.ret))))⟩
theorem ok23 : compFun Try.prog 23 = some fn23 := by kernel_rfl

/-- (*postrider/postriderref18.Track).Seek -/
def fn24 : AFun := ⟨56, [8], .seq (.ops [⟨(some 8), .plain (.mv (.val (.int .i64 0))), none⟩])
  (.seq (.seq (.ops [⟨(some 11), .plain (.mv (.tmp 2)), none⟩,
      ⟨(some 12), .plain (.mv (.tmp 3)), none⟩,
      ⟨(some 13), .call (.val (.func 49 [] [])) [(.tmp 11), (.tmp 12)], none⟩,
      ⟨(some 9), .plain (.mv (.tmp 13)), none⟩])
   (.seq (.ops [⟨(some 14), .plain (.mv (.tmp 9)), none⟩,
      ⟨(some 15), .plain (.bin .neq (.tmp 14) (.val (.int .i64 0))), none⟩])
   (.cond (.tmp 15) (.seq (.ops [⟨(some 16), .plain (.mv (.tmp 9)), none⟩,
       ⟨(some 8), .plain (.mv (.tmp 16)), none⟩])
    (.ret))
   (.skip))))
  (.seq (.seq (.ops [⟨(some 17), .plain (.mv (.tmp 1)), none⟩,
      ⟨(some 18), .plain (.bin .lss (.tmp 17) (.val (.int .i64 0))), none⟩,
      ⟨(some 19), .plain (.mv (.tmp 18)), none⟩,
      ⟨(some 20), .plain (.mv (.tmp 1)), (some (19, false))⟩,
      ⟨(some 21), .plain (.bin .gtr (.tmp 20) (.val (.int .i64 1099511627776))), (some (19, false))⟩,
      ⟨(some 22), .plain (.pick (.tmp 19) (.val (.bool true)) (.tmp 21)), none⟩])
   (.cond (.tmp 22) (.seq (.ops [⟨(some 8), .plain (.mv (.val (.int .i64 2))), none⟩])
    (.ret))
   (.skip)))
  (.seq (.seq (.ops [⟨(some 23), .plain (.mv (.tmp 1)), none⟩,
      ⟨(some 24), .plain (.mv (.tmp 2)), none⟩,
      ⟨(some 25), .plain (.bin .lss (.tmp 23) (.tmp 24)), none⟩,
      ⟨(some 26), .plain (.mv (.tmp 25)), none⟩,
      ⟨(some 27), .plain (.mv (.tmp 1)), (some (26, false))⟩,
      ⟨(some 28), .plain (.mv (.tmp 3)), (some (26, false))⟩,
      ⟨(some 29), .plain (.bin .gtr (.tmp 27) (.tmp 28)), (some (26, false))⟩,
      ⟨(some 30), .plain (.pick (.tmp 26) (.val (.bool true)) (.tmp 29)), none⟩,
      ⟨(some 31), .plain (.mv (.tmp 30)), none⟩,
      ⟨(some 32), .plain (.mv (.tmp 1)), (some (31, false))⟩,
      ⟨(some 33), .plain (.mv (.tmp 0)), (some (31, false))⟩,
      ⟨(some 34), .plain (.nilCheck (.tmp 33)), (some (31, false))⟩,
      ⟨(some 35), .plain (.addOff 0 (.tmp 34)), (some (31, false))⟩,
      ⟨(some 36), .plain (.load1 (.tmp 35)), (some (31, false))⟩,
      ⟨(some 37), .call (.val (.func 21 [] [])) [(.tmp 36)], (some (31, false))⟩,
      ⟨(some 38), .plain (.bin .lss (.tmp 32) (.tmp 37)), (some (31, false))⟩,
      ⟨(some 39), .plain (.pick (.tmp 31) (.val (.bool true)) (.tmp 38)), none⟩])
   (.cond (.tmp 39) (.seq (.ops [⟨(some 8), .plain (.mv (.val (.int .i64 61))), none⟩])
    (.ret))
   (.skip)))
  (.seq (.seq (.ops [⟨(some 40), .plain (.mv (.tmp 1)), none⟩,
      ⟨(some 41), .plain (.mv (.tmp 0)), none⟩,
      ⟨(some 42), .plain (.nilCheck (.tmp 41)), none⟩,
      ⟨(some 43), .plain (.addOff 1 (.tmp 42)), none⟩,
      ⟨(some 44), .plain (.load1 (.tmp 43)), none⟩,
      ⟨(some 45), .plain (.bin .gtr (.tmp 40) (.tmp 44)), none⟩])
   (.cond (.tmp 45) (.seq (.ops [⟨(some 46), .plain (.mv (.tmp 0)), none⟩,
       ⟨(some 47), .plain (.mv (.tmp 1)), none⟩,
       ⟨(some 48), .call (.val (.func 47 [] [])) [(.tmp 46), (.tmp 47)], none⟩,
       ⟨(some 10), .plain (.mv (.tmp 48)), none⟩])
    (.seq (.ops [⟨(some 49), .plain (.mv (.tmp 10)), none⟩,
       ⟨(some 50), .plain (.bin .neq (.tmp 49) (.val (.int .i64 0))), none⟩])
    (.cond (.tmp 50) (.seq (.ops [⟨(some 51), .plain (.mv (.tmp 10)), none⟩,
        ⟨(some 8), .plain (.mv (.tmp 51)), none⟩])
     (.ret))
    (.skip))))
   (.skip)))
  (.seq (.ops [⟨(some 52), .plain (.mv (.tmp 0)), none⟩,
     ⟨(some 53), .plain (.mv (.tmp 1)), none⟩,
     ⟨(some 54), .plain (.nilCheck (.tmp 52)), none⟩,
     ⟨(some 55), .plain (.addOff 1 (.tmp 54)), none⟩,
     ⟨none, .plain (.store 1 (.tmp 55) (.tmp 53)), none⟩])
  (.seq (.ops [⟨(some 8), .plain (.mv (.val (.int .i64 0))), none⟩])
  (.ret)))))))⟩
theorem ok24 : compFun Try.prog 24 = some fn24 := by kernel_rfl

/-- (*postrider/postriderref18.Track).Peek -/
def fn25 : AFun := ⟨26, [6, 7], .seq (.ops [⟨(some 6), .plain (.mv (.val (.int .i64 0))), none⟩,
     ⟨(some 7), .plain (.mv (.val (.int .i64 0))), none⟩])
  (.seq (.seq (.ops [⟨(some 10), .plain (.mv (.tmp 1)), none⟩,
      ⟨(some 11), .plain (.mv (.tmp 2)), none⟩,
      ⟨(some 12), .call (.val (.func 49 [] [])) [(.tmp 10), (.tmp 11)], none⟩,
      ⟨(some 8), .plain (.mv (.tmp 12)), none⟩])
   (.seq (.ops [⟨(some 13), .plain (.mv (.tmp 8)), none⟩,
      ⟨(some 14), .plain (.bin .neq (.tmp 13) (.val (.int .i64 0))), none⟩])
   (.cond (.tmp 14) (.seq (.ops [⟨(some 15), .plain (.mv (.tmp 8)), none⟩,
       ⟨(some 6), .plain (.mv (.val (.int .i64 0))), none⟩,
       ⟨(some 7), .plain (.mv (.tmp 15)), none⟩])
    (.ret))
   (.skip))))
  (.seq (.ops [⟨(some 16), .plain (.mv (.tmp 0)), none⟩,
     ⟨(some 17), .plain (.nilCheck (.tmp 16)), none⟩,
     ⟨(some 18), .plain (.addOff 1 (.tmp 17)), none⟩,
     ⟨(some 19), .plain (.load1 (.tmp 18)), none⟩,
     ⟨(some 20), .plain (.mv (.tmp 1)), none⟩,
     ⟨(some 21), .plain (.max (.tmp 19) (.tmp 20)), none⟩,
     ⟨(some 9), .plain (.mv (.tmp 21)), none⟩])
  (.seq (.seq (.ops [⟨(some 22), .plain (.mv (.tmp 9)), none⟩,
      ⟨(some 23), .plain (.mv (.tmp 2)), none⟩,
      ⟨(some 24), .plain (.bin .geq (.tmp 22) (.tmp 23)), none⟩])
   (.cond (.tmp 24) (.seq (.ops [⟨(some 6), .plain (.mv (.val (.int .i64 0))), none⟩,
       ⟨(some 7), .plain (.mv (.val (.int .i64 5))), none⟩])
    (.ret))
   (.skip)))
  (.seq (.ops [⟨(some 25), .plain (.mv (.tmp 9)), none⟩,
     ⟨(some 6), .plain (.mv (.tmp 25)), none⟩,
     ⟨(some 7), .plain (.mv (.val (.int .i64 0))), none⟩])
  (.ret)))))⟩
theorem ok25 : compFun Try.prog 25 = some fn25 := by kernel_rfl

/-- postrider/postriderlaw18.same -/
def fn26 : AFun := ⟨61, [4], .seq (.ops [⟨(some 4), .plain (.mv (.val (.bool false))), none⟩])
  (.seq (.ops [⟨(some 6), .plain (.mv (.tmp 0)), none⟩,
     ⟨(some 7), .call (.val (.func 19 [] [])) [(.tmp 6)], none⟩,
     ⟨(some 5), .plain (.mv (.tmp 7)), none⟩])
  (.seq (.dops [⟨0, ⟨(some 8), .plain (.mv (.tmp 5)), none⟩, []⟩,
     ⟨1, ⟨(some 9), .plain (.eqn .ptr true (.tmp 8) (.val .nilp)), none⟩, []⟩,
     ⟨2, ⟨(some 10), .plain (.mv (.tmp 9)), none⟩, []⟩,
     ⟨3, ⟨(some 11), .plain (.mv (.tmp 0)), (some (10, true))⟩, []⟩,
     ⟨5, ⟨(some 13), .plain (.mv (.tmp 1)), (some (10, true))⟩, []⟩,
     ⟨6, ⟨(some 14), .plain (.nilCheck (.tmp 13)), (some (10, true))⟩, []⟩,
     ⟨7, ⟨(some 15), .plain (.addOff 1 (.tmp 14)), (some (10, true))⟩, []⟩,
     ⟨8, ⟨(some 16), .plain (.load1 (.tmp 15)), (some (10, true))⟩, []⟩,
     ⟨4, ⟨(some 12), .call (.val (.func 15 [] [])) [(.tmp 11)], (some (10, true))⟩, [8]⟩,
     ⟨9, ⟨(some 17), .plain (.bin .eql (.tmp 12) (.tmp 16)), (some (10, true))⟩, []⟩,
     ⟨10, ⟨(some 18), .plain (.pick (.tmp 10) (.tmp 17) (.val (.bool false))), none⟩, []⟩,
     ⟨11, ⟨(some 19), .plain (.mv (.tmp 18)), none⟩, []⟩,
     ⟨12, ⟨(some 20), .plain (.mv (.tmp 0)), (some (19, true))⟩, []⟩,
     ⟨14, ⟨(some 22), .plain (.mv (.tmp 1)), (some (19, true))⟩, []⟩,
     ⟨15, ⟨(some 23), .plain (.nilCheck (.tmp 22)), (some (19, true))⟩, []⟩,
     ⟨16, ⟨(some 24), .plain (.addOff 0 (.tmp 23)), (some (19, true))⟩, []⟩,
     ⟨17, ⟨(some 25), .plain (.load1 (.tmp 24)), (some (19, true))⟩, []⟩,
     ⟨13, ⟨(some 21), .call (.val (.func 11 [] [])) [(.tmp 20)], (some (19, true))⟩, [17]⟩,
     ⟨18, ⟨(some 26), .call (.val (.func 21 [] [])) [(.tmp 25)], (some (19, true))⟩, []⟩,
     ⟨19, ⟨(some 27), .plain (.bin .eql (.tmp 21) (.tmp 26)), (some (19, true))⟩, []⟩,
     ⟨20, ⟨(some 28), .plain (.pick (.tmp 19) (.tmp 27) (.val (.bool false))), none⟩, []⟩,
     ⟨21, ⟨(some 29), .plain (.mv (.tmp 28)), none⟩, []⟩,
     ⟨22, ⟨(some 30), .plain (.mv (.tmp 5)), (some (29, true))⟩, []⟩,
     ⟨24, ⟨(some 32), .plain (.mv (.tmp 1)), (some (29, true))⟩, []⟩,
     ⟨25, ⟨(some 33), .plain (.nilCheck (.tmp 32)), (some (29, true))⟩, []⟩,
     ⟨26, ⟨(some 34), .plain (.addOff 0 (.tmp 33)), (some (29, true))⟩, []⟩,
     ⟨27, ⟨(some 35), .plain (.load1 (.tmp 34)), (some (29, true))⟩, []⟩,
     ⟨28, ⟨(some 36), .plain (.nilCheck (.tmp 35)), (some (29, true))⟩, []⟩,
     ⟨29, ⟨(some 37), .plain (.addOff 0 (.tmp 36)), (some (29, true))⟩, []⟩,
     ⟨30, ⟨(some 38), .plain (.load1 (.tmp 37)), (some (29, true))⟩, []⟩,
     ⟨23, ⟨(some 31), .call (.val (.func 27 [] [])) [(.tmp 30)], (some (29, true))⟩, [27, 30]⟩,
     ⟨31, ⟨(some 39), .plain (.bin .eql (.tmp 31) (.tmp 38)), (some (29, true))⟩, []⟩,
     ⟨32, ⟨(some 40), .plain (.pick (.tmp 29) (.tmp 39) (.val (.bool false))), none⟩, []⟩,
     ⟨33, ⟨(some 41), .plain (.mv (.tmp 40)), none⟩, []⟩,
     ⟨34, ⟨(some 42), .plain (.mv (.tmp 5)), (some (41, true))⟩, []⟩,
     ⟨36, ⟨(some 44), .plain (.mv (.tmp 1)), (some (41, true))⟩, []⟩,
     ⟨37, ⟨(some 45), .plain (.nilCheck (.tmp 44)), (some (41, true))⟩, []⟩,
     ⟨38, ⟨(some 46), .plain (.addOff 0 (.tmp 45)), (some (41, true))⟩, []⟩,
     ⟨39, ⟨(some 47), .plain (.load1 (.tmp 46)), (some (41, true))⟩, []⟩,
     ⟨35, ⟨(some 43), .call (.val (.func 29 [] [])) [(.tmp 42)], (some (41, true))⟩, [39]⟩,
     ⟨40, ⟨(some 48), .call (.val (.func 51 [] [])) [(.tmp 47), (.val (.bool true))], (some (41, true))⟩, []⟩,
     ⟨41, ⟨(some 49), .call (.val (.func 50 [] [])) [(.tmp 43), (.tmp 48)], (some (41, true))⟩, []⟩,
     ⟨42, ⟨(some 50), .plain (.pick (.tmp 41) (.tmp 49) (.val (.bool false))), none⟩, []⟩,
     ⟨43, ⟨(some 51), .plain (.mv (.tmp 50)), none⟩, []⟩,
     ⟨44, ⟨(some 52), .plain (.mv (.tmp 5)), (some (51, true))⟩, []⟩,
     ⟨46, ⟨(some 54), .plain (.mv (.tmp 1)), (some (51, true))⟩, []⟩,
     ⟨47, ⟨(some 55), .plain (.nilCheck (.tmp 54)), (some (51, true))⟩, []⟩,
     ⟨48, ⟨(some 56), .plain (.addOff 0 (.tmp 55)), (some (51, true))⟩, []⟩,
     ⟨49, ⟨(some 57), .plain (.load1 (.tmp 56)), (some (51, true))⟩, []⟩,
     ⟨45, ⟨(some 53), .call (.val (.func 30 [] [])) [(.tmp 52)], (some (51, true))⟩, [49]⟩,
     ⟨50, ⟨(some 58), .call (.val (.func 51 [] [])) [(.tmp 57), (.val (.bool false))], (some (51, true))⟩, []⟩,
     ⟨51, ⟨(some 59), .call (.val (.func 50 [] [])) [(.tmp 53), (.tmp 58)], (some (51, true))⟩, []⟩,
     ⟨52, ⟨(some 60), .plain (.pick (.tmp 51) (.tmp 59) (.val (.bool false))), none⟩, []⟩,
     ⟨53, ⟨(some 4), .plain (.mv (.tmp 60)), none⟩, []⟩])
  (.ret)))⟩
theorem ok26 : compFun Try.prog 26 = some fn26 := by kernel_rfl

/-- (*postrider/ledger.Ledger).From -/
def fn27 : AFun := ⟨10, [2], .seq (.ops [⟨(some 2), .plain (.mv (.val (.int .i64 0))), none⟩])
  (.seq (.seq (.ops [⟨(some 3), .plain (.mv (.tmp 0)), none⟩,
      ⟨(some 4), .call (.val (.func 52 [] [])) [(.tmp 3)], none⟩,
      ⟨(some 5), .plain (.not (.tmp 4)), none⟩])
   (.cond (.tmp 5) (.seq (.ops [⟨(some 2), .plain (.mv (.val (.int .i64 0))), none⟩])
    (.ret))
   (.skip)))
  (.seq (.ops [⟨(some 6), .plain (.mv (.tmp 0)), none⟩,
     ⟨(some 7), .plain (.nilCheck (.tmp 6)), none⟩,
     ⟨(some 8), .plain (.addOff 0 (.tmp 7)), none⟩,
     ⟨(some 9), .plain (.load1 (.tmp 8)), none⟩,
     ⟨(some 2), .plain (.mv (.tmp 9)), none⟩])
  (.ret)))⟩
theorem ok27 : compFun Try.prog 27 = some fn27 := by kernel_rfl

/-- (*postrider/ledger.Ledger).End -/
def fn28 : AFun := ⟨30, [2], .seq (.ops [⟨(some 2), .plain (.mv (.val (.int .i64 0))), none⟩])
  (.seq (.seq (.ops [⟨(some 3), .plain (.mv (.tmp 0)), none⟩,
      ⟨(some 4), .call (.val (.func 52 [] [])) [(.tmp 3)], none⟩,
      ⟨(some 5), .plain (.not (.tmp 4)), none⟩,
      ⟨(some 6), .plain (.mv (.tmp 5)), none⟩,
      ⟨(some 7), .plain (.mv (.tmp 0)), (some (6, false))⟩,
      ⟨(some 8), .plain (.nilCheck (.tmp 7)), (some (6, false))⟩,
      ⟨(some 9), .plain (.addOff 1 (.tmp 8)), (some (6, false))⟩,
      ⟨(some 10), .plain (.load1 (.tmp 9)), (some (6, false))⟩,
      ⟨(some 11), .plain (.lenS (.tmp 10)), (some (6, false))⟩,
      ⟨(some 12), .plain (.bin .eql (.tmp 11) (.val (.int .i64 0))), (some (6, false))⟩,
      ⟨(some 13), .plain (.pick (.tmp 6) (.val (.bool true)) (.tmp 12)), none⟩])
   (.cond (.tmp 13) (.seq (.ops [⟨(some 14), .plain (.mv (.tmp 0)), none⟩,
       ⟨(some 15), .call (.val (.func 27 [] [])) [(.tmp 14)], none⟩,
       ⟨(some 2), .plain (.mv (.tmp 15)), none⟩])
    (.ret))
   (.skip)))
  (.seq (.dops [⟨0, ⟨(some 16), .plain (.mv (.tmp 0)), none⟩, []⟩,
     ⟨1, ⟨(some 17), .plain (.nilCheck (.tmp 16)), none⟩, []⟩,
     ⟨2, ⟨(some 18), .plain (.addOff 1 (.tmp 17)), none⟩, []⟩,
     ⟨3, ⟨(some 19), .plain (.load1 (.tmp 18)), none⟩, []⟩,
     ⟨4, ⟨(some 20), .plain (.mv (.tmp 0)), none⟩, []⟩,
     ⟨5, ⟨(some 21), .plain (.nilCheck (.tmp 20)), none⟩, []⟩,
     ⟨6, ⟨(some 22), .plain (.addOff 1 (.tmp 21)), none⟩, []⟩,
     ⟨7, ⟨(some 23), .plain (.load1 (.tmp 22)), none⟩, []⟩,
     ⟨8, ⟨(some 24), .plain (.lenS (.tmp 23)), none⟩, []⟩,
     ⟨9, ⟨(some 25), .plain (.bin .sub (.tmp 24) (.val (.int .i64 1))), none⟩, []⟩,
     ⟨10, ⟨(some 26), .plain (.idxS 3 (.tmp 19) (.tmp 25)), none⟩, []⟩,
     ⟨11, ⟨(some 27), .plain (.addOff 0 (.tmp 26)), none⟩, []⟩,
     ⟨12, ⟨(some 28), .plain (.addOff 1 (.tmp 27)), none⟩, []⟩,
     ⟨13, ⟨(some 29), .plain (.load1 (.tmp 28)), none⟩, []⟩,
     ⟨14, ⟨(some 2), .plain (.mv (.tmp 29)), none⟩, []⟩])
  (.ret)))⟩
theorem ok28 : compFun Try.prog 28 = some fn28 := by kernel_rfl

/-- (*postrider/ledger.Ledger).Accepted -/
def fn29 : AFun := ⟨5, [2], .seq (.ops [⟨(some 2), .plain (.mv (.val .nils)), none⟩])
  (.seq (.ops [⟨(some 3), .plain (.mv (.tmp 0)), none⟩,
     ⟨(some 4), .call (.val (.func 53 [] [])) [(.tmp 3), (.val (.bool true))], none⟩,
     ⟨(some 2), .plain (.mv (.tmp 4)), none⟩])
  (.ret))⟩
theorem ok29 : compFun Try.prog 29 = some fn29 := by kernel_rfl

/-- (*postrider/ledger.Ledger).Skipped -/
def fn30 : AFun := ⟨5, [2], .seq (.ops [⟨(some 2), .plain (.mv (.val .nils)), none⟩])
  (.seq (.ops [⟨(some 3), .plain (.mv (.tmp 0)), none⟩,
     ⟨(some 4), .call (.val (.func 53 [] [])) [(.tmp 3), (.val (.bool false))], none⟩,
     ⟨(some 2), .plain (.mv (.tmp 4)), none⟩])
  (.ret))⟩
theorem ok30 : compFun Try.prog 30 = some fn30 := by kernel_rfl

/-- postrider/rebal.Make -/
def fn31 : AFun := ⟨3, [0], .seq (.ops [⟨(some 0), .plain (.mv (.val .nilp)), none⟩])
  (.seq (.ops [⟨(some 1), .plain (.build [.nils, .nils, .nils, (.int .i64 0), (.bool false)] [(4, 1, (.val (.bool true)))]), none⟩,
     ⟨(some 2), .plain (.box 91 (.tmp 1)), none⟩,
     ⟨(some 0), .plain (.mv (.tmp 2)), none⟩])
  (.ret))⟩
theorem ok31 : compFun Try.prog 31 = some fn31 := by kernel_rfl

/-- postrider/postriderref17.Make -/
def fn32 : AFun := ⟨3, [0], .seq (.ops [⟨(some 0), .plain (.mv (.val .nilp)), none⟩])
  (.seq (.ops [⟨(some 1), .plain (.build [.nils, .nils, .nils, (.int .i64 0)] []), none⟩,
     ⟨(some 2), .plain (.box 70 (.tmp 1)), none⟩,
     ⟨(some 0), .plain (.mv (.tmp 2)), none⟩])
  (.ret))⟩
theorem ok32 : compFun Try.prog 32 = some fn32 := by kernel_rfl

/-- (*postrider/postriderref17.Table).Begin -/
def fn34 : AFun := ⟨97, [6, 7], .seq (.ops [⟨(some 6), .plain (.mv (.val (.bool false))), none⟩,
     ⟨(some 7), .plain (.mv (.val (.int .i64 0))), none⟩])
  (.seq (.ops [⟨(some 14), .plain (.buildSlice 94 3 [] 0 []), none⟩,
     ⟨(some 8), .plain (.mv (.tmp 14)), none⟩])
  (.seq (.seq (.ops [⟨(some 9), .plain (.mv (.val (.int .i64 0))), none⟩])
   (.block 0 (.loop (.seq (.seq (.ops [⟨(some 15), .plain (.mv (.tmp 9)), none⟩,
         ⟨(some 16), .plain (.mv (.tmp 1)), none⟩,
         ⟨(some 17), .plain (.lenS (.tmp 16)), none⟩,
         ⟨(some 18), .plain (.bin .lss (.tmp 15) (.tmp 17)), none⟩])
      (.cond (.tmp 18) (.skip)
      (.exit 0)))
     (.seq (.block 1 (.seq (.dops [⟨0, ⟨(some 21), .plain (.mv (.tmp 0)), none⟩, []⟩,
          ⟨1, ⟨(some 22), .plain (.nilCheck (.tmp 21)), none⟩, []⟩,
          ⟨2, ⟨(some 23), .plain (.addOff 0 (.tmp 22)), none⟩, []⟩,
          ⟨3, ⟨(some 24), .plain (.load1 (.tmp 23)), none⟩, []⟩,
          ⟨4, ⟨(some 25), .plain (.mv (.tmp 1)), none⟩, []⟩,
          ⟨5, ⟨(some 26), .plain (.mv (.tmp 9)), none⟩, []⟩,
          ⟨6, ⟨(some 27), .plain (.idxS 2 (.tmp 25) (.tmp 26)), none⟩, []⟩,
          ⟨7, ⟨(some 28), .plain (.loadN 2 (.tmp 27)), none⟩, []⟩,
          ⟨8, ⟨(some 29), .call (.val (.func 60 [] [])) [(.tmp 24), (.tmp 28)], none⟩, []⟩,
          ⟨9, ⟨(some 10), .plain (.mv (.tmp 29)), none⟩, []⟩])
       (.seq (.seq (.ops [⟨(some 30), .plain (.mv (.tmp 2)), none⟩,
           ⟨(some 31), .plain (.mv (.tmp 10)), none⟩,
           ⟨(some 32), .call (.val (.func 61 [] [])) [(.tmp 30), (.tmp 31)], none⟩,
           ⟨(some 33), .plain (.not (.tmp 32)), none⟩])
        (.cond (.tmp 33) (.ops [⟨(some 10), .plain (.mv (.val (.int .i64 (-1)))), none⟩])
        (.skip)))
       (.ops [⟨(some 34), .plain (.mv (.tmp 8)), none⟩,
         ⟨(some 35), .plain (.mv (.tmp 1)), none⟩,
         ⟨(some 36), .plain (.mv (.tmp 9)), none⟩,
         ⟨(some 37), .plain (.idxS 2 (.tmp 35) (.tmp 36)), none⟩,
         ⟨(some 38), .plain (.loadN 2 (.tmp 37)), none⟩,
         ⟨(some 39), .plain (.mv (.tmp 10)), none⟩,
         ⟨(some 40), .plain (.build [(.int .i64 0), (.int .i64 0), (.int .i64 0)] [(0, 2, (.tmp 38)), (2, 1, (.tmp 39))]), none⟩,
         ⟨(some 41), .plain (.buildSlice 94 3 [(.int .i64 0), (.int .i64 0), (.int .i64 0)] 1 [(0, 3, (.tmp 40))]), none⟩,
         ⟨(some 42), .plain (.append 94 3 24 (.tmp 34) (.tmp 41)), none⟩,
         ⟨(some 8), .plain (.mv (.tmp 42)), none⟩]))))
     (.ops [⟨(some 19), .plain (.mv (.tmp 9)), none⟩,
       ⟨(some 20), .plain (.bin .add (.tmp 19) (.val (.int .i64 1))), none⟩,
       ⟨(some 9), .plain (.mv (.tmp 20)), none⟩]))))))
  (.seq (.ops [⟨(some 44), .plain (.mv (.tmp 2)), none⟩,
     ⟨(some 45), .plain (.mv (.tmp 1)), none⟩,
     ⟨(some 46), .plain (.mv (.tmp 8)), none⟩,
     ⟨(some 47), .plain (.mv (.tmp 8)), none⟩,
     ⟨(some 48), .plain (.lenS (.tmp 47)), none⟩,
     ⟨(some 49), .plain (.min (.tmp 48) (.val (.int .i64 256))), none⟩,
     ⟨(some 50), .plain (.slice 3 (.tmp 46) none (some (.tmp 49))), none⟩,
     ⟨(some 51), .call (.val (.func 62 [] [])) [(.tmp 44), (.tmp 45), (.tmp 50)], none⟩,
     ⟨(some 43), .plain (.mv (.tmp 51)), none⟩,
     ⟨(some 52), .plain (.extract (.tmp 43) 0), none⟩,
     ⟨(some 53), .plain (.extract (.tmp 43) 1), none⟩,
     ⟨(some 11), .plain (.mv (.tmp 52)), none⟩,
     ⟨(some 12), .plain (.mv (.tmp 53)), none⟩])
  (.seq (.seq (.ops [⟨(some 54), .plain (.mv (.tmp 12)), none⟩,
      ⟨(some 55), .plain (.bin .neq (.tmp 54) (.val (.int .i64 0))), none⟩])
   (.cond (.tmp 55) (.seq (.ops [⟨(some 56), .plain (.mv (.tmp 12)), none⟩,
       ⟨(some 6), .plain (.mv (.val (.bool false))), none⟩,
       ⟨(some 7), .plain (.mv (.tmp 56)), none⟩])
    (.ret))
   (.skip)))
  (.seq (.ops [⟨(some 57), .plain (.mv (.tmp 0)), none⟩,
     ⟨(some 58), .plain (.mv (.tmp 0)), none⟩,
     ⟨(some 59), .plain (.mv (.tmp 8)), none⟩,
     ⟨(some 60), .plain (.mv (.tmp 11)), none⟩,
     ⟨(some 61), .plain (.nilCheck (.tmp 57)), none⟩,
     ⟨(some 62), .plain (.addOff 0 (.tmp 61)), none⟩,
     ⟨none, .plain (.store 1 (.tmp 62) (.tmp 59)), none⟩,
     ⟨(some 63), .plain (.nilCheck (.tmp 58)), none⟩,
     ⟨(some 64), .plain (.addOff 1 (.tmp 63)), none⟩,
     ⟨none, .plain (.store 1 (.tmp 64) (.tmp 60)), none⟩])
  (.seq (.ops [⟨(some 65), .plain (.mv (.tmp 0)), none⟩,
     ⟨(some 66), .plain (.nilCheck (.tmp 65)), none⟩,
     ⟨(some 67), .plain (.addOff 2 (.tmp 66)), none⟩,
     ⟨none, .plain (.store 1 (.tmp 67) (.val .nils)), none⟩])
  (.seq (.seq (.ops [⟨(some 13), .plain (.mv (.val (.int .i64 0))), none⟩])
   (.block 2 (.loop (.seq (.seq (.ops [⟨(some 68), .plain (.mv (.tmp 13)), none⟩,
         ⟨(some 69), .plain (.mv (.tmp 2)), none⟩,
         ⟨(some 70), .plain (.lenS (.tmp 69)), none⟩,
         ⟨(some 71), .plain (.bin .lss (.tmp 68) (.tmp 70)), none⟩])
      (.cond (.tmp 71) (.skip)
      (.exit 2)))
     (.seq (.block 3 (.seq (.ops [⟨(some 74), .plain (.mv (.tmp 0)), none⟩,
          ⟨(some 75), .plain (.mv (.tmp 2)), none⟩,
          ⟨(some 76), .plain (.mv (.tmp 13)), none⟩,
          ⟨(some 77), .plain (.idxS 1 (.tmp 75) (.tmp 76)), none⟩,
          ⟨(some 78), .plain (.load1 (.tmp 77)), none⟩,
          ⟨(some 79), .call (.val (.func 63 [] [])) [(.tmp 74), (.tmp 78)], none⟩,
          ⟨(some 80), .plain (.lenS (.tmp 79)), none⟩,
          ⟨(some 81), .plain (.bin .gtr (.tmp 80) (.val (.int .i64 0))), none⟩])
       (.cond (.tmp 81) (.dops [⟨0, ⟨(some 82), .plain (.mv (.tmp 0)), none⟩, []⟩,
          ⟨1, ⟨(some 83), .plain (.mv (.tmp 0)), none⟩, []⟩,
          ⟨2, ⟨(some 84), .plain (.nilCheck (.tmp 83)), none⟩, []⟩,
          ⟨3, ⟨(some 85), .plain (.addOff 2 (.tmp 84)), none⟩, []⟩,
          ⟨4, ⟨(some 86), .plain (.load1 (.tmp 85)), none⟩, []⟩,
          ⟨5, ⟨(some 87), .plain (.mv (.tmp 2)), none⟩, []⟩,
          ⟨6, ⟨(some 88), .plain (.mv (.tmp 13)), none⟩, []⟩,
          ⟨7, ⟨(some 89), .plain (.idxS 1 (.tmp 87) (.tmp 88)), none⟩, []⟩,
          ⟨8, ⟨(some 90), .plain (.load1 (.tmp 89)), none⟩, []⟩,
          ⟨9, ⟨(some 91), .plain (.buildSlice 3 1 [(.int .i64 0)] 1 [(0, 1, (.tmp 90))]), none⟩, []⟩,
          ⟨10, ⟨(some 92), .plain (.append 3 1 8 (.tmp 86) (.tmp 91)), none⟩, []⟩,
          ⟨11, ⟨(some 93), .plain (.nilCheck (.tmp 82)), none⟩, []⟩,
          ⟨12, ⟨(some 94), .plain (.addOff 2 (.tmp 93)), none⟩, []⟩,
          ⟨13, ⟨none, .plain (.store 1 (.tmp 94) (.tmp 92)), none⟩, []⟩])
       (.skip))))
     (.ops [⟨(some 72), .plain (.mv (.tmp 13)), none⟩,
       ⟨(some 73), .plain (.bin .add (.tmp 72) (.val (.int .i64 1))), none⟩,
       ⟨(some 13), .plain (.mv (.tmp 73)), none⟩]))))))
  (.seq (.ops [⟨(some 95), .plain (.mv (.tmp 0)), none⟩,
     ⟨(some 96), .call (.val (.func 64 [] [])) [(.tmp 95)], none⟩,
     ⟨(some 6), .plain (.mv (.tmp 96)), none⟩,
     ⟨(some 7), .plain (.mv (.val (.int .i64 0))), none⟩])
  (.ret)))))))))⟩
theorem ok34 : compFun Try.prog 34 = some fn34 := by kernel_rfl

/-- (*postrider/rebal.Table).Ack -/
def fn35 : AFun := ⟨43, [4, 5], .seq (.ops [⟨(some 2), .plain (.box 58 (.tmp 0)), none⟩,
     ⟨(some 4), .plain (.mv (.val (.bool false))), none⟩,
     ⟨(some 5), .plain (.mv (.val (.int .i64 0))), none⟩])
  (.seq (.seq (.ops [⟨(some 8), .plain (.load1 (.tmp 2)), none⟩,
      ⟨(some 9), .call (.val (.func 54 [] [])) [(.tmp 8)], none⟩,
      ⟨(some 10), .plain (.not (.tmp 9)), none⟩])
   (.cond (.tmp 10) (.seq (.ops [⟨(some 4), .plain (.mv (.val (.bool false))), none⟩,
       ⟨(some 5), .plain (.mv (.val (.int .i64 1))), none⟩])
    (.ret))
   (.skip)))
  (.seq (.ops [⟨(some 11), .plain (.load1 (.tmp 2)), none⟩,
     ⟨(some 12), .plain (.nilCheck (.tmp 11)), none⟩,
     ⟨(some 13), .plain (.addOff 2 (.tmp 12)), none⟩,
     ⟨(some 14), .plain (.load1 (.tmp 13)), none⟩,
     ⟨(some 15), .plain (.mv (.tmp 1)), none⟩,
     ⟨(some 16), .call (.val (.func 65 [] [])) [(.tmp 14), (.tmp 15)], none⟩,
     ⟨(some 6), .plain (.mv (.tmp 16)), none⟩])
  (.seq (.seq (.ops [⟨(some 17), .plain (.mv (.tmp 6)), none⟩,
      ⟨(some 18), .plain (.bin .lss (.tmp 17) (.val (.int .i64 0))), none⟩])
   (.cond (.tmp 18) (.seq (.ops [⟨(some 4), .plain (.mv (.val (.bool false))), none⟩,
       ⟨(some 5), .plain (.mv (.val (.int .i64 5))), none⟩])
    (.ret))
   (.skip)))
  (.seq (.dops [⟨0, ⟨(some 19), .plain (.load1 (.tmp 2)), none⟩, []⟩,
     ⟨1, ⟨(some 20), .plain (.load1 (.tmp 2)), none⟩, []⟩,
     ⟨2, ⟨(some 21), .plain (.nilCheck (.tmp 20)), none⟩, []⟩,
     ⟨3, ⟨(some 22), .plain (.addOff 2 (.tmp 21)), none⟩, []⟩,
     ⟨4, ⟨(some 23), .plain (.load1 (.tmp 22)), none⟩, []⟩,
     ⟨5, ⟨(some 24), .plain (.mv (.tmp 6)), none⟩, []⟩,
     ⟨6, ⟨(some 25), .plain (.mv (.tmp 6)), none⟩, []⟩,
     ⟨7, ⟨(some 26), .plain (.bin .add (.tmp 25) (.val (.int .i64 1))), none⟩, []⟩,
     ⟨8, ⟨(some 27), .call (.val (.func 66 [] [])) [(.tmp 23), (.tmp 24), (.tmp 26)], none⟩, [0]⟩,
     ⟨9, ⟨(some 28), .plain (.nilCheck (.tmp 19)), none⟩, []⟩,
     ⟨10, ⟨(some 29), .plain (.addOff 2 (.tmp 28)), none⟩, []⟩,
     ⟨11, ⟨none, .plain (.store 1 (.tmp 29) (.tmp 27)), none⟩, []⟩])
  (.seq (.seq (.ops [⟨(some 30), .plain (.load1 (.tmp 2)), none⟩,
      ⟨(some 31), .plain (.mv (.tmp 1)), none⟩,
      ⟨(some 32), .call (.val (.func 67 [] [])) [(.tmp 30), (.tmp 31)], none⟩])
   (.block 0 (.rfunc (.tmp 32) [33] (.ops [⟨(some 7), .plain (.mv (.tmp 33)), none⟩])
    (.block 1 (.ops [⟨(some 34), .plain (.load1 (.tmp 2)), none⟩,
        ⟨(some 35), .plain (.nilCheck (.tmp 34)), none⟩,
        ⟨(some 36), .plain (.addOff 0 (.tmp 35)), none⟩,
        ⟨(some 37), .plain (.load1 (.tmp 36)), none⟩,
        ⟨(some 38), .plain (.mv (.tmp 7)), none⟩,
        ⟨(some 39), .plain (.idxS 3 (.tmp 37) (.tmp 38)), none⟩,
        ⟨(some 40), .plain (.addOff 2 (.tmp 39)), none⟩,
        ⟨none, .plain (.store 1 (.tmp 40) (.val (.int .i64 (-1)))), none⟩])))))
  (.seq (.ops [⟨(some 41), .plain (.load1 (.tmp 2)), none⟩,
     ⟨(some 42), .call (.val (.func 59 [] [])) [(.tmp 41)], none⟩,
     ⟨(some 4), .plain (.mv (.tmp 42)), none⟩,
     ⟨(some 5), .plain (.mv (.val (.int .i64 0))), none⟩])
  (.ret)))))))⟩
theorem ok35 : compFun Try.prog 35 = some fn35 := by kernel_rfl

/-- (*postrider/postriderref17.Table).Ack -/
def fn36 : AFun := ⟨89, [4, 5], .seq (.ops [⟨(some 4), .plain (.mv (.val (.bool false))), none⟩,
     ⟨(some 5), .plain (.mv (.val (.int .i64 0))), none⟩])
  (.seq (.seq (.ops [⟨(some 9), .plain (.mv (.tmp 0)), none⟩,
      ⟨(some 10), .plain (.nilCheck (.tmp 9)), none⟩,
      ⟨(some 11), .plain (.addOff 2 (.tmp 10)), none⟩,
      ⟨(some 12), .plain (.load1 (.tmp 11)), none⟩,
      ⟨(some 13), .plain (.mv (.tmp 1)), none⟩,
      ⟨(some 14), .call (.val (.func 61 [] [])) [(.tmp 12), (.tmp 13)], none⟩,
      ⟨(some 15), .plain (.not (.tmp 14)), none⟩])
   (.cond (.tmp 15) (.seq (.ops [⟨(some 4), .plain (.mv (.val (.bool false))), none⟩,
       ⟨(some 5), .plain (.mv (.val (.int .i64 5))), none⟩])
    (.ret))
   (.skip)))
  (.seq (.ops [⟨(some 16), .plain (.buildSlice 3 1 [] 0 []), none⟩,
     ⟨(some 6), .plain (.mv (.tmp 16)), none⟩])
  (.seq (.seq (.ops [⟨(some 7), .plain (.mv (.val (.int .i64 0))), none⟩])
   (.block 0 (.loop (.seq (.seq (.ops [⟨(some 17), .plain (.mv (.tmp 7)), none⟩,
         ⟨(some 18), .plain (.mv (.tmp 0)), none⟩,
         ⟨(some 19), .plain (.nilCheck (.tmp 18)), none⟩,
         ⟨(some 20), .plain (.addOff 2 (.tmp 19)), none⟩,
         ⟨(some 21), .plain (.load1 (.tmp 20)), none⟩,
         ⟨(some 22), .plain (.lenS (.tmp 21)), none⟩,
         ⟨(some 23), .plain (.bin .lss (.tmp 17) (.tmp 22)), none⟩])
      (.cond (.tmp 23) (.skip)
      (.exit 0)))
     (.seq (.block 1 (.seq (.ops [⟨(some 26), .plain (.mv (.tmp 0)), none⟩,
          ⟨(some 27), .plain (.nilCheck (.tmp 26)), none⟩,
          ⟨(some 28), .plain (.addOff 2 (.tmp 27)), none⟩,
          ⟨(some 29), .plain (.load1 (.tmp 28)), none⟩,
          ⟨(some 30), .plain (.mv (.tmp 7)), none⟩,
          ⟨(some 31), .plain (.idxS 1 (.tmp 29) (.tmp 30)), none⟩,
          ⟨(some 32), .plain (.load1 (.tmp 31)), none⟩,
          ⟨(some 33), .plain (.mv (.tmp 1)), none⟩,
          ⟨(some 34), .plain (.bin .neq (.tmp 32) (.tmp 33)), none⟩])
       (.cond (.tmp 34) (.ops [⟨(some 35), .plain (.mv (.tmp 6)), none⟩,
          ⟨(some 36), .plain (.mv (.tmp 0)), none⟩,
          ⟨(some 37), .plain (.nilCheck (.tmp 36)), none⟩,
          ⟨(some 38), .plain (.addOff 2 (.tmp 37)), none⟩,
          ⟨(some 39), .plain (.load1 (.tmp 38)), none⟩,
          ⟨(some 40), .plain (.mv (.tmp 7)), none⟩,
          ⟨(some 41), .plain (.idxS 1 (.tmp 39) (.tmp 40)), none⟩,
          ⟨(some 42), .plain (.load1 (.tmp 41)), none⟩,
          ⟨(some 43), .plain (.buildSlice 3 1 [(.int .i64 0)] 1 [(0, 1, (.tmp 42))]), none⟩,
          ⟨(some 44), .plain (.append 3 1 8 (.tmp 35) (.tmp 43)), none⟩,
          ⟨(some 6), .plain (.mv (.tmp 44)), none⟩])
       (.skip))))
     (.ops [⟨(some 24), .plain (.mv (.tmp 7)), none⟩,
       ⟨(some 25), .plain (.bin .add (.tmp 24) (.val (.int .i64 1))), none⟩,
       ⟨(some 7), .plain (.mv (.tmp 25)), none⟩]))))))
  (.seq (.ops [⟨(some 45), .plain (.mv (.tmp 0)), none⟩,
     ⟨(some 46), .plain (.mv (.tmp 6)), none⟩,
     ⟨(some 47), .plain (.nilCheck (.tmp 45)), none⟩,
     ⟨(some 48), .plain (.addOff 2 (.tmp 47)), none⟩,
     ⟨none, .plain (.store 1 (.tmp 48) (.tmp 46)), none⟩])
  (.seq (.seq (.ops [⟨(some 8), .plain (.mv (.val (.int .i64 0))), none⟩])
   (.block 2 (.loop (.seq (.seq (.ops [⟨(some 49), .plain (.mv (.tmp 8)), none⟩,
         ⟨(some 50), .plain (.mv (.tmp 0)), none⟩,
         ⟨(some 51), .plain (.nilCheck (.tmp 50)), none⟩,
         ⟨(some 52), .plain (.addOff 0 (.tmp 51)), none⟩,
         ⟨(some 53), .plain (.load1 (.tmp 52)), none⟩,
         ⟨(some 54), .plain (.lenS (.tmp 53)), none⟩,
         ⟨(some 55), .plain (.bin .lss (.tmp 49) (.tmp 54)), none⟩])
      (.cond (.tmp 55) (.skip)
      (.exit 2)))
     (.seq (.block 3 (.seq (.ops [⟨(some 58), .plain (.mv (.tmp 0)), none⟩,
          ⟨(some 59), .plain (.nilCheck (.tmp 58)), none⟩,
          ⟨(some 60), .plain (.addOff 0 (.tmp 59)), none⟩,
          ⟨(some 61), .plain (.load1 (.tmp 60)), none⟩,
          ⟨(some 62), .plain (.mv (.tmp 8)), none⟩,
          ⟨(some 63), .plain (.idxS 3 (.tmp 61) (.tmp 62)), none⟩,
          ⟨(some 64), .plain (.addOff 2 (.tmp 63)), none⟩,
          ⟨(some 65), .plain (.load1 (.tmp 64)), none⟩,
          ⟨(some 66), .plain (.mv (.tmp 1)), none⟩,
          ⟨(some 67), .plain (.bin .eql (.tmp 65) (.tmp 66)), none⟩,
          ⟨(some 68), .plain (.mv (.tmp 67)), none⟩,
          ⟨(some 69), .plain (.mv (.tmp 0)), (some (68, true))⟩,
          ⟨(some 70), .plain (.nilCheck (.tmp 69)), (some (68, true))⟩,
          ⟨(some 71), .plain (.addOff 1 (.tmp 70)), (some (68, true))⟩,
          ⟨(some 72), .plain (.load1 (.tmp 71)), (some (68, true))⟩,
          ⟨(some 73), .plain (.mv (.tmp 8)), (some (68, true))⟩,
          ⟨(some 74), .plain (.idxS 3 (.tmp 72) (.tmp 73)), (some (68, true))⟩,
          ⟨(some 75), .plain (.addOff 2 (.tmp 74)), (some (68, true))⟩,
          ⟨(some 76), .plain (.load1 (.tmp 75)), (some (68, true))⟩,
          ⟨(some 77), .plain (.mv (.tmp 1)), (some (68, true))⟩,
          ⟨(some 78), .plain (.bin .neq (.tmp 76) (.tmp 77)), (some (68, true))⟩,
          ⟨(some 79), .plain (.pick (.tmp 68) (.tmp 78) (.val (.bool false))), none⟩])
       (.cond (.tmp 79) (.ops [⟨(some 80), .plain (.mv (.tmp 0)), none⟩,
          ⟨(some 81), .plain (.nilCheck (.tmp 80)), none⟩,
          ⟨(some 82), .plain (.addOff 0 (.tmp 81)), none⟩,
          ⟨(some 83), .plain (.load1 (.tmp 82)), none⟩,
          ⟨(some 84), .plain (.mv (.tmp 8)), none⟩,
          ⟨(some 85), .plain (.idxS 3 (.tmp 83) (.tmp 84)), none⟩,
          ⟨(some 86), .plain (.addOff 2 (.tmp 85)), none⟩,
          ⟨none, .plain (.store 1 (.tmp 86) (.val (.int .i64 (-1)))), none⟩])
       (.skip))))
     (.ops [⟨(some 56), .plain (.mv (.tmp 8)), none⟩,
       ⟨(some 57), .plain (.bin .add (.tmp 56) (.val (.int .i64 1))), none⟩,
       ⟨(some 8), .plain (.mv (.tmp 57)), none⟩]))))))
  (.seq (.ops [⟨(some 87), .plain (.mv (.tmp 0)), none⟩,
     ⟨(some 88), .call (.val (.func 64 [] [])) [(.tmp 87)], none⟩,
     ⟨(some 4), .plain (.mv (.tmp 88)), none⟩,
     ⟨(some 5), .plain (.mv (.val (.int .i64 0))), none⟩])
  (.ret)))))))⟩
theorem ok36 : compFun Try.prog 36 = some fn36 := by kernel_rfl

/-- postrider/fence.Judge -/
def fn37 : AFun := ⟨27, [8], .seq (.ops [⟨(some 7), .plain (.box 57 (.tmp 3)), none⟩,
     ⟨(some 8), .plain (.mv (.val (.int .i64 0))), none⟩])
  (.seq (.ops [⟨(some 10), .plain (.mv (.tmp 0)), none⟩,
     ⟨(some 11), .plain (.mv (.tmp 1)), none⟩,
     ⟨(some 12), .plain (.loadN 2 (.tmp 7)), none⟩,
     ⟨(some 13), .call (.val (.func 68 [] [])) [(.tmp 10), (.tmp 11), (.tmp 12)], none⟩,
     ⟨(some 9), .plain (.mv (.tmp 13)), none⟩])
  (.seq (.block 0 (.seq (.ops [⟨(some 15), .plain (.mv (.tmp 9)), none⟩,
       ⟨(some 16), .plain (.bin .eql (.tmp 15) (.val (.int .i64 1))), none⟩,
       ⟨(some 14), .plain (.mv (.tmp 16)), none⟩])
    (.cond (.tmp 14) (.seq (.ops [⟨(some 17), .plain (.mv (.tmp 9)), none⟩,
        ⟨(some 8), .plain (.mv (.tmp 17)), none⟩])
     (.ret))
    (.seq (.ops [⟨(some 19), .plain (.mv (.tmp 2)), none⟩,
        ⟨(some 20), .plain (.mv (.tmp 0)), none⟩,
        ⟨(some 21), .call (.val (.func 69 [] [])) [(.tmp 20)], none⟩,
        ⟨(some 22), .plain (.bin .neq (.tmp 19) (.tmp 21)), none⟩,
        ⟨(some 18), .plain (.mv (.tmp 22)), none⟩])
     (.cond (.tmp 18) (.seq (.ops [⟨(some 8), .plain (.mv (.val (.int .i64 180))), none⟩])
      (.ret))
     (.seq (.ops [⟨(some 24), .plain (.mv (.tmp 9)), none⟩,
         ⟨(some 25), .plain (.bin .eql (.tmp 24) (.val (.int .i64 170))), none⟩,
         ⟨(some 23), .plain (.mv (.tmp 25)), none⟩])
      (.cond (.tmp 23) (.seq (.ops [⟨(some 8), .plain (.mv (.val (.int .i64 0))), none⟩])
       (.ret))
      (.skip))))))))
  (.seq (.ops [⟨(some 26), .plain (.mv (.tmp 9)), none⟩,
     ⟨(some 8), .plain (.mv (.tmp 26)), none⟩])
  (.ret))))⟩
theorem ok37 : compFun Try.prog 37 = some fn37 := by kernel_rfl

/-- postrider/postriderref18.Judge -/
def fn38 : AFun := ⟨23, [8], .seq (.ops [⟨(some 7), .plain (.box 57 (.tmp 3)), none⟩,
     ⟨(some 8), .plain (.mv (.val (.int .i64 0))), none⟩])
  (.seq (.seq (.ops [⟨(some 10), .plain (.mv (.tmp 2)), none⟩,
      ⟨(some 11), .plain (.mv (.tmp 0)), none⟩,
      ⟨(some 12), .plain (.nilCheck (.tmp 11)), none⟩,
      ⟨(some 13), .plain (.addOff 3 (.tmp 12)), none⟩,
      ⟨(some 14), .plain (.load1 (.tmp 13)), none⟩,
      ⟨(some 15), .plain (.bin .neq (.tmp 10) (.tmp 14)), none⟩])
   (.cond (.tmp 15) (.seq (.ops [⟨(some 8), .plain (.mv (.val (.int .i64 180))), none⟩])
    (.ret))
   (.skip)))
  (.seq (.ops [⟨(some 16), .plain (.mv (.tmp 0)), none⟩,
     ⟨(some 17), .plain (.mv (.tmp 1)), none⟩,
     ⟨(some 18), .plain (.loadN 2 (.tmp 7)), none⟩,
     ⟨(some 19), .call (.val (.func 70 [] [])) [(.tmp 16), (.tmp 17), (.tmp 18)], none⟩,
     ⟨(some 9), .plain (.mv (.tmp 19)), none⟩])
  (.seq (.seq (.ops [⟨(some 20), .plain (.mv (.tmp 9)), none⟩,
      ⟨(some 21), .plain (.bin .eql (.tmp 20) (.val (.int .i64 170))), none⟩])
   (.cond (.tmp 21) (.seq (.ops [⟨(some 8), .plain (.mv (.val (.int .i64 0))), none⟩])
    (.ret))
   (.skip)))
  (.seq (.ops [⟨(some 22), .plain (.mv (.tmp 9)), none⟩,
     ⟨(some 8), .plain (.mv (.tmp 22)), none⟩])
  (.ret)))))⟩
theorem ok38 : compFun Try.prog 38 = some fn38 := by kernel_rfl

/-- postrider/ledger.Make -/
def fn39 : AFun := ⟨13, [2, 3], .seq (.ops [⟨(some 2), .plain (.mv (.val .nilp)), none⟩,
     ⟨(some 3), .plain (.mv (.val (.int .i64 0))), none⟩])
  (.seq (.seq (.ops [⟨(some 4), .plain (.mv (.tmp 0)), none⟩,
      ⟨(some 5), .plain (.bin .lss (.tmp 4) (.val (.int .i64 0))), none⟩,
      ⟨(some 6), .plain (.mv (.tmp 5)), none⟩,
      ⟨(some 7), .plain (.mv (.tmp 0)), (some (6, false))⟩,
      ⟨(some 8), .plain (.bin .gtr (.tmp 7) (.val (.int .i64 1099511627776))), (some (6, false))⟩,
      ⟨(some 9), .plain (.pick (.tmp 6) (.val (.bool true)) (.tmp 8)), none⟩])
   (.cond (.tmp 9) (.seq (.ops [⟨(some 2), .plain (.mv (.val .nilp)), none⟩,
       ⟨(some 3), .plain (.mv (.val (.int .i64 2))), none⟩])
    (.ret))
   (.skip)))
  (.seq (.ops [⟨(some 10), .plain (.mv (.tmp 0)), none⟩,
     ⟨(some 11), .plain (.build [(.int .i64 0), .nils, (.bool false)] [(0, 1, (.tmp 10)), (2, 1, (.val (.bool true)))]), none⟩,
     ⟨(some 12), .plain (.box 87 (.tmp 11)), none⟩,
     ⟨(some 2), .plain (.mv (.tmp 12)), none⟩,
     ⟨(some 3), .plain (.mv (.val (.int .i64 0))), none⟩])
  (.ret)))⟩
theorem ok39 : compFun Try.prog 39 = some fn39 := by kernel_rfl

/-- (*postrider/fence.Track).is -/
def fn40 : AFun := ⟨12, [2], .seq (.ops [⟨(some 2), .plain (.mv (.val (.bool false))), none⟩])
  (.seq (.ops [⟨(some 3), .plain (.mv (.tmp 0)), none⟩,
     ⟨(some 4), .plain (.eqn .ptr true (.tmp 3) (.val .nilp)), none⟩,
     ⟨(some 5), .plain (.mv (.tmp 4)), none⟩,
     ⟨(some 6), .plain (.mv (.tmp 0)), (some (5, true))⟩,
     ⟨(some 7), .plain (.nilCheck (.tmp 6)), (some (5, true))⟩,
     ⟨(some 8), .plain (.addOff 0 (.tmp 7)), (some (5, true))⟩,
     ⟨(some 9), .plain (.load1 (.tmp 8)), (some (5, true))⟩,
     ⟨(some 10), .plain (.eqn .ptr true (.tmp 9) (.val .nilp)), (some (5, true))⟩,
     ⟨(some 11), .plain (.pick (.tmp 5) (.tmp 10) (.val (.bool false))), none⟩,
     ⟨(some 2), .plain (.mv (.tmp 11)), none⟩])
  (.ret))⟩
theorem ok40 : compFun Try.prog 40 = some fn40 := by kernel_rfl

/-- postrider/fence.within -/
def fn41 : AFun := ⟨9, [2], .seq (.ops [⟨(some 2), .plain (.mv (.val (.bool false))), none⟩])
  (.seq (.ops [⟨(some 3), .plain (.mv (.tmp 0)), none⟩,
     ⟨(some 4), .plain (.bin .geq (.tmp 3) (.val (.int .i64 0))), none⟩,
     ⟨(some 5), .plain (.mv (.tmp 4)), none⟩,
     ⟨(some 6), .plain (.mv (.tmp 0)), (some (5, true))⟩,
     ⟨(some 7), .plain (.bin .leq (.tmp 6) (.val (.int .i64 1099511627776))), (some (5, true))⟩,
     ⟨(some 8), .plain (.pick (.tmp 5) (.tmp 7) (.val (.bool false))), none⟩,
     ⟨(some 2), .plain (.mv (.tmp 8)), none⟩])
  (.ret))⟩
theorem ok41 : compFun Try.prog 41 = some fn41 := by kernel_rfl

/-- (*postrider/ledger.Ledger).Accept -/
def fn42 : AFun := ⟨8, [4], .seq (.ops [⟨(some 4), .plain (.mv (.val (.int .i64 0))), none⟩])
  (.seq (.ops [⟨(some 5), .plain (.mv (.tmp 0)), none⟩,
     ⟨(some 6), .plain (.mv (.tmp 1)), none⟩,
     ⟨(some 7), .call (.val (.func 71 [] [])) [(.tmp 5), (.tmp 6), (.val (.bool true))], none⟩,
     ⟨(some 4), .plain (.mv (.tmp 7)), none⟩])
  (.ret))⟩
theorem ok42 : compFun Try.prog 42 = some fn42 := by kernel_rfl

/-- postrider/cursor.Check -/
def fn43 : AFun := ⟨16, [4], .seq (.ops [⟨(some 4), .plain (.mv (.val (.int .i64 0))), none⟩])
  (.seq (.seq (.ops [⟨(some 5), .plain (.mv (.tmp 0)), none⟩,
      ⟨(some 6), .plain (.bin .lss (.tmp 5) (.val (.int .i64 0))), none⟩,
      ⟨(some 7), .plain (.mv (.tmp 6)), none⟩,
      ⟨(some 8), .plain (.mv (.tmp 0)), (some (7, false))⟩,
      ⟨(some 9), .plain (.mv (.tmp 1)), (some (7, false))⟩,
      ⟨(some 10), .plain (.bin .gtr (.tmp 8) (.tmp 9)), (some (7, false))⟩,
      ⟨(some 11), .plain (.pick (.tmp 7) (.val (.bool true)) (.tmp 10)), none⟩,
      ⟨(some 12), .plain (.mv (.tmp 11)), none⟩,
      ⟨(some 13), .plain (.mv (.tmp 1)), (some (12, false))⟩,
      ⟨(some 14), .plain (.bin .gtr (.tmp 13) (.val (.int .i64 1099511627776))), (some (12, false))⟩,
      ⟨(some 15), .plain (.pick (.tmp 12) (.val (.bool true)) (.tmp 14)), none⟩])
   (.cond (.tmp 15) (.seq (.ops [⟨(some 4), .plain (.mv (.val (.int .i64 2))), none⟩])
    (.ret))
   (.skip)))
  (.seq (.ops [⟨(some 4), .plain (.mv (.val (.int .i64 0))), none⟩])
  (.ret)))⟩
theorem ok43 : compFun Try.prog 43 = some fn43 := by kernel_rfl

/-- (*postrider/fence.Track).pass -/
def fn44 : AFun := ⟨18, [4], .seq (.ops [⟨(some 4), .plain (.mv (.val (.int .i64 0))), none⟩])
  (.seq (.seq (.ops [⟨(some 5), .plain (.mv (.tmp 1)), none⟩,
      ⟨(some 6), .plain (.mv (.tmp 0)), none⟩,
      ⟨(some 7), .plain (.nilCheck (.tmp 6)), none⟩,
      ⟨(some 8), .plain (.addOff 0 (.tmp 7)), none⟩,
      ⟨(some 9), .plain (.load1 (.tmp 8)), none⟩,
      ⟨(some 10), .call (.val (.func 28 [] [])) [(.tmp 9)], none⟩,
      ⟨(some 11), .plain (.bin .leq (.tmp 5) (.tmp 10)), none⟩])
   (.cond (.tmp 11) (.seq (.ops [⟨(some 4), .plain (.mv (.val (.int .i64 0))), none⟩])
    (.ret))
   (.skip)))
  (.seq (.ops [⟨(some 12), .plain (.mv (.tmp 0)), none⟩,
     ⟨(some 13), .plain (.nilCheck (.tmp 12)), none⟩,
     ⟨(some 14), .plain (.addOff 0 (.tmp 13)), none⟩,
     ⟨(some 15), .plain (.load1 (.tmp 14)), none⟩,
     ⟨(some 16), .plain (.mv (.tmp 1)), none⟩,
     ⟨(some 17), .call (.val (.func 72 [] [])) [(.tmp 15), (.tmp 16)], none⟩,
     ⟨(some 4), .plain (.mv (.tmp 17)), none⟩])
  (.ret)))⟩
theorem ok44 : compFun Try.prog 44 = some fn44 := by kernel_rfl

/-- (*postrider/ledger.Ledger).Copy -/
def fn45 : AFun := ⟨17, [2], .seq (.ops [⟨(some 2), .plain (.mv (.val .nilp)), none⟩])
  (.seq (.seq (.ops [⟨(some 3), .plain (.mv (.tmp 0)), none⟩,
      ⟨(some 4), .call (.val (.func 52 [] [])) [(.tmp 3)], none⟩,
      ⟨(some 5), .plain (.not (.tmp 4)), none⟩])
   (.cond (.tmp 5) (.seq (.ops [⟨(some 2), .plain (.mv (.val .nilp)), none⟩])
    (.ret))
   (.skip)))
  (.seq (.dops [⟨0, ⟨(some 6), .plain (.mv (.tmp 0)), none⟩, []⟩,
     ⟨1, ⟨(some 7), .plain (.nilCheck (.tmp 6)), none⟩, []⟩,
     ⟨2, ⟨(some 8), .plain (.addOff 0 (.tmp 7)), none⟩, []⟩,
     ⟨3, ⟨(some 9), .plain (.load1 (.tmp 8)), none⟩, []⟩,
     ⟨4, ⟨(some 10), .plain (.mv (.tmp 0)), none⟩, []⟩,
     ⟨5, ⟨(some 11), .plain (.nilCheck (.tmp 10)), none⟩, []⟩,
     ⟨6, ⟨(some 12), .plain (.addOff 1 (.tmp 11)), none⟩, []⟩,
     ⟨7, ⟨(some 13), .plain (.load1 (.tmp 12)), none⟩, []⟩,
     ⟨8, ⟨(some 14), .call (.val (.func 73 [] [])) [(.tmp 13)], none⟩, [3]⟩,
     ⟨9, ⟨(some 15), .plain (.build [(.int .i64 0), .nils, (.bool false)] [(0, 1, (.tmp 9)), (1, 1, (.tmp 14)), (2, 1, (.val (.bool true)))]), none⟩, []⟩,
     ⟨10, ⟨(some 16), .plain (.box 87 (.tmp 15)), none⟩, []⟩,
     ⟨11, ⟨(some 2), .plain (.mv (.tmp 16)), none⟩, []⟩])
  (.ret)))⟩
theorem ok45 : compFun Try.prog 45 = some fn45 := by kernel_rfl

/-- postrider/postriderref14.Make -/
def fn46 : AFun := ⟨10, [2, 3], .seq (.ops [⟨(some 2), .plain (.mv (.val .nilp)), none⟩,
     ⟨(some 3), .plain (.mv (.val (.int .i64 0))), none⟩])
  (.seq (.seq (.ops [⟨(some 4), .plain (.mv (.tmp 0)), none⟩,
      ⟨(some 5), .call (.val (.func 74 [] [])) [(.tmp 4)], none⟩,
      ⟨(some 6), .plain (.not (.tmp 5)), none⟩])
   (.cond (.tmp 6) (.seq (.ops [⟨(some 2), .plain (.mv (.val .nilp)), none⟩,
       ⟨(some 3), .plain (.mv (.val (.int .i64 2))), none⟩])
    (.ret))
   (.skip)))
  (.seq (.ops [⟨(some 7), .plain (.mv (.tmp 0)), none⟩,
     ⟨(some 8), .plain (.build [(.int .i64 0), .nils, .nils] [(0, 1, (.tmp 7))]), none⟩,
     ⟨(some 9), .plain (.box 81 (.tmp 8)), none⟩,
     ⟨(some 2), .plain (.mv (.tmp 9)), none⟩,
     ⟨(some 3), .plain (.mv (.val (.int .i64 0))), none⟩])
  (.ret)))⟩
theorem ok46 : compFun Try.prog 46 = some fn46 := by kernel_rfl

/-- (*postrider/postriderref18.Track).skip -/
def fn47 : AFun := ⟨18, [4], .seq (.ops [⟨(some 4), .plain (.mv (.val (.int .i64 0))), none⟩])
  (.seq (.seq (.ops [⟨(some 5), .plain (.mv (.tmp 1)), none⟩,
      ⟨(some 6), .plain (.mv (.tmp 0)), none⟩,
      ⟨(some 7), .plain (.nilCheck (.tmp 6)), none⟩,
      ⟨(some 8), .plain (.addOff 0 (.tmp 7)), none⟩,
      ⟨(some 9), .plain (.load1 (.tmp 8)), none⟩,
      ⟨(some 10), .call (.val (.func 21 [] [])) [(.tmp 9)], none⟩,
      ⟨(some 11), .plain (.bin .leq (.tmp 5) (.tmp 10)), none⟩])
   (.cond (.tmp 11) (.seq (.ops [⟨(some 4), .plain (.mv (.val (.int .i64 0))), none⟩])
    (.ret))
   (.skip)))
  (.seq (.ops [⟨(some 12), .plain (.mv (.tmp 0)), none⟩,
     ⟨(some 13), .plain (.nilCheck (.tmp 12)), none⟩,
     ⟨(some 14), .plain (.addOff 0 (.tmp 13)), none⟩,
     ⟨(some 15), .plain (.load1 (.tmp 14)), none⟩,
     ⟨(some 16), .plain (.mv (.tmp 1)), none⟩,
     ⟨(some 17), .call (.val (.func 48 [] [])) [(.tmp 15), (.tmp 16), (.val (.bool false))], none⟩,
     ⟨(some 4), .plain (.mv (.tmp 17)), none⟩])
  (.ret)))⟩
theorem ok47 : compFun Try.prog 47 = some fn47 := by kernel_rfl

/-- (*postrider/postriderref14.Ledger).Add -/
def fn48 : AFun := ⟨70, [6], .seq (.ops [⟨(some 6), .plain (.mv (.val (.int .i64 0))), none⟩])
  (.seq (.ops [⟨(some 9), .plain (.mv (.tmp 0)), none⟩,
     ⟨(some 10), .call (.val (.func 21 [] [])) [(.tmp 9)], none⟩,
     ⟨(some 7), .plain (.mv (.tmp 10)), none⟩])
  (.seq (.seq (.ops [⟨(some 11), .plain (.mv (.tmp 1)), none⟩,
      ⟨(some 12), .plain (.mv (.tmp 7)), none⟩,
      ⟨(some 13), .plain (.bin .leq (.tmp 11) (.tmp 12)), none⟩,
      ⟨(some 14), .plain (.mv (.tmp 13)), none⟩,
      ⟨(some 15), .plain (.mv (.tmp 1)), (some (14, false))⟩,
      ⟨(some 16), .plain (.bin .gtr (.tmp 15) (.val (.int .i64 1099511627776))), (some (14, false))⟩,
      ⟨(some 17), .plain (.pick (.tmp 14) (.val (.bool true)) (.tmp 16)), none⟩])
   (.cond (.tmp 17) (.seq (.ops [⟨(some 6), .plain (.mv (.val (.int .i64 2))), none⟩])
    (.ret))
   (.skip)))
  (.seq (.ops [⟨(some 18), .plain (.mv (.tmp 0)), none⟩,
     ⟨(some 19), .plain (.nilCheck (.tmp 18)), none⟩,
     ⟨(some 20), .plain (.addOff 1 (.tmp 19)), none⟩,
     ⟨(some 21), .plain (.load1 (.tmp 20)), none⟩,
     ⟨(some 22), .plain (.lenS (.tmp 21)), none⟩,
     ⟨(some 8), .plain (.mv (.tmp 22)), none⟩])
  (.seq (.seq (.ops [⟨(some 23), .plain (.mv (.tmp 8)), none⟩,
      ⟨(some 24), .plain (.bin .gtr (.tmp 23) (.val (.int .i64 0))), none⟩,
      ⟨(some 25), .plain (.mv (.tmp 24)), none⟩,
      ⟨(some 26), .plain (.mv (.tmp 0)), (some (25, true))⟩,
      ⟨(some 27), .plain (.nilCheck (.tmp 26)), (some (25, true))⟩,
      ⟨(some 28), .plain (.addOff 2 (.tmp 27)), (some (25, true))⟩,
      ⟨(some 29), .plain (.load1 (.tmp 28)), (some (25, true))⟩,
      ⟨(some 30), .plain (.mv (.tmp 8)), (some (25, true))⟩,
      ⟨(some 31), .plain (.bin .sub (.tmp 30) (.val (.int .i64 1))), (some (25, true))⟩,
      ⟨(some 32), .plain (.idxS 1 (.tmp 29) (.tmp 31)), (some (25, true))⟩,
      ⟨(some 33), .plain (.load1 (.tmp 32)), (some (25, true))⟩,
      ⟨(some 34), .plain (.mv (.tmp 2)), (some (25, true))⟩,
      ⟨(some 35), .plain (.eqb false (.tmp 33) (.tmp 34)), (some (25, true))⟩,
      ⟨(some 36), .plain (.pick (.tmp 25) (.tmp 35) (.val (.bool false))), none⟩])
   (.cond (.tmp 36) (.seq (.ops [⟨(some 37), .plain (.mv (.tmp 0)), none⟩,
       ⟨(some 38), .plain (.nilCheck (.tmp 37)), none⟩,
       ⟨(some 39), .plain (.addOff 1 (.tmp 38)), none⟩,
       ⟨(some 40), .plain (.load1 (.tmp 39)), none⟩,
       ⟨(some 41), .plain (.mv (.tmp 8)), none⟩,
       ⟨(some 42), .plain (.bin .sub (.tmp 41) (.val (.int .i64 1))), none⟩,
       ⟨(some 43), .plain (.mv (.tmp 1)), none⟩,
       ⟨(some 44), .plain (.idxS 2 (.tmp 40) (.tmp 42)), none⟩,
       ⟨(some 45), .plain (.addOff 1 (.tmp 44)), none⟩,
       ⟨none, .plain (.store 1 (.tmp 45) (.tmp 43)), none⟩])
    (.seq (.ops [⟨(some 6), .plain (.mv (.val (.int .i64 0))), none⟩])
    (.ret)))
   (.skip)))
  (.seq (.seq (.ops [⟨(some 46), .plain (.mv (.tmp 8)), none⟩,
      ⟨(some 47), .plain (.bin .geq (.tmp 46) (.val (.int .i64 256))), none⟩])
   (.cond (.tmp 47) (.seq (.ops [⟨(some 6), .plain (.mv (.val (.int .i64 4))), none⟩])
    (.ret))
   (.skip)))
  (.seq (.ops [⟨(some 48), .plain (.mv (.tmp 0)), none⟩,
     ⟨(some 49), .plain (.mv (.tmp 0)), none⟩,
     ⟨(some 50), .plain (.nilCheck (.tmp 49)), none⟩,
     ⟨(some 51), .plain (.addOff 1 (.tmp 50)), none⟩,
     ⟨(some 52), .plain (.load1 (.tmp 51)), none⟩,
     ⟨(some 53), .plain (.mv (.tmp 7)), none⟩,
     ⟨(some 54), .plain (.mv (.tmp 1)), none⟩,
     ⟨(some 55), .plain (.build [(.int .i64 0), (.int .i64 0)] [(0, 1, (.tmp 53)), (1, 1, (.tmp 54))]), none⟩,
     ⟨(some 56), .plain (.buildSlice 54 2 [(.int .i64 0), (.int .i64 0)] 1 [(0, 2, (.tmp 55))]), none⟩,
     ⟨(some 57), .plain (.append 54 2 16 (.tmp 52) (.tmp 56)), none⟩,
     ⟨(some 58), .plain (.nilCheck (.tmp 48)), none⟩,
     ⟨(some 59), .plain (.addOff 1 (.tmp 58)), none⟩,
     ⟨none, .plain (.store 1 (.tmp 59) (.tmp 57)), none⟩])
  (.seq (.ops [⟨(some 60), .plain (.mv (.tmp 0)), none⟩,
     ⟨(some 61), .plain (.mv (.tmp 0)), none⟩,
     ⟨(some 62), .plain (.nilCheck (.tmp 61)), none⟩,
     ⟨(some 63), .plain (.addOff 2 (.tmp 62)), none⟩,
     ⟨(some 64), .plain (.load1 (.tmp 63)), none⟩,
     ⟨(some 65), .plain (.mv (.tmp 2)), none⟩,
     ⟨(some 66), .plain (.buildSlice 4 1 [(.bool false)] 1 [(0, 1, (.tmp 65))]), none⟩,
     ⟨(some 67), .plain (.append 4 1 1 (.tmp 64) (.tmp 66)), none⟩,
     ⟨(some 68), .plain (.nilCheck (.tmp 60)), none⟩,
     ⟨(some 69), .plain (.addOff 2 (.tmp 68)), none⟩,
     ⟨none, .plain (.store 1 (.tmp 69) (.tmp 67)), none⟩])
  (.seq (.ops [⟨(some 6), .plain (.mv (.val (.int .i64 0))), none⟩])
  (.ret)))))))))⟩
theorem ok48 : compFun Try.prog 48 = some fn48 := by kernel_rfl

/-- postrider/postriderref07.Check -/
def fn49 : AFun := ⟨16, [4], .seq (.ops [⟨(some 4), .plain (.mv (.val (.int .i64 0))), none⟩])
  (.seq (.seq (.ops [⟨(some 5), .plain (.mv (.tmp 0)), none⟩,
      ⟨(some 6), .plain (.bin .lss (.tmp 5) (.val (.int .i64 0))), none⟩,
      ⟨(some 7), .plain (.mv (.tmp 6)), none⟩,
      ⟨(some 8), .plain (.mv (.tmp 0)), (some (7, false))⟩,
      ⟨(some 9), .plain (.mv (.tmp 1)), (some (7, false))⟩,
      ⟨(some 10), .plain (.bin .gtr (.tmp 8) (.tmp 9)), (some (7, false))⟩,
      ⟨(some 11), .plain (.pick (.tmp 7) (.val (.bool true)) (.tmp 10)), none⟩,
      ⟨(some 12), .plain (.mv (.tmp 11)), none⟩,
      ⟨(some 13), .plain (.mv (.tmp 1)), (some (12, false))⟩,
      ⟨(some 14), .plain (.bin .gtr (.tmp 13) (.val (.int .i64 1099511627776))), (some (12, false))⟩,
      ⟨(some 15), .plain (.pick (.tmp 12) (.val (.bool true)) (.tmp 14)), none⟩])
   (.cond (.tmp 15) (.seq (.ops [⟨(some 4), .plain (.mv (.val (.int .i64 2))), none⟩])
    (.ret))
   (.skip)))
  (.seq (.ops [⟨(some 4), .plain (.mv (.val (.int .i64 0))), none⟩])
  (.ret)))⟩
theorem ok49 : compFun Try.prog 49 = some fn49 := by kernel_rfl

/-- (*postrider/postriderref14.Ledger).Of -/
def fn51 : AFun := ⟨37, [4], .seq (.ops [⟨(some 4), .plain (.mv (.val .nils)), none⟩])
  (.seq (.ops [⟨(some 7), .plain (.buildSlice 54 2 [] 0 []), none⟩,
     ⟨(some 5), .plain (.mv (.tmp 7)), none⟩])
  (.seq (.seq (.ops [⟨(some 6), .plain (.mv (.val (.int .i64 0))), none⟩])
   (.block 0 (.loop (.seq (.seq (.ops [⟨(some 8), .plain (.mv (.tmp 6)), none⟩,
         ⟨(some 9), .plain (.mv (.tmp 0)), none⟩,
         ⟨(some 10), .plain (.nilCheck (.tmp 9)), none⟩,
         ⟨(some 11), .plain (.addOff 1 (.tmp 10)), none⟩,
         ⟨(some 12), .plain (.load1 (.tmp 11)), none⟩,
         ⟨(some 13), .plain (.lenS (.tmp 12)), none⟩,
         ⟨(some 14), .plain (.bin .lss (.tmp 8) (.tmp 13)), none⟩])
      (.cond (.tmp 14) (.skip)
      (.exit 0)))
     (.seq (.block 1 (.seq (.ops [⟨(some 17), .plain (.mv (.tmp 0)), none⟩,
          ⟨(some 18), .plain (.nilCheck (.tmp 17)), none⟩,
          ⟨(some 19), .plain (.addOff 2 (.tmp 18)), none⟩,
          ⟨(some 20), .plain (.load1 (.tmp 19)), none⟩,
          ⟨(some 21), .plain (.mv (.tmp 6)), none⟩,
          ⟨(some 22), .plain (.idxS 1 (.tmp 20) (.tmp 21)), none⟩,
          ⟨(some 23), .plain (.load1 (.tmp 22)), none⟩,
          ⟨(some 24), .plain (.mv (.tmp 1)), none⟩,
          ⟨(some 25), .plain (.eqb false (.tmp 23) (.tmp 24)), none⟩])
       (.cond (.tmp 25) (.ops [⟨(some 26), .plain (.mv (.tmp 5)), none⟩,
          ⟨(some 27), .plain (.mv (.tmp 0)), none⟩,
          ⟨(some 28), .plain (.nilCheck (.tmp 27)), none⟩,
          ⟨(some 29), .plain (.addOff 1 (.tmp 28)), none⟩,
          ⟨(some 30), .plain (.load1 (.tmp 29)), none⟩,
          ⟨(some 31), .plain (.mv (.tmp 6)), none⟩,
          ⟨(some 32), .plain (.idxS 2 (.tmp 30) (.tmp 31)), none⟩,
          ⟨(some 33), .plain (.loadN 2 (.tmp 32)), none⟩,
          ⟨(some 34), .plain (.buildSlice 54 2 [(.int .i64 0), (.int .i64 0)] 1 [(0, 2, (.tmp 33))]), none⟩,
          ⟨(some 35), .plain (.append 54 2 16 (.tmp 26) (.tmp 34)), none⟩,
          ⟨(some 5), .plain (.mv (.tmp 35)), none⟩])
       (.skip))))
     (.ops [⟨(some 15), .plain (.mv (.tmp 6)), none⟩,
       ⟨(some 16), .plain (.bin .add (.tmp 15) (.val (.int .i64 1))), none⟩,
       ⟨(some 6), .plain (.mv (.tmp 16)), none⟩]))))))
  (.seq (.ops [⟨(some 36), .plain (.mv (.tmp 5)), none⟩,
     ⟨(some 4), .plain (.mv (.tmp 36)), none⟩])
  (.ret))))⟩
theorem ok51 : compFun Try.prog 51 = some fn51 := by kernel_rfl

/-- (*postrider/ledger.Ledger).is -/
def fn52 : AFun := ⟨11, [2], .seq (.ops [⟨(some 2), .plain (.mv (.val (.bool false))), none⟩])
  (.seq (.ops [⟨(some 3), .plain (.mv (.tmp 0)), none⟩,
     ⟨(some 4), .plain (.eqn .ptr true (.tmp 3) (.val .nilp)), none⟩,
     ⟨(some 5), .plain (.mv (.tmp 4)), none⟩,
     ⟨(some 6), .plain (.mv (.tmp 0)), (some (5, true))⟩,
     ⟨(some 7), .plain (.nilCheck (.tmp 6)), (some (5, true))⟩,
     ⟨(some 8), .plain (.addOff 2 (.tmp 7)), (some (5, true))⟩,
     ⟨(some 9), .plain (.load1 (.tmp 8)), (some (5, true))⟩,
     ⟨(some 10), .plain (.pick (.tmp 5) (.tmp 9) (.val (.bool false))), none⟩,
     ⟨(some 2), .plain (.mv (.tmp 10)), none⟩])
  (.ret))⟩
theorem ok52 : compFun Try.prog 52 = some fn52 := by kernel_rfl

/-- (*postrider/ledger.Ledger).spans -/
def fn53 : AFun := ⟨19, [4], .seq (.ops [⟨(some 4), .plain (.mv (.val .nils)), none⟩])
  (.seq (.seq (.ops [⟨(some 7), .plain (.mv (.tmp 0)), none⟩,
      ⟨(some 8), .call (.val (.func 52 [] [])) [(.tmp 7)], none⟩,
      ⟨(some 9), .plain (.not (.tmp 8)), none⟩])
   (.cond (.tmp 9) (.seq (.ops [⟨(some 4), .plain (.mv (.val .nils)), none⟩])
    (.ret))
   (.skip)))
  (.seq (.ops [⟨(some 5), .plain (.alloc 51 [.nils]), none⟩])
  (.seq (.seq (.ops [⟨(some 10), .plain (.mv (.tmp 0)), none⟩,
      ⟨(some 11), .plain (.mv (.tmp 1)), none⟩,
      ⟨(some 12), .call (.val (.func 75 [] [])) [(.tmp 10), (.tmp 11)], none⟩])
   (.block 0 (.rfunc (.tmp 12) [13] (.ops [⟨(some 6), .plain (.alloc 54 [(.int .i64 0), (.int .i64 0)]), none⟩,
       ⟨none, .plain (.store 2 (.tmp 6) (.tmp 13)), none⟩])
    (.block 1 (.ops [⟨(some 14), .plain (.load1 (.tmp 5)), none⟩,
        ⟨(some 15), .plain (.loadN 2 (.tmp 6)), none⟩,
        ⟨(some 16), .plain (.buildSlice 54 2 [(.int .i64 0), (.int .i64 0)] 1 [(0, 2, (.tmp 15))]), none⟩,
        ⟨(some 17), .plain (.append 54 2 16 (.tmp 14) (.tmp 16)), none⟩,
        ⟨none, .plain (.store 1 (.tmp 5) (.tmp 17)), none⟩])))))
  (.seq (.ops [⟨(some 18), .plain (.load1 (.tmp 5)), none⟩,
     ⟨(some 4), .plain (.mv (.tmp 18)), none⟩])
  (.ret)))))⟩
theorem ok53 : compFun Try.prog 53 = some fn53 := by kernel_rfl

/-- (*postrider/rebal.Table).is -/
def fn54 : AFun := ⟨11, [2], .seq (.ops [⟨(some 2), .plain (.mv (.val (.bool false))), none⟩])
  (.seq (.ops [⟨(some 3), .plain (.mv (.tmp 0)), none⟩,
     ⟨(some 4), .plain (.eqn .ptr true (.tmp 3) (.val .nilp)), none⟩,
     ⟨(some 5), .plain (.mv (.tmp 4)), none⟩,
     ⟨(some 6), .plain (.mv (.tmp 0)), (some (5, true))⟩,
     ⟨(some 7), .plain (.nilCheck (.tmp 6)), (some (5, true))⟩,
     ⟨(some 8), .plain (.addOff 4 (.tmp 7)), (some (5, true))⟩,
     ⟨(some 9), .plain (.load1 (.tmp 8)), (some (5, true))⟩,
     ⟨(some 10), .plain (.pick (.tmp 5) (.tmp 9) (.val (.bool false))), none⟩,
     ⟨(some 2), .plain (.mv (.tmp 10)), none⟩])
  (.ret))⟩
theorem ok54 : compFun Try.prog 54 = some fn54 := by kernel_rfl

/-- (*postrider/rebal.Table).owner -/
def fn55 : AFun := ⟨22, [4], .seq (.ops [⟨(some 3), .plain (.box 57 (.tmp 1)), none⟩,
     ⟨(some 4), .plain (.mv (.val (.int .i64 0))), none⟩])
  (.seq (.ops [⟨(some 6), .plain (.mv (.tmp 0)), none⟩,
     ⟨(some 7), .plain (.nilCheck (.tmp 6)), none⟩,
     ⟨(some 8), .plain (.addOff 0 (.tmp 7)), none⟩,
     ⟨(some 9), .plain (.load1 (.tmp 8)), none⟩,
     ⟨(some 10), .plain (.mkFunc 77 [] [(.tmp 3)]), none⟩,
     ⟨(some 11), .call (.val (.func 76 [] [])) [(.tmp 9), (.tmp 10)], none⟩,
     ⟨(some 5), .plain (.mv (.tmp 11)), none⟩])
  (.seq (.seq (.ops [⟨(some 12), .plain (.mv (.tmp 5)), none⟩,
      ⟨(some 13), .plain (.bin .lss (.tmp 12) (.val (.int .i64 0))), none⟩])
   (.cond (.tmp 13) (.seq (.ops [⟨(some 4), .plain (.mv (.val (.int .i64 (-1)))), none⟩])
    (.ret))
   (.skip)))
  (.seq (.ops [⟨(some 14), .plain (.mv (.tmp 0)), none⟩,
     ⟨(some 15), .plain (.nilCheck (.tmp 14)), none⟩,
     ⟨(some 16), .plain (.addOff 0 (.tmp 15)), none⟩,
     ⟨(some 17), .plain (.load1 (.tmp 16)), none⟩,
     ⟨(some 18), .plain (.mv (.tmp 5)), none⟩,
     ⟨(some 19), .plain (.idxS 3 (.tmp 17) (.tmp 18)), none⟩,
     ⟨(some 20), .plain (.addOff 2 (.tmp 19)), none⟩,
     ⟨(some 21), .plain (.load1 (.tmp 20)), none⟩,
     ⟨(some 4), .plain (.mv (.tmp 21)), none⟩])
  (.ret))))⟩
theorem ok55 : compFun Try.prog 55 = some fn55 := by kernel_rfl

/-- slices.Contains[[]int,int] -/
def fn56 : AFun := ⟨9, [4], .seq (.ops [⟨(some 4), .plain (.mv (.val (.bool false))), none⟩])
  (.seq (.ops [⟨(some 5), .plain (.mv (.tmp 0)), none⟩,
     ⟨(some 6), .plain (.mv (.tmp 1)), none⟩,
     ⟨(some 7), .call (.val (.func 65 [] [])) [(.tmp 5), (.tmp 6)], none⟩,
     ⟨(some 8), .plain (.bin .geq (.tmp 7) (.val (.int .i64 0))), none⟩,
     ⟨(some 4), .plain (.mv (.tmp 8)), none⟩])
  (.ret))⟩
theorem ok56 : compFun Try.prog 56 = some fn56 := by kernel_rfl

/-- (*postrider/rebal.Table).Revoked -/
def fn58 : AFun := ⟨26, [4], .seq (.ops [⟨(some 2), .plain (.box 58 (.tmp 0)), none⟩,
     ⟨(some 4), .plain (.mv (.val .nils)), none⟩])
  (.seq (.seq (.ops [⟨(some 7), .plain (.load1 (.tmp 2)), none⟩,
      ⟨(some 8), .call (.val (.func 54 [] [])) [(.tmp 7)], none⟩,
      ⟨(some 9), .plain (.not (.tmp 8)), none⟩])
   (.cond (.tmp 9) (.seq (.ops [⟨(some 4), .plain (.mv (.val .nils)), none⟩])
    (.ret))
   (.skip)))
  (.seq (.ops [⟨(some 5), .plain (.alloc 62 [.nils]), none⟩])
  (.seq (.seq (.ops [⟨(some 10), .plain (.load1 (.tmp 2)), none⟩,
      ⟨(some 11), .plain (.mv (.tmp 1)), none⟩,
      ⟨(some 12), .call (.val (.func 67 [] [])) [(.tmp 10), (.tmp 11)], none⟩])
   (.block 0 (.rfunc (.tmp 12) [13] (.ops [⟨(some 6), .plain (.mv (.tmp 13)), none⟩])
    (.block 1 (.dops [⟨0, ⟨(some 14), .plain (.load1 (.tmp 5)), none⟩, []⟩,
        ⟨1, ⟨(some 15), .plain (.load1 (.tmp 2)), none⟩, []⟩,
        ⟨2, ⟨(some 16), .plain (.nilCheck (.tmp 15)), none⟩, []⟩,
        ⟨3, ⟨(some 17), .plain (.addOff 0 (.tmp 16)), none⟩, []⟩,
        ⟨4, ⟨(some 18), .plain (.load1 (.tmp 17)), none⟩, []⟩,
        ⟨5, ⟨(some 19), .plain (.mv (.tmp 6)), none⟩, []⟩,
        ⟨6, ⟨(some 20), .plain (.idxS 3 (.tmp 18) (.tmp 19)), none⟩, []⟩,
        ⟨7, ⟨(some 21), .plain (.addOff 0 (.tmp 20)), none⟩, []⟩,
        ⟨8, ⟨(some 22), .plain (.loadN 2 (.tmp 21)), none⟩, []⟩,
        ⟨9, ⟨(some 23), .plain (.buildSlice 57 2 [(.int .i64 0), (.int .i64 0)] 1 [(0, 2, (.tmp 22))]), none⟩, []⟩,
        ⟨10, ⟨(some 24), .plain (.append 57 2 16 (.tmp 14) (.tmp 23)), none⟩, []⟩,
        ⟨11, ⟨none, .plain (.store 1 (.tmp 5) (.tmp 24)), none⟩, []⟩])))))
  (.seq (.ops [⟨(some 25), .plain (.load1 (.tmp 5)), none⟩,
     ⟨(some 4), .plain (.mv (.tmp 25)), none⟩])
  (.ret)))))⟩
theorem ok58 : compFun Try.prog 58 = some fn58 := by kernel_rfl

end Go.Proofs.Ytimonbmadmfhfaa
