/- The functions of the cut, compiled for the evaluator by a program of this claim; each is checked against the program. -/
import Derived.Test.YtimonbmadmfhfaaFn0
import Derived.Test.YtimonbmadmfhfaaProg
import Derived.KernelRfl
namespace Go.Proofs.Ytimonbmadmfhfaa
open Go.AL

/-- (*postrider/rebal.Table).settle -/
def fn59 : AFun := ⟨24, [2], .seq (.ops [⟨(some 2), .plain (.mv (.val (.bool false))), none⟩])
  (.seq (.seq (.ops [⟨(some 3), .plain (.mv (.tmp 0)), none⟩,
      ⟨(some 4), .plain (.nilCheck (.tmp 3)), none⟩,
      ⟨(some 5), .plain (.addOff 2 (.tmp 4)), none⟩,
      ⟨(some 6), .plain (.load1 (.tmp 5)), none⟩,
      ⟨(some 7), .plain (.lenS (.tmp 6)), none⟩,
      ⟨(some 8), .plain (.bin .gtr (.tmp 7) (.val (.int .i64 0))), none⟩])
   (.cond (.tmp 8) (.seq (.ops [⟨(some 2), .plain (.mv (.val (.bool false))), none⟩])
    (.ret))
   (.skip)))
  (.seq (.ops [⟨(some 9), .plain (.mv (.tmp 0)), none⟩,
     ⟨(some 10), .plain (.mv (.tmp 0)), none⟩,
     ⟨(some 11), .plain (.nilCheck (.tmp 10)), none⟩,
     ⟨(some 12), .plain (.addOff 1 (.tmp 11)), none⟩,
     ⟨(some 13), .plain (.load1 (.tmp 12)), none⟩,
     ⟨(some 14), .call (.val (.func 82 [] [])) [(.tmp 13)], none⟩,
     ⟨(some 15), .plain (.nilCheck (.tmp 9)), none⟩,
     ⟨(some 16), .plain (.addOff 0 (.tmp 15)), none⟩,
     ⟨none, .plain (.store 1 (.tmp 16) (.tmp 14)), none⟩])
  (.seq (.ops [⟨(some 17), .plain (.mv (.tmp 0)), none⟩,
     ⟨(some 18), .plain (.nilCheck (.tmp 17)), none⟩,
     ⟨(some 19), .plain (.addOff 3 (.tmp 18)), none⟩,
     ⟨(some 20), .plain (.load1 (.tmp 19)), none⟩,
     ⟨(some 21), .plain (.bin .add (.tmp 20) (.val (.int .i64 1))), none⟩,
     ⟨(some 22), .plain (.nilCheck (.tmp 17)), none⟩,
     ⟨(some 23), .plain (.addOff 3 (.tmp 22)), none⟩,
     ⟨none, .plain (.store 1 (.tmp 23) (.tmp 21)), none⟩])
  (.seq (.ops [⟨(some 2), .plain (.mv (.val (.bool true))), none⟩])
  (.ret)))))⟩
theorem ok59 : compFun Try.prog 59 = some fn59 := by kernel_rfl

/-- postrider/postriderref17.in -/
def fn61 : AFun := ⟨18, [4], .seq (.ops [⟨(some 4), .plain (.mv (.val (.bool false))), none⟩])
  (.seq (.seq (.ops [⟨(some 5), .plain (.mv (.val (.int .i64 0))), none⟩])
   (.block 0 (.loop (.seq (.seq (.ops [⟨(some 6), .plain (.mv (.tmp 5)), none⟩,
         ⟨(some 7), .plain (.mv (.tmp 0)), none⟩,
         ⟨(some 8), .plain (.lenS (.tmp 7)), none⟩,
         ⟨(some 9), .plain (.bin .lss (.tmp 6) (.tmp 8)), none⟩])
      (.cond (.tmp 9) (.skip)
      (.exit 0)))
     (.seq (.block 1 (.seq (.ops [⟨(some 12), .plain (.mv (.tmp 0)), none⟩,
          ⟨(some 13), .plain (.mv (.tmp 5)), none⟩,
          ⟨(some 14), .plain (.idxS 1 (.tmp 12) (.tmp 13)), none⟩,
          ⟨(some 15), .plain (.load1 (.tmp 14)), none⟩,
          ⟨(some 16), .plain (.mv (.tmp 1)), none⟩,
          ⟨(some 17), .plain (.bin .eql (.tmp 15) (.tmp 16)), none⟩])
       (.cond (.tmp 17) (.seq (.ops [⟨(some 4), .plain (.mv (.val (.bool true))), none⟩])
        (.ret))
       (.skip))))
     (.ops [⟨(some 10), .plain (.mv (.tmp 5)), none⟩,
       ⟨(some 11), .plain (.bin .add (.tmp 10) (.val (.int .i64 1))), none⟩,
       ⟨(some 5), .plain (.mv (.tmp 11)), none⟩]))))))
  (.seq (.ops [⟨(some 4), .plain (.mv (.val (.bool false))), none⟩])
  (.ret)))⟩
theorem ok61 : compFun Try.prog 61 = some fn61 := by kernel_rfl

/-- postrider/postriderref16.Assign -/
def fn62 : AFun := ⟨235, [6, 7], .seq (.ops [⟨(some 6), .plain (.mv (.val .nils)), none⟩,
     ⟨(some 7), .plain (.mv (.val (.int .i64 0))), none⟩])
  (.seq (.seq (.ops [⟨(some 23), .plain (.mv (.tmp 1)), none⟩,
      ⟨(some 24), .plain (.lenS (.tmp 23)), none⟩,
      ⟨(some 25), .plain (.bin .gtr (.tmp 24) (.val (.int .i64 256))), none⟩,
      ⟨(some 26), .plain (.mv (.tmp 25)), none⟩,
      ⟨(some 27), .plain (.mv (.tmp 2)), (some (26, false))⟩,
      ⟨(some 28), .plain (.lenS (.tmp 27)), (some (26, false))⟩,
      ⟨(some 29), .plain (.bin .gtr (.tmp 28) (.val (.int .i64 256))), (some (26, false))⟩,
      ⟨(some 30), .plain (.pick (.tmp 26) (.val (.bool true)) (.tmp 29)), none⟩])
   (.cond (.tmp 30) (.seq (.ops [⟨(some 6), .plain (.mv (.val .nils)), none⟩,
       ⟨(some 7), .plain (.mv (.val (.int .i64 3))), none⟩])
    (.ret))
   (.skip)))
  (.seq (.seq (.ops [⟨(some 31), .plain (.mv (.tmp 0)), none⟩,
      ⟨(some 32), .plain (.mv (.tmp 1)), none⟩,
      ⟨(some 33), .call (.val (.func 83 [] [])) [(.tmp 31), (.tmp 32)], none⟩,
      ⟨(some 34), .plain (.not (.tmp 33)), none⟩])
   (.cond (.tmp 34) (.seq (.ops [⟨(some 6), .plain (.mv (.val .nils)), none⟩,
       ⟨(some 7), .plain (.mv (.val (.int .i64 2))), none⟩])
    (.ret))
   (.skip)))
  (.seq (.ops [⟨(some 35), .plain (.mv (.tmp 0)), none⟩,
     ⟨(some 36), .plain (.lenS (.tmp 35)), none⟩,
     ⟨(some 8), .plain (.mv (.tmp 36)), none⟩])
  (.seq (.ops [⟨(some 37), .plain (.buildSlice 94 3 [] 0 []), none⟩,
     ⟨(some 9), .plain (.mv (.tmp 37)), none⟩])
  (.seq (.seq (.ops [⟨(some 10), .plain (.mv (.val (.int .i64 0))), none⟩])
   (.block 0 (.loop (.seq (.seq (.ops [⟨(some 38), .plain (.mv (.tmp 10)), none⟩,
         ⟨(some 39), .plain (.mv (.tmp 1)), none⟩,
         ⟨(some 40), .plain (.lenS (.tmp 39)), none⟩,
         ⟨(some 41), .plain (.bin .lss (.tmp 38) (.tmp 40)), none⟩])
      (.cond (.tmp 41) (.skip)
      (.exit 0)))
     (.seq (.block 1 (.ops [⟨(some 44), .plain (.mv (.tmp 9)), none⟩,
         ⟨(some 45), .plain (.mv (.tmp 1)), none⟩,
         ⟨(some 46), .plain (.mv (.tmp 10)), none⟩,
         ⟨(some 47), .plain (.idxS 2 (.tmp 45) (.tmp 46)), none⟩,
         ⟨(some 48), .plain (.loadN 2 (.tmp 47)), none⟩,
         ⟨(some 49), .plain (.build [(.int .i64 0), (.int .i64 0), (.int .i64 0)] [(0, 2, (.tmp 48)), (2, 1, (.val (.int .i64 (-1))))]), none⟩,
         ⟨(some 50), .plain (.buildSlice 94 3 [(.int .i64 0), (.int .i64 0), (.int .i64 0)] 1 [(0, 3, (.tmp 49))]), none⟩,
         ⟨(some 51), .plain (.append 94 3 24 (.tmp 44) (.tmp 50)), none⟩,
         ⟨(some 9), .plain (.mv (.tmp 51)), none⟩]))
     (.ops [⟨(some 42), .plain (.mv (.tmp 10)), none⟩,
       ⟨(some 43), .plain (.bin .add (.tmp 42) (.val (.int .i64 1))), none⟩,
       ⟨(some 10), .plain (.mv (.tmp 43)), none⟩]))))))
  (.seq (.seq (.ops [⟨(some 52), .plain (.mv (.tmp 8)), none⟩,
      ⟨(some 53), .plain (.bin .eql (.tmp 52) (.val (.int .i64 0))), none⟩])
   (.cond (.tmp 53) (.seq (.ops [⟨(some 54), .plain (.mv (.tmp 9)), none⟩,
       ⟨(some 6), .plain (.mv (.tmp 54)), none⟩,
       ⟨(some 7), .plain (.mv (.val (.int .i64 0))), none⟩])
    (.ret))
   (.skip)))
  (.seq (.ops [⟨(some 55), .plain (.mv (.tmp 8)), none⟩,
     ⟨(some 56), .plain (.makeSlice 3 1 8 [(.int .i64 0)] (.tmp 55) (.tmp 55)), none⟩,
     ⟨(some 11), .plain (.mv (.tmp 56)), none⟩])
  (.seq (.seq (.ops [⟨(some 12), .plain (.mv (.val (.int .i64 0))), none⟩])
   (.block 2 (.loop (.seq (.seq (.ops [⟨(some 57), .plain (.mv (.tmp 12)), none⟩,
         ⟨(some 58), .plain (.mv (.tmp 8)), none⟩,
         ⟨(some 59), .plain (.bin .lss (.tmp 57) (.tmp 58)), none⟩])
      (.cond (.tmp 59) (.skip)
      (.exit 2)))
     (.seq (.block 3 (.seq (.ops [⟨(some 13), .plain (.mv (.val (.int .i64 0))), none⟩])
       (.block 4 (.loop (.seq (.seq (.ops [⟨(some 62), .plain (.mv (.tmp 13)), none⟩,
             ⟨(some 63), .plain (.mv (.tmp 1)), none⟩,
             ⟨(some 64), .plain (.lenS (.tmp 63)), none⟩,
             ⟨(some 65), .plain (.bin .lss (.tmp 62) (.tmp 64)), none⟩])
          (.cond (.tmp 65) (.skip)
          (.exit 4)))
         (.seq (.block 5 (.seq (.dops [⟨0, ⟨(some 68), .plain (.mv (.tmp 2)), none⟩, []⟩,
              ⟨1, ⟨(some 69), .plain (.mv (.tmp 1)), none⟩, []⟩,
              ⟨2, ⟨(some 70), .plain (.mv (.tmp 13)), none⟩, []⟩,
              ⟨3, ⟨(some 71), .plain (.idxS 2 (.tmp 69) (.tmp 70)), none⟩, []⟩,
              ⟨4, ⟨(some 72), .plain (.loadN 2 (.tmp 71)), none⟩, []⟩,
              ⟨6, ⟨(some 74), .plain (.mv (.tmp 0)), none⟩, []⟩,
              ⟨7, ⟨(some 75), .plain (.mv (.tmp 12)), none⟩, []⟩,
              ⟨8, ⟨(some 76), .plain (.idxS 1 (.tmp 74) (.tmp 75)), none⟩, []⟩,
              ⟨9, ⟨(some 77), .plain (.load1 (.tmp 76)), none⟩, []⟩,
              ⟨5, ⟨(some 73), .call (.val (.func 60 [] [])) [(.tmp 68), (.tmp 72)], none⟩, [9]⟩,
              ⟨10, ⟨(some 78), .plain (.bin .eql (.tmp 73) (.tmp 77)), none⟩, []⟩])
           (.cond (.tmp 78) (.ops [⟨(some 79), .plain (.mv (.tmp 11)), none⟩,
              ⟨(some 80), .plain (.mv (.tmp 12)), none⟩,
              ⟨(some 81), .plain (.idxS 1 (.tmp 79) (.tmp 80)), none⟩,
              ⟨(some 82), .plain (.load1 (.tmp 81)), none⟩,
              ⟨(some 83), .plain (.bin .add (.tmp 82) (.val (.int .i64 1))), none⟩,
              ⟨(some 84), .plain (.idxS 1 (.tmp 79) (.tmp 80)), none⟩,
              ⟨none, .plain (.store 1 (.tmp 84) (.tmp 83)), none⟩])
           (.skip))))
         (.ops [⟨(some 66), .plain (.mv (.tmp 13)), none⟩,
           ⟨(some 67), .plain (.bin .add (.tmp 66) (.val (.int .i64 1))), none⟩,
           ⟨(some 13), .plain (.mv (.tmp 67)), none⟩])))))))
     (.ops [⟨(some 60), .plain (.mv (.tmp 12)), none⟩,
       ⟨(some 61), .plain (.bin .add (.tmp 60) (.val (.int .i64 1))), none⟩,
       ⟨(some 12), .plain (.mv (.tmp 61)), none⟩]))))))
  (.seq (.ops [⟨(some 85), .plain (.mv (.tmp 8)), none⟩,
     ⟨(some 86), .plain (.makeSlice 3 1 8 [(.int .i64 0)] (.tmp 85) (.tmp 85)), none⟩,
     ⟨(some 14), .plain (.mv (.tmp 86)), none⟩])
  (.seq (.seq (.ops [⟨(some 15), .plain (.mv (.val (.int .i64 0))), none⟩])
   (.block 6 (.loop (.seq (.seq (.ops [⟨(some 87), .plain (.mv (.tmp 15)), none⟩,
         ⟨(some 88), .plain (.mv (.tmp 8)), none⟩,
         ⟨(some 89), .plain (.bin .lss (.tmp 87) (.tmp 88)), none⟩])
      (.cond (.tmp 89) (.skip)
      (.exit 6)))
     (.seq (.block 7 (.seq (.ops [⟨(some 92), .plain (.mv (.tmp 14)), none⟩,
          ⟨(some 93), .plain (.mv (.tmp 15)), none⟩,
          ⟨(some 94), .plain (.mv (.tmp 1)), none⟩,
          ⟨(some 95), .plain (.lenS (.tmp 94)), none⟩,
          ⟨(some 96), .plain (.mv (.tmp 8)), none⟩,
          ⟨(some 97), .plain (.bin .quo (.tmp 95) (.tmp 96)), none⟩,
          ⟨(some 98), .plain (.idxS 1 (.tmp 92) (.tmp 93)), none⟩,
          ⟨none, .plain (.store 1 (.tmp 98) (.tmp 97)), none⟩])
       (.seq (.ops [⟨(some 16), .plain (.mv (.val (.int .i64 0))), none⟩])
       (.seq (.seq (.ops [⟨(some 17), .plain (.mv (.val (.int .i64 0))), none⟩])
        (.block 8 (.loop (.seq (.seq (.ops [⟨(some 99), .plain (.mv (.tmp 17)), none⟩,
              ⟨(some 100), .plain (.mv (.tmp 8)), none⟩,
              ⟨(some 101), .plain (.bin .lss (.tmp 99) (.tmp 100)), none⟩])
           (.cond (.tmp 101) (.skip)
           (.exit 8)))
          (.seq (.block 9 (.seq (.dops [⟨0, ⟨(some 104), .plain (.mv (.tmp 11)), none⟩, []⟩,
               ⟨1, ⟨(some 105), .plain (.mv (.tmp 17)), none⟩, []⟩,
               ⟨2, ⟨(some 106), .plain (.idxS 1 (.tmp 104) (.tmp 105)), none⟩, []⟩,
               ⟨3, ⟨(some 107), .plain (.load1 (.tmp 106)), none⟩, []⟩,
               ⟨4, ⟨(some 108), .plain (.mv (.tmp 11)), none⟩, []⟩,
               ⟨5, ⟨(some 109), .plain (.mv (.tmp 15)), none⟩, []⟩,
               ⟨6, ⟨(some 110), .plain (.idxS 1 (.tmp 108) (.tmp 109)), none⟩, []⟩,
               ⟨7, ⟨(some 111), .plain (.load1 (.tmp 110)), none⟩, []⟩,
               ⟨8, ⟨(some 112), .plain (.bin .gtr (.tmp 107) (.tmp 111)), none⟩, []⟩,
               ⟨9, ⟨(some 113), .plain (.mv (.tmp 112)), none⟩, []⟩,
               ⟨10, ⟨(some 114), .plain (.mv (.tmp 11)), (some (113, false))⟩, []⟩,
               ⟨11, ⟨(some 115), .plain (.mv (.tmp 17)), (some (113, false))⟩, []⟩,
               ⟨12, ⟨(some 116), .plain (.idxS 1 (.tmp 114) (.tmp 115)), (some (113, false))⟩, []⟩,
               ⟨13, ⟨(some 117), .plain (.load1 (.tmp 116)), (some (113, false))⟩, []⟩,
               ⟨14, ⟨(some 118), .plain (.mv (.tmp 11)), (some (113, false))⟩, []⟩,
               ⟨15, ⟨(some 119), .plain (.mv (.tmp 15)), (some (113, false))⟩, []⟩,
               ⟨16, ⟨(some 120), .plain (.idxS 1 (.tmp 118) (.tmp 119)), (some (113, false))⟩, []⟩,
               ⟨17, ⟨(some 121), .plain (.load1 (.tmp 120)), (some (113, false))⟩, []⟩,
               ⟨18, ⟨(some 122), .plain (.bin .eql (.tmp 117) (.tmp 121)), (some (113, false))⟩, []⟩,
               ⟨19, ⟨(some 123), .plain (.mv (.tmp 122)), (some (113, false))⟩, []⟩,
               ⟨20, ⟨(some 124), .plain (.mv (.tmp 17)), (some (123, true))⟩, []⟩,
               ⟨21, ⟨(some 125), .plain (.mv (.tmp 15)), (some (123, true))⟩, []⟩,
               ⟨22, ⟨(some 126), .plain (.bin .lss (.tmp 124) (.tmp 125)), (some (123, true))⟩, []⟩,
               ⟨23, ⟨(some 127), .plain (.pick (.tmp 123) (.tmp 126) (.val (.bool false))), (some (113, false))⟩, []⟩,
               ⟨24, ⟨(some 128), .plain (.pick (.tmp 113) (.val (.bool true)) (.tmp 127)), none⟩, []⟩])
            (.cond (.tmp 128) (.ops [⟨(some 129), .plain (.mv (.tmp 16)), none⟩,
               ⟨(some 130), .plain (.bin .add (.tmp 129) (.val (.int .i64 1))), none⟩,
               ⟨(some 16), .plain (.mv (.tmp 130)), none⟩])
            (.skip))))
          (.ops [⟨(some 102), .plain (.mv (.tmp 17)), none⟩,
            ⟨(some 103), .plain (.bin .add (.tmp 102) (.val (.int .i64 1))), none⟩,
            ⟨(some 17), .plain (.mv (.tmp 103)), none⟩]))))))
       (.seq (.ops [⟨(some 131), .plain (.mv (.tmp 16)), none⟩,
          ⟨(some 132), .plain (.mv (.tmp 1)), none⟩,
          ⟨(some 133), .plain (.lenS (.tmp 132)), none⟩,
          ⟨(some 134), .plain (.mv (.tmp 8)), none⟩,
          ⟨(some 135), .plain (.bin .rem (.tmp 133) (.tmp 134)), none⟩,
          ⟨(some 136), .plain (.bin .lss (.tmp 131) (.tmp 135)), none⟩])
       (.cond (.tmp 136) (.ops [⟨(some 137), .plain (.mv (.tmp 14)), none⟩,
          ⟨(some 138), .plain (.mv (.tmp 15)), none⟩,
          ⟨(some 139), .plain (.idxS 1 (.tmp 137) (.tmp 138)), none⟩,
          ⟨(some 140), .plain (.load1 (.tmp 139)), none⟩,
          ⟨(some 141), .plain (.bin .add (.tmp 140) (.val (.int .i64 1))), none⟩,
          ⟨(some 142), .plain (.idxS 1 (.tmp 137) (.tmp 138)), none⟩,
          ⟨none, .plain (.store 1 (.tmp 142) (.tmp 141)), none⟩])
       (.skip)))))))
     (.ops [⟨(some 90), .plain (.mv (.tmp 15)), none⟩,
       ⟨(some 91), .plain (.bin .add (.tmp 90) (.val (.int .i64 1))), none⟩,
       ⟨(some 15), .plain (.mv (.tmp 91)), none⟩]))))))
  (.seq (.ops [⟨(some 143), .plain (.mv (.tmp 8)), none⟩,
     ⟨(some 144), .plain (.makeSlice 3 1 8 [(.int .i64 0)] (.tmp 143) (.tmp 143)), none⟩,
     ⟨(some 18), .plain (.mv (.tmp 144)), none⟩])
  (.seq (.seq (.ops [⟨(some 19), .plain (.mv (.val (.int .i64 0))), none⟩])
   (.block 10 (.loop (.seq (.seq (.ops [⟨(some 145), .plain (.mv (.tmp 19)), none⟩,
         ⟨(some 146), .plain (.mv (.tmp 1)), none⟩,
         ⟨(some 147), .plain (.lenS (.tmp 146)), none⟩,
         ⟨(some 148), .plain (.bin .lss (.tmp 145) (.tmp 147)), none⟩])
      (.cond (.tmp 148) (.skip)
      (.exit 10)))
     (.seq (.block 11 (.seq (.ops [⟨(some 20), .plain (.mv (.val (.int .i64 0))), none⟩])
       (.block 12 (.loop (.seq (.seq (.ops [⟨(some 151), .plain (.mv (.tmp 20)), none⟩,
             ⟨(some 152), .plain (.mv (.tmp 8)), none⟩,
             ⟨(some 153), .plain (.bin .lss (.tmp 151) (.tmp 152)), none⟩])
          (.cond (.tmp 153) (.skip)
          (.exit 12)))
         (.seq (.block 13 (.seq (.dops [⟨0, ⟨(some 156), .plain (.mv (.tmp 2)), none⟩, []⟩,
              ⟨1, ⟨(some 157), .plain (.mv (.tmp 1)), none⟩, []⟩,
              ⟨2, ⟨(some 158), .plain (.mv (.tmp 19)), none⟩, []⟩,
              ⟨3, ⟨(some 159), .plain (.idxS 2 (.tmp 157) (.tmp 158)), none⟩, []⟩,
              ⟨4, ⟨(some 160), .plain (.loadN 2 (.tmp 159)), none⟩, []⟩,
              ⟨6, ⟨(some 162), .plain (.mv (.tmp 0)), none⟩, []⟩,
              ⟨7, ⟨(some 163), .plain (.mv (.tmp 20)), none⟩, []⟩,
              ⟨8, ⟨(some 164), .plain (.idxS 1 (.tmp 162) (.tmp 163)), none⟩, []⟩,
              ⟨9, ⟨(some 165), .plain (.load1 (.tmp 164)), none⟩, []⟩,
              ⟨5, ⟨(some 161), .call (.val (.func 60 [] [])) [(.tmp 156), (.tmp 160)], none⟩, [9]⟩,
              ⟨10, ⟨(some 166), .plain (.bin .eql (.tmp 161) (.tmp 165)), none⟩, []⟩,
              ⟨11, ⟨(some 167), .plain (.mv (.tmp 166)), none⟩, []⟩,
              ⟨12, ⟨(some 168), .plain (.mv (.tmp 18)), (some (167, true))⟩, []⟩,
              ⟨13, ⟨(some 169), .plain (.mv (.tmp 20)), (some (167, true))⟩, []⟩,
              ⟨14, ⟨(some 170), .plain (.idxS 1 (.tmp 168) (.tmp 169)), (some (167, true))⟩, []⟩,
              ⟨15, ⟨(some 171), .plain (.load1 (.tmp 170)), (some (167, true))⟩, []⟩,
              ⟨16, ⟨(some 172), .plain (.mv (.tmp 14)), (some (167, true))⟩, []⟩,
              ⟨17, ⟨(some 173), .plain (.mv (.tmp 20)), (some (167, true))⟩, []⟩,
              ⟨18, ⟨(some 174), .plain (.idxS 1 (.tmp 172) (.tmp 173)), (some (167, true))⟩, []⟩,
              ⟨19, ⟨(some 175), .plain (.load1 (.tmp 174)), (some (167, true))⟩, []⟩,
              ⟨20, ⟨(some 176), .plain (.bin .lss (.tmp 171) (.tmp 175)), (some (167, true))⟩, []⟩,
              ⟨21, ⟨(some 177), .plain (.pick (.tmp 167) (.tmp 176) (.val (.bool false))), none⟩, []⟩])
           (.cond (.tmp 177) (.seq (.ops [⟨(some 178), .plain (.mv (.tmp 9)), none⟩,
               ⟨(some 179), .plain (.mv (.tmp 19)), none⟩,
               ⟨(some 180), .plain (.mv (.tmp 0)), none⟩,
               ⟨(some 181), .plain (.mv (.tmp 20)), none⟩,
               ⟨(some 182), .plain (.idxS 1 (.tmp 180) (.tmp 181)), none⟩,
               ⟨(some 183), .plain (.load1 (.tmp 182)), none⟩,
               ⟨(some 184), .plain (.idxS 3 (.tmp 178) (.tmp 179)), none⟩,
               ⟨(some 185), .plain (.addOff 2 (.tmp 184)), none⟩,
               ⟨none, .plain (.store 1 (.tmp 185) (.tmp 183)), none⟩])
            (.ops [⟨(some 186), .plain (.mv (.tmp 18)), none⟩,
              ⟨(some 187), .plain (.mv (.tmp 20)), none⟩,
              ⟨(some 188), .plain (.idxS 1 (.tmp 186) (.tmp 187)), none⟩,
              ⟨(some 189), .plain (.load1 (.tmp 188)), none⟩,
              ⟨(some 190), .plain (.bin .add (.tmp 189) (.val (.int .i64 1))), none⟩,
              ⟨(some 191), .plain (.idxS 1 (.tmp 186) (.tmp 187)), none⟩,
              ⟨none, .plain (.store 1 (.tmp 191) (.tmp 190)), none⟩]))
           (.skip))))
         (.ops [⟨(some 154), .plain (.mv (.tmp 20)), none⟩,
           ⟨(some 155), .plain (.bin .add (.tmp 154) (.val (.int .i64 1))), none⟩,
           ⟨(some 20), .plain (.mv (.tmp 155)), none⟩])))))))
     (.ops [⟨(some 149), .plain (.mv (.tmp 19)), none⟩,
       ⟨(some 150), .plain (.bin .add (.tmp 149) (.val (.int .i64 1))), none⟩,
       ⟨(some 19), .plain (.mv (.tmp 150)), none⟩]))))))
  (.seq (.seq (.ops [⟨(some 21), .plain (.mv (.val (.int .i64 0))), none⟩])
   (.block 14 (.loop (.seq (.seq (.ops [⟨(some 192), .plain (.mv (.tmp 21)), none⟩,
         ⟨(some 193), .plain (.mv (.tmp 1)), none⟩,
         ⟨(some 194), .plain (.lenS (.tmp 193)), none⟩,
         ⟨(some 195), .plain (.bin .lss (.tmp 192) (.tmp 194)), none⟩])
      (.cond (.tmp 195) (.skip)
      (.exit 14)))
     (.seq (.block 15 (.seq (.ops [⟨(some 22), .plain (.mv (.val (.int .i64 0))), none⟩])
       (.block 16 (.loop (.seq (.seq (.ops [⟨(some 198), .plain (.mv (.tmp 22)), none⟩,
             ⟨(some 199), .plain (.mv (.tmp 8)), none⟩,
             ⟨(some 200), .plain (.bin .lss (.tmp 198) (.tmp 199)), none⟩,
             ⟨(some 201), .plain (.mv (.tmp 200)), none⟩,
             ⟨(some 202), .plain (.mv (.tmp 9)), (some (201, true))⟩,
             ⟨(some 203), .plain (.mv (.tmp 21)), (some (201, true))⟩,
             ⟨(some 204), .plain (.idxS 3 (.tmp 202) (.tmp 203)), (some (201, true))⟩,
             ⟨(some 205), .plain (.addOff 2 (.tmp 204)), (some (201, true))⟩,
             ⟨(some 206), .plain (.load1 (.tmp 205)), (some (201, true))⟩,
             ⟨(some 207), .plain (.bin .lss (.tmp 206) (.val (.int .i64 0))), (some (201, true))⟩,
             ⟨(some 208), .plain (.pick (.tmp 201) (.tmp 207) (.val (.bool false))), none⟩])
          (.cond (.tmp 208) (.skip)
          (.exit 16)))
         (.seq (.block 17 (.seq (.dops [⟨0, ⟨(some 211), .plain (.mv (.tmp 18)), none⟩, []⟩,
              ⟨1, ⟨(some 212), .plain (.mv (.tmp 22)), none⟩, []⟩,
              ⟨2, ⟨(some 213), .plain (.idxS 1 (.tmp 211) (.tmp 212)), none⟩, []⟩,
              ⟨3, ⟨(some 214), .plain (.load1 (.tmp 213)), none⟩, []⟩,
              ⟨4, ⟨(some 215), .plain (.mv (.tmp 14)), none⟩, []⟩,
              ⟨5, ⟨(some 216), .plain (.mv (.tmp 22)), none⟩, []⟩,
              ⟨6, ⟨(some 217), .plain (.idxS 1 (.tmp 215) (.tmp 216)), none⟩, []⟩,
              ⟨7, ⟨(some 218), .plain (.load1 (.tmp 217)), none⟩, []⟩,
              ⟨8, ⟨(some 219), .plain (.bin .lss (.tmp 214) (.tmp 218)), none⟩, []⟩])
           (.cond (.tmp 219) (.seq (.ops [⟨(some 220), .plain (.mv (.tmp 9)), none⟩,
               ⟨(some 221), .plain (.mv (.tmp 21)), none⟩,
               ⟨(some 222), .plain (.mv (.tmp 0)), none⟩,
               ⟨(some 223), .plain (.mv (.tmp 22)), none⟩,
               ⟨(some 224), .plain (.idxS 1 (.tmp 222) (.tmp 223)), none⟩,
               ⟨(some 225), .plain (.load1 (.tmp 224)), none⟩,
               ⟨(some 226), .plain (.idxS 3 (.tmp 220) (.tmp 221)), none⟩,
               ⟨(some 227), .plain (.addOff 2 (.tmp 226)), none⟩,
               ⟨none, .plain (.store 1 (.tmp 227) (.tmp 225)), none⟩])
            (.ops [⟨(some 228), .plain (.mv (.tmp 18)), none⟩,
              ⟨(some 229), .plain (.mv (.tmp 22)), none⟩,
              ⟨(some 230), .plain (.idxS 1 (.tmp 228) (.tmp 229)), none⟩,
              ⟨(some 231), .plain (.load1 (.tmp 230)), none⟩,
              ⟨(some 232), .plain (.bin .add (.tmp 231) (.val (.int .i64 1))), none⟩,
              ⟨(some 233), .plain (.idxS 1 (.tmp 228) (.tmp 229)), none⟩,
              ⟨none, .plain (.store 1 (.tmp 233) (.tmp 232)), none⟩]))
           (.skip))))
         (.ops [⟨(some 209), .plain (.mv (.tmp 22)), none⟩,
           ⟨(some 210), .plain (.bin .add (.tmp 209) (.val (.int .i64 1))), none⟩,
           ⟨(some 22), .plain (.mv (.tmp 210)), none⟩])))))))
     (.ops [⟨(some 196), .plain (.mv (.tmp 21)), none⟩,
       ⟨(some 197), .plain (.bin .add (.tmp 196) (.val (.int .i64 1))), none⟩,
       ⟨(some 21), .plain (.mv (.tmp 197)), none⟩]))))))
  (.seq (.ops [⟨(some 234), .plain (.mv (.tmp 9)), none⟩,
     ⟨(some 6), .plain (.mv (.tmp 234)), none⟩,
     ⟨(some 7), .plain (.mv (.val (.int .i64 0))), none⟩])
  (.ret)))))))))))))))⟩
theorem ok62 : compFun Try.prog 62 = some fn62 := by kernel_rfl

/-- (*postrider/postriderref17.Table).Revoked -/
def fn63 : AFun := ⟨55, [4], .seq (.ops [⟨(some 4), .plain (.mv (.val .nils)), none⟩])
  (.seq (.ops [⟨(some 7), .plain (.buildSlice 57 2 [] 0 []), none⟩,
     ⟨(some 5), .plain (.mv (.tmp 7)), none⟩])
  (.seq (.seq (.ops [⟨(some 6), .plain (.mv (.val (.int .i64 0))), none⟩])
   (.block 0 (.loop (.seq (.seq (.ops [⟨(some 8), .plain (.mv (.tmp 6)), none⟩,
         ⟨(some 9), .plain (.mv (.tmp 0)), none⟩,
         ⟨(some 10), .plain (.nilCheck (.tmp 9)), none⟩,
         ⟨(some 11), .plain (.addOff 0 (.tmp 10)), none⟩,
         ⟨(some 12), .plain (.load1 (.tmp 11)), none⟩,
         ⟨(some 13), .plain (.lenS (.tmp 12)), none⟩,
         ⟨(some 14), .plain (.bin .lss (.tmp 8) (.tmp 13)), none⟩])
      (.cond (.tmp 14) (.skip)
      (.exit 0)))
     (.seq (.block 1 (.seq (.ops [⟨(some 17), .plain (.mv (.tmp 0)), none⟩,
          ⟨(some 18), .plain (.nilCheck (.tmp 17)), none⟩,
          ⟨(some 19), .plain (.addOff 0 (.tmp 18)), none⟩,
          ⟨(some 20), .plain (.load1 (.tmp 19)), none⟩,
          ⟨(some 21), .plain (.mv (.tmp 6)), none⟩,
          ⟨(some 22), .plain (.idxS 3 (.tmp 20) (.tmp 21)), none⟩,
          ⟨(some 23), .plain (.addOff 2 (.tmp 22)), none⟩,
          ⟨(some 24), .plain (.load1 (.tmp 23)), none⟩,
          ⟨(some 25), .plain (.mv (.tmp 1)), none⟩,
          ⟨(some 26), .plain (.bin .eql (.tmp 24) (.tmp 25)), none⟩,
          ⟨(some 27), .plain (.mv (.tmp 26)), none⟩,
          ⟨(some 28), .plain (.mv (.tmp 1)), (some (27, true))⟩,
          ⟨(some 29), .plain (.bin .geq (.tmp 28) (.val (.int .i64 0))), (some (27, true))⟩,
          ⟨(some 30), .plain (.pick (.tmp 27) (.tmp 29) (.val (.bool false))), none⟩,
          ⟨(some 31), .plain (.mv (.tmp 30)), none⟩,
          ⟨(some 32), .plain (.mv (.tmp 0)), (some (31, true))⟩,
          ⟨(some 33), .plain (.nilCheck (.tmp 32)), (some (31, true))⟩,
          ⟨(some 34), .plain (.addOff 1 (.tmp 33)), (some (31, true))⟩,
          ⟨(some 35), .plain (.load1 (.tmp 34)), (some (31, true))⟩,
          ⟨(some 36), .plain (.mv (.tmp 6)), (some (31, true))⟩,
          ⟨(some 37), .plain (.idxS 3 (.tmp 35) (.tmp 36)), (some (31, true))⟩,
          ⟨(some 38), .plain (.addOff 2 (.tmp 37)), (some (31, true))⟩,
          ⟨(some 39), .plain (.load1 (.tmp 38)), (some (31, true))⟩,
          ⟨(some 40), .plain (.mv (.tmp 1)), (some (31, true))⟩,
          ⟨(some 41), .plain (.bin .neq (.tmp 39) (.tmp 40)), (some (31, true))⟩,
          ⟨(some 42), .plain (.pick (.tmp 31) (.tmp 41) (.val (.bool false))), none⟩])
       (.cond (.tmp 42) (.ops [⟨(some 43), .plain (.mv (.tmp 5)), none⟩,
          ⟨(some 44), .plain (.mv (.tmp 0)), none⟩,
          ⟨(some 45), .plain (.nilCheck (.tmp 44)), none⟩,
          ⟨(some 46), .plain (.addOff 0 (.tmp 45)), none⟩,
          ⟨(some 47), .plain (.load1 (.tmp 46)), none⟩,
          ⟨(some 48), .plain (.mv (.tmp 6)), none⟩,
          ⟨(some 49), .plain (.idxS 3 (.tmp 47) (.tmp 48)), none⟩,
          ⟨(some 50), .plain (.addOff 0 (.tmp 49)), none⟩,
          ⟨(some 51), .plain (.loadN 2 (.tmp 50)), none⟩,
          ⟨(some 52), .plain (.buildSlice 57 2 [(.int .i64 0), (.int .i64 0)] 1 [(0, 2, (.tmp 51))]), none⟩,
          ⟨(some 53), .plain (.append 57 2 16 (.tmp 43) (.tmp 52)), none⟩,
          ⟨(some 5), .plain (.mv (.tmp 53)), none⟩])
       (.skip))))
     (.ops [⟨(some 15), .plain (.mv (.tmp 6)), none⟩,
       ⟨(some 16), .plain (.bin .add (.tmp 15) (.val (.int .i64 1))), none⟩,
       ⟨(some 6), .plain (.mv (.tmp 16)), none⟩]))))))
  (.seq (.ops [⟨(some 54), .plain (.mv (.tmp 5)), none⟩,
     ⟨(some 4), .plain (.mv (.tmp 54)), none⟩])
  (.ret))))⟩
theorem ok63 : compFun Try.prog 63 = some fn63 := by kernel_rfl

/-- (*postrider/postriderref17.Table).settle -/
def fn64 : AFun := ⟨25, [2], .seq (.ops [⟨(some 2), .plain (.mv (.val (.bool false))), none⟩])
  (.seq (.seq (.ops [⟨(some 3), .plain (.mv (.tmp 0)), none⟩,
      ⟨(some 4), .plain (.nilCheck (.tmp 3)), none⟩,
      ⟨(some 5), .plain (.addOff 2 (.tmp 4)), none⟩,
      ⟨(some 6), .plain (.load1 (.tmp 5)), none⟩,
      ⟨(some 7), .plain (.lenS (.tmp 6)), none⟩,
      ⟨(some 8), .plain (.bin .gtr (.tmp 7) (.val (.int .i64 0))), none⟩])
   (.cond (.tmp 8) (.seq (.ops [⟨(some 2), .plain (.mv (.val (.bool false))), none⟩])
    (.ret))
   (.skip)))
  (.seq (.ops [⟨(some 9), .plain (.mv (.tmp 0)), none⟩,
     ⟨(some 10), .plain (.buildSlice 94 3 [] 0 []), none⟩,
     ⟨(some 11), .plain (.mv (.tmp 0)), none⟩,
     ⟨(some 12), .plain (.nilCheck (.tmp 11)), none⟩,
     ⟨(some 13), .plain (.addOff 1 (.tmp 12)), none⟩,
     ⟨(some 14), .plain (.load1 (.tmp 13)), none⟩,
     ⟨(some 15), .plain (.append 94 3 24 (.tmp 10) (.tmp 14)), none⟩,
     ⟨(some 16), .plain (.nilCheck (.tmp 9)), none⟩,
     ⟨(some 17), .plain (.addOff 0 (.tmp 16)), none⟩,
     ⟨none, .plain (.store 1 (.tmp 17) (.tmp 15)), none⟩])
  (.seq (.ops [⟨(some 18), .plain (.mv (.tmp 0)), none⟩,
     ⟨(some 19), .plain (.nilCheck (.tmp 18)), none⟩,
     ⟨(some 20), .plain (.addOff 3 (.tmp 19)), none⟩,
     ⟨(some 21), .plain (.load1 (.tmp 20)), none⟩,
     ⟨(some 22), .plain (.bin .add (.tmp 21) (.val (.int .i64 1))), none⟩,
     ⟨(some 23), .plain (.nilCheck (.tmp 18)), none⟩,
     ⟨(some 24), .plain (.addOff 3 (.tmp 23)), none⟩,
     ⟨none, .plain (.store 1 (.tmp 24) (.tmp 22)), none⟩])
  (.seq (.ops [⟨(some 2), .plain (.mv (.val (.bool true))), none⟩])
  (.ret)))))⟩
theorem ok64 : compFun Try.prog 64 = some fn64 := by kernel_rfl

/-- slices.Index[[]int,int] -/
def fn65 : AFun := ⟨19, [4], .seq (.ops [⟨(some 4), .plain (.mv (.val (.int .i64 0))), none⟩])
  (.seq (.seq (.ops [⟨(some 6), .plain (.mv (.tmp 0)), none⟩,
      ⟨(some 7), .plain (.lenS (.tmp 6)), none⟩,
      ⟨(some 8), .plain (.mv (.val (.int .i64 0))), none⟩])
   (.block 0 (.loop (.seq (.ops [⟨(some 9), .plain (.bin .lss (.tmp 8) (.tmp 7)), none⟩])
     (.seq (.cond (.tmp 9) (.skip)
      (.exit 0))
     (.seq (.block 1 (.seq (.ops [⟨(some 10), .plain (.mv (.tmp 8)), none⟩,
          ⟨(some 5), .plain (.mv (.tmp 10)), none⟩])
       (.seq (.ops [⟨(some 11), .plain (.mv (.tmp 1)), none⟩,
          ⟨(some 12), .plain (.mv (.tmp 0)), none⟩,
          ⟨(some 13), .plain (.mv (.tmp 5)), none⟩,
          ⟨(some 14), .plain (.idxS 1 (.tmp 12) (.tmp 13)), none⟩,
          ⟨(some 15), .plain (.load1 (.tmp 14)), none⟩,
          ⟨(some 16), .plain (.bin .eql (.tmp 11) (.tmp 15)), none⟩])
       (.cond (.tmp 16) (.seq (.ops [⟨(some 17), .plain (.mv (.tmp 5)), none⟩,
           ⟨(some 4), .plain (.mv (.tmp 17)), none⟩])
        (.ret))
       (.skip)))))
     (.ops [⟨(some 18), .plain (.bin .add (.tmp 8) (.val (.int .i64 1))), none⟩,
       ⟨(some 8), .plain (.mv (.tmp 18)), none⟩])))))))
  (.seq (.ops [⟨(some 4), .plain (.mv (.val (.int .i64 (-1)))), none⟩])
  (.ret)))⟩
theorem ok65 : compFun Try.prog 65 = some fn65 := by kernel_rfl

/-- (*postrider/rebal.Table).going -/
def fn67 : AFun := ⟨6, [4], .seq (.ops [⟨(some 2), .plain (.box 58 (.tmp 0)), none⟩,
     ⟨(some 3), .plain (.box 3 (.tmp 1)), none⟩,
     ⟨(some 4), .plain (.mv (.val .nilf)), none⟩])
  (.seq (.ops [⟨(some 5), .plain (.mkFunc 84 [] [(.tmp 2), (.tmp 3)]), none⟩,
     ⟨(some 4), .plain (.mv (.tmp 5)), none⟩])
  (.ret))⟩
theorem ok67 : compFun Try.prog 67 = some fn67 := by kernel_rfl

/-- (*postrider/rebal.Table).Has -/
def fn68 : AFun := ⟨46, [6], .seq (.ops [⟨(some 5), .plain (.box 57 (.tmp 2)), none⟩,
     ⟨(some 6), .plain (.mv (.val (.int .i64 0))), none⟩])
  (.seq (.seq (.ops [⟨(some 8), .plain (.mv (.tmp 0)), none⟩,
      ⟨(some 9), .call (.val (.func 54 [] [])) [(.tmp 8)], none⟩,
      ⟨(some 10), .plain (.not (.tmp 9)), none⟩])
   (.cond (.tmp 10) (.seq (.ops [⟨(some 6), .plain (.mv (.val (.int .i64 1))), none⟩])
    (.ret))
   (.skip)))
  (.seq (.ops [⟨(some 11), .plain (.mv (.tmp 0)), none⟩,
     ⟨(some 12), .plain (.nilCheck (.tmp 11)), none⟩,
     ⟨(some 13), .plain (.addOff 0 (.tmp 12)), none⟩,
     ⟨(some 14), .plain (.load1 (.tmp 13)), none⟩,
     ⟨(some 15), .plain (.mkFunc 85 [] [(.tmp 5)]), none⟩,
     ⟨(some 16), .call (.val (.func 76 [] [])) [(.tmp 14), (.tmp 15)], none⟩,
     ⟨(some 7), .plain (.mv (.tmp 16)), none⟩])
  (.seq (.block 0 (.seq (.ops [⟨(some 18), .plain (.mv (.tmp 7)), none⟩,
       ⟨(some 19), .plain (.bin .lss (.tmp 18) (.val (.int .i64 0))), none⟩,
       ⟨(some 17), .plain (.mv (.tmp 19)), none⟩])
    (.cond (.tmp 17) (.seq (.ops [⟨(some 6), .plain (.mv (.val (.int .i64 5))), none⟩])
     (.ret))
    (.seq (.ops [⟨(some 21), .plain (.mv (.tmp 1)), none⟩,
        ⟨(some 22), .plain (.bin .lss (.tmp 21) (.val (.int .i64 0))), none⟩,
        ⟨(some 23), .plain (.mv (.tmp 22)), none⟩,
        ⟨(some 24), .plain (.mv (.tmp 0)), (some (23, false))⟩,
        ⟨(some 25), .plain (.nilCheck (.tmp 24)), (some (23, false))⟩,
        ⟨(some 26), .plain (.addOff 0 (.tmp 25)), (some (23, false))⟩,
        ⟨(some 27), .plain (.load1 (.tmp 26)), (some (23, false))⟩,
        ⟨(some 28), .plain (.mv (.tmp 7)), (some (23, false))⟩,
        ⟨(some 29), .plain (.idxS 3 (.tmp 27) (.tmp 28)), (some (23, false))⟩,
        ⟨(some 30), .plain (.addOff 2 (.tmp 29)), (some (23, false))⟩,
        ⟨(some 31), .plain (.load1 (.tmp 30)), (some (23, false))⟩,
        ⟨(some 32), .plain (.mv (.tmp 1)), (some (23, false))⟩,
        ⟨(some 33), .plain (.bin .neq (.tmp 31) (.tmp 32)), (some (23, false))⟩,
        ⟨(some 34), .plain (.pick (.tmp 23) (.val (.bool true)) (.tmp 33)), none⟩,
        ⟨(some 20), .plain (.mv (.tmp 34)), none⟩])
     (.cond (.tmp 20) (.seq (.ops [⟨(some 6), .plain (.mv (.val (.int .i64 180))), none⟩])
      (.ret))
     (.seq (.ops [⟨(some 36), .plain (.mv (.tmp 0)), none⟩,
         ⟨(some 37), .plain (.nilCheck (.tmp 36)), none⟩,
         ⟨(some 38), .plain (.addOff 1 (.tmp 37)), none⟩,
         ⟨(some 39), .plain (.load1 (.tmp 38)), none⟩,
         ⟨(some 40), .plain (.mv (.tmp 7)), none⟩,
         ⟨(some 41), .plain (.idxS 3 (.tmp 39) (.tmp 40)), none⟩,
         ⟨(some 42), .plain (.addOff 2 (.tmp 41)), none⟩,
         ⟨(some 43), .plain (.load1 (.tmp 42)), none⟩,
         ⟨(some 44), .plain (.mv (.tmp 1)), none⟩,
         ⟨(some 45), .plain (.bin .neq (.tmp 43) (.tmp 44)), none⟩,
         ⟨(some 35), .plain (.mv (.tmp 45)), none⟩])
      (.cond (.tmp 35) (.seq (.ops [⟨(some 6), .plain (.mv (.val (.int .i64 170))), none⟩])
       (.ret))
      (.skip))))))))
  (.seq (.ops [⟨(some 6), .plain (.mv (.val (.int .i64 0))), none⟩])
  (.ret)))))⟩
theorem ok68 : compFun Try.prog 68 = some fn68 := by kernel_rfl

/-- (*postrider/rebal.Table).Gen -/
def fn69 : AFun := ⟨10, [2], .seq (.ops [⟨(some 2), .plain (.mv (.val (.int .i64 0))), none⟩])
  (.seq (.seq (.ops [⟨(some 3), .plain (.mv (.tmp 0)), none⟩,
      ⟨(some 4), .call (.val (.func 54 [] [])) [(.tmp 3)], none⟩,
      ⟨(some 5), .plain (.not (.tmp 4)), none⟩])
   (.cond (.tmp 5) (.seq (.ops [⟨(some 2), .plain (.mv (.val (.int .i64 0))), none⟩])
    (.ret))
   (.skip)))
  (.seq (.ops [⟨(some 6), .plain (.mv (.tmp 0)), none⟩,
     ⟨(some 7), .plain (.nilCheck (.tmp 6)), none⟩,
     ⟨(some 8), .plain (.addOff 3 (.tmp 7)), none⟩,
     ⟨(some 9), .plain (.load1 (.tmp 8)), none⟩,
     ⟨(some 2), .plain (.mv (.tmp 9)), none⟩])
  (.ret)))⟩
theorem ok69 : compFun Try.prog 69 = some fn69 := by kernel_rfl

/-- (*postrider/ledger.Ledger).add -/
def fn71 : AFun := ⟨73, [6], .seq (.ops [⟨(some 6), .plain (.mv (.val (.int .i64 0))), none⟩])
  (.seq (.ops [⟨(some 9), .plain (.mv (.tmp 0)), none⟩,
     ⟨(some 10), .call (.val (.func 28 [] [])) [(.tmp 9)], none⟩,
     ⟨(some 7), .plain (.mv (.val (.int .i64 0))), none⟩,
     ⟨(some 8), .plain (.mv (.tmp 10)), none⟩])
  (.seq (.seq (.ops [⟨(some 11), .plain (.mv (.tmp 0)), none⟩,
      ⟨(some 12), .call (.val (.func 52 [] [])) [(.tmp 11)], none⟩])
   (.cond (.tmp 12) (.ops [⟨(some 13), .plain (.mv (.tmp 0)), none⟩,
      ⟨(some 14), .plain (.nilCheck (.tmp 13)), none⟩,
      ⟨(some 15), .plain (.addOff 1 (.tmp 14)), none⟩,
      ⟨(some 16), .plain (.load1 (.tmp 15)), none⟩,
      ⟨(some 17), .plain (.lenS (.tmp 16)), none⟩,
      ⟨(some 7), .plain (.mv (.tmp 17)), none⟩])
   (.skip)))
  (.seq (.block 0 (.seq (.ops [⟨(some 19), .plain (.mv (.tmp 0)), none⟩,
       ⟨(some 20), .call (.val (.func 52 [] [])) [(.tmp 19)], none⟩,
       ⟨(some 21), .plain (.not (.tmp 20)), none⟩,
       ⟨(some 18), .plain (.mv (.tmp 21)), none⟩])
    (.cond (.tmp 18) (.seq (.ops [⟨(some 6), .plain (.mv (.val (.int .i64 1))), none⟩])
     (.ret))
    (.seq (.ops [⟨(some 23), .plain (.mv (.tmp 1)), none⟩,
        ⟨(some 24), .plain (.mv (.tmp 8)), none⟩,
        ⟨(some 25), .plain (.bin .leq (.tmp 23) (.tmp 24)), none⟩,
        ⟨(some 26), .plain (.mv (.tmp 25)), none⟩,
        ⟨(some 27), .plain (.mv (.tmp 1)), (some (26, false))⟩,
        ⟨(some 28), .plain (.bin .gtr (.tmp 27) (.val (.int .i64 1099511627776))), (some (26, false))⟩,
        ⟨(some 29), .plain (.pick (.tmp 26) (.val (.bool true)) (.tmp 28)), none⟩,
        ⟨(some 22), .plain (.mv (.tmp 29)), none⟩])
     (.cond (.tmp 22) (.seq (.ops [⟨(some 6), .plain (.mv (.val (.int .i64 2))), none⟩])
      (.ret))
     (.seq (.ops [⟨(some 31), .plain (.mv (.tmp 7)), none⟩,
         ⟨(some 32), .plain (.bin .gtr (.tmp 31) (.val (.int .i64 0))), none⟩,
         ⟨(some 33), .plain (.mv (.tmp 32)), none⟩,
         ⟨(some 34), .plain (.mv (.tmp 0)), (some (33, true))⟩,
         ⟨(some 35), .plain (.nilCheck (.tmp 34)), (some (33, true))⟩,
         ⟨(some 36), .plain (.addOff 1 (.tmp 35)), (some (33, true))⟩,
         ⟨(some 37), .plain (.load1 (.tmp 36)), (some (33, true))⟩,
         ⟨(some 38), .plain (.mv (.tmp 7)), (some (33, true))⟩,
         ⟨(some 39), .plain (.bin .sub (.tmp 38) (.val (.int .i64 1))), (some (33, true))⟩,
         ⟨(some 40), .plain (.idxS 3 (.tmp 37) (.tmp 39)), (some (33, true))⟩,
         ⟨(some 41), .plain (.addOff 2 (.tmp 40)), (some (33, true))⟩,
         ⟨(some 42), .plain (.load1 (.tmp 41)), (some (33, true))⟩,
         ⟨(some 43), .plain (.mv (.tmp 2)), (some (33, true))⟩,
         ⟨(some 44), .plain (.eqb false (.tmp 42) (.tmp 43)), (some (33, true))⟩,
         ⟨(some 45), .plain (.pick (.tmp 33) (.tmp 44) (.val (.bool false))), none⟩,
         ⟨(some 30), .plain (.mv (.tmp 45)), none⟩])
      (.cond (.tmp 30) (.seq (.ops [⟨(some 46), .plain (.mv (.tmp 0)), none⟩,
          ⟨(some 47), .plain (.nilCheck (.tmp 46)), none⟩,
          ⟨(some 48), .plain (.addOff 1 (.tmp 47)), none⟩,
          ⟨(some 49), .plain (.load1 (.tmp 48)), none⟩,
          ⟨(some 50), .plain (.mv (.tmp 7)), none⟩,
          ⟨(some 51), .plain (.bin .sub (.tmp 50) (.val (.int .i64 1))), none⟩,
          ⟨(some 52), .plain (.mv (.tmp 1)), none⟩,
          ⟨(some 53), .plain (.idxS 3 (.tmp 49) (.tmp 51)), none⟩,
          ⟨(some 54), .plain (.addOff 0 (.tmp 53)), none⟩,
          ⟨(some 55), .plain (.addOff 1 (.tmp 54)), none⟩,
          ⟨none, .plain (.store 1 (.tmp 55) (.tmp 52)), none⟩])
       (.seq (.ops [⟨(some 6), .plain (.mv (.val (.int .i64 0))), none⟩])
       (.ret)))
      (.seq (.ops [⟨(some 57), .plain (.mv (.tmp 7)), none⟩,
          ⟨(some 58), .plain (.bin .eql (.tmp 57) (.val (.int .i64 256))), none⟩,
          ⟨(some 56), .plain (.mv (.tmp 58)), none⟩])
       (.cond (.tmp 56) (.seq (.ops [⟨(some 6), .plain (.mv (.val (.int .i64 4))), none⟩])
        (.ret))
       (.skip))))))))))
  (.seq (.ops [⟨(some 59), .plain (.mv (.tmp 0)), none⟩,
     ⟨(some 60), .plain (.mv (.tmp 0)), none⟩,
     ⟨(some 61), .plain (.nilCheck (.tmp 60)), none⟩,
     ⟨(some 62), .plain (.addOff 1 (.tmp 61)), none⟩,
     ⟨(some 63), .plain (.load1 (.tmp 62)), none⟩,
     ⟨(some 64), .plain (.mv (.tmp 8)), none⟩,
     ⟨(some 65), .plain (.mv (.tmp 1)), none⟩,
     ⟨(some 66), .plain (.build [(.int .i64 0), (.int .i64 0)] [(0, 1, (.tmp 64)), (1, 1, (.tmp 65))]), none⟩,
     ⟨(some 67), .plain (.mv (.tmp 2)), none⟩,
     ⟨(some 68), .plain (.build [(.int .i64 0), (.int .i64 0), (.bool false)] [(0, 2, (.tmp 66)), (2, 1, (.tmp 67))]), none⟩,
     ⟨(some 69), .plain (.buildSlice 89 3 [(.int .i64 0), (.int .i64 0), (.bool false)] 1 [(0, 3, (.tmp 68))]), none⟩,
     ⟨(some 70), .plain (.append 89 3 24 (.tmp 63) (.tmp 69)), none⟩,
     ⟨(some 71), .plain (.nilCheck (.tmp 59)), none⟩,
     ⟨(some 72), .plain (.addOff 1 (.tmp 71)), none⟩,
     ⟨none, .plain (.store 1 (.tmp 72) (.tmp 70)), none⟩])
  (.seq (.ops [⟨(some 6), .plain (.mv (.val (.int .i64 0))), none⟩])
  (.ret))))))⟩
theorem ok71 : compFun Try.prog 71 = some fn71 := by kernel_rfl

/-- (*postrider/ledger.Ledger).Skip -/
def fn72 : AFun := ⟨8, [4], .seq (.ops [⟨(some 4), .plain (.mv (.val (.int .i64 0))), none⟩])
  (.seq (.ops [⟨(some 5), .plain (.mv (.tmp 0)), none⟩,
     ⟨(some 6), .plain (.mv (.tmp 1)), none⟩,
     ⟨(some 7), .call (.val (.func 71 [] [])) [(.tmp 5), (.tmp 6), (.val (.bool false))], none⟩,
     ⟨(some 4), .plain (.mv (.tmp 7)), none⟩])
  (.ret))⟩
theorem ok72 : compFun Try.prog 72 = some fn72 := by kernel_rfl

/-- slices.Clone[[]postrider/ledger.entry,postrider/ledger.entry] -/
def fn73 : AFun := ⟨8, [2], .seq (.ops [⟨(some 2), .plain (.mv (.val .nils)), none⟩])
  (.seq (.seq (.ops [⟨(some 3), .plain (.mv (.tmp 0)), none⟩,
      ⟨(some 4), .plain (.eqn .slc false (.tmp 3) (.val .nils)), none⟩])
   (.cond (.tmp 4) (.seq (.ops [⟨(some 2), .plain (.mv (.val .nils)), none⟩])
    (.ret))
   (.skip)))
  (.seq (.ops [⟨(some 5), .plain (.buildSlice 89 3 [] 0 []), none⟩,
     ⟨(some 6), .plain (.mv (.tmp 0)), none⟩,
     ⟨(some 7), .plain (.append 89 3 24 (.tmp 5) (.tmp 6)), none⟩,
     ⟨(some 2), .plain (.mv (.tmp 7)), none⟩])
  (.ret)))⟩
theorem ok73 : compFun Try.prog 73 = some fn73 := by kernel_rfl

/-- postrider/postriderref14.offset -/
def fn74 : AFun := ⟨9, [2], .seq (.ops [⟨(some 2), .plain (.mv (.val (.bool false))), none⟩])
  (.seq (.ops [⟨(some 3), .plain (.mv (.tmp 0)), none⟩,
     ⟨(some 4), .plain (.bin .geq (.tmp 3) (.val (.int .i64 0))), none⟩,
     ⟨(some 5), .plain (.mv (.tmp 4)), none⟩,
     ⟨(some 6), .plain (.mv (.tmp 0)), (some (5, true))⟩,
     ⟨(some 7), .plain (.bin .leq (.tmp 6) (.val (.int .i64 1099511627776))), (some (5, true))⟩,
     ⟨(some 8), .plain (.pick (.tmp 5) (.tmp 7) (.val (.bool false))), none⟩,
     ⟨(some 2), .plain (.mv (.tmp 8)), none⟩])
  (.ret))⟩
theorem ok74 : compFun Try.prog 74 = some fn74 := by kernel_rfl

/-- (*postrider/ledger.Ledger).kind -/
def fn75 : AFun := ⟨6, [4], .seq (.ops [⟨(some 2), .plain (.box 39 (.tmp 0)), none⟩,
     ⟨(some 3), .plain (.box 4 (.tmp 1)), none⟩,
     ⟨(some 4), .plain (.mv (.val .nilf)), none⟩])
  (.seq (.ops [⟨(some 5), .plain (.mkFunc 86 [] [(.tmp 2), (.tmp 3)]), none⟩,
     ⟨(some 4), .plain (.mv (.tmp 5)), none⟩])
  (.ret))⟩
theorem ok75 : compFun Try.prog 75 = some fn75 := by kernel_rfl

/-- slices.IndexFunc[[]postrider/api.Owner,postrider/api.Owner] -/
def fn76 : AFun := ⟨19, [4], .seq (.ops [⟨(some 4), .plain (.mv (.val (.int .i64 0))), none⟩])
  (.seq (.seq (.ops [⟨(some 6), .plain (.mv (.tmp 0)), none⟩,
      ⟨(some 7), .plain (.lenS (.tmp 6)), none⟩,
      ⟨(some 8), .plain (.mv (.val (.int .i64 0))), none⟩])
   (.block 0 (.loop (.seq (.ops [⟨(some 9), .plain (.bin .lss (.tmp 8) (.tmp 7)), none⟩])
     (.seq (.cond (.tmp 9) (.skip)
      (.exit 0))
     (.seq (.block 1 (.seq (.ops [⟨(some 10), .plain (.mv (.tmp 8)), none⟩,
          ⟨(some 5), .plain (.mv (.tmp 10)), none⟩])
       (.seq (.ops [⟨(some 11), .plain (.mv (.tmp 1)), none⟩,
          ⟨(some 12), .plain (.mv (.tmp 0)), none⟩,
          ⟨(some 13), .plain (.mv (.tmp 5)), none⟩,
          ⟨(some 14), .plain (.idxS 3 (.tmp 12) (.tmp 13)), none⟩,
          ⟨(some 15), .plain (.loadN 3 (.tmp 14)), none⟩,
          ⟨(some 16), .call (.tmp 11) [(.tmp 15)], none⟩])
       (.cond (.tmp 16) (.seq (.ops [⟨(some 17), .plain (.mv (.tmp 5)), none⟩,
           ⟨(some 4), .plain (.mv (.tmp 17)), none⟩])
        (.ret))
       (.skip)))))
     (.ops [⟨(some 18), .plain (.bin .add (.tmp 8) (.val (.int .i64 1))), none⟩,
       ⟨(some 8), .plain (.mv (.tmp 18)), none⟩])))))))
  (.seq (.ops [⟨(some 4), .plain (.mv (.val (.int .i64 (-1)))), none⟩])
  (.ret)))⟩
theorem ok76 : compFun Try.prog 76 = some fn76 := by kernel_rfl

/-- (postrider/share.before).had -/
def fn81 : AFun := ⟨8, [6], .seq (.ops [⟨(some 3), .plain (.box 114 (.tmp 0)), none⟩,
     ⟨(some 4), .plain (.box 62 (.tmp 1)), none⟩,
     ⟨(some 5), .plain (.box 3 (.tmp 2)), none⟩,
     ⟨(some 6), .plain (.mv (.val .nilf)), none⟩])
  (.seq (.ops [⟨(some 7), .plain (.mkFunc 92 [] [(.tmp 4), (.tmp 3), (.tmp 5)]), none⟩,
     ⟨(some 6), .plain (.mv (.tmp 7)), none⟩])
  (.ret))⟩
theorem ok81 : compFun Try.prog 81 = some fn81 := by kernel_rfl

/-- slices.Clone[[]postrider/api.Owner,postrider/api.Owner] -/
def fn82 : AFun := ⟨8, [2], .seq (.ops [⟨(some 2), .plain (.mv (.val .nils)), none⟩])
  (.seq (.seq (.ops [⟨(some 3), .plain (.mv (.tmp 0)), none⟩,
      ⟨(some 4), .plain (.eqn .slc false (.tmp 3) (.val .nils)), none⟩])
   (.cond (.tmp 4) (.seq (.ops [⟨(some 2), .plain (.mv (.val .nils)), none⟩])
    (.ret))
   (.skip)))
  (.seq (.ops [⟨(some 5), .plain (.buildSlice 94 3 [] 0 []), none⟩,
     ⟨(some 6), .plain (.mv (.tmp 0)), none⟩,
     ⟨(some 7), .plain (.append 94 3 24 (.tmp 5) (.tmp 6)), none⟩,
     ⟨(some 2), .plain (.mv (.tmp 7)), none⟩])
  (.ret)))⟩
theorem ok82 : compFun Try.prog 82 = some fn82 := by kernel_rfl

/-- (*postrider/rebal.Table).going$1 -/
def fn84 : AFun := ⟨43, [], .seq (.ops [⟨(some 6), .plain (.load1 (.tmp 1)), none⟩,
     ⟨(some 7), .plain (.nilCheck (.tmp 6)), none⟩,
     ⟨(some 8), .plain (.addOff 0 (.tmp 7)), none⟩,
     ⟨(some 9), .plain (.load1 (.tmp 8)), none⟩,
     ⟨(some 10), .plain (.lenS (.tmp 9)), none⟩,
     ⟨(some 11), .plain (.mv (.val (.int .i64 0))), none⟩])
  (.block 0 (.loop (.seq (.ops [⟨(some 12), .plain (.bin .lss (.tmp 11) (.tmp 10)), none⟩])
    (.seq (.cond (.tmp 12) (.skip)
     (.exit 0))
    (.seq (.block 1 (.seq (.ops [⟨(some 13), .plain (.mv (.tmp 11)), none⟩,
         ⟨(some 14), .plain (.idxS 3 (.tmp 9) (.tmp 11)), none⟩,
         ⟨(some 15), .plain (.loadN 3 (.tmp 14)), none⟩,
         ⟨(some 5), .plain (.alloc 94 [(.int .i64 0), (.int .i64 0), (.int .i64 0)]), none⟩,
         ⟨(some 4), .plain (.mv (.tmp 13)), none⟩,
         ⟨none, .plain (.store 3 (.tmp 5) (.tmp 15)), none⟩])
      (.seq (.dops [⟨0, ⟨(some 16), .plain (.load1 (.tmp 2)), none⟩, []⟩,
         ⟨1, ⟨(some 17), .plain (.bin .gtr (.tmp 16) (.val (.int .i64 (-1)))), none⟩, []⟩,
         ⟨2, ⟨(some 18), .plain (.mv (.tmp 17)), none⟩, []⟩,
         ⟨3, ⟨(some 19), .plain (.addOff 2 (.tmp 5)), (some (18, true))⟩, []⟩,
         ⟨4, ⟨(some 20), .plain (.load1 (.tmp 19)), (some (18, true))⟩, []⟩,
         ⟨5, ⟨(some 21), .plain (.load1 (.tmp 2)), (some (18, true))⟩, []⟩,
         ⟨6, ⟨(some 22), .plain (.bin .eql (.tmp 20) (.tmp 21)), (some (18, true))⟩, []⟩,
         ⟨7, ⟨(some 23), .plain (.pick (.tmp 18) (.tmp 22) (.val (.bool false))), none⟩, []⟩,
         ⟨8, ⟨(some 24), .plain (.mv (.tmp 23)), none⟩, []⟩,
         ⟨9, ⟨(some 25), .plain (.load1 (.tmp 1)), (some (24, true))⟩, []⟩,
         ⟨10, ⟨(some 26), .plain (.nilCheck (.tmp 25)), (some (24, true))⟩, []⟩,
         ⟨11, ⟨(some 27), .plain (.addOff 1 (.tmp 26)), (some (24, true))⟩, []⟩,
         ⟨12, ⟨(some 28), .plain (.load1 (.tmp 27)), (some (24, true))⟩, []⟩,
         ⟨13, ⟨(some 29), .plain (.mv (.tmp 4)), (some (24, true))⟩, []⟩,
         ⟨14, ⟨(some 30), .plain (.idxS 3 (.tmp 28) (.tmp 29)), (some (24, true))⟩, []⟩,
         ⟨15, ⟨(some 31), .plain (.addOff 2 (.tmp 30)), (some (24, true))⟩, []⟩,
         ⟨16, ⟨(some 32), .plain (.load1 (.tmp 31)), (some (24, true))⟩, []⟩,
         ⟨17, ⟨(some 33), .plain (.load1 (.tmp 2)), (some (24, true))⟩, []⟩,
         ⟨18, ⟨(some 34), .plain (.bin .neq (.tmp 32) (.tmp 33)), (some (24, true))⟩, []⟩,
         ⟨19, ⟨(some 35), .plain (.pick (.tmp 24) (.tmp 34) (.val (.bool false))), none⟩, []⟩,
         ⟨20, ⟨(some 36), .plain (.mv (.tmp 35)), none⟩, []⟩,
         ⟨21, ⟨(some 37), .plain (.mv (.tmp 0)), (some (36, true))⟩, []⟩,
         ⟨22, ⟨(some 38), .plain (.mv (.tmp 4)), (some (36, true))⟩, []⟩,
         ⟨23, ⟨(some 39), .call (.tmp 37) [(.tmp 38)], (some (36, true))⟩, []⟩,
         ⟨24, ⟨(some 40), .plain (.not (.tmp 39)), (some (36, true))⟩, []⟩,
         ⟨25, ⟨(some 41), .plain (.pick (.tmp 36) (.tmp 40) (.val (.bool false))), none⟩, []⟩])
      (.cond (.tmp 41) (.ret)
      (.skip)))))
    (.ops [⟨(some 42), .plain (.bin .add (.tmp 11) (.val (.int .i64 1))), none⟩,
      ⟨(some 11), .plain (.mv (.tmp 42)), none⟩]))))))⟩
theorem ok84 : compFun Try.prog 84 = some fn84 := by kernel_rfl

/-- (*postrider/ledger.Ledger).kind$1 -/
def fn86 : AFun := ⟨27, [], .seq (.ops [⟨(some 6), .plain (.load1 (.tmp 1)), none⟩,
     ⟨(some 7), .plain (.nilCheck (.tmp 6)), none⟩,
     ⟨(some 8), .plain (.addOff 1 (.tmp 7)), none⟩,
     ⟨(some 9), .plain (.load1 (.tmp 8)), none⟩,
     ⟨(some 10), .plain (.lenS (.tmp 9)), none⟩,
     ⟨(some 11), .plain (.mv (.val (.int .i64 0))), none⟩])
  (.block 0 (.loop (.seq (.ops [⟨(some 12), .plain (.bin .lss (.tmp 11) (.tmp 10)), none⟩])
    (.seq (.cond (.tmp 12) (.skip)
     (.exit 0))
    (.seq (.block 1 (.seq (.ops [⟨(some 13), .plain (.idxS 3 (.tmp 9) (.tmp 11)), none⟩,
         ⟨(some 14), .plain (.loadN 3 (.tmp 13)), none⟩,
         ⟨(some 5), .plain (.alloc 89 [(.int .i64 0), (.int .i64 0), (.bool false)]), none⟩,
         ⟨none, .plain (.store 3 (.tmp 5) (.tmp 14)), none⟩])
      (.seq (.ops [⟨(some 15), .plain (.addOff 2 (.tmp 5)), none⟩,
         ⟨(some 16), .plain (.load1 (.tmp 15)), none⟩,
         ⟨(some 17), .plain (.load1 (.tmp 2)), none⟩,
         ⟨(some 18), .plain (.eqb false (.tmp 16) (.tmp 17)), none⟩,
         ⟨(some 19), .plain (.mv (.tmp 18)), none⟩,
         ⟨(some 20), .plain (.mv (.tmp 0)), (some (19, true))⟩,
         ⟨(some 21), .plain (.addOff 0 (.tmp 5)), (some (19, true))⟩,
         ⟨(some 22), .plain (.loadN 2 (.tmp 21)), (some (19, true))⟩,
         ⟨(some 23), .call (.tmp 20) [(.tmp 22)], (some (19, true))⟩,
         ⟨(some 24), .plain (.not (.tmp 23)), (some (19, true))⟩,
         ⟨(some 25), .plain (.pick (.tmp 19) (.tmp 24) (.val (.bool false))), none⟩])
      (.cond (.tmp 25) (.ret)
      (.skip)))))
    (.ops [⟨(some 26), .plain (.bin .add (.tmp 11) (.val (.int .i64 1))), none⟩,
      ⟨(some 11), .plain (.mv (.tmp 26)), none⟩]))))))⟩
theorem ok86 : compFun Try.prog 86 = some fn86 := by kernel_rfl

/-- slices.Backward[[]postrider/api.Owner,postrider/api.Owner] -/
def fn87 : AFun := ⟨4, [2], .seq (.ops [⟨(some 1), .plain (.box 68 (.tmp 0)), none⟩,
     ⟨(some 2), .plain (.mv (.val .nilf)), none⟩])
  (.seq (.ops [⟨(some 3), .plain (.mkFunc 94 [] [(.tmp 1)]), none⟩,
     ⟨(some 2), .plain (.mv (.tmp 3)), none⟩])
  (.ret))⟩
theorem ok87 : compFun Try.prog 87 = some fn87 := by kernel_rfl

/-- slices.Clone[[]int,int] -/
def fn88 : AFun := ⟨8, [2], .seq (.ops [⟨(some 2), .plain (.mv (.val .nils)), none⟩])
  (.seq (.seq (.ops [⟨(some 3), .plain (.mv (.tmp 0)), none⟩,
      ⟨(some 4), .plain (.eqn .slc false (.tmp 3) (.val .nils)), none⟩])
   (.cond (.tmp 4) (.seq (.ops [⟨(some 2), .plain (.mv (.val .nils)), none⟩])
    (.ret))
   (.skip)))
  (.seq (.ops [⟨(some 5), .plain (.buildSlice 3 1 [] 0 []), none⟩,
     ⟨(some 6), .plain (.mv (.tmp 0)), none⟩,
     ⟨(some 7), .plain (.append 3 1 8 (.tmp 5) (.tmp 6)), none⟩,
     ⟨(some 2), .plain (.mv (.tmp 7)), none⟩])
  (.ret)))⟩
theorem ok88 : compFun Try.prog 88 = some fn88 := by kernel_rfl

/-- slices.SortStableFunc[[]int,int] -/
def fn89 : AFun := ⟨9, [], .ops [⟨(some 4), .plain (.mv (.tmp 0)), none⟩,
    ⟨(some 5), .plain (.mv (.tmp 0)), none⟩,
    ⟨(some 6), .plain (.lenS (.tmp 5)), none⟩,
    ⟨(some 7), .plain (.mv (.tmp 1)), none⟩,
    ⟨(some 8), .call (.val (.func 95 [] [])) [(.tmp 4), (.tmp 6), (.tmp 7)], none⟩]⟩
theorem ok89 : compFun Try.prog 89 = some fn89 := by kernel_rfl

/-- cmp.Compare[int] -/
def fn91 : AFun := ⟨20, [4], .seq (.ops [⟨(some 4), .plain (.mv (.val (.int .i64 0))), none⟩])
  (.seq (.ops [⟨(some 7), .plain (.mv (.tmp 0)), none⟩,
     ⟨(some 8), .call (.val (.func 96 [] [])) [(.tmp 7)], none⟩,
     ⟨(some 5), .plain (.mv (.tmp 8)), none⟩])
  (.seq (.ops [⟨(some 9), .plain (.mv (.tmp 1)), none⟩,
     ⟨(some 10), .call (.val (.func 96 [] [])) [(.tmp 9)], none⟩,
     ⟨(some 6), .plain (.mv (.tmp 10)), none⟩])
  (.seq (.seq (.ops [⟨(some 11), .plain (.mv (.tmp 5)), none⟩])
   (.cond (.tmp 11) (.seq (.seq (.ops [⟨(some 12), .plain (.mv (.tmp 6)), none⟩])
     (.cond (.tmp 12) (.seq (.ops [⟨(some 4), .plain (.mv (.val (.int .i64 0))), none⟩])
      (.ret))
     (.skip)))
    (.seq (.ops [⟨(some 4), .plain (.mv (.val (.int .i64 (-1)))), none⟩])
    (.ret)))
   (.skip)))
  (.seq (.seq (.ops [⟨(some 13), .plain (.mv (.tmp 6)), none⟩])
   (.cond (.tmp 13) (.seq (.ops [⟨(some 4), .plain (.mv (.val (.int .i64 1))), none⟩])
    (.ret))
   (.skip)))
  (.seq (.seq (.ops [⟨(some 14), .plain (.mv (.tmp 0)), none⟩,
      ⟨(some 15), .plain (.mv (.tmp 1)), none⟩,
      ⟨(some 16), .plain (.bin .lss (.tmp 14) (.tmp 15)), none⟩])
   (.cond (.tmp 16) (.seq (.ops [⟨(some 4), .plain (.mv (.val (.int .i64 (-1)))), none⟩])
    (.ret))
   (.skip)))
  (.seq (.seq (.ops [⟨(some 17), .plain (.mv (.tmp 0)), none⟩,
      ⟨(some 18), .plain (.mv (.tmp 1)), none⟩,
      ⟨(some 19), .plain (.bin .gtr (.tmp 17) (.tmp 18)), none⟩])
   (.cond (.tmp 19) (.seq (.ops [⟨(some 4), .plain (.mv (.val (.int .i64 1))), none⟩])
    (.ret))
   (.skip)))
  (.seq (.ops [⟨(some 4), .plain (.mv (.val (.int .i64 0))), none⟩])
  (.ret))))))))⟩
theorem ok91 : compFun Try.prog 91 = some fn91 := by kernel_rfl

/-- (postrider/share.before).had$1 -/
def fn92 : AFun := ⟨26, [], .seq (.ops [⟨(some 7), .plain (.load1 (.tmp 1)), none⟩,
     ⟨(some 8), .plain (.lenS (.tmp 7)), none⟩,
     ⟨(some 9), .plain (.mv (.val (.int .i64 0))), none⟩])
  (.block 0 (.loop (.seq (.ops [⟨(some 10), .plain (.bin .lss (.tmp 9) (.tmp 8)), none⟩])
    (.seq (.cond (.tmp 10) (.skip)
     (.exit 0))
    (.seq (.block 1 (.seq (.ops [⟨(some 11), .plain (.mv (.tmp 9)), none⟩,
         ⟨(some 12), .plain (.idxS 2 (.tmp 7) (.tmp 9)), none⟩,
         ⟨(some 13), .plain (.loadN 2 (.tmp 12)), none⟩,
         ⟨(some 6), .plain (.alloc 57 [(.int .i64 0), (.int .i64 0)]), none⟩,
         ⟨(some 5), .plain (.mv (.tmp 11)), none⟩,
         ⟨none, .plain (.store 2 (.tmp 6) (.tmp 13)), none⟩])
      (.seq (.dops [⟨0, ⟨(some 14), .plain (.load1 (.tmp 2)), none⟩, []⟩,
         ⟨1, ⟨(some 15), .plain (.loadN 2 (.tmp 6)), none⟩, []⟩,
         ⟨3, ⟨(some 17), .plain (.load1 (.tmp 3)), none⟩, []⟩,
         ⟨2, ⟨(some 16), .call (.val (.func 93 [] [])) [(.tmp 14), (.tmp 15)], none⟩, [3]⟩,
         ⟨4, ⟨(some 18), .plain (.bin .eql (.tmp 16) (.tmp 17)), none⟩, []⟩,
         ⟨5, ⟨(some 19), .plain (.mv (.tmp 18)), none⟩, []⟩,
         ⟨6, ⟨(some 20), .plain (.mv (.tmp 0)), (some (19, true))⟩, []⟩,
         ⟨7, ⟨(some 21), .plain (.mv (.tmp 5)), (some (19, true))⟩, []⟩,
         ⟨8, ⟨(some 22), .call (.tmp 20) [(.tmp 21)], (some (19, true))⟩, []⟩,
         ⟨9, ⟨(some 23), .plain (.not (.tmp 22)), (some (19, true))⟩, []⟩,
         ⟨10, ⟨(some 24), .plain (.pick (.tmp 19) (.tmp 23) (.val (.bool false))), none⟩, []⟩])
      (.cond (.tmp 24) (.ret)
      (.skip)))))
    (.ops [⟨(some 25), .plain (.bin .add (.tmp 9) (.val (.int .i64 1))), none⟩,
      ⟨(some 9), .plain (.mv (.tmp 25)), none⟩]))))))⟩
theorem ok92 : compFun Try.prog 92 = some fn92 := by kernel_rfl

/-- slices.Backward[[]postrider/api.Owner,postrider/api.Owner]$1 -/
def fn94 : AFun := ⟨19, [], .seq (.ops [⟨(some 4), .plain (.load1 (.tmp 1)), none⟩,
     ⟨(some 5), .plain (.lenS (.tmp 4)), none⟩,
     ⟨(some 6), .plain (.bin .sub (.tmp 5) (.val (.int .i64 1))), none⟩,
     ⟨(some 3), .plain (.mv (.tmp 6)), none⟩])
  (.block 0 (.loop (.seq (.seq (.ops [⟨(some 7), .plain (.mv (.tmp 3)), none⟩,
        ⟨(some 8), .plain (.bin .geq (.tmp 7) (.val (.int .i64 0))), none⟩])
     (.cond (.tmp 8) (.skip)
     (.exit 0)))
    (.seq (.block 1 (.seq (.ops [⟨(some 11), .plain (.mv (.tmp 0)), none⟩,
         ⟨(some 12), .plain (.mv (.tmp 3)), none⟩,
         ⟨(some 13), .plain (.load1 (.tmp 1)), none⟩,
         ⟨(some 14), .plain (.mv (.tmp 3)), none⟩,
         ⟨(some 15), .plain (.idxS 3 (.tmp 13) (.tmp 14)), none⟩,
         ⟨(some 16), .plain (.loadN 3 (.tmp 15)), none⟩,
         ⟨(some 17), .call (.tmp 11) [(.tmp 12), (.tmp 16)], none⟩,
         ⟨(some 18), .plain (.not (.tmp 17)), none⟩])
      (.cond (.tmp 18) (.ret)
      (.skip))))
    (.ops [⟨(some 9), .plain (.mv (.tmp 3)), none⟩,
      ⟨(some 10), .plain (.bin .sub (.tmp 9) (.val (.int .i64 1))), none⟩,
      ⟨(some 3), .plain (.mv (.tmp 10)), none⟩])))))⟩
theorem ok94 : compFun Try.prog 94 = some fn94 := by kernel_rfl

/-- slices.stableCmpFunc[int] -/
def fn95 : AFun := ⟨63, [], .seq (.ops [⟨(some 6), .plain (.mv (.val (.int .i64 20))), none⟩])
  (.seq (.ops [⟨(some 10), .plain (.mv (.tmp 6)), none⟩,
     ⟨(some 7), .plain (.mv (.val (.int .i64 0))), none⟩,
     ⟨(some 8), .plain (.mv (.tmp 10)), none⟩])
  (.seq (.block 0 (.loop (.seq (.seq (.ops [⟨(some 11), .plain (.mv (.tmp 8)), none⟩,
         ⟨(some 12), .plain (.mv (.tmp 1)), none⟩,
         ⟨(some 13), .plain (.bin .leq (.tmp 11) (.tmp 12)), none⟩])
      (.cond (.tmp 13) (.skip)
      (.exit 0)))
     (.block 1 (.seq (.ops [⟨(some 14), .plain (.mv (.tmp 0)), none⟩,
         ⟨(some 15), .plain (.mv (.tmp 7)), none⟩,
         ⟨(some 16), .plain (.mv (.tmp 8)), none⟩,
         ⟨(some 17), .plain (.mv (.tmp 2)), none⟩,
         ⟨(some 18), .call (.val (.func 97 [] [])) [(.tmp 14), (.tmp 15), (.tmp 16), (.tmp 17)], none⟩])
      (.seq (.ops [⟨(some 19), .plain (.mv (.tmp 8)), none⟩,
         ⟨(some 7), .plain (.mv (.tmp 19)), none⟩])
      (.ops [⟨(some 20), .plain (.mv (.tmp 8)), none⟩,
        ⟨(some 21), .plain (.mv (.tmp 6)), none⟩,
        ⟨(some 22), .plain (.bin .add (.tmp 20) (.tmp 21)), none⟩,
        ⟨(some 8), .plain (.mv (.tmp 22)), none⟩])))))))
  (.seq (.ops [⟨(some 23), .plain (.mv (.tmp 0)), none⟩,
     ⟨(some 24), .plain (.mv (.tmp 7)), none⟩,
     ⟨(some 25), .plain (.mv (.tmp 1)), none⟩,
     ⟨(some 26), .plain (.mv (.tmp 2)), none⟩,
     ⟨(some 27), .call (.val (.func 97 [] [])) [(.tmp 23), (.tmp 24), (.tmp 25), (.tmp 26)], none⟩])
  (.block 2 (.loop (.seq (.seq (.ops [⟨(some 28), .plain (.mv (.tmp 6)), none⟩,
        ⟨(some 29), .plain (.mv (.tmp 1)), none⟩,
        ⟨(some 30), .plain (.bin .lss (.tmp 28) (.tmp 29)), none⟩])
     (.cond (.tmp 30) (.skip)
     (.exit 2)))
    (.block 3 (.seq (.ops [⟨(some 31), .plain (.mv (.tmp 6)), none⟩,
        ⟨(some 32), .plain (.bin .mul (.val (.int .i64 2)) (.tmp 31)), none⟩,
        ⟨(some 7), .plain (.mv (.val (.int .i64 0))), none⟩,
        ⟨(some 8), .plain (.mv (.tmp 32)), none⟩])
     (.seq (.block 4 (.loop (.seq (.seq (.ops [⟨(some 33), .plain (.mv (.tmp 8)), none⟩,
            ⟨(some 34), .plain (.mv (.tmp 1)), none⟩,
            ⟨(some 35), .plain (.bin .leq (.tmp 33) (.tmp 34)), none⟩])
         (.cond (.tmp 35) (.skip)
         (.exit 4)))
        (.block 5 (.seq (.ops [⟨(some 36), .plain (.mv (.tmp 0)), none⟩,
            ⟨(some 37), .plain (.mv (.tmp 7)), none⟩,
            ⟨(some 38), .plain (.mv (.tmp 7)), none⟩,
            ⟨(some 39), .plain (.mv (.tmp 6)), none⟩,
            ⟨(some 40), .plain (.bin .add (.tmp 38) (.tmp 39)), none⟩,
            ⟨(some 41), .plain (.mv (.tmp 8)), none⟩,
            ⟨(some 42), .plain (.mv (.tmp 2)), none⟩,
            ⟨(some 43), .call (.val (.func 98 [] [])) [(.tmp 36), (.tmp 37), (.tmp 40), (.tmp 41), (.tmp 42)], none⟩])
         (.seq (.ops [⟨(some 44), .plain (.mv (.tmp 8)), none⟩,
            ⟨(some 7), .plain (.mv (.tmp 44)), none⟩])
         (.ops [⟨(some 45), .plain (.mv (.tmp 8)), none⟩,
           ⟨(some 46), .plain (.mv (.tmp 6)), none⟩,
           ⟨(some 47), .plain (.bin .mul (.val (.int .i64 2)) (.tmp 46)), none⟩,
           ⟨(some 48), .plain (.bin .add (.tmp 45) (.tmp 47)), none⟩,
           ⟨(some 8), .plain (.mv (.tmp 48)), none⟩])))))))
     (.seq (.seq (.ops [⟨(some 49), .plain (.mv (.tmp 7)), none⟩,
         ⟨(some 50), .plain (.mv (.tmp 6)), none⟩,
         ⟨(some 51), .plain (.bin .add (.tmp 49) (.tmp 50)), none⟩,
         ⟨(some 9), .plain (.mv (.tmp 51)), none⟩])
      (.seq (.ops [⟨(some 52), .plain (.mv (.tmp 9)), none⟩,
         ⟨(some 53), .plain (.mv (.tmp 1)), none⟩,
         ⟨(some 54), .plain (.bin .lss (.tmp 52) (.tmp 53)), none⟩])
      (.cond (.tmp 54) (.ops [⟨(some 55), .plain (.mv (.tmp 0)), none⟩,
         ⟨(some 56), .plain (.mv (.tmp 7)), none⟩,
         ⟨(some 57), .plain (.mv (.tmp 9)), none⟩,
         ⟨(some 58), .plain (.mv (.tmp 1)), none⟩,
         ⟨(some 59), .plain (.mv (.tmp 2)), none⟩,
         ⟨(some 60), .call (.val (.func 98 [] [])) [(.tmp 55), (.tmp 56), (.tmp 57), (.tmp 58), (.tmp 59)], none⟩])
      (.skip))))
     (.ops [⟨(some 61), .plain (.mv (.tmp 6)), none⟩,
       ⟨(some 62), .plain (.bin .mul (.tmp 61) (.val (.int .i64 2))), none⟩,
       ⟨(some 6), .plain (.mv (.tmp 62)), none⟩])))))))))))⟩
theorem ok95 : compFun Try.prog 95 = some fn95 := by kernel_rfl

/-- cmp.isNaN[int] -/
def fn96 : AFun := ⟨6, [2], .seq (.ops [⟨(some 2), .plain (.mv (.val (.bool false))), none⟩])
  (.seq (.ops [⟨(some 3), .plain (.mv (.tmp 0)), none⟩,
     ⟨(some 4), .plain (.mv (.tmp 0)), none⟩,
     ⟨(some 5), .plain (.bin .neq (.tmp 3) (.tmp 4)), none⟩,
     ⟨(some 2), .plain (.mv (.tmp 5)), none⟩])
  (.ret))⟩
theorem ok96 : compFun Try.prog 96 = some fn96 := by kernel_rfl

/-- slices.insertionSortCmpFunc[int] -/
def fn97 : AFun := ⟨53, [], .seq (.ops [⟨(some 10), .plain (.mv (.tmp 1)), none⟩,
     ⟨(some 11), .plain (.bin .add (.tmp 10) (.val (.int .i64 1))), none⟩,
     ⟨(some 8), .plain (.mv (.tmp 11)), none⟩])
  (.block 0 (.loop (.seq (.seq (.ops [⟨(some 12), .plain (.mv (.tmp 8)), none⟩,
        ⟨(some 13), .plain (.mv (.tmp 2)), none⟩,
        ⟨(some 14), .plain (.bin .lss (.tmp 12) (.tmp 13)), none⟩])
     (.cond (.tmp 14) (.skip)
     (.exit 0)))
    (.seq (.block 1 (.seq (.ops [⟨(some 17), .plain (.mv (.tmp 8)), none⟩,
         ⟨(some 9), .plain (.mv (.tmp 17)), none⟩])
      (.block 2 (.loop (.seq (.seq (.dops [⟨0, ⟨(some 18), .plain (.mv (.tmp 9)), none⟩, []⟩,
            ⟨1, ⟨(some 19), .plain (.mv (.tmp 1)), none⟩, []⟩,
            ⟨2, ⟨(some 20), .plain (.bin .gtr (.tmp 18) (.tmp 19)), none⟩, []⟩,
            ⟨3, ⟨(some 21), .plain (.mv (.tmp 20)), none⟩, []⟩,
            ⟨4, ⟨(some 22), .plain (.mv (.tmp 3)), (some (21, true))⟩, []⟩,
            ⟨5, ⟨(some 23), .plain (.mv (.tmp 0)), (some (21, true))⟩, []⟩,
            ⟨6, ⟨(some 24), .plain (.mv (.tmp 9)), (some (21, true))⟩, []⟩,
            ⟨7, ⟨(some 25), .plain (.idxS 1 (.tmp 23) (.tmp 24)), (some (21, true))⟩, []⟩,
            ⟨8, ⟨(some 26), .plain (.load1 (.tmp 25)), (some (21, true))⟩, []⟩,
            ⟨9, ⟨(some 27), .plain (.mv (.tmp 0)), (some (21, true))⟩, []⟩,
            ⟨10, ⟨(some 28), .plain (.mv (.tmp 9)), (some (21, true))⟩, []⟩,
            ⟨11, ⟨(some 29), .plain (.bin .sub (.tmp 28) (.val (.int .i64 1))), (some (21, true))⟩, []⟩,
            ⟨12, ⟨(some 30), .plain (.idxS 1 (.tmp 27) (.tmp 29)), (some (21, true))⟩, []⟩,
            ⟨13, ⟨(some 31), .plain (.load1 (.tmp 30)), (some (21, true))⟩, []⟩,
            ⟨14, ⟨(some 32), .call (.tmp 22) [(.tmp 26), (.tmp 31)], (some (21, true))⟩, []⟩,
            ⟨15, ⟨(some 33), .plain (.bin .lss (.tmp 32) (.val (.int .i64 0))), (some (21, true))⟩, []⟩,
            ⟨16, ⟨(some 34), .plain (.pick (.tmp 21) (.tmp 33) (.val (.bool false))), none⟩, []⟩])
         (.cond (.tmp 34) (.skip)
         (.exit 2)))
        (.seq (.block 3 (.dops [⟨0, ⟨(some 37), .plain (.mv (.tmp 0)), none⟩, []⟩,
            ⟨1, ⟨(some 38), .plain (.mv (.tmp 9)), none⟩, []⟩,
            ⟨2, ⟨(some 39), .plain (.mv (.tmp 0)), none⟩, []⟩,
            ⟨3, ⟨(some 40), .plain (.mv (.tmp 9)), none⟩, []⟩,
            ⟨4, ⟨(some 41), .plain (.bin .sub (.tmp 40) (.val (.int .i64 1))), none⟩, []⟩,
            ⟨5, ⟨(some 42), .plain (.mv (.tmp 0)), none⟩, []⟩,
            ⟨6, ⟨(some 43), .plain (.mv (.tmp 9)), none⟩, []⟩,
            ⟨7, ⟨(some 44), .plain (.bin .sub (.tmp 43) (.val (.int .i64 1))), none⟩, []⟩,
            ⟨8, ⟨(some 45), .plain (.idxS 1 (.tmp 42) (.tmp 44)), none⟩, []⟩,
            ⟨9, ⟨(some 46), .plain (.load1 (.tmp 45)), none⟩, []⟩,
            ⟨10, ⟨(some 47), .plain (.mv (.tmp 0)), none⟩, []⟩,
            ⟨11, ⟨(some 48), .plain (.mv (.tmp 9)), none⟩, []⟩,
            ⟨12, ⟨(some 49), .plain (.idxS 1 (.tmp 47) (.tmp 48)), none⟩, []⟩,
            ⟨13, ⟨(some 50), .plain (.load1 (.tmp 49)), none⟩, []⟩,
            ⟨14, ⟨(some 51), .plain (.idxS 1 (.tmp 37) (.tmp 38)), none⟩, []⟩,
            ⟨15, ⟨none, .plain (.store 1 (.tmp 51) (.tmp 46)), none⟩, []⟩,
            ⟨16, ⟨(some 52), .plain (.idxS 1 (.tmp 39) (.tmp 41)), none⟩, []⟩,
            ⟨17, ⟨none, .plain (.store 1 (.tmp 52) (.tmp 50)), none⟩, []⟩]))
        (.ops [⟨(some 35), .plain (.mv (.tmp 9)), none⟩,
          ⟨(some 36), .plain (.bin .sub (.tmp 35) (.val (.int .i64 1))), none⟩,
          ⟨(some 9), .plain (.mv (.tmp 36)), none⟩])))))))
    (.ops [⟨(some 15), .plain (.mv (.tmp 8)), none⟩,
      ⟨(some 16), .plain (.bin .add (.tmp 15) (.val (.int .i64 1))), none⟩,
      ⟨(some 8), .plain (.mv (.tmp 16)), none⟩])))))⟩
theorem ok97 : compFun Try.prog 97 = some fn97 := by kernel_rfl

/-- slices.symMergeCmpFunc[int] -/
def fn98 : AFun := ⟨220, [], .seq (.seq (.ops [⟨(some 25), .plain (.mv (.tmp 2)), none⟩,
      ⟨(some 26), .plain (.mv (.tmp 1)), none⟩,
      ⟨(some 27), .plain (.bin .sub (.tmp 25) (.tmp 26)), none⟩,
      ⟨(some 28), .plain (.bin .eql (.tmp 27) (.val (.int .i64 1))), none⟩])
   (.cond (.tmp 28) (.seq (.ops [⟨(some 29), .plain (.mv (.tmp 2)), none⟩,
       ⟨(some 10), .plain (.mv (.tmp 29)), none⟩])
    (.seq (.ops [⟨(some 30), .plain (.mv (.tmp 3)), none⟩,
       ⟨(some 11), .plain (.mv (.tmp 30)), none⟩])
    (.seq (.block 0 (.loop (.seq (.seq (.ops [⟨(some 31), .plain (.mv (.tmp 10)), none⟩,
           ⟨(some 32), .plain (.mv (.tmp 11)), none⟩,
           ⟨(some 33), .plain (.bin .lss (.tmp 31) (.tmp 32)), none⟩])
        (.cond (.tmp 33) (.skip)
        (.exit 0)))
       (.block 1 (.seq (.ops [⟨(some 34), .plain (.mv (.tmp 10)), none⟩,
           ⟨(some 35), .plain (.mv (.tmp 11)), none⟩,
           ⟨(some 36), .plain (.bin .add (.tmp 34) (.tmp 35)), none⟩,
           ⟨(some 37), .plain (.conv .u64 (.tmp 36)), none⟩,
           ⟨(some 38), .plain (.shift .shr (.tmp 37) (.val (.int .u64 1))), none⟩,
           ⟨(some 39), .plain (.conv .i64 (.tmp 38)), none⟩,
           ⟨(some 12), .plain (.mv (.tmp 39)), none⟩])
        (.seq (.dops [⟨0, ⟨(some 40), .plain (.mv (.tmp 4)), none⟩, []⟩,
           ⟨1, ⟨(some 41), .plain (.mv (.tmp 0)), none⟩, []⟩,
           ⟨2, ⟨(some 42), .plain (.mv (.tmp 12)), none⟩, []⟩,
           ⟨3, ⟨(some 43), .plain (.idxS 1 (.tmp 41) (.tmp 42)), none⟩, []⟩,
           ⟨4, ⟨(some 44), .plain (.load1 (.tmp 43)), none⟩, []⟩,
           ⟨5, ⟨(some 45), .plain (.mv (.tmp 0)), none⟩, []⟩,
           ⟨6, ⟨(some 46), .plain (.mv (.tmp 1)), none⟩, []⟩,
           ⟨7, ⟨(some 47), .plain (.idxS 1 (.tmp 45) (.tmp 46)), none⟩, []⟩,
           ⟨8, ⟨(some 48), .plain (.load1 (.tmp 47)), none⟩, []⟩,
           ⟨9, ⟨(some 49), .call (.tmp 40) [(.tmp 44), (.tmp 48)], none⟩, []⟩,
           ⟨10, ⟨(some 50), .plain (.bin .lss (.tmp 49) (.val (.int .i64 0))), none⟩, []⟩])
        (.cond (.tmp 50) (.ops [⟨(some 51), .plain (.mv (.tmp 12)), none⟩,
           ⟨(some 52), .plain (.bin .add (.tmp 51) (.val (.int .i64 1))), none⟩,
           ⟨(some 10), .plain (.mv (.tmp 52)), none⟩])
        (.ops [⟨(some 53), .plain (.mv (.tmp 12)), none⟩,
           ⟨(some 11), .plain (.mv (.tmp 53)), none⟩]))))))))
    (.seq (.seq (.ops [⟨(some 54), .plain (.mv (.tmp 1)), none⟩,
        ⟨(some 13), .plain (.mv (.tmp 54)), none⟩])
     (.block 2 (.loop (.seq (.seq (.ops [⟨(some 55), .plain (.mv (.tmp 13)), none⟩,
           ⟨(some 56), .plain (.mv (.tmp 10)), none⟩,
           ⟨(some 57), .plain (.bin .sub (.tmp 56) (.val (.int .i64 1))), none⟩,
           ⟨(some 58), .plain (.bin .lss (.tmp 55) (.tmp 57)), none⟩])
        (.cond (.tmp 58) (.skip)
        (.exit 2)))
       (.seq (.block 3 (.dops [⟨0, ⟨(some 61), .plain (.mv (.tmp 0)), none⟩, []⟩,
           ⟨1, ⟨(some 62), .plain (.mv (.tmp 13)), none⟩, []⟩,
           ⟨2, ⟨(some 63), .plain (.mv (.tmp 0)), none⟩, []⟩,
           ⟨3, ⟨(some 64), .plain (.mv (.tmp 13)), none⟩, []⟩,
           ⟨4, ⟨(some 65), .plain (.bin .add (.tmp 64) (.val (.int .i64 1))), none⟩, []⟩,
           ⟨5, ⟨(some 66), .plain (.mv (.tmp 0)), none⟩, []⟩,
           ⟨6, ⟨(some 67), .plain (.mv (.tmp 13)), none⟩, []⟩,
           ⟨7, ⟨(some 68), .plain (.bin .add (.tmp 67) (.val (.int .i64 1))), none⟩, []⟩,
           ⟨8, ⟨(some 69), .plain (.idxS 1 (.tmp 66) (.tmp 68)), none⟩, []⟩,
           ⟨9, ⟨(some 70), .plain (.load1 (.tmp 69)), none⟩, []⟩,
           ⟨10, ⟨(some 71), .plain (.mv (.tmp 0)), none⟩, []⟩,
           ⟨11, ⟨(some 72), .plain (.mv (.tmp 13)), none⟩, []⟩,
           ⟨12, ⟨(some 73), .plain (.idxS 1 (.tmp 71) (.tmp 72)), none⟩, []⟩,
           ⟨13, ⟨(some 74), .plain (.load1 (.tmp 73)), none⟩, []⟩,
           ⟨14, ⟨(some 75), .plain (.idxS 1 (.tmp 61) (.tmp 62)), none⟩, []⟩,
           ⟨15, ⟨none, .plain (.store 1 (.tmp 75) (.tmp 70)), none⟩, []⟩,
           ⟨16, ⟨(some 76), .plain (.idxS 1 (.tmp 63) (.tmp 65)), none⟩, []⟩,
           ⟨17, ⟨none, .plain (.store 1 (.tmp 76) (.tmp 74)), none⟩, []⟩]))
       (.ops [⟨(some 59), .plain (.mv (.tmp 13)), none⟩,
         ⟨(some 60), .plain (.bin .add (.tmp 59) (.val (.int .i64 1))), none⟩,
         ⟨(some 13), .plain (.mv (.tmp 60)), none⟩]))))))
    (.ret)))))
   (.skip)))
  (.seq (.seq (.ops [⟨(some 77), .plain (.mv (.tmp 3)), none⟩,
      ⟨(some 78), .plain (.mv (.tmp 2)), none⟩,
      ⟨(some 79), .plain (.bin .sub (.tmp 77) (.tmp 78)), none⟩,
      ⟨(some 80), .plain (.bin .eql (.tmp 79) (.val (.int .i64 1))), none⟩])
   (.cond (.tmp 80) (.seq (.ops [⟨(some 81), .plain (.mv (.tmp 1)), none⟩,
       ⟨(some 14), .plain (.mv (.tmp 81)), none⟩])
    (.seq (.ops [⟨(some 82), .plain (.mv (.tmp 2)), none⟩,
       ⟨(some 15), .plain (.mv (.tmp 82)), none⟩])
    (.seq (.block 4 (.loop (.seq (.seq (.ops [⟨(some 83), .plain (.mv (.tmp 14)), none⟩,
           ⟨(some 84), .plain (.mv (.tmp 15)), none⟩,
           ⟨(some 85), .plain (.bin .lss (.tmp 83) (.tmp 84)), none⟩])
        (.cond (.tmp 85) (.skip)
        (.exit 4)))
       (.block 5 (.seq (.ops [⟨(some 86), .plain (.mv (.tmp 14)), none⟩,
           ⟨(some 87), .plain (.mv (.tmp 15)), none⟩,
           ⟨(some 88), .plain (.bin .add (.tmp 86) (.tmp 87)), none⟩,
           ⟨(some 89), .plain (.conv .u64 (.tmp 88)), none⟩,
           ⟨(some 90), .plain (.shift .shr (.tmp 89) (.val (.int .u64 1))), none⟩,
           ⟨(some 91), .plain (.conv .i64 (.tmp 90)), none⟩,
           ⟨(some 16), .plain (.mv (.tmp 91)), none⟩])
        (.seq (.dops [⟨0, ⟨(some 92), .plain (.mv (.tmp 4)), none⟩, []⟩,
           ⟨1, ⟨(some 93), .plain (.mv (.tmp 0)), none⟩, []⟩,
           ⟨2, ⟨(some 94), .plain (.mv (.tmp 2)), none⟩, []⟩,
           ⟨3, ⟨(some 95), .plain (.idxS 1 (.tmp 93) (.tmp 94)), none⟩, []⟩,
           ⟨4, ⟨(some 96), .plain (.load1 (.tmp 95)), none⟩, []⟩,
           ⟨5, ⟨(some 97), .plain (.mv (.tmp 0)), none⟩, []⟩,
           ⟨6, ⟨(some 98), .plain (.mv (.tmp 16)), none⟩, []⟩,
           ⟨7, ⟨(some 99), .plain (.idxS 1 (.tmp 97) (.tmp 98)), none⟩, []⟩,
           ⟨8, ⟨(some 100), .plain (.load1 (.tmp 99)), none⟩, []⟩,
           ⟨9, ⟨(some 101), .call (.tmp 92) [(.tmp 96), (.tmp 100)], none⟩, []⟩,
           ⟨10, ⟨(some 102), .plain (.bin .lss (.tmp 101) (.val (.int .i64 0))), none⟩, []⟩,
           ⟨11, ⟨(some 103), .plain (.not (.tmp 102)), none⟩, []⟩])
        (.cond (.tmp 103) (.ops [⟨(some 104), .plain (.mv (.tmp 16)), none⟩,
           ⟨(some 105), .plain (.bin .add (.tmp 104) (.val (.int .i64 1))), none⟩,
           ⟨(some 14), .plain (.mv (.tmp 105)), none⟩])
        (.ops [⟨(some 106), .plain (.mv (.tmp 16)), none⟩,
           ⟨(some 15), .plain (.mv (.tmp 106)), none⟩]))))))))
    (.seq (.seq (.ops [⟨(some 107), .plain (.mv (.tmp 2)), none⟩,
        ⟨(some 17), .plain (.mv (.tmp 107)), none⟩])
     (.block 6 (.loop (.seq (.seq (.ops [⟨(some 108), .plain (.mv (.tmp 17)), none⟩,
           ⟨(some 109), .plain (.mv (.tmp 14)), none⟩,
           ⟨(some 110), .plain (.bin .gtr (.tmp 108) (.tmp 109)), none⟩])
        (.cond (.tmp 110) (.skip)
        (.exit 6)))
       (.seq (.block 7 (.dops [⟨0, ⟨(some 113), .plain (.mv (.tmp 0)), none⟩, []⟩,
           ⟨1, ⟨(some 114), .plain (.mv (.tmp 17)), none⟩, []⟩,
           ⟨2, ⟨(some 115), .plain (.mv (.tmp 0)), none⟩, []⟩,
           ⟨3, ⟨(some 116), .plain (.mv (.tmp 17)), none⟩, []⟩,
           ⟨4, ⟨(some 117), .plain (.bin .sub (.tmp 116) (.val (.int .i64 1))), none⟩, []⟩,
           ⟨5, ⟨(some 118), .plain (.mv (.tmp 0)), none⟩, []⟩,
           ⟨6, ⟨(some 119), .plain (.mv (.tmp 17)), none⟩, []⟩,
           ⟨7, ⟨(some 120), .plain (.bin .sub (.tmp 119) (.val (.int .i64 1))), none⟩, []⟩,
           ⟨8, ⟨(some 121), .plain (.idxS 1 (.tmp 118) (.tmp 120)), none⟩, []⟩,
           ⟨9, ⟨(some 122), .plain (.load1 (.tmp 121)), none⟩, []⟩,
           ⟨10, ⟨(some 123), .plain (.mv (.tmp 0)), none⟩, []⟩,
           ⟨11, ⟨(some 124), .plain (.mv (.tmp 17)), none⟩, []⟩,
           ⟨12, ⟨(some 125), .plain (.idxS 1 (.tmp 123) (.tmp 124)), none⟩, []⟩,
           ⟨13, ⟨(some 126), .plain (.load1 (.tmp 125)), none⟩, []⟩,
           ⟨14, ⟨(some 127), .plain (.idxS 1 (.tmp 113) (.tmp 114)), none⟩, []⟩,
           ⟨15, ⟨none, .plain (.store 1 (.tmp 127) (.tmp 122)), none⟩, []⟩,
           ⟨16, ⟨(some 128), .plain (.idxS 1 (.tmp 115) (.tmp 117)), none⟩, []⟩,
           ⟨17, ⟨none, .plain (.store 1 (.tmp 128) (.tmp 126)), none⟩, []⟩]))
       (.ops [⟨(some 111), .plain (.mv (.tmp 17)), none⟩,
         ⟨(some 112), .plain (.bin .sub (.tmp 111) (.val (.int .i64 1))), none⟩,
         ⟨(some 17), .plain (.mv (.tmp 112)), none⟩]))))))
    (.ret)))))
   (.skip)))
  (.seq (.ops [⟨(some 129), .plain (.mv (.tmp 1)), none⟩,
     ⟨(some 130), .plain (.mv (.tmp 3)), none⟩,
     ⟨(some 131), .plain (.bin .add (.tmp 129) (.tmp 130)), none⟩,
     ⟨(some 132), .plain (.conv .u64 (.tmp 131)), none⟩,
     ⟨(some 133), .plain (.shift .shr (.tmp 132) (.val (.int .u64 1))), none⟩,
     ⟨(some 134), .plain (.conv .i64 (.tmp 133)), none⟩,
     ⟨(some 18), .plain (.mv (.tmp 134)), none⟩])
  (.seq (.ops [⟨(some 135), .plain (.mv (.tmp 18)), none⟩,
     ⟨(some 136), .plain (.mv (.tmp 2)), none⟩,
     ⟨(some 137), .plain (.bin .add (.tmp 135) (.tmp 136)), none⟩,
     ⟨(some 19), .plain (.mv (.tmp 137)), none⟩])
  (.seq (.ops [⟨(some 20), .plain (.mv (.val (.int .i64 0))), none⟩,
     ⟨(some 21), .plain (.mv (.val (.int .i64 0))), none⟩])
  (.seq (.seq (.ops [⟨(some 138), .plain (.mv (.tmp 2)), none⟩,
      ⟨(some 139), .plain (.mv (.tmp 18)), none⟩,
      ⟨(some 140), .plain (.bin .gtr (.tmp 138) (.tmp 139)), none⟩])
   (.cond (.tmp 140) (.seq (.ops [⟨(some 141), .plain (.mv (.tmp 19)), none⟩,
       ⟨(some 142), .plain (.mv (.tmp 3)), none⟩,
       ⟨(some 143), .plain (.bin .sub (.tmp 141) (.tmp 142)), none⟩,
       ⟨(some 20), .plain (.mv (.tmp 143)), none⟩])
    (.ops [⟨(some 144), .plain (.mv (.tmp 18)), none⟩,
      ⟨(some 21), .plain (.mv (.tmp 144)), none⟩]))
   (.seq (.ops [⟨(some 145), .plain (.mv (.tmp 1)), none⟩,
       ⟨(some 20), .plain (.mv (.tmp 145)), none⟩])
    (.ops [⟨(some 146), .plain (.mv (.tmp 2)), none⟩,
      ⟨(some 21), .plain (.mv (.tmp 146)), none⟩]))))
  (.seq (.ops [⟨(some 147), .plain (.mv (.tmp 19)), none⟩,
     ⟨(some 148), .plain (.bin .sub (.tmp 147) (.val (.int .i64 1))), none⟩,
     ⟨(some 22), .plain (.mv (.tmp 148)), none⟩])
  (.seq (.block 8 (.loop (.seq (.seq (.ops [⟨(some 149), .plain (.mv (.tmp 20)), none⟩,
         ⟨(some 150), .plain (.mv (.tmp 21)), none⟩,
         ⟨(some 151), .plain (.bin .lss (.tmp 149) (.tmp 150)), none⟩])
      (.cond (.tmp 151) (.skip)
      (.exit 8)))
     (.block 9 (.seq (.ops [⟨(some 152), .plain (.mv (.tmp 20)), none⟩,
         ⟨(some 153), .plain (.mv (.tmp 21)), none⟩,
         ⟨(some 154), .plain (.bin .add (.tmp 152) (.tmp 153)), none⟩,
         ⟨(some 155), .plain (.conv .u64 (.tmp 154)), none⟩,
         ⟨(some 156), .plain (.shift .shr (.tmp 155) (.val (.int .u64 1))), none⟩,
         ⟨(some 157), .plain (.conv .i64 (.tmp 156)), none⟩,
         ⟨(some 23), .plain (.mv (.tmp 157)), none⟩])
      (.seq (.dops [⟨0, ⟨(some 158), .plain (.mv (.tmp 4)), none⟩, []⟩,
         ⟨1, ⟨(some 159), .plain (.mv (.tmp 0)), none⟩, []⟩,
         ⟨2, ⟨(some 160), .plain (.mv (.tmp 22)), none⟩, []⟩,
         ⟨3, ⟨(some 161), .plain (.mv (.tmp 23)), none⟩, []⟩,
         ⟨4, ⟨(some 162), .plain (.bin .sub (.tmp 160) (.tmp 161)), none⟩, []⟩,
         ⟨5, ⟨(some 163), .plain (.idxS 1 (.tmp 159) (.tmp 162)), none⟩, []⟩,
         ⟨6, ⟨(some 164), .plain (.load1 (.tmp 163)), none⟩, []⟩,
         ⟨7, ⟨(some 165), .plain (.mv (.tmp 0)), none⟩, []⟩,
         ⟨8, ⟨(some 166), .plain (.mv (.tmp 23)), none⟩, []⟩,
         ⟨9, ⟨(some 167), .plain (.idxS 1 (.tmp 165) (.tmp 166)), none⟩, []⟩,
         ⟨10, ⟨(some 168), .plain (.load1 (.tmp 167)), none⟩, []⟩,
         ⟨11, ⟨(some 169), .call (.tmp 158) [(.tmp 164), (.tmp 168)], none⟩, []⟩,
         ⟨12, ⟨(some 170), .plain (.bin .lss (.tmp 169) (.val (.int .i64 0))), none⟩, []⟩,
         ⟨13, ⟨(some 171), .plain (.not (.tmp 170)), none⟩, []⟩])
      (.cond (.tmp 171) (.ops [⟨(some 172), .plain (.mv (.tmp 23)), none⟩,
         ⟨(some 173), .plain (.bin .add (.tmp 172) (.val (.int .i64 1))), none⟩,
         ⟨(some 20), .plain (.mv (.tmp 173)), none⟩])
      (.ops [⟨(some 174), .plain (.mv (.tmp 23)), none⟩,
         ⟨(some 21), .plain (.mv (.tmp 174)), none⟩]))))))))
  (.seq (.ops [⟨(some 175), .plain (.mv (.tmp 19)), none⟩,
     ⟨(some 176), .plain (.mv (.tmp 20)), none⟩,
     ⟨(some 177), .plain (.bin .sub (.tmp 175) (.tmp 176)), none⟩,
     ⟨(some 24), .plain (.mv (.tmp 177)), none⟩])
  (.seq (.seq (.ops [⟨(some 178), .plain (.mv (.tmp 20)), none⟩,
      ⟨(some 179), .plain (.mv (.tmp 2)), none⟩,
      ⟨(some 180), .plain (.bin .lss (.tmp 178) (.tmp 179)), none⟩,
      ⟨(some 181), .plain (.mv (.tmp 180)), none⟩,
      ⟨(some 182), .plain (.mv (.tmp 2)), (some (181, true))⟩,
      ⟨(some 183), .plain (.mv (.tmp 24)), (some (181, true))⟩,
      ⟨(some 184), .plain (.bin .lss (.tmp 182) (.tmp 183)), (some (181, true))⟩,
      ⟨(some 185), .plain (.pick (.tmp 181) (.tmp 184) (.val (.bool false))), none⟩])
   (.cond (.tmp 185) (.ops [⟨(some 186), .plain (.mv (.tmp 0)), none⟩,
      ⟨(some 187), .plain (.mv (.tmp 20)), none⟩,
      ⟨(some 188), .plain (.mv (.tmp 2)), none⟩,
      ⟨(some 189), .plain (.mv (.tmp 24)), none⟩,
      ⟨(some 190), .plain (.mv (.tmp 4)), none⟩,
      ⟨(some 191), .call (.val (.func 99 [] [])) [(.tmp 186), (.tmp 187), (.tmp 188), (.tmp 189), (.tmp 190)], none⟩])
   (.skip)))
  (.seq (.seq (.ops [⟨(some 192), .plain (.mv (.tmp 1)), none⟩,
      ⟨(some 193), .plain (.mv (.tmp 20)), none⟩,
      ⟨(some 194), .plain (.bin .lss (.tmp 192) (.tmp 193)), none⟩,
      ⟨(some 195), .plain (.mv (.tmp 194)), none⟩,
      ⟨(some 196), .plain (.mv (.tmp 20)), (some (195, true))⟩,
      ⟨(some 197), .plain (.mv (.tmp 18)), (some (195, true))⟩,
      ⟨(some 198), .plain (.bin .lss (.tmp 196) (.tmp 197)), (some (195, true))⟩,
      ⟨(some 199), .plain (.pick (.tmp 195) (.tmp 198) (.val (.bool false))), none⟩])
   (.cond (.tmp 199) (.ops [⟨(some 200), .plain (.mv (.tmp 0)), none⟩,
      ⟨(some 201), .plain (.mv (.tmp 1)), none⟩,
      ⟨(some 202), .plain (.mv (.tmp 20)), none⟩,
      ⟨(some 203), .plain (.mv (.tmp 18)), none⟩,
      ⟨(some 204), .plain (.mv (.tmp 4)), none⟩,
      ⟨(some 205), .call (.val (.func 98 [] [])) [(.tmp 200), (.tmp 201), (.tmp 202), (.tmp 203), (.tmp 204)], none⟩])
   (.skip)))
  (.seq (.ops [⟨(some 206), .plain (.mv (.tmp 18)), none⟩,
     ⟨(some 207), .plain (.mv (.tmp 24)), none⟩,
     ⟨(some 208), .plain (.bin .lss (.tmp 206) (.tmp 207)), none⟩,
     ⟨(some 209), .plain (.mv (.tmp 208)), none⟩,
     ⟨(some 210), .plain (.mv (.tmp 24)), (some (209, true))⟩,
     ⟨(some 211), .plain (.mv (.tmp 3)), (some (209, true))⟩,
     ⟨(some 212), .plain (.bin .lss (.tmp 210) (.tmp 211)), (some (209, true))⟩,
     ⟨(some 213), .plain (.pick (.tmp 209) (.tmp 212) (.val (.bool false))), none⟩])
  (.cond (.tmp 213) (.ops [⟨(some 214), .plain (.mv (.tmp 0)), none⟩,
     ⟨(some 215), .plain (.mv (.tmp 18)), none⟩,
     ⟨(some 216), .plain (.mv (.tmp 24)), none⟩,
     ⟨(some 217), .plain (.mv (.tmp 3)), none⟩,
     ⟨(some 218), .plain (.mv (.tmp 4)), none⟩,
     ⟨(some 219), .call (.val (.func 98 [] [])) [(.tmp 214), (.tmp 215), (.tmp 216), (.tmp 217), (.tmp 218)], none⟩])
  (.skip)))))))))))))⟩
theorem ok98 : compFun Try.prog 98 = some fn98 := by kernel_rfl

/-- slices.rotateCmpFunc[int] -/
def fn99 : AFun := ⟨58, [], .seq (.ops [⟨(some 12), .plain (.mv (.tmp 2)), none⟩,
     ⟨(some 13), .plain (.mv (.tmp 1)), none⟩,
     ⟨(some 14), .plain (.bin .sub (.tmp 12) (.tmp 13)), none⟩,
     ⟨(some 10), .plain (.mv (.tmp 14)), none⟩])
  (.seq (.ops [⟨(some 15), .plain (.mv (.tmp 3)), none⟩,
     ⟨(some 16), .plain (.mv (.tmp 2)), none⟩,
     ⟨(some 17), .plain (.bin .sub (.tmp 15) (.tmp 16)), none⟩,
     ⟨(some 11), .plain (.mv (.tmp 17)), none⟩])
  (.seq (.block 0 (.loop (.seq (.seq (.ops [⟨(some 18), .plain (.mv (.tmp 10)), none⟩,
         ⟨(some 19), .plain (.mv (.tmp 11)), none⟩,
         ⟨(some 20), .plain (.bin .neq (.tmp 18) (.tmp 19)), none⟩])
      (.cond (.tmp 20) (.skip)
      (.exit 0)))
     (.block 1 (.seq (.ops [⟨(some 21), .plain (.mv (.tmp 10)), none⟩,
         ⟨(some 22), .plain (.mv (.tmp 11)), none⟩,
         ⟨(some 23), .plain (.bin .gtr (.tmp 21) (.tmp 22)), none⟩])
      (.cond (.tmp 23) (.seq (.ops [⟨(some 24), .plain (.mv (.tmp 0)), none⟩,
          ⟨(some 25), .plain (.mv (.tmp 2)), none⟩,
          ⟨(some 26), .plain (.mv (.tmp 10)), none⟩,
          ⟨(some 27), .plain (.bin .sub (.tmp 25) (.tmp 26)), none⟩,
          ⟨(some 28), .plain (.mv (.tmp 2)), none⟩,
          ⟨(some 29), .plain (.mv (.tmp 11)), none⟩,
          ⟨(some 30), .plain (.mv (.tmp 4)), none⟩,
          ⟨(some 31), .call (.val (.func 100 [] [])) [(.tmp 24), (.tmp 27), (.tmp 28), (.tmp 29), (.tmp 30)], none⟩])
       (.ops [⟨(some 32), .plain (.mv (.tmp 10)), none⟩,
         ⟨(some 33), .plain (.mv (.tmp 11)), none⟩,
         ⟨(some 34), .plain (.bin .sub (.tmp 32) (.tmp 33)), none⟩,
         ⟨(some 10), .plain (.mv (.tmp 34)), none⟩]))
      (.seq (.ops [⟨(some 35), .plain (.mv (.tmp 0)), none⟩,
          ⟨(some 36), .plain (.mv (.tmp 2)), none⟩,
          ⟨(some 37), .plain (.mv (.tmp 10)), none⟩,
          ⟨(some 38), .plain (.bin .sub (.tmp 36) (.tmp 37)), none⟩,
          ⟨(some 39), .plain (.mv (.tmp 2)), none⟩,
          ⟨(some 40), .plain (.mv (.tmp 11)), none⟩,
          ⟨(some 41), .plain (.bin .add (.tmp 39) (.tmp 40)), none⟩,
          ⟨(some 42), .plain (.mv (.tmp 10)), none⟩,
          ⟨(some 43), .plain (.bin .sub (.tmp 41) (.tmp 42)), none⟩,
          ⟨(some 44), .plain (.mv (.tmp 10)), none⟩,
          ⟨(some 45), .plain (.mv (.tmp 4)), none⟩,
          ⟨(some 46), .call (.val (.func 100 [] [])) [(.tmp 35), (.tmp 38), (.tmp 43), (.tmp 44), (.tmp 45)], none⟩])
       (.ops [⟨(some 47), .plain (.mv (.tmp 11)), none⟩,
         ⟨(some 48), .plain (.mv (.tmp 10)), none⟩,
         ⟨(some 49), .plain (.bin .sub (.tmp 47) (.tmp 48)), none⟩,
         ⟨(some 11), .plain (.mv (.tmp 49)), none⟩]))))))))
  (.ops [⟨(some 50), .plain (.mv (.tmp 0)), none⟩,
    ⟨(some 51), .plain (.mv (.tmp 2)), none⟩,
    ⟨(some 52), .plain (.mv (.tmp 10)), none⟩,
    ⟨(some 53), .plain (.bin .sub (.tmp 51) (.tmp 52)), none⟩,
    ⟨(some 54), .plain (.mv (.tmp 2)), none⟩,
    ⟨(some 55), .plain (.mv (.tmp 10)), none⟩,
    ⟨(some 56), .plain (.mv (.tmp 4)), none⟩,
    ⟨(some 57), .call (.val (.func 100 [] [])) [(.tmp 50), (.tmp 53), (.tmp 54), (.tmp 55), (.tmp 56)], none⟩])))⟩
theorem ok99 : compFun Try.prog 99 = some fn99 := by kernel_rfl

/-- slices.swapRangeCmpFunc[int] -/
def fn100 : AFun := ⟨38, [], .seq (.ops [⟨(some 10), .plain (.mv (.val (.int .i64 0))), none⟩])
  (.block 0 (.loop (.seq (.seq (.ops [⟨(some 11), .plain (.mv (.tmp 10)), none⟩,
        ⟨(some 12), .plain (.mv (.tmp 3)), none⟩,
        ⟨(some 13), .plain (.bin .lss (.tmp 11) (.tmp 12)), none⟩])
     (.cond (.tmp 13) (.skip)
     (.exit 0)))
    (.seq (.block 1 (.dops [⟨0, ⟨(some 16), .plain (.mv (.tmp 0)), none⟩, []⟩,
        ⟨1, ⟨(some 17), .plain (.mv (.tmp 1)), none⟩, []⟩,
        ⟨2, ⟨(some 18), .plain (.mv (.tmp 10)), none⟩, []⟩,
        ⟨3, ⟨(some 19), .plain (.bin .add (.tmp 17) (.tmp 18)), none⟩, []⟩,
        ⟨4, ⟨(some 20), .plain (.mv (.tmp 0)), none⟩, []⟩,
        ⟨5, ⟨(some 21), .plain (.mv (.tmp 2)), none⟩, []⟩,
        ⟨6, ⟨(some 22), .plain (.mv (.tmp 10)), none⟩, []⟩,
        ⟨7, ⟨(some 23), .plain (.bin .add (.tmp 21) (.tmp 22)), none⟩, []⟩,
        ⟨8, ⟨(some 24), .plain (.mv (.tmp 0)), none⟩, []⟩,
        ⟨9, ⟨(some 25), .plain (.mv (.tmp 2)), none⟩, []⟩,
        ⟨10, ⟨(some 26), .plain (.mv (.tmp 10)), none⟩, []⟩,
        ⟨11, ⟨(some 27), .plain (.bin .add (.tmp 25) (.tmp 26)), none⟩, []⟩,
        ⟨12, ⟨(some 28), .plain (.idxS 1 (.tmp 24) (.tmp 27)), none⟩, []⟩,
        ⟨13, ⟨(some 29), .plain (.load1 (.tmp 28)), none⟩, []⟩,
        ⟨14, ⟨(some 30), .plain (.mv (.tmp 0)), none⟩, []⟩,
        ⟨15, ⟨(some 31), .plain (.mv (.tmp 1)), none⟩, []⟩,
        ⟨16, ⟨(some 32), .plain (.mv (.tmp 10)), none⟩, []⟩,
        ⟨17, ⟨(some 33), .plain (.bin .add (.tmp 31) (.tmp 32)), none⟩, []⟩,
        ⟨18, ⟨(some 34), .plain (.idxS 1 (.tmp 30) (.tmp 33)), none⟩, []⟩,
        ⟨19, ⟨(some 35), .plain (.load1 (.tmp 34)), none⟩, []⟩,
        ⟨20, ⟨(some 36), .plain (.idxS 1 (.tmp 16) (.tmp 19)), none⟩, []⟩,
        ⟨21, ⟨none, .plain (.store 1 (.tmp 36) (.tmp 29)), none⟩, []⟩,
        ⟨22, ⟨(some 37), .plain (.idxS 1 (.tmp 20) (.tmp 23)), none⟩, []⟩,
        ⟨23, ⟨none, .plain (.store 1 (.tmp 37) (.tmp 35)), none⟩, []⟩]))
    (.ops [⟨(some 14), .plain (.mv (.tmp 10)), none⟩,
      ⟨(some 15), .plain (.bin .add (.tmp 14) (.val (.int .i64 1))), none⟩,
      ⟨(some 10), .plain (.mv (.tmp 15)), none⟩])))))⟩
theorem ok100 : compFun Try.prog 100 = some fn100 := by kernel_rfl

end Go.Proofs.Ytimonbmadmfhfaa
