/- Lowered texts of functions, and that they are such: printed by a program of our own. No condition. -/
import Derived.Test.YtagjgpkomcmkbaaGreatDoorEcoreZf
import Derived.Test.YtagjgpkomcmkbaaGreatDoorChecked
set_option maxRecDepth 100000
namespace Go.Proofs.YtagjgpkomcmkbaaGreatDoor
open Go Go.Scr

/-- scribe/scribelaw15.CodeNames -/
def ir5 : LC :=
  (.seq
   (.reg [⟨some 2, .mov (.c (.bool false)), none⟩] [0])
   (.seq
    (.reg [⟨some 5, .call (.c (.func 12 [] [])) [], none⟩,
      ⟨some 3, .mov (.t 5), none⟩] [0, 3])
    (.seq
     (.reg [⟨some 4, .mov (.c (.str [])), none⟩] [0, 3, 4])
     (.seq
      (.seq
       (.reg [⟨some 6, .mov (.t 0), none⟩,
         ⟨some 7, .bin .geq (.t 6) (.c (.int .i64 0)), none⟩,
         ⟨some 8, .mov (.t 7), none⟩,
         ⟨some 9, .mov (.t 0), some (8, true)⟩,
         ⟨some 10, .mov (.t 3), some (8, true)⟩,
         ⟨some 11, .len (.t 10), some (8, true)⟩,
         ⟨some 12, .bin .lss (.t 9) (.t 11), some (8, true)⟩,
         ⟨some 13, .pick (.t 8) (.t 12) (.c (.bool false)), none⟩] [0, 3, 4, 13])
       (.cond (.t 13)
        (.reg [⟨some 14, .mov (.t 3), none⟩,
          ⟨some 15, .mov (.t 0), none⟩,
          ⟨some 16, .ixa 1 (.t 14) (.t 15), none⟩,
          ⟨some 17, .load none (.t 16), none⟩,
          ⟨some 4, .mov (.t 17), none⟩] [0, 4])
        .skip))
      (.seq
       (.reg [⟨some 18, .call (.c (.func 9 [] [])) [], none⟩,
         ⟨some 19, .mov (.t 18), none⟩,
         ⟨some 20, .mov (.t 0), some (19, true)⟩,
         ⟨some 21, .call (.c (.func 13 [] [])) [(.t 20)], some (19, true)⟩,
         ⟨some 22, .mov (.t 4), some (19, true)⟩,
         ⟨some 23, .bin .eql (.t 21) (.t 22), some (19, true)⟩,
         ⟨some 24, .pick (.t 19) (.t 23) (.c (.bool false)), none⟩,
         ⟨some 2, .mov (.t 24), none⟩] [2])
       .ret)))))
def rv5 : List RV := [.t 2]
def hi5 : Hints := ⟨[], [], [(0, [0]), (1, [0, 3]), (2, [0, 3, 4]), (3, [0, 3, 4, 13]), (4, [0, 4]), (5, [2])]⟩
noncomputable def code5 : Code := Tryz.f5.body.getD .skip
theorem low5 : lowC Tryz.prog hi5 25 code5 = some ir5 := by kernel_rfl
noncomputable def L5 (X : Ctx) (hX : X.P = Tryz.prog) : Lowered X 5 ir5 rv5 25 where
  fn := Tryz.f5
  code := code5
  h := hi5
  mixed := by rw [hX]; exact Tryz.checked.mixed
  func := by rw [hX]; exact Tryz.func5
  name := by kernel_rfl
  body := by kernel_rfl
  size := Tryz.ntmps5
  low := by rw [hX]; exact low5
  res := by rw [hX]; kernel_rfl
/-- scribe/code.Compile -/
def ir7 : LC :=
  (.seq
   (.reg [⟨some 2, .mov (.c .nilptr), none⟩,
     ⟨some 3, .mov (.c (.int .i64 0)), none⟩,
     ⟨some 4, .mov (.c (.int .i64 0)), none⟩] [0])
   (.seq
    (.reg [⟨some 15, .mov (.t 0), none⟩,
      ⟨some 16, .call (.c (.func 17 [] [])) [(.t 15)], none⟩,
      ⟨some 14, .mov (.t 16), none⟩,
      ⟨some 17, .ext 0 (.t 14), none⟩,
      ⟨some 18, .ext 1 (.t 14), none⟩,
      ⟨some 19, .ext 2 (.t 14), none⟩,
      ⟨some 5, .alloc [(.str []), (.str []), (.int .i64 0), .nil], none⟩,
      ⟨none, .store 4 (.t 5) (.t 17), none⟩,
      ⟨some 6, .mov (.t 18), none⟩,
      ⟨some 7, .mov (.t 19), none⟩] [5, 6, 7])
    (.seq
     (.seq
      (.reg [⟨some 20, .mov (.t 7), none⟩,
        ⟨some 21, .bin .neq (.t 20) (.c (.int .i64 0)), none⟩] [5, 6, 7, 21])
      (.cond (.t 21)
       (.seq
        (.reg [⟨some 22, .mov (.t 6), none⟩,
          ⟨some 23, .mov (.t 7), none⟩,
          ⟨some 2, .mov (.c .nilptr), none⟩,
          ⟨some 3, .mov (.t 22), none⟩,
          ⟨some 4, .mov (.t 23), none⟩] [2, 3, 4])
        .ret)
       .skip))
     (.seq
      (.reg [⟨some 25, .load (some 4) (.t 5), none⟩,
        ⟨some 26, .call (.c (.func 18 [] [])) [(.t 25)], none⟩,
        ⟨some 24, .mov (.t 26), none⟩,
        ⟨some 27, .ext 0 (.t 24), none⟩,
        ⟨some 28, .ext 1 (.t 24), none⟩,
        ⟨some 29, .ext 2 (.t 24), none⟩,
        ⟨some 8, .mov (.t 27), none⟩,
        ⟨some 6, .mov (.t 28), none⟩,
        ⟨some 7, .mov (.t 29), none⟩] [5, 6, 7, 8])
      (.seq
       (.seq
        (.reg [⟨some 30, .mov (.t 7), none⟩,
          ⟨some 31, .bin .neq (.t 30) (.c (.int .i64 0)), none⟩] [5, 6, 7, 8, 31])
        (.cond (.t 31)
         (.seq
          (.reg [⟨some 32, .mov (.t 6), none⟩,
            ⟨some 33, .mov (.t 7), none⟩,
            ⟨some 2, .mov (.c .nilptr), none⟩,
            ⟨some 3, .mov (.t 32), none⟩,
            ⟨some 4, .mov (.t 33), none⟩] [2, 3, 4])
          .ret)
         .skip))
       (.seq
        (.reg [⟨some 34, .build [.nil, .nil, .nil, .nil, .nil, .nil, (.int .i64 0), (.int .i64 0), (.int .i64 0)] [], none⟩,
          ⟨some 35, .box (.t 34), none⟩,
          ⟨some 36, .mov (.t 8), none⟩,
          ⟨some 37, .build [.nilptr, .nilptr, (.int .i64 0), .nil] [(0, 1, (.t 35)), (1, 1, (.t 36)), (2, 1, (.c (.int .i64 (-1))))], none⟩,
          ⟨some 38, .box (.t 37), none⟩,
          ⟨some 9, .mov (.t 38), none⟩] [5, 8, 9])
        (.seq
         (.drw (.st [⟨some 39, .mov (.t 9), none⟩]
          (.st [⟨some 40, .nilck (.t 39), none⟩]
          (.st [⟨some 41, .fld 0 (.t 40), none⟩]
          (.st [⟨some 42, .load none (.t 41), none⟩]
          (.st [⟨some 43, .mov (.t 9), none⟩]
          (.st [⟨some 44, .nilck (.t 43), none⟩]
          (.st [⟨some 45, .fld 0 (.t 44), none⟩]
          (.st [⟨some 46, .load none (.t 45), none⟩]
          (.st [⟨some 47, .nilck (.t 46), none⟩]
          (.st [⟨some 48, .fld 4 (.t 47), none⟩]
          (.st [⟨some 49, .load none (.t 48), none⟩]
          (.st [⟨some 50, .load none (.g 0), none⟩]
          (.st [⟨some 51, .append 0 false 1 16 (.t 49) (.t 50), none⟩,
            ⟨some 42, .same (.load none (.t 41)), none⟩]
          (.st [⟨some 52, .nilck (.t 42), none⟩]
          (.st [⟨some 53, .fld 4 (.t 52), none⟩]
          (.st [⟨none, .store 1 (.t 53) (.t 51), none⟩]
          .done)))))))))))))))) [5, 8, 9])
         (.seq
          (.drw (.st [⟨some 54, .mov (.t 9), none⟩]
           (.st [⟨some 55, .nilck (.t 54), none⟩]
           (.st [⟨some 56, .fld 0 (.t 55), none⟩]
           (.st [⟨some 57, .load none (.t 56), none⟩]
           (.st [⟨some 58, .load none (.g 0), none⟩]
           (.st [⟨some 59, .len (.t 58), none⟩]
           (.st [⟨some 60, .mkslice 1 1 [(.bool false)] (.t 59) (.t 59), none⟩,
             ⟨some 57, .same (.load none (.t 56)), none⟩]
           (.st [⟨some 61, .nilck (.t 57), none⟩]
           (.st [⟨some 62, .fld 5 (.t 61), none⟩]
           (.st [⟨none, .store 1 (.t 62) (.t 60), none⟩]
           .done)))))))))) [5, 8, 9])
          (.seq
           (.seq
            (.reg [⟨some 63, .mov (.t 8), none⟩,
              ⟨some 64, .nilck (.t 63), none⟩,
              ⟨some 65, .fld 1 (.t 64), none⟩,
              ⟨some 66, .load none (.t 65), none⟩,
              ⟨some 67, .len (.t 66), none⟩,
              ⟨some 68, .mov (.c (.int .i64 0)), none⟩] [5, 8, 9, 66, 67, 68])
            (.block 0
             (.loop
              (.seq
               (.reg [⟨some 69, .bin .lss (.t 68) (.t 67), none⟩] [5, 8, 9, 66, 67, 68, 69])
               (.seq
                (.cond (.t 69)
                 .skip
                 (.exit 0))
                (.seq
                 (.block 1
                  (.seq
                   (.reg [⟨some 70, .mov (.t 68), none⟩,
                     ⟨some 71, .ixa 1 (.t 66) (.t 68), none⟩,
                     ⟨some 72, .load none (.t 71), none⟩,
                     ⟨some 10, .mov (.t 70), none⟩,
                     ⟨some 11, .mov (.t 72), none⟩] [5, 8, 9, 10, 11, 66, 67, 68])
                   (.seq
                    (.reg [⟨some 73, .load none (.g 0), none⟩,
                      ⟨some 74, .mov (.t 11), none⟩,
                      ⟨some 75, .call (.c (.func 19 [] [])) [(.t 73), (.t 74)], none⟩,
                      ⟨some 76, .bin .lss (.t 75) (.c (.int .i64 0)), none⟩] [5, 8, 9, 10, 11, 66, 67, 68, 76])
                    (.cond (.t 76)
                     (.seq
                      (.drw (.st [⟨some 77, .mov (.t 9), none⟩]
                       (.st [⟨some 78, .nilck (.t 77), none⟩]
                       (.st [⟨some 79, .fld 0 (.t 78), none⟩]
                       (.st [⟨some 80, .load none (.t 79), none⟩]
                       (.st [⟨some 81, .mov (.t 9), none⟩]
                       (.st [⟨some 82, .nilck (.t 81), none⟩]
                       (.st [⟨some 83, .fld 0 (.t 82), none⟩]
                       (.st [⟨some 84, .load none (.t 83), none⟩]
                       (.st [⟨some 85, .nilck (.t 84), none⟩]
                       (.st [⟨some 86, .fld 4 (.t 85), none⟩]
                       (.st [⟨some 87, .load none (.t 86), none⟩]
                       (.st [⟨some 88, .mov (.t 11), none⟩]
                       (.st [⟨some 89, .blds 0 false 1 1 [(.str [])] [(0, 1, (.t 88))], none⟩]
                       (.st [⟨some 90, .append 0 false 1 16 (.t 87) (.t 89), none⟩,
                         ⟨some 80, .same (.load none (.t 79)), none⟩]
                       (.st [⟨some 91, .nilck (.t 80), none⟩]
                       (.st [⟨some 92, .fld 4 (.t 91), none⟩]
                       (.st [⟨none, .store 1 (.t 92) (.t 90), none⟩]
                       .done))))))))))))))))) [5, 8, 9, 10, 66, 67, 68])
                      (.drw (.st [⟨some 93, .mov (.t 9), none⟩]
                       (.st [⟨some 94, .nilck (.t 93), none⟩]
                       (.st [⟨some 95, .fld 0 (.t 94), none⟩]
                       (.st [⟨some 96, .load none (.t 95), none⟩]
                       (.st [⟨some 97, .mov (.t 9), none⟩]
                       (.st [⟨some 98, .nilck (.t 97), none⟩]
                       (.st [⟨some 99, .fld 0 (.t 98), none⟩]
                       (.st [⟨some 100, .load none (.t 99), none⟩]
                       (.st [⟨some 101, .nilck (.t 100), none⟩]
                       (.st [⟨some 102, .fld 5 (.t 101), none⟩]
                       (.st [⟨some 103, .load none (.t 102), none⟩]
                       (.st [⟨some 104, .mov (.t 8), none⟩]
                       (.st [⟨some 105, .nilck (.t 104), none⟩]
                       (.st [⟨some 106, .fld 2 (.t 105), none⟩]
                       (.st [⟨some 107, .load none (.t 106), none⟩]
                       (.st [⟨some 108, .mov (.t 10), none⟩]
                       (.st [⟨some 109, .ixa 1 (.t 107) (.t 108), none⟩]
                       (.st [⟨some 110, .load none (.t 109), none⟩]
                       (.st [⟨some 111, .blds 0 false 1 1 [(.bool false)] [(0, 1, (.t 110))], none⟩]
                       (.st [⟨some 112, .append 0 false 1 1 (.t 103) (.t 111), none⟩,
                         ⟨some 96, .same (.load none (.t 95)), none⟩]
                       (.st [⟨some 113, .nilck (.t 96), none⟩]
                       (.st [⟨some 114, .fld 5 (.t 113), none⟩]
                       (.st [⟨none, .store 1 (.t 114) (.t 112), none⟩]
                       .done))))))))))))))))))))))) [5, 8, 9, 66, 67, 68]))
                     .skip))))
                 (.reg [⟨some 115, .bin .add (.t 68) (.c (.int .i64 1)), none⟩,
                   ⟨some 68, .mov (.t 115), none⟩] [5, 8, 9, 66, 67, 68])))))))
           (.seq
            (.drw (.st [⟨some 116, .mov (.t 9), none⟩]
             (.st [⟨some 117, .nilck (.t 116), none⟩]
             (.st [⟨some 118, .fld 0 (.t 117), none⟩]
             (.st [⟨some 119, .load none (.t 118), none⟩]
             (.st [⟨some 120, .mov (.t 9), none⟩]
             (.st [⟨some 121, .fld 3 (.t 5), none⟩]
             (.st [⟨some 122, .load none (.t 121), none⟩]
             (.st [⟨some 123, .call (.c (.func 20 [] [])) [(.t 120), (.t 122), (.c (.str [98, 101, 103, 105, 110]))], none⟩,
               ⟨some 119, .same (.load none (.t 118)), none⟩]
             (.st [⟨some 124, .nilck (.t 119), none⟩]
             (.st [⟨some 125, .fld 6 (.t 124), none⟩]
             (.st [⟨none, .store 1 (.t 125) (.t 123), none⟩]
             .done))))))))))) [5, 8, 9])
            (.seq
             (.drw (.st [⟨some 126, .mov (.t 9), none⟩]
              (.st [⟨some 127, .nilck (.t 126), none⟩]
              (.st [⟨some 128, .fld 0 (.t 127), none⟩]
              (.st [⟨some 129, .load none (.t 128), none⟩]
              (.st [⟨some 130, .mov (.t 9), none⟩]
              (.st [⟨some 131, .fld 3 (.t 5), none⟩]
              (.st [⟨some 132, .load none (.t 131), none⟩]
              (.st [⟨some 133, .call (.c (.func 20 [] [])) [(.t 130), (.t 132), (.c (.str [114, 117, 108, 101]))], none⟩,
                ⟨some 129, .same (.load none (.t 128)), none⟩]
              (.st [⟨some 134, .nilck (.t 129), none⟩]
              (.st [⟨some 135, .fld 7 (.t 134), none⟩]
              (.st [⟨none, .store 1 (.t 135) (.t 133), none⟩]
              .done))))))))))) [5, 8, 9])
             (.seq
              (.drw (.st [⟨some 136, .mov (.t 9), none⟩]
               (.st [⟨some 137, .nilck (.t 136), none⟩]
               (.st [⟨some 138, .fld 0 (.t 137), none⟩]
               (.st [⟨some 139, .load none (.t 138), none⟩]
               (.st [⟨some 140, .mov (.t 9), none⟩]
               (.st [⟨some 141, .fld 3 (.t 5), none⟩]
               (.st [⟨some 142, .load none (.t 141), none⟩]
               (.st [⟨some 143, .call (.c (.func 20 [] [])) [(.t 140), (.t 142), (.c (.str [101, 110, 100]))], none⟩,
                 ⟨some 139, .same (.load none (.t 138)), none⟩]
               (.st [⟨some 144, .nilck (.t 139), none⟩]
               (.st [⟨some 145, .fld 8 (.t 144), none⟩]
               (.st [⟨none, .store 1 (.t 145) (.t 143), none⟩]
               .done))))))))))) [8, 9])
              (.seq
               (.seq
                (.reg [⟨some 146, .mov (.t 8), none⟩,
                  ⟨some 147, .nilck (.t 146), none⟩,
                  ⟨some 148, .fld 0 (.t 147), none⟩,
                  ⟨some 149, .load none (.t 148), none⟩,
                  ⟨some 150, .len (.t 149), none⟩,
                  ⟨some 151, .mov (.c (.int .i64 0)), none⟩] [9, 149, 150, 151])
                (.block 2
                 (.loop
                  (.seq
                   (.reg [⟨some 152, .bin .lss (.t 151) (.t 150), none⟩] [9, 149, 150, 151, 152])
                   (.seq
                    (.cond (.t 152)
                     .skip
                     (.exit 2))
                    (.seq
                     (.block 3
                      (.seq
                       (.reg [⟨some 153, .mov (.t 151), none⟩,
                         ⟨some 154, .ixa 7 (.t 149) (.t 151), none⟩,
                         ⟨some 155, .load (some 7) (.t 154), none⟩,
                         ⟨some 13, .alloc [(.str []), .nil, .nil, (.str []), (.str []), (.int .i64 0), .nil], none⟩,
                         ⟨some 12, .mov (.t 153), none⟩,
                         ⟨none, .store 7 (.t 13) (.t 155), none⟩] [9, 12, 13, 149, 150, 151])
                       (.seq
                        (.reg [⟨some 156, .mov (.t 9), none⟩,
                          ⟨some 157, .mov (.t 12), none⟩,
                          ⟨some 158, .nilck (.t 156), none⟩,
                          ⟨some 159, .fld 2 (.t 158), none⟩,
                          ⟨none, .store 1 (.t 159) (.t 157), none⟩] [9, 13, 149, 150, 151])
                        (.seq
                         (.drw (.st [⟨some 160, .mov (.t 9), none⟩]
                          (.st [⟨some 161, .nilck (.t 160), none⟩]
                          (.st [⟨some 162, .fld 0 (.t 161), none⟩]
                          (.st [⟨some 163, .load none (.t 162), none⟩]
                          (.st [⟨some 164, .mov (.t 9), none⟩]
                          (.st [⟨some 165, .nilck (.t 164), none⟩]
                          (.st [⟨some 166, .fld 0 (.t 165), none⟩]
                          (.st [⟨some 167, .load none (.t 166), none⟩]
                          (.st [⟨some 168, .nilck (.t 167), none⟩]
                          (.st [⟨some 169, .fld 3 (.t 168), none⟩]
                          (.st [⟨some 170, .load none (.t 169), none⟩]
                          (.st [⟨some 171, .mov (.t 9), none⟩]
                          (.st [⟨some 172, .nilck (.t 171), none⟩]
                          (.st [⟨some 173, .fld 0 (.t 172), none⟩]
                          (.st [⟨some 174, .load none (.t 173), none⟩]
                          (.st [⟨some 175, .nilck (.t 174), none⟩]
                          (.st [⟨some 176, .fld 0 (.t 175), none⟩]
                          (.st [⟨some 177, .load none (.t 176), none⟩]
                          (.st [⟨some 178, .len (.t 177), none⟩]
                          (.st [⟨some 179, .blds 0 false 1 0 [(.bool false)] [], none⟩]
                          (.st [⟨some 180, .fld 2 (.t 13), none⟩]
                          (.st [⟨some 181, .load none (.t 180), none⟩]
                          (.st [⟨some 182, .append 0 false 1 1 (.t 179) (.t 181), none⟩,
                            ⟨some 177, .same (.load none (.t 176)), none⟩,
                            ⟨some 174, .same (.load none (.t 173)), none⟩,
                            ⟨some 170, .same (.load none (.t 169)), none⟩,
                            ⟨some 167, .same (.load none (.t 166)), none⟩,
                            ⟨some 163, .same (.load none (.t 162)), none⟩]
                          (.st [⟨some 183, .build [(.int .i64 0), .nil] [(0, 1, (.t 178)), (1, 1, (.t 182))], none⟩]
                          (.st [⟨some 184, .blds 0 true 2 1 [(.int .i64 0), .nil] [(0, 2, (.t 183))], none⟩]
                          (.st [⟨some 185, .append 0 true 2 32 (.t 170) (.t 184), none⟩,
                            ⟨some 163, .same (.load none (.t 162)), none⟩]
                          (.st [⟨some 186, .nilck (.t 163), none⟩]
                          (.st [⟨some 187, .fld 3 (.t 186), none⟩]
                          (.st [⟨none, .store 1 (.t 187) (.t 185), none⟩]
                          .done))))))))))))))))))))))))))))) [9, 13, 149, 150, 151])
                         (.seq
                          (.reg [⟨some 188, .mov (.t 9), none⟩,
                            ⟨some 189, .fld 3 (.t 13), none⟩,
                            ⟨some 190, .load (some 4) (.t 189), none⟩,
                            ⟨some 191, .call (.c (.func 21 [] [])) [(.t 188), (.t 190)], none⟩] [9, 149, 150, 151])
                          (.seq
                           (.reg [⟨some 192, .mov (.t 9), none⟩,
                             ⟨some 193, .call (.c (.func 22 [] [])) [(.t 192), (.c (.str []))], none⟩] [9, 149, 150, 151])
                           (.reg [⟨some 194, .mov (.t 9), none⟩,
                             ⟨some 195, .call (.c (.func 23 [] [])) [(.t 194), (.c (.int .i64 23)), (.c (.int .i64 0)), (.c (.int .i64 0))], none⟩] [9, 149, 150, 151])))))))
                     (.reg [⟨some 196, .bin .add (.t 151) (.c (.int .i64 1)), none⟩,
                       ⟨some 151, .mov (.t 196), none⟩] [9, 149, 150, 151])))))))
               (.seq
                (.reg [⟨some 197, .mov (.t 9), none⟩,
                  ⟨some 198, .nilck (.t 197), none⟩,
                  ⟨some 199, .fld 0 (.t 198), none⟩,
                  ⟨some 200, .load none (.t 199), none⟩,
                  ⟨some 2, .mov (.t 200), none⟩,
                  ⟨some 3, .mov (.c (.int .i64 0)), none⟩,
                  ⟨some 4, .mov (.c (.int .i64 0)), none⟩] [2, 3, 4])
                .ret))))))))))))))
def rv7 : List RV := [.t 2, .t 3, .t 4]
def hi7 : Hints := ⟨[], [], [(0, [0]), (1, [5, 6, 7]), (2, [5, 6, 7, 21]), (3, [2, 3, 4]), (4, [5, 6, 7, 8]), (5, [5, 6, 7, 8, 31]), (6, [2, 3, 4]), (7, [5, 8, 9]), (8, [5, 8, 9]), (9, [5, 8, 9]), (10, [5, 8, 9, 66, 67, 68]), (11, [5, 8, 9, 66, 67, 68, 69]), (12, [5, 8, 9, 10, 11, 66, 67, 68]), (13, [5, 8, 9, 10, 11, 66, 67, 68, 76]), (14, [5, 8, 9, 10, 66, 67, 68]), (15, [5, 8, 9, 66, 67, 68]), (16, [5, 8, 9, 66, 67, 68]), (17, [5, 8, 9]), (18, [5, 8, 9]), (19, [8, 9]), (20, [9, 149, 150, 151]), (21, [9, 149, 150, 151, 152]), (22, [9, 12, 13, 149, 150, 151]), (23, [9, 13, 149, 150, 151]), (24, [9, 13, 149, 150, 151]), (25, [9, 149, 150, 151]), (26, [9, 149, 150, 151]), (27, [9, 149, 150, 151]), (28, [9, 149, 150, 151]), (29, [2, 3, 4])]⟩
noncomputable def code7 : Code := Tryz.f7.body.getD .skip
theorem low7 : lowC Tryz.prog hi7 201 code7 = some ir7 := by kernel_rfl
noncomputable def L7 (X : Ctx) (hX : X.P = Tryz.prog) : Lowered X 7 ir7 rv7 201 where
  fn := Tryz.f7
  code := code7
  h := hi7
  mixed := by rw [hX]; exact Tryz.checked.mixed
  func := by rw [hX]; exact Tryz.func7
  name := by kernel_rfl
  body := by kernel_rfl
  size := Tryz.ntmps7
  low := by rw [hX]; exact low7
  res := by rw [hX]; kernel_rfl
/-- scribe/scribelaw15.awake -/
def ir9 : LC :=
  (.seq
   (.reg [⟨some 0, .mov (.c (.bool false)), none⟩] [])
   (.seq
    (.reg [⟨some 8, .call (.c (.func 7 [] [])) [(.c (.str [66, 69, 71, 73, 78, 123, 120, 61, 49, 125]))], none⟩,
      ⟨some 7, .mov (.t 8), none⟩,
      ⟨some 9, .ext 0 (.t 7), none⟩,
      ⟨some 10, .ext 1 (.t 7), none⟩,
      ⟨some 11, .ext 2 (.t 7), none⟩,
      ⟨some 1, .mov (.t 9), none⟩,
      ⟨some 2, .mov (.t 10), none⟩,
      ⟨some 3, .mov (.t 11), none⟩] [1, 3])
    (.seq
     (.reg [⟨some 13, .call (.c (.func 7 [] [])) [(.c (.str [66, 69, 71, 73, 78, 123, 120, 61, 125]))], none⟩,
       ⟨some 12, .mov (.t 13), none⟩,
       ⟨some 14, .ext 0 (.t 12), none⟩,
       ⟨some 15, .ext 1 (.t 12), none⟩,
       ⟨some 16, .ext 2 (.t 12), none⟩,
       ⟨some 4, .mov (.t 14), none⟩,
       ⟨some 5, .mov (.t 15), none⟩,
       ⟨some 6, .mov (.t 16), none⟩] [1, 3, 5, 6])
     (.seq
      (.seq
       (.reg [⟨some 17, .mov (.t 3), none⟩,
         ⟨some 18, .bin .neq (.t 17) (.c (.int .i64 0)), none⟩,
         ⟨some 19, .mov (.t 18), none⟩,
         ⟨some 20, .mov (.t 1), some (19, false)⟩,
         ⟨some 21, .eqp .eql (.t 20) (.c .nilptr), some (19, false)⟩,
         ⟨some 22, .pick (.t 19) (.c (.bool true)) (.t 21), none⟩,
         ⟨some 23, .mov (.t 22), none⟩,
         ⟨some 24, .mov (.t 1), some (23, false)⟩,
         ⟨some 25, .nilck (.t 24), some (23, false)⟩,
         ⟨some 26, .fld 4 (.t 25), some (23, false)⟩,
         ⟨some 27, .load none (.t 26), some (23, false)⟩,
         ⟨some 28, .len (.t 27), some (23, false)⟩,
         ⟨some 29, .bin .neq (.t 28) (.c (.int .i64 9)), some (23, false)⟩,
         ⟨some 30, .pick (.t 23) (.c (.bool true)) (.t 29), none⟩,
         ⟨some 31, .mov (.t 30), none⟩,
         ⟨some 32, .mov (.t 1), some (31, false)⟩,
         ⟨some 33, .nilck (.t 32), some (31, false)⟩,
         ⟨some 34, .fld 4 (.t 33), some (31, false)⟩,
         ⟨some 35, .load none (.t 34), some (31, false)⟩,
         ⟨some 36, .ixa 1 (.t 35) (.c (.int .i64 8)), some (31, false)⟩,
         ⟨some 37, .load none (.t 36), some (31, false)⟩,
         ⟨some 38, .bin .neq (.t 37) (.c (.str [120])), some (31, false)⟩,
         ⟨some 39, .pick (.t 31) (.c (.bool true)) (.t 38), none⟩,
         ⟨some 40, .mov (.t 39), none⟩,
         ⟨some 41, .mov (.t 1), some (40, false)⟩,
         ⟨some 42, .call (.c (.func 10 [] [])) [(.t 41)], some (40, false)⟩,
         ⟨some 43, .bin .neq (.t 42) (.c (.int .i64 0)), some (40, false)⟩,
         ⟨some 44, .pick (.t 40) (.c (.bool true)) (.t 43), none⟩,
         ⟨some 45, .mov (.t 44), none⟩,
         ⟨some 46, .mov (.t 6), some (45, false)⟩,
         ⟨some 47, .bin .neq (.t 46) (.c (.int .i64 9)), some (45, false)⟩,
         ⟨some 48, .pick (.t 45) (.c (.bool true)) (.t 47), none⟩,
         ⟨some 49, .mov (.t 48), none⟩,
         ⟨some 50, .mov (.t 5), some (49, false)⟩,
         ⟨some 51, .bin .neq (.t 50) (.c (.int .i64 8)), some (49, false)⟩,
         ⟨some 52, .pick (.t 49) (.c (.bool true)) (.t 51), none⟩] [52])
       (.cond (.t 52)
        (.seq
         (.reg [⟨some 0, .mov (.c (.bool false)), none⟩] [0])
         .ret)
        .skip))
      (.seq
       (.reg [⟨some 53, .call (.c (.func 13 [] [])) [(.c (.int .i64 0))], none⟩,
         ⟨some 54, .bin .eql (.t 53) (.c (.str [108, 101, 110, 103, 116, 104])), none⟩,
         ⟨some 55, .mov (.t 54), none⟩,
         ⟨some 56, .call (.c (.func 13 [] [])) [(.c (.int .i64 11))], some (55, true)⟩,
         ⟨some 57, .bin .eql (.t 56) (.c (.str [])), some (55, true)⟩,
         ⟨some 58, .pick (.t 55) (.t 57) (.c (.bool false)), none⟩,
         ⟨some 0, .mov (.t 58), none⟩] [0])
       .ret)))))
def rv9 : List RV := [.t 0]
def hi9 : Hints := ⟨[], [], [(0, []), (1, [1, 3]), (2, [1, 3, 5, 6]), (3, [52]), (4, [0]), (5, [0])]⟩
noncomputable def code9 : Code := Tryz.f9.body.getD .skip
theorem low9 : lowC Tryz.prog hi9 59 code9 = some ir9 := by kernel_rfl
noncomputable def L9 (X : Ctx) (hX : X.P = Tryz.prog) : Lowered X 9 ir9 rv9 59 where
  fn := Tryz.f9
  code := code9
  h := hi9
  mixed := by rw [hX]; exact Tryz.checked.mixed
  func := by rw [hX]; exact Tryz.func9
  name := by kernel_rfl
  body := by kernel_rfl
  size := Tryz.ntmps9
  low := by rw [hX]; exact low9
  res := by rw [hX]; kernel_rfl
/-- scribe/code.Check -/
def ir10 : LC :=
  (.seq
   (.reg [⟨some 2, .mov (.c (.int .i64 0)), none⟩] [0])
   (.seq
    (.reg [⟨some 6, .mov (.t 0), none⟩,
      ⟨some 7, .call (.c (.func 24 [] [])) [(.t 6)], none⟩,
      ⟨some 5, .mov (.t 7), none⟩,
      ⟨some 8, .ext 0 (.t 5), none⟩,
      ⟨some 9, .ext 1 (.t 5), none⟩,
      ⟨some 3, .mov (.t 8), none⟩,
      ⟨some 4, .mov (.t 9), none⟩] [4])
    (.seq
     (.reg [⟨some 10, .mov (.t 4), none⟩,
       ⟨some 2, .mov (.t 10), none⟩] [2])
     .ret)))
def rv10 : List RV := [.t 2]
def hi10 : Hints := ⟨[], [], [(0, [0]), (1, [4]), (2, [2])]⟩
noncomputable def code10 : Code := Tryz.f10.body.getD .skip
theorem low10 : lowC Tryz.prog hi10 11 code10 = some ir10 := by kernel_rfl
noncomputable def L10 (X : Ctx) (hX : X.P = Tryz.prog) : Lowered X 10 ir10 rv10 11 where
  fn := Tryz.f10
  code := code10
  h := hi10
  mixed := by rw [hX]; exact Tryz.checked.mixed
  func := by rw [hX]; exact Tryz.func10
  name := by kernel_rfl
  body := by kernel_rfl
  size := Tryz.ntmps10
  low := by rw [hX]; exact low10
  res := by rw [hX]; kernel_rfl
/-- scribe/scriberef15.Builtins -/
def ir12 : LC :=
  (.seq
   (.reg [⟨some 0, .mov (.c .nil), none⟩] [])
   (.seq
    (.reg [⟨some 1, .blds 0 false 1 11 [(.str [])] [(0, 1, (.c (.str [108, 101, 110, 103, 116, 104]))), (1, 1, (.c (.str [115, 117, 98, 115, 116, 114]))), (2, 1, (.c (.str [105, 110, 100, 101, 120]))), (3, 1, (.c (.str [115, 112, 108, 105, 116]))), (4, 1, (.c (.str [109, 97, 116, 99, 104]))), (5, 1, (.c (.str [116, 111, 108, 111, 119, 101, 114]))), (6, 1, (.c (.str [116, 111, 117, 112, 112, 101, 114]))), (7, 1, (.c (.str [105, 110, 116]))), (8, 1, (.c (.str [115, 112, 114, 105, 110, 116, 102]))), (9, 1, (.c (.str [114, 97, 110, 100]))), (10, 1, (.c (.str [115, 114, 97, 110, 100])))], none⟩,
      ⟨some 0, .mov (.t 1), none⟩] [0])
    .ret))
def rv12 : List RV := [.t 0]
def hi12 : Hints := ⟨[], [], [(0, []), (1, [0])]⟩
noncomputable def code12 : Code := Tryz.f12.body.getD .skip
theorem low12 : lowC Tryz.prog hi12 2 code12 = some ir12 := by kernel_rfl
noncomputable def L12 (X : Ctx) (hX : X.P = Tryz.prog) : Lowered X 12 ir12 rv12 2 where
  fn := Tryz.f12
  code := code12
  h := hi12
  mixed := by rw [hX]; exact Tryz.checked.mixed
  func := by rw [hX]; exact Tryz.func12
  name := by kernel_rfl
  body := by kernel_rfl
  size := Tryz.ntmps12
  low := by rw [hX]; exact low12
  res := by rw [hX]; kernel_rfl
/-- scribe/code.Name -/
def ir13 : LC :=
  (.seq
   (.reg [⟨some 2, .mov (.c (.str [])), none⟩] [0])
   (.seq
    (.seq
     (.reg [⟨some 3, .mov (.t 0), none⟩,
       ⟨some 4, .bin .lss (.t 3) (.c (.int .i64 0)), none⟩,
       ⟨some 5, .mov (.t 4), none⟩,
       ⟨some 6, .mov (.t 0), some (5, false)⟩,
       ⟨some 7, .load none (.g 1), some (5, false)⟩,
       ⟨some 8, .len (.t 7), some (5, false)⟩,
       ⟨some 9, .bin .geq (.t 6) (.t 8), some (5, false)⟩,
       ⟨some 10, .pick (.t 5) (.c (.bool true)) (.t 9), none⟩] [0, 10])
     (.cond (.t 10)
      (.seq
       (.reg [⟨some 2, .mov (.c (.str [])), none⟩] [2])
       .ret)
      .skip))
    (.seq
     (.reg [⟨some 11, .load none (.g 1), none⟩,
       ⟨some 12, .mov (.t 0), none⟩,
       ⟨some 13, .ixa 1 (.t 11) (.t 12), none⟩,
       ⟨some 14, .load none (.t 13), none⟩,
       ⟨some 2, .mov (.t 14), none⟩] [2])
     .ret)))
def rv13 : List RV := [.t 2]
def hi13 : Hints := ⟨[], [], [(0, [0]), (1, [0, 10]), (2, [2]), (3, [2])]⟩
noncomputable def code13 : Code := Tryz.f13.body.getD .skip
theorem low13 : lowC Tryz.prog hi13 15 code13 = some ir13 := by kernel_rfl
noncomputable def L13 (X : Ctx) (hX : X.P = Tryz.prog) : Lowered X 13 ir13 rv13 15 where
  fn := Tryz.f13
  code := code13
  h := hi13
  mixed := by rw [hX]; exact Tryz.checked.mixed
  func := by rw [hX]; exact Tryz.func13
  name := by kernel_rfl
  body := by kernel_rfl
  size := Tryz.ntmps13
  low := by rw [hX]; exact low13
  res := by rw [hX]; kernel_rfl
/-- scribe/parse.Parse -/
def ir17 : LC :=
  (.seq
   (.reg [⟨some 2, .alloc [(.str []), (.str []), (.int .i64 0), .nil], none⟩,
     ⟨some 3, .mov (.c (.int .i64 0)), none⟩,
     ⟨some 4, .mov (.c (.int .i64 0)), none⟩] [0, 2])
   (.seq
    (.reg [⟨some 11, .mov (.t 0), none⟩,
      ⟨some 12, .call (.c (.func 27 [] [])) [(.t 11)], none⟩,
      ⟨some 10, .mov (.t 12), none⟩,
      ⟨some 13, .ext 0 (.t 10), none⟩,
      ⟨some 14, .ext 1 (.t 10), none⟩,
      ⟨some 15, .ext 2 (.t 10), none⟩,
      ⟨some 5, .mov (.t 13), none⟩,
      ⟨some 6, .mov (.t 14), none⟩,
      ⟨some 7, .mov (.t 15), none⟩] [2, 5, 6, 7])
    (.seq
     (.seq
      (.reg [⟨some 16, .mov (.t 7), none⟩,
        ⟨some 17, .bin .neq (.t 16) (.c (.int .i64 0)), none⟩] [2, 5, 6, 7, 17])
      (.cond (.t 17)
       (.seq
        (.reg [⟨some 18, .build [(.str []), (.str []), (.int .i64 0), .nil] [], none⟩,
          ⟨some 19, .mov (.t 6), none⟩,
          ⟨some 20, .mov (.t 7), none⟩,
          ⟨none, .store 4 (.t 2) (.t 18), none⟩,
          ⟨some 3, .mov (.t 19), none⟩,
          ⟨some 4, .mov (.t 20), none⟩] [2, 3, 4])
        .ret)
       .skip))
     (.seq
      (.reg [⟨some 21, .mov (.t 5), none⟩,
        ⟨some 22, .build [.nil, (.int .i64 0), (.int .i64 0), (.bool false), (.int .i64 0), (.int .i64 0)] [(0, 1, (.t 21))], none⟩,
        ⟨some 23, .box (.t 22), none⟩,
        ⟨some 8, .mov (.t 23), none⟩] [2, 8])
      (.seq
       (.reg [⟨some 24, .call (.c (.func 28 [] [])) [(.c (.str [112, 114, 111, 103, 114, 97, 109])), (.c .nil)], none⟩,
         ⟨some 9, .alloc [(.str []), (.str []), (.int .i64 0), .nil], none⟩,
         ⟨none, .store 4 (.t 9) (.t 24), none⟩] [2, 8, 9])
       (.seq
        (.block 0
         (.loop
          (.seq
           (.seq
            (.reg [⟨some 25, .mov (.t 8), none⟩,
              ⟨some 26, .nilck (.t 25), none⟩,
              ⟨some 27, .fld 4 (.t 26), none⟩,
              ⟨some 28, .load none (.t 27), none⟩,
              ⟨some 29, .bin .eql (.t 28) (.c (.int .i64 0)), none⟩] [2, 8, 9, 29])
            (.cond (.t 29)
             .skip
             (.exit 0)))
           (.block 1
            (.seq
             (.block 2
              (.loop
               (.seq
                (.seq
                 (.reg [⟨some 30, .mov (.t 8), none⟩,
                   ⟨some 31, .blds 0 false 1 1 [(.str [])] [(0, 1, (.c (.str [59])))], none⟩,
                   ⟨some 32, .call (.c (.func 29 [] [])) [(.t 30), (.t 31)], none⟩,
                   ⟨some 33, .mov (.t 32), none⟩,
                   ⟨some 34, .mov (.t 8), some (33, false)⟩,
                   ⟨some 35, .call (.c (.func 30 [] [])) [(.t 34)], some (33, false)⟩,
                   ⟨some 36, .prt none 0 (.t 35), some (33, false)⟩,
                   ⟨some 37, .bin .eql (.t 36) (.c (.int .i64 1)), some (33, false)⟩,
                   ⟨some 38, .pick (.t 33) (.c (.bool true)) (.t 37), none⟩] [2, 8, 9, 38])
                 (.cond (.t 38)
                  .skip
                  (.exit 2)))
                (.block 3
                 (.reg [⟨some 39, .mov (.t 8), none⟩,
                   ⟨some 40, .call (.c (.func 31 [] [])) [(.t 39)], none⟩] [2, 8, 9])))))
             (.seq
              (.seq
               (.reg [⟨some 41, .mov (.t 8), none⟩,
                 ⟨some 42, .call (.c (.func 30 [] [])) [(.t 41)], none⟩,
                 ⟨some 43, .prt none 0 (.t 42), none⟩,
                 ⟨some 44, .bin .eql (.t 43) (.c (.int .i64 0)), none⟩] [2, 8, 9, 44])
               (.cond (.t 44)
                (.exit 0)
                .skip))
              (.drw (.st [⟨some 45, .fld 3 (.t 9), none⟩]
               (.st [⟨some 46, .load none (.t 45), none⟩]
               (.st [⟨some 47, .mov (.t 8), none⟩]
               (.st [⟨some 48, .call (.c (.func 32 [] [])) [(.t 47)], none⟩,
                 ⟨some 46, .same (.load none (.t 45)), none⟩]
               (.st [⟨some 49, .blds 0 true 4 1 [(.str []), (.str []), (.int .i64 0), .nil] [(0, 4, (.t 48))], none⟩]
               (.st [⟨some 50, .append 0 true 4 64 (.t 46) (.t 49), none⟩]
               (.st [⟨some 51, .fld 3 (.t 9), none⟩]
               (.st [⟨none, .store 1 (.t 51) (.t 50), none⟩]
               .done)))))))) [2, 8, 9])))))))
        (.seq
         (.seq
          (.reg [⟨some 52, .mov (.t 8), none⟩,
            ⟨some 53, .nilck (.t 52), none⟩,
            ⟨some 54, .fld 4 (.t 53), none⟩,
            ⟨some 55, .load none (.t 54), none⟩,
            ⟨some 56, .bin .neq (.t 55) (.c (.int .i64 0)), none⟩] [2, 8, 9, 56])
          (.cond (.t 56)
           (.seq
            (.drw (.st [⟨some 57, .build [(.str []), (.str []), (.int .i64 0), .nil] [], none⟩]
             (.st [⟨some 58, .mov (.t 8), none⟩]
             (.st [⟨some 59, .nilck (.t 58), none⟩]
             (.st [⟨some 60, .fld 5 (.t 59), none⟩]
             (.st [⟨some 61, .load none (.t 60), none⟩]
             (.st [⟨some 62, .mov (.t 8), none⟩]
             (.st [⟨some 63, .nilck (.t 62), none⟩]
             (.st [⟨some 64, .fld 4 (.t 63), none⟩]
             (.st [⟨some 65, .load none (.t 64), none⟩]
             (.st [⟨none, .store 4 (.t 2) (.t 57), none⟩,
               ⟨some 65, .same (.load none (.t 64)), none⟩,
               ⟨some 61, .same (.load none (.t 60)), none⟩]
             (.st [⟨some 3, .mov (.t 61), none⟩]
             (.st [⟨some 4, .mov (.t 65), none⟩]
             .done)))))))))))) [2, 3, 4])
            .ret)
           .skip))
         (.seq
          (.reg [⟨some 66, .load (some 4) (.t 9), none⟩,
            ⟨none, .store 4 (.t 2) (.t 66), none⟩,
            ⟨some 3, .mov (.c (.int .i64 0)), none⟩,
            ⟨some 4, .mov (.c (.int .i64 0)), none⟩] [2, 3, 4])
          .ret))))))))
def rv17 : List RV := [.cell 2 (some 4), .t 3, .t 4]
def hi17 : Hints := ⟨[], [], [(0, [0, 2]), (1, [2, 5, 6, 7]), (2, [2, 5, 6, 7, 17]), (3, [2, 3, 4]), (4, [2, 8]), (5, [2, 8, 9]), (6, [2, 8, 9, 29]), (7, [2, 8, 9, 38]), (8, [2, 8, 9]), (9, [2, 8, 9, 44]), (10, [2, 8, 9]), (11, [2, 8, 9, 56]), (12, [2, 3, 4]), (13, [2, 3, 4])]⟩
noncomputable def code17 : Code := Tryz.f17.body.getD .skip
theorem low17 : lowC Tryz.prog hi17 67 code17 = some ir17 := by kernel_rfl
noncomputable def L17 (X : Ctx) (hX : X.P = Tryz.prog) : Lowered X 17 ir17 rv17 67 where
  fn := Tryz.f17
  code := code17
  h := hi17
  mixed := by rw [hX]; exact Tryz.checked.mixed
  func := by rw [hX]; exact Tryz.func17
  name := by kernel_rfl
  body := by kernel_rfl
  size := Tryz.ntmps17
  low := by rw [hX]; exact low17
  res := by rw [hX]; kernel_rfl
/-- scribe/resolve.Resolve -/
def ir18 : LC :=
  (.seq
   (.reg [⟨some 1, .box (.t 0), none⟩,
     ⟨some 2, .mov (.c .nilptr), none⟩,
     ⟨some 3, .mov (.c (.int .i64 0)), none⟩,
     ⟨some 4, .mov (.c (.int .i64 0)), none⟩] [1])
   (.seq
    (.reg [⟨some 15, .mkmap, none⟩,
      ⟨some 16, .build [.nil, .nil, .nil] [], none⟩,
      ⟨some 17, .box (.t 16), none⟩,
      ⟨some 18, .mkmap, none⟩,
      ⟨some 19, .build [(.map none), .nilptr, (.map none), .nil, (.int .i64 0), (.int .i64 0)] [(0, 1, (.t 15)), (1, 1, (.t 17)), (2, 1, (.t 18))], none⟩,
      ⟨some 20, .box (.t 19), none⟩,
      ⟨some 5, .mov (.t 20), none⟩] [1, 5])
    (.seq
     (.reg [⟨some 21, .mov (.t 5), none⟩,
       ⟨some 22, .fld 3 (.t 1), none⟩,
       ⟨some 23, .load none (.t 22), none⟩,
       ⟨some 24, .call (.c (.func 33 [] [])) [(.t 21), (.t 23)], none⟩] [1, 5])
     (.seq
      (.reg [⟨some 25, .mov (.t 5), none⟩,
        ⟨some 26, .fld 3 (.t 1), none⟩,
        ⟨some 27, .load none (.t 26), none⟩,
        ⟨some 28, .call (.c (.func 34 [] [])) [(.t 25), (.t 27)], none⟩] [1, 5])
      (.seq
       (.reg [⟨some 6, .mov (.c (.int .i64 0)), none⟩] [1, 5, 6])
       (.seq
        (.seq
         (.reg [⟨some 29, .fld 3 (.t 1), none⟩,
           ⟨some 30, .load none (.t 29), none⟩,
           ⟨some 31, .len (.t 30), none⟩,
           ⟨some 32, .mov (.c (.int .i64 0)), none⟩] [5, 6, 30, 31, 32])
         (.block 0
          (.loop
           (.seq
            (.reg [⟨some 33, .bin .lss (.t 32) (.t 31), none⟩] [5, 6, 30, 31, 32, 33])
            (.seq
             (.cond (.t 33)
              .skip
              (.exit 0))
             (.seq
              (.block 1
               (.seq
                (.reg [⟨some 34, .ixa 4 (.t 30) (.t 32), none⟩,
                  ⟨some 35, .load (some 4) (.t 34), none⟩,
                  ⟨some 8, .alloc [(.str []), (.str []), (.int .i64 0), .nil], none⟩,
                  ⟨none, .store 4 (.t 8) (.t 35), none⟩] [5, 6, 8, 30, 31, 32])
                (.seq
                 (.reg [⟨some 36, .mov (.t 5), none⟩,
                   ⟨some 37, .load (some 4) (.t 8), none⟩,
                   ⟨some 38, .mov (.t 6), none⟩,
                   ⟨some 39, .call (.c (.func 35 [] [])) [(.t 36), (.t 37), (.t 38)], none⟩] [5, 6, 8, 30, 31, 32])
                 (.seq
                  (.reg [⟨some 40, .fld 0 (.t 8), none⟩,
                    ⟨some 41, .load none (.t 40), none⟩,
                    ⟨some 42, .bin .eql (.t 41) (.c (.str [102, 117, 110, 99])), none⟩] [5, 6, 30, 31, 32, 42])
                  (.cond (.t 42)
                   (.reg [⟨some 43, .mov (.t 6), none⟩,
                     ⟨some 44, .bin .add (.t 43) (.c (.int .i64 1)), none⟩,
                     ⟨some 6, .mov (.t 44), none⟩] [5, 6, 30, 31, 32])
                   .skip)))))
              (.reg [⟨some 45, .bin .add (.t 32) (.c (.int .i64 1)), none⟩,
                ⟨some 32, .mov (.t 45), none⟩] [5, 6, 30, 31, 32])))))))
        (.seq
         (.seq
          (.reg [⟨some 46, .mov (.t 5), none⟩,
            ⟨some 47, .nilck (.t 46), none⟩,
            ⟨some 48, .fld 5 (.t 47), none⟩,
            ⟨some 49, .load none (.t 48), none⟩,
            ⟨some 50, .bin .neq (.t 49) (.c (.int .i64 0)), none⟩] [5, 50])
          (.cond (.t 50)
           (.seq
            (.drw (.st [⟨some 51, .mov (.t 5), none⟩]
             (.st [⟨some 52, .nilck (.t 51), none⟩]
             (.st [⟨some 53, .fld 4 (.t 52), none⟩]
             (.st [⟨some 54, .load none (.t 53), none⟩]
             (.st [⟨some 55, .mov (.t 5), none⟩]
             (.st [⟨some 56, .nilck (.t 55), none⟩]
             (.st [⟨some 57, .fld 5 (.t 56), none⟩]
             (.st [⟨some 58, .load none (.t 57), none⟩]
             (.st [⟨some 2, .mov (.c .nilptr), none⟩]
             (.st [⟨some 3, .mov (.t 54), none⟩]
             (.st [⟨some 4, .mov (.t 58), none⟩]
             .done))))))))))) [2, 3, 4])
            .ret)
           .skip))
         (.seq
          (.seq
           (.reg [⟨some 59, .mov (.t 5), none⟩,
             ⟨some 60, .nilck (.t 59), none⟩,
             ⟨some 61, .fld 1 (.t 60), none⟩,
             ⟨some 62, .load none (.t 61), none⟩,
             ⟨some 63, .nilck (.t 62), none⟩,
             ⟨some 64, .fld 0 (.t 63), none⟩,
             ⟨some 65, .load none (.t 64), none⟩,
             ⟨some 66, .len (.t 65), none⟩,
             ⟨some 67, .mov (.c (.int .i64 0)), none⟩] [5, 65, 66, 67])
           (.block 2
            (.loop
             (.seq
              (.reg [⟨some 68, .bin .lss (.t 67) (.t 66), none⟩] [5, 65, 66, 67, 68])
              (.seq
               (.cond (.t 68)
                .skip
                (.exit 2))
               (.seq
                (.block 3
                 (.seq
                  (.reg [⟨some 69, .mov (.t 67), none⟩,
                    ⟨some 70, .ixa 7 (.t 65) (.t 67), none⟩,
                    ⟨some 71, .load (some 7) (.t 70), none⟩,
                    ⟨some 10, .alloc [(.str []), .nil, .nil, (.str []), (.str []), (.int .i64 0), .nil], none⟩,
                    ⟨some 9, .mov (.t 69), none⟩,
                    ⟨none, .store 7 (.t 10) (.t 71), none⟩] [5, 9, 10, 65, 66, 67])
                  (.seq
                   (.reg [⟨some 72, .fld 1 (.t 10), none⟩,
                     ⟨some 73, .load none (.t 72), none⟩,
                     ⟨some 74, .len (.t 73), none⟩,
                     ⟨some 75, .mov (.c (.int .i64 0)), none⟩] [5, 9, 65, 66, 67, 73, 74, 75])
                   (.block 4
                    (.loop
                     (.seq
                      (.reg [⟨some 76, .bin .lss (.t 75) (.t 74), none⟩] [5, 9, 65, 66, 67, 73, 74, 75, 76])
                      (.seq
                       (.cond (.t 76)
                        .skip
                        (.exit 4))
                       (.seq
                        (.block 5
                         (.seq
                          (.reg [⟨some 77, .ixa 1 (.t 73) (.t 75), none⟩,
                            ⟨some 78, .load none (.t 77), none⟩,
                            ⟨some 12, .mov (.t 78), none⟩] [5, 9, 12, 65, 66, 67, 73, 74, 75])
                          (.drw (.st [⟨some 79, .mov (.t 5), none⟩]
                           (.st [⟨some 80, .nilck (.t 79), none⟩]
                           (.st [⟨some 81, .fld 1 (.t 80), none⟩]
                           (.st [⟨some 82, .load none (.t 81), none⟩]
                           (.st [⟨some 83, .nilck (.t 82), none⟩]
                           (.st [⟨some 84, .fld 0 (.t 83), none⟩]
                           (.st [⟨some 85, .load none (.t 84), none⟩]
                           (.st [⟨some 86, .mov (.t 9), none⟩]
                           (.st [⟨some 87, .mov (.t 5), none⟩]
                           (.st [⟨some 88, .nilck (.t 87), none⟩]
                           (.st [⟨some 89, .fld 1 (.t 88), none⟩]
                           (.st [⟨some 90, .load none (.t 89), none⟩]
                           (.st [⟨some 91, .nilck (.t 90), none⟩]
                           (.st [⟨some 92, .fld 0 (.t 91), none⟩]
                           (.st [⟨some 93, .load none (.t 92), none⟩]
                           (.st [⟨some 94, .mov (.t 9), none⟩]
                           (.st [⟨some 95, .ixa 7 (.t 93) (.t 94), none⟩]
                           (.st [⟨some 96, .fld 2 (.t 95), none⟩]
                           (.st [⟨some 97, .load none (.t 96), none⟩]
                           (.st [⟨some 98, .mov (.t 5), none⟩]
                           (.st [⟨some 99, .nilck (.t 98), none⟩]
                           (.st [⟨some 100, .fld 2 (.t 99), none⟩]
                           (.st [⟨some 101, .load none (.t 100), none⟩]
                           (.st [⟨some 102, .mov (.t 9), none⟩]
                           (.st [⟨some 103, .mov (.t 12), none⟩]
                           (.st [⟨some 104, .build [(.int .i64 0), (.str [])] [(0, 1, (.t 102)), (1, 1, (.t 103))], none⟩]
                           (.st [⟨some 105, .lookup true [0, 1] (.bool false) false (.t 101) (.t 104), none⟩]
                           (.st [⟨some 106, .blds 0 false 1 1 [(.bool false)] [(0, 1, (.t 105))], none⟩]
                           (.st [⟨some 107, .append 0 false 1 1 (.t 97) (.t 106), none⟩,
                             ⟨some 85, .same (.load none (.t 84)), none⟩,
                             ⟨some 82, .same (.load none (.t 81)), none⟩]
                           (.st [⟨some 108, .ixa 7 (.t 85) (.t 86), none⟩]
                           (.st [⟨some 109, .fld 2 (.t 108), none⟩]
                           (.st [⟨none, .store 1 (.t 109) (.t 107), none⟩]
                           .done)))))))))))))))))))))))))))))))) [5, 9, 65, 66, 67, 73, 74, 75])))
                        (.reg [⟨some 110, .bin .add (.t 75) (.c (.int .i64 1)), none⟩,
                          ⟨some 75, .mov (.t 110), none⟩] [5, 9, 65, 66, 67, 73, 74, 75])))))))))
                (.reg [⟨some 111, .bin .add (.t 67) (.c (.int .i64 1)), none⟩,
                  ⟨some 67, .mov (.t 111), none⟩] [5, 65, 66, 67])))))))
          (.seq
           (.drw (.st [⟨some 112, .mov (.t 5), none⟩]
            (.st [⟨some 113, .nilck (.t 112), none⟩]
            (.st [⟨some 114, .fld 1 (.t 113), none⟩]
            (.st [⟨some 115, .load none (.t 114), none⟩]
            (.st [⟨some 116, .mov (.t 5), none⟩]
            (.st [⟨some 117, .nilck (.t 116), none⟩]
            (.st [⟨some 118, .fld 3 (.t 117), none⟩]
            (.st [⟨some 119, .load none (.t 118), none⟩]
            (.st [⟨some 120, .nilck (.t 115), none⟩]
            (.st [⟨some 121, .fld 1 (.t 120), none⟩]
            (.st [⟨none, .store 1 (.t 121) (.t 119), none⟩]
            .done))))))))))) [5])
           (.seq
            (.seq
             (.reg [⟨some 122, .mov (.t 5), none⟩,
               ⟨some 123, .nilck (.t 122), none⟩,
               ⟨some 124, .fld 3 (.t 123), none⟩,
               ⟨some 125, .load none (.t 124), none⟩,
               ⟨some 126, .len (.t 125), none⟩,
               ⟨some 127, .mov (.c (.int .i64 0)), none⟩] [5, 125, 126, 127])
             (.block 6
              (.loop
               (.seq
                (.reg [⟨some 128, .bin .lss (.t 127) (.t 126), none⟩] [5, 125, 126, 127, 128])
                (.seq
                 (.cond (.t 128)
                  .skip
                  (.exit 6))
                 (.seq
                  (.block 7
                   (.seq
                    (.reg [⟨some 129, .ixa 1 (.t 125) (.t 127), none⟩,
                      ⟨some 130, .load none (.t 129), none⟩,
                      ⟨some 14, .mov (.t 130), none⟩] [5, 14, 125, 126, 127])
                    (.drw (.st [⟨some 131, .mov (.t 5), none⟩]
                     (.st [⟨some 132, .nilck (.t 131), none⟩]
                     (.st [⟨some 133, .fld 1 (.t 132), none⟩]
                     (.st [⟨some 134, .load none (.t 133), none⟩]
                     (.st [⟨some 135, .mov (.t 5), none⟩]
                     (.st [⟨some 136, .nilck (.t 135), none⟩]
                     (.st [⟨some 137, .fld 1 (.t 136), none⟩]
                     (.st [⟨some 138, .load none (.t 137), none⟩]
                     (.st [⟨some 139, .nilck (.t 138), none⟩]
                     (.st [⟨some 140, .fld 2 (.t 139), none⟩]
                     (.st [⟨some 141, .load none (.t 140), none⟩]
                     (.st [⟨some 142, .mov (.t 5), none⟩]
                     (.st [⟨some 143, .nilck (.t 142), none⟩]
                     (.st [⟨some 144, .fld 2 (.t 143), none⟩]
                     (.st [⟨some 145, .load none (.t 144), none⟩]
                     (.st [⟨some 146, .mov (.t 14), none⟩]
                     (.st [⟨some 147, .build [(.int .i64 0), (.str [])] [(0, 1, (.c (.int .i64 (-1)))), (1, 1, (.t 146))], none⟩]
                     (.st [⟨some 148, .lookup true [0, 1] (.bool false) false (.t 145) (.t 147), none⟩]
                     (.st [⟨some 149, .blds 0 false 1 1 [(.bool false)] [(0, 1, (.t 148))], none⟩]
                     (.st [⟨some 150, .append 0 false 1 1 (.t 141) (.t 149), none⟩,
                       ⟨some 134, .same (.load none (.t 133)), none⟩]
                     (.st [⟨some 151, .nilck (.t 134), none⟩]
                     (.st [⟨some 152, .fld 2 (.t 151), none⟩]
                     (.st [⟨none, .store 1 (.t 152) (.t 150), none⟩]
                     .done))))))))))))))))))))))) [5, 125, 126, 127])))
                  (.reg [⟨some 153, .bin .add (.t 127) (.c (.int .i64 1)), none⟩,
                    ⟨some 127, .mov (.t 153), none⟩] [5, 125, 126, 127])))))))
            (.seq
             (.reg [⟨some 154, .mov (.t 5), none⟩,
               ⟨some 155, .nilck (.t 154), none⟩,
               ⟨some 156, .fld 1 (.t 155), none⟩,
               ⟨some 157, .load none (.t 156), none⟩,
               ⟨some 2, .mov (.t 157), none⟩,
               ⟨some 3, .mov (.c (.int .i64 0)), none⟩,
               ⟨some 4, .mov (.c (.int .i64 0)), none⟩] [2, 3, 4])
             .ret)))))))))))
def rv18 : List RV := [.t 2, .t 3, .t 4]
def hi18 : Hints := ⟨[], [], [(0, [1]), (1, [1, 5]), (2, [1, 5]), (3, [1, 5]), (4, [1, 5, 6]), (5, [5, 6, 30, 31, 32]), (6, [5, 6, 30, 31, 32, 33]), (7, [5, 6, 8, 30, 31, 32]), (8, [5, 6, 8, 30, 31, 32]), (9, [5, 6, 30, 31, 32, 42]), (10, [5, 6, 30, 31, 32]), (11, [5, 6, 30, 31, 32]), (12, [5, 50]), (13, [2, 3, 4]), (14, [5, 65, 66, 67]), (15, [5, 65, 66, 67, 68]), (16, [5, 9, 10, 65, 66, 67]), (17, [5, 9, 65, 66, 67, 73, 74, 75]), (18, [5, 9, 65, 66, 67, 73, 74, 75, 76]), (19, [5, 9, 12, 65, 66, 67, 73, 74, 75]), (20, [5, 9, 65, 66, 67, 73, 74, 75]), (21, [5, 9, 65, 66, 67, 73, 74, 75]), (22, [5, 65, 66, 67]), (23, [5]), (24, [5, 125, 126, 127]), (25, [5, 125, 126, 127, 128]), (26, [5, 14, 125, 126, 127]), (27, [5, 125, 126, 127]), (28, [5, 125, 126, 127]), (29, [2, 3, 4])]⟩
noncomputable def code18 : Code := Tryz.f18.body.getD .skip
theorem low18 : lowC Tryz.prog hi18 158 code18 = some ir18 := by kernel_rfl
noncomputable def L18 (X : Ctx) (hX : X.P = Tryz.prog) : Lowered X 18 ir18 rv18 158 where
  fn := Tryz.f18
  code := code18
  h := hi18
  mixed := by rw [hX]; exact Tryz.checked.mixed
  func := by rw [hX]; exact Tryz.func18
  name := by kernel_rfl
  body := by kernel_rfl
  size := Tryz.ntmps18
  low := by rw [hX]; exact low18
  res := by rw [hX]; kernel_rfl
/-- scribe/code.find -/
def ir19 : LC :=
  (.seq
   (.reg [⟨some 4, .mov (.c (.int .i64 0)), none⟩] [0, 1])
   (.seq
    (.seq
     (.reg [⟨some 7, .mov (.t 0), none⟩,
       ⟨some 8, .len (.t 7), none⟩,
       ⟨some 9, .mov (.c (.int .i64 0)), none⟩] [1, 7, 8, 9])
     (.block 0
      (.loop
       (.seq
        (.reg [⟨some 10, .bin .lss (.t 9) (.t 8), none⟩] [1, 7, 8, 9, 10])
        (.seq
         (.cond (.t 10)
          .skip
          (.exit 0))
         (.seq
          (.block 1
           (.seq
            (.reg [⟨some 11, .mov (.t 9), none⟩,
              ⟨some 12, .ixa 1 (.t 7) (.t 9), none⟩,
              ⟨some 13, .load none (.t 12), none⟩,
              ⟨some 5, .mov (.t 11), none⟩,
              ⟨some 6, .mov (.t 13), none⟩] [1, 5, 6, 7, 8, 9])
            (.seq
             (.reg [⟨some 14, .mov (.t 6), none⟩,
               ⟨some 15, .mov (.t 1), none⟩,
               ⟨some 16, .bin .eql (.t 14) (.t 15), none⟩] [1, 5, 7, 8, 9, 16])
             (.cond (.t 16)
              (.seq
               (.reg [⟨some 17, .mov (.t 5), none⟩,
                 ⟨some 4, .mov (.t 17), none⟩] [4])
               .ret)
              .skip))))
          (.reg [⟨some 18, .bin .add (.t 9) (.c (.int .i64 1)), none⟩,
            ⟨some 9, .mov (.t 18), none⟩] [1, 7, 8, 9])))))))
    (.seq
     (.reg [⟨some 4, .mov (.c (.int .i64 (-1))), none⟩] [4])
     .ret)))
def rv19 : List RV := [.t 4]
def hi19 : Hints := ⟨[], [], [(0, [0, 1]), (1, [1, 7, 8, 9]), (2, [1, 7, 8, 9, 10]), (3, [1, 5, 6, 7, 8, 9]), (4, [1, 5, 7, 8, 9, 16]), (5, [4]), (6, [1, 7, 8, 9]), (7, [4])]⟩
noncomputable def code19 : Code := Tryz.f19.body.getD .skip
theorem low19 : lowC Tryz.prog hi19 19 code19 = some ir19 := by kernel_rfl
noncomputable def L19 (X : Ctx) (hX : X.P = Tryz.prog) : Lowered X 19 ir19 rv19 19 where
  fn := Tryz.f19
  code := code19
  h := hi19
  mixed := by rw [hX]; exact Tryz.checked.mixed
  func := by rw [hX]; exact Tryz.func19
  name := by kernel_rfl
  body := by kernel_rfl
  size := Tryz.ntmps19
  low := by rw [hX]; exact low19
  res := by rw [hX]; kernel_rfl
/-- (*scribe/code.compiler).part -/
def ir20 : LC :=
  (.seq
   (.reg [⟨some 6, .mov (.c (.int .i64 0)), none⟩] [0, 1, 2])
   (.seq
    (.reg [⟨some 12, .mov (.t 0), none⟩,
      ⟨some 13, .nilck (.t 12), none⟩,
      ⟨some 14, .fld 0 (.t 13), none⟩,
      ⟨some 15, .load none (.t 14), none⟩,
      ⟨some 16, .nilck (.t 15), none⟩,
      ⟨some 17, .fld 0 (.t 16), none⟩,
      ⟨some 18, .load none (.t 17), none⟩,
      ⟨some 19, .len (.t 18), none⟩,
      ⟨some 7, .mov (.t 19), none⟩] [0, 1, 2, 7])
    (.seq
     (.seq
      (.reg [⟨some 20, .mov (.t 1), none⟩,
        ⟨some 21, .len (.t 20), none⟩,
        ⟨some 22, .mov (.c (.int .i64 0)), none⟩] [0, 2, 7, 20, 21, 22])
      (.block 0
       (.loop
        (.seq
         (.reg [⟨some 23, .bin .lss (.t 22) (.t 21), none⟩] [0, 2, 7, 20, 21, 22, 23])
         (.seq
          (.cond (.t 23)
           .skip
           (.exit 0))
          (.seq
           (.block 1
            (.seq
             (.reg [⟨some 24, .ixa 4 (.t 20) (.t 22), none⟩,
               ⟨some 25, .load (some 4) (.t 24), none⟩,
               ⟨some 9, .alloc [(.str []), (.str []), (.int .i64 0), .nil], none⟩,
               ⟨none, .store 4 (.t 9) (.t 25), none⟩] [0, 2, 7, 9, 20, 21, 22])
             (.seq
              (.seq
               (.reg [⟨some 26, .fld 0 (.t 9), none⟩,
                 ⟨some 27, .load none (.t 26), none⟩,
                 ⟨some 28, .mov (.t 2), none⟩,
                 ⟨some 29, .bin .neq (.t 27) (.t 28), none⟩] [0, 2, 7, 9, 20, 21, 22, 29])
               (.cond (.t 29)
                (.exit 1)
                .skip))
              (.seq
               (.reg [⟨some 30, .fld 3 (.t 9), none⟩,
                 ⟨some 31, .load none (.t 30), none⟩,
                 ⟨some 32, .fld 3 (.t 9), none⟩,
                 ⟨some 33, .load none (.t 32), none⟩,
                 ⟨some 34, .len (.t 33), none⟩,
                 ⟨some 35, .bin .sub (.t 34) (.c (.int .i64 1)), none⟩,
                 ⟨some 36, .ixa 4 (.t 31) (.t 35), none⟩,
                 ⟨some 37, .load (some 4) (.t 36), none⟩,
                 ⟨some 10, .alloc [(.str []), (.str []), (.int .i64 0), .nil], none⟩,
                 ⟨none, .store 4 (.t 10) (.t 37), none⟩] [0, 2, 7, 9, 10, 20, 21, 22])
               (.seq
                (.seq
                 (.reg [⟨some 38, .mov (.t 2), none⟩,
                   ⟨some 39, .bin .neq (.t 38) (.c (.str [114, 117, 108, 101])), none⟩,
                   ⟨some 40, .mov (.t 39), none⟩,
                   ⟨some 41, .fld 3 (.t 9), some (40, false)⟩,
                   ⟨some 42, .load none (.t 41), some (40, false)⟩,
                   ⟨some 43, .ixa 4 (.t 42) (.c (.int .i64 0)), some (40, false)⟩,
                   ⟨some 44, .fld 0 (.t 43), some (40, false)⟩,
                   ⟨some 45, .load none (.t 44), some (40, false)⟩,
                   ⟨some 46, .bin .eql (.t 45) (.c (.str [97, 108, 119, 97, 121, 115])), some (40, false)⟩,
                   ⟨some 47, .pick (.t 40) (.c (.bool true)) (.t 46), none⟩] [0, 2, 7, 9, 10, 20, 21, 22, 47])
                 (.cond (.t 47)
                  (.seq
                   (.reg [⟨some 48, .mov (.t 0), none⟩,
                     ⟨some 49, .load (some 4) (.t 10), none⟩,
                     ⟨some 50, .call (.c (.func 21 [] [])) [(.t 48), (.t 49)], none⟩] [0, 2, 7, 20, 21, 22])
                   (.exit 1))
                  .skip))
                (.seq
                 (.reg [⟨some 51, .mov (.t 0), none⟩,
                   ⟨some 52, .fld 3 (.t 9), none⟩,
                   ⟨some 53, .load none (.t 52), none⟩,
                   ⟨some 54, .ixa 4 (.t 53) (.c (.int .i64 0)), none⟩,
                   ⟨some 55, .load (some 4) (.t 54), none⟩,
                   ⟨some 56, .call (.c (.func 36 [] [])) [(.t 51), (.t 55)], none⟩] [0, 2, 7, 10, 20, 21, 22])
                 (.seq
                  (.reg [⟨some 57, .mov (.t 0), none⟩,
                    ⟨some 58, .call (.c (.func 23 [] [])) [(.t 57), (.c (.int .i64 17)), (.c (.int .i64 0)), (.c (.int .i64 0))], none⟩,
                    ⟨some 11, .mov (.t 58), none⟩] [0, 2, 7, 10, 11, 20, 21, 22])
                  (.seq
                   (.seq
                    (.reg [⟨some 59, .fld 0 (.t 10), none⟩,
                      ⟨some 60, .load none (.t 59), none⟩,
                      ⟨some 61, .bin .eql (.t 60) (.c (.str [100, 101, 102, 97, 117, 108, 116])), none⟩] [0, 2, 7, 10, 11, 20, 21, 22, 61])
                    (.cond (.t 61)
                     (.reg [⟨some 62, .build [(.str []), (.str []), (.int .i64 0), .nil] [(0, 1, (.c (.str [110, 111, 110, 101])))], none⟩,
                       ⟨some 63, .blds 0 true 4 1 [(.str []), (.str []), (.int .i64 0), .nil] [(0, 4, (.t 62))], none⟩,
                       ⟨some 64, .build [(.str []), (.str []), (.int .i64 0), .nil] [(0, 1, (.c (.str [112, 114, 105, 110, 116]))), (3, 1, (.t 63))], none⟩,
                       ⟨none, .store 4 (.t 10) (.t 64), none⟩] [0, 2, 7, 10, 11, 20, 21, 22])
                     .skip))
                   (.seq
                    (.reg [⟨some 65, .mov (.t 0), none⟩,
                      ⟨some 66, .load (some 4) (.t 10), none⟩,
                      ⟨some 67, .call (.c (.func 21 [] [])) [(.t 65), (.t 66)], none⟩] [0, 2, 7, 11, 20, 21, 22])
                    (.reg [⟨some 68, .mov (.t 0), none⟩,
                      ⟨some 69, .mov (.t 11), none⟩,
                      ⟨some 70, .blds 0 false 1 1 [(.int .i64 0)] [(0, 1, (.t 69))], none⟩,
                      ⟨some 71, .call (.c (.func 37 [] [])) [(.t 68), (.t 70)], none⟩] [0, 2, 7, 20, 21, 22]))))))))))
           (.reg [⟨some 72, .bin .add (.t 22) (.c (.int .i64 1)), none⟩,
             ⟨some 22, .mov (.t 72), none⟩] [0, 2, 7, 20, 21, 22])))))))
     (.seq
      (.reg [⟨some 73, .mov (.t 0), none⟩,
        ⟨some 74, .call (.c (.func 23 [] [])) [(.t 73), (.c (.int .i64 34)), (.c (.int .i64 0)), (.c (.int .i64 0))], none⟩] [7])
      (.seq
       (.reg [⟨some 75, .mov (.t 7), none⟩,
         ⟨some 6, .mov (.t 75), none⟩] [6])
       .ret)))))
def rv20 : List RV := [.t 6]
def hi20 : Hints := ⟨[], [], [(0, [0, 1, 2]), (1, [0, 1, 2, 7]), (2, [0, 2, 7, 20, 21, 22]), (3, [0, 2, 7, 20, 21, 22, 23]), (4, [0, 2, 7, 9, 20, 21, 22]), (5, [0, 2, 7, 9, 20, 21, 22, 29]), (6, [0, 2, 7, 9, 10, 20, 21, 22]), (7, [0, 2, 7, 9, 10, 20, 21, 22, 47]), (8, [0, 2, 7, 20, 21, 22]), (9, [0, 2, 7, 10, 20, 21, 22]), (10, [0, 2, 7, 10, 11, 20, 21, 22]), (11, [0, 2, 7, 10, 11, 20, 21, 22, 61]), (12, [0, 2, 7, 10, 11, 20, 21, 22]), (13, [0, 2, 7, 11, 20, 21, 22]), (14, [0, 2, 7, 20, 21, 22]), (15, [0, 2, 7, 20, 21, 22]), (16, [7]), (17, [6])]⟩
noncomputable def code20 : Code := Tryz.f20.body.getD .skip
theorem low20 : lowC Tryz.prog hi20 76 code20 = some ir20 := by kernel_rfl
noncomputable def L20 (X : Ctx) (hX : X.P = Tryz.prog) : Lowered X 20 ir20 rv20 76 where
  fn := Tryz.f20
  code := code20
  h := hi20
  mixed := by rw [hX]; exact Tryz.checked.mixed
  func := by rw [hX]; exact Tryz.func20
  name := by kernel_rfl
  body := by kernel_rfl
  size := Tryz.ntmps20
  low := by rw [hX]; exact low20
  res := by rw [hX]; kernel_rfl
/-- (*scribe/code.compiler).stmt -/
def ir21 : LC :=
  (.seq
   (.reg [⟨some 2, .box (.t 0), none⟩,
     ⟨some 3, .box (.t 1), none⟩] [2, 3])
   (.seq
    (.reg [⟨some 20, .fld 0 (.t 3), none⟩,
      ⟨some 21, .load none (.t 20), none⟩] [2, 3, 21])
    (.block 0
     (.seq
      (.reg [⟨some 23, .bin .eql (.t 21) (.c (.str [98, 108, 111, 99, 107])), none⟩,
        ⟨some 22, .mov (.t 23), none⟩] [2, 3, 21, 22])
      (.cond (.t 22)
       (.seq
        (.reg [⟨some 24, .fld 3 (.t 3), none⟩,
          ⟨some 25, .load none (.t 24), none⟩,
          ⟨some 26, .len (.t 25), none⟩,
          ⟨some 27, .mov (.c (.int .i64 0)), none⟩] [2, 25, 26, 27])
        (.block 1
         (.loop
          (.seq
           (.reg [⟨some 28, .bin .lss (.t 27) (.t 26), none⟩] [2, 25, 26, 27, 28])
           (.seq
            (.cond (.t 28)
             .skip
             (.exit 1))
            (.seq
             (.block 2
              (.seq
               (.reg [⟨some 29, .ixa 4 (.t 25) (.t 27), none⟩,
                 ⟨some 30, .load (some 4) (.t 29), none⟩,
                 ⟨some 5, .alloc [(.str []), (.str []), (.int .i64 0), .nil], none⟩,
                 ⟨none, .store 4 (.t 5) (.t 30), none⟩] [2, 5, 25, 26, 27])
               (.reg [⟨some 31, .load none (.t 2), none⟩,
                 ⟨some 32, .load (some 4) (.t 5), none⟩,
                 ⟨some 33, .call (.c (.func 21 [] [])) [(.t 31), (.t 32)], none⟩] [2, 25, 26, 27])))
             (.reg [⟨some 34, .bin .add (.t 27) (.c (.int .i64 1)), none⟩,
               ⟨some 27, .mov (.t 34), none⟩] [2, 25, 26, 27])))))))
       (.seq
        (.reg [⟨some 36, .bin .eql (.t 21) (.c (.str [101, 120, 112, 114])), none⟩,
          ⟨some 35, .mov (.t 36), none⟩] [2, 3, 21, 35])
        (.cond (.t 35)
         (.seq
          (.drw (.st [⟨some 37, .load none (.t 2), none⟩]
           (.st [⟨some 38, .fld 3 (.t 3), none⟩]
           (.st [⟨some 39, .load none (.t 38), none⟩]
           (.st [⟨some 40, .ixa 4 (.t 39) (.c (.int .i64 0)), none⟩]
           (.st [⟨some 41, .load (some 4) (.t 40), none⟩]
           (.st [⟨some 42, .call (.c (.func 36 [] [])) [(.t 37), (.t 41)], none⟩]
           .done)))))) [2])
          (.reg [⟨some 43, .load none (.t 2), none⟩,
            ⟨some 44, .call (.c (.func 23 [] [])) [(.t 43), (.c (.int .i64 18)), (.c (.int .i64 0)), (.c (.int .i64 0))], none⟩] []))
         (.seq
          (.reg [⟨some 46, .bin .eql (.t 21) (.c (.str [105, 102])), none⟩,
            ⟨some 45, .mov (.t 46), none⟩] [2, 3, 21, 45])
          (.cond (.t 45)
           (.seq
            (.drw (.st [⟨some 47, .load none (.t 2), none⟩]
             (.st [⟨some 48, .fld 3 (.t 3), none⟩]
             (.st [⟨some 49, .load none (.t 48), none⟩]
             (.st [⟨some 50, .ixa 4 (.t 49) (.c (.int .i64 0)), none⟩]
             (.st [⟨some 51, .load (some 4) (.t 50), none⟩]
             (.st [⟨some 52, .call (.c (.func 36 [] [])) [(.t 47), (.t 51)], none⟩]
             .done)))))) [2, 3])
            (.seq
             (.reg [⟨some 53, .load none (.t 2), none⟩,
               ⟨some 54, .call (.c (.func 23 [] [])) [(.t 53), (.c (.int .i64 17)), (.c (.int .i64 0)), (.c (.int .i64 0))], none⟩,
               ⟨some 6, .mov (.t 54), none⟩] [2, 3, 6])
             (.seq
              (.drw (.st [⟨some 55, .load none (.t 2), none⟩]
               (.st [⟨some 56, .fld 3 (.t 3), none⟩]
               (.st [⟨some 57, .load none (.t 56), none⟩]
               (.st [⟨some 58, .ixa 4 (.t 57) (.c (.int .i64 1)), none⟩]
               (.st [⟨some 59, .load (some 4) (.t 58), none⟩]
               (.st [⟨some 60, .call (.c (.func 21 [] [])) [(.t 55), (.t 59)], none⟩]
               .done)))))) [2, 3, 6])
              (.seq
               (.seq
                (.reg [⟨some 61, .fld 3 (.t 3), none⟩,
                  ⟨some 62, .load none (.t 61), none⟩,
                  ⟨some 63, .len (.t 62), none⟩,
                  ⟨some 64, .bin .eql (.t 63) (.c (.int .i64 3)), none⟩] [2, 3, 6, 64])
                (.cond (.t 64)
                 (.seq
                  (.reg [⟨some 65, .load none (.t 2), none⟩,
                    ⟨some 66, .call (.c (.func 23 [] [])) [(.t 65), (.c (.int .i64 15)), (.c (.int .i64 0)), (.c (.int .i64 0))], none⟩,
                    ⟨some 7, .mov (.t 66), none⟩] [2, 3, 6, 7])
                  (.seq
                   (.reg [⟨some 67, .load none (.t 2), none⟩,
                     ⟨some 68, .mov (.t 6), none⟩,
                     ⟨some 69, .blds 0 false 1 1 [(.int .i64 0)] [(0, 1, (.t 68))], none⟩,
                     ⟨some 70, .call (.c (.func 37 [] [])) [(.t 67), (.t 69)], none⟩] [2, 3, 7])
                   (.seq
                    (.drw (.st [⟨some 71, .load none (.t 2), none⟩]
                     (.st [⟨some 72, .fld 3 (.t 3), none⟩]
                     (.st [⟨some 73, .load none (.t 72), none⟩]
                     (.st [⟨some 74, .ixa 4 (.t 73) (.c (.int .i64 2)), none⟩]
                     (.st [⟨some 75, .load (some 4) (.t 74), none⟩]
                     (.st [⟨some 76, .call (.c (.func 21 [] [])) [(.t 71), (.t 75)], none⟩]
                     .done)))))) [2, 7])
                    (.reg [⟨some 77, .mov (.t 7), none⟩,
                      ⟨some 6, .mov (.t 77), none⟩] [2, 6]))))
                 .skip))
               (.reg [⟨some 78, .load none (.t 2), none⟩,
                 ⟨some 79, .mov (.t 6), none⟩,
                 ⟨some 80, .blds 0 false 1 1 [(.int .i64 0)] [(0, 1, (.t 79))], none⟩,
                 ⟨some 81, .call (.c (.func 37 [] [])) [(.t 78), (.t 80)], none⟩] [])))))
           (.seq
            (.reg [⟨some 83, .bin .eql (.t 21) (.c (.str [119, 104, 105, 108, 101])), none⟩,
              ⟨some 82, .mov (.t 83), none⟩] [2, 3, 21, 82])
            (.cond (.t 82)
             (.drw (.st [⟨some 84, .load none (.t 2), none⟩]
              (.st [⟨some 85, .fld 3 (.t 3), none⟩]
              (.st [⟨some 86, .load none (.t 85), none⟩]
              (.st [⟨some 87, .ixa 4 (.t 86) (.c (.int .i64 0)), none⟩]
              (.st [⟨some 88, .load (some 4) (.t 87), none⟩]
              (.st [⟨some 89, .fld 3 (.t 3), none⟩]
              (.st [⟨some 90, .load none (.t 89), none⟩]
              (.st [⟨some 91, .ixa 4 (.t 90) (.c (.int .i64 1)), none⟩]
              (.st [⟨some 92, .load (some 4) (.t 91), none⟩]
              (.st [⟨some 93, .call (.c (.func 38 [] [])) [(.t 84), (.t 88), (.t 92), (.c (.func 39 [] []))], none⟩]
              .done)))))))))) [])
             (.seq
              (.reg [⟨some 95, .bin .eql (.t 21) (.c (.str [102, 111, 114])), none⟩,
                ⟨some 94, .mov (.t 95), none⟩] [2, 3, 21, 94])
              (.cond (.t 94)
               (.seq
                (.drw (.st [⟨some 96, .load none (.t 2), none⟩]
                 (.st [⟨some 97, .fld 3 (.t 3), none⟩]
                 (.st [⟨some 98, .load none (.t 97), none⟩]
                 (.st [⟨some 99, .ixa 4 (.t 98) (.c (.int .i64 0)), none⟩]
                 (.st [⟨some 100, .load (some 4) (.t 99), none⟩]
                 (.st [⟨some 101, .call (.c (.func 21 [] [])) [(.t 96), (.t 100)], none⟩]
                 .done)))))) [2, 3])
                (.drw (.st [⟨some 102, .load none (.t 2), none⟩]
                 (.st [⟨some 103, .fld 3 (.t 3), none⟩]
                 (.st [⟨some 104, .load none (.t 103), none⟩]
                 (.st [⟨some 105, .ixa 4 (.t 104) (.c (.int .i64 1)), none⟩]
                 (.st [⟨some 106, .load (some 4) (.t 105), none⟩]
                 (.st [⟨some 107, .fld 3 (.t 3), none⟩]
                 (.st [⟨some 108, .load none (.t 107), none⟩]
                 (.st [⟨some 109, .ixa 4 (.t 108) (.c (.int .i64 3)), none⟩]
                 (.st [⟨some 110, .load (some 4) (.t 109), none⟩]
                 (.st [⟨some 111, .mkf 40 [] [(.t 2), (.t 3)], none⟩]
                 (.st [⟨some 112, .call (.c (.func 38 [] [])) [(.t 102), (.t 106), (.t 110), (.t 111)], none⟩]
                 .done))))))))))) []))
               (.seq
                (.reg [⟨some 114, .bin .eql (.t 21) (.c (.str [102, 111, 114, 105, 110])), none⟩,
                  ⟨some 113, .mov (.t 114), none⟩] [2, 3, 21, 113])
                (.cond (.t 113)
                 (.seq
                  (.drw (.st [⟨some 116, .load none (.t 2), none⟩]
                   (.st [⟨some 117, .fld 3 (.t 3), none⟩]
                   (.st [⟨some 118, .load none (.t 117), none⟩]
                   (.st [⟨some 119, .ixa 4 (.t 118) (.c (.int .i64 0)), none⟩]
                   (.st [⟨some 120, .fld 1 (.t 119), none⟩]
                   (.st [⟨some 121, .load none (.t 120), none⟩]
                   (.st [⟨some 122, .call (.c (.func 41 [] [])) [(.t 116), (.t 121)], none⟩]
                   (.st [⟨some 115, .mov (.t 122), none⟩]
                   (.st [⟨some 123, .ext 0 (.t 115), none⟩]
                   (.st [⟨some 124, .ext 1 (.t 115), none⟩]
                   (.st [⟨some 8, .mov (.t 123), none⟩]
                   (.st [⟨some 9, .mov (.t 124), none⟩]
                   .done)))))))))))) [2, 3, 8, 9])
                  (.seq
                   (.reg [⟨some 125, .load none (.t 2), none⟩,
                     ⟨some 126, .mov (.t 8), none⟩,
                     ⟨some 127, .mov (.t 9), none⟩,
                     ⟨some 128, .call (.c (.func 23 [] [])) [(.t 125), (.c (.int .i64 29)), (.t 126), (.t 127)], none⟩] [2, 3])
                   (.seq
                    (.reg [⟨some 129, .load none (.t 2), none⟩,
                      ⟨some 130, .call (.c (.func 23 [] [])) [(.t 129), (.c (.int .i64 30)), (.c (.int .i64 0)), (.c (.int .i64 0))], none⟩,
                      ⟨some 10, .mov (.t 130), none⟩] [2, 3, 10])
                    (.seq
                     (.reg [⟨some 132, .load none (.t 2), none⟩,
                       ⟨some 133, .fld 1 (.t 3), none⟩,
                       ⟨some 134, .load none (.t 133), none⟩,
                       ⟨some 135, .call (.c (.func 41 [] [])) [(.t 132), (.t 134)], none⟩,
                       ⟨some 131, .mov (.t 135), none⟩,
                       ⟨some 136, .ext 0 (.t 131), none⟩,
                       ⟨some 137, .ext 1 (.t 131), none⟩,
                       ⟨some 8, .mov (.t 136), none⟩,
                       ⟨some 9, .mov (.t 137), none⟩] [2, 3, 8, 9, 10])
                     (.seq
                      (.reg [⟨some 138, .load none (.t 2), none⟩,
                        ⟨some 139, .mov (.t 8), none⟩,
                        ⟨some 140, .mov (.t 9), none⟩,
                        ⟨some 141, .call (.c (.func 23 [] [])) [(.t 138), (.c (.int .i64 6)), (.t 139), (.t 140)], none⟩] [2, 3, 10])
                      (.seq
                       (.reg [⟨some 142, .load none (.t 2), none⟩,
                         ⟨some 143, .call (.c (.func 23 [] [])) [(.t 142), (.c (.int .i64 18)), (.c (.int .i64 0)), (.c (.int .i64 0))], none⟩] [2, 3, 10])
                       (.seq
                        (.drw (.st [⟨some 144, .load none (.t 2), none⟩]
                         (.st [⟨some 145, .fld 3 (.t 3), none⟩]
                         (.st [⟨some 146, .load none (.t 145), none⟩]
                         (.st [⟨some 147, .ixa 4 (.t 146) (.c (.int .i64 1)), none⟩]
                         (.st [⟨some 148, .load (some 4) (.t 147), none⟩]
                         (.st [⟨some 149, .call (.c (.func 42 [] [])) [(.t 144), (.t 148), (.c (.bool true))], none⟩]
                         (.st [⟨some 11, .mov (.t 149), none⟩]
                         .done))))))) [2, 10, 11])
                        (.seq
                         (.drw (.st [⟨some 150, .load none (.t 2), none⟩]
                          (.st [⟨some 151, .mov (.t 11), none⟩]
                          (.st [⟨some 152, .nilck (.t 151), none⟩]
                          (.st [⟨some 153, .fld 0 (.t 152), none⟩]
                          (.st [⟨some 154, .load none (.t 153), none⟩]
                          (.st [⟨some 155, .call (.c (.func 37 [] [])) [(.t 150), (.t 154)], none⟩]
                          .done)))))) [2, 10, 11])
                         (.seq
                          (.reg [⟨some 156, .load none (.t 2), none⟩,
                            ⟨some 157, .mov (.t 10), none⟩,
                            ⟨some 158, .call (.c (.func 23 [] [])) [(.t 156), (.c (.int .i64 15)), (.t 157), (.c (.int .i64 0))], none⟩] [2, 10, 11])
                          (.seq
                           (.drw (.st [⟨some 159, .load none (.t 2), none⟩]
                            (.st [⟨some 160, .mov (.t 11), none⟩]
                            (.st [⟨some 161, .nilck (.t 160), none⟩]
                            (.st [⟨some 162, .fld 1 (.t 161), none⟩]
                            (.st [⟨some 163, .load none (.t 162), none⟩]
                            (.st [⟨some 164, .mov (.t 10), none⟩]
                            (.st [⟨some 165, .blds 0 false 1 1 [(.int .i64 0)] [(0, 1, (.t 164))], none⟩]
                            (.st [⟨some 166, .append 0 false 1 8 (.t 163) (.t 165), none⟩,
                              ⟨some 159, .same (.load none (.t 2)), none⟩]
                            (.st [⟨some 167, .call (.c (.func 37 [] [])) [(.t 159), (.t 166)], none⟩]
                            .done))))))))) [2])
                           (.reg [⟨some 168, .load none (.t 2), none⟩,
                             ⟨some 169, .call (.c (.func 23 [] [])) [(.t 168), (.c (.int .i64 31)), (.c (.int .i64 0)), (.c (.int .i64 0))], none⟩] [])))))))))))
                 (.seq
                  (.seq
                   (.reg [⟨some 171, .bin .eql (.t 21) (.c (.str [98, 114, 101, 97, 107])), none⟩,
                     ⟨some 170, .mov (.t 171), none⟩] [2, 3, 21, 170])
                   (.cond (.t 170)
                    .skip
                    (.reg [⟨some 172, .bin .eql (.t 21) (.c (.str [99, 111, 110, 116, 105, 110, 117, 101])), none⟩,
                      ⟨some 170, .mov (.t 172), none⟩] [2, 3, 21, 170])))
                  (.cond (.t 170)
                   (.seq
                    (.drw (.st [⟨some 173, .load none (.t 2), none⟩]
                     (.st [⟨some 174, .nilck (.t 173), none⟩]
                     (.st [⟨some 175, .fld 3 (.t 174), none⟩]
                     (.st [⟨some 176, .load none (.t 175), none⟩]
                     (.st [⟨some 177, .load none (.t 2), none⟩]
                     (.st [⟨some 178, .nilck (.t 177), none⟩]
                     (.st [⟨some 179, .fld 3 (.t 178), none⟩]
                     (.st [⟨some 180, .load none (.t 179), none⟩]
                     (.st [⟨some 181, .len (.t 180), none⟩]
                     (.st [⟨some 182, .bin .sub (.t 181) (.c (.int .i64 1)), none⟩]
                     (.st [⟨some 183, .ixa 1 (.t 176) (.t 182), none⟩]
                     (.st [⟨some 184, .load none (.t 183), none⟩]
                     (.st [⟨some 12, .mov (.t 184), none⟩]
                     .done))))))))))))) [2, 3, 12])
                    (.seq
                     (.reg [⟨some 185, .load none (.t 2), none⟩,
                       ⟨some 186, .call (.c (.func 23 [] [])) [(.t 185), (.c (.int .i64 15)), (.c (.int .i64 0)), (.c (.int .i64 0))], none⟩,
                       ⟨some 13, .mov (.t 186), none⟩] [3, 12, 13])
                     (.seq
                      (.reg [⟨some 187, .fld 0 (.t 3), none⟩,
                        ⟨some 188, .load none (.t 187), none⟩,
                        ⟨some 189, .bin .eql (.t 188) (.c (.str [98, 114, 101, 97, 107])), none⟩] [12, 13, 189])
                      (.cond (.t 189)
                       (.reg [⟨some 190, .mov (.t 12), none⟩,
                         ⟨some 191, .mov (.t 12), none⟩,
                         ⟨some 192, .nilck (.t 191), none⟩,
                         ⟨some 193, .fld 1 (.t 192), none⟩,
                         ⟨some 194, .load none (.t 193), none⟩,
                         ⟨some 195, .mov (.t 13), none⟩,
                         ⟨some 196, .blds 0 false 1 1 [(.int .i64 0)] [(0, 1, (.t 195))], none⟩,
                         ⟨some 197, .append 0 false 1 8 (.t 194) (.t 196), none⟩,
                         ⟨some 198, .nilck (.t 190), none⟩,
                         ⟨some 199, .fld 1 (.t 198), none⟩,
                         ⟨none, .store 1 (.t 199) (.t 197), none⟩] [])
                       (.reg [⟨some 200, .mov (.t 12), none⟩,
                         ⟨some 201, .mov (.t 12), none⟩,
                         ⟨some 202, .nilck (.t 201), none⟩,
                         ⟨some 203, .fld 0 (.t 202), none⟩,
                         ⟨some 204, .load none (.t 203), none⟩,
                         ⟨some 205, .mov (.t 13), none⟩,
                         ⟨some 206, .blds 0 false 1 1 [(.int .i64 0)] [(0, 1, (.t 205))], none⟩,
                         ⟨some 207, .append 0 false 1 8 (.t 204) (.t 206), none⟩,
                         ⟨some 208, .nilck (.t 200), none⟩,
                         ⟨some 209, .fld 0 (.t 208), none⟩,
                         ⟨none, .store 1 (.t 209) (.t 207), none⟩] [])))))
                   (.seq
                    (.reg [⟨some 211, .bin .eql (.t 21) (.c (.str [110, 101, 120, 116])), none⟩,
                      ⟨some 210, .mov (.t 211), none⟩] [2, 3, 21, 210])
                    (.cond (.t 210)
                     (.reg [⟨some 212, .load none (.t 2), none⟩,
                       ⟨some 213, .call (.c (.func 23 [] [])) [(.t 212), (.c (.int .i64 32)), (.c (.int .i64 0)), (.c (.int .i64 0))], none⟩] [])
                     (.seq
                      (.reg [⟨some 215, .bin .eql (.t 21) (.c (.str [101, 120, 105, 116])), none⟩,
                        ⟨some 214, .mov (.t 215), none⟩] [2, 3, 21, 214])
                      (.cond (.t 214)
                       (.seq
                        (.seq
                         (.reg [⟨some 216, .fld 3 (.t 3), none⟩,
                           ⟨some 217, .load none (.t 216), none⟩,
                           ⟨some 218, .len (.t 217), none⟩,
                           ⟨some 219, .mov (.c (.int .i64 0)), none⟩] [2, 3, 217, 218, 219])
                         (.block 3
                          (.loop
                           (.seq
                            (.reg [⟨some 220, .bin .lss (.t 219) (.t 218), none⟩] [2, 3, 217, 218, 219, 220])
                            (.seq
                             (.cond (.t 220)
                              .skip
                              (.exit 3))
                             (.seq
                              (.block 4
                               (.seq
                                (.reg [⟨some 221, .ixa 4 (.t 217) (.t 219), none⟩,
                                  ⟨some 222, .load (some 4) (.t 221), none⟩,
                                  ⟨some 15, .alloc [(.str []), (.str []), (.int .i64 0), .nil], none⟩,
                                  ⟨none, .store 4 (.t 15) (.t 222), none⟩] [2, 3, 15, 217, 218, 219])
                                (.reg [⟨some 223, .load none (.t 2), none⟩,
                                  ⟨some 224, .load (some 4) (.t 15), none⟩,
                                  ⟨some 225, .call (.c (.func 36 [] [])) [(.t 223), (.t 224)], none⟩] [2, 3, 217, 218, 219])))
                              (.reg [⟨some 226, .bin .add (.t 219) (.c (.int .i64 1)), none⟩,
                                ⟨some 219, .mov (.t 226), none⟩] [2, 3, 217, 218, 219])))))))
                        (.reg [⟨some 227, .load none (.t 2), none⟩,
                          ⟨some 228, .fld 3 (.t 3), none⟩,
                          ⟨some 229, .load none (.t 228), none⟩,
                          ⟨some 230, .len (.t 229), none⟩,
                          ⟨some 231, .call (.c (.func 23 [] [])) [(.t 227), (.c (.int .i64 33)), (.t 230), (.c (.int .i64 0))], none⟩] []))
                       (.seq
                        (.reg [⟨some 233, .bin .eql (.t 21) (.c (.str [114, 101, 116, 117, 114, 110])), none⟩,
                          ⟨some 232, .mov (.t 233), none⟩] [2, 3, 21, 232])
                        (.cond (.t 232)
                         (.seq
                          (.seq
                           (.reg [⟨some 234, .fld 3 (.t 3), none⟩,
                             ⟨some 235, .load none (.t 234), none⟩,
                             ⟨some 236, .len (.t 235), none⟩,
                             ⟨some 237, .bin .eql (.t 236) (.c (.int .i64 0)), none⟩] [2, 3, 237])
                           (.cond (.t 237)
                            (.reg [⟨some 238, .load none (.t 2), none⟩,
                              ⟨some 239, .call (.c (.func 22 [] [])) [(.t 238), (.c (.str []))], none⟩] [2, 3])
                            .skip))
                          (.seq
                           (.seq
                            (.reg [⟨some 240, .fld 3 (.t 3), none⟩,
                              ⟨some 241, .load none (.t 240), none⟩,
                              ⟨some 242, .len (.t 241), none⟩,
                              ⟨some 243, .mov (.c (.int .i64 0)), none⟩] [2, 241, 242, 243])
                            (.block 5
                             (.loop
                              (.seq
                               (.reg [⟨some 244, .bin .lss (.t 243) (.t 242), none⟩] [2, 241, 242, 243, 244])
                               (.seq
                                (.cond (.t 244)
                                 .skip
                                 (.exit 5))
                                (.seq
                                 (.block 6
                                  (.seq
                                   (.reg [⟨some 245, .ixa 4 (.t 241) (.t 243), none⟩,
                                     ⟨some 246, .load (some 4) (.t 245), none⟩,
                                     ⟨some 17, .alloc [(.str []), (.str []), (.int .i64 0), .nil], none⟩,
                                     ⟨none, .store 4 (.t 17) (.t 246), none⟩] [2, 17, 241, 242, 243])
                                   (.reg [⟨some 247, .load none (.t 2), none⟩,
                                     ⟨some 248, .load (some 4) (.t 17), none⟩,
                                     ⟨some 249, .call (.c (.func 36 [] [])) [(.t 247), (.t 248)], none⟩] [2, 241, 242, 243])))
                                 (.reg [⟨some 250, .bin .add (.t 243) (.c (.int .i64 1)), none⟩,
                                   ⟨some 243, .mov (.t 250), none⟩] [2, 241, 242, 243])))))))
                           (.reg [⟨some 251, .load none (.t 2), none⟩,
                             ⟨some 252, .call (.c (.func 23 [] [])) [(.t 251), (.c (.int .i64 23)), (.c (.int .i64 0)), (.c (.int .i64 0))], none⟩] [])))
                         (.seq
                          (.reg [⟨some 254, .bin .eql (.t 21) (.c (.str [100, 101, 108, 101, 116, 101])), none⟩,
                            ⟨some 253, .mov (.t 254), none⟩] [2, 3, 21, 253])
                          (.cond (.t 253)
                           (.seq
                            (.drw (.st [⟨some 256, .load none (.t 2), none⟩]
                             (.st [⟨some 257, .fld 3 (.t 3), none⟩]
                             (.st [⟨some 258, .load none (.t 257), none⟩]
                             (.st [⟨some 259, .ixa 4 (.t 258) (.c (.int .i64 0)), none⟩]
                             (.st [⟨some 260, .fld 1 (.t 259), none⟩]
                             (.st [⟨some 261, .load none (.t 260), none⟩]
                             (.st [⟨some 262, .call (.c (.func 41 [] [])) [(.t 256), (.t 261)], none⟩]
                             (.st [⟨some 255, .mov (.t 262), none⟩]
                             (.st [⟨some 263, .ext 0 (.t 255), none⟩]
                             (.st [⟨some 264, .ext 1 (.t 255), none⟩]
                             (.st [⟨some 18, .mov (.t 263), none⟩]
                             (.st [⟨some 19, .mov (.t 264), none⟩]
                             .done)))))))))))) [2, 3, 18, 19])
                            (.seq
                             (.reg [⟨some 265, .fld 3 (.t 3), none⟩,
                               ⟨some 266, .load none (.t 265), none⟩,
                               ⟨some 267, .ixa 4 (.t 266) (.c (.int .i64 0)), none⟩,
                               ⟨some 268, .fld 0 (.t 267), none⟩,
                               ⟨some 269, .load none (.t 268), none⟩,
                               ⟨some 270, .bin .eql (.t 269) (.c (.str [105, 110, 100, 101, 120])), none⟩] [2, 3, 18, 19, 270])
                             (.cond (.t 270)
                              (.seq
                               (.drw (.st [⟨some 271, .load none (.t 2), none⟩]
                                (.st [⟨some 272, .fld 3 (.t 3), none⟩]
                                (.st [⟨some 273, .load none (.t 272), none⟩]
                                (.st [⟨some 274, .ixa 4 (.t 273) (.c (.int .i64 0)), none⟩]
                                (.st [⟨some 275, .fld 3 (.t 274), none⟩]
                                (.st [⟨some 276, .load none (.t 275), none⟩]
                                (.st [⟨some 277, .ixa 4 (.t 276) (.c (.int .i64 0)), none⟩]
                                (.st [⟨some 278, .load (some 4) (.t 277), none⟩]
                                (.st [⟨some 279, .call (.c (.func 36 [] [])) [(.t 271), (.t 278)], none⟩]
                                .done))))))))) [2, 18, 19])
                               (.reg [⟨some 280, .load none (.t 2), none⟩,
                                 ⟨some 281, .mov (.t 18), none⟩,
                                 ⟨some 282, .mov (.t 19), none⟩,
                                 ⟨some 283, .call (.c (.func 23 [] [])) [(.t 280), (.c (.int .i64 13)), (.t 281), (.t 282)], none⟩] []))
                              (.reg [⟨some 284, .load none (.t 2), none⟩,
                                ⟨some 285, .mov (.t 18), none⟩,
                                ⟨some 286, .mov (.t 19), none⟩,
                                ⟨some 287, .call (.c (.func 23 [] [])) [(.t 284), (.c (.int .i64 14)), (.t 285), (.t 286)], none⟩] []))))
                           (.seq
                            (.seq
                             (.reg [⟨some 289, .bin .eql (.t 21) (.c (.str [112, 114, 105, 110, 116])), none⟩,
                               ⟨some 288, .mov (.t 289), none⟩] [2, 3, 21, 288])
                             (.cond (.t 288)
                              .skip
                              (.reg [⟨some 290, .bin .eql (.t 21) (.c (.str [112, 114, 105, 110, 116, 102])), none⟩,
                                ⟨some 288, .mov (.t 290), none⟩] [2, 3, 288])))
                            (.cond (.t 288)
                             (.reg [⟨some 291, .load none (.t 2), none⟩,
                               ⟨some 292, .load (some 4) (.t 3), none⟩,
                               ⟨some 293, .call (.c (.func 43 [] [])) [(.t 291), (.t 292)], none⟩] [])
                             .skip)))))))))))))))))))))))))))
def rv21 : List RV := []
def hi21 : Hints := ⟨[], [], [(0, [2, 3]), (1, [2, 3, 21]), (2, [2, 3, 21, 22]), (8, [2, 3, 21, 35]), (11, [2, 3, 21, 45]), (21, [2, 3, 21, 82]), (23, [2, 3, 21, 94]), (26, [2, 3, 21, 113]), (38, [2, 3, 21, 170]), (39, [2, 3, 21, 170]), (45, [2, 3, 21, 210]), (47, [2, 3, 21, 214]), (54, [2, 3, 21, 232]), (63, [2, 3, 21, 253]), (69, [2, 3, 21, 288]), (70, [2, 3, 288]), (71, []), (64, [2, 3, 18, 19]), (65, [2, 3, 18, 19, 270]), (68, []), (66, [2, 18, 19]), (67, []), (55, [2, 3, 237]), (56, [2, 3]), (57, [2, 241, 242, 243]), (58, [2, 241, 242, 243, 244]), (59, [2, 17, 241, 242, 243]), (60, [2, 241, 242, 243]), (61, [2, 241, 242, 243]), (62, []), (48, [2, 3, 217, 218, 219]), (49, [2, 3, 217, 218, 219, 220]), (50, [2, 3, 15, 217, 218, 219]), (51, [2, 3, 217, 218, 219]), (52, [2, 3, 217, 218, 219]), (53, []), (46, []), (40, [2, 3, 12]), (41, [3, 12, 13]), (42, [12, 13, 189]), (44, []), (43, []), (27, [2, 3, 8, 9]), (28, [2, 3]), (29, [2, 3, 10]), (30, [2, 3, 8, 9, 10]), (31, [2, 3, 10]), (32, [2, 3, 10]), (33, [2, 10, 11]), (34, [2, 10, 11]), (35, [2, 10, 11]), (36, [2]), (37, []), (24, [2, 3]), (25, []), (22, []), (12, [2, 3]), (13, [2, 3, 6]), (14, [2, 3, 6]), (15, [2, 3, 6, 64]), (16, [2, 3, 6, 7]), (17, [2, 3, 7]), (18, [2, 7]), (19, [2, 6]), (20, []), (9, [2]), (10, []), (3, [2, 25, 26, 27]), (4, [2, 25, 26, 27, 28]), (5, [2, 5, 25, 26, 27]), (6, [2, 25, 26, 27]), (7, [2, 25, 26, 27])]⟩
noncomputable def code21 : Code := Tryz.f21.body.getD .skip
theorem low21 : lowC Tryz.prog hi21 294 code21 = some ir21 := by kernel_rfl
noncomputable def L21 (X : Ctx) (hX : X.P = Tryz.prog) : Lowered X 21 ir21 rv21 294 where
  fn := Tryz.f21
  code := code21
  h := hi21
  mixed := by rw [hX]; exact Tryz.checked.mixed
  func := by rw [hX]; exact Tryz.func21
  name := by kernel_rfl
  body := by kernel_rfl
  size := Tryz.ntmps21
  low := by rw [hX]; exact low21
  res := by rw [hX]; kernel_rfl
/-- (*scribe/code.compiler).put -/
def ir23 : LC :=
  (.seq
   (.reg [⟨some 8, .mov (.c (.int .i64 0)), none⟩] [0, 1, 2, 3])
   (.seq
    (.drw (.st [⟨some 9, .mov (.t 0), none⟩]
     (.st [⟨some 10, .nilck (.t 9), none⟩]
     (.st [⟨some 11, .fld 0 (.t 10), none⟩]
     (.st [⟨some 12, .load none (.t 11), none⟩]
     (.st [⟨some 13, .mov (.t 0), none⟩]
     (.st [⟨some 14, .nilck (.t 13), none⟩]
     (.st [⟨some 15, .fld 0 (.t 14), none⟩]
     (.st [⟨some 16, .load none (.t 15), none⟩]
     (.st [⟨some 17, .nilck (.t 16), none⟩]
     (.st [⟨some 18, .fld 0 (.t 17), none⟩]
     (.st [⟨some 19, .load none (.t 18), none⟩]
     (.st [⟨some 20, .mov (.t 1), none⟩]
     (.st [⟨some 21, .mov (.t 2), none⟩]
     (.st [⟨some 22, .mov (.t 3), none⟩]
     (.st [⟨some 23, .build [(.int .i64 0), (.int .i64 0), (.int .i64 0)] [(0, 1, (.t 20)), (1, 1, (.t 21)), (2, 1, (.t 22))], none⟩]
     (.st [⟨some 24, .blds 0 true 3 1 [(.int .i64 0), (.int .i64 0), (.int .i64 0)] [(0, 3, (.t 23))], none⟩]
     (.st [⟨some 25, .append 0 true 3 24 (.t 19) (.t 24), none⟩,
       ⟨some 12, .same (.load none (.t 11)), none⟩]
     (.st [⟨some 26, .nilck (.t 12), none⟩]
     (.st [⟨some 27, .fld 0 (.t 26), none⟩]
     (.st [⟨none, .store 1 (.t 27) (.t 25), none⟩]
     .done)))))))))))))))))))) [0])
    (.seq
     (.reg [⟨some 28, .mov (.t 0), none⟩,
       ⟨some 29, .nilck (.t 28), none⟩,
       ⟨some 30, .fld 0 (.t 29), none⟩,
       ⟨some 31, .load none (.t 30), none⟩,
       ⟨some 32, .nilck (.t 31), none⟩,
       ⟨some 33, .fld 0 (.t 32), none⟩,
       ⟨some 34, .load none (.t 33), none⟩,
       ⟨some 35, .len (.t 34), none⟩,
       ⟨some 36, .bin .sub (.t 35) (.c (.int .i64 1)), none⟩,
       ⟨some 8, .mov (.t 36), none⟩] [8])
     .ret)))
def rv23 : List RV := [.t 8]
def hi23 : Hints := ⟨[], [], [(0, [0, 1, 2, 3]), (1, [0]), (2, [8])]⟩
noncomputable def code23 : Code := Tryz.f23.body.getD .skip
theorem low23 : lowC Tryz.prog hi23 37 code23 = some ir23 := by kernel_rfl
noncomputable def L23 (X : Ctx) (hX : X.P = Tryz.prog) : Lowered X 23 ir23 rv23 37 where
  fn := Tryz.f23
  code := code23
  h := hi23
  mixed := by rw [hX]; exact Tryz.checked.mixed
  func := by rw [hX]; exact Tryz.func23
  name := by kernel_rfl
  body := by kernel_rfl
  size := Tryz.ntmps23
  low := by rw [hX]; exact low23
  res := by rw [hX]; kernel_rfl
/-- scribe/code.check -/
def ir24 : LC :=
  (.seq
   (.reg [⟨some 2, .mov (.c .nilptr), none⟩,
     ⟨some 3, .mov (.c (.int .i64 0)), none⟩] [0])
   (.seq
    (.seq
     (.drw (.st [⟨some 14, .mov (.t 0), none⟩]
      (.st [⟨some 15, .nilck (.t 14), none⟩]
      (.st [⟨some 16, .fld 0 (.t 15), none⟩]
      (.st [⟨some 17, .load none (.t 16), none⟩]
      (.st [⟨some 18, .len (.t 17), none⟩]
      (.st [⟨some 19, .bin .gtr (.t 18) (.c (.int .i64 20000)), none⟩]
      (.st [⟨some 20, .mov (.t 19), none⟩]
      (.st [⟨some 21, .mov (.t 0), some (20, false)⟩]
      (.st [⟨some 22, .nilck (.t 21), some (20, false)⟩]
      (.st [⟨some 23, .fld 4 (.t 22), some (20, false)⟩]
      (.st [⟨some 24, .load none (.t 23), some (20, false)⟩]
      (.st [⟨some 25, .len (.t 24), some (20, false)⟩]
      (.st [⟨some 26, .mov (.t 0), some (20, false)⟩]
      (.st [⟨some 27, .nilck (.t 26), some (20, false)⟩]
      (.st [⟨some 28, .fld 5 (.t 27), some (20, false)⟩]
      (.st [⟨some 29, .load none (.t 28), some (20, false)⟩]
      (.st [⟨some 30, .len (.t 29), some (20, false)⟩]
      (.st [⟨some 31, .bin .neq (.t 25) (.t 30), some (20, false)⟩]
      (.st [⟨some 32, .pick (.t 20) (.c (.bool true)) (.t 31), none⟩]
      (.st [⟨some 33, .mov (.t 32), none⟩]
      (.st [⟨some 34, .mov (.t 0), some (33, false)⟩]
      (.st [⟨some 35, .nilck (.t 34), some (33, false)⟩]
      (.st [⟨some 36, .fld 4 (.t 35), some (33, false)⟩]
      (.st [⟨some 37, .load none (.t 36), some (33, false)⟩]
      (.st [⟨some 38, .len (.t 37), some (33, false)⟩]
      (.st [⟨some 39, .load none (.g 0), some (33, false)⟩]
      (.st [⟨some 40, .len (.t 39), some (33, false)⟩]
      (.st [⟨some 41, .bin .lss (.t 38) (.t 40), some (33, false)⟩]
      (.st [⟨some 42, .pick (.t 33) (.c (.bool true)) (.t 41), none⟩]
      .done))))))))))))))))))))))))))))) [0, 42])
     (.cond (.t 42)
      (.seq
       (.reg [⟨some 2, .mov (.c .nilptr), none⟩,
         ⟨some 3, .mov (.c (.int .i64 3)), none⟩] [2, 3])
       .ret)
      .skip))
    (.seq
     (.seq
      (.reg [⟨some 43, .load none (.g 0), none⟩,
        ⟨some 44, .len (.t 43), none⟩,
        ⟨some 45, .mov (.c (.int .i64 0)), none⟩] [0, 43, 44, 45])
      (.block 0
       (.loop
        (.seq
         (.reg [⟨some 46, .bin .lss (.t 45) (.t 44), none⟩] [0, 43, 44, 45, 46])
         (.seq
          (.cond (.t 46)
           .skip
           (.exit 0))
          (.seq
           (.block 1
            (.seq
             (.reg [⟨some 47, .mov (.t 45), none⟩,
               ⟨some 48, .ixa 1 (.t 43) (.t 45), none⟩,
               ⟨some 49, .load none (.t 48), none⟩,
               ⟨some 4, .mov (.t 47), none⟩,
               ⟨some 5, .mov (.t 49), none⟩] [0, 4, 5, 43, 44, 45])
             (.seq
              (.reg [⟨some 50, .mov (.t 0), none⟩,
                ⟨some 51, .nilck (.t 50), none⟩,
                ⟨some 52, .fld 4 (.t 51), none⟩,
                ⟨some 53, .load none (.t 52), none⟩,
                ⟨some 54, .mov (.t 4), none⟩,
                ⟨some 55, .ixa 1 (.t 53) (.t 54), none⟩,
                ⟨some 56, .load none (.t 55), none⟩,
                ⟨some 57, .mov (.t 5), none⟩,
                ⟨some 58, .bin .neq (.t 56) (.t 57), none⟩,
                ⟨some 59, .mov (.t 58), none⟩,
                ⟨some 60, .mov (.t 0), some (59, false)⟩,
                ⟨some 61, .nilck (.t 60), some (59, false)⟩,
                ⟨some 62, .fld 5 (.t 61), some (59, false)⟩,
                ⟨some 63, .load none (.t 62), some (59, false)⟩,
                ⟨some 64, .mov (.t 4), some (59, false)⟩,
                ⟨some 65, .ixa 1 (.t 63) (.t 64), some (59, false)⟩,
                ⟨some 66, .load none (.t 65), some (59, false)⟩,
                ⟨some 67, .pick (.t 59) (.c (.bool true)) (.t 66), none⟩] [0, 43, 44, 45, 67])
              (.cond (.t 67)
               (.seq
                (.reg [⟨some 2, .mov (.c .nilptr), none⟩,
                  ⟨some 3, .mov (.c (.int .i64 3)), none⟩] [2, 3])
                .ret)
               .skip))))
           (.reg [⟨some 68, .bin .add (.t 45) (.c (.int .i64 1)), none⟩,
             ⟨some 45, .mov (.t 68), none⟩] [0, 43, 44, 45])))))))
     (.seq
      (.seq
       (.reg [⟨some 69, .mov (.t 0), none⟩,
         ⟨some 70, .nilck (.t 69), none⟩,
         ⟨some 71, .fld 1 (.t 70), none⟩,
         ⟨some 72, .load none (.t 71), none⟩,
         ⟨some 73, .len (.t 72), none⟩,
         ⟨some 74, .mov (.c (.int .i64 0)), none⟩] [0, 72, 73, 74])
       (.block 2
        (.loop
         (.seq
          (.reg [⟨some 75, .bin .lss (.t 74) (.t 73), none⟩] [0, 72, 73, 74, 75])
          (.seq
           (.cond (.t 75)
            .skip
            (.exit 2))
           (.seq
            (.block 3
             (.seq
              (.reg [⟨some 76, .ixa 1 (.t 72) (.t 74), none⟩,
                ⟨some 77, .load none (.t 76), none⟩,
                ⟨some 7, .mov (.t 77), none⟩] [0, 7, 72, 73, 74])
              (.seq
               (.reg [⟨some 78, .mov (.t 7), none⟩,
                 ⟨some 79, .bin .lss (.t 78) (.c (.int .i64 (-4611686018427387903))), none⟩,
                 ⟨some 80, .mov (.t 79), none⟩,
                 ⟨some 81, .mov (.t 7), some (80, false)⟩,
                 ⟨some 82, .bin .gtr (.t 81) (.c (.int .i64 4611686018427387903)), some (80, false)⟩,
                 ⟨some 83, .pick (.t 80) (.c (.bool true)) (.t 82), none⟩] [0, 72, 73, 74, 83])
               (.cond (.t 83)
                (.seq
                 (.reg [⟨some 2, .mov (.c .nilptr), none⟩,
                   ⟨some 3, .mov (.c (.int .i64 3)), none⟩] [2, 3])
                 .ret)
                .skip))))
            (.reg [⟨some 84, .bin .add (.t 74) (.c (.int .i64 1)), none⟩,
              ⟨some 74, .mov (.t 84), none⟩] [0, 72, 73, 74])))))))
      (.seq
       (.reg [⟨some 85, .mov (.t 0), none⟩,
         ⟨some 86, .mkmap, none⟩,
         ⟨some 87, .build [.nilptr, (.map none), .nil, (.bool false)] [(0, 1, (.t 85)), (1, 1, (.t 86))], none⟩,
         ⟨some 88, .box (.t 87), none⟩,
         ⟨some 8, .mov (.t 88), none⟩] [0, 8])
       (.seq
        (.seq
         (.drw (.st [⟨some 89, .mov (.t 0), none⟩]
          (.st [⟨some 90, .nilck (.t 89), none⟩]
          (.st [⟨some 91, .fld 6 (.t 90), none⟩]
          (.st [⟨some 92, .load none (.t 91), none⟩]
          (.st [⟨some 93, .mov (.t 0), none⟩]
          (.st [⟨some 94, .nilck (.t 93), none⟩]
          (.st [⟨some 95, .fld 7 (.t 94), none⟩]
          (.st [⟨some 96, .load none (.t 95), none⟩]
          (.st [⟨some 97, .mov (.t 0), none⟩]
          (.st [⟨some 98, .nilck (.t 97), none⟩]
          (.st [⟨some 99, .fld 8 (.t 98), none⟩]
          (.st [⟨some 100, .load none (.t 99), none⟩]
          (.st [⟨some 101, .blds 0 false 1 3 [(.int .i64 0)] [(0, 1, (.t 92)), (1, 1, (.t 96)), (2, 1, (.t 100))], none⟩]
          (.st [⟨some 102, .len (.t 101), none⟩]
          (.st [⟨some 103, .mov (.c (.int .i64 0)), none⟩]
          .done))))))))))))))) [0, 8, 101, 102, 103])
         (.block 4
          (.loop
           (.seq
            (.reg [⟨some 104, .bin .lss (.t 103) (.t 102), none⟩] [0, 8, 101, 102, 103, 104])
            (.seq
             (.cond (.t 104)
              .skip
              (.exit 4))
             (.seq
              (.block 5
               (.seq
                (.reg [⟨some 105, .mov (.t 103), none⟩,
                  ⟨some 106, .ixa 1 (.t 101) (.t 103), none⟩,
                  ⟨some 107, .load none (.t 106), none⟩,
                  ⟨some 9, .mov (.t 105), none⟩,
                  ⟨some 10, .mov (.t 107), none⟩] [0, 8, 9, 10, 101, 102, 103])
                (.reg [⟨some 108, .mov (.t 8), none⟩,
                  ⟨some 109, .mov (.t 10), none⟩,
                  ⟨some 110, .mov (.t 9), none⟩,
                  ⟨some 111, .build [(.int .i64 0), (.str []), (.int .i64 0)] [(0, 1, (.t 110))], none⟩,
                  ⟨some 112, .call (.c (.func 44 [] [])) [(.t 108), (.t 109), (.t 111)], none⟩] [0, 8, 101, 102, 103])))
              (.reg [⟨some 113, .bin .add (.t 103) (.c (.int .i64 1)), none⟩,
                ⟨some 103, .mov (.t 113), none⟩] [0, 8, 101, 102, 103])))))))
        (.seq
         (.seq
          (.reg [⟨some 114, .mov (.t 0), none⟩,
            ⟨some 115, .nilck (.t 114), none⟩,
            ⟨some 116, .fld 3 (.t 115), none⟩,
            ⟨some 117, .load none (.t 116), none⟩,
            ⟨some 118, .len (.t 117), none⟩,
            ⟨some 119, .mov (.c (.int .i64 0)), none⟩] [8, 117, 118, 119])
          (.block 6
           (.loop
            (.seq
             (.reg [⟨some 120, .bin .lss (.t 119) (.t 118), none⟩] [8, 117, 118, 119, 120])
             (.seq
              (.cond (.t 120)
               .skip
               (.exit 6))
              (.seq
               (.block 7
                (.seq
                 (.reg [⟨some 121, .mov (.t 119), none⟩,
                   ⟨some 122, .ixa 2 (.t 117) (.t 119), none⟩,
                   ⟨some 123, .load (some 2) (.t 122), none⟩,
                   ⟨some 12, .alloc [(.int .i64 0), .nil], none⟩,
                   ⟨some 11, .mov (.t 121), none⟩,
                   ⟨none, .store 2 (.t 12) (.t 123), none⟩] [8, 11, 12, 117, 118, 119])
                 (.reg [⟨some 124, .mov (.t 8), none⟩,
                   ⟨some 125, .fld 0 (.t 12), none⟩,
                   ⟨some 126, .load none (.t 125), none⟩,
                   ⟨some 127, .mov (.t 11), none⟩,
                   ⟨some 128, .bin .add (.c (.int .i64 3)) (.t 127), none⟩,
                   ⟨some 129, .build [(.int .i64 0), (.str []), (.int .i64 0)] [(0, 1, (.t 128))], none⟩,
                   ⟨some 130, .call (.c (.func 44 [] [])) [(.t 124), (.t 126), (.t 129)], none⟩] [8, 117, 118, 119])))
               (.reg [⟨some 131, .bin .add (.t 119) (.c (.int .i64 1)), none⟩,
                 ⟨some 119, .mov (.t 131), none⟩] [8, 117, 118, 119])))))))
         (.seq
          (.block 8
           (.loop
            (.seq
             (.seq
              (.reg [⟨some 132, .mov (.t 8), none⟩,
                ⟨some 133, .nilck (.t 132), none⟩,
                ⟨some 134, .fld 2 (.t 133), none⟩,
                ⟨some 135, .load none (.t 134), none⟩,
                ⟨some 136, .len (.t 135), none⟩,
                ⟨some 137, .bin .gtr (.t 136) (.c (.int .i64 0)), none⟩,
                ⟨some 138, .mov (.t 137), none⟩,
                ⟨some 139, .mov (.t 8), some (138, true)⟩,
                ⟨some 140, .nilck (.t 139), some (138, true)⟩,
                ⟨some 141, .fld 3 (.t 140), some (138, true)⟩,
                ⟨some 142, .load none (.t 141), some (138, true)⟩,
                ⟨some 143, .not (.t 142), some (138, true)⟩,
                ⟨some 144, .pick (.t 138) (.t 143) (.c (.bool false)), none⟩] [8, 144])
              (.cond (.t 144)
               .skip
               (.exit 8)))
             (.block 9
              (.seq
               (.drw (.st [⟨some 145, .mov (.t 8), none⟩]
                (.st [⟨some 146, .nilck (.t 145), none⟩]
                (.st [⟨some 147, .fld 2 (.t 146), none⟩]
                (.st [⟨some 148, .load none (.t 147), none⟩]
                (.st [⟨some 149, .mov (.t 8), none⟩]
                (.st [⟨some 150, .nilck (.t 149), none⟩]
                (.st [⟨some 151, .fld 2 (.t 150), none⟩]
                (.st [⟨some 152, .load none (.t 151), none⟩]
                (.st [⟨some 153, .len (.t 152), none⟩]
                (.st [⟨some 154, .bin .sub (.t 153) (.c (.int .i64 1)), none⟩]
                (.st [⟨some 155, .ixa 1 (.t 148) (.t 154), none⟩]
                (.st [⟨some 156, .load none (.t 155), none⟩]
                (.st [⟨some 13, .mov (.t 156), none⟩]
                .done))))))))))))) [8, 13])
               (.seq
                (.drw (.st [⟨some 157, .mov (.t 8), none⟩]
                 (.st [⟨some 158, .mov (.t 8), none⟩]
                 (.st [⟨some 159, .nilck (.t 158), none⟩]
                 (.st [⟨some 160, .fld 2 (.t 159), none⟩]
                 (.st [⟨some 161, .load none (.t 160), none⟩]
                 (.st [⟨some 162, .mov (.t 8), none⟩]
                 (.st [⟨some 163, .nilck (.t 162), none⟩]
                 (.st [⟨some 164, .fld 2 (.t 163), none⟩]
                 (.st [⟨some 165, .load none (.t 164), none⟩]
                 (.st [⟨some 166, .len (.t 165), none⟩]
                 (.st [⟨some 167, .bin .sub (.t 166) (.c (.int .i64 1)), none⟩]
                 (.st [⟨some 168, .slc 1 (.t 161) none (some (.t 167)), none⟩]
                 (.st [⟨some 169, .nilck (.t 157), none⟩]
                 (.st [⟨some 170, .fld 2 (.t 169), none⟩]
                 (.st [⟨none, .store 1 (.t 170) (.t 168), none⟩]
                 .done))))))))))))))) [8, 13])
                (.reg [⟨some 171, .mov (.t 8), none⟩,
                  ⟨some 172, .mov (.t 13), none⟩,
                  ⟨some 173, .call (.c (.func 45 [] [])) [(.t 171), (.t 172)], none⟩] [8])))))))
          (.seq
           (.seq
            (.reg [⟨some 174, .mov (.t 8), none⟩,
              ⟨some 175, .nilck (.t 174), none⟩,
              ⟨some 176, .fld 3 (.t 175), none⟩,
              ⟨some 177, .load none (.t 176), none⟩] [8, 177])
            (.cond (.t 177)
             (.seq
              (.reg [⟨some 2, .mov (.c .nilptr), none⟩,
                ⟨some 3, .mov (.c (.int .i64 3)), none⟩] [2, 3])
              .ret)
             .skip))
           (.seq
            (.reg [⟨some 178, .mov (.t 8), none⟩,
              ⟨some 2, .mov (.t 178), none⟩,
              ⟨some 3, .mov (.c (.int .i64 0)), none⟩] [2, 3])
            .ret))))))))))
def rv24 : List RV := [.t 2, .t 3]
def hi24 : Hints := ⟨[], [], [(0, [0]), (1, [0, 42]), (2, [2, 3]), (3, [0, 43, 44, 45]), (4, [0, 43, 44, 45, 46]), (5, [0, 4, 5, 43, 44, 45]), (6, [0, 43, 44, 45, 67]), (7, [2, 3]), (8, [0, 43, 44, 45]), (9, [0, 72, 73, 74]), (10, [0, 72, 73, 74, 75]), (11, [0, 7, 72, 73, 74]), (12, [0, 72, 73, 74, 83]), (13, [2, 3]), (14, [0, 72, 73, 74]), (15, [0, 8]), (16, [0, 8, 101, 102, 103]), (17, [0, 8, 101, 102, 103, 104]), (18, [0, 8, 9, 10, 101, 102, 103]), (19, [0, 8, 101, 102, 103]), (20, [0, 8, 101, 102, 103]), (21, [8, 117, 118, 119]), (22, [8, 117, 118, 119, 120]), (23, [8, 11, 12, 117, 118, 119]), (24, [8, 117, 118, 119]), (25, [8, 117, 118, 119]), (26, [8, 144]), (27, [8, 13]), (28, [8, 13]), (29, [8]), (30, [8, 177]), (31, [2, 3]), (32, [2, 3])]⟩
noncomputable def code24 : Code := Tryz.f24.body.getD .skip
theorem low24 : lowC Tryz.prog hi24 179 code24 = some ir24 := by kernel_rfl
noncomputable def L24 (X : Ctx) (hX : X.P = Tryz.prog) : Lowered X 24 ir24 rv24 179 where
  fn := Tryz.f24
  code := code24
  h := hi24
  mixed := by rw [hX]; exact Tryz.checked.mixed
  func := by rw [hX]; exact Tryz.func24
  name := by kernel_rfl
  body := by kernel_rfl
  size := Tryz.ntmps24
  low := by rw [hX]; exact low24
  res := by rw [hX]; kernel_rfl

end Go.Proofs.YtagjgpkomcmkbaaGreatDoor
