/- Lowered texts of functions, and that they are such: printed by a program of our own. No condition. -/
import Derived.Test.YtagjgpkomcmkbaaGreatDoorEcoreZf
import Derived.Test.YtagjgpkomcmkbaaGreatDoorChecked
set_option maxRecDepth 100000
namespace Go.Proofs.YtagjgpkomcmkbaaGreatDoor
open Go Go.Scr

/-- (*scribe/lex.lexer).next -/
def ir48 : LC :=
  (.seq
   (.reg [⟨some 2, .mov (.c (.int .i64 0)), none⟩] [0])
   (.seq
    (.drw (.st [⟨some 4, .mov (.t 0), none⟩]
     (.st [⟨some 5, .nilck (.t 4), none⟩]
     (.st [⟨some 6, .fld 0 (.t 5), none⟩]
     (.st [⟨some 7, .load none (.t 6), none⟩]
     (.st [⟨some 8, .mov (.t 0), none⟩]
     (.st [⟨some 9, .nilck (.t 8), none⟩]
     (.st [⟨some 10, .fld 1 (.t 9), none⟩]
     (.st [⟨some 11, .load none (.t 10), none⟩]
     (.st [⟨some 12, .ixs (.t 7) (.t 11), none⟩]
     (.st [⟨some 3, .mov (.t 12), none⟩]
     .done)))))))))) [0, 3])
    (.seq
     (.block 0
      (.seq
       (.seq
        (.reg [⟨some 16, .mov (.t 3), none⟩,
          ⟨some 17, .bin .eql (.t 16) (.c (.int .u8 32)), none⟩,
          ⟨some 15, .mov (.t 17), none⟩] [0, 3, 15])
        (.cond (.t 15)
         .skip
         (.seq
          (.reg [⟨some 18, .mov (.t 3), none⟩,
            ⟨some 19, .bin .eql (.t 18) (.c (.int .u8 9)), none⟩,
            ⟨some 15, .mov (.t 19), none⟩] [0, 3, 15])
          (.cond (.t 15)
           .skip
           (.reg [⟨some 20, .mov (.t 3), none⟩,
             ⟨some 21, .bin .eql (.t 20) (.c (.int .u8 13)), none⟩,
             ⟨some 15, .mov (.t 21), none⟩] [0, 3, 15])))))
       (.cond (.t 15)
        (.reg [⟨some 22, .mov (.t 0), none⟩,
          ⟨some 23, .nilck (.t 22), none⟩,
          ⟨some 24, .fld 1 (.t 23), none⟩,
          ⟨some 25, .load none (.t 24), none⟩,
          ⟨some 26, .bin .add (.t 25) (.c (.int .i64 1)), none⟩,
          ⟨some 27, .nilck (.t 22), none⟩,
          ⟨some 28, .fld 1 (.t 27), none⟩,
          ⟨none, .store 1 (.t 28) (.t 26), none⟩] [])
        (.seq
         (.reg [⟨some 30, .mov (.t 3), none⟩,
           ⟨some 31, .bin .eql (.t 30) (.c (.int .u8 35)), none⟩,
           ⟨some 29, .mov (.t 31), none⟩] [0, 3, 29])
         (.cond (.t 29)
          (.reg [⟨some 32, .mov (.t 0), none⟩,
            ⟨some 33, .call (.c (.func 77 [] [])) [(.t 32), (.c (.func 78 [] []))], none⟩] [])
          (.seq
           (.reg [⟨some 35, .mov (.t 3), none⟩,
             ⟨some 36, .bin .eql (.t 35) (.c (.int .u8 92)), none⟩,
             ⟨some 37, .mov (.t 36), none⟩,
             ⟨some 38, .mov (.t 0), some (37, true)⟩,
             ⟨some 39, .call (.c (.func 79 [] [])) [(.t 38), (.c (.int .i64 1))], some (37, true)⟩,
             ⟨some 40, .bin .eql (.t 39) (.c (.int .u8 10)), some (37, true)⟩,
             ⟨some 41, .pick (.t 37) (.t 40) (.c (.bool false)), none⟩,
             ⟨some 34, .mov (.t 41), none⟩] [0, 3, 34])
           (.cond (.t 34)
            (.reg [⟨some 42, .mov (.t 0), none⟩,
              ⟨some 43, .nilck (.t 42), none⟩,
              ⟨some 44, .fld 1 (.t 43), none⟩,
              ⟨some 45, .load none (.t 44), none⟩,
              ⟨some 46, .bin .add (.t 45) (.c (.int .i64 2)), none⟩,
              ⟨some 47, .nilck (.t 42), none⟩,
              ⟨some 48, .fld 1 (.t 47), none⟩,
              ⟨none, .store 1 (.t 48) (.t 46), none⟩] [])
            (.seq
             (.reg [⟨some 50, .mov (.t 3), none⟩,
               ⟨some 51, .bin .eql (.t 50) (.c (.int .u8 10)), none⟩,
               ⟨some 49, .mov (.t 51), none⟩] [0, 3, 49])
             (.cond (.t 49)
              (.seq
               (.reg [⟨some 52, .mov (.t 0), none⟩,
                 ⟨some 53, .mov (.t 0), none⟩,
                 ⟨some 54, .nilck (.t 53), none⟩,
                 ⟨some 55, .fld 1 (.t 54), none⟩,
                 ⟨some 56, .load none (.t 55), none⟩,
                 ⟨some 57, .call (.c (.func 49 [] [])) [(.t 52), (.c (.int .i64 1)), (.c (.str [])), (.t 56)], none⟩] [0])
               (.reg [⟨some 58, .mov (.t 0), none⟩,
                 ⟨some 59, .nilck (.t 58), none⟩,
                 ⟨some 60, .fld 1 (.t 59), none⟩,
                 ⟨some 61, .load none (.t 60), none⟩,
                 ⟨some 62, .bin .add (.t 61) (.c (.int .i64 1)), none⟩,
                 ⟨some 63, .nilck (.t 58), none⟩,
                 ⟨some 64, .fld 1 (.t 63), none⟩,
                 ⟨none, .store 1 (.t 64) (.t 62), none⟩] []))
              (.seq
               (.seq
                (.reg [⟨some 66, .mov (.t 3), none⟩,
                  ⟨some 67, .call (.c (.func 80 [] [])) [(.t 66)], none⟩,
                  ⟨some 65, .mov (.t 67), none⟩] [0, 3, 65])
                (.cond (.t 65)
                 .skip
                 (.reg [⟨some 68, .mov (.t 3), none⟩,
                   ⟨some 69, .bin .eql (.t 68) (.c (.int .u8 46)), none⟩,
                   ⟨some 70, .mov (.t 69), none⟩,
                   ⟨some 71, .mov (.t 0), some (70, true)⟩,
                   ⟨some 72, .call (.c (.func 79 [] [])) [(.t 71), (.c (.int .i64 1))], some (70, true)⟩,
                   ⟨some 73, .call (.c (.func 80 [] [])) [(.t 72)], some (70, true)⟩,
                   ⟨some 74, .pick (.t 70) (.t 73) (.c (.bool false)), none⟩,
                   ⟨some 65, .mov (.t 74), none⟩] [0, 3, 65])))
               (.cond (.t 65)
                (.reg [⟨some 75, .mov (.t 0), none⟩,
                  ⟨some 76, .call (.c (.func 81 [] [])) [(.t 75)], none⟩] [])
                (.seq
                 (.reg [⟨some 78, .mov (.t 3), none⟩,
                   ⟨some 79, .call (.c (.func 82 [] [])) [(.t 78)], none⟩,
                   ⟨some 77, .mov (.t 79), none⟩] [0, 3, 77])
                 (.cond (.t 77)
                  (.reg [⟨some 80, .mov (.t 0), none⟩,
                    ⟨some 81, .call (.c (.func 83 [] [])) [(.t 80)], none⟩] [])
                  (.seq
                   (.reg [⟨some 83, .mov (.t 3), none⟩,
                     ⟨some 84, .bin .eql (.t 83) (.c (.int .u8 34)), none⟩,
                     ⟨some 82, .mov (.t 84), none⟩] [0, 3, 82])
                   (.cond (.t 82)
                    (.seq
                     (.reg [⟨some 85, .mov (.t 0), none⟩,
                       ⟨some 86, .call (.c (.func 84 [] [])) [(.t 85), (.c (.int .i64 3)), (.c (.int .u8 34)), (.c (.func 85 [] []))], none⟩,
                       ⟨some 2, .mov (.t 86), none⟩] [2])
                     .ret)
                    (.seq
                     (.reg [⟨some 88, .mov (.t 3), none⟩,
                       ⟨some 89, .bin .eql (.t 88) (.c (.int .u8 47)), none⟩,
                       ⟨some 90, .mov (.t 89), none⟩,
                       ⟨some 91, .mov (.t 0), some (90, true)⟩,
                       ⟨some 92, .call (.c (.func 86 [] [])) [(.t 91)], some (90, true)⟩,
                       ⟨some 93, .pick (.t 90) (.t 92) (.c (.bool false)), none⟩,
                       ⟨some 87, .mov (.t 93), none⟩] [0, 87])
                     (.cond (.t 87)
                      (.seq
                       (.reg [⟨some 94, .mov (.t 0), none⟩,
                         ⟨some 95, .call (.c (.func 84 [] [])) [(.t 94), (.c (.int .i64 4)), (.c (.int .u8 47)), (.c (.func 87 [] []))], none⟩,
                         ⟨some 2, .mov (.t 95), none⟩] [2])
                       .ret)
                      (.seq
                       (.reg [⟨some 13, .mov (.t 0), none⟩,
                         ⟨some 14, .call (.c (.func 88 [] [])) [(.t 13)], none⟩,
                         ⟨some 2, .mov (.t 14), none⟩] [2])
                       .ret))))))))))))))))))
     (.seq
      (.reg [⟨some 2, .mov (.c (.int .i64 0)), none⟩] [2])
      .ret))))
def rv48 : List RV := [.t 2]
def hi48 : Hints := ⟨[], [], [(0, [0]), (1, [0, 3]), (3, [0, 3, 15]), (4, [0, 3, 15]), (5, [0, 3, 15]), (7, [0, 3, 29]), (9, [0, 3, 34]), (11, [0, 3, 49]), (14, [0, 3, 65]), (15, [0, 3, 65]), (17, [0, 3, 77]), (19, [0, 3, 82]), (21, [0, 87]), (2, [2]), (22, [2]), (20, [2]), (18, []), (16, []), (12, [0]), (13, []), (10, []), (8, []), (6, []), (23, [2])]⟩
noncomputable def code48 : Code := Tryz.f48.body.getD .skip
theorem low48 : lowC Tryz.prog hi48 96 code48 = some ir48 := by kernel_rfl
noncomputable def L48 (X : Ctx) (hX : X.P = Tryz.prog) : Lowered X 48 ir48 rv48 96 where
  fn := Tryz.f48
  code := code48
  h := hi48
  mixed := by rw [hX]; exact Tryz.checked.mixed
  func := by rw [hX]; exact Tryz.func48
  name := by kernel_rfl
  body := by kernel_rfl
  size := Tryz.ntmps48
  low := by rw [hX]; exact low48
  res := by rw [hX]; kernel_rfl
/-- (*scribe/lex.lexer).put -/
def ir49 : LC :=
  (.reg [⟨some 8, .mov (.t 0), none⟩,
    ⟨some 9, .mov (.t 0), none⟩,
    ⟨some 10, .nilck (.t 9), none⟩,
    ⟨some 11, .fld 2 (.t 10), none⟩,
    ⟨some 12, .load none (.t 11), none⟩,
    ⟨some 13, .mov (.t 1), none⟩,
    ⟨some 14, .mov (.t 2), none⟩,
    ⟨some 15, .mov (.t 3), none⟩,
    ⟨some 16, .build [(.int .i64 0), (.str []), (.int .i64 0)] [(0, 1, (.t 13)), (1, 1, (.t 14)), (2, 1, (.t 15))], none⟩,
    ⟨some 17, .blds 0 true 3 1 [(.int .i64 0), (.str []), (.int .i64 0)] [(0, 3, (.t 16))], none⟩,
    ⟨some 18, .append 0 true 3 32 (.t 12) (.t 17), none⟩,
    ⟨some 19, .nilck (.t 8), none⟩,
    ⟨some 20, .fld 2 (.t 19), none⟩,
    ⟨none, .store 1 (.t 20) (.t 18), none⟩] [])
def rv49 : List RV := []
def hi49 : Hints := ⟨[], [], [(0, [])]⟩
noncomputable def code49 : Code := Tryz.f49.body.getD .skip
theorem low49 : lowC Tryz.prog hi49 21 code49 = some ir49 := by kernel_rfl
noncomputable def L49 (X : Ctx) (hX : X.P = Tryz.prog) : Lowered X 49 ir49 rv49 21 where
  fn := Tryz.f49
  code := code49
  h := hi49
  mixed := by rw [hX]; exact Tryz.checked.mixed
  func := by rw [hX]; exact Tryz.func49
  name := by kernel_rfl
  body := by kernel_rfl
  size := Tryz.ntmps49
  low := by rw [hX]; exact low49
  res := by rw [hX]; kernel_rfl
/-- slices.Contains[[]string,string] -/
def ir50 : LC :=
  (.seq
   (.reg [⟨some 4, .mov (.c (.bool false)), none⟩] [0, 1])
   (.seq
    (.reg [⟨some 5, .mov (.t 0), none⟩,
      ⟨some 6, .mov (.t 1), none⟩,
      ⟨some 7, .call (.c (.func 89 [] [])) [(.t 5), (.t 6)], none⟩,
      ⟨some 8, .bin .geq (.t 7) (.c (.int .i64 0)), none⟩,
      ⟨some 4, .mov (.t 8), none⟩] [4])
    .ret))
def rv50 : List RV := [.t 4]
def hi50 : Hints := ⟨[], [], [(0, [0, 1]), (1, [4])]⟩
noncomputable def code50 : Code := Tryz.f50.body.getD .skip
theorem low50 : lowC Tryz.prog hi50 9 code50 = some ir50 := by kernel_rfl
noncomputable def L50 (X : Ctx) (hX : X.P = Tryz.prog) : Lowered X 50 ir50 rv50 9 where
  fn := Tryz.f50
  code := code50
  h := hi50
  mixed := by rw [hX]; exact Tryz.checked.mixed
  func := by rw [hX]; exact Tryz.func50
  name := by kernel_rfl
  body := by kernel_rfl
  size := Tryz.ntmps50
  low := by rw [hX]; exact low50
  res := by rw [hX]; kernel_rfl
/-- (*scribe/parse.parser).accept -/
def ir51 : LC :=
  (.seq
   (.reg [⟨some 4, .mov (.c (.bool false)), none⟩] [0, 1])
   (.seq
    (.seq
     (.reg [⟨some 5, .mov (.t 0), none⟩,
       ⟨some 6, .mov (.t 1), none⟩,
       ⟨some 7, .blds 0 false 1 1 [(.str [])] [(0, 1, (.t 6))], none⟩,
       ⟨some 8, .call (.c (.func 29 [] [])) [(.t 5), (.t 7)], none⟩,
       ⟨some 9, .not (.t 8), none⟩] [0, 9])
     (.cond (.t 9)
      (.seq
       (.reg [⟨some 4, .mov (.c (.bool false)), none⟩] [4])
       .ret)
      .skip))
    (.seq
     (.reg [⟨some 10, .mov (.t 0), none⟩,
       ⟨some 11, .call (.c (.func 31 [] [])) [(.t 10)], none⟩] [])
     (.seq
      (.reg [⟨some 4, .mov (.c (.bool true)), none⟩] [4])
      .ret))))
def rv51 : List RV := [.t 4]
def hi51 : Hints := ⟨[], [], [(0, [0, 1]), (1, [0, 9]), (2, [4]), (3, []), (4, [4])]⟩
noncomputable def code51 : Code := Tryz.f51.body.getD .skip
theorem low51 : lowC Tryz.prog hi51 12 code51 = some ir51 := by kernel_rfl
noncomputable def L51 (X : Ctx) (hX : X.P = Tryz.prog) : Lowered X 51 ir51 rv51 12 where
  fn := Tryz.f51
  code := code51
  h := hi51
  mixed := by rw [hX]; exact Tryz.checked.mixed
  func := by rw [hX]; exact Tryz.func51
  name := by kernel_rfl
  body := by kernel_rfl
  size := Tryz.ntmps51
  low := by rw [hX]; exact low51
  res := by rw [hX]; kernel_rfl
/-- (*scribe/parse.parser).block -/
def ir52 : LC :=
  (.seq
   (.reg [⟨some 2, .alloc [(.str []), (.str []), (.int .i64 0), .nil], none⟩] [0, 2])
   (.seq
    (.reg [⟨some 4, .call (.c (.func 28 [] [])) [(.c (.str [98, 108, 111, 99, 107])), (.c .nil)], none⟩,
      ⟨some 3, .alloc [(.str []), (.str []), (.int .i64 0), .nil], none⟩,
      ⟨none, .store 4 (.t 3) (.t 4), none⟩] [0, 2, 3])
    (.seq
     (.reg [⟨some 5, .mov (.t 0), none⟩,
       ⟨some 6, .call (.c (.func 55 [] [])) [(.t 5), (.c (.str [123]))], none⟩] [0, 2, 3])
     (.seq
      (.block 0
       (.loop
        (.seq
         (.seq
          (.reg [⟨some 7, .mov (.t 0), none⟩,
            ⟨some 8, .nilck (.t 7), none⟩,
            ⟨some 9, .fld 4 (.t 8), none⟩,
            ⟨some 10, .load none (.t 9), none⟩,
            ⟨some 11, .bin .eql (.t 10) (.c (.int .i64 0)), none⟩] [0, 2, 3, 11])
          (.cond (.t 11)
           .skip
           (.exit 0)))
         (.block 1
          (.seq
           (.block 2
            (.loop
             (.seq
              (.seq
               (.reg [⟨some 12, .mov (.t 0), none⟩,
                 ⟨some 13, .blds 0 false 1 1 [(.str [])] [(0, 1, (.c (.str [59])))], none⟩,
                 ⟨some 14, .call (.c (.func 29 [] [])) [(.t 12), (.t 13)], none⟩,
                 ⟨some 15, .mov (.t 14), none⟩,
                 ⟨some 16, .mov (.t 0), some (15, false)⟩,
                 ⟨some 17, .call (.c (.func 30 [] [])) [(.t 16)], some (15, false)⟩,
                 ⟨some 18, .prt none 0 (.t 17), some (15, false)⟩,
                 ⟨some 19, .bin .eql (.t 18) (.c (.int .i64 1)), some (15, false)⟩,
                 ⟨some 20, .pick (.t 15) (.c (.bool true)) (.t 19), none⟩] [0, 2, 3, 20])
               (.cond (.t 20)
                .skip
                (.exit 2)))
              (.block 3
               (.reg [⟨some 21, .mov (.t 0), none⟩,
                 ⟨some 22, .call (.c (.func 31 [] [])) [(.t 21)], none⟩] [0, 2, 3])))))
           (.seq
            (.seq
             (.reg [⟨some 23, .mov (.t 0), none⟩,
               ⟨some 24, .call (.c (.func 51 [] [])) [(.t 23), (.c (.str [125]))], none⟩] [0, 2, 3, 24])
             (.cond (.t 24)
              (.exit 0)
              .skip))
            (.drw (.st [⟨some 25, .fld 3 (.t 3), none⟩]
             (.st [⟨some 26, .load none (.t 25), none⟩]
             (.st [⟨some 27, .mov (.t 0), none⟩]
             (.st [⟨some 28, .call (.c (.func 90 [] [])) [(.t 27)], none⟩,
               ⟨some 26, .same (.load none (.t 25)), none⟩]
             (.st [⟨some 29, .blds 0 true 4 1 [(.str []), (.str []), (.int .i64 0), .nil] [(0, 4, (.t 28))], none⟩]
             (.st [⟨some 30, .append 0 true 4 64 (.t 26) (.t 29), none⟩]
             (.st [⟨some 31, .fld 3 (.t 3), none⟩]
             (.st [⟨none, .store 1 (.t 31) (.t 30), none⟩]
             .done)))))))) [0, 2, 3])))))))
      (.seq
       (.reg [⟨some 32, .load (some 4) (.t 3), none⟩,
         ⟨none, .store 4 (.t 2) (.t 32), none⟩] [2])
       .ret)))))
def rv52 : List RV := [.cell 2 (some 4)]
def hi52 : Hints := ⟨[], [], [(0, [0, 2]), (1, [0, 2, 3]), (2, [0, 2, 3]), (3, [0, 2, 3, 11]), (4, [0, 2, 3, 20]), (5, [0, 2, 3]), (6, [0, 2, 3, 24]), (7, [0, 2, 3]), (8, [2])]⟩
noncomputable def code52 : Code := Tryz.f52.body.getD .skip
theorem low52 : lowC Tryz.prog hi52 33 code52 = some ir52 := by kernel_rfl
noncomputable def L52 (X : Ctx) (hX : X.P = Tryz.prog) : Lowered X 52 ir52 rv52 33 where
  fn := Tryz.f52
  code := code52
  h := hi52
  mixed := by rw [hX]; exact Tryz.checked.mixed
  func := by rw [hX]; exact Tryz.func52
  name := by kernel_rfl
  body := by kernel_rfl
  size := Tryz.ntmps52
  low := by rw [hX]; exact low52
  res := by rw [hX]; kernel_rfl
/-- scribe/parse.leaf -/
def ir53 : LC :=
  (.seq
   (.reg [⟨some 4, .box (.t 1), none⟩,
     ⟨some 6, .alloc [(.str []), (.str []), (.int .i64 0), .nil], none⟩] [0, 2, 4, 6])
   (.seq
    (.reg [⟨some 7, .mov (.t 0), none⟩,
      ⟨some 8, .fld 1 (.t 4), none⟩,
      ⟨some 9, .load none (.t 8), none⟩,
      ⟨some 10, .fld 2 (.t 4), none⟩,
      ⟨some 11, .load none (.t 10), none⟩,
      ⟨some 12, .mov (.t 2), none⟩,
      ⟨some 13, .build [(.str []), (.str []), (.int .i64 0), .nil] [(0, 1, (.t 7)), (1, 1, (.t 9)), (2, 1, (.t 11)), (3, 1, (.t 12))], none⟩,
      ⟨none, .store 4 (.t 6) (.t 13), none⟩] [6])
    .ret))
def rv53 : List RV := [.cell 6 (some 4)]
def hi53 : Hints := ⟨[], [], [(0, [0, 2, 4, 6]), (1, [6])]⟩
noncomputable def code53 : Code := Tryz.f53.body.getD .skip
theorem low53 : lowC Tryz.prog hi53 14 code53 = some ir53 := by kernel_rfl
noncomputable def L53 (X : Ctx) (hX : X.P = Tryz.prog) : Lowered X 53 ir53 rv53 14 where
  fn := Tryz.f53
  code := code53
  h := hi53
  mixed := by rw [hX]; exact Tryz.checked.mixed
  func := by rw [hX]; exact Tryz.func53
  name := by kernel_rfl
  body := by kernel_rfl
  size := Tryz.ntmps53
  low := by rw [hX]; exact low53
  res := by rw [hX]; kernel_rfl
/-- (*scribe/parse.parser).expect -/
def ir55 : LC :=
  (.seq
   (.reg [⟨some 4, .mov (.t 0), none⟩,
     ⟨some 5, .mov (.t 1), none⟩,
     ⟨some 6, .call (.c (.func 51 [] [])) [(.t 4), (.t 5)], none⟩,
     ⟨some 7, .not (.t 6), none⟩] [0, 7])
   (.cond (.t 7)
    (.reg [⟨some 8, .mov (.t 0), none⟩,
      ⟨some 9, .call (.c (.func 58 [] [])) [(.t 8)], none⟩] [])
    .skip))
def rv55 : List RV := []
def hi55 : Hints := ⟨[], [], [(0, [0, 7]), (1, [])]⟩
noncomputable def code55 : Code := Tryz.f55.body.getD .skip
theorem low55 : lowC Tryz.prog hi55 10 code55 = some ir55 := by kernel_rfl
noncomputable def L55 (X : Ctx) (hX : X.P = Tryz.prog) : Lowered X 55 ir55 rv55 10 where
  fn := Tryz.f55
  code := code55
  h := hi55
  mixed := by rw [hX]; exact Tryz.checked.mixed
  func := by rw [hX]; exact Tryz.func55
  name := by kernel_rfl
  body := by kernel_rfl
  size := Tryz.ntmps55
  low := by rw [hX]; exact low55
  res := by rw [hX]; kernel_rfl
/-- (*scribe/parse.parser).lines -/
def ir56 : LC :=
  (.block 0
   (.loop
    (.seq
     (.seq
      (.reg [⟨some 2, .mov (.t 0), none⟩,
        ⟨some 3, .call (.c (.func 30 [] [])) [(.t 2)], none⟩,
        ⟨some 4, .prt none 0 (.t 3), none⟩,
        ⟨some 5, .bin .eql (.t 4) (.c (.int .i64 1)), none⟩] [0, 5])
      (.cond (.t 5)
       .skip
       (.exit 0)))
     (.block 1
      (.reg [⟨some 6, .mov (.t 0), none⟩,
        ⟨some 7, .call (.c (.func 31 [] [])) [(.t 6)], none⟩] [0])))))
def rv56 : List RV := []
def hi56 : Hints := ⟨[], [], [(0, [0, 5]), (1, [0])]⟩
noncomputable def code56 : Code := Tryz.f56.body.getD .skip
theorem low56 : lowC Tryz.prog hi56 8 code56 = some ir56 := by kernel_rfl
noncomputable def L56 (X : Ctx) (hX : X.P = Tryz.prog) : Lowered X 56 ir56 rv56 8 where
  fn := Tryz.f56
  code := code56
  h := hi56
  mixed := by rw [hX]; exact Tryz.checked.mixed
  func := by rw [hX]; exact Tryz.func56
  name := by kernel_rfl
  body := by kernel_rfl
  size := Tryz.ntmps56
  low := by rw [hX]; exact low56
  res := by rw [hX]; kernel_rfl
/-- (*scribe/parse.parser).expr -/
def ir57 : LC :=
  (.seq
   (.reg [⟨some 2, .alloc [(.str []), (.str []), (.int .i64 0), .nil], none⟩] [0, 2])
   (.seq
    (.reg [⟨some 6, .mov (.t 0), none⟩,
      ⟨some 7, .call (.c (.func 92 [] [])) [(.t 6)], none⟩] [0, 2])
    (.seq
     (.reg [⟨some 8, .mov (.t 0), none⟩,
       ⟨none, .defer (.c (.func 93 [] [])) [(.t 8)], none⟩] [0, 2])
     (.seq
      (.reg [⟨some 9, .mov (.t 0), none⟩,
        ⟨some 10, .call (.c (.func 94 [] [])) [(.t 9)], none⟩,
        ⟨some 3, .alloc [(.str []), (.str []), (.int .i64 0), .nil], none⟩,
        ⟨none, .store 4 (.t 3) (.t 10), none⟩] [0, 2, 3])
      (.seq
       (.seq
        (.reg [⟨some 11, .mov (.t 0), none⟩,
          ⟨some 12, .call (.c (.func 51 [] [])) [(.t 11), (.c (.str [63]))], none⟩] [0, 2, 3, 12])
        (.cond (.t 12)
         (.seq
          (.reg [⟨some 13, .mov (.t 0), none⟩,
            ⟨some 14, .call (.c (.func 56 [] [])) [(.t 13)], none⟩] [0, 2, 3])
          (.seq
           (.reg [⟨some 15, .mov (.t 0), none⟩,
             ⟨some 16, .call (.c (.func 57 [] [])) [(.t 15)], none⟩,
             ⟨some 4, .alloc [(.str []), (.str []), (.int .i64 0), .nil], none⟩,
             ⟨none, .store 4 (.t 4) (.t 16), none⟩] [0, 2, 3, 4])
           (.seq
            (.reg [⟨some 17, .mov (.t 0), none⟩,
              ⟨some 18, .call (.c (.func 56 [] [])) [(.t 17)], none⟩] [0, 2, 3, 4])
            (.seq
             (.reg [⟨some 19, .mov (.t 0), none⟩,
               ⟨some 20, .call (.c (.func 55 [] [])) [(.t 19), (.c (.str [58]))], none⟩] [0, 2, 3, 4])
             (.seq
              (.reg [⟨some 21, .mov (.t 0), none⟩,
                ⟨some 22, .call (.c (.func 56 [] [])) [(.t 21)], none⟩] [0, 2, 3, 4])
              (.seq
               (.drw (.st [⟨some 23, .load (some 4) (.t 3), none⟩]
                (.st [⟨some 24, .load (some 4) (.t 4), none⟩]
                (.st [⟨some 25, .mov (.t 0), none⟩]
                (.st [⟨some 26, .call (.c (.func 57 [] [])) [(.t 25)], none⟩,
                  ⟨some 24, .same (.load (some 4) (.t 4)), none⟩,
                  ⟨some 23, .same (.load (some 4) (.t 3)), none⟩]
                (.st [⟨some 27, .blds 0 true 4 3 [(.str []), (.str []), (.int .i64 0), .nil] [(0, 4, (.t 23)), (4, 4, (.t 24)), (8, 4, (.t 26))], none⟩]
                (.st [⟨some 28, .call (.c (.func 28 [] [])) [(.c (.str [99, 111, 110, 100])), (.t 27)], none⟩]
                (.st [⟨none, .store 4 (.t 2) (.t 28), none⟩]
                .done))))))) [2])
               .ret))))))
         .skip))
       (.seq
        (.seq
         (.reg [⟨some 29, .mov (.t 0), none⟩,
           ⟨some 30, .call (.c (.func 30 [] [])) [(.t 29)], none⟩,
           ⟨some 5, .alloc [(.int .i64 0), (.str []), (.int .i64 0)], none⟩,
           ⟨none, .store 3 (.t 5) (.t 30), none⟩] [0, 2, 3, 5])
         (.seq
          (.reg [⟨some 31, .load (some 4) (.t 3), none⟩,
            ⟨some 32, .call (.c (.func 95 [] [])) [(.t 31)], none⟩,
            ⟨some 33, .mov (.t 32), none⟩,
            ⟨some 34, .fld 0 (.t 5), some (33, true)⟩,
            ⟨some 35, .load none (.t 34), some (33, true)⟩,
            ⟨some 36, .bin .eql (.t 35) (.c (.int .i64 8)), some (33, true)⟩,
            ⟨some 37, .pick (.t 33) (.t 36) (.c (.bool false)), none⟩,
            ⟨some 38, .mov (.t 37), none⟩,
            ⟨some 39, .blds 0 false 1 6 [(.str [])] [(0, 1, (.c (.str [61]))), (1, 1, (.c (.str [43, 61]))), (2, 1, (.c (.str [45, 61]))), (3, 1, (.c (.str [42, 61]))), (4, 1, (.c (.str [47, 61]))), (5, 1, (.c (.str [37, 61])))], some (38, true)⟩,
            ⟨some 40, .fld 1 (.t 5), some (38, true)⟩,
            ⟨some 41, .load none (.t 40), some (38, true)⟩,
            ⟨some 42, .call (.c (.func 50 [] [])) [(.t 39), (.t 41)], some (38, true)⟩,
            ⟨some 43, .pick (.t 38) (.t 42) (.c (.bool false)), none⟩] [0, 2, 3, 5, 43])
          (.cond (.t 43)
           (.seq
            (.reg [⟨some 44, .mov (.t 0), none⟩,
              ⟨some 45, .call (.c (.func 31 [] [])) [(.t 44)], none⟩] [0, 2, 3, 5])
            (.seq
             (.reg [⟨some 46, .mov (.t 0), none⟩,
               ⟨some 47, .call (.c (.func 56 [] [])) [(.t 46)], none⟩] [0, 2, 3, 5])
             (.seq
              (.drw (.st [⟨some 48, .fld 1 (.t 5), none⟩]
               (.st [⟨some 49, .load none (.t 48), none⟩]
               (.st [⟨some 50, .load (some 4) (.t 3), none⟩]
               (.st [⟨some 51, .mov (.t 0), none⟩]
               (.st [⟨some 52, .call (.c (.func 57 [] [])) [(.t 51)], none⟩,
                 ⟨some 50, .same (.load (some 4) (.t 3)), none⟩,
                 ⟨some 49, .same (.load none (.t 48)), none⟩]
               (.st [⟨some 53, .blds 0 true 4 2 [(.str []), (.str []), (.int .i64 0), .nil] [(0, 4, (.t 50)), (4, 4, (.t 52))], none⟩]
               (.st [⟨some 54, .build [(.str []), (.str []), (.int .i64 0), .nil] [(0, 1, (.c (.str [97, 115, 115, 105, 103, 110]))), (1, 1, (.t 49)), (3, 1, (.t 53))], none⟩]
               (.st [⟨none, .store 4 (.t 2) (.t 54), none⟩]
               .done)))))))) [2])
              .ret)))
           .skip)))
        (.seq
         (.reg [⟨some 55, .load (some 4) (.t 3), none⟩,
           ⟨none, .store 4 (.t 2) (.t 55), none⟩] [2])
         .ret)))))))
def rv57 : List RV := [.cell 2 (some 4)]
def hi57 : Hints := ⟨[], [], [(0, [0, 2]), (1, [0, 2]), (2, [0, 2]), (3, [0, 2, 3]), (4, [0, 2, 3, 12]), (5, [0, 2, 3]), (6, [0, 2, 3, 4]), (7, [0, 2, 3, 4]), (8, [0, 2, 3, 4]), (9, [0, 2, 3, 4]), (10, [2]), (11, [0, 2, 3, 5]), (12, [0, 2, 3, 5, 43]), (13, [0, 2, 3, 5]), (14, [0, 2, 3, 5]), (15, [2]), (16, [2])]⟩
noncomputable def code57 : Code := Tryz.f57.body.getD .skip
theorem low57 : lowC Tryz.prog hi57 56 code57 = some ir57 := by kernel_rfl
noncomputable def L57 (X : Ctx) (hX : X.P = Tryz.prog) : Lowered X 57 ir57 rv57 56 where
  fn := Tryz.f57
  code := code57
  h := hi57
  mixed := by rw [hX]; exact Tryz.checked.mixed
  func := by rw [hX]; exact Tryz.func57
  name := by kernel_rfl
  body := by kernel_rfl
  size := Tryz.ntmps57
  low := by rw [hX]; exact low57
  res := by rw [hX]; kernel_rfl
/-- (*scribe/parse.parser).fail -/
def ir58 : LC :=
  (.seq
   (.reg [⟨some 3, .mov (.t 0), none⟩,
     ⟨some 4, .call (.c (.func 30 [] [])) [(.t 3)], none⟩,
     ⟨some 2, .alloc [(.int .i64 0), (.str []), (.int .i64 0)], none⟩,
     ⟨none, .store 3 (.t 2) (.t 4), none⟩] [0, 2])
   (.block 0
    (.seq
     (.reg [⟨some 14, .mov (.t 0), none⟩,
       ⟨some 15, .nilck (.t 14), none⟩,
       ⟨some 16, .fld 4 (.t 15), none⟩,
       ⟨some 17, .load none (.t 16), none⟩,
       ⟨some 18, .bin .neq (.t 17) (.c (.int .i64 0)), none⟩,
       ⟨some 13, .mov (.t 18), none⟩] [0, 2, 13])
     (.cond (.t 13)
      .skip
      (.seq
       (.seq
        (.reg [⟨some 20, .fld 0 (.t 2), none⟩,
          ⟨some 21, .load none (.t 20), none⟩,
          ⟨some 22, .bin .eql (.t 21) (.c (.int .i64 10)), none⟩,
          ⟨some 19, .mov (.t 22), none⟩] [0, 2, 19])
        (.cond (.t 19)
         .skip
         (.reg [⟨some 23, .fld 0 (.t 2), none⟩,
           ⟨some 24, .load none (.t 23), none⟩,
           ⟨some 25, .bin .eql (.t 24) (.c (.int .i64 8)), none⟩,
           ⟨some 26, .mov (.t 25), none⟩,
           ⟨some 27, .fld 1 (.t 2), some (26, true)⟩,
           ⟨some 28, .load none (.t 27), some (26, true)⟩,
           ⟨some 29, .bin .eql (.t 28) (.c (.str [124])), some (26, true)⟩,
           ⟨some 30, .pick (.t 26) (.t 29) (.c (.bool false)), none⟩,
           ⟨some 19, .mov (.t 30), none⟩] [0, 2, 19])))
       (.cond (.t 19)
        (.drw (.st [⟨some 31, .mov (.t 0), none⟩]
         (.st [⟨some 32, .mov (.t 0), none⟩]
         (.st [⟨some 33, .fld 2 (.t 2), none⟩]
         (.st [⟨some 34, .load none (.t 33), none⟩]
         (.st [⟨some 35, .nilck (.t 31), none⟩]
         (.st [⟨some 36, .fld 4 (.t 35), none⟩]
         (.st [⟨none, .store 1 (.t 36) (.c (.int .i64 10)), none⟩,
           ⟨some 34, .same (.load none (.t 33)), none⟩]
         (.st [⟨some 37, .nilck (.t 32), none⟩]
         (.st [⟨some 38, .fld 5 (.t 37), none⟩]
         (.st [⟨none, .store 1 (.t 38) (.t 34), none⟩]
         .done)))))))))) [])
        (.drw (.st [⟨some 5, .mov (.t 0), none⟩]
         (.st [⟨some 6, .mov (.t 0), none⟩]
         (.st [⟨some 7, .fld 2 (.t 2), none⟩]
         (.st [⟨some 8, .load none (.t 7), none⟩]
         (.st [⟨some 9, .nilck (.t 5), none⟩]
         (.st [⟨some 10, .fld 4 (.t 9), none⟩]
         (.st [⟨none, .store 1 (.t 10) (.c (.int .i64 9)), none⟩,
           ⟨some 8, .same (.load none (.t 7)), none⟩]
         (.st [⟨some 11, .nilck (.t 6), none⟩]
         (.st [⟨some 12, .fld 5 (.t 11), none⟩]
         (.st [⟨none, .store 1 (.t 12) (.t 8), none⟩]
         .done)))))))))) [])))))))
def rv58 : List RV := []
def hi58 : Hints := ⟨[], [], [(0, [0, 2]), (2, [0, 2, 13]), (3, [0, 2, 19]), (4, [0, 2, 19]), (1, []), (5, [])]⟩
noncomputable def code58 : Code := Tryz.f58.body.getD .skip
theorem low58 : lowC Tryz.prog hi58 39 code58 = some ir58 := by kernel_rfl
noncomputable def L58 (X : Ctx) (hX : X.P = Tryz.prog) : Lowered X 58 ir58 rv58 39 where
  fn := Tryz.f58
  code := code58
  h := hi58
  mixed := by rw [hX]; exact Tryz.checked.mixed
  func := by rw [hX]; exact Tryz.func58
  name := by kernel_rfl
  body := by kernel_rfl
  size := Tryz.ntmps58
  low := by rw [hX]; exact low58
  res := by rw [hX]; kernel_rfl
/-- (*scribe/resolve.resolver).fn -/
def ir60 : LC :=
  (.seq
   (.reg [⟨some 3, .box (.t 1), none⟩,
     ⟨some 4, .mov (.c (.int .i64 0)), none⟩] [0, 3])
   (.seq
    (.seq
     (.reg [⟨some 5, .fld 0 (.t 3), none⟩,
       ⟨some 6, .load none (.t 5), none⟩,
       ⟨some 7, .bin .eql (.t 6) (.c (.str [102, 117, 110, 99])), none⟩] [0, 3, 7])
     (.cond (.t 7)
      (.seq
       (.drw (.st [⟨some 8, .mov (.t 0), none⟩]
        (.st [⟨some 9, .nilck (.t 8), none⟩]
        (.st [⟨some 10, .fld 0 (.t 9), none⟩]
        (.st [⟨some 11, .load none (.t 10), none⟩]
        (.st [⟨some 12, .fld 1 (.t 3), none⟩]
        (.st [⟨some 13, .load none (.t 12), none⟩]
        (.st [⟨some 14, .lookup false [1] (.int .i64 0) false (.t 11) (.t 13), none⟩]
        (.st [⟨some 4, .mov (.t 14), none⟩]
        .done)))))))) [4])
       .ret)
      .skip))
    (.seq
     (.reg [⟨some 4, .mov (.c (.int .i64 (-1))), none⟩] [4])
     .ret)))
def rv60 : List RV := [.t 4]
def hi60 : Hints := ⟨[], [], [(0, [0, 3]), (1, [0, 3, 7]), (2, [4]), (3, [4])]⟩
noncomputable def code60 : Code := Tryz.f60.body.getD .skip
theorem low60 : lowC Tryz.prog hi60 15 code60 = some ir60 := by kernel_rfl
noncomputable def L60 (X : Ctx) (hX : X.P = Tryz.prog) : Lowered X 60 ir60 rv60 15 where
  fn := Tryz.f60
  code := code60
  h := hi60
  mixed := by rw [hX]; exact Tryz.checked.mixed
  func := by rw [hX]; exact Tryz.func60
  name := by kernel_rfl
  body := by kernel_rfl
  size := Tryz.ntmps60
  low := by rw [hX]; exact low60
  res := by rw [hX]; kernel_rfl
/-- scribe/ast.All -/
def ir61 : LC :=
  (.seq
   (.reg [⟨some 1, .box (.t 0), none⟩,
     ⟨some 2, .mov (.c .nilFunc), none⟩] [1])
   (.seq
    (.reg [⟨some 3, .mkf 96 [] [(.t 1)], none⟩,
      ⟨some 2, .mov (.t 3), none⟩] [2])
    .ret))
def rv61 : List RV := [.t 2]
def hi61 : Hints := ⟨[], [], [(0, [1]), (1, [2])]⟩
noncomputable def code61 : Code := Tryz.f61.body.getD .skip
theorem low61 : lowC Tryz.prog hi61 4 code61 = some ir61 := by kernel_rfl
noncomputable def L61 (X : Ctx) (hX : X.P = Tryz.prog) : Lowered X 61 ir61 rv61 4 where
  fn := Tryz.f61
  code := code61
  h := hi61
  mixed := by rw [hX]; exact Tryz.checked.mixed
  func := by rw [hX]; exact Tryz.func61
  name := by kernel_rfl
  body := by kernel_rfl
  size := Tryz.ntmps61
  low := by rw [hX]; exact low61
  res := by rw [hX]; kernel_rfl
/-- scribe/resolve.arrayName -/
def ir62 : LC :=
  (.seq
   (.reg [⟨some 1, .box (.t 0), none⟩,
     ⟨some 2, .mov (.c (.str [])), none⟩,
     ⟨some 3, .mov (.c (.bool false)), none⟩] [1])
   (.seq
    (.seq
     (.reg [⟨some 4, .fld 0 (.t 1), none⟩,
       ⟨some 5, .load none (.t 4), none⟩] [1, 5])
     (.block 0
      (.seq
       (.seq
        (.reg [⟨some 7, .bin .eql (.t 5) (.c (.str [105, 110, 100, 101, 120])), none⟩,
          ⟨some 6, .mov (.t 7), none⟩] [1, 5, 6])
        (.cond (.t 6)
         .skip
         (.seq
          (.reg [⟨some 8, .bin .eql (.t 5) (.c (.str [105, 110])), none⟩,
            ⟨some 6, .mov (.t 8), none⟩] [1, 5, 6])
          (.cond (.t 6)
           .skip
           (.reg [⟨some 9, .bin .eql (.t 5) (.c (.str [110, 97, 109, 101])), none⟩,
             ⟨some 6, .mov (.t 9), none⟩] [1, 6])))))
       (.cond (.t 6)
        (.seq
         (.reg [⟨some 10, .fld 1 (.t 1), none⟩,
           ⟨some 11, .load none (.t 10), none⟩,
           ⟨some 2, .mov (.t 11), none⟩,
           ⟨some 3, .mov (.c (.bool true)), none⟩] [2, 3])
         .ret)
        .skip))))
    (.seq
     (.reg [⟨some 2, .mov (.c (.str [])), none⟩,
       ⟨some 3, .mov (.c (.bool false)), none⟩] [2, 3])
     .ret)))
def rv62 : List RV := [.t 2, .t 3]
def hi62 : Hints := ⟨[], [], [(0, [1]), (1, [1, 5]), (2, [1, 5, 6]), (3, [1, 5, 6]), (4, [1, 6]), (5, [2, 3]), (6, [2, 3])]⟩
noncomputable def code62 : Code := Tryz.f62.body.getD .skip
theorem low62 : lowC Tryz.prog hi62 12 code62 = some ir62 := by kernel_rfl
noncomputable def L62 (X : Ctx) (hX : X.P = Tryz.prog) : Lowered X 62 ir62 rv62 12 where
  fn := Tryz.f62
  code := code62
  h := hi62
  mixed := by rw [hX]; exact Tryz.checked.mixed
  func := by rw [hX]; exact Tryz.func62
  name := by kernel_rfl
  body := by kernel_rfl
  size := Tryz.ntmps62
  low := by rw [hX]; exact low62
  res := by rw [hX]; kernel_rfl
/-- (*scribe/resolve.resolver).symbol -/
def ir63 : LC :=
  (.seq
   (.reg [⟨some 6, .alloc [(.int .i64 0), (.str [])], none⟩] [0, 1, 2, 6])
   (.seq
    (.seq
     (.reg [⟨some 7, .mov (.t 1), none⟩,
       ⟨some 8, .bin .geq (.t 7) (.c (.int .i64 0)), none⟩,
       ⟨some 9, .mov (.t 8), none⟩,
       ⟨some 10, .mov (.t 0), some (9, true)⟩,
       ⟨some 11, .nilck (.t 10), some (9, true)⟩,
       ⟨some 12, .fld 1 (.t 11), some (9, true)⟩,
       ⟨some 13, .load none (.t 12), some (9, true)⟩,
       ⟨some 14, .nilck (.t 13), some (9, true)⟩,
       ⟨some 15, .fld 0 (.t 14), some (9, true)⟩,
       ⟨some 16, .load none (.t 15), some (9, true)⟩,
       ⟨some 17, .mov (.t 1), some (9, true)⟩,
       ⟨some 18, .ixa 7 (.t 16) (.t 17), some (9, true)⟩,
       ⟨some 19, .fld 1 (.t 18), some (9, true)⟩,
       ⟨some 20, .load none (.t 19), some (9, true)⟩,
       ⟨some 21, .mov (.t 2), some (9, true)⟩,
       ⟨some 22, .call (.c (.func 50 [] [])) [(.t 20), (.t 21)], some (9, true)⟩,
       ⟨some 23, .pick (.t 9) (.t 22) (.c (.bool false)), none⟩] [1, 2, 6, 23])
     (.cond (.t 23)
      (.seq
       (.reg [⟨some 24, .mov (.t 1), none⟩,
         ⟨some 25, .mov (.t 2), none⟩,
         ⟨some 26, .build [(.int .i64 0), (.str [])] [(0, 1, (.t 24)), (1, 1, (.t 25))], none⟩,
         ⟨none, .store 2 (.t 6) (.t 26), none⟩] [6])
       .ret)
      .skip))
    (.seq
     (.reg [⟨some 27, .mov (.t 2), none⟩,
       ⟨some 28, .build [(.int .i64 0), (.str [])] [(0, 1, (.c (.int .i64 (-1)))), (1, 1, (.t 27))], none⟩,
       ⟨none, .store 2 (.t 6) (.t 28), none⟩] [6])
     .ret)))
def rv63 : List RV := [.cell 6 (some 2)]
def hi63 : Hints := ⟨[], [], [(0, [0, 1, 2, 6]), (1, [1, 2, 6, 23]), (2, [6]), (3, [6])]⟩
noncomputable def code63 : Code := Tryz.f63.body.getD .skip
theorem low63 : lowC Tryz.prog hi63 29 code63 = some ir63 := by kernel_rfl
noncomputable def L63 (X : Ctx) (hX : X.P = Tryz.prog) : Lowered X 63 ir63 rv63 29 where
  fn := Tryz.f63
  code := code63
  h := hi63
  mixed := by rw [hX]; exact Tryz.checked.mixed
  func := by rw [hX]; exact Tryz.func63
  name := by kernel_rfl
  body := by kernel_rfl
  size := Tryz.ntmps63
  low := by rw [hX]; exact low63
  res := by rw [hX]; kernel_rfl
/-- (*scribe/resolve.resolver).check -/
def ir64 : LC :=
  (.seq
   (.reg [⟨some 6, .box (.t 2), none⟩,
     ⟨some 7, .box (.t 3), none⟩] [0, 1, 6, 7])
   (.seq
    (.seq
     (.reg [⟨some 10, .mov (.t 0), none⟩,
       ⟨some 11, .nilck (.t 10), none⟩,
       ⟨some 12, .fld 5 (.t 11), none⟩,
       ⟨some 13, .load none (.t 12), none⟩,
       ⟨some 14, .bin .neq (.t 13) (.c (.int .i64 0)), none⟩] [0, 1, 6, 7, 14])
     (.cond (.t 14)
      .ret
      .skip))
    (.seq
     (.seq
      (.reg [⟨some 15, .fld 0 (.t 6), none⟩,
        ⟨some 16, .load none (.t 15), none⟩] [0, 1, 6, 7, 16])
      (.block 0
       (.seq
        (.reg [⟨some 18, .bin .eql (.t 16) (.c (.str [118, 97, 114])), none⟩,
          ⟨some 17, .mov (.t 18), none⟩] [0, 1, 6, 7, 16, 17])
        (.cond (.t 17)
         (.reg [⟨some 19, .mov (.t 0), none⟩,
           ⟨some 20, .mov (.t 1), none⟩,
           ⟨some 21, .load (some 4) (.t 6), none⟩,
           ⟨some 22, .call (.c (.func 98 [] [])) [(.t 19), (.t 20), (.t 21), (.c (.bool false))], none⟩] [0, 1, 6, 7])
         (.seq
          (.seq
           (.reg [⟨some 24, .bin .eql (.t 16) (.c (.str [105, 110, 100, 101, 120])), none⟩,
             ⟨some 23, .mov (.t 24), none⟩] [0, 1, 6, 7, 16, 23])
           (.cond (.t 23)
            .skip
            (.seq
             (.reg [⟨some 25, .bin .eql (.t 16) (.c (.str [105, 110])), none⟩,
               ⟨some 23, .mov (.t 25), none⟩] [0, 1, 6, 7, 16, 23])
             (.cond (.t 23)
              .skip
              (.reg [⟨some 26, .bin .eql (.t 16) (.c (.str [110, 97, 109, 101])), none⟩,
                ⟨some 23, .mov (.t 26), none⟩] [0, 1, 6, 7, 16, 23])))))
          (.cond (.t 23)
           (.reg [⟨some 27, .mov (.t 0), none⟩,
             ⟨some 28, .mov (.t 1), none⟩,
             ⟨some 29, .load (some 4) (.t 6), none⟩,
             ⟨some 30, .call (.c (.func 98 [] [])) [(.t 27), (.t 28), (.t 29), (.c (.bool true))], none⟩] [0, 1, 6, 7])
           (.seq
            (.reg [⟨some 32, .bin .eql (.t 16) (.c (.str [102, 111, 114, 105, 110])), none⟩,
              ⟨some 31, .mov (.t 32), none⟩] [0, 1, 6, 7, 16, 31])
            (.cond (.t 31)
             (.seq
              (.reg [⟨some 33, .mov (.t 0), none⟩,
                ⟨some 34, .mov (.t 1), none⟩,
                ⟨some 35, .fld 1 (.t 6), none⟩,
                ⟨some 36, .load none (.t 35), none⟩,
                ⟨some 37, .fld 2 (.t 6), none⟩,
                ⟨some 38, .load none (.t 37), none⟩,
                ⟨some 39, .build [(.str []), (.str []), (.int .i64 0), .nil] [(0, 1, (.c (.str [118, 97, 114]))), (1, 1, (.t 36)), (2, 1, (.t 38))], none⟩,
                ⟨some 40, .call (.c (.func 98 [] [])) [(.t 33), (.t 34), (.t 39), (.c (.bool false))], none⟩] [0, 1, 6, 7])
              (.reg [⟨some 41, .fld 0 (.t 7), none⟩,
                ⟨none, .store 1 (.t 41) (.c (.bool true)), none⟩] [0, 1, 6, 7]))
             (.seq
              (.seq
               (.reg [⟨some 43, .bin .eql (.t 16) (.c (.str [119, 104, 105, 108, 101])), none⟩,
                 ⟨some 42, .mov (.t 43), none⟩] [0, 1, 6, 7, 16, 42])
               (.cond (.t 42)
                .skip
                (.reg [⟨some 44, .bin .eql (.t 16) (.c (.str [102, 111, 114])), none⟩,
                  ⟨some 42, .mov (.t 44), none⟩] [0, 1, 6, 7, 16, 42])))
              (.cond (.t 42)
               (.reg [⟨some 45, .fld 0 (.t 7), none⟩,
                 ⟨none, .store 1 (.t 45) (.c (.bool true)), none⟩] [0, 1, 6, 7])
               (.seq
                (.reg [⟨some 47, .bin .eql (.t 16) (.c (.str [99, 97, 108, 108])), none⟩,
                  ⟨some 46, .mov (.t 47), none⟩] [0, 1, 6, 7, 16, 46])
                (.cond (.t 46)
                 (.seq
                  (.reg [⟨some 48, .mov (.t 0), none⟩,
                    ⟨some 49, .mov (.t 1), none⟩,
                    ⟨some 50, .load (some 4) (.t 6), none⟩,
                    ⟨some 51, .load (some 3) (.t 7), none⟩,
                    ⟨some 52, .call (.c (.func 99 [] [])) [(.t 48), (.t 49), (.t 50), (.t 51)], none⟩] [])
                  .ret)
                 (.seq
                  (.seq
                   (.reg [⟨some 54, .bin .eql (.t 16) (.c (.str [98, 114, 101, 97, 107])), none⟩,
                     ⟨some 53, .mov (.t 54), none⟩] [0, 1, 6, 7, 16, 53])
                   (.cond (.t 53)
                    .skip
                    (.reg [⟨some 55, .bin .eql (.t 16) (.c (.str [99, 111, 110, 116, 105, 110, 117, 101])), none⟩,
                      ⟨some 53, .mov (.t 55), none⟩] [0, 1, 6, 7, 16, 53])))
                  (.cond (.t 53)
                   (.seq
                    (.reg [⟨some 56, .fld 0 (.t 7), none⟩,
                      ⟨some 57, .load none (.t 56), none⟩,
                      ⟨some 58, .not (.t 57), none⟩] [0, 1, 6, 7, 58])
                    (.cond (.t 58)
                     (.reg [⟨some 59, .mov (.t 0), none⟩,
                       ⟨some 60, .fld 2 (.t 6), none⟩,
                       ⟨some 61, .load none (.t 60), none⟩,
                       ⟨some 62, .call (.c (.func 65 [] [])) [(.t 59), (.t 61), (.c (.int .i64 9))], none⟩] [0, 1, 6, 7])
                     .skip))
                   (.seq
                    (.reg [⟨some 64, .bin .eql (.t 16) (.c (.str [114, 101, 116, 117, 114, 110])), none⟩,
                      ⟨some 63, .mov (.t 64), none⟩] [0, 1, 6, 7, 16, 63])
                    (.cond (.t 63)
                     (.seq
                      (.reg [⟨some 65, .fld 1 (.t 7), none⟩,
                        ⟨some 66, .load none (.t 65), none⟩,
                        ⟨some 67, .not (.t 66), none⟩] [0, 1, 6, 7, 67])
                      (.cond (.t 67)
                       (.reg [⟨some 68, .mov (.t 0), none⟩,
                         ⟨some 69, .fld 2 (.t 6), none⟩,
                         ⟨some 70, .load none (.t 69), none⟩,
                         ⟨some 71, .call (.c (.func 65 [] [])) [(.t 68), (.t 70), (.c (.int .i64 9))], none⟩] [0, 1, 6, 7])
                       .skip))
                     (.seq
                      (.reg [⟨some 73, .bin .eql (.t 16) (.c (.str [110, 101, 120, 116])), none⟩,
                        ⟨some 72, .mov (.t 73), none⟩] [0, 1, 6, 7, 72])
                      (.cond (.t 72)
                       (.seq
                        (.reg [⟨some 74, .fld 2 (.t 7), none⟩,
                          ⟨some 75, .load none (.t 74), none⟩,
                          ⟨some 76, .not (.t 75), none⟩] [0, 1, 6, 7, 76])
                        (.cond (.t 76)
                         (.reg [⟨some 77, .mov (.t 0), none⟩,
                           ⟨some 78, .fld 2 (.t 6), none⟩,
                           ⟨some 79, .load none (.t 78), none⟩,
                           ⟨some 80, .call (.c (.func 65 [] [])) [(.t 77), (.t 79), (.c (.int .i64 9))], none⟩] [0, 1, 6, 7])
                         .skip))
                       .skip))))))))))))))))))
     (.seq
      (.reg [⟨some 81, .fld 3 (.t 6), none⟩,
        ⟨some 82, .load none (.t 81), none⟩,
        ⟨some 83, .len (.t 82), none⟩,
        ⟨some 84, .mov (.c (.int .i64 0)), none⟩] [0, 1, 7, 82, 83, 84])
      (.block 1
       (.loop
        (.seq
         (.reg [⟨some 85, .bin .lss (.t 84) (.t 83), none⟩] [0, 1, 7, 82, 83, 84, 85])
         (.seq
          (.cond (.t 85)
           .skip
           (.exit 1))
          (.seq
           (.block 2
            (.seq
             (.reg [⟨some 86, .ixa 4 (.t 82) (.t 84), none⟩,
               ⟨some 87, .load (some 4) (.t 86), none⟩,
               ⟨some 9, .alloc [(.str []), (.str []), (.int .i64 0), .nil], none⟩,
               ⟨none, .store 4 (.t 9) (.t 87), none⟩] [0, 1, 7, 9, 82, 83, 84])
             (.reg [⟨some 88, .mov (.t 0), none⟩,
               ⟨some 89, .mov (.t 1), none⟩,
               ⟨some 90, .load (some 4) (.t 9), none⟩,
               ⟨some 91, .load (some 3) (.t 7), none⟩,
               ⟨some 92, .call (.c (.func 64 [] [])) [(.t 88), (.t 89), (.t 90), (.t 91)], none⟩] [0, 1, 7, 82, 83, 84])))
           (.reg [⟨some 93, .bin .add (.t 84) (.c (.int .i64 1)), none⟩,
             ⟨some 84, .mov (.t 93), none⟩] [0, 1, 7, 82, 83, 84]))))))))))
def rv64 : List RV := []
def hi64 : Hints := ⟨[], [], [(0, [0, 1, 6, 7]), (1, [0, 1, 6, 7, 14]), (2, [0, 1, 6, 7, 16]), (3, [0, 1, 6, 7, 16, 17]), (5, [0, 1, 6, 7, 16, 23]), (6, [0, 1, 6, 7, 16, 23]), (7, [0, 1, 6, 7, 16, 23]), (9, [0, 1, 6, 7, 16, 31]), (12, [0, 1, 6, 7, 16, 42]), (13, [0, 1, 6, 7, 16, 42]), (15, [0, 1, 6, 7, 16, 46]), (17, [0, 1, 6, 7, 16, 53]), (18, [0, 1, 6, 7, 16, 53]), (21, [0, 1, 6, 7, 16, 63]), (24, [0, 1, 6, 7, 72]), (25, [0, 1, 6, 7, 76]), (26, [0, 1, 6, 7]), (22, [0, 1, 6, 7, 67]), (23, [0, 1, 6, 7]), (19, [0, 1, 6, 7, 58]), (20, [0, 1, 6, 7]), (16, []), (14, [0, 1, 6, 7]), (10, [0, 1, 6, 7]), (11, [0, 1, 6, 7]), (8, [0, 1, 6, 7]), (4, [0, 1, 6, 7]), (27, [0, 1, 7, 82, 83, 84]), (28, [0, 1, 7, 82, 83, 84, 85]), (29, [0, 1, 7, 9, 82, 83, 84]), (30, [0, 1, 7, 82, 83, 84]), (31, [0, 1, 7, 82, 83, 84])]⟩
noncomputable def code64 : Code := Tryz.f64.body.getD .skip
theorem low64 : lowC Tryz.prog hi64 94 code64 = some ir64 := by kernel_rfl
noncomputable def L64 (X : Ctx) (hX : X.P = Tryz.prog) : Lowered X 64 ir64 rv64 94 where
  fn := Tryz.f64
  code := code64
  h := hi64
  mixed := by rw [hX]; exact Tryz.checked.mixed
  func := by rw [hX]; exact Tryz.func64
  name := by kernel_rfl
  body := by kernel_rfl
  size := Tryz.ntmps64
  low := by rw [hX]; exact low64
  res := by rw [hX]; kernel_rfl
/-- scribe/num.Prefix -/
def ir66 : LC :=
  (.seq
   (.reg [⟨some 2, .mov (.c (.int .i64 0)), none⟩,
     ⟨some 3, .mov (.c (.int .i64 0)), none⟩] [0])
   (.seq
    (.reg [⟨some 4, .mov (.c (.int .i64 0)), none⟩] [0, 4])
    (.seq
     (.block 0
      (.loop
       (.seq
        (.seq
         (.reg [⟨some 13, .mov (.t 4), none⟩,
           ⟨some 14, .mov (.t 0), none⟩,
           ⟨some 15, .lens (.t 14), none⟩,
           ⟨some 16, .bin .lss (.t 13) (.t 15), none⟩,
           ⟨some 17, .mov (.t 16), none⟩,
           ⟨some 18, .mov (.t 0), some (17, true)⟩,
           ⟨some 19, .mov (.t 4), some (17, true)⟩,
           ⟨some 20, .ixs (.t 18) (.t 19), some (17, true)⟩,
           ⟨some 21, .bin .eql (.t 20) (.c (.int .u8 32)), some (17, true)⟩,
           ⟨some 22, .mov (.t 21), some (17, true)⟩,
           ⟨some 23, .mov (.t 0), some (22, false)⟩,
           ⟨some 24, .mov (.t 4), some (22, false)⟩,
           ⟨some 25, .ixs (.t 23) (.t 24), some (22, false)⟩,
           ⟨some 26, .bin .eql (.t 25) (.c (.int .u8 9)), some (22, false)⟩,
           ⟨some 27, .pick (.t 22) (.c (.bool true)) (.t 26), some (17, true)⟩,
           ⟨some 28, .mov (.t 27), some (17, true)⟩,
           ⟨some 29, .mov (.t 0), some (28, false)⟩,
           ⟨some 30, .mov (.t 4), some (28, false)⟩,
           ⟨some 31, .ixs (.t 29) (.t 30), some (28, false)⟩,
           ⟨some 32, .bin .eql (.t 31) (.c (.int .u8 10)), some (28, false)⟩,
           ⟨some 33, .pick (.t 28) (.c (.bool true)) (.t 32), some (17, true)⟩,
           ⟨some 34, .pick (.t 17) (.t 33) (.c (.bool false)), none⟩] [0, 4, 34])
         (.cond (.t 34)
          .skip
          (.exit 0)))
        (.block 1
         (.reg [⟨some 35, .mov (.t 4), none⟩,
           ⟨some 36, .bin .add (.t 35) (.c (.int .i64 1)), none⟩,
           ⟨some 4, .mov (.t 36), none⟩] [0, 4])))))
     (.seq
      (.reg [⟨some 37, .mov (.t 4), none⟩,
        ⟨some 38, .mov (.t 0), none⟩,
        ⟨some 39, .lens (.t 38), none⟩,
        ⟨some 40, .bin .lss (.t 37) (.t 39), none⟩,
        ⟨some 41, .mov (.t 40), none⟩,
        ⟨some 42, .mov (.t 0), some (41, true)⟩,
        ⟨some 43, .mov (.t 4), some (41, true)⟩,
        ⟨some 44, .ixs (.t 42) (.t 43), some (41, true)⟩,
        ⟨some 45, .bin .eql (.t 44) (.c (.int .u8 45)), some (41, true)⟩,
        ⟨some 46, .pick (.t 41) (.t 45) (.c (.bool false)), none⟩,
        ⟨some 5, .mov (.t 46), none⟩] [0, 4, 5])
      (.seq
       (.seq
        (.reg [⟨some 47, .mov (.t 5), none⟩,
          ⟨some 48, .mov (.t 47), none⟩,
          ⟨some 49, .mov (.t 4), some (48, false)⟩,
          ⟨some 50, .mov (.t 0), some (48, false)⟩,
          ⟨some 51, .lens (.t 50), some (48, false)⟩,
          ⟨some 52, .bin .lss (.t 49) (.t 51), some (48, false)⟩,
          ⟨some 53, .mov (.t 52), some (48, false)⟩,
          ⟨some 54, .mov (.t 0), some (53, true)⟩,
          ⟨some 55, .mov (.t 4), some (53, true)⟩,
          ⟨some 56, .ixs (.t 54) (.t 55), some (53, true)⟩,
          ⟨some 57, .bin .eql (.t 56) (.c (.int .u8 43)), some (53, true)⟩,
          ⟨some 58, .pick (.t 53) (.t 57) (.c (.bool false)), some (48, false)⟩,
          ⟨some 59, .pick (.t 48) (.c (.bool true)) (.t 58), none⟩] [0, 4, 5, 59])
        (.cond (.t 59)
         (.reg [⟨some 60, .mov (.t 4), none⟩,
           ⟨some 61, .bin .add (.t 60) (.c (.int .i64 1)), none⟩,
           ⟨some 4, .mov (.t 61), none⟩] [0, 4, 5])
         .skip))
       (.seq
        (.reg [⟨some 6, .mov (.c (.int .i64 0)), none⟩,
          ⟨some 7, .mov (.c (.bool false)), none⟩] [0, 4, 5, 6, 7])
        (.seq
         (.reg [⟨some 8, .mov (.c (.int .u64 0)), none⟩,
           ⟨some 9, .mov (.c (.int .u64 0)), none⟩,
           ⟨some 10, .mov (.c (.int .u64 100000)), none⟩] [0, 4, 5, 6, 7, 8, 9, 10])
         (.seq
          (.block 2
           (.loop
            (.seq
             (.seq
              (.reg [⟨some 62, .mov (.t 4), none⟩,
                ⟨some 63, .mov (.t 0), none⟩,
                ⟨some 64, .lens (.t 63), none⟩,
                ⟨some 65, .bin .lss (.t 62) (.t 64), none⟩] [0, 4, 5, 6, 7, 8, 9, 10, 65])
              (.cond (.t 65)
               .skip
               (.exit 2)))
             (.seq
              (.block 3
               (.seq
                (.reg [⟨some 68, .mov (.t 0), none⟩,
                  ⟨some 69, .mov (.t 4), none⟩,
                  ⟨some 70, .ixs (.t 68) (.t 69), none⟩,
                  ⟨some 11, .mov (.t 70), none⟩] [0, 4, 5, 6, 7, 8, 9, 10, 11])
                (.seq
                 (.seq
                  (.reg [⟨some 71, .mov (.t 11), none⟩,
                    ⟨some 72, .bin .eql (.t 71) (.c (.int .u8 46)), none⟩,
                    ⟨some 73, .mov (.t 72), none⟩,
                    ⟨some 74, .mov (.t 7), some (73, true)⟩,
                    ⟨some 75, .not (.t 74), some (73, true)⟩,
                    ⟨some 76, .pick (.t 73) (.t 75) (.c (.bool false)), none⟩] [0, 4, 5, 6, 7, 8, 9, 10, 11, 76])
                  (.cond (.t 76)
                   (.seq
                    (.reg [⟨some 7, .mov (.c (.bool true)), none⟩] [0, 4, 5, 6, 7, 8, 9, 10])
                    (.exit 3))
                   .skip))
                 (.seq
                  (.seq
                   (.reg [⟨some 77, .mov (.t 11), none⟩,
                     ⟨some 78, .bin .lss (.t 77) (.c (.int .u8 48)), none⟩,
                     ⟨some 79, .mov (.t 78), none⟩,
                     ⟨some 80, .mov (.t 11), some (79, false)⟩,
                     ⟨some 81, .bin .gtr (.t 80) (.c (.int .u8 57)), some (79, false)⟩,
                     ⟨some 82, .pick (.t 79) (.c (.bool true)) (.t 81), none⟩] [0, 4, 5, 6, 7, 8, 9, 10, 11, 82])
                   (.cond (.t 82)
                    (.exit 2)
                    .skip))
                  (.seq
                   (.reg [⟨some 83, .mov (.t 6), none⟩,
                     ⟨some 84, .bin .add (.t 83) (.c (.int .i64 1)), none⟩,
                     ⟨some 6, .mov (.t 84), none⟩] [0, 4, 5, 6, 7, 8, 9, 10, 11])
                   (.seq
                    (.reg [⟨some 85, .mov (.t 11), none⟩,
                      ⟨some 86, .bin .sub (.t 85) (.c (.int .u8 48)), none⟩,
                      ⟨some 87, .conv .u64 (.t 86), none⟩,
                      ⟨some 12, .mov (.t 87), none⟩] [0, 4, 5, 6, 7, 8, 9, 10, 12])
                    (.seq
                     (.reg [⟨some 88, .mov (.t 7), none⟩] [0, 4, 5, 6, 7, 8, 9, 10, 12, 88])
                     (.cond (.t 88)
                      (.seq
                       (.reg [⟨some 89, .mov (.t 9), none⟩,
                         ⟨some 90, .mov (.t 12), none⟩,
                         ⟨some 91, .mov (.t 10), none⟩,
                         ⟨some 92, .bin .mul (.t 90) (.t 91), none⟩,
                         ⟨some 93, .bin .add (.t 89) (.t 92), none⟩,
                         ⟨some 9, .mov (.t 93), none⟩] [0, 4, 5, 6, 7, 8, 9, 10])
                       (.reg [⟨some 94, .mov (.t 10), none⟩,
                         ⟨some 95, .bin .quo (.t 94) (.c (.int .u64 10)), none⟩,
                         ⟨some 10, .mov (.t 95), none⟩] [0, 4, 5, 6, 7, 8, 9, 10]))
                      (.reg [⟨some 96, .mov (.t 8), none⟩,
                        ⟨some 97, .bin .mul (.c (.int .u64 10)) (.t 96), none⟩,
                        ⟨some 98, .mov (.t 12), none⟩,
                        ⟨some 99, .bin .add (.t 97) (.t 98), none⟩,
                        ⟨some 100, .mn [(.t 99), (.c (.int .u64 10000000000000))], none⟩,
                        ⟨some 8, .mov (.t 100), none⟩] [0, 4, 5, 6, 7, 8, 9, 10])))))))))
              (.reg [⟨some 66, .mov (.t 4), none⟩,
                ⟨some 67, .bin .add (.t 66) (.c (.int .i64 1)), none⟩,
                ⟨some 4, .mov (.t 67), none⟩] [0, 4, 5, 6, 7, 8, 9, 10])))))
          (.seq
           (.seq
            (.reg [⟨some 101, .mov (.t 6), none⟩,
              ⟨some 102, .bin .eql (.t 101) (.c (.int .i64 0)), none⟩] [4, 5, 8, 9, 102])
            (.cond (.t 102)
             (.seq
              (.reg [⟨some 2, .mov (.c (.int .i64 0)), none⟩,
                ⟨some 3, .mov (.c (.int .i64 0)), none⟩] [2, 3])
              .ret)
             .skip))
           (.seq
            (.reg [⟨some 103, .mov (.t 5), none⟩,
              ⟨some 104, .mov (.t 8), none⟩,
              ⟨some 105, .bin .mul (.t 104) (.c (.int .u64 1000000)), none⟩,
              ⟨some 106, .mov (.t 9), none⟩,
              ⟨some 107, .bin .add (.t 105) (.t 106), none⟩,
              ⟨some 108, .call (.c (.func 100 [] [])) [(.t 103), (.c (.int .u64 0)), (.t 107)], none⟩,
              ⟨some 109, .mov (.t 4), none⟩,
              ⟨some 2, .mov (.t 108), none⟩,
              ⟨some 3, .mov (.t 109), none⟩] [2, 3])
            .ret))))))))))
def rv66 : List RV := [.t 2, .t 3]
def hi66 : Hints := ⟨[], [], [(0, [0]), (1, [0, 4]), (2, [0, 4, 34]), (3, [0, 4]), (4, [0, 4, 5]), (5, [0, 4, 5, 59]), (6, [0, 4, 5]), (7, [0, 4, 5, 6, 7]), (8, [0, 4, 5, 6, 7, 8, 9, 10]), (9, [0, 4, 5, 6, 7, 8, 9, 10, 65]), (11, [0, 4, 5, 6, 7, 8, 9, 10, 11]), (12, [0, 4, 5, 6, 7, 8, 9, 10, 11, 76]), (13, [0, 4, 5, 6, 7, 8, 9, 10]), (14, [0, 4, 5, 6, 7, 8, 9, 10, 11, 82]), (15, [0, 4, 5, 6, 7, 8, 9, 10, 11]), (16, [0, 4, 5, 6, 7, 8, 9, 10, 12]), (17, [0, 4, 5, 6, 7, 8, 9, 10, 12, 88]), (20, [0, 4, 5, 6, 7, 8, 9, 10]), (18, [0, 4, 5, 6, 7, 8, 9, 10]), (19, [0, 4, 5, 6, 7, 8, 9, 10]), (10, [0, 4, 5, 6, 7, 8, 9, 10]), (21, [4, 5, 8, 9, 102]), (22, [2, 3]), (23, [2, 3])]⟩
noncomputable def code66 : Code := Tryz.f66.body.getD .skip
theorem low66 : lowC Tryz.prog hi66 110 code66 = some ir66 := by kernel_rfl
noncomputable def L66 (X : Ctx) (hX : X.P = Tryz.prog) : Lowered X 66 ir66 rv66 110 where
  fn := Tryz.f66
  code := code66
  h := hi66
  mixed := by rw [hX]; exact Tryz.checked.mixed
  func := by rw [hX]; exact Tryz.func66
  name := by kernel_rfl
  body := by kernel_rfl
  size := Tryz.ntmps66
  low := by rw [hX]; exact low66
  res := by rw [hX]; kernel_rfl
/-- (*scribe/code.compiler).number -/
def ir67 : LC :=
  (.seq
   (.seq
    (.reg [⟨some 6, .mov (.t 0), none⟩,
      ⟨some 7, .nilck (.t 6), none⟩,
      ⟨some 8, .fld 0 (.t 7), none⟩,
      ⟨some 9, .load none (.t 8), none⟩,
      ⟨some 10, .nilck (.t 9), none⟩,
      ⟨some 11, .fld 1 (.t 10), none⟩,
      ⟨some 12, .load none (.t 11), none⟩,
      ⟨some 13, .len (.t 12), none⟩,
      ⟨some 14, .mov (.c (.int .i64 0)), none⟩] [0, 1, 12, 13, 14])
    (.block 0
     (.loop
      (.seq
       (.reg [⟨some 15, .bin .lss (.t 14) (.t 13), none⟩] [0, 1, 12, 13, 14, 15])
       (.seq
        (.cond (.t 15)
         .skip
         (.exit 0))
        (.seq
         (.block 1
          (.seq
           (.reg [⟨some 16, .mov (.t 14), none⟩,
             ⟨some 17, .ixa 1 (.t 12) (.t 14), none⟩,
             ⟨some 18, .load none (.t 17), none⟩,
             ⟨some 4, .mov (.t 16), none⟩,
             ⟨some 5, .mov (.t 18), none⟩] [0, 1, 4, 5, 12, 13, 14])
           (.seq
            (.reg [⟨some 19, .mov (.t 5), none⟩,
              ⟨some 20, .mov (.t 1), none⟩,
              ⟨some 21, .bin .eql (.t 19) (.t 20), none⟩] [0, 1, 4, 12, 13, 14, 21])
            (.cond (.t 21)
             (.seq
              (.reg [⟨some 22, .mov (.t 0), none⟩,
                ⟨some 23, .mov (.t 4), none⟩,
                ⟨some 24, .call (.c (.func 23 [] [])) [(.t 22), (.c (.int .i64 1)), (.t 23), (.c (.int .i64 0))], none⟩] [])
              .ret)
             .skip))))
         (.reg [⟨some 25, .bin .add (.t 14) (.c (.int .i64 1)), none⟩,
           ⟨some 14, .mov (.t 25), none⟩] [0, 1, 12, 13, 14])))))))
   (.seq
    (.drw (.st [⟨some 26, .mov (.t 0), none⟩]
     (.st [⟨some 27, .nilck (.t 26), none⟩]
     (.st [⟨some 28, .fld 0 (.t 27), none⟩]
     (.st [⟨some 29, .load none (.t 28), none⟩]
     (.st [⟨some 30, .mov (.t 0), none⟩]
     (.st [⟨some 31, .nilck (.t 30), none⟩]
     (.st [⟨some 32, .fld 0 (.t 31), none⟩]
     (.st [⟨some 33, .load none (.t 32), none⟩]
     (.st [⟨some 34, .nilck (.t 33), none⟩]
     (.st [⟨some 35, .fld 1 (.t 34), none⟩]
     (.st [⟨some 36, .load none (.t 35), none⟩]
     (.st [⟨some 37, .mov (.t 1), none⟩]
     (.st [⟨some 38, .blds 0 false 1 1 [(.int .i64 0)] [(0, 1, (.t 37))], none⟩]
     (.st [⟨some 39, .append 0 false 1 8 (.t 36) (.t 38), none⟩,
       ⟨some 29, .same (.load none (.t 28)), none⟩]
     (.st [⟨some 40, .nilck (.t 29), none⟩]
     (.st [⟨some 41, .fld 1 (.t 40), none⟩]
     (.st [⟨none, .store 1 (.t 41) (.t 39), none⟩]
     .done))))))))))))))))) [0])
    (.reg [⟨some 42, .mov (.t 0), none⟩,
      ⟨some 43, .mov (.t 0), none⟩,
      ⟨some 44, .nilck (.t 43), none⟩,
      ⟨some 45, .fld 0 (.t 44), none⟩,
      ⟨some 46, .load none (.t 45), none⟩,
      ⟨some 47, .nilck (.t 46), none⟩,
      ⟨some 48, .fld 1 (.t 47), none⟩,
      ⟨some 49, .load none (.t 48), none⟩,
      ⟨some 50, .len (.t 49), none⟩,
      ⟨some 51, .bin .sub (.t 50) (.c (.int .i64 1)), none⟩,
      ⟨some 52, .call (.c (.func 23 [] [])) [(.t 42), (.c (.int .i64 1)), (.t 51), (.c (.int .i64 0))], none⟩] [])))
def rv67 : List RV := []
def hi67 : Hints := ⟨[], [], [(0, [0, 1, 12, 13, 14]), (1, [0, 1, 12, 13, 14, 15]), (2, [0, 1, 4, 5, 12, 13, 14]), (3, [0, 1, 4, 12, 13, 14, 21]), (4, []), (5, [0, 1, 12, 13, 14]), (6, [0]), (7, [])]⟩
noncomputable def code67 : Code := Tryz.f67.body.getD .skip
theorem low67 : lowC Tryz.prog hi67 53 code67 = some ir67 := by kernel_rfl
noncomputable def L67 (X : Ctx) (hX : X.P = Tryz.prog) : Lowered X 67 ir67 rv67 53 where
  fn := Tryz.f67
  code := code67
  h := hi67
  mixed := by rw [hX]; exact Tryz.checked.mixed
  func := by rw [hX]; exact Tryz.func67
  name := by kernel_rfl
  body := by kernel_rfl
  size := Tryz.ntmps67
  low := by rw [hX]; exact low67
  res := by rw [hX]; kernel_rfl
/-- (*scribe/code.compiler).store -/
def ir68 : LC :=
  (.seq
   (.reg [⟨some 5, .box (.t 1), none⟩] [0, 2, 3, 5])
   (.seq
    (.reg [⟨some 12, .fld 0 (.t 5), none⟩,
      ⟨some 13, .load none (.t 12), none⟩] [0, 2, 3, 5, 13])
    (.block 0
     (.seq
      (.reg [⟨some 37, .bin .eql (.t 13) (.c (.str [118, 97, 114])), none⟩,
        ⟨some 36, .mov (.t 37), none⟩] [0, 2, 3, 5, 13, 36])
      (.cond (.t 36)
       (.seq
        (.reg [⟨some 38, .mov (.t 3), none⟩,
          ⟨some 39, .call (.t 38) [], none⟩] [0, 2, 5])
        (.seq
         (.reg [⟨some 41, .mov (.t 0), none⟩,
           ⟨some 42, .fld 1 (.t 5), none⟩,
           ⟨some 43, .load none (.t 42), none⟩,
           ⟨some 44, .call (.c (.func 41 [] [])) [(.t 41), (.t 43)], none⟩,
           ⟨some 40, .mov (.t 44), none⟩,
           ⟨some 45, .ext 0 (.t 40), none⟩,
           ⟨some 46, .ext 1 (.t 40), none⟩,
           ⟨some 8, .mov (.t 45), none⟩,
           ⟨some 9, .mov (.t 46), none⟩] [0, 2, 8, 9])
         (.reg [⟨some 47, .mov (.t 0), none⟩,
           ⟨some 48, .mov (.t 8), none⟩,
           ⟨some 49, .mov (.t 9), none⟩,
           ⟨some 50, .mov (.t 2), none⟩,
           ⟨some 51, .bin .mul (.c (.int .i64 2)) (.t 50), none⟩,
           ⟨some 52, .bin .add (.t 49) (.t 51), none⟩,
           ⟨some 53, .call (.c (.func 23 [] [])) [(.t 47), (.c (.int .i64 6)), (.t 48), (.t 52)], none⟩] [])))
       (.seq
        (.reg [⟨some 55, .bin .eql (.t 13) (.c (.str [102, 105, 101, 108, 100])), none⟩,
          ⟨some 54, .mov (.t 55), none⟩] [0, 2, 3, 5, 54])
        (.cond (.t 54)
         (.seq
          (.reg [⟨some 56, .mov (.t 0), none⟩,
            ⟨some 57, .fld 3 (.t 5), none⟩,
            ⟨some 58, .load none (.t 57), none⟩,
            ⟨some 59, .ixa 4 (.t 58) (.c (.int .i64 0)), none⟩,
            ⟨some 60, .load (some 4) (.t 59), none⟩,
            ⟨some 61, .call (.c (.func 36 [] [])) [(.t 56), (.t 60)], none⟩] [0, 2, 3])
          (.seq
           (.reg [⟨some 62, .mov (.t 3), none⟩,
             ⟨some 63, .call (.t 62) [], none⟩] [0, 2])
           (.reg [⟨some 64, .mov (.t 0), none⟩,
             ⟨some 65, .mov (.t 2), none⟩,
             ⟨some 66, .call (.c (.func 23 [] [])) [(.t 64), (.c (.int .i64 7)), (.c (.int .i64 0)), (.t 65)], none⟩] [])))
         (.seq
          (.reg [⟨some 14, .mov (.t 0), none⟩,
            ⟨some 15, .fld 3 (.t 5), none⟩,
            ⟨some 16, .load none (.t 15), none⟩,
            ⟨some 17, .ixa 4 (.t 16) (.c (.int .i64 0)), none⟩,
            ⟨some 18, .load (some 4) (.t 17), none⟩,
            ⟨some 19, .call (.c (.func 36 [] [])) [(.t 14), (.t 18)], none⟩] [0, 2, 3, 5])
          (.seq
           (.reg [⟨some 20, .mov (.t 3), none⟩,
             ⟨some 21, .call (.t 20) [], none⟩] [0, 2, 5])
           (.seq
            (.reg [⟨some 23, .mov (.t 0), none⟩,
              ⟨some 24, .fld 1 (.t 5), none⟩,
              ⟨some 25, .load none (.t 24), none⟩,
              ⟨some 26, .call (.c (.func 41 [] [])) [(.t 23), (.t 25)], none⟩,
              ⟨some 22, .mov (.t 26), none⟩,
              ⟨some 27, .ext 0 (.t 22), none⟩,
              ⟨some 28, .ext 1 (.t 22), none⟩,
              ⟨some 10, .mov (.t 27), none⟩,
              ⟨some 11, .mov (.t 28), none⟩] [0, 2, 10, 11])
            (.reg [⟨some 29, .mov (.t 0), none⟩,
              ⟨some 30, .mov (.t 10), none⟩,
              ⟨some 31, .mov (.t 11), none⟩,
              ⟨some 32, .mov (.t 2), none⟩,
              ⟨some 33, .bin .mul (.c (.int .i64 2)) (.t 32), none⟩,
              ⟨some 34, .bin .add (.t 31) (.t 33), none⟩,
              ⟨some 35, .call (.c (.func 23 [] [])) [(.t 29), (.c (.int .i64 8)), (.t 30), (.t 34)], none⟩] [])))))))))))
def rv68 : List RV := []
def hi68 : Hints := ⟨[], [], [(0, [0, 2, 3, 5]), (1, [0, 2, 3, 5, 13]), (6, [0, 2, 3, 5, 13, 36]), (10, [0, 2, 3, 5, 54]), (2, [0, 2, 3, 5]), (3, [0, 2, 5]), (4, [0, 2, 10, 11]), (5, []), (11, [0, 2, 3]), (12, [0, 2]), (13, []), (7, [0, 2, 5]), (8, [0, 2, 8, 9]), (9, [])]⟩
noncomputable def code68 : Code := Tryz.f68.body.getD .skip
theorem low68 : lowC Tryz.prog hi68 67 code68 = some ir68 := by kernel_rfl
noncomputable def L68 (X : Ctx) (hX : X.P = Tryz.prog) : Lowered X 68 ir68 rv68 67 where
  fn := Tryz.f68
  code := code68
  h := hi68
  mixed := by rw [hX]; exact Tryz.checked.mixed
  func := by rw [hX]; exact Tryz.func68
  name := by kernel_rfl
  body := by kernel_rfl
  size := Tryz.ntmps68
  low := by rw [hX]; exact low68
  res := by rw [hX]; kernel_rfl
/-- (*scribe/code.compiler).expr$1 -/
def ir69 : LC :=
  (.drw (.st [⟨some 2, .load none (.t 0), none⟩]
   (.st [⟨some 3, .fld 3 (.t 1), none⟩]
   (.st [⟨some 4, .load none (.t 3), none⟩]
   (.st [⟨some 5, .ixa 4 (.t 4) (.c (.int .i64 1)), none⟩]
   (.st [⟨some 6, .load (some 4) (.t 5), none⟩]
   (.st [⟨some 7, .call (.c (.func 36 [] [])) [(.t 2), (.t 6)], none⟩]
   .done)))))) [])
def rv69 : List RV := []
def hi69 : Hints := ⟨[], [], [(0, [])]⟩
noncomputable def code69 : Code := Tryz.f69.body.getD .skip
theorem low69 : lowC Tryz.prog hi69 8 code69 = some ir69 := by kernel_rfl
noncomputable def L69 (X : Ctx) (hX : X.P = Tryz.prog) : Lowered X 69 ir69 rv69 8 where
  fn := Tryz.f69
  code := code69
  h := hi69
  mixed := by rw [hX]; exact Tryz.checked.mixed
  func := by rw [hX]; exact Tryz.func69
  name := by kernel_rfl
  body := by kernel_rfl
  size := Tryz.ntmps69
  low := by rw [hX]; exact low69
  res := by rw [hX]; kernel_rfl
/-- (*scribe/code.checker).want -/
def ir75 : LC :=
  (.seq
   (.reg [⟨some 4, .box (.t 1), none⟩,
     ⟨some 5, .box (.t 2), none⟩,
     ⟨some 6, .mov (.c (.str [])), none⟩,
     ⟨some 7, .mov (.c (.str [])), none⟩,
     ⟨some 8, .mov (.c (.bool false)), none⟩] [0, 4, 5])
   (.seq
    (.reg [⟨some 12, .fld 2 (.t 5), none⟩,
      ⟨some 13, .load none (.t 12), none⟩,
      ⟨some 14, .bin .shr (.t 13) (.c (.int .u64 1)), none⟩,
      ⟨some 9, .mov (.t 14), none⟩] [0, 4, 5, 9])
    (.seq
     (.reg [⟨some 15, .mov (.t 9), none⟩,
       ⟨some 16, .bin .geq (.t 15) (.c (.int .i64 0)), none⟩,
       ⟨some 17, .mov (.t 16), none⟩,
       ⟨some 18, .mov (.t 9), some (17, true)⟩,
       ⟨some 19, .load none (.g 3), some (17, true)⟩,
       ⟨some 20, .len (.t 19), some (17, true)⟩,
       ⟨some 21, .bin .lss (.t 18) (.t 20), some (17, true)⟩,
       ⟨some 22, .pick (.t 17) (.t 21) (.c (.bool false)), none⟩,
       ⟨some 10, .mov (.t 22), none⟩] [0, 4, 5, 9, 10])
     (.seq
      (.reg [⟨some 11, .mov (.c (.str [118])), none⟩] [0, 4, 5, 9, 10, 11])
      (.seq
       (.seq
        (.reg [⟨some 23, .mov (.t 9), none⟩,
          ⟨some 24, .bin .gtr (.t 23) (.c (.int .i64 5)), none⟩] [0, 4, 5, 10, 11, 24])
        (.cond (.t 24)
         (.reg [⟨some 11, .mov (.c (.str [])), none⟩] [0, 4, 5, 10, 11])
         .skip))
       (.seq
        (.seq
         (.reg [⟨some 25, .fld 0 (.t 5), none⟩,
           ⟨some 26, .load none (.t 25), none⟩] [0, 4, 5, 10, 11, 26])
         (.block 0
          (.seq
           (.reg [⟨some 28, .bin .eql (.t 26) (.c (.int .i64 1)), none⟩,
             ⟨some 27, .mov (.t 28), none⟩] [0, 4, 5, 10, 11, 26, 27])
           (.cond (.t 27)
            (.seq
             (.drw (.st [⟨some 29, .fld 1 (.t 5), none⟩]
              (.st [⟨some 30, .load none (.t 29), none⟩]
              (.st [⟨some 31, .bin .geq (.t 30) (.c (.int .i64 0)), none⟩]
              (.st [⟨some 32, .mov (.t 31), none⟩]
              (.st [⟨some 33, .fld 1 (.t 5), some (32, true)⟩]
              (.st [⟨some 34, .load none (.t 33), some (32, true)⟩]
              (.st [⟨some 35, .mov (.t 0), some (32, true)⟩]
              (.st [⟨some 36, .nilck (.t 35), some (32, true)⟩]
              (.st [⟨some 37, .fld 0 (.t 36), some (32, true)⟩]
              (.st [⟨some 38, .load none (.t 37), some (32, true)⟩]
              (.st [⟨some 39, .nilck (.t 38), some (32, true)⟩]
              (.st [⟨some 40, .fld 1 (.t 39), some (32, true)⟩]
              (.st [⟨some 41, .load none (.t 40), some (32, true)⟩]
              (.st [⟨some 42, .len (.t 41), some (32, true)⟩]
              (.st [⟨some 43, .bin .lss (.t 34) (.t 42), some (32, true)⟩]
              (.st [⟨some 44, .pick (.t 32) (.t 43) (.c (.bool false)), none⟩]
              (.st [⟨some 6, .mov (.c (.str [])), none⟩]
              (.st [⟨some 7, .mov (.c (.str [118])), none⟩]
              (.st [⟨some 8, .mov (.t 44), none⟩]
              .done))))))))))))))))))) [6, 7, 8])
             .ret)
            (.seq
             (.reg [⟨some 46, .bin .eql (.t 26) (.c (.int .i64 2)), none⟩,
               ⟨some 45, .mov (.t 46), none⟩] [0, 4, 5, 10, 11, 26, 45])
             (.cond (.t 45)
              (.seq
               (.drw (.st [⟨some 47, .fld 1 (.t 5), none⟩]
                (.st [⟨some 48, .load none (.t 47), none⟩]
                (.st [⟨some 49, .bin .geq (.t 48) (.c (.int .i64 0)), none⟩]
                (.st [⟨some 50, .mov (.t 49), none⟩]
                (.st [⟨some 51, .fld 1 (.t 5), some (50, true)⟩]
                (.st [⟨some 52, .load none (.t 51), some (50, true)⟩]
                (.st [⟨some 53, .mov (.t 0), some (50, true)⟩]
                (.st [⟨some 54, .nilck (.t 53), some (50, true)⟩]
                (.st [⟨some 55, .fld 0 (.t 54), some (50, true)⟩]
                (.st [⟨some 56, .load none (.t 55), some (50, true)⟩]
                (.st [⟨some 57, .nilck (.t 56), some (50, true)⟩]
                (.st [⟨some 58, .fld 2 (.t 57), some (50, true)⟩]
                (.st [⟨some 59, .load none (.t 58), some (50, true)⟩]
                (.st [⟨some 60, .len (.t 59), some (50, true)⟩]
                (.st [⟨some 61, .bin .lss (.t 52) (.t 60), some (50, true)⟩]
                (.st [⟨some 62, .pick (.t 50) (.t 61) (.c (.bool false)), none⟩]
                (.st [⟨some 6, .mov (.c (.str [])), none⟩]
                (.st [⟨some 7, .mov (.c (.str [118])), none⟩]
                (.st [⟨some 8, .mov (.t 62), none⟩]
                .done))))))))))))))))))) [6, 7, 8])
               .ret)
              (.seq
               (.reg [⟨some 64, .bin .eql (.t 26) (.c (.int .i64 3)), none⟩,
                 ⟨some 63, .mov (.t 64), none⟩] [0, 4, 5, 10, 11, 26, 63])
               (.cond (.t 63)
                (.seq
                 (.reg [⟨some 65, .mov (.t 0), none⟩,
                   ⟨some 66, .fld 0 (.t 4), none⟩,
                   ⟨some 67, .load none (.t 66), none⟩,
                   ⟨some 68, .fld 1 (.t 5), none⟩,
                   ⟨some 69, .load none (.t 68), none⟩,
                   ⟨some 70, .fld 2 (.t 5), none⟩,
                   ⟨some 71, .load none (.t 70), none⟩,
                   ⟨some 72, .call (.c (.func 102 [] [])) [(.t 65), (.t 67), (.t 69), (.t 71), (.c (.bool false))], none⟩,
                   ⟨some 6, .mov (.c (.str [])), none⟩,
                   ⟨some 7, .mov (.c (.str [118])), none⟩,
                   ⟨some 8, .mov (.t 72), none⟩] [6, 7, 8])
                 .ret)
                (.seq
                 (.reg [⟨some 74, .bin .eql (.t 26) (.c (.int .i64 26)), none⟩,
                   ⟨some 73, .mov (.t 74), none⟩] [0, 4, 5, 10, 11, 26, 73])
                 (.cond (.t 73)
                  (.seq
                   (.reg [⟨some 6, .mov (.c (.str [])), none⟩,
                     ⟨some 7, .mov (.c (.str [118])), none⟩,
                     ⟨some 8, .mov (.c (.bool true)), none⟩] [6, 7, 8])
                   .ret)
                  (.seq
                   (.reg [⟨some 76, .bin .eql (.t 26) (.c (.int .i64 22)), none⟩,
                     ⟨some 75, .mov (.t 76), none⟩] [0, 4, 5, 10, 11, 26, 75])
                   (.cond (.t 75)
                    (.seq
                     (.reg [⟨some 77, .mov (.t 0), none⟩,
                       ⟨some 78, .fld 0 (.t 4), none⟩,
                       ⟨some 79, .load none (.t 78), none⟩,
                       ⟨some 80, .fld 1 (.t 5), none⟩,
                       ⟨some 81, .load none (.t 80), none⟩,
                       ⟨some 82, .fld 2 (.t 5), none⟩,
                       ⟨some 83, .load none (.t 82), none⟩,
                       ⟨some 84, .call (.c (.func 102 [] [])) [(.t 77), (.t 79), (.t 81), (.t 83), (.c (.bool true))], none⟩,
                       ⟨some 6, .mov (.c (.str [])), none⟩,
                       ⟨some 7, .mov (.c (.str [97])), none⟩,
                       ⟨some 8, .mov (.t 84), none⟩] [6, 7, 8])
                     .ret)
                    (.seq
                     (.seq
                      (.reg [⟨some 86, .bin .eql (.t 26) (.c (.int .i64 4)), none⟩,
                        ⟨some 85, .mov (.t 86), none⟩] [0, 4, 5, 10, 11, 26, 85])
                      (.cond (.t 85)
                       .skip
                       (.reg [⟨some 87, .bin .eql (.t 26) (.c (.int .i64 19)), none⟩,
                         ⟨some 85, .mov (.t 87), none⟩] [0, 4, 5, 10, 11, 26, 85])))
                     (.cond (.t 85)
                      (.seq
                       (.reg [⟨some 6, .mov (.c (.str [118])), none⟩,
                         ⟨some 7, .mov (.c (.str [118])), none⟩,
                         ⟨some 8, .mov (.c (.bool true)), none⟩] [6, 7, 8])
                       .ret)
                      (.seq
                       (.reg [⟨some 89, .bin .eql (.t 26) (.c (.int .i64 10)), none⟩,
                         ⟨some 88, .mov (.t 89), none⟩] [0, 4, 5, 10, 11, 26, 88])
                       (.cond (.t 88)
                        (.seq
                         (.drw (.st [⟨some 90, .fld 1 (.t 5), none⟩]
                          (.st [⟨some 91, .load none (.t 90), none⟩]
                          (.st [⟨some 92, .bin .geq (.t 91) (.c (.int .i64 0)), none⟩]
                          (.st [⟨some 93, .mov (.t 92), none⟩]
                          (.st [⟨some 94, .fld 1 (.t 5), some (93, true)⟩]
                          (.st [⟨some 95, .load none (.t 94), some (93, true)⟩]
                          (.st [⟨some 96, .load none (.g 4), some (93, true)⟩]
                          (.st [⟨some 97, .len (.t 96), some (93, true)⟩]
                          (.st [⟨some 98, .bin .lss (.t 95) (.t 97), some (93, true)⟩]
                          (.st [⟨some 99, .pick (.t 93) (.t 98) (.c (.bool false)), none⟩]
                          (.st [⟨some 6, .mov (.c (.str [118])), none⟩]
                          (.st [⟨some 7, .mov (.c (.str [118])), none⟩]
                          (.st [⟨some 8, .mov (.t 99), none⟩]
                          .done))))))))))))) [6, 7, 8])
                         .ret)
                        (.seq
                         (.reg [⟨some 101, .bin .eql (.t 26) (.c (.int .i64 9)), none⟩,
                           ⟨some 100, .mov (.t 101), none⟩] [0, 4, 5, 10, 11, 26, 100])
                         (.cond (.t 100)
                          (.seq
                           (.drw (.st [⟨some 102, .fld 1 (.t 5), none⟩]
                            (.st [⟨some 103, .load none (.t 102), none⟩]
                            (.st [⟨some 104, .bin .geq (.t 103) (.c (.int .i64 0)), none⟩]
                            (.st [⟨some 105, .mov (.t 104), none⟩]
                            (.st [⟨some 106, .fld 1 (.t 5), some (105, true)⟩]
                            (.st [⟨some 107, .load none (.t 106), some (105, true)⟩]
                            (.st [⟨some 108, .load none (.g 5), some (105, true)⟩]
                            (.st [⟨some 109, .len (.t 108), some (105, true)⟩]
                            (.st [⟨some 110, .bin .lss (.t 107) (.t 109), some (105, true)⟩]
                            (.st [⟨some 111, .pick (.t 105) (.t 110) (.c (.bool false)), none⟩]
                            (.st [⟨some 6, .mov (.c (.str [118, 118])), none⟩]
                            (.st [⟨some 7, .mov (.c (.str [118])), none⟩]
                            (.st [⟨some 8, .mov (.t 111), none⟩]
                            .done))))))))))))) [6, 7, 8])
                           .ret)
                          (.seq
                           (.reg [⟨some 113, .bin .eql (.t 26) (.c (.int .i64 11)), none⟩,
                             ⟨some 112, .mov (.t 113), none⟩] [0, 4, 5, 10, 11, 26, 112])
                           (.cond (.t 112)
                            (.seq
                             (.drw (.st [⟨some 114, .fld 1 (.t 5), none⟩]
                              (.st [⟨some 115, .load none (.t 114), none⟩]
                              (.st [⟨some 116, .bin .eql (.t 115) (.c (.int .i64 0)), none⟩]
                              (.st [⟨some 117, .mov (.t 116), none⟩]
                              (.st [⟨some 118, .fld 1 (.t 5), some (117, false)⟩]
                              (.st [⟨some 119, .load none (.t 118), some (117, false)⟩]
                              (.st [⟨some 120, .bin .eql (.t 119) (.c (.int .i64 1)), some (117, false)⟩]
                              (.st [⟨some 121, .pick (.t 117) (.c (.bool true)) (.t 120), none⟩]
                              (.st [⟨some 6, .mov (.c (.str [118, 118])), none⟩]
                              (.st [⟨some 7, .mov (.c (.str [118])), none⟩]
                              (.st [⟨some 8, .mov (.t 121), none⟩]
                              .done))))))))))) [6, 7, 8])
                             .ret)
                            (.seq
                             (.seq
                              (.reg [⟨some 123, .bin .eql (.t 26) (.c (.int .i64 5)), none⟩,
                                ⟨some 122, .mov (.t 123), none⟩] [0, 4, 5, 10, 11, 26, 122])
                              (.cond (.t 122)
                               .skip
                               (.reg [⟨some 124, .bin .eql (.t 26) (.c (.int .i64 12)), none⟩,
                                 ⟨some 122, .mov (.t 124), none⟩] [0, 4, 5, 10, 11, 26, 122])))
                             (.cond (.t 122)
                              (.seq
                               (.reg [⟨some 125, .mov (.t 0), none⟩,
                                 ⟨some 126, .fld 0 (.t 4), none⟩,
                                 ⟨some 127, .load none (.t 126), none⟩,
                                 ⟨some 128, .fld 1 (.t 5), none⟩,
                                 ⟨some 129, .load none (.t 128), none⟩,
                                 ⟨some 130, .fld 2 (.t 5), none⟩,
                                 ⟨some 131, .load none (.t 130), none⟩,
                                 ⟨some 132, .call (.c (.func 102 [] [])) [(.t 125), (.t 127), (.t 129), (.t 131), (.c (.bool true))], none⟩,
                                 ⟨some 6, .mov (.c (.str [118])), none⟩,
                                 ⟨some 7, .mov (.c (.str [118])), none⟩,
                                 ⟨some 8, .mov (.t 132), none⟩] [6, 7, 8])
                               .ret)
                              (.seq
                               (.reg [⟨some 134, .bin .eql (.t 26) (.c (.int .i64 6)), none⟩,
                                 ⟨some 133, .mov (.t 134), none⟩] [0, 4, 5, 10, 11, 26, 133])
                               (.cond (.t 133)
                                (.seq
                                 (.reg [⟨some 135, .mov (.t 11), none⟩,
                                   ⟨some 136, .mov (.t 10), none⟩,
                                   ⟨some 137, .mov (.t 136), none⟩,
                                   ⟨some 138, .mov (.t 0), some (137, true)⟩,
                                   ⟨some 139, .fld 0 (.t 4), some (137, true)⟩,
                                   ⟨some 140, .load none (.t 139), some (137, true)⟩,
                                   ⟨some 141, .fld 1 (.t 5), some (137, true)⟩,
                                   ⟨some 142, .load none (.t 141), some (137, true)⟩,
                                   ⟨some 143, .fld 2 (.t 5), some (137, true)⟩,
                                   ⟨some 144, .load none (.t 143), some (137, true)⟩,
                                   ⟨some 145, .bin .and (.t 144) (.c (.int .i64 1)), some (137, true)⟩,
                                   ⟨some 146, .call (.c (.func 102 [] [])) [(.t 138), (.t 140), (.t 142), (.t 145), (.c (.bool false))], some (137, true)⟩,
                                   ⟨some 147, .pick (.t 137) (.t 146) (.c (.bool false)), none⟩,
                                   ⟨some 6, .mov (.t 135), none⟩,
                                   ⟨some 7, .mov (.c (.str [118])), none⟩,
                                   ⟨some 8, .mov (.t 147), none⟩] [6, 7, 8])
                                 .ret)
                                (.seq
                                 (.reg [⟨some 149, .bin .eql (.t 26) (.c (.int .i64 8)), none⟩,
                                   ⟨some 148, .mov (.t 149), none⟩] [0, 4, 5, 10, 11, 26, 148])
                                 (.cond (.t 148)
                                  (.seq
                                   (.reg [⟨some 150, .mov (.t 11), none⟩,
                                     ⟨some 151, .bin .add (.c (.str [118])) (.t 150), none⟩,
                                     ⟨some 152, .mov (.t 10), none⟩,
                                     ⟨some 153, .mov (.t 152), none⟩,
                                     ⟨some 154, .mov (.t 0), some (153, true)⟩,
                                     ⟨some 155, .fld 0 (.t 4), some (153, true)⟩,
                                     ⟨some 156, .load none (.t 155), some (153, true)⟩,
                                     ⟨some 157, .fld 1 (.t 5), some (153, true)⟩,
                                     ⟨some 158, .load none (.t 157), some (153, true)⟩,
                                     ⟨some 159, .fld 2 (.t 5), some (153, true)⟩,
                                     ⟨some 160, .load none (.t 159), some (153, true)⟩,
                                     ⟨some 161, .bin .and (.t 160) (.c (.int .i64 1)), some (153, true)⟩,
                                     ⟨some 162, .call (.c (.func 102 [] [])) [(.t 154), (.t 156), (.t 158), (.t 161), (.c (.bool true))], some (153, true)⟩,
                                     ⟨some 163, .pick (.t 153) (.t 162) (.c (.bool false)), none⟩,
                                     ⟨some 6, .mov (.t 151), none⟩,
                                     ⟨some 7, .mov (.c (.str [118])), none⟩,
                                     ⟨some 8, .mov (.t 163), none⟩] [6, 7, 8])
                                   .ret)
                                  (.seq
                                   (.reg [⟨some 165, .bin .eql (.t 26) (.c (.int .i64 7)), none⟩,
                                     ⟨some 164, .mov (.t 165), none⟩] [0, 4, 5, 26, 164])
                                   (.cond (.t 164)
                                    (.seq
                                     (.seq
                                      (.reg [⟨some 166, .fld 2 (.t 5), none⟩,
                                        ⟨some 167, .load none (.t 166), none⟩,
                                        ⟨some 168, .bin .gtr (.t 167) (.c (.int .i64 5)), none⟩] [5, 168])
                                      (.cond (.t 168)
                                       (.seq
                                        (.drw (.st [⟨some 169, .fld 2 (.t 5), none⟩]
                                         (.st [⟨some 170, .load none (.t 169), none⟩]
                                         (.st [⟨some 171, .load none (.g 3), none⟩]
                                         (.st [⟨some 172, .len (.t 171), none⟩]
                                         (.st [⟨some 173, .bin .lss (.t 170) (.t 172), none⟩]
                                         (.st [⟨some 6, .mov (.c (.str [118])), none⟩]
                                         (.st [⟨some 7, .mov (.c (.str [118])), none⟩]
                                         (.st [⟨some 8, .mov (.t 173), none⟩]
                                         .done)))))))) [6, 7, 8])
                                        .ret)
                                       .skip))
                                     (.seq
                                      (.drw (.st [⟨some 174, .fld 2 (.t 5), none⟩]
                                       (.st [⟨some 175, .load none (.t 174), none⟩]
                                       (.st [⟨some 176, .bin .geq (.t 175) (.c (.int .i64 0)), none⟩]
                                       (.st [⟨some 6, .mov (.c (.str [118, 118])), none⟩]
                                       (.st [⟨some 7, .mov (.c (.str [118])), none⟩]
                                       (.st [⟨some 8, .mov (.t 176), none⟩]
                                       .done)))))) [6, 7, 8])
                                      .ret))
                                    (.seq
                                     (.reg [⟨some 178, .bin .eql (.t 26) (.c (.int .i64 13)), none⟩,
                                       ⟨some 177, .mov (.t 178), none⟩] [0, 4, 5, 26, 177])
                                     (.cond (.t 177)
                                      (.seq
                                       (.reg [⟨some 179, .mov (.t 0), none⟩,
                                         ⟨some 180, .fld 0 (.t 4), none⟩,
                                         ⟨some 181, .load none (.t 180), none⟩,
                                         ⟨some 182, .fld 1 (.t 5), none⟩,
                                         ⟨some 183, .load none (.t 182), none⟩,
                                         ⟨some 184, .fld 2 (.t 5), none⟩,
                                         ⟨some 185, .load none (.t 184), none⟩,
                                         ⟨some 186, .call (.c (.func 102 [] [])) [(.t 179), (.t 181), (.t 183), (.t 185), (.c (.bool true))], none⟩,
                                         ⟨some 6, .mov (.c (.str [118])), none⟩,
                                         ⟨some 7, .mov (.c (.str [])), none⟩,
                                         ⟨some 8, .mov (.t 186), none⟩] [6, 7, 8])
                                       .ret)
                                      (.seq
                                       (.reg [⟨some 188, .bin .eql (.t 26) (.c (.int .i64 14)), none⟩,
                                         ⟨some 187, .mov (.t 188), none⟩] [0, 4, 5, 26, 187])
                                       (.cond (.t 187)
                                        (.seq
                                         (.reg [⟨some 189, .mov (.t 0), none⟩,
                                           ⟨some 190, .fld 0 (.t 4), none⟩,
                                           ⟨some 191, .load none (.t 190), none⟩,
                                           ⟨some 192, .fld 1 (.t 5), none⟩,
                                           ⟨some 193, .load none (.t 192), none⟩,
                                           ⟨some 194, .fld 2 (.t 5), none⟩,
                                           ⟨some 195, .load none (.t 194), none⟩,
                                           ⟨some 196, .call (.c (.func 102 [] [])) [(.t 189), (.t 191), (.t 193), (.t 195), (.c (.bool true))], none⟩,
                                           ⟨some 6, .mov (.c (.str [])), none⟩,
                                           ⟨some 7, .mov (.c (.str [])), none⟩,
                                           ⟨some 8, .mov (.t 196), none⟩] [6, 7, 8])
                                         .ret)
                                        (.seq
                                         (.seq
                                          (.reg [⟨some 198, .bin .eql (.t 26) (.c (.int .i64 16)), none⟩,
                                            ⟨some 197, .mov (.t 198), none⟩] [0, 4, 5, 26, 197])
                                          (.cond (.t 197)
                                           .skip
                                           (.seq
                                            (.reg [⟨some 199, .bin .eql (.t 26) (.c (.int .i64 17)), none⟩,
                                              ⟨some 197, .mov (.t 199), none⟩] [0, 4, 5, 26, 197])
                                            (.cond (.t 197)
                                             .skip
                                             (.reg [⟨some 200, .bin .eql (.t 26) (.c (.int .i64 18)), none⟩,
                                               ⟨some 197, .mov (.t 200), none⟩] [0, 4, 5, 26, 197])))))
                                         (.cond (.t 197)
                                          (.seq
                                           (.reg [⟨some 6, .mov (.c (.str [118])), none⟩,
                                             ⟨some 7, .mov (.c (.str [])), none⟩,
                                             ⟨some 8, .mov (.c (.bool true)), none⟩] [6, 7, 8])
                                           .ret)
                                          (.seq
                                           (.reg [⟨some 202, .bin .eql (.t 26) (.c (.int .i64 20)), none⟩,
                                             ⟨some 201, .mov (.t 202), none⟩] [0, 4, 5, 26, 201])
                                           (.cond (.t 201)
                                            (.seq
                                             (.reg [⟨some 6, .mov (.c (.str [118])), none⟩,
                                               ⟨some 7, .mov (.c (.str [118, 118])), none⟩,
                                               ⟨some 8, .mov (.c (.bool true)), none⟩] [6, 7, 8])
                                             .ret)
                                            (.seq
                                             (.reg [⟨some 204, .bin .eql (.t 26) (.c (.int .i64 25)), none⟩,
                                               ⟨some 203, .mov (.t 204), none⟩] [0, 4, 5, 26, 203])
                                             (.cond (.t 203)
                                              (.seq
                                               (.drw (.st [⟨some 205, .fld 1 (.t 5), none⟩]
                                                (.st [⟨some 206, .load none (.t 205), none⟩]
                                                (.st [⟨some 207, .bin .eql (.t 206) (.c (.int .i64 0)), none⟩]
                                                (.st [⟨some 208, .mov (.t 207), none⟩]
                                                (.st [⟨some 209, .fld 1 (.t 5), some (208, false)⟩]
                                                (.st [⟨some 210, .load none (.t 209), some (208, false)⟩]
                                                (.st [⟨some 211, .bin .eql (.t 210) (.c (.int .i64 1)), some (208, false)⟩]
                                                (.st [⟨some 212, .pick (.t 208) (.c (.bool true)) (.t 211), none⟩]
                                                (.st [⟨some 6, .mov (.c (.str [118, 118, 118])), none⟩]
                                                (.st [⟨some 7, .mov (.c (.str [118])), none⟩]
                                                (.st [⟨some 8, .mov (.t 212), none⟩]
                                                .done))))))))))) [6, 7, 8])
                                               .ret)
                                              (.seq
                                               (.reg [⟨some 214, .bin .eql (.t 26) (.c (.int .i64 23)), none⟩,
                                                 ⟨some 213, .mov (.t 214), none⟩] [0, 4, 5, 26, 213])
                                               (.cond (.t 213)
                                                (.seq
                                                 (.drw (.st [⟨some 215, .fld 0 (.t 4), none⟩]
                                                  (.st [⟨some 216, .load none (.t 215), none⟩]
                                                  (.st [⟨some 217, .bin .gtr (.t 216) (.c (.int .i64 2)), none⟩]
                                                  (.st [⟨some 6, .mov (.c (.str [118])), none⟩]
                                                  (.st [⟨some 7, .mov (.c (.str [])), none⟩]
                                                  (.st [⟨some 8, .mov (.t 217), none⟩]
                                                  .done)))))) [6, 7, 8])
                                                 .ret)
                                                (.seq
                                                 (.seq
                                                  (.reg [⟨some 219, .bin .eql (.t 26) (.c (.int .i64 15)), none⟩,
                                                    ⟨some 218, .mov (.t 219), none⟩] [0, 4, 5, 26, 218])
                                                  (.cond (.t 218)
                                                   .skip
                                                   (.seq
                                                    (.reg [⟨some 220, .bin .eql (.t 26) (.c (.int .i64 31)), none⟩,
                                                      ⟨some 218, .mov (.t 220), none⟩] [0, 4, 5, 26, 218])
                                                    (.cond (.t 218)
                                                     .skip
                                                     (.seq
                                                      (.reg [⟨some 221, .bin .eql (.t 26) (.c (.int .i64 30)), none⟩,
                                                        ⟨some 218, .mov (.t 221), none⟩] [0, 4, 5, 26, 218])
                                                      (.cond (.t 218)
                                                       .skip
                                                       (.seq
                                                        (.reg [⟨some 222, .bin .eql (.t 26) (.c (.int .i64 32)), none⟩,
                                                          ⟨some 218, .mov (.t 222), none⟩] [0, 4, 5, 26, 218])
                                                        (.cond (.t 218)
                                                         .skip
                                                         (.reg [⟨some 223, .bin .eql (.t 26) (.c (.int .i64 34)), none⟩,
                                                           ⟨some 218, .mov (.t 223), none⟩] [0, 4, 5, 26, 218])))))))))
                                                 (.cond (.t 218)
                                                  (.seq
                                                   (.reg [⟨some 6, .mov (.c (.str [])), none⟩,
                                                     ⟨some 7, .mov (.c (.str [])), none⟩,
                                                     ⟨some 8, .mov (.c (.bool true)), none⟩] [6, 7, 8])
                                                   .ret)
                                                  (.seq
                                                   (.reg [⟨some 225, .bin .eql (.t 26) (.c (.int .i64 29)), none⟩,
                                                     ⟨some 224, .mov (.t 225), none⟩] [0, 4, 5, 224])
                                                   (.cond (.t 224)
                                                    (.seq
                                                     (.reg [⟨some 226, .mov (.t 0), none⟩,
                                                       ⟨some 227, .fld 0 (.t 4), none⟩,
                                                       ⟨some 228, .load none (.t 227), none⟩,
                                                       ⟨some 229, .fld 1 (.t 5), none⟩,
                                                       ⟨some 230, .load none (.t 229), none⟩,
                                                       ⟨some 231, .fld 2 (.t 5), none⟩,
                                                       ⟨some 232, .load none (.t 231), none⟩,
                                                       ⟨some 233, .call (.c (.func 102 [] [])) [(.t 226), (.t 228), (.t 230), (.t 232), (.c (.bool true))], none⟩,
                                                       ⟨some 6, .mov (.c (.str [])), none⟩,
                                                       ⟨some 7, .mov (.c (.str [])), none⟩,
                                                       ⟨some 8, .mov (.t 233), none⟩] [6, 7, 8])
                                                     .ret)
                                                    .skip))))))))))))))))))))))))))))))))))))))))))))
        (.seq
         (.reg [⟨some 234, .mov (.t 0), none⟩,
           ⟨some 235, .load (some 3) (.t 5), none⟩,
           ⟨some 236, .call (.c (.func 103 [] [])) [(.t 234), (.t 235)], none⟩,
           ⟨some 237, .ext 0 (.t 236), none⟩,
           ⟨some 238, .ext 1 (.t 236), none⟩,
           ⟨some 239, .ext 2 (.t 236), none⟩,
           ⟨some 6, .mov (.t 237), none⟩,
           ⟨some 7, .mov (.t 238), none⟩,
           ⟨some 8, .mov (.t 239), none⟩] [6, 7, 8])
         .ret)))))))
def rv75 : List RV := [.t 6, .t 7, .t 8]
def hi75 : Hints := ⟨[], [], [(0, [0, 4, 5]), (1, [0, 4, 5, 9]), (2, [0, 4, 5, 9, 10]), (3, [0, 4, 5, 9, 10, 11]), (4, [0, 4, 5, 10, 11, 24]), (5, [0, 4, 5, 10, 11]), (6, [0, 4, 5, 10, 11, 26]), (7, [0, 4, 5, 10, 11, 26, 27]), (9, [0, 4, 5, 10, 11, 26, 45]), (11, [0, 4, 5, 10, 11, 26, 63]), (13, [0, 4, 5, 10, 11, 26, 73]), (15, [0, 4, 5, 10, 11, 26, 75]), (17, [0, 4, 5, 10, 11, 26, 85]), (18, [0, 4, 5, 10, 11, 26, 85]), (20, [0, 4, 5, 10, 11, 26, 88]), (22, [0, 4, 5, 10, 11, 26, 100]), (24, [0, 4, 5, 10, 11, 26, 112]), (26, [0, 4, 5, 10, 11, 26, 122]), (27, [0, 4, 5, 10, 11, 26, 122]), (29, [0, 4, 5, 10, 11, 26, 133]), (31, [0, 4, 5, 10, 11, 26, 148]), (33, [0, 4, 5, 26, 164]), (37, [0, 4, 5, 26, 177]), (39, [0, 4, 5, 26, 187]), (41, [0, 4, 5, 26, 197]), (42, [0, 4, 5, 26, 197]), (43, [0, 4, 5, 26, 197]), (45, [0, 4, 5, 26, 201]), (47, [0, 4, 5, 26, 203]), (49, [0, 4, 5, 26, 213]), (51, [0, 4, 5, 26, 218]), (52, [0, 4, 5, 26, 218]), (53, [0, 4, 5, 26, 218]), (54, [0, 4, 5, 26, 218]), (55, [0, 4, 5, 26, 218]), (57, [0, 4, 5, 224]), (58, [6, 7, 8]), (56, [6, 7, 8]), (50, [6, 7, 8]), (48, [6, 7, 8]), (46, [6, 7, 8]), (44, [6, 7, 8]), (40, [6, 7, 8]), (38, [6, 7, 8]), (34, [5, 168]), (35, [6, 7, 8]), (36, [6, 7, 8]), (32, [6, 7, 8]), (30, [6, 7, 8]), (28, [6, 7, 8]), (25, [6, 7, 8]), (23, [6, 7, 8]), (21, [6, 7, 8]), (19, [6, 7, 8]), (16, [6, 7, 8]), (14, [6, 7, 8]), (12, [6, 7, 8]), (10, [6, 7, 8]), (8, [6, 7, 8]), (59, [6, 7, 8])]⟩
noncomputable def code75 : Code := Tryz.f75.body.getD .skip
theorem low75 : lowC Tryz.prog hi75 240 code75 = some ir75 := by kernel_rfl
noncomputable def L75 (X : Ctx) (hX : X.P = Tryz.prog) : Lowered X 75 ir75 rv75 240 where
  fn := Tryz.f75
  code := code75
  h := hi75
  mixed := by rw [hX]; exact Tryz.checked.mixed
  func := by rw [hX]; exact Tryz.func75
  name := by kernel_rfl
  body := by kernel_rfl
  size := Tryz.ntmps75
  low := by rw [hX]; exact low75
  res := by rw [hX]; kernel_rfl

end Go.Proofs.YtagjgpkomcmkbaaGreatDoor
